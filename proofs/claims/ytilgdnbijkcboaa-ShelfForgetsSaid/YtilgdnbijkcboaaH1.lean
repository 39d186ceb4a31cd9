/- Texts of this claim, in order: Fn Gtable Ba Bb Gdig Dh Bh Bc Gword SWb SMh0 Gslot SZa SZb SZc SZd SZe SZf. -/
import Derived.Test.YtilgdnbijkcboaaL4
import Derived.Test.YtilgdnbijkcboaaProg
import Derived.KernelRfl
/- The numbers of functions and types, by name. -/
namespace Go.Proofs.Ytilgdnbijkcboaa
open Go AVL
set_option linter.unusedVariables false
set_option maxRecDepth 20000

abbrev F_law11_TableDoes : FuncId := 3
abbrev F_law11_TableOne : FuncId := 4
abbrev F_law11_TableForgets : FuncId := 5
abbrev F_law11_TableReads : FuncId := 6
abbrev F_law08_SuperPuts : FuncId := 7
abbrev F_law08_SuperBack : FuncId := 8
abbrev F_law08_SuperBumps : FuncId := 9
abbrev F_law12_ShelfBack : FuncId := 10
abbrev F_law12_ShelfReads : FuncId := 11
abbrev F_law12_ShelfForgets : FuncId := 12
abbrev F_law11_works : FuncId := 13
abbrev F_law11_made : FuncId := 14
abbrev F_law11_size : FuncId := 15
abbrev F_Ptable_Table_Size : FuncId := 16
abbrev F_Ptable_Table_Get : FuncId := 17
abbrev F_ref11_Find : FuncId := 18
abbrev F_Ptable_Table_Slot : FuncId := 19
abbrev F_ref11_Same : FuncId := 20
abbrev F_Ptable_Table_Places : FuncId := 21
abbrev F_ref11_Places : FuncId := 22
abbrev F_Ptable_Table_Put : FuncId := 23
abbrev F_Ptable_Table_Drop : FuncId := 24
abbrev F_table_Of : FuncId := 25
abbrev F_ref11_Entries : FuncId := 26
abbrev F_Ptable_Table_Copy : FuncId := 27
abbrev F_Ptable_Table_Len : FuncId := 28
abbrev F_Ptable_Table_Longest : FuncId := 29
abbrev F_super_Put : FuncId := 30
abbrev F_ref08_Put : FuncId := 31
abbrev F_super_Get : FuncId := 32
abbrev F_ref08_Get : FuncId := 33
abbrev F_super_Choose : FuncId := 34
abbrev F_ref08_Choose : FuncId := 35
abbrev F_law08_works : FuncId := 36
abbrev F_disk_New : FuncId := 37
abbrev F_Pdisk_Disk_Write : FuncId := 38
abbrev F_Pdisk_Disk_Flush : FuncId := 39
abbrev F_Pdisk_Disk_Fuse : FuncId := 40
abbrev F_super_Bump : FuncId := 41
abbrev F_Pdisk_Disk_Crash : FuncId := 42
abbrev F_super_Read : FuncId := 43
abbrev F_law12_works : FuncId := 44
abbrev F_table_New : FuncId := 45
abbrev F_ref11_Put : FuncId := 46
abbrev F_shelf_Put : FuncId := 47
abbrev F_shelf_Changes : FuncId := 48
abbrev F_ref06_SameImage : FuncId := 49
abbrev F_ref12_Sectors : FuncId := 50
abbrev F_shelf_Get : FuncId := 51
abbrev F_ref12_Read : FuncId := 52
abbrev F_law11_at : FuncId := 53
abbrev F_ref11_Drop : FuncId := 54
abbrev F_Ptable_Table_find : FuncId := 55
abbrev F_ref11_lay : FuncId := 56
abbrev F_digest_Home : FuncId := 57
abbrev F_Ptable_Table_yields : FuncId := 58
abbrev F_Ptable_Table_far : FuncId := 59
abbrev F_plan_Check : FuncId := 60
abbrev F_super_mark : FuncId := 61
abbrev F_word_Put : FuncId := 62
abbrev F_word_Whole : FuncId := 63
abbrev F_crc_Sealed : FuncId := 64
abbrev F_ref07_Check : FuncId := 65
abbrev F_ref01_Put : FuncId := 66
abbrev F_ref08_Sealed : FuncId := 67
abbrev F_crc_Holds : FuncId := 68
abbrev F_word_From : FuncId := 69
abbrev F_Pword_Cursor_Num : FuncId := 70
abbrev F_Pword_Cursor_Rest : FuncId := 71
abbrev F_ref01_Get : FuncId := 72
abbrev F_ref08_num : FuncId := 73
abbrev F_Pdisk_Disk_Waits : FuncId := 74
abbrev F_Pdisk_Disk_inside : FuncId := 75
abbrev F_Pdisk_Disk_step : FuncId := 76
abbrev F_Pdisk_Disk_settle : FuncId := 77
abbrev F_Pdisk_Disk_Flush_1 : FuncId := 78
abbrev F_Pdisk_Disk_Crash_1 : FuncId := 79
abbrev F_Pdisk_Disk_Read : FuncId := 80
abbrev F_ref11_right : FuncId := 81
abbrev F_ref11_less : FuncId := 82
abbrev F_shelf_sector : FuncId := 83
abbrev F_shelf_entries : FuncId := 84
abbrev F_ref12_one : FuncId := 85
abbrev F_ref03_Home : FuncId := 86
abbrev F_ref11_goes : FuncId := 87
abbrev F_digest_Less : FuncId := 88
abbrev F_crc_Four : FuncId := 89
abbrev F_crc_Of : FuncId := 90
abbrev F_ref07_right : FuncId := 91
abbrev F_ref02_Of : FuncId := 92
abbrev F_word_Get : FuncId := 93
abbrev F_Pword_Cursor_Bytes : FuncId := 94
abbrev F_word_Zero : FuncId := 95
abbrev F_shelf_entry : FuncId := 96
abbrev F_ref11_far : FuncId := 97
abbrev F_crc_More : FuncId := 98
abbrev F_ref02_bits : FuncId := 99
abbrev F_crc_turn : FuncId := 100
abbrev F_Pruntime_TypeAssertionError_Error : FuncId := 109
abbrev F_Pruntime_TypeAssertionError_RuntimeError : FuncId := 110
abbrev F_Pruntime_PanicNilError_Error : FuncId := 111
abbrev F_Pruntime_PanicNilError_RuntimeError : FuncId := 112
abbrev F_Pinternal_abi_Type_Align : FuncId := 113
abbrev F_internal_runtime_maps_unhashableTypeError_Error : FuncId := 114
abbrev F_internal_runtime_maps_unhashableTypeError_RuntimeError : FuncId := 115
abbrev F_Pdisk_Disk_Down : FuncId := 116
abbrev F_internal_abi_Kind_String : FuncId := 117
abbrev T_fno_c : TypeId := 1
abbrev T_int64 : TypeId := 2
abbrev T_int : TypeId := 3
abbrev T_bool : TypeId := 4
abbrev T_uint8 : TypeId := 5
abbrev T_string : TypeId := 9
abbrev T_uintptr : TypeId := 12
abbrev T_P_runtime_TypeAssertionError : TypeId := 15
abbrev T_P_runtime_PanicNilError : TypeId := 16
abbrev T_P_abi_Type : TypeId := 17
abbrev T_interface : TypeId := 20
abbrev T_int32 : TypeId := 21
abbrev T_L_law11_Op : TypeId := 22
abbrev T_32_uint8 : TypeId := 23
abbrev T_fno_c_bool : TypeId := 24
abbrev T_P_table_Table : TypeId := 25
abbrev T_L_api_Entry : TypeId := 26
abbrev T_P_table_Table_L_api_Entry_bool : TypeId := 27
abbrev T_fno_uint8_c_int : TypeId := 29
abbrev T_fno_c_int : TypeId := 30
abbrev T_api_Entry : TypeId := 32
abbrev T_api_Entry_bool : TypeId := 33
abbrev T_fno_32_uint8_c_o_api_Entry_bool_c : TypeId := 34
abbrev T_fno_L_api_Entry_32_uint8_c_int : TypeId := 35
abbrev T_fno_int_c_o_api_Entry_bool_c : TypeId := 36
abbrev T_fno_uint8_L_law11_Op_32_uint8_int_c_bool : TypeId := 37
abbrev T_fno_L_api_Entry_L_api_Entry_c_bool : TypeId := 38
abbrev T_fno_c_L_api_Entry : TypeId := 39
abbrev T_fno_L_api_Entry_int_c_L_api_Entry : TypeId := 40
abbrev T_fno_uint8_L_law11_Op_c_bool : TypeId := 41
abbrev T_api_Code : TypeId := 42
abbrev T_fno_api_Entry_c_api_Code : TypeId := 43
abbrev T_fno_32_uint8_c_api_Code : TypeId := 44
abbrev T_fno_uint8_L_law11_Op_L_api_Entry_uint8_c_bool : TypeId := 45
abbrev T_P_table_Table_bool : TypeId := 46
abbrev T_fno_L_api_Entry_c_o_P_table_Table_bool_c : TypeId := 47
abbrev T_L_api_Entry_bool : TypeId := 48
abbrev T_fno_L_api_Entry_c_o_L_api_Entry_bool_c : TypeId := 49
abbrev T_fno_c_P_table_Table : TypeId := 50
abbrev T_fno_L_api_Entry_api_Entry_c_bool : TypeId := 51
abbrev T_api_Plan : TypeId := 53
abbrev T_256_uint8 : TypeId := 54
abbrev T_256_uint8_api_Code : TypeId := 55
abbrev T_fno_super_Super_c_o_256_uint8_api_Code_c : TypeId := 56
abbrev T_super_Super : TypeId := 58
abbrev T_fno_ref08_Super_c_o_256_uint8_api_Code_c : TypeId := 59
abbrev T_ref08_Super : TypeId := 60
abbrev T_super_Super_api_Code : TypeId := 61
abbrev T_fno_256_uint8_c_o_super_Super_api_Code_c : TypeId := 62
abbrev T_ref08_Super_api_Code : TypeId := 63
abbrev T_fno_256_uint8_c_o_ref08_Super_api_Code_c : TypeId := 64
abbrev T_super_Super_int_api_Code : TypeId := 65
abbrev T_fno_256_uint8_256_uint8_c_o_super_Super_int_api_Code_c : TypeId := 66
abbrev T_ref08_Super_int_api_Code : TypeId := 67
abbrev T_fno_api_Plan_int_256_uint8_256_uint8_c_bool : TypeId := 69
abbrev T_uint16 : TypeId := 70
abbrev T_uint32 : TypeId := 71
abbrev T_uint : TypeId := 72
abbrev T_fno_api_Plan_int_uint16_uint32_c_bool : TypeId := 73
abbrev T_L_uint8 : TypeId := 74
abbrev T_L_bool : TypeId := 75
abbrev T_P_disk_Disk : TypeId := 76
abbrev T_P_disk_Disk_api_Code : TypeId := 77
abbrev T_fno_int_c_o_P_disk_Disk_api_Code_c : TypeId := 78
abbrev T_fno_int_256_uint8_c_api_Code : TypeId := 79
abbrev T_fno_c_api_Code : TypeId := 80
abbrev T_fno_int_c : TypeId := 81
abbrev T_fno_P_disk_Disk_c_o_super_Super_api_Code_c : TypeId := 82
abbrev T_fno_L_bool_c_int : TypeId := 83
abbrev T_fno_P_disk_Disk_c_o_super_Super_int_api_Code_c : TypeId := 84
abbrev T_fno_api_Plan_int_L_uint8_L_bool_c_bool : TypeId := 85
abbrev T_P_table_Table_api_Code : TypeId := 86
abbrev T_fno_int_c_o_P_table_Table_api_Code_c : TypeId := 87
abbrev T_L_api_Entry_api_Code : TypeId := 88
abbrev T_fno_L_api_Entry_int_api_Entry_c_o_L_api_Entry_api_Code_c : TypeId := 89
abbrev T_L_256_uint8 : TypeId := 90
abbrev T_L_256_uint8_api_Code : TypeId := 91
abbrev T_fno_P_table_Table_c_o_L_256_uint8_api_Code_c : TypeId := 92
abbrev T_L_api_Change : TypeId := 93
abbrev T_L_api_Change_api_Code : TypeId := 94
abbrev T_fno_P_table_Table_int_c_o_L_api_Change_api_Code_c : TypeId := 95
abbrev T_fno_L_256_uint8_L_256_uint8_c_bool : TypeId := 96
abbrev T_fno_L_api_Entry_c_L_256_uint8 : TypeId := 97
abbrev T_api_Change : TypeId := 99
abbrev T_fno_L_256_uint8_c_o_P_table_Table_api_Code_c : TypeId := 100
abbrev T_fno_L_api_Entry_uint8_int_c_bool : TypeId := 101
abbrev T_fno_L_256_uint8_c_o_L_api_Entry_bool_c : TypeId := 102
abbrev T_fno_L_256_uint8_c_bool : TypeId := 103
abbrev T_fno_uint8_uint8_c_32_uint8 : TypeId := 104
abbrev T_law11_Op : TypeId := 106
abbrev T_fno_L_api_Entry_32_uint8_c_o_L_api_Entry_api_Code_c : TypeId := 107
abbrev T_table_Table : TypeId := 109
abbrev T_fno_32_uint8_c_int : TypeId := 110
abbrev T_fno_L_api_Entry_api_Entry_c_L_api_Entry : TypeId := 111
abbrev T_fno_32_uint8_int_c_int : TypeId := 112
abbrev T_fno_int_32_uint8_int_c_bool : TypeId := 113
abbrev T_fno_int_c_int : TypeId := 114
abbrev T_fno_api_Plan_c_api_Code : TypeId := 115
abbrev T_8_uint8 : TypeId := 116
abbrev T_fno_c_8_uint8 : TypeId := 117
abbrev T_4_int : TypeId := 118
abbrev T_fno_uint64_int_c_L_uint8 : TypeId := 119
abbrev T_uint64 : TypeId := 120
abbrev T_fno_L_uint8_c_256_uint8 : TypeId := 121
abbrev T_fno_L_uint8_c_L_uint8 : TypeId := 122
abbrev T_fno_L_uint8_c_bool : TypeId := 123
abbrev T_P_word_Cursor : TypeId := 124
abbrev T_fno_L_uint8_c_P_word_Cursor : TypeId := 125
abbrev T_fno_int_c_uint64 : TypeId := 126
abbrev T_fno_L_uint8_c_uint64 : TypeId := 127
abbrev T_fno_256_uint8_int_c_int : TypeId := 128
abbrev T_map_int_256_uint8 : TypeId := 129
abbrev T_L_disk_write : TypeId := 130
abbrev T_disk_Disk : TypeId := 132
abbrev T_fno_int_c_bool : TypeId := 133
abbrev T_disk_write : TypeId := 135
abbrev T_fno_funco_int_c_bool_c_int : TypeId := 136
abbrev T_fno_int_c_o_256_uint8_api_Code_c : TypeId := 137
abbrev T_fno_api_Entry_c_bool : TypeId := 138
abbrev T_fno_32_uint8_32_uint8_c_bool : TypeId := 139
abbrev T_fno_L_api_Entry_c_256_uint8 : TypeId := 140
abbrev T_fno_256_uint8_c_o_L_api_Entry_bool_c : TypeId := 141
abbrev T_fno_256_uint8_int_c_api_Entry : TypeId := 142
abbrev T_fno_32_uint8_32_uint8_int_int_c_bool : TypeId := 143
abbrev T_2_int : TypeId := 144
abbrev T_4_2_int : TypeId := 145
abbrev T_4_uint8 : TypeId := 146
abbrev T_fno_uint32_c_4_uint8 : TypeId := 147
abbrev T_fno_L_uint8_c_uint32 : TypeId := 148
abbrev T_fno_api_Plan_c_bool : TypeId := 149
abbrev T_word_Cursor : TypeId := 151
abbrev T_fno_int_c_L_uint8 : TypeId := 152
abbrev T_256_uint8_bool : TypeId := 153
abbrev T_fno_api_Entry_c_L_uint8 : TypeId := 154
abbrev T_fno_32_uint8_int_int_c_int : TypeId := 155
abbrev T_fno_uint32_L_uint8_c_uint32 : TypeId := 156
abbrev T_fno_uint32_uint8_c_uint32 : TypeId := 157
abbrev T_fno_c_string : TypeId := 158
abbrev T_0_P_runtime_PanicNilError : TypeId := 161
abbrev T_fno_unsafe_Pointer_unsafe_Pointer_c_bool : TypeId := 166
abbrev T_P_uint8 : TypeId := 167
end Go.Proofs.Ytilgdnbijkcboaa

/- Abstract programs; that they are the program's. -/
namespace Go.Proofs.Ytilgdnbijkcboaa
open Go AVL
set_option linter.unusedVariables false
set_option maxRecDepth 20000

def q_table_Of_0 : List AOper := [
  ⟨(some 2), (.mv (.v .nilP)), none⟩,
  ⟨(some 3), (.mv (.v (.bool false))), none⟩]
def q_table_Of_1 : List AOper := [
  ⟨(some 13), (.mv (.t 0)), none⟩,
  ⟨(some 14), (.len false (.t 13)), none⟩,
  ⟨(some 15), (.call F_table_New [(.sc, (.t 14))]), none⟩,
  ⟨(some 12), (.mv (.t 15)), none⟩,
  ⟨(some 16), (.ext 0 (.t 12)), none⟩,
  ⟨(some 17), (.ext 1 (.t 12)), none⟩,
  ⟨(some 4), (.mv (.t 16)), none⟩,
  ⟨(some 5), (.mv (.t 17)), none⟩]
def q_table_Of_2 : List AOper := [
  ⟨(some 18), (.mv (.t 5)), none⟩,
  ⟨(some 19), (.eq .scI true (.t 18) (.v (.int .i64 0))), none⟩]
def q_table_Of_3 : List AOper := [
  ⟨(some 2), (.mv (.v .nilP)), none⟩,
  ⟨(some 3), (.mv (.v (.bool false))), none⟩]
def q_table_Of_4 : List AOper := [
  ⟨(some 20), (.mv (.t 0)), none⟩,
  ⟨(some 21), (.len false (.t 20)), none⟩,
  ⟨(some 22), (.mv (.v (.int .i64 0))), none⟩]
def q_table_Of_5 : List AOper := [
  ⟨(some 23), (.bin .lss (.t 22) (.t 21)), none⟩]
def q_table_Of_6 : List AOper := [
  ⟨(some 24), (.idx 34 (.t 20) (.t 22)), none⟩,
  ⟨(some 25), (.load .ag 34 (.t 24)), none⟩,
  ⟨(some 7), (.alloc 32 [(.iarr .u8 32 (List.replicate 32 0)), (.int .i64 0), (.int .i64 0)]), none⟩,
  ⟨none, (.store .ag 34 (.t 7) (.t 25)), none⟩]
def q_table_Of_7 : List AOper := [
  ⟨(some 26), (.fadr 33 1 .sc (.t 7)), none⟩,
  ⟨(some 27), (.load .sc 1 (.t 26)), none⟩,
  ⟨(some 28), (.eq .scI false (.t 27) (.v (.int .i64 0))), none⟩]
def q_table_Of_8 : List AOper := [
  ⟨(some 29), (.load .ag 34 (.t 7)), none⟩,
  ⟨(some 30), (.build .ag [(.iarr .u8 32 (List.replicate 32 0)), (.int .i64 0), (.int .i64 0)] []), none⟩,
  ⟨(some 31), (.eq (.st [(0, (32, ((.ia .u8 32), (.ia 32)))), (32, (1, (.sc, .scI))), (33, (1, (.sc, .scI)))]) true (.t 29) (.t 30)), none⟩]
def q_table_Of_9 : List AOper := [
  ⟨(some 2), (.mv (.v .nilP)), none⟩,
  ⟨(some 3), (.mv (.v (.bool false))), none⟩]
def q_table_Of_10 : List AOper := [
  ⟨(some 33), (.mv (.t 4)), none⟩,
  ⟨(some 34), (.fadr 0 32 (.ia .u8 32) (.t 7)), none⟩,
  ⟨(some 35), (.load (.ia .u8 32) 32 (.t 34)), none⟩,
  ⟨(some 36), (.call F_Ptable_Table_Get [(.sc, (.t 33)), ((.ia .u8 32), (.t 35))]), none⟩,
  ⟨(some 32), (.mv (.t 36)), none⟩,
  ⟨(some 37), (.ext 0 (.t 32)), none⟩,
  ⟨(some 38), (.ext 1 (.t 32)), none⟩,
  ⟨(some 8), (.alloc 32 [(.iarr .u8 32 (List.replicate 32 0)), (.int .i64 0), (.int .i64 0)]), none⟩,
  ⟨none, (.store .ag 34 (.t 8) (.t 37)), none⟩,
  ⟨(some 9), (.mv (.t 38)), none⟩]
def q_table_Of_11 : List AOper := [
  ⟨(some 39), (.mv (.t 9)), none⟩,
  ⟨(some 40), (.mv (.t 39)), none⟩,
  ⟨(some 41), (.mv (.t 4)), (some (40, false))⟩,
  ⟨(some 42), (.load .ag 34 (.t 7)), (some (40, false))⟩,
  ⟨(some 43), (.call F_Ptable_Table_Put [(.sc, (.t 41)), (.ag, (.t 42))]), (some (40, false))⟩,
  ⟨(some 44), (.eq .scI true (.t 43) (.v (.int .i64 0))), (some (40, false))⟩,
  ⟨(some 45), (.pick (.t 40) (.v (.bool true)) (.t 44)), none⟩]
def q_table_Of_12 : List AOper := [
  ⟨(some 2), (.mv (.v .nilP)), none⟩,
  ⟨(some 3), (.mv (.v (.bool false))), none⟩]
def q_table_Of_13 : List AOper := [
  ⟨(some 46), (.bin .add (.t 22) (.v (.int .i64 1))), none⟩,
  ⟨(some 22), (.mv (.t 46)), none⟩]
def q_table_Of_L14 : ACode := (.seq (.region q_table_Of_5) (.seq (.cond (.t 23) .skip (.exit 0)) (.seq (.block 1 (.seq (.region q_table_Of_6) (.seq (.seq (.region q_table_Of_7) (.cond (.t 28) (.seq (.seq (.region q_table_Of_8) (.cond (.t 31) (.seq (.region q_table_Of_9) .ret) .skip)) (.exit 1)) .skip)) (.seq (.region q_table_Of_10) (.seq (.region q_table_Of_11) (.cond (.t 45) (.seq (.region q_table_Of_12) .ret) .skip)))))) (.region q_table_Of_13))))
def q_table_Of_14 : List AOper := [
  ⟨(some 47), (.mv (.t 0)), none⟩,
  ⟨(some 48), (.len false (.t 47)), none⟩,
  ⟨(some 49), (.mv (.v (.int .i64 0))), none⟩]
def q_table_Of_15 : List AOper := [
  ⟨(some 50), (.bin .lss (.t 49) (.t 48)), none⟩]
def q_table_Of_16 : List AOper := [
  ⟨(some 51), (.mv (.t 49)), none⟩,
  ⟨(some 52), (.idx 34 (.t 47) (.t 49)), none⟩,
  ⟨(some 53), (.load .ag 34 (.t 52)), none⟩,
  ⟨(some 11), (.alloc 32 [(.iarr .u8 32 (List.replicate 32 0)), (.int .i64 0), (.int .i64 0)]), none⟩,
  ⟨(some 10), (.mv (.t 51)), none⟩,
  ⟨none, (.store .ag 34 (.t 11) (.t 53)), none⟩]
def q_table_Of_17 : List DOp := [
  ⟨⟨(some 54), (.mv (.t 4)), none⟩, true, false, none, []⟩,
  ⟨⟨(some 55), (.xx (.p .nilCk) [(.t 54)]), none⟩, true, false, none, []⟩,
  ⟨⟨(some 56), (.fadr 0 1 .sc (.t 55)), none⟩, true, false, none, []⟩,
  ⟨⟨(some 57), (.load .sc 1 (.t 56)), none⟩, true, false, none, []⟩,
  ⟨⟨(some 58), (.mv (.t 10)), none⟩, true, false, none, []⟩,
  ⟨⟨(some 59), (.idx 34 (.t 57) (.t 58)), none⟩, true, false, none, []⟩,
  ⟨⟨(some 60), (.load .ag 34 (.t 59)), none⟩, true, false, none, []⟩,
  ⟨⟨(some 61), (.load .ag 34 (.t 11)), none⟩, true, false, none, []⟩,
  ⟨⟨(some 62), (.eq (.st [(0, (32, ((.ia .u8 32), (.ia 32)))), (32, (1, (.sc, .scI))), (33, (1, (.sc, .scI)))]) true (.t 60) (.t 61)), none⟩, true, false, none, []⟩]
def q_table_Of_18 : List AOper := [
  ⟨(some 2), (.mv (.v .nilP)), none⟩,
  ⟨(some 3), (.mv (.v (.bool false))), none⟩]
def q_table_Of_19 : List AOper := [
  ⟨(some 63), (.bin .add (.t 49) (.v (.int .i64 1))), none⟩,
  ⟨(some 49), (.mv (.t 63)), none⟩]
def q_table_Of_L20 : ACode := (.seq (.region q_table_Of_15) (.seq (.cond (.t 50) .skip (.exit 2)) (.seq (.block 3 (.seq (.region q_table_Of_16) (.seq (.regionD q_table_Of_17) (.cond (.t 62) (.seq (.region q_table_Of_18) .ret) .skip)))) (.region q_table_Of_19))))
def q_table_Of_20 : List AOper := [
  ⟨(some 64), (.mv (.t 4)), none⟩,
  ⟨(some 2), (.mv (.t 64)), none⟩,
  ⟨(some 3), (.mv (.v (.bool true))), none⟩]
def a_table_Of : AFunc := ⟨[(.tmp 2), (.tmp 3)], (.seq (.region q_table_Of_0) (.seq (.region q_table_Of_1) (.seq (.seq (.region q_table_Of_2) (.cond (.t 19) (.seq (.region q_table_Of_3) .ret) .skip)) (.seq (.seq (.region q_table_Of_4) (.block 0 (.loop q_table_Of_L14))) (.seq (.seq (.region q_table_Of_14) (.block 2 (.loop q_table_Of_L20))) (.seq (.region q_table_Of_20) .ret))))))⟩

def q_table_New_0 : List AOper := [
  ⟨(some 2), (.mv (.v .nilP)), none⟩,
  ⟨(some 3), (.mv (.v (.int .i64 0))), none⟩]
def q_table_New_1 : List AOper := [
  ⟨(some 4), (.mv (.t 0)), none⟩,
  ⟨(some 5), (.bin .lss (.t 4) (.v (.int .i64 1))), none⟩,
  ⟨(some 6), (.mv (.t 5)), none⟩,
  ⟨(some 7), (.mv (.t 0)), (some (6, false))⟩,
  ⟨(some 8), (.bin .gtr (.t 7) (.v (.int .i64 406))), (some (6, false))⟩,
  ⟨(some 9), (.pick (.t 6) (.v (.bool true)) (.t 8)), none⟩]
def q_table_New_2 : List AOper := [
  ⟨(some 2), (.mv (.v .nilP)), none⟩,
  ⟨(some 3), (.mv (.v (.int .i64 2))), none⟩]
def q_table_New_3 : List AOper := [
  ⟨(some 10), (.mv (.t 0)), none⟩,
  ⟨(some 11), (.mk 32 34 48 (.agg [(.iarr .u8 32 (List.replicate 32 0)), (.int .i64 0), (.int .i64 0)]) (.t 10) (.t 10)), none⟩,
  ⟨(some 12), (.build .ag [.nilS, (.int .i64 0)] [(0, (1, (.t 11)))]), none⟩,
  ⟨(some 13), (.box 109 .ag (.t 12)), none⟩,
  ⟨(some 2), (.mv (.t 13)), none⟩,
  ⟨(some 3), (.mv (.v (.int .i64 0))), none⟩]
def a_table_New : AFunc := ⟨[(.tmp 2), (.tmp 3)], (.seq (.region q_table_New_0) (.seq (.seq (.region q_table_New_1) (.cond (.t 9) (.seq (.region q_table_New_2) .ret) .skip)) (.seq (.region q_table_New_3) .ret)))⟩

def q_Ptable_Table_Size_0 : List AOper := [
  ⟨(some 2), (.mv (.v (.int .i64 0))), none⟩]
def q_Ptable_Table_Size_1 : List AOper := [
  ⟨(some 3), (.mv (.t 0)), none⟩,
  ⟨(some 4), (.xx (.p .nilCk) [(.t 3)]), none⟩,
  ⟨(some 5), (.fadr 0 1 .sc (.t 4)), none⟩,
  ⟨(some 6), (.load .sc 1 (.t 5)), none⟩,
  ⟨(some 7), (.len false (.t 6)), none⟩,
  ⟨(some 2), (.mv (.t 7)), none⟩]
def a_Ptable_Table_Size : AFunc := ⟨[(.tmp 2)], (.seq (.region q_Ptable_Table_Size_0) (.seq (.region q_Ptable_Table_Size_1) .ret))⟩

def q_Ptable_Table_Get_0 : List AOper := [
  ⟨(some 3), (.box 23 (.ia .u8 32) (.t 1)), none⟩,
  ⟨(some 4), (.alloc 32 [(.iarr .u8 32 (List.replicate 32 0)), (.int .i64 0), (.int .i64 0)]), none⟩,
  ⟨(some 5), (.mv (.v (.bool false))), none⟩]
def q_Ptable_Table_Get_1 : List AOper := [
  ⟨(some 7), (.mv (.t 0)), none⟩,
  ⟨(some 8), (.load (.ia .u8 32) 32 (.t 3)), none⟩,
  ⟨(some 9), (.call F_Ptable_Table_find [(.sc, (.t 7)), ((.ia .u8 32), (.t 8))]), none⟩,
  ⟨(some 6), (.mv (.t 9)), none⟩]
def q_Ptable_Table_Get_2 : List AOper := [
  ⟨(some 10), (.mv (.t 6)), none⟩,
  ⟨(some 11), (.bin .lss (.t 10) (.v (.int .i64 0))), none⟩]
def q_Ptable_Table_Get_3 : List AOper := [
  ⟨(some 12), (.build .ag [(.iarr .u8 32 (List.replicate 32 0)), (.int .i64 0), (.int .i64 0)] []), none⟩,
  ⟨none, (.store .ag 34 (.t 4) (.t 12)), none⟩,
  ⟨(some 5), (.mv (.v (.bool false))), none⟩]
def q_Ptable_Table_Get_4 : List AOper := [
  ⟨(some 13), (.mv (.t 0)), none⟩,
  ⟨(some 14), (.xx (.p .nilCk) [(.t 13)]), none⟩,
  ⟨(some 15), (.fadr 0 1 .sc (.t 14)), none⟩,
  ⟨(some 16), (.load .sc 1 (.t 15)), none⟩,
  ⟨(some 17), (.mv (.t 6)), none⟩,
  ⟨(some 18), (.idx 34 (.t 16) (.t 17)), none⟩,
  ⟨(some 19), (.load .ag 34 (.t 18)), none⟩,
  ⟨none, (.store .ag 34 (.t 4) (.t 19)), none⟩,
  ⟨(some 5), (.mv (.v (.bool true))), none⟩]
def a_Ptable_Table_Get : AFunc := ⟨[(.cell 4 .ag 34), (.tmp 5)], (.seq (.region q_Ptable_Table_Get_0) (.seq (.region q_Ptable_Table_Get_1) (.seq (.seq (.region q_Ptable_Table_Get_2) (.cond (.t 11) (.seq (.region q_Ptable_Table_Get_3) .ret) .skip)) (.seq (.region q_Ptable_Table_Get_4) .ret))))⟩

def q_Ptable_Table_Slot_0 : List AOper := [
  ⟨(some 4), (.alloc 32 [(.iarr .u8 32 (List.replicate 32 0)), (.int .i64 0), (.int .i64 0)]), none⟩,
  ⟨(some 5), (.mv (.v (.bool false))), none⟩]
def q_Ptable_Table_Slot_1 : List AOper := [
  ⟨(some 8), (.mv (.t 0)), none⟩,
  ⟨(some 9), (.xx (.p .nilCk) [(.t 8)]), none⟩,
  ⟨(some 10), (.fadr 0 1 .sc (.t 9)), none⟩,
  ⟨(some 11), (.load .sc 1 (.t 10)), none⟩,
  ⟨(some 12), (.len false (.t 11)), none⟩,
  ⟨(some 13), (.mv (.v (.int .i64 0))), none⟩]
def q_Ptable_Table_Slot_2 : List AOper := [
  ⟨(some 14), (.bin .lss (.t 13) (.t 12)), none⟩]
def q_Ptable_Table_Slot_3 : List AOper := [
  ⟨(some 15), (.idx 34 (.t 11) (.t 13)), none⟩,
  ⟨(some 16), (.load .ag 34 (.t 15)), none⟩,
  ⟨(some 7), (.alloc 32 [(.iarr .u8 32 (List.replicate 32 0)), (.int .i64 0), (.int .i64 0)]), none⟩,
  ⟨none, (.store .ag 34 (.t 7) (.t 16)), none⟩]
def q_Ptable_Table_Slot_4 : List AOper := [
  ⟨(some 17), (.fadr 33 1 .sc (.t 7)), none⟩,
  ⟨(some 18), (.load .sc 1 (.t 17)), none⟩,
  ⟨(some 19), (.bin .gtr (.t 18) (.v (.int .i64 0))), none⟩,
  ⟨(some 20), (.mv (.t 19)), none⟩,
  ⟨(some 21), (.fadr 32 1 .sc (.t 7)), (some (20, true))⟩,
  ⟨(some 22), (.load .sc 1 (.t 21)), (some (20, true))⟩,
  ⟨(some 23), (.mv (.t 1)), (some (20, true))⟩,
  ⟨(some 24), (.eq .scI false (.t 22) (.t 23)), (some (20, true))⟩,
  ⟨(some 25), (.pick (.t 20) (.t 24) (.v (.bool false))), none⟩]
def q_Ptable_Table_Slot_5 : List AOper := [
  ⟨(some 26), (.load .ag 34 (.t 7)), none⟩,
  ⟨none, (.store .ag 34 (.t 4) (.t 26)), none⟩,
  ⟨(some 5), (.mv (.v (.bool true))), none⟩]
def q_Ptable_Table_Slot_6 : List AOper := [
  ⟨(some 27), (.bin .add (.t 13) (.v (.int .i64 1))), none⟩,
  ⟨(some 13), (.mv (.t 27)), none⟩]
def q_Ptable_Table_Slot_L7 : ACode := (.seq (.region q_Ptable_Table_Slot_2) (.seq (.cond (.t 14) .skip (.exit 0)) (.seq (.block 1 (.seq (.region q_Ptable_Table_Slot_3) (.seq (.region q_Ptable_Table_Slot_4) (.cond (.t 25) (.seq (.region q_Ptable_Table_Slot_5) .ret) .skip)))) (.region q_Ptable_Table_Slot_6))))
def q_Ptable_Table_Slot_7 : List AOper := [
  ⟨(some 28), (.build .ag [(.iarr .u8 32 (List.replicate 32 0)), (.int .i64 0), (.int .i64 0)] []), none⟩,
  ⟨none, (.store .ag 34 (.t 4) (.t 28)), none⟩,
  ⟨(some 5), (.mv (.v (.bool false))), none⟩]
def a_Ptable_Table_Slot : AFunc := ⟨[(.cell 4 .ag 34), (.tmp 5)], (.seq (.region q_Ptable_Table_Slot_0) (.seq (.seq (.region q_Ptable_Table_Slot_1) (.block 0 (.loop q_Ptable_Table_Slot_L7))) (.seq (.region q_Ptable_Table_Slot_7) .ret)))⟩

def q_Ptable_Table_Places_0 : List AOper := [
  ⟨(some 2), (.mv (.v .nilS)), none⟩]
def q_Ptable_Table_Places_1 : List AOper := [
  ⟨(some 3), (.bsl 32 .ag 34 []), none⟩,
  ⟨(some 4), (.mv (.t 0)), none⟩,
  ⟨(some 5), (.xx (.p .nilCk) [(.t 4)]), none⟩,
  ⟨(some 6), (.fadr 0 1 .sc (.t 5)), none⟩,
  ⟨(some 7), (.load .sc 1 (.t 6)), none⟩,
  ⟨(some 8), (.app 32 34 48 (.t 3) (.t 7)), none⟩,
  ⟨(some 2), (.mv (.t 8)), none⟩]
def a_Ptable_Table_Places : AFunc := ⟨[(.tmp 2)], (.seq (.region q_Ptable_Table_Places_0) (.seq (.region q_Ptable_Table_Places_1) .ret))⟩

def q_Ptable_Table_Put_0 : List AOper := [
  ⟨(some 3), (.box 32 .ag (.t 1)), none⟩,
  ⟨(some 4), (.mv (.v (.int .i64 0))), none⟩]
def q_Ptable_Table_Put_1 : List AOper := [
  ⟨(some 9), (.fadr 33 1 .sc (.t 3)), none⟩,
  ⟨(some 10), (.load .sc 1 (.t 9)), none⟩,
  ⟨(some 11), (.bin .lss (.t 10) (.v (.int .i64 1))), none⟩,
  ⟨(some 12), (.mv (.t 11)), none⟩,
  ⟨(some 13), (.fadr 33 1 .sc (.t 3)), (some (12, false))⟩,
  ⟨(some 14), (.load .sc 1 (.t 13)), (some (12, false))⟩,
  ⟨(some 15), (.bin .gtr (.t 14) (.v (.int .i64 1099511627776))), (some (12, false))⟩,
  ⟨(some 16), (.pick (.t 12) (.v (.bool true)) (.t 15)), none⟩,
  ⟨(some 17), (.mv (.t 16)), none⟩,
  ⟨(some 18), (.fadr 32 1 .sc (.t 3)), (some (17, false))⟩,
  ⟨(some 19), (.load .sc 1 (.t 18)), (some (17, false))⟩,
  ⟨(some 20), (.bin .lss (.t 19) (.v (.int .i64 0))), (some (17, false))⟩,
  ⟨(some 21), (.pick (.t 17) (.v (.bool true)) (.t 20)), none⟩,
  ⟨(some 22), (.mv (.t 21)), none⟩,
  ⟨(some 23), (.fadr 32 1 .sc (.t 3)), (some (22, false))⟩,
  ⟨(some 24), (.load .sc 1 (.t 23)), (some (22, false))⟩,
  ⟨(some 25), (.bin .geq (.t 24) (.v (.int .i64 200))), (some (22, false))⟩,
  ⟨(some 26), (.pick (.t 22) (.v (.bool true)) (.t 25)), none⟩]
def q_Ptable_Table_Put_2 : List AOper := [
  ⟨(some 4), (.mv (.v (.int .i64 2))), none⟩]
def q_Ptable_Table_Put_3 : List AOper := [
  ⟨(some 27), (.mv (.t 0)), none⟩,
  ⟨(some 28), (.fadr 0 32 (.ia .u8 32) (.t 3)), none⟩,
  ⟨(some 29), (.load (.ia .u8 32) 32 (.t 28)), none⟩,
  ⟨(some 30), (.call F_Ptable_Table_find [(.sc, (.t 27)), ((.ia .u8 32), (.t 29))]), none⟩,
  ⟨(some 5), (.mv (.t 30)), none⟩]
def q_Ptable_Table_Put_4 : List AOper := [
  ⟨(some 31), (.mv (.t 5)), none⟩,
  ⟨(some 32), (.bin .geq (.t 31) (.v (.int .i64 0))), none⟩]
def q_Ptable_Table_Put_5 : List DOp := [
  ⟨⟨(some 33), (.mv (.t 0)), none⟩, true, false, none, []⟩,
  ⟨⟨(some 34), (.xx (.p .nilCk) [(.t 33)]), none⟩, true, false, none, []⟩,
  ⟨⟨(some 35), (.fadr 0 1 .sc (.t 34)), none⟩, true, false, none, []⟩,
  ⟨⟨(some 36), (.load .sc 1 (.t 35)), none⟩, true, false, none, []⟩,
  ⟨⟨(some 37), (.mv (.t 5)), none⟩, true, false, none, []⟩,
  ⟨⟨(some 38), (.load .ag 34 (.t 3)), none⟩, true, false, none, []⟩,
  ⟨⟨(some 39), (.idx 34 (.t 36) (.t 37)), none⟩, true, false, none, []⟩,
  ⟨⟨none, (.store .ag 34 (.t 39) (.t 38)), none⟩, false, false, none, []⟩]
def q_Ptable_Table_Put_6 : List AOper := [
  ⟨(some 4), (.mv (.v (.int .i64 0))), none⟩]
def q_Ptable_Table_Put_7 : List DOp := [
  ⟨⟨(some 40), (.mv (.t 0)), none⟩, true, false, none, []⟩,
  ⟨⟨(some 41), (.xx (.p .nilCk) [(.t 40)]), none⟩, true, false, none, []⟩,
  ⟨⟨(some 42), (.fadr 1 1 .sc (.t 41)), none⟩, true, false, none, []⟩,
  ⟨⟨(some 43), (.load .sc 1 (.t 42)), none⟩, true, false, none, []⟩,
  ⟨⟨(some 44), (.bin .add (.t 43) (.v (.int .i64 1))), none⟩, true, false, none, []⟩,
  ⟨⟨(some 45), (.mv (.t 0)), none⟩, true, false, none, []⟩,
  ⟨⟨(some 46), (.xx (.p .nilCk) [(.t 45)]), none⟩, true, false, none, []⟩,
  ⟨⟨(some 47), (.fadr 0 1 .sc (.t 46)), none⟩, true, false, none, []⟩,
  ⟨⟨(some 48), (.load .sc 1 (.t 47)), none⟩, true, false, none, []⟩,
  ⟨⟨(some 49), (.len false (.t 48)), none⟩, true, false, none, []⟩,
  ⟨⟨(some 50), (.bin .geq (.t 44) (.t 49)), none⟩, true, false, none, []⟩]
def q_Ptable_Table_Put_8 : List AOper := [
  ⟨(some 4), (.mv (.v (.int .i64 6))), none⟩]
def q_Ptable_Table_Put_9 : List AOper := [
  ⟨(some 51), (.mv (.t 0)), none⟩,
  ⟨(some 52), (.xx (.p .nilCk) [(.t 51)]), none⟩,
  ⟨(some 53), (.fadr 1 1 .sc (.t 52)), none⟩,
  ⟨(some 54), (.load .sc 1 (.t 53)), none⟩,
  ⟨(some 55), (.bin .add (.t 54) (.v (.int .i64 1))), none⟩,
  ⟨(some 56), (.xx (.p .nilCk) [(.t 51)]), none⟩,
  ⟨(some 57), (.fadr 1 1 .sc (.t 56)), none⟩,
  ⟨none, (.store .sc 1 (.t 57) (.t 55)), none⟩]
def q_Ptable_Table_Put_10 : List DOp := [
  ⟨⟨(some 58), (.fadr 0 32 (.ia .u8 32) (.t 3)), none⟩, true, false, none, []⟩,
  ⟨⟨(some 59), (.load (.ia .u8 32) 32 (.t 58)), none⟩, true, false, none, []⟩,
  ⟨⟨(some 60), (.mv (.t 0)), none⟩, true, false, none, []⟩,
  ⟨⟨(some 61), (.xx (.p .nilCk) [(.t 60)]), none⟩, true, false, none, []⟩,
  ⟨⟨(some 62), (.fadr 0 1 .sc (.t 61)), none⟩, true, false, none, []⟩,
  ⟨⟨(some 63), (.load .sc 1 (.t 62)), none⟩, true, false, none, []⟩,
  ⟨⟨(some 64), (.len false (.t 63)), none⟩, true, false, none, []⟩,
  ⟨⟨(some 65), (.call F_digest_Home [((.ia .u8 32), (.t 59)), (.sc, (.t 64))]), none⟩, false, false, none, []⟩,
  ⟨⟨(some 6), (.mv (.t 65)), none⟩, true, false, none, []⟩,
  ⟨⟨(some 7), (.mv (.v (.int .i64 0))), none⟩, true, false, none, []⟩]
def q_Ptable_Table_Put_11 : List AOper := [
  ⟨(some 66), (.mv (.t 0)), none⟩,
  ⟨(some 67), (.xx (.p .nilCk) [(.t 66)]), none⟩,
  ⟨(some 68), (.fadr 0 1 .sc (.t 67)), none⟩,
  ⟨(some 69), (.load .sc 1 (.t 68)), none⟩,
  ⟨(some 70), (.mv (.t 6)), none⟩,
  ⟨(some 71), (.idx 34 (.t 69) (.t 70)), none⟩,
  ⟨(some 72), (.fadr 33 1 .sc (.t 71)), none⟩,
  ⟨(some 73), (.load .sc 1 (.t 72)), none⟩,
  ⟨(some 74), (.bin .gtr (.t 73) (.v (.int .i64 0))), none⟩]
def q_Ptable_Table_Put_12 : List AOper := [
  ⟨(some 75), (.mv (.t 0)), none⟩,
  ⟨(some 76), (.mv (.t 6)), none⟩,
  ⟨(some 77), (.fadr 0 32 (.ia .u8 32) (.t 3)), none⟩,
  ⟨(some 78), (.load (.ia .u8 32) 32 (.t 77)), none⟩,
  ⟨(some 79), (.mv (.t 7)), none⟩,
  ⟨(some 80), (.call F_Ptable_Table_yields [(.sc, (.t 75)), (.sc, (.t 76)), ((.ia .u8 32), (.t 78)), (.sc, (.t 79))]), none⟩]
def q_Ptable_Table_Put_13 : List AOper := [
  ⟨(some 81), (.mv (.t 0)), none⟩,
  ⟨(some 82), (.mv (.t 6)), none⟩,
  ⟨(some 83), (.call F_Ptable_Table_far [(.sc, (.t 81)), (.sc, (.t 82))]), none⟩,
  ⟨(some 8), (.mv (.t 83)), none⟩]
def q_Ptable_Table_Put_14 : List DOp := [
  ⟨⟨(some 84), (.mv (.t 0)), none⟩, true, false, none, []⟩,
  ⟨⟨(some 85), (.xx (.p .nilCk) [(.t 84)]), none⟩, true, false, none, []⟩,
  ⟨⟨(some 86), (.fadr 0 1 .sc (.t 85)), none⟩, true, false, none, []⟩,
  ⟨⟨(some 87), (.load .sc 1 (.t 86)), none⟩, true, false, none, []⟩,
  ⟨⟨(some 88), (.mv (.t 6)), none⟩, true, false, none, []⟩,
  ⟨⟨(some 89), (.load .ag 34 (.t 3)), none⟩, true, false, none, []⟩,
  ⟨⟨(some 90), (.mv (.t 0)), none⟩, true, false, none, []⟩,
  ⟨⟨(some 91), (.xx (.p .nilCk) [(.t 90)]), none⟩, true, false, none, []⟩,
  ⟨⟨(some 92), (.fadr 0 1 .sc (.t 91)), none⟩, true, false, none, []⟩,
  ⟨⟨(some 93), (.load .sc 1 (.t 92)), none⟩, true, false, none, []⟩,
  ⟨⟨(some 94), (.mv (.t 6)), none⟩, true, false, none, []⟩,
  ⟨⟨(some 95), (.idx 34 (.t 93) (.t 94)), none⟩, true, false, none, []⟩,
  ⟨⟨(some 96), (.load .ag 34 (.t 95)), none⟩, true, false, none, []⟩,
  ⟨⟨(some 97), (.mv (.t 8)), none⟩, true, false, none, []⟩,
  ⟨⟨(some 98), (.idx 34 (.t 87) (.t 88)), none⟩, true, false, none, []⟩,
  ⟨⟨none, (.store .ag 34 (.t 98) (.t 89)), none⟩, false, false, none, []⟩,
  ⟨⟨none, (.store .ag 34 (.t 3) (.t 96)), none⟩, false, false, none, []⟩,
  ⟨⟨(some 7), (.mv (.t 97)), none⟩, true, false, none, []⟩]
def q_Ptable_Table_Put_15 : List AOper := [
  ⟨(some 99), (.mv (.t 6)), none⟩,
  ⟨(some 100), (.bin .add (.t 99) (.v (.int .i64 1))), none⟩,
  ⟨(some 101), (.mv (.t 0)), none⟩,
  ⟨(some 102), (.xx (.p .nilCk) [(.t 101)]), none⟩,
  ⟨(some 103), (.fadr 0 1 .sc (.t 102)), none⟩,
  ⟨(some 104), (.load .sc 1 (.t 103)), none⟩,
  ⟨(some 105), (.len false (.t 104)), none⟩,
  ⟨(some 106), (.bin .rem (.t 100) (.t 105)), none⟩,
  ⟨(some 107), (.mv (.t 7)), none⟩,
  ⟨(some 108), (.bin .add (.t 107) (.v (.int .i64 1))), none⟩,
  ⟨(some 6), (.mv (.t 106)), none⟩,
  ⟨(some 7), (.mv (.t 108)), none⟩]
def q_Ptable_Table_Put_L16 : ACode := (.seq (.seq (.region q_Ptable_Table_Put_11) (.cond (.t 74) .skip (.exit 0))) (.block 1 (.seq (.seq (.region q_Ptable_Table_Put_12) (.cond (.t 80) (.seq (.region q_Ptable_Table_Put_13) (.regionD q_Ptable_Table_Put_14)) .skip)) (.region q_Ptable_Table_Put_15))))
def q_Ptable_Table_Put_16 : List DOp := [
  ⟨⟨(some 109), (.mv (.t 0)), none⟩, true, false, none, []⟩,
  ⟨⟨(some 110), (.xx (.p .nilCk) [(.t 109)]), none⟩, true, false, none, []⟩,
  ⟨⟨(some 111), (.fadr 0 1 .sc (.t 110)), none⟩, true, false, none, []⟩,
  ⟨⟨(some 112), (.load .sc 1 (.t 111)), none⟩, true, false, none, []⟩,
  ⟨⟨(some 113), (.mv (.t 6)), none⟩, true, false, none, []⟩,
  ⟨⟨(some 114), (.load .ag 34 (.t 3)), none⟩, true, false, none, []⟩,
  ⟨⟨(some 115), (.idx 34 (.t 112) (.t 113)), none⟩, true, false, none, []⟩,
  ⟨⟨none, (.store .ag 34 (.t 115) (.t 114)), none⟩, false, false, none, []⟩]
def q_Ptable_Table_Put_17 : List AOper := [
  ⟨(some 4), (.mv (.v (.int .i64 0))), none⟩]
def a_Ptable_Table_Put : AFunc := ⟨[(.tmp 4)], (.seq (.region q_Ptable_Table_Put_0) (.seq (.seq (.region q_Ptable_Table_Put_1) (.cond (.t 26) (.seq (.region q_Ptable_Table_Put_2) .ret) .skip)) (.seq (.seq (.region q_Ptable_Table_Put_3) (.seq (.region q_Ptable_Table_Put_4) (.cond (.t 32) (.seq (.regionD q_Ptable_Table_Put_5) (.seq (.region q_Ptable_Table_Put_6) .ret)) .skip))) (.seq (.seq (.regionD q_Ptable_Table_Put_7) (.cond (.t 50) (.seq (.region q_Ptable_Table_Put_8) .ret) .skip)) (.seq (.region q_Ptable_Table_Put_9) (.seq (.regionD q_Ptable_Table_Put_10) (.seq (.block 0 (.loop q_Ptable_Table_Put_L16)) (.seq (.regionD q_Ptable_Table_Put_16) (.seq (.region q_Ptable_Table_Put_17) .ret)))))))))⟩

def q_Ptable_Table_Drop_0 : List AOper := [
  ⟨(some 3), (.box 23 (.ia .u8 32) (.t 1)), none⟩,
  ⟨(some 4), (.mv (.v (.int .i64 0))), none⟩]
def q_Ptable_Table_Drop_1 : List AOper := [
  ⟨(some 7), (.mv (.t 0)), none⟩,
  ⟨(some 8), (.load (.ia .u8 32) 32 (.t 3)), none⟩,
  ⟨(some 9), (.call F_Ptable_Table_find [(.sc, (.t 7)), ((.ia .u8 32), (.t 8))]), none⟩,
  ⟨(some 5), (.mv (.t 9)), none⟩]
def q_Ptable_Table_Drop_2 : List AOper := [
  ⟨(some 10), (.mv (.t 5)), none⟩,
  ⟨(some 11), (.bin .lss (.t 10) (.v (.int .i64 0))), none⟩]
def q_Ptable_Table_Drop_3 : List AOper := [
  ⟨(some 4), (.mv (.v (.int .i64 8))), none⟩]
def q_Ptable_Table_Drop_4 : List AOper := [
  ⟨(some 12), (.mv (.t 5)), none⟩,
  ⟨(some 13), (.bin .add (.t 12) (.v (.int .i64 1))), none⟩,
  ⟨(some 14), (.mv (.t 0)), none⟩,
  ⟨(some 15), (.xx (.p .nilCk) [(.t 14)]), none⟩,
  ⟨(some 16), (.fadr 0 1 .sc (.t 15)), none⟩,
  ⟨(some 17), (.load .sc 1 (.t 16)), none⟩,
  ⟨(some 18), (.len false (.t 17)), none⟩,
  ⟨(some 19), (.bin .rem (.t 13) (.t 18)), none⟩,
  ⟨(some 6), (.mv (.t 19)), none⟩]
def q_Ptable_Table_Drop_5 : List AOper := [
  ⟨(some 20), (.mv (.t 0)), none⟩,
  ⟨(some 21), (.xx (.p .nilCk) [(.t 20)]), none⟩,
  ⟨(some 22), (.fadr 0 1 .sc (.t 21)), none⟩,
  ⟨(some 23), (.load .sc 1 (.t 22)), none⟩,
  ⟨(some 24), (.mv (.t 6)), none⟩,
  ⟨(some 25), (.idx 34 (.t 23) (.t 24)), none⟩,
  ⟨(some 26), (.fadr 33 1 .sc (.t 25)), none⟩,
  ⟨(some 27), (.load .sc 1 (.t 26)), none⟩,
  ⟨(some 28), (.eq .scI false (.t 27) (.v (.int .i64 0))), none⟩,
  ⟨(some 29), (.mv (.t 28)), none⟩,
  ⟨(some 30), (.mv (.t 0)), (some (29, false))⟩,
  ⟨(some 31), (.mv (.t 6)), (some (29, false))⟩,
  ⟨(some 32), (.call F_Ptable_Table_far [(.sc, (.t 30)), (.sc, (.t 31))]), (some (29, false))⟩,
  ⟨(some 33), (.eq .scI false (.t 32) (.v (.int .i64 0))), (some (29, false))⟩,
  ⟨(some 34), (.pick (.t 29) (.v (.bool true)) (.t 33)), none⟩]
def q_Ptable_Table_Drop_6 : List DOp := [
  ⟨⟨(some 35), (.mv (.t 0)), none⟩, true, false, none, []⟩,
  ⟨⟨(some 36), (.xx (.p .nilCk) [(.t 35)]), none⟩, true, false, none, []⟩,
  ⟨⟨(some 37), (.fadr 0 1 .sc (.t 36)), none⟩, true, false, none, []⟩,
  ⟨⟨(some 38), (.load .sc 1 (.t 37)), none⟩, true, false, none, []⟩,
  ⟨⟨(some 39), (.mv (.t 5)), none⟩, true, false, none, []⟩,
  ⟨⟨(some 40), (.mv (.t 0)), none⟩, true, false, none, []⟩,
  ⟨⟨(some 41), (.xx (.p .nilCk) [(.t 40)]), none⟩, true, false, none, []⟩,
  ⟨⟨(some 42), (.fadr 0 1 .sc (.t 41)), none⟩, true, false, none, []⟩,
  ⟨⟨(some 43), (.load .sc 1 (.t 42)), none⟩, true, false, none, []⟩,
  ⟨⟨(some 44), (.mv (.t 6)), none⟩, true, false, none, []⟩,
  ⟨⟨(some 45), (.idx 34 (.t 43) (.t 44)), none⟩, true, false, none, []⟩,
  ⟨⟨(some 46), (.load .ag 34 (.t 45)), none⟩, true, false, none, []⟩,
  ⟨⟨(some 47), (.idx 34 (.t 38) (.t 39)), none⟩, true, false, none, []⟩,
  ⟨⟨none, (.store .ag 34 (.t 47) (.t 46)), none⟩, false, false, none, []⟩]
def q_Ptable_Table_Drop_7 : List AOper := [
  ⟨(some 48), (.mv (.t 6)), none⟩,
  ⟨(some 5), (.mv (.t 48)), none⟩]
def q_Ptable_Table_Drop_L8 : ACode := (.block 1 (.seq (.region q_Ptable_Table_Drop_4) (.seq (.seq (.region q_Ptable_Table_Drop_5) (.cond (.t 34) (.exit 0) .skip)) (.seq (.regionD q_Ptable_Table_Drop_6) (.region q_Ptable_Table_Drop_7)))))
def q_Ptable_Table_Drop_8 : List AOper := [
  ⟨(some 49), (.mv (.t 0)), none⟩,
  ⟨(some 50), (.xx (.p .nilCk) [(.t 49)]), none⟩,
  ⟨(some 51), (.fadr 0 1 .sc (.t 50)), none⟩,
  ⟨(some 52), (.load .sc 1 (.t 51)), none⟩,
  ⟨(some 53), (.mv (.t 5)), none⟩,
  ⟨(some 54), (.mv (.t 5)), none⟩,
  ⟨(some 55), (.bin .add (.t 54) (.v (.int .i64 1))), none⟩,
  ⟨(some 56), (.slc 34 (.t 52) (some (.t 53)) (some (.t 55))), none⟩,
  ⟨none, (.xx (.clr 34 (.agg [(.iarr .u8 32 (List.replicate 32 0)), (.int .i64 0), (.int .i64 0)])) [(.t 56)]), none⟩]
def q_Ptable_Table_Drop_9 : List AOper := [
  ⟨(some 57), (.mv (.t 0)), none⟩,
  ⟨(some 58), (.xx (.p .nilCk) [(.t 57)]), none⟩,
  ⟨(some 59), (.fadr 1 1 .sc (.t 58)), none⟩,
  ⟨(some 60), (.load .sc 1 (.t 59)), none⟩,
  ⟨(some 61), (.bin .sub (.t 60) (.v (.int .i64 1))), none⟩,
  ⟨(some 62), (.xx (.p .nilCk) [(.t 57)]), none⟩,
  ⟨(some 63), (.fadr 1 1 .sc (.t 62)), none⟩,
  ⟨none, (.store .sc 1 (.t 63) (.t 61)), none⟩]
def q_Ptable_Table_Drop_10 : List AOper := [
  ⟨(some 4), (.mv (.v (.int .i64 0))), none⟩]
def a_Ptable_Table_Drop : AFunc := ⟨[(.tmp 4)], (.seq (.region q_Ptable_Table_Drop_0) (.seq (.region q_Ptable_Table_Drop_1) (.seq (.seq (.region q_Ptable_Table_Drop_2) (.cond (.t 11) (.seq (.region q_Ptable_Table_Drop_3) .ret) .skip)) (.seq (.block 0 (.loop q_Ptable_Table_Drop_L8)) (.seq (.region q_Ptable_Table_Drop_8) (.seq (.region q_Ptable_Table_Drop_9) (.seq (.region q_Ptable_Table_Drop_10) .ret)))))))⟩

def q_Ptable_Table_Copy_0 : List AOper := [
  ⟨(some 2), (.mv (.v .nilP)), none⟩]
def q_Ptable_Table_Copy_1 : List DOp := [
  ⟨⟨(some 3), (.mv (.t 0)), none⟩, true, false, none, []⟩,
  ⟨⟨(some 5), (.mv (.t 0)), none⟩, true, false, none, []⟩,
  ⟨⟨(some 6), (.xx (.p .nilCk) [(.t 5)]), none⟩, true, false, none, []⟩,
  ⟨⟨(some 7), (.fadr 1 1 .sc (.t 6)), none⟩, true, false, none, []⟩,
  ⟨⟨(some 8), (.load .sc 1 (.t 7)), none⟩, true, false, none, []⟩,
  ⟨⟨(some 4), (.call F_Ptable_Table_Places [(.sc, (.t 3))]), none⟩, false, true, (some [7]), []⟩,
  ⟨⟨(some 9), (.build .ag [.nilS, (.int .i64 0)] [(0, (1, (.t 4))), (1, (1, (.t 8)))]), none⟩, true, false, none, []⟩,
  ⟨⟨(some 10), (.box 109 .ag (.t 9)), none⟩, false, false, none, []⟩,
  ⟨⟨(some 2), (.mv (.t 10)), none⟩, true, false, none, []⟩]
def a_Ptable_Table_Copy : AFunc := ⟨[(.tmp 2)], (.seq (.region q_Ptable_Table_Copy_0) (.seq (.regionD q_Ptable_Table_Copy_1) .ret))⟩

def q_Ptable_Table_Len_0 : List AOper := [
  ⟨(some 2), (.mv (.v (.int .i64 0))), none⟩]
def q_Ptable_Table_Len_1 : List AOper := [
  ⟨(some 3), (.mv (.t 0)), none⟩,
  ⟨(some 4), (.xx (.p .nilCk) [(.t 3)]), none⟩,
  ⟨(some 5), (.fadr 1 1 .sc (.t 4)), none⟩,
  ⟨(some 6), (.load .sc 1 (.t 5)), none⟩,
  ⟨(some 2), (.mv (.t 6)), none⟩]
def a_Ptable_Table_Len : AFunc := ⟨[(.tmp 2)], (.seq (.region q_Ptable_Table_Len_0) (.seq (.region q_Ptable_Table_Len_1) .ret))⟩

def q_Ptable_Table_Longest_0 : List AOper := [
  ⟨(some 2), (.mv (.v (.int .i64 0))), none⟩]
def q_Ptable_Table_Longest_1 : List AOper := [
  ⟨(some 3), (.mv (.v (.int .i64 0))), none⟩]
def q_Ptable_Table_Longest_2 : List AOper := [
  ⟨(some 6), (.mv (.t 0)), none⟩,
  ⟨(some 7), (.xx (.p .nilCk) [(.t 6)]), none⟩,
  ⟨(some 8), (.fadr 0 1 .sc (.t 7)), none⟩,
  ⟨(some 9), (.load .sc 1 (.t 8)), none⟩,
  ⟨(some 10), (.len false (.t 9)), none⟩,
  ⟨(some 11), (.mv (.v (.int .i64 0))), none⟩]
def q_Ptable_Table_Longest_3 : List AOper := [
  ⟨(some 12), (.bin .lss (.t 11) (.t 10)), none⟩]
def q_Ptable_Table_Longest_4 : List AOper := [
  ⟨(some 13), (.mv (.t 11)), none⟩,
  ⟨(some 14), (.idx 34 (.t 9) (.t 11)), none⟩,
  ⟨(some 15), (.load .ag 34 (.t 14)), none⟩,
  ⟨(some 5), (.alloc 32 [(.iarr .u8 32 (List.replicate 32 0)), (.int .i64 0), (.int .i64 0)]), none⟩,
  ⟨(some 4), (.mv (.t 13)), none⟩,
  ⟨none, (.store .ag 34 (.t 5) (.t 15)), none⟩]
def q_Ptable_Table_Longest_5 : List AOper := [
  ⟨(some 16), (.fadr 33 1 .sc (.t 5)), none⟩,
  ⟨(some 17), (.load .sc 1 (.t 16)), none⟩,
  ⟨(some 18), (.bin .gtr (.t 17) (.v (.int .i64 0))), none⟩]
def q_Ptable_Table_Longest_6 : List AOper := [
  ⟨(some 19), (.mv (.t 3)), none⟩,
  ⟨(some 20), (.mv (.t 0)), none⟩,
  ⟨(some 21), (.mv (.t 4)), none⟩,
  ⟨(some 22), (.call F_Ptable_Table_far [(.sc, (.t 20)), (.sc, (.t 21))]), none⟩,
  ⟨(some 23), (.xx (.p (.mnI true)) [(.t 19), (.t 22)]), none⟩,
  ⟨(some 3), (.mv (.t 23)), none⟩]
def q_Ptable_Table_Longest_7 : List AOper := [
  ⟨(some 24), (.bin .add (.t 11) (.v (.int .i64 1))), none⟩,
  ⟨(some 11), (.mv (.t 24)), none⟩]
def q_Ptable_Table_Longest_L8 : ACode := (.seq (.region q_Ptable_Table_Longest_3) (.seq (.cond (.t 12) .skip (.exit 0)) (.seq (.block 1 (.seq (.region q_Ptable_Table_Longest_4) (.seq (.region q_Ptable_Table_Longest_5) (.cond (.t 18) (.region q_Ptable_Table_Longest_6) .skip)))) (.region q_Ptable_Table_Longest_7))))
def q_Ptable_Table_Longest_8 : List AOper := [
  ⟨(some 25), (.mv (.t 3)), none⟩,
  ⟨(some 2), (.mv (.t 25)), none⟩]
def a_Ptable_Table_Longest : AFunc := ⟨[(.tmp 2)], (.seq (.region q_Ptable_Table_Longest_0) (.seq (.region q_Ptable_Table_Longest_1) (.seq (.seq (.region q_Ptable_Table_Longest_2) (.block 0 (.loop q_Ptable_Table_Longest_L8))) (.seq (.region q_Ptable_Table_Longest_8) .ret))))⟩

def q_Ptable_Table_find_0 : List AOper := [
  ⟨(some 3), (.box 23 (.ia .u8 32) (.t 1)), none⟩,
  ⟨(some 4), (.mv (.v (.int .i64 0))), none⟩]
def q_Ptable_Table_find_1 : List DOp := [
  ⟨⟨(some 8), (.load (.ia .u8 32) 32 (.t 3)), none⟩, true, false, none, []⟩,
  ⟨⟨(some 9), (.mv (.t 0)), none⟩, true, false, none, []⟩,
  ⟨⟨(some 10), (.xx (.p .nilCk) [(.t 9)]), none⟩, true, false, none, []⟩,
  ⟨⟨(some 11), (.fadr 0 1 .sc (.t 10)), none⟩, true, false, none, []⟩,
  ⟨⟨(some 12), (.load .sc 1 (.t 11)), none⟩, true, false, none, []⟩,
  ⟨⟨(some 13), (.len false (.t 12)), none⟩, true, false, none, []⟩,
  ⟨⟨(some 14), (.call F_digest_Home [((.ia .u8 32), (.t 8)), (.sc, (.t 13))]), none⟩, false, false, none, []⟩,
  ⟨⟨(some 5), (.mv (.t 14)), none⟩, true, false, none, []⟩]
def q_Ptable_Table_find_2 : List AOper := [
  ⟨(some 15), (.mv (.t 0)), none⟩,
  ⟨(some 16), (.xx (.p .nilCk) [(.t 15)]), none⟩,
  ⟨(some 17), (.fadr 0 1 .sc (.t 16)), none⟩,
  ⟨(some 18), (.load .sc 1 (.t 17)), none⟩,
  ⟨(some 19), (.len false (.t 18)), none⟩,
  ⟨(some 20), (.mv (.v (.int .i64 0))), none⟩]
def q_Ptable_Table_find_3 : List AOper := [
  ⟨(some 21), (.bin .lss (.t 20) (.t 19)), none⟩]
def q_Ptable_Table_find_4 : List AOper := [
  ⟨(some 22), (.mv (.t 20)), none⟩,
  ⟨(some 6), (.mv (.t 22)), none⟩]
def q_Ptable_Table_find_5 : List AOper := [
  ⟨(some 23), (.mv (.t 0)), none⟩,
  ⟨(some 24), (.xx (.p .nilCk) [(.t 23)]), none⟩,
  ⟨(some 25), (.fadr 0 1 .sc (.t 24)), none⟩,
  ⟨(some 26), (.load .sc 1 (.t 25)), none⟩,
  ⟨(some 27), (.mv (.t 5)), none⟩,
  ⟨(some 28), (.idx 34 (.t 26) (.t 27)), none⟩,
  ⟨(some 29), (.load .ag 34 (.t 28)), none⟩,
  ⟨(some 7), (.alloc 32 [(.iarr .u8 32 (List.replicate 32 0)), (.int .i64 0), (.int .i64 0)]), none⟩,
  ⟨none, (.store .ag 34 (.t 7) (.t 29)), none⟩]
def q_Ptable_Table_find_6 : List AOper := [
  ⟨(some 31), (.fadr 33 1 .sc (.t 7)), none⟩,
  ⟨(some 32), (.load .sc 1 (.t 31)), none⟩,
  ⟨(some 33), (.eq .scI false (.t 32) (.v (.int .i64 0))), none⟩,
  ⟨(some 30), (.mv (.t 33)), none⟩]
def q_Ptable_Table_find_7 : List AOper := [
  ⟨(some 4), (.mv (.v (.int .i64 (-1)))), none⟩]
def q_Ptable_Table_find_8 : List AOper := [
  ⟨(some 35), (.fadr 0 32 (.ia .u8 32) (.t 7)), none⟩,
  ⟨(some 36), (.load (.ia .u8 32) 32 (.t 35)), none⟩,
  ⟨(some 37), (.load (.ia .u8 32) 32 (.t 3)), none⟩,
  ⟨(some 38), (.eq (.ia 32) false (.t 36) (.t 37)), none⟩,
  ⟨(some 34), (.mv (.t 38)), none⟩]
def q_Ptable_Table_find_9 : List AOper := [
  ⟨(some 39), (.mv (.t 5)), none⟩,
  ⟨(some 4), (.mv (.t 39)), none⟩]
def q_Ptable_Table_find_10 : List AOper := [
  ⟨(some 41), (.mv (.t 0)), none⟩,
  ⟨(some 42), (.mv (.t 5)), none⟩,
  ⟨(some 43), (.load (.ia .u8 32) 32 (.t 3)), none⟩,
  ⟨(some 44), (.mv (.t 6)), none⟩,
  ⟨(some 45), (.call F_Ptable_Table_yields [(.sc, (.t 41)), (.sc, (.t 42)), ((.ia .u8 32), (.t 43)), (.sc, (.t 44))]), none⟩,
  ⟨(some 40), (.mv (.t 45)), none⟩]
def q_Ptable_Table_find_11 : List AOper := [
  ⟨(some 4), (.mv (.v (.int .i64 (-1)))), none⟩]
def q_Ptable_Table_find_12 : List AOper := [
  ⟨(some 46), (.mv (.t 5)), none⟩,
  ⟨(some 47), (.bin .add (.t 46) (.v (.int .i64 1))), none⟩,
  ⟨(some 48), (.mv (.t 0)), none⟩,
  ⟨(some 49), (.xx (.p .nilCk) [(.t 48)]), none⟩,
  ⟨(some 50), (.fadr 0 1 .sc (.t 49)), none⟩,
  ⟨(some 51), (.load .sc 1 (.t 50)), none⟩,
  ⟨(some 52), (.len false (.t 51)), none⟩,
  ⟨(some 53), (.bin .rem (.t 47) (.t 52)), none⟩,
  ⟨(some 5), (.mv (.t 53)), none⟩]
def q_Ptable_Table_find_13 : List AOper := [
  ⟨(some 54), (.bin .add (.t 20) (.v (.int .i64 1))), none⟩,
  ⟨(some 20), (.mv (.t 54)), none⟩]
def q_Ptable_Table_find_L14 : ACode := (.seq (.region q_Ptable_Table_find_3) (.seq (.cond (.t 21) .skip (.exit 0)) (.seq (.block 1 (.seq (.region q_Ptable_Table_find_4) (.seq (.seq (.region q_Ptable_Table_find_5) (.block 2 (.seq (.region q_Ptable_Table_find_6) (.cond (.t 30) (.seq (.region q_Ptable_Table_find_7) .ret) (.seq (.region q_Ptable_Table_find_8) (.cond (.t 34) (.seq (.region q_Ptable_Table_find_9) .ret) (.seq (.region q_Ptable_Table_find_10) (.cond (.t 40) (.seq (.region q_Ptable_Table_find_11) .ret) .skip)))))))) (.region q_Ptable_Table_find_12)))) (.region q_Ptable_Table_find_13))))
def q_Ptable_Table_find_14 : List AOper := [
  ⟨(some 4), (.mv (.v (.int .i64 (-1)))), none⟩]
def a_Ptable_Table_find : AFunc := ⟨[(.tmp 4)], (.seq (.region q_Ptable_Table_find_0) (.seq (.regionD q_Ptable_Table_find_1) (.seq (.seq (.region q_Ptable_Table_find_2) (.block 0 (.loop q_Ptable_Table_find_L14))) (.seq (.region q_Ptable_Table_find_14) .ret))))⟩

def q_Ptable_Table_yields_0 : List AOper := [
  ⟨(some 6), (.box 23 (.ia .u8 32) (.t 2)), none⟩,
  ⟨(some 8), (.mv (.v (.bool false))), none⟩]
def q_Ptable_Table_yields_1 : List AOper := [
  ⟨(some 10), (.mv (.t 0)), none⟩,
  ⟨(some 11), (.mv (.t 1)), none⟩,
  ⟨(some 12), (.call F_Ptable_Table_far [(.sc, (.t 10)), (.sc, (.t 11))]), none⟩,
  ⟨(some 9), (.mv (.t 12)), none⟩]
def q_Ptable_Table_yields_2 : List DOp := [
  ⟨⟨(some 13), (.mv (.t 9)), none⟩, true, false, none, []⟩,
  ⟨⟨(some 14), (.mv (.t 3)), none⟩, true, false, none, []⟩,
  ⟨⟨(some 15), (.bin .lss (.t 13) (.t 14)), none⟩, true, false, none, []⟩,
  ⟨⟨(some 16), (.mv (.t 15)), none⟩, true, false, none, []⟩,
  ⟨⟨(some 17), (.mv (.t 9)), (some (16, false))⟩, true, false, none, []⟩,
  ⟨⟨(some 18), (.mv (.t 3)), (some (16, false))⟩, true, false, none, []⟩,
  ⟨⟨(some 19), (.eq .scI false (.t 17) (.t 18)), (some (16, false))⟩, true, false, none, []⟩,
  ⟨⟨(some 20), (.mv (.t 19)), (some (16, false))⟩, true, false, none, []⟩,
  ⟨⟨(some 21), (.load (.ia .u8 32) 32 (.t 6)), (some (20, true))⟩, true, false, none, []⟩,
  ⟨⟨(some 22), (.mv (.t 0)), (some (20, true))⟩, true, false, none, []⟩,
  ⟨⟨(some 23), (.xx (.p .nilCk) [(.t 22)]), (some (20, true))⟩, true, false, none, []⟩,
  ⟨⟨(some 24), (.fadr 0 1 .sc (.t 23)), (some (20, true))⟩, true, false, none, []⟩,
  ⟨⟨(some 25), (.load .sc 1 (.t 24)), (some (20, true))⟩, true, false, none, []⟩,
  ⟨⟨(some 26), (.mv (.t 1)), (some (20, true))⟩, true, false, none, []⟩,
  ⟨⟨(some 27), (.idx 34 (.t 25) (.t 26)), (some (20, true))⟩, true, false, none, []⟩,
  ⟨⟨(some 28), (.fadr 0 32 (.ia .u8 32) (.t 27)), (some (20, true))⟩, true, false, none, []⟩,
  ⟨⟨(some 29), (.load (.ia .u8 32) 32 (.t 28)), (some (20, true))⟩, true, false, none, []⟩,
  ⟨⟨(some 30), (.call F_digest_Less [((.ia .u8 32), (.t 21)), ((.ia .u8 32), (.t 29))]), (some (20, true))⟩, false, false, none, []⟩,
  ⟨⟨(some 31), (.pick (.t 20) (.t 30) (.v (.bool false))), (some (16, false))⟩, true, false, none, []⟩,
  ⟨⟨(some 32), (.pick (.t 16) (.v (.bool true)) (.t 31)), none⟩, true, false, none, []⟩,
  ⟨⟨(some 8), (.mv (.t 32)), none⟩, true, false, none, []⟩]
def a_Ptable_Table_yields : AFunc := ⟨[(.tmp 8)], (.seq (.region q_Ptable_Table_yields_0) (.seq (.region q_Ptable_Table_yields_1) (.seq (.regionD q_Ptable_Table_yields_2) .ret)))⟩

def q_Ptable_Table_far_0 : List AOper := [
  ⟨(some 4), (.mv (.v (.int .i64 0))), none⟩]
def q_Ptable_Table_far_1 : List DOp := [
  ⟨⟨(some 5), (.mv (.t 1)), none⟩, true, false, none, []⟩,
  ⟨⟨(some 6), (.mv (.t 0)), none⟩, true, false, none, []⟩,
  ⟨⟨(some 7), (.xx (.p .nilCk) [(.t 6)]), none⟩, true, false, none, []⟩,
  ⟨⟨(some 8), (.fadr 0 1 .sc (.t 7)), none⟩, true, false, none, []⟩,
  ⟨⟨(some 9), (.load .sc 1 (.t 8)), none⟩, true, false, none, []⟩,
  ⟨⟨(some 10), (.mv (.t 1)), none⟩, true, false, none, []⟩,
  ⟨⟨(some 11), (.idx 34 (.t 9) (.t 10)), none⟩, true, false, none, []⟩,
  ⟨⟨(some 12), (.fadr 0 32 (.ia .u8 32) (.t 11)), none⟩, true, false, none, []⟩,
  ⟨⟨(some 13), (.load (.ia .u8 32) 32 (.t 12)), none⟩, true, false, none, []⟩,
  ⟨⟨(some 14), (.mv (.t 0)), none⟩, true, false, none, []⟩,
  ⟨⟨(some 15), (.xx (.p .nilCk) [(.t 14)]), none⟩, true, false, none, []⟩,
  ⟨⟨(some 16), (.fadr 0 1 .sc (.t 15)), none⟩, true, false, none, []⟩,
  ⟨⟨(some 17), (.load .sc 1 (.t 16)), none⟩, true, false, none, []⟩,
  ⟨⟨(some 18), (.len false (.t 17)), none⟩, true, false, none, []⟩,
  ⟨⟨(some 21), (.mv (.t 0)), none⟩, true, false, none, []⟩,
  ⟨⟨(some 22), (.xx (.p .nilCk) [(.t 21)]), none⟩, true, false, none, []⟩,
  ⟨⟨(some 23), (.fadr 0 1 .sc (.t 22)), none⟩, true, false, none, []⟩,
  ⟨⟨(some 24), (.load .sc 1 (.t 23)), none⟩, true, false, none, []⟩,
  ⟨⟨(some 25), (.len false (.t 24)), none⟩, true, false, none, []⟩,
  ⟨⟨(some 27), (.mv (.t 0)), none⟩, true, false, none, []⟩,
  ⟨⟨(some 28), (.xx (.p .nilCk) [(.t 27)]), none⟩, true, false, none, []⟩,
  ⟨⟨(some 29), (.fadr 0 1 .sc (.t 28)), none⟩, true, false, none, []⟩,
  ⟨⟨(some 30), (.load .sc 1 (.t 29)), none⟩, true, false, none, []⟩,
  ⟨⟨(some 31), (.len false (.t 30)), none⟩, true, false, none, []⟩,
  ⟨⟨(some 19), (.call F_digest_Home [((.ia .u8 32), (.t 13)), (.sc, (.t 18))]), none⟩, false, true, (some [29, 23]), []⟩,
  ⟨⟨(some 20), (.bin .sub (.t 5) (.t 19)), none⟩, true, false, none, []⟩,
  ⟨⟨(some 26), (.bin .add (.t 20) (.t 25)), none⟩, true, false, none, []⟩,
  ⟨⟨(some 32), (.bin .rem (.t 26) (.t 31)), none⟩, true, false, none, []⟩,
  ⟨⟨(some 4), (.mv (.t 32)), none⟩, true, false, none, []⟩]
def a_Ptable_Table_far : AFunc := ⟨[(.tmp 4)], (.seq (.region q_Ptable_Table_far_0) (.seq (.regionD q_Ptable_Table_far_1) .ret))⟩

def q_ref11_Find_0 : List AOper := [
  ⟨(some 3), (.box 23 (.ia .u8 32) (.t 1)), none⟩,
  ⟨(some 4), (.mv (.v (.int .i64 0))), none⟩]
def q_ref11_Find_1 : List AOper := [
  ⟨(some 5), (.mv (.v (.int .i64 0))), none⟩]
def q_ref11_Find_2 : List AOper := [
  ⟨(some 6), (.mv (.t 5)), none⟩,
  ⟨(some 7), (.mv (.t 0)), none⟩,
  ⟨(some 8), (.len false (.t 7)), none⟩,
  ⟨(some 9), (.bin .lss (.t 6) (.t 8)), none⟩]
def q_ref11_Find_3 : List DOp := [
  ⟨⟨(some 12), (.mv (.t 0)), none⟩, true, false, none, []⟩,
  ⟨⟨(some 13), (.mv (.t 5)), none⟩, true, false, none, []⟩,
  ⟨⟨(some 14), (.idx 34 (.t 12) (.t 13)), none⟩, true, false, none, []⟩,
  ⟨⟨(some 15), (.fadr 0 32 (.ia .u8 32) (.t 14)), none⟩, true, false, none, []⟩,
  ⟨⟨(some 16), (.load (.ia .u8 32) 32 (.t 15)), none⟩, true, false, none, []⟩,
  ⟨⟨(some 17), (.load (.ia .u8 32) 32 (.t 3)), none⟩, true, false, none, []⟩,
  ⟨⟨(some 18), (.eq (.ia 32) false (.t 16) (.t 17)), none⟩, true, false, none, []⟩]
def q_ref11_Find_4 : List AOper := [
  ⟨(some 19), (.mv (.t 5)), none⟩,
  ⟨(some 4), (.mv (.t 19)), none⟩]
def q_ref11_Find_5 : List AOper := [
  ⟨(some 10), (.mv (.t 5)), none⟩,
  ⟨(some 11), (.bin .add (.t 10) (.v (.int .i64 1))), none⟩,
  ⟨(some 5), (.mv (.t 11)), none⟩]
def q_ref11_Find_L6 : ACode := (.seq (.seq (.region q_ref11_Find_2) (.cond (.t 9) .skip (.exit 0))) (.seq (.block 1 (.seq (.regionD q_ref11_Find_3) (.cond (.t 18) (.seq (.region q_ref11_Find_4) .ret) .skip))) (.region q_ref11_Find_5)))
def q_ref11_Find_6 : List AOper := [
  ⟨(some 4), (.mv (.v (.int .i64 (-1)))), none⟩]
def a_ref11_Find : AFunc := ⟨[(.tmp 4)], (.seq (.region q_ref11_Find_0) (.seq (.seq (.region q_ref11_Find_1) (.block 0 (.loop q_ref11_Find_L6))) (.seq (.region q_ref11_Find_6) .ret)))⟩

def q_ref11_Same_0 : List AOper := [
  ⟨(some 4), (.mv (.v (.bool false))), none⟩]
def q_ref11_Same_1 : List AOper := [
  ⟨(some 6), (.mv (.t 0)), none⟩,
  ⟨(some 7), (.len false (.t 6)), none⟩,
  ⟨(some 8), (.mv (.t 1)), none⟩,
  ⟨(some 9), (.len false (.t 8)), none⟩,
  ⟨(some 10), (.eq .scI true (.t 7) (.t 9)), none⟩]
def q_ref11_Same_2 : List AOper := [
  ⟨(some 4), (.mv (.v (.bool false))), none⟩]
def q_ref11_Same_3 : List AOper := [
  ⟨(some 5), (.mv (.v (.int .i64 0))), none⟩]
def q_ref11_Same_4 : List AOper := [
  ⟨(some 11), (.mv (.t 5)), none⟩,
  ⟨(some 12), (.mv (.t 0)), none⟩,
  ⟨(some 13), (.len false (.t 12)), none⟩,
  ⟨(some 14), (.bin .lss (.t 11) (.t 13)), none⟩]
def q_ref11_Same_5 : List DOp := [
  ⟨⟨(some 17), (.mv (.t 0)), none⟩, true, false, none, []⟩,
  ⟨⟨(some 18), (.mv (.t 5)), none⟩, true, false, none, []⟩,
  ⟨⟨(some 19), (.idx 34 (.t 17) (.t 18)), none⟩, true, false, none, []⟩,
  ⟨⟨(some 20), (.load .ag 34 (.t 19)), none⟩, true, false, none, []⟩,
  ⟨⟨(some 21), (.mv (.t 1)), none⟩, true, false, none, []⟩,
  ⟨⟨(some 22), (.mv (.t 5)), none⟩, true, false, none, []⟩,
  ⟨⟨(some 23), (.idx 34 (.t 21) (.t 22)), none⟩, true, false, none, []⟩,
  ⟨⟨(some 24), (.load .ag 34 (.t 23)), none⟩, true, false, none, []⟩,
  ⟨⟨(some 25), (.eq (.st [(0, (32, ((.ia .u8 32), (.ia 32)))), (32, (1, (.sc, .scI))), (33, (1, (.sc, .scI)))]) true (.t 20) (.t 24)), none⟩, true, false, none, []⟩]
def q_ref11_Same_6 : List AOper := [
  ⟨(some 4), (.mv (.v (.bool false))), none⟩]
def q_ref11_Same_7 : List AOper := [
  ⟨(some 15), (.mv (.t 5)), none⟩,
  ⟨(some 16), (.bin .add (.t 15) (.v (.int .i64 1))), none⟩,
  ⟨(some 5), (.mv (.t 16)), none⟩]
def q_ref11_Same_L8 : ACode := (.seq (.seq (.region q_ref11_Same_4) (.cond (.t 14) .skip (.exit 0))) (.seq (.block 1 (.seq (.regionD q_ref11_Same_5) (.cond (.t 25) (.seq (.region q_ref11_Same_6) .ret) .skip))) (.region q_ref11_Same_7)))
def q_ref11_Same_8 : List AOper := [
  ⟨(some 4), (.mv (.v (.bool true))), none⟩]
def a_ref11_Same : AFunc := ⟨[(.tmp 4)], (.seq (.region q_ref11_Same_0) (.seq (.seq (.region q_ref11_Same_1) (.cond (.t 10) (.seq (.region q_ref11_Same_2) .ret) .skip)) (.seq (.seq (.region q_ref11_Same_3) (.block 0 (.loop q_ref11_Same_L8))) (.seq (.region q_ref11_Same_8) .ret))))⟩

def q_ref11_Places_0 : List AOper := [
  ⟨(some 4), (.mv (.v .nilS)), none⟩]
def q_ref11_Places_1 : List AOper := [
  ⟨(some 7), (.mv (.t 1)), none⟩,
  ⟨(some 8), (.mk 32 34 48 (.agg [(.iarr .u8 32 (List.replicate 32 0)), (.int .i64 0), (.int .i64 0)]) (.t 7) (.t 7)), none⟩,
  ⟨(some 5), (.mv (.t 8)), none⟩]
def q_ref11_Places_2 : List AOper := [
  ⟨(some 6), (.mv (.v (.int .i64 0))), none⟩]
def q_ref11_Places_3 : List AOper := [
  ⟨(some 9), (.mv (.t 6)), none⟩,
  ⟨(some 10), (.mv (.t 0)), none⟩,
  ⟨(some 11), (.len false (.t 10)), none⟩,
  ⟨(some 12), (.bin .lss (.t 9) (.t 11)), none⟩]
def q_ref11_Places_4 : List AOper := [
  ⟨(some 15), (.mv (.t 5)), none⟩,
  ⟨(some 16), (.mv (.t 0)), none⟩,
  ⟨(some 17), (.mv (.t 6)), none⟩,
  ⟨(some 18), (.idx 34 (.t 16) (.t 17)), none⟩,
  ⟨(some 19), (.load .ag 34 (.t 18)), none⟩,
  ⟨(some 20), (.call F_ref11_lay [(.sc, (.t 15)), (.ag, (.t 19))]), none⟩,
  ⟨(some 5), (.mv (.t 20)), none⟩]
def q_ref11_Places_5 : List AOper := [
  ⟨(some 13), (.mv (.t 6)), none⟩,
  ⟨(some 14), (.bin .add (.t 13) (.v (.int .i64 1))), none⟩,
  ⟨(some 6), (.mv (.t 14)), none⟩]
def q_ref11_Places_L6 : ACode := (.seq (.seq (.region q_ref11_Places_3) (.cond (.t 12) .skip (.exit 0))) (.seq (.block 1 (.region q_ref11_Places_4)) (.region q_ref11_Places_5)))
def q_ref11_Places_6 : List AOper := [
  ⟨(some 21), (.mv (.t 5)), none⟩,
  ⟨(some 4), (.mv (.t 21)), none⟩]
def a_ref11_Places : AFunc := ⟨[(.tmp 4)], (.seq (.region q_ref11_Places_0) (.seq (.region q_ref11_Places_1) (.seq (.seq (.region q_ref11_Places_2) (.block 0 (.loop q_ref11_Places_L6))) (.seq (.region q_ref11_Places_6) .ret))))⟩

def q_ref11_Entries_0 : List AOper := [
  ⟨(some 2), (.mv (.v .nilS)), none⟩,
  ⟨(some 3), (.mv (.v (.bool false))), none⟩]
def q_ref11_Entries_1 : List AOper := [
  ⟨(some 4), (.mv (.v .nilS)), none⟩]
def q_ref11_Entries_2 : List AOper := [
  ⟨(some 5), (.mv (.v (.int .i64 0))), none⟩]
def q_ref11_Entries_3 : List AOper := [
  ⟨(some 8), (.mv (.t 5)), none⟩,
  ⟨(some 9), (.mv (.t 0)), none⟩,
  ⟨(some 10), (.len false (.t 9)), none⟩,
  ⟨(some 11), (.bin .lss (.t 8) (.t 10)), none⟩]
def q_ref11_Entries_4 : List AOper := [
  ⟨(some 14), (.mv (.t 0)), none⟩,
  ⟨(some 15), (.mv (.t 5)), none⟩,
  ⟨(some 16), (.idx 34 (.t 14) (.t 15)), none⟩,
  ⟨(some 17), (.fadr 33 1 .sc (.t 16)), none⟩,
  ⟨(some 18), (.load .sc 1 (.t 17)), none⟩,
  ⟨(some 19), (.eq .scI false (.t 18) (.v (.int .i64 0))), none⟩]
def q_ref11_Entries_5 : List AOper := [
  ⟨(some 20), (.mv (.t 0)), none⟩,
  ⟨(some 21), (.mv (.t 5)), none⟩,
  ⟨(some 22), (.idx 34 (.t 20) (.t 21)), none⟩,
  ⟨(some 23), (.load .ag 34 (.t 22)), none⟩,
  ⟨(some 24), (.build .ag [(.iarr .u8 32 (List.replicate 32 0)), (.int .i64 0), (.int .i64 0)] []), none⟩,
  ⟨(some 25), (.eq (.st [(0, (32, ((.ia .u8 32), (.ia 32)))), (32, (1, (.sc, .scI))), (33, (1, (.sc, .scI)))]) true (.t 23) (.t 24)), none⟩]
def q_ref11_Entries_6 : List AOper := [
  ⟨(some 2), (.mv (.v .nilS)), none⟩,
  ⟨(some 3), (.mv (.v (.bool false))), none⟩]
def q_ref11_Entries_7 : List AOper := [
  ⟨(some 26), (.mv (.t 4)), none⟩,
  ⟨(some 27), (.mv (.t 0)), none⟩,
  ⟨(some 28), (.mv (.t 5)), none⟩,
  ⟨(some 29), (.idx 34 (.t 27) (.t 28)), none⟩,
  ⟨(some 30), (.fadr 0 32 (.ia .u8 32) (.t 29)), none⟩,
  ⟨(some 31), (.load (.ia .u8 32) 32 (.t 30)), none⟩,
  ⟨(some 32), (.call F_ref11_Find [(.sc, (.t 26)), ((.ia .u8 32), (.t 31))]), none⟩,
  ⟨(some 33), (.bin .geq (.t 32) (.v (.int .i64 0))), none⟩]
def q_ref11_Entries_8 : List AOper := [
  ⟨(some 2), (.mv (.v .nilS)), none⟩,
  ⟨(some 3), (.mv (.v (.bool false))), none⟩]
def q_ref11_Entries_9 : List AOper := [
  ⟨(some 35), (.mv (.t 4)), none⟩,
  ⟨(some 36), (.mv (.t 0)), none⟩,
  ⟨(some 37), (.len false (.t 36)), none⟩,
  ⟨(some 38), (.mv (.t 0)), none⟩,
  ⟨(some 39), (.mv (.t 5)), none⟩,
  ⟨(some 40), (.idx 34 (.t 38) (.t 39)), none⟩,
  ⟨(some 41), (.load .ag 34 (.t 40)), none⟩,
  ⟨(some 42), (.call F_ref11_Put [(.sc, (.t 35)), (.sc, (.t 37)), (.ag, (.t 41))]), none⟩,
  ⟨(some 34), (.mv (.t 42)), none⟩,
  ⟨(some 43), (.ext 0 (.t 34)), none⟩,
  ⟨(some 44), (.ext 1 (.t 34)), none⟩,
  ⟨(some 6), (.mv (.t 43)), none⟩,
  ⟨(some 7), (.mv (.t 44)), none⟩]
def q_ref11_Entries_10 : List AOper := [
  ⟨(some 45), (.mv (.t 7)), none⟩,
  ⟨(some 46), (.eq .scI true (.t 45) (.v (.int .i64 0))), none⟩]
def q_ref11_Entries_11 : List AOper := [
  ⟨(some 2), (.mv (.v .nilS)), none⟩,
  ⟨(some 3), (.mv (.v (.bool false))), none⟩]
def q_ref11_Entries_12 : List AOper := [
  ⟨(some 47), (.mv (.t 6)), none⟩,
  ⟨(some 4), (.mv (.t 47)), none⟩]
def q_ref11_Entries_13 : List AOper := [
  ⟨(some 12), (.mv (.t 5)), none⟩,
  ⟨(some 13), (.bin .add (.t 12) (.v (.int .i64 1))), none⟩,
  ⟨(some 5), (.mv (.t 13)), none⟩]
def q_ref11_Entries_L14 : ACode := (.seq (.seq (.region q_ref11_Entries_3) (.cond (.t 11) .skip (.exit 0))) (.seq (.block 1 (.seq (.seq (.region q_ref11_Entries_4) (.cond (.t 19) (.seq (.seq (.region q_ref11_Entries_5) (.cond (.t 25) (.seq (.region q_ref11_Entries_6) .ret) .skip)) (.exit 1)) .skip)) (.seq (.seq (.region q_ref11_Entries_7) (.cond (.t 33) (.seq (.region q_ref11_Entries_8) .ret) .skip)) (.seq (.region q_ref11_Entries_9) (.seq (.seq (.region q_ref11_Entries_10) (.cond (.t 46) (.seq (.region q_ref11_Entries_11) .ret) .skip)) (.region q_ref11_Entries_12)))))) (.region q_ref11_Entries_13)))
def q_ref11_Entries_14 : List AOper := [
  ⟨(some 48), (.mv (.t 4)), none⟩,
  ⟨(some 2), (.mv (.t 48)), none⟩,
  ⟨(some 3), (.mv (.v (.bool true))), none⟩]
def a_ref11_Entries : AFunc := ⟨[(.tmp 2), (.tmp 3)], (.seq (.region q_ref11_Entries_0) (.seq (.region q_ref11_Entries_1) (.seq (.seq (.region q_ref11_Entries_2) (.block 0 (.loop q_ref11_Entries_L14))) (.seq (.region q_ref11_Entries_14) .ret))))⟩

def q_ref11_Put_0 : List AOper := [
  ⟨(some 5), (.box 32 .ag (.t 2)), none⟩,
  ⟨(some 6), (.mv (.v .nilS)), none⟩,
  ⟨(some 7), (.mv (.v (.int .i64 0))), none⟩]
def q_ref11_Put_1 : List AOper := [
  ⟨(some 12), (.load .ag 34 (.t 5)), none⟩,
  ⟨(some 13), (.call F_ref11_right [(.ag, (.t 12))]), none⟩,
  ⟨(some 14), (.un .not (.t 13)), none⟩]
def q_ref11_Put_2 : List AOper := [
  ⟨(some 15), (.mv (.t 0)), none⟩,
  ⟨(some 6), (.mv (.t 15)), none⟩,
  ⟨(some 7), (.mv (.v (.int .i64 2))), none⟩]
def q_ref11_Put_3 : List AOper := [
  ⟨(some 16), (.mv (.t 0)), none⟩,
  ⟨(some 17), (.fadr 0 32 (.ia .u8 32) (.t 5)), none⟩,
  ⟨(some 18), (.load (.ia .u8 32) 32 (.t 17)), none⟩,
  ⟨(some 19), (.call F_ref11_Find [(.sc, (.t 16)), ((.ia .u8 32), (.t 18))]), none⟩,
  ⟨(some 8), (.mv (.t 19)), none⟩]
def q_ref11_Put_4 : List AOper := [
  ⟨(some 20), (.mv (.t 8)), none⟩,
  ⟨(some 21), (.bin .lss (.t 20) (.v (.int .i64 0))), none⟩,
  ⟨(some 22), (.mv (.t 21)), none⟩,
  ⟨(some 23), (.mv (.t 0)), (some (22, true))⟩,
  ⟨(some 24), (.len false (.t 23)), (some (22, true))⟩,
  ⟨(some 25), (.bin .add (.t 24) (.v (.int .i64 1))), (some (22, true))⟩,
  ⟨(some 26), (.mv (.t 1)), (some (22, true))⟩,
  ⟨(some 27), (.bin .geq (.t 25) (.t 26)), (some (22, true))⟩,
  ⟨(some 28), (.pick (.t 22) (.t 27) (.v (.bool false))), none⟩]
def q_ref11_Put_5 : List AOper := [
  ⟨(some 29), (.mv (.t 0)), none⟩,
  ⟨(some 6), (.mv (.t 29)), none⟩,
  ⟨(some 7), (.mv (.v (.int .i64 6))), none⟩]
def q_ref11_Put_6 : List AOper := [
  ⟨(some 9), (.mv (.v .nilS)), none⟩]
def q_ref11_Put_7 : List AOper := [
  ⟨(some 10), (.mv (.v (.bool false))), none⟩]
def q_ref11_Put_8 : List AOper := [
  ⟨(some 11), (.mv (.v (.int .i64 0))), none⟩]
def q_ref11_Put_9 : List AOper := [
  ⟨(some 30), (.mv (.t 11)), none⟩,
  ⟨(some 31), (.mv (.t 0)), none⟩,
  ⟨(some 32), (.len false (.t 31)), none⟩,
  ⟨(some 33), (.bin .lss (.t 30) (.t 32)), none⟩]
def q_ref11_Put_10 : List DOp := [
  ⟨⟨(some 36), (.mv (.t 10)), none⟩, true, false, none, []⟩,
  ⟨⟨(some 37), (.un .not (.t 36)), none⟩, true, false, none, []⟩,
  ⟨⟨(some 38), (.mv (.t 37)), none⟩, true, false, none, []⟩,
  ⟨⟨(some 39), (.mv (.t 0)), (some (38, true))⟩, true, false, none, []⟩,
  ⟨⟨(some 40), (.mv (.t 11)), (some (38, true))⟩, true, false, none, []⟩,
  ⟨⟨(some 41), (.idx 34 (.t 39) (.t 40)), (some (38, true))⟩, true, false, none, []⟩,
  ⟨⟨(some 42), (.fadr 0 32 (.ia .u8 32) (.t 41)), (some (38, true))⟩, true, false, none, []⟩,
  ⟨⟨(some 43), (.load (.ia .u8 32) 32 (.t 42)), (some (38, true))⟩, true, false, none, []⟩,
  ⟨⟨(some 44), (.fadr 0 32 (.ia .u8 32) (.t 5)), (some (38, true))⟩, true, false, none, []⟩,
  ⟨⟨(some 45), (.load (.ia .u8 32) 32 (.t 44)), (some (38, true))⟩, true, false, none, []⟩,
  ⟨⟨(some 46), (.call F_ref11_less [((.ia .u8 32), (.t 43)), ((.ia .u8 32), (.t 45))]), (some (38, true))⟩, false, false, none, []⟩,
  ⟨⟨(some 47), (.un .not (.t 46)), (some (38, true))⟩, true, false, none, []⟩,
  ⟨⟨(some 48), (.pick (.t 38) (.t 47) (.v (.bool false))), none⟩, true, false, none, []⟩]
def q_ref11_Put_11 : List AOper := [
  ⟨(some 49), (.mv (.t 9)), none⟩,
  ⟨(some 50), (.load .ag 34 (.t 5)), none⟩,
  ⟨(some 51), (.bsl 32 .ag 34 [(.t 50)]), none⟩,
  ⟨(some 52), (.app 32 34 48 (.t 49) (.t 51)), none⟩,
  ⟨(some 9), (.mv (.t 52)), none⟩]
def q_ref11_Put_12 : List AOper := [
  ⟨(some 10), (.mv (.v (.bool true))), none⟩]
def q_ref11_Put_13 : List AOper := [
  ⟨(some 53), (.mv (.t 11)), none⟩,
  ⟨(some 54), (.mv (.t 8)), none⟩,
  ⟨(some 55), (.eq .scI true (.t 53) (.t 54)), none⟩]
def q_ref11_Put_14 : List AOper := [
  ⟨(some 56), (.mv (.t 9)), none⟩,
  ⟨(some 57), (.mv (.t 0)), none⟩,
  ⟨(some 58), (.mv (.t 11)), none⟩,
  ⟨(some 59), (.idx 34 (.t 57) (.t 58)), none⟩,
  ⟨(some 60), (.load .ag 34 (.t 59)), none⟩,
  ⟨(some 61), (.bsl 32 .ag 34 [(.t 60)]), none⟩,
  ⟨(some 62), (.app 32 34 48 (.t 56) (.t 61)), none⟩,
  ⟨(some 9), (.mv (.t 62)), none⟩]
def q_ref11_Put_15 : List AOper := [
  ⟨(some 34), (.mv (.t 11)), none⟩,
  ⟨(some 35), (.bin .add (.t 34) (.v (.int .i64 1))), none⟩,
  ⟨(some 11), (.mv (.t 35)), none⟩]
def q_ref11_Put_L16 : ACode := (.seq (.seq (.region q_ref11_Put_9) (.cond (.t 33) .skip (.exit 0))) (.seq (.block 1 (.seq (.seq (.regionD q_ref11_Put_10) (.cond (.t 48) (.seq (.region q_ref11_Put_11) (.region q_ref11_Put_12)) .skip)) (.seq (.region q_ref11_Put_13) (.cond (.t 55) (.region q_ref11_Put_14) .skip)))) (.region q_ref11_Put_15)))
def q_ref11_Put_16 : List AOper := [
  ⟨(some 63), (.mv (.t 10)), none⟩,
  ⟨(some 64), (.un .not (.t 63)), none⟩]
def q_ref11_Put_17 : List AOper := [
  ⟨(some 65), (.mv (.t 9)), none⟩,
  ⟨(some 66), (.load .ag 34 (.t 5)), none⟩,
  ⟨(some 67), (.bsl 32 .ag 34 [(.t 66)]), none⟩,
  ⟨(some 68), (.app 32 34 48 (.t 65) (.t 67)), none⟩,
  ⟨(some 9), (.mv (.t 68)), none⟩]
def q_ref11_Put_18 : List AOper := [
  ⟨(some 69), (.mv (.t 9)), none⟩,
  ⟨(some 6), (.mv (.t 69)), none⟩,
  ⟨(some 7), (.mv (.v (.int .i64 0))), none⟩]
def a_ref11_Put : AFunc := ⟨[(.tmp 6), (.tmp 7)], (.seq (.region q_ref11_Put_0) (.seq (.seq (.region q_ref11_Put_1) (.cond (.t 14) (.seq (.region q_ref11_Put_2) .ret) .skip)) (.seq (.region q_ref11_Put_3) (.seq (.seq (.region q_ref11_Put_4) (.cond (.t 28) (.seq (.region q_ref11_Put_5) .ret) .skip)) (.seq (.region q_ref11_Put_6) (.seq (.region q_ref11_Put_7) (.seq (.seq (.region q_ref11_Put_8) (.block 0 (.loop q_ref11_Put_L16))) (.seq (.seq (.region q_ref11_Put_16) (.cond (.t 64) (.region q_ref11_Put_17) .skip)) (.seq (.region q_ref11_Put_18) .ret)))))))))⟩

def q_ref11_Drop_0 : List AOper := [
  ⟨(some 3), (.box 23 (.ia .u8 32) (.t 1)), none⟩,
  ⟨(some 4), (.mv (.v .nilS)), none⟩,
  ⟨(some 5), (.mv (.v (.int .i64 0))), none⟩]
def q_ref11_Drop_1 : List AOper := [
  ⟨(some 8), (.mv (.t 0)), none⟩,
  ⟨(some 9), (.load (.ia .u8 32) 32 (.t 3)), none⟩,
  ⟨(some 10), (.call F_ref11_Find [(.sc, (.t 8)), ((.ia .u8 32), (.t 9))]), none⟩,
  ⟨(some 6), (.mv (.t 10)), none⟩]
def q_ref11_Drop_2 : List AOper := [
  ⟨(some 11), (.mv (.t 6)), none⟩,
  ⟨(some 12), (.bin .lss (.t 11) (.v (.int .i64 0))), none⟩]
def q_ref11_Drop_3 : List AOper := [
  ⟨(some 13), (.mv (.t 0)), none⟩,
  ⟨(some 4), (.mv (.t 13)), none⟩,
  ⟨(some 5), (.mv (.v (.int .i64 8))), none⟩]
def q_ref11_Drop_4 : List AOper := [
  ⟨(some 7), (.mv (.v .nilS)), none⟩]
def q_ref11_Drop_5 : List AOper := [
  ⟨(some 14), (.mv (.t 7)), none⟩,
  ⟨(some 15), (.mv (.t 0)), none⟩,
  ⟨(some 16), (.mv (.t 6)), none⟩,
  ⟨(some 17), (.slc 34 (.t 15) none (some (.t 16))), none⟩,
  ⟨(some 18), (.app 32 34 48 (.t 14) (.t 17)), none⟩,
  ⟨(some 7), (.mv (.t 18)), none⟩]
def q_ref11_Drop_6 : List AOper := [
  ⟨(some 19), (.mv (.t 7)), none⟩,
  ⟨(some 20), (.mv (.t 0)), none⟩,
  ⟨(some 21), (.mv (.t 6)), none⟩,
  ⟨(some 22), (.bin .add (.t 21) (.v (.int .i64 1))), none⟩,
  ⟨(some 23), (.slc 34 (.t 20) (some (.t 22)) none), none⟩,
  ⟨(some 24), (.app 32 34 48 (.t 19) (.t 23)), none⟩,
  ⟨(some 4), (.mv (.t 24)), none⟩,
  ⟨(some 5), (.mv (.v (.int .i64 0))), none⟩]
def a_ref11_Drop : AFunc := ⟨[(.tmp 4), (.tmp 5)], (.seq (.region q_ref11_Drop_0) (.seq (.region q_ref11_Drop_1) (.seq (.seq (.region q_ref11_Drop_2) (.cond (.t 12) (.seq (.region q_ref11_Drop_3) .ret) .skip)) (.seq (.region q_ref11_Drop_4) (.seq (.region q_ref11_Drop_5) (.seq (.region q_ref11_Drop_6) .ret))))))⟩

def q_ref11_lay_0 : List AOper := [
  ⟨(some 3), (.box 32 .ag (.t 1)), none⟩,
  ⟨(some 4), (.mv (.v .nilS)), none⟩]
def q_ref11_lay_1 : List AOper := [
  ⟨(some 10), (.mv (.t 0)), none⟩,
  ⟨(some 11), (.len false (.t 10)), none⟩,
  ⟨(some 5), (.mv (.t 11)), none⟩]
def q_ref11_lay_2 : List AOper := [
  ⟨(some 6), (.mv (.v .nilS)), none⟩]
def q_ref11_lay_3 : List AOper := [
  ⟨(some 12), (.mv (.t 6)), none⟩,
  ⟨(some 13), (.mv (.t 0)), none⟩,
  ⟨(some 14), (.app 32 34 48 (.t 12) (.t 13)), none⟩,
  ⟨(some 6), (.mv (.t 14)), none⟩]
def q_ref11_lay_4 : List AOper := [
  ⟨(some 15), (.load .ag 34 (.t 3)), none⟩,
  ⟨(some 7), (.alloc 32 [(.iarr .u8 32 (List.replicate 32 0)), (.int .i64 0), (.int .i64 0)]), none⟩,
  ⟨none, (.store .ag 34 (.t 7) (.t 15)), none⟩]
def q_ref11_lay_5 : List AOper := [
  ⟨(some 16), (.fadr 0 32 (.ia .u8 32) (.t 3)), none⟩,
  ⟨(some 17), (.load (.ia .u8 32) 32 (.t 16)), none⟩,
  ⟨(some 18), (.mv (.t 5)), none⟩,
  ⟨(some 19), (.call F_ref03_Home [((.ia .u8 32), (.t 17)), (.sc, (.t 18))]), none⟩,
  ⟨(some 8), (.mv (.t 19)), none⟩]
def q_ref11_lay_6 : List AOper := [
  ⟨(some 20), (.mv (.t 6)), none⟩,
  ⟨(some 21), (.mv (.t 8)), none⟩,
  ⟨(some 22), (.idx 34 (.t 20) (.t 21)), none⟩,
  ⟨(some 23), (.fadr 33 1 .sc (.t 22)), none⟩,
  ⟨(some 24), (.load .sc 1 (.t 23)), none⟩,
  ⟨(some 25), (.bin .gtr (.t 24) (.v (.int .i64 0))), none⟩]
def q_ref11_lay_7 : List DOp := [
  ⟨⟨(some 26), (.fadr 0 32 (.ia .u8 32) (.t 7)), none⟩, true, false, none, []⟩,
  ⟨⟨(some 27), (.load (.ia .u8 32) 32 (.t 26)), none⟩, true, false, none, []⟩,
  ⟨⟨(some 28), (.mv (.t 6)), none⟩, true, false, none, []⟩,
  ⟨⟨(some 29), (.mv (.t 8)), none⟩, true, false, none, []⟩,
  ⟨⟨(some 30), (.idx 34 (.t 28) (.t 29)), none⟩, true, false, none, []⟩,
  ⟨⟨(some 31), (.fadr 0 32 (.ia .u8 32) (.t 30)), none⟩, true, false, none, []⟩,
  ⟨⟨(some 32), (.load (.ia .u8 32) 32 (.t 31)), none⟩, true, false, none, []⟩,
  ⟨⟨(some 33), (.mv (.t 8)), none⟩, true, false, none, []⟩,
  ⟨⟨(some 34), (.mv (.t 5)), none⟩, true, false, none, []⟩,
  ⟨⟨(some 35), (.call F_ref11_goes [((.ia .u8 32), (.t 27)), ((.ia .u8 32), (.t 32)), (.sc, (.t 33)), (.sc, (.t 34))]), none⟩, false, false, none, []⟩]
def q_ref11_lay_8 : List AOper := [
  ⟨(some 36), (.mv (.t 6)), none⟩,
  ⟨(some 37), (.mv (.t 8)), none⟩,
  ⟨(some 38), (.idx 34 (.t 36) (.t 37)), none⟩,
  ⟨(some 39), (.load .ag 34 (.t 38)), none⟩,
  ⟨(some 9), (.alloc 32 [(.iarr .u8 32 (List.replicate 32 0)), (.int .i64 0), (.int .i64 0)]), none⟩,
  ⟨none, (.store .ag 34 (.t 9) (.t 39)), none⟩]
def q_ref11_lay_9 : List AOper := [
  ⟨(some 40), (.mv (.t 6)), none⟩,
  ⟨(some 41), (.mv (.t 8)), none⟩,
  ⟨(some 42), (.load .ag 34 (.t 7)), none⟩,
  ⟨(some 43), (.idx 34 (.t 40) (.t 41)), none⟩,
  ⟨none, (.store .ag 34 (.t 43) (.t 42)), none⟩]
def q_ref11_lay_10 : List AOper := [
  ⟨(some 44), (.load .ag 34 (.t 9)), none⟩,
  ⟨none, (.store .ag 34 (.t 7) (.t 44)), none⟩]
def q_ref11_lay_11 : List AOper := [
  ⟨(some 45), (.mv (.t 8)), none⟩,
  ⟨(some 46), (.bin .add (.t 45) (.v (.int .i64 1))), none⟩,
  ⟨(some 47), (.mv (.t 5)), none⟩,
  ⟨(some 48), (.bin .rem (.t 46) (.t 47)), none⟩,
  ⟨(some 8), (.mv (.t 48)), none⟩]
def q_ref11_lay_L12 : ACode := (.seq (.seq (.region q_ref11_lay_6) (.cond (.t 25) .skip (.exit 0))) (.block 1 (.seq (.seq (.regionD q_ref11_lay_7) (.cond (.t 35) (.seq (.region q_ref11_lay_8) (.seq (.region q_ref11_lay_9) (.region q_ref11_lay_10))) .skip)) (.region q_ref11_lay_11))))
def q_ref11_lay_12 : List AOper := [
  ⟨(some 49), (.mv (.t 6)), none⟩,
  ⟨(some 50), (.mv (.t 8)), none⟩,
  ⟨(some 51), (.load .ag 34 (.t 7)), none⟩,
  ⟨(some 52), (.idx 34 (.t 49) (.t 50)), none⟩,
  ⟨none, (.store .ag 34 (.t 52) (.t 51)), none⟩]
def q_ref11_lay_13 : List AOper := [
  ⟨(some 53), (.mv (.t 6)), none⟩,
  ⟨(some 4), (.mv (.t 53)), none⟩]
def a_ref11_lay : AFunc := ⟨[(.tmp 4)], (.seq (.region q_ref11_lay_0) (.seq (.region q_ref11_lay_1) (.seq (.region q_ref11_lay_2) (.seq (.region q_ref11_lay_3) (.seq (.region q_ref11_lay_4) (.seq (.region q_ref11_lay_5) (.seq (.block 0 (.loop q_ref11_lay_L12)) (.seq (.region q_ref11_lay_12) (.seq (.region q_ref11_lay_13) .ret)))))))))⟩

def q_ref11_right_0 : List AOper := [
  ⟨(some 1), (.box 32 .ag (.t 0)), none⟩,
  ⟨(some 2), (.mv (.v (.bool false))), none⟩]
def q_ref11_right_1 : List AOper := [
  ⟨(some 3), (.fadr 33 1 .sc (.t 1)), none⟩,
  ⟨(some 4), (.load .sc 1 (.t 3)), none⟩,
  ⟨(some 5), (.bin .geq (.t 4) (.v (.int .i64 1))), none⟩,
  ⟨(some 6), (.mv (.t 5)), none⟩,
  ⟨(some 7), (.fadr 33 1 .sc (.t 1)), (some (6, true))⟩,
  ⟨(some 8), (.load .sc 1 (.t 7)), (some (6, true))⟩,
  ⟨(some 9), (.bin .leq (.t 8) (.v (.int .i64 1099511627776))), (some (6, true))⟩,
  ⟨(some 10), (.pick (.t 6) (.t 9) (.v (.bool false))), none⟩,
  ⟨(some 11), (.mv (.t 10)), none⟩,
  ⟨(some 12), (.fadr 32 1 .sc (.t 1)), (some (11, true))⟩,
  ⟨(some 13), (.load .sc 1 (.t 12)), (some (11, true))⟩,
  ⟨(some 14), (.bin .geq (.t 13) (.v (.int .i64 0))), (some (11, true))⟩,
  ⟨(some 15), (.pick (.t 11) (.t 14) (.v (.bool false))), none⟩,
  ⟨(some 16), (.mv (.t 15)), none⟩,
  ⟨(some 17), (.fadr 32 1 .sc (.t 1)), (some (16, true))⟩,
  ⟨(some 18), (.load .sc 1 (.t 17)), (some (16, true))⟩,
  ⟨(some 19), (.bin .lss (.t 18) (.v (.int .i64 200))), (some (16, true))⟩,
  ⟨(some 20), (.pick (.t 16) (.t 19) (.v (.bool false))), none⟩,
  ⟨(some 2), (.mv (.t 20)), none⟩]
def a_ref11_right : AFunc := ⟨[(.tmp 2)], (.seq (.region q_ref11_right_0) (.seq (.region q_ref11_right_1) .ret))⟩

def q_ref11_less_0 : List AOper := [
  ⟨(some 2), (.box 23 (.ia .u8 32) (.t 0)), none⟩,
  ⟨(some 3), (.box 23 (.ia .u8 32) (.t 1)), none⟩,
  ⟨(some 4), (.mv (.v (.bool false))), none⟩]
def q_ref11_less_1 : List AOper := [
  ⟨(some 5), (.mv (.v (.int .i64 0))), none⟩]
def q_ref11_less_2 : List AOper := [
  ⟨(some 6), (.mv (.t 5)), none⟩,
  ⟨(some 7), (.bin .lss (.t 6) (.v (.int .i64 32))), none⟩]
def q_ref11_less_3 : List DOp := [
  ⟨⟨(some 10), (.mv (.t 5)), none⟩, true, false, none, []⟩,
  ⟨⟨(some 11), (.idxA 32 1 true (.t 2) (.t 10)), none⟩, true, false, none, []⟩,
  ⟨⟨(some 12), (.load .sc 1 (.t 11)), none⟩, true, false, none, []⟩,
  ⟨⟨(some 13), (.mv (.t 5)), none⟩, true, false, none, []⟩,
  ⟨⟨(some 14), (.idxA 32 1 true (.t 3) (.t 13)), none⟩, true, false, none, []⟩,
  ⟨⟨(some 15), (.load .sc 1 (.t 14)), none⟩, true, false, none, []⟩,
  ⟨⟨(some 16), (.eq .scI true (.t 12) (.t 15)), none⟩, true, false, none, []⟩]
def q_ref11_less_4 : List DOp := [
  ⟨⟨(some 17), (.mv (.t 5)), none⟩, true, false, none, []⟩,
  ⟨⟨(some 18), (.idxA 32 1 true (.t 2) (.t 17)), none⟩, true, false, none, []⟩,
  ⟨⟨(some 19), (.load .sc 1 (.t 18)), none⟩, true, false, none, []⟩,
  ⟨⟨(some 20), (.mv (.t 5)), none⟩, true, false, none, []⟩,
  ⟨⟨(some 21), (.idxA 32 1 true (.t 3) (.t 20)), none⟩, true, false, none, []⟩,
  ⟨⟨(some 22), (.load .sc 1 (.t 21)), none⟩, true, false, none, []⟩,
  ⟨⟨(some 23), (.bin .lss (.t 19) (.t 22)), none⟩, true, false, none, []⟩,
  ⟨⟨(some 4), (.mv (.t 23)), none⟩, true, false, none, []⟩]
def q_ref11_less_5 : List AOper := [
  ⟨(some 8), (.mv (.t 5)), none⟩,
  ⟨(some 9), (.bin .add (.t 8) (.v (.int .i64 1))), none⟩,
  ⟨(some 5), (.mv (.t 9)), none⟩]
def q_ref11_less_L6 : ACode := (.seq (.seq (.region q_ref11_less_2) (.cond (.t 7) .skip (.exit 0))) (.seq (.block 1 (.seq (.regionD q_ref11_less_3) (.cond (.t 16) (.seq (.regionD q_ref11_less_4) .ret) .skip))) (.region q_ref11_less_5)))
def q_ref11_less_6 : List AOper := [
  ⟨(some 4), (.mv (.v (.bool false))), none⟩]
def a_ref11_less : AFunc := ⟨[(.tmp 4)], (.seq (.region q_ref11_less_0) (.seq (.seq (.region q_ref11_less_1) (.block 0 (.loop q_ref11_less_L6))) (.seq (.region q_ref11_less_6) .ret)))⟩

def q_ref11_goes_0 : List AOper := [
  ⟨(some 4), (.box 23 (.ia .u8 32) (.t 0)), none⟩,
  ⟨(some 5), (.box 23 (.ia .u8 32) (.t 1)), none⟩,
  ⟨(some 8), (.mv (.v (.bool false))), none⟩]
def q_ref11_goes_1 : List AOper := [
  ⟨(some 11), (.load (.ia .u8 32) 32 (.t 4)), none⟩,
  ⟨(some 12), (.mv (.t 2)), none⟩,
  ⟨(some 13), (.mv (.t 3)), none⟩,
  ⟨(some 14), (.call F_ref11_far [((.ia .u8 32), (.t 11)), (.sc, (.t 12)), (.sc, (.t 13))]), none⟩,
  ⟨(some 9), (.mv (.t 14)), none⟩]
def q_ref11_goes_2 : List AOper := [
  ⟨(some 15), (.load (.ia .u8 32) 32 (.t 5)), none⟩,
  ⟨(some 16), (.mv (.t 2)), none⟩,
  ⟨(some 17), (.mv (.t 3)), none⟩,
  ⟨(some 18), (.call F_ref11_far [((.ia .u8 32), (.t 15)), (.sc, (.t 16)), (.sc, (.t 17))]), none⟩,
  ⟨(some 10), (.mv (.t 18)), none⟩]
def q_ref11_goes_3 : List AOper := [
  ⟨(some 19), (.mv (.t 9)), none⟩,
  ⟨(some 20), (.mv (.t 10)), none⟩,
  ⟨(some 21), (.bin .gtr (.t 19) (.t 20)), none⟩,
  ⟨(some 22), (.mv (.t 21)), none⟩,
  ⟨(some 23), (.mv (.t 9)), (some (22, false))⟩,
  ⟨(some 24), (.mv (.t 10)), (some (22, false))⟩,
  ⟨(some 25), (.eq .scI false (.t 23) (.t 24)), (some (22, false))⟩,
  ⟨(some 26), (.mv (.t 25)), (some (22, false))⟩,
  ⟨(some 27), (.load (.ia .u8 32) 32 (.t 4)), (some (26, true))⟩,
  ⟨(some 28), (.load (.ia .u8 32) 32 (.t 5)), (some (26, true))⟩,
  ⟨(some 29), (.call F_ref11_less [((.ia .u8 32), (.t 27)), ((.ia .u8 32), (.t 28))]), (some (26, true))⟩,
  ⟨(some 30), (.pick (.t 26) (.t 29) (.v (.bool false))), (some (22, false))⟩,
  ⟨(some 31), (.pick (.t 22) (.v (.bool true)) (.t 30)), none⟩,
  ⟨(some 8), (.mv (.t 31)), none⟩]
def a_ref11_goes : AFunc := ⟨[(.tmp 8)], (.seq (.region q_ref11_goes_0) (.seq (.region q_ref11_goes_1) (.seq (.region q_ref11_goes_2) (.seq (.region q_ref11_goes_3) .ret))))⟩

def q_ref11_far_0 : List AOper := [
  ⟨(some 3), (.box 23 (.ia .u8 32) (.t 0)), none⟩,
  ⟨(some 6), (.mv (.v (.int .i64 0))), none⟩]
def q_ref11_far_1 : List AOper := [
  ⟨(some 8), (.load (.ia .u8 32) 32 (.t 3)), none⟩,
  ⟨(some 9), (.mv (.t 2)), none⟩,
  ⟨(some 10), (.call F_ref03_Home [((.ia .u8 32), (.t 8)), (.sc, (.t 9))]), none⟩,
  ⟨(some 7), (.mv (.t 10)), none⟩]
def q_ref11_far_2 : List AOper := [
  ⟨(some 11), (.mv (.t 1)), none⟩,
  ⟨(some 12), (.mv (.t 7)), none⟩,
  ⟨(some 13), (.bin .geq (.t 11) (.t 12)), none⟩]
def q_ref11_far_3 : List AOper := [
  ⟨(some 14), (.mv (.t 1)), none⟩,
  ⟨(some 15), (.mv (.t 7)), none⟩,
  ⟨(some 16), (.bin .sub (.t 14) (.t 15)), none⟩,
  ⟨(some 6), (.mv (.t 16)), none⟩]
def q_ref11_far_4 : List AOper := [
  ⟨(some 17), (.mv (.t 1)), none⟩,
  ⟨(some 18), (.mv (.t 2)), none⟩,
  ⟨(some 19), (.bin .add (.t 17) (.t 18)), none⟩,
  ⟨(some 20), (.mv (.t 7)), none⟩,
  ⟨(some 21), (.bin .sub (.t 19) (.t 20)), none⟩,
  ⟨(some 6), (.mv (.t 21)), none⟩]
def a_ref11_far : AFunc := ⟨[(.tmp 6)], (.seq (.region q_ref11_far_0) (.seq (.region q_ref11_far_1) (.seq (.seq (.region q_ref11_far_2) (.cond (.t 13) (.seq (.region q_ref11_far_3) .ret) .skip)) (.seq (.region q_ref11_far_4) .ret))))⟩

def q_law11_works_0 : List AOper := [
  ⟨(some 0), (.mv (.v (.bool false))), none⟩]
def q_law11_works_1 : List AOper := [
  ⟨(some 22), (.call F_table_New [(.sc, (.v (.int .i64 7)))]), none⟩,
  ⟨(some 21), (.mv (.t 22)), none⟩,
  ⟨(some 23), (.ext 0 (.t 21)), none⟩,
  ⟨(some 24), (.ext 1 (.t 21)), none⟩,
  ⟨(some 1), (.mv (.t 23)), none⟩,
  ⟨(some 2), (.mv (.t 24)), none⟩]
def q_law11_works_2 : List AOper := [
  ⟨(some 26), (.call F_table_New [(.sc, (.v (.int .i64 0)))]), none⟩,
  ⟨(some 25), (.mv (.t 26)), none⟩,
  ⟨(some 27), (.ext 0 (.t 25)), none⟩,
  ⟨(some 28), (.ext 1 (.t 25)), none⟩,
  ⟨(some 3), (.mv (.t 27)), none⟩,
  ⟨(some 4), (.mv (.t 28)), none⟩]
def q_law11_works_3 : List AOper := [
  ⟨(some 29), (.mv (.t 1)), none⟩,
  ⟨(some 30), (.xx (.p (.isNil .ptr false)) [(.t 29)]), none⟩]
def q_law11_works_4 : List AOper := [
  ⟨(some 0), (.mv (.v (.bool false))), none⟩]
def q_law11_works_5 : List AOper := [
  ⟨(some 31), (.mv (.t 1)), none⟩,
  ⟨(some 32), (.call F_law11_at [(.sc, (.v (.int .u8 5))), (.sc, (.v (.int .u8 2)))]), none⟩,
  ⟨(some 33), (.build .ag [(.iarr .u8 32 (List.replicate 32 0)), (.int .i64 0), (.int .i64 0)] [(0, (32, (.t 32))), (32, (1, (.v (.int .i64 1)))), (33, (1, (.v (.int .i64 1))))]), none⟩,
  ⟨(some 34), (.call F_Ptable_Table_Put [(.sc, (.t 31)), (.ag, (.t 33))]), none⟩,
  ⟨(some 5), (.mv (.t 34)), none⟩]
def q_law11_works_6 : List AOper := [
  ⟨(some 35), (.mv (.t 1)), none⟩,
  ⟨(some 36), (.call F_law11_at [(.sc, (.v (.int .u8 5))), (.sc, (.v (.int .u8 1)))]), none⟩,
  ⟨(some 37), (.build .ag [(.iarr .u8 32 (List.replicate 32 0)), (.int .i64 0), (.int .i64 0)] [(0, (32, (.t 36))), (32, (1, (.v (.int .i64 2)))), (33, (1, (.v (.int .i64 3))))]), none⟩,
  ⟨(some 38), (.call F_Ptable_Table_Put [(.sc, (.t 35)), (.ag, (.t 37))]), none⟩,
  ⟨(some 6), (.mv (.t 38)), none⟩]
def q_law11_works_7 : List AOper := [
  ⟨(some 39), (.mv (.t 1)), none⟩,
  ⟨(some 40), (.call F_law11_at [(.sc, (.v (.int .u8 6))), (.sc, (.v (.int .u8 0)))]), none⟩,
  ⟨(some 41), (.build .ag [(.iarr .u8 32 (List.replicate 32 0)), (.int .i64 0), (.int .i64 0)] [(0, (32, (.t 40))), (32, (1, (.v (.int .i64 3)))), (33, (1, (.v (.int .i64 1))))]), none⟩,
  ⟨(some 42), (.call F_Ptable_Table_Put [(.sc, (.t 39)), (.ag, (.t 41))]), none⟩,
  ⟨(some 7), (.mv (.t 42)), none⟩]
def q_law11_works_8 : List AOper := [
  ⟨(some 43), (.mv (.t 1)), none⟩,
  ⟨(some 44), (.build .ag [(.iarr .u8 32 (List.replicate 32 0)), (.int .i64 0), (.int .i64 0)] []), none⟩,
  ⟨(some 45), (.call F_Ptable_Table_Put [(.sc, (.t 43)), (.ag, (.t 44))]), none⟩,
  ⟨(some 8), (.mv (.t 45)), none⟩]
def q_law11_works_9 : List AOper := [
  ⟨(some 46), (.mv (.t 1)), none⟩,
  ⟨(some 47), (.call F_Ptable_Table_Places [(.sc, (.t 46))]), none⟩,
  ⟨(some 9), (.mv (.t 47)), none⟩]
def q_law11_works_10 : List AOper := [
  ⟨(some 48), (.mv (.t 9)), none⟩,
  ⟨(some 49), (.len false (.t 48)), none⟩,
  ⟨(some 50), (.eq .scI true (.t 49) (.v (.int .i64 7))), none⟩]
def q_law11_works_11 : List AOper := [
  ⟨(some 0), (.mv (.v (.bool false))), none⟩]
def q_law11_works_12 : List AOper := [
  ⟨(some 52), (.mv (.t 9)), none⟩,
  ⟨(some 53), (.call F_table_Of [(.sc, (.t 52))]), none⟩,
  ⟨(some 51), (.mv (.t 53)), none⟩,
  ⟨(some 54), (.ext 0 (.t 51)), none⟩,
  ⟨(some 55), (.ext 1 (.t 51)), none⟩,
  ⟨(some 10), (.mv (.t 54)), none⟩,
  ⟨(some 11), (.mv (.t 55)), none⟩]
def q_law11_works_13 : List AOper := [
  ⟨(some 56), (.mv (.t 1)), none⟩,
  ⟨(some 57), (.call F_Ptable_Table_Longest [(.sc, (.t 56))]), none⟩,
  ⟨(some 12), (.mv (.t 57)), none⟩]
def q_law11_works_14 : List AOper := [
  ⟨(some 58), (.mv (.t 1)), none⟩,
  ⟨(some 59), (.call F_law11_at [(.sc, (.v (.int .u8 5))), (.sc, (.v (.int .u8 1)))]), none⟩,
  ⟨(some 60), (.call F_Ptable_Table_Drop [(.sc, (.t 58)), ((.ia .u8 32), (.t 59))]), none⟩,
  ⟨(some 13), (.mv (.t 60)), none⟩]
def q_law11_works_15 : List AOper := [
  ⟨(some 61), (.mv (.t 1)), none⟩,
  ⟨(some 62), (.call F_law11_at [(.sc, (.v (.int .u8 5))), (.sc, (.v (.int .u8 1)))]), none⟩,
  ⟨(some 63), (.call F_Ptable_Table_Drop [(.sc, (.t 61)), ((.ia .u8 32), (.t 62))]), none⟩,
  ⟨(some 14), (.mv (.t 63)), none⟩]
def q_law11_works_16 : List AOper := [
  ⟨(some 64), (.mv (.t 1)), none⟩,
  ⟨(some 65), (.call F_Ptable_Table_Places [(.sc, (.t 64))]), none⟩,
  ⟨(some 15), (.mv (.t 65)), none⟩]
def q_law11_works_17 : List AOper := [
  ⟨(some 67), (.mv (.t 1)), none⟩,
  ⟨(some 68), (.call F_law11_at [(.sc, (.v (.int .u8 6))), (.sc, (.v (.int .u8 0)))]), none⟩,
  ⟨(some 69), (.call F_Ptable_Table_Get [(.sc, (.t 67)), ((.ia .u8 32), (.t 68))]), none⟩,
  ⟨(some 66), (.mv (.t 69)), none⟩,
  ⟨(some 70), (.ext 0 (.t 66)), none⟩,
  ⟨(some 71), (.ext 1 (.t 66)), none⟩,
  ⟨(some 16), (.alloc 32 [(.iarr .u8 32 (List.replicate 32 0)), (.int .i64 0), (.int .i64 0)]), none⟩,
  ⟨none, (.store .ag 34 (.t 16) (.t 70)), none⟩,
  ⟨(some 17), (.mv (.t 71)), none⟩]
def q_law11_works_18 : List AOper := [
  ⟨(some 73), (.mv (.t 1)), none⟩,
  ⟨(some 74), (.call F_Ptable_Table_Slot [(.sc, (.t 73)), (.sc, (.v (.int .i64 1)))]), none⟩,
  ⟨(some 72), (.mv (.t 74)), none⟩,
  ⟨(some 75), (.ext 0 (.t 72)), none⟩,
  ⟨(some 76), (.ext 1 (.t 72)), none⟩,
  ⟨(some 18), (.alloc 32 [(.iarr .u8 32 (List.replicate 32 0)), (.int .i64 0), (.int .i64 0)]), none⟩,
  ⟨none, (.store .ag 34 (.t 18) (.t 75)), none⟩,
  ⟨(some 19), (.mv (.t 76)), none⟩]
def q_law11_works_19 : List AOper := [
  ⟨(some 77), (.mv (.t 1)), none⟩,
  ⟨(some 78), (.call F_Ptable_Table_Copy [(.sc, (.t 77))]), none⟩,
  ⟨(some 20), (.mv (.t 78)), none⟩]
def q_law11_works_20 : List DOp := [
  ⟨⟨(some 79), (.mv (.t 2)), none⟩, true, false, none, []⟩,
  ⟨⟨(some 80), (.eq .scI false (.t 79) (.v (.int .i64 0))), none⟩, true, false, none, []⟩,
  ⟨⟨(some 81), (.mv (.t 80)), none⟩, true, false, none, []⟩,
  ⟨⟨(some 82), (.mv (.t 4)), (some (81, true))⟩, true, false, none, []⟩,
  ⟨⟨(some 83), (.eq .scI false (.t 82) (.v (.int .i64 2))), (some (81, true))⟩, true, false, none, []⟩,
  ⟨⟨(some 84), (.pick (.t 81) (.t 83) (.v (.bool false))), none⟩, true, false, none, []⟩,
  ⟨⟨(some 85), (.mv (.t 84)), none⟩, true, false, none, []⟩,
  ⟨⟨(some 86), (.mv (.t 5)), (some (85, true))⟩, true, false, none, []⟩,
  ⟨⟨(some 87), (.eq .scI false (.t 86) (.v (.int .i64 0))), (some (85, true))⟩, true, false, none, []⟩,
  ⟨⟨(some 88), (.pick (.t 85) (.t 87) (.v (.bool false))), none⟩, true, false, none, []⟩,
  ⟨⟨(some 89), (.mv (.t 88)), none⟩, true, false, none, []⟩,
  ⟨⟨(some 90), (.mv (.t 6)), (some (89, true))⟩, true, false, none, []⟩,
  ⟨⟨(some 91), (.eq .scI false (.t 90) (.v (.int .i64 0))), (some (89, true))⟩, true, false, none, []⟩,
  ⟨⟨(some 92), (.pick (.t 89) (.t 91) (.v (.bool false))), none⟩, true, false, none, []⟩,
  ⟨⟨(some 93), (.mv (.t 92)), none⟩, true, false, none, []⟩,
  ⟨⟨(some 94), (.mv (.t 7)), (some (93, true))⟩, true, false, none, []⟩,
  ⟨⟨(some 95), (.eq .scI false (.t 94) (.v (.int .i64 0))), (some (93, true))⟩, true, false, none, []⟩,
  ⟨⟨(some 96), (.pick (.t 93) (.t 95) (.v (.bool false))), none⟩, true, false, none, []⟩,
  ⟨⟨(some 97), (.mv (.t 96)), none⟩, true, false, none, []⟩,
  ⟨⟨(some 98), (.mv (.t 8)), (some (97, true))⟩, true, false, none, []⟩,
  ⟨⟨(some 99), (.eq .scI false (.t 98) (.v (.int .i64 2))), (some (97, true))⟩, true, false, none, []⟩,
  ⟨⟨(some 100), (.pick (.t 97) (.t 99) (.v (.bool false))), none⟩, true, false, none, []⟩,
  ⟨⟨(some 101), (.mv (.t 100)), none⟩, true, false, none, []⟩,
  ⟨⟨(some 102), (.mv (.t 9)), (some (101, true))⟩, true, false, none, []⟩,
  ⟨⟨(some 103), (.idx 34 (.t 102) (.v (.int .i64 5))), (some (101, true))⟩, true, false, none, []⟩,
  ⟨⟨(some 104), (.fadr 32 1 .sc (.t 103)), (some (101, true))⟩, true, false, none, []⟩,
  ⟨⟨(some 105), (.load .sc 1 (.t 104)), (some (101, true))⟩, true, false, none, []⟩,
  ⟨⟨(some 106), (.eq .scI false (.t 105) (.v (.int .i64 2))), (some (101, true))⟩, true, false, none, []⟩,
  ⟨⟨(some 107), (.pick (.t 101) (.t 106) (.v (.bool false))), none⟩, true, false, none, []⟩,
  ⟨⟨(some 108), (.mv (.t 107)), none⟩, true, false, none, []⟩,
  ⟨⟨(some 109), (.mv (.t 9)), (some (108, true))⟩, true, false, none, []⟩,
  ⟨⟨(some 110), (.idx 34 (.t 109) (.v (.int .i64 6))), (some (108, true))⟩, true, false, none, []⟩,
  ⟨⟨(some 111), (.fadr 32 1 .sc (.t 110)), (some (108, true))⟩, true, false, none, []⟩,
  ⟨⟨(some 112), (.load .sc 1 (.t 111)), (some (108, true))⟩, true, false, none, []⟩,
  ⟨⟨(some 113), (.eq .scI false (.t 112) (.v (.int .i64 1))), (some (108, true))⟩, true, false, none, []⟩,
  ⟨⟨(some 114), (.pick (.t 108) (.t 113) (.v (.bool false))), none⟩, true, false, none, []⟩,
  ⟨⟨(some 115), (.mv (.t 114)), none⟩, true, false, none, []⟩,
  ⟨⟨(some 116), (.mv (.t 9)), (some (115, true))⟩, true, false, none, []⟩,
  ⟨⟨(some 117), (.idx 34 (.t 116) (.v (.int .i64 0))), (some (115, true))⟩, true, false, none, []⟩,
  ⟨⟨(some 118), (.fadr 32 1 .sc (.t 117)), (some (115, true))⟩, true, false, none, []⟩,
  ⟨⟨(some 119), (.load .sc 1 (.t 118)), (some (115, true))⟩, true, false, none, []⟩,
  ⟨⟨(some 120), (.eq .scI false (.t 119) (.v (.int .i64 3))), (some (115, true))⟩, true, false, none, []⟩,
  ⟨⟨(some 121), (.pick (.t 115) (.t 120) (.v (.bool false))), none⟩, true, false, none, []⟩,
  ⟨⟨(some 122), (.mv (.t 121)), none⟩, true, false, none, []⟩,
  ⟨⟨(some 123), (.mv (.t 11)), (some (122, true))⟩, true, false, none, []⟩,
  ⟨⟨(some 124), (.pick (.t 122) (.t 123) (.v (.bool false))), none⟩, true, false, none, []⟩,
  ⟨⟨(some 125), (.mv (.t 124)), none⟩, true, false, none, []⟩,
  ⟨⟨(some 126), (.mv (.t 10)), (some (125, true))⟩, true, false, none, []⟩,
  ⟨⟨(some 127), (.xx (.p (.isNil .ptr true)) [(.t 126)]), (some (125, true))⟩, true, false, none, []⟩,
  ⟨⟨(some 128), (.pick (.t 125) (.t 127) (.v (.bool false))), none⟩, true, false, none, []⟩,
  ⟨⟨(some 129), (.mv (.t 128)), none⟩, true, false, none, []⟩,
  ⟨⟨(some 130), (.mv (.t 12)), (some (129, true))⟩, true, false, none, []⟩,
  ⟨⟨(some 131), (.eq .scI false (.t 130) (.v (.int .i64 1))), (some (129, true))⟩, true, false, none, []⟩,
  ⟨⟨(some 132), (.pick (.t 129) (.t 131) (.v (.bool false))), none⟩, true, false, none, []⟩,
  ⟨⟨(some 133), (.mv (.t 132)), none⟩, true, false, none, []⟩,
  ⟨⟨(some 134), (.mv (.t 13)), (some (133, true))⟩, true, false, none, []⟩,
  ⟨⟨(some 135), (.eq .scI false (.t 134) (.v (.int .i64 0))), (some (133, true))⟩, true, false, none, []⟩,
  ⟨⟨(some 136), (.pick (.t 133) (.t 135) (.v (.bool false))), none⟩, true, false, none, []⟩,
  ⟨⟨(some 137), (.mv (.t 136)), none⟩, true, false, none, []⟩,
  ⟨⟨(some 138), (.mv (.t 14)), (some (137, true))⟩, true, false, none, []⟩,
  ⟨⟨(some 139), (.eq .scI false (.t 138) (.v (.int .i64 8))), (some (137, true))⟩, true, false, none, []⟩,
  ⟨⟨(some 140), (.pick (.t 137) (.t 139) (.v (.bool false))), none⟩, true, false, none, []⟩,
  ⟨⟨(some 141), (.mv (.t 140)), none⟩, true, false, none, []⟩,
  ⟨⟨(some 142), (.mv (.t 15)), (some (141, true))⟩, true, false, none, []⟩,
  ⟨⟨(some 143), (.idx 34 (.t 142) (.v (.int .i64 5))), (some (141, true))⟩, true, false, none, []⟩,
  ⟨⟨(some 144), (.fadr 32 1 .sc (.t 143)), (some (141, true))⟩, true, false, none, []⟩,
  ⟨⟨(some 145), (.load .sc 1 (.t 144)), (some (141, true))⟩, true, false, none, []⟩,
  ⟨⟨(some 146), (.eq .scI false (.t 145) (.v (.int .i64 1))), (some (141, true))⟩, true, false, none, []⟩,
  ⟨⟨(some 147), (.pick (.t 141) (.t 146) (.v (.bool false))), none⟩, true, false, none, []⟩,
  ⟨⟨(some 148), (.mv (.t 147)), none⟩, true, false, none, []⟩,
  ⟨⟨(some 149), (.mv (.t 15)), (some (148, true))⟩, true, false, none, []⟩,
  ⟨⟨(some 150), (.idx 34 (.t 149) (.v (.int .i64 6))), (some (148, true))⟩, true, false, none, []⟩,
  ⟨⟨(some 151), (.fadr 32 1 .sc (.t 150)), (some (148, true))⟩, true, false, none, []⟩,
  ⟨⟨(some 152), (.load .sc 1 (.t 151)), (some (148, true))⟩, true, false, none, []⟩,
  ⟨⟨(some 153), (.eq .scI false (.t 152) (.v (.int .i64 3))), (some (148, true))⟩, true, false, none, []⟩,
  ⟨⟨(some 154), (.pick (.t 148) (.t 153) (.v (.bool false))), none⟩, true, false, none, []⟩,
  ⟨⟨(some 155), (.mv (.t 154)), none⟩, true, false, none, []⟩,
  ⟨⟨(some 156), (.mv (.t 17)), (some (155, true))⟩, true, false, none, []⟩,
  ⟨⟨(some 157), (.pick (.t 155) (.t 156) (.v (.bool false))), none⟩, true, false, none, []⟩,
  ⟨⟨(some 158), (.mv (.t 157)), none⟩, true, false, none, []⟩,
  ⟨⟨(some 159), (.fadr 32 1 .sc (.t 16)), (some (158, true))⟩, true, false, none, []⟩,
  ⟨⟨(some 160), (.load .sc 1 (.t 159)), (some (158, true))⟩, true, false, none, []⟩,
  ⟨⟨(some 161), (.eq .scI false (.t 160) (.v (.int .i64 3))), (some (158, true))⟩, true, false, none, []⟩,
  ⟨⟨(some 162), (.pick (.t 158) (.t 161) (.v (.bool false))), none⟩, true, false, none, []⟩,
  ⟨⟨(some 163), (.mv (.t 162)), none⟩, true, false, none, []⟩,
  ⟨⟨(some 164), (.mv (.t 19)), (some (163, true))⟩, true, false, none, []⟩,
  ⟨⟨(some 165), (.pick (.t 163) (.t 164) (.v (.bool false))), none⟩, true, false, none, []⟩,
  ⟨⟨(some 166), (.mv (.t 165)), none⟩, true, false, none, []⟩,
  ⟨⟨(some 167), (.fadr 0 32 (.ia .u8 32) (.t 18)), (some (166, true))⟩, true, false, none, []⟩,
  ⟨⟨(some 168), (.load (.ia .u8 32) 32 (.t 167)), (some (166, true))⟩, true, false, none, []⟩,
  ⟨⟨(some 169), (.call F_law11_at [(.sc, (.v (.int .u8 5))), (.sc, (.v (.int .u8 2)))]), (some (166, true))⟩, false, true, (some [167]), []⟩,
  ⟨⟨(some 170), (.eq (.ia 32) false (.t 168) (.t 169)), (some (166, true))⟩, true, false, none, []⟩,
  ⟨⟨(some 171), (.pick (.t 166) (.t 170) (.v (.bool false))), none⟩, true, false, none, []⟩,
  ⟨⟨(some 172), (.mv (.t 171)), none⟩, true, false, none, []⟩,
  ⟨⟨(some 173), (.mv (.t 20)), (some (172, true))⟩, true, false, none, []⟩,
  ⟨⟨(some 174), (.xx (.p (.isNil .ptr true)) [(.t 173)]), (some (172, true))⟩, true, false, none, []⟩,
  ⟨⟨(some 175), (.pick (.t 172) (.t 174) (.v (.bool false))), none⟩, true, false, none, []⟩,
  ⟨⟨(some 176), (.mv (.t 175)), none⟩, true, false, none, []⟩,
  ⟨⟨(some 177), (.mv (.t 20)), (some (176, true))⟩, true, false, none, []⟩,
  ⟨⟨(some 178), (.call F_Ptable_Table_Len [(.sc, (.t 177))]), (some (176, true))⟩, false, false, none, []⟩,
  ⟨⟨(some 179), (.eq .scI false (.t 178) (.v (.int .i64 2))), (some (176, true))⟩, true, false, none, []⟩,
  ⟨⟨(some 180), (.pick (.t 176) (.t 179) (.v (.bool false))), none⟩, true, false, none, []⟩,
  ⟨⟨(some 181), (.mv (.t 180)), none⟩, true, false, none, []⟩,
  ⟨⟨(some 182), (.mv (.t 1)), (some (181, true))⟩, true, false, none, []⟩,
  ⟨⟨(some 183), (.call F_Ptable_Table_Size [(.sc, (.t 182))]), (some (181, true))⟩, false, false, none, []⟩,
  ⟨⟨(some 184), (.eq .scI false (.t 183) (.v (.int .i64 7))), (some (181, true))⟩, true, false, none, []⟩,
  ⟨⟨(some 185), (.pick (.t 181) (.t 184) (.v (.bool false))), none⟩, true, false, none, []⟩,
  ⟨⟨(some 0), (.mv (.t 185)), none⟩, true, false, none, []⟩]
def a_law11_works : AFunc := ⟨[(.tmp 0)], (.seq (.region q_law11_works_0) (.seq (.region q_law11_works_1) (.seq (.region q_law11_works_2) (.seq (.seq (.region q_law11_works_3) (.cond (.t 30) (.seq (.region q_law11_works_4) .ret) .skip)) (.seq (.region q_law11_works_5) (.seq (.region q_law11_works_6) (.seq (.region q_law11_works_7) (.seq (.region q_law11_works_8) (.seq (.region q_law11_works_9) (.seq (.seq (.region q_law11_works_10) (.cond (.t 50) (.seq (.region q_law11_works_11) .ret) .skip)) (.seq (.region q_law11_works_12) (.seq (.region q_law11_works_13) (.seq (.region q_law11_works_14) (.seq (.region q_law11_works_15) (.seq (.region q_law11_works_16) (.seq (.region q_law11_works_17) (.seq (.region q_law11_works_18) (.seq (.region q_law11_works_19) (.seq (.regionD q_law11_works_20) .ret)))))))))))))))))))⟩

def q_law11_made_0 : List AOper := [
  ⟨(some 4), (.mv (.v .nilP)), none⟩,
  ⟨(some 5), (.mv (.v .nilS)), none⟩,
  ⟨(some 6), (.mv (.v (.bool false))), none⟩]
def q_law11_made_1 : List AOper := [
  ⟨(some 14), (.mv (.t 0)), none⟩,
  ⟨(some 15), (.call F_table_New [(.sc, (.t 14))]), none⟩,
  ⟨(some 13), (.mv (.t 15)), none⟩,
  ⟨(some 16), (.ext 0 (.t 13)), none⟩,
  ⟨(some 17), (.ext 1 (.t 13)), none⟩,
  ⟨(some 7), (.mv (.t 16)), none⟩,
  ⟨(some 8), (.mv (.t 17)), none⟩]
def q_law11_made_2 : List AOper := [
  ⟨(some 18), (.mv (.t 7)), none⟩,
  ⟨(some 19), (.xx (.p (.isNil .ptr false)) [(.t 18)]), none⟩,
  ⟨(some 20), (.mv (.t 19)), none⟩,
  ⟨(some 21), (.mv (.t 8)), (some (20, false))⟩,
  ⟨(some 22), (.eq .scI true (.t 21) (.v (.int .i64 0))), (some (20, false))⟩,
  ⟨(some 23), (.pick (.t 20) (.v (.bool true)) (.t 22)), none⟩]
def q_law11_made_3 : List AOper := [
  ⟨(some 4), (.mv (.v .nilP)), none⟩,
  ⟨(some 5), (.mv (.v .nilS)), none⟩,
  ⟨(some 6), (.mv (.v (.bool false))), none⟩]
def q_law11_made_4 : List AOper := [
  ⟨(some 9), (.mv (.v .nilS)), none⟩]
def q_law11_made_5 : List AOper := [
  ⟨(some 10), (.mv (.v (.int .i64 0))), none⟩]
def q_law11_made_6 : List AOper := [
  ⟨(some 24), (.mv (.t 10)), none⟩,
  ⟨(some 25), (.mv (.t 1)), none⟩,
  ⟨(some 26), (.len false (.t 25)), none⟩,
  ⟨(some 27), (.bin .lss (.t 24) (.t 26)), none⟩]
def q_law11_made_7 : List AOper := [
  ⟨(some 11), (.mv (.v (.int .i64 0))), none⟩]
def q_law11_made_8 : List AOper := [
  ⟨(some 12), (.mv (.v (.int .i64 0))), none⟩]
def q_law11_made_9 : List AOper := [
  ⟨(some 30), (.mv (.t 1)), none⟩,
  ⟨(some 31), (.mv (.t 10)), none⟩,
  ⟨(some 32), (.idx 35 (.t 30) (.t 31)), none⟩,
  ⟨(some 33), (.fadr 0 1 .sc (.t 32)), none⟩,
  ⟨(some 34), (.load .sc 1 (.t 33)), none⟩,
  ⟨(some 35), (.eq .scI false (.t 34) (.v (.int .i64 2))), none⟩]
def q_law11_made_10 : List AOper := [
  ⟨(some 37), (.mv (.t 9)), none⟩,
  ⟨(some 38), (.mv (.t 1)), none⟩,
  ⟨(some 39), (.mv (.t 10)), none⟩,
  ⟨(some 40), (.idx 35 (.t 38) (.t 39)), none⟩,
  ⟨(some 41), (.fadr 1 34 .ag (.t 40)), none⟩,
  ⟨(some 42), (.fadr 0 32 (.ia .u8 32) (.t 41)), none⟩,
  ⟨(some 43), (.load (.ia .u8 32) 32 (.t 42)), none⟩,
  ⟨(some 44), (.call F_ref11_Drop [(.sc, (.t 37)), ((.ia .u8 32), (.t 43))]), none⟩,
  ⟨(some 36), (.mv (.t 44)), none⟩,
  ⟨(some 45), (.ext 0 (.t 36)), none⟩,
  ⟨(some 46), (.ext 1 (.t 36)), none⟩,
  ⟨(some 9), (.mv (.t 45)), none⟩,
  ⟨(some 11), (.mv (.t 46)), none⟩]
def q_law11_made_11 : List AOper := [
  ⟨(some 47), (.mv (.t 7)), none⟩,
  ⟨(some 48), (.mv (.t 1)), none⟩,
  ⟨(some 49), (.mv (.t 10)), none⟩,
  ⟨(some 50), (.idx 35 (.t 48) (.t 49)), none⟩,
  ⟨(some 51), (.fadr 1 34 .ag (.t 50)), none⟩,
  ⟨(some 52), (.fadr 0 32 (.ia .u8 32) (.t 51)), none⟩,
  ⟨(some 53), (.load (.ia .u8 32) 32 (.t 52)), none⟩,
  ⟨(some 54), (.call F_Ptable_Table_Drop [(.sc, (.t 47)), ((.ia .u8 32), (.t 53))]), none⟩,
  ⟨(some 12), (.mv (.t 54)), none⟩]
def q_law11_made_12 : List AOper := [
  ⟨(some 56), (.mv (.t 9)), none⟩,
  ⟨(some 57), (.mv (.t 0)), none⟩,
  ⟨(some 58), (.mv (.t 1)), none⟩,
  ⟨(some 59), (.mv (.t 10)), none⟩,
  ⟨(some 60), (.idx 35 (.t 58) (.t 59)), none⟩,
  ⟨(some 61), (.fadr 1 34 .ag (.t 60)), none⟩,
  ⟨(some 62), (.load .ag 34 (.t 61)), none⟩,
  ⟨(some 63), (.call F_ref11_Put [(.sc, (.t 56)), (.sc, (.t 57)), (.ag, (.t 62))]), none⟩,
  ⟨(some 55), (.mv (.t 63)), none⟩,
  ⟨(some 64), (.ext 0 (.t 55)), none⟩,
  ⟨(some 65), (.ext 1 (.t 55)), none⟩,
  ⟨(some 9), (.mv (.t 64)), none⟩,
  ⟨(some 11), (.mv (.t 65)), none⟩]
def q_law11_made_13 : List AOper := [
  ⟨(some 66), (.mv (.t 7)), none⟩,
  ⟨(some 67), (.mv (.t 1)), none⟩,
  ⟨(some 68), (.mv (.t 10)), none⟩,
  ⟨(some 69), (.idx 35 (.t 67) (.t 68)), none⟩,
  ⟨(some 70), (.fadr 1 34 .ag (.t 69)), none⟩,
  ⟨(some 71), (.load .ag 34 (.t 70)), none⟩,
  ⟨(some 72), (.call F_Ptable_Table_Put [(.sc, (.t 66)), (.ag, (.t 71))]), none⟩,
  ⟨(some 12), (.mv (.t 72)), none⟩]
def q_law11_made_14 : List AOper := [
  ⟨(some 73), (.mv (.t 11)), none⟩,
  ⟨(some 74), (.mv (.t 12)), none⟩,
  ⟨(some 75), (.eq .scI true (.t 73) (.t 74)), none⟩,
  ⟨(some 76), (.mv (.t 75)), none⟩,
  ⟨(some 77), (.mv (.t 7)), (some (76, false))⟩,
  ⟨(some 78), (.call F_Ptable_Table_Len [(.sc, (.t 77))]), (some (76, false))⟩,
  ⟨(some 79), (.mv (.t 9)), (some (76, false))⟩,
  ⟨(some 80), (.len false (.t 79)), (some (76, false))⟩,
  ⟨(some 81), (.eq .scI true (.t 78) (.t 80)), (some (76, false))⟩,
  ⟨(some 82), (.pick (.t 76) (.v (.bool true)) (.t 81)), none⟩]
def q_law11_made_15 : List AOper := [
  ⟨(some 4), (.mv (.v .nilP)), none⟩,
  ⟨(some 5), (.mv (.v .nilS)), none⟩,
  ⟨(some 6), (.mv (.v (.bool false))), none⟩]
def q_law11_made_16 : List AOper := [
  ⟨(some 28), (.mv (.t 10)), none⟩,
  ⟨(some 29), (.bin .add (.t 28) (.v (.int .i64 1))), none⟩,
  ⟨(some 10), (.mv (.t 29)), none⟩]
def q_law11_made_L17 : ACode := (.seq (.seq (.region q_law11_made_6) (.cond (.t 27) .skip (.exit 0))) (.seq (.block 1 (.seq (.region q_law11_made_7) (.seq (.region q_law11_made_8) (.seq (.seq (.region q_law11_made_9) (.cond (.t 35) (.seq (.region q_law11_made_10) (.region q_law11_made_11)) (.seq (.region q_law11_made_12) (.region q_law11_made_13)))) (.seq (.region q_law11_made_14) (.cond (.t 82) (.seq (.region q_law11_made_15) .ret) .skip)))))) (.region q_law11_made_16)))
def q_law11_made_17 : List AOper := [
  ⟨(some 83), (.mv (.t 7)), none⟩,
  ⟨(some 84), (.mv (.t 9)), none⟩,
  ⟨(some 4), (.mv (.t 83)), none⟩,
  ⟨(some 5), (.mv (.t 84)), none⟩,
  ⟨(some 6), (.mv (.v (.bool true))), none⟩]
def a_law11_made : AFunc := ⟨[(.tmp 4), (.tmp 5), (.tmp 6)], (.seq (.region q_law11_made_0) (.seq (.region q_law11_made_1) (.seq (.seq (.region q_law11_made_2) (.cond (.t 23) (.seq (.region q_law11_made_3) .ret) .skip)) (.seq (.region q_law11_made_4) (.seq (.seq (.region q_law11_made_5) (.block 0 (.loop q_law11_made_L17))) (.seq (.region q_law11_made_17) .ret))))))⟩

def q_law11_at_0 : List AOper := [
  ⟨(some 4), (.alloc 23 [(.iarr .u8 32 (List.replicate 32 0))]), none⟩]
def q_law11_at_1 : List AOper := [
  ⟨(some 5), (.mv (.t 0)), none⟩,
  ⟨(some 6), (.mv (.t 1)), none⟩,
  ⟨(some 7), (.build (.ia .u8 32) [(.iarr .u8 32 (List.replicate 32 0))] [(0, (1, (.v (.int .u8 0)))), (1, (1, (.v (.int .u8 0)))), (2, (1, (.v (.int .u8 0)))), (3, (1, (.v (.int .u8 0)))), (4, (1, (.v (.int .u8 0)))), (5, (1, (.t 5))), (6, (1, (.t 6)))]), none⟩,
  ⟨none, (.store (.ia .u8 32) 32 (.t 4) (.t 7)), none⟩]
def a_law11_at : AFunc := ⟨[(.cell 4 (.ia .u8 32) 32)], (.seq (.region q_law11_at_0) (.seq (.region q_law11_at_1) .ret))⟩


theorem c_table_Of : trF Try.prog Try.f25 = some a_table_Of := by kernel_rfl
theorem g_table_Of : Try.prog.funcs[25]? = some Try.f25 := by kernel_rfl
theorem j_table_Of {args : List AV} {A : Heap} {K Kp : AV → Heap → Prop} (hn : args.length ≤ 65) (h : X Try.prog (inl a_table_Of.res K Kp) a_table_Of.body .done (env0 args) A) : SimX Try.prog F_table_Of args A (outK K Kp) :=
  X_inl g_table_Of c_table_Of (by rw [Try.ntmps25]; exact hn) h
@[simp] theorem k_table_Of : callable Try.prog F_table_Of = true := by kernel_rfl
theorem c_table_New : trF Try.prog Try.f45 = some a_table_New := by kernel_rfl
theorem g_table_New : Try.prog.funcs[45]? = some Try.f45 := by kernel_rfl
theorem j_table_New {args : List AV} {A : Heap} {K Kp : AV → Heap → Prop} (hn : args.length ≤ 14) (h : X Try.prog (inl a_table_New.res K Kp) a_table_New.body .done (env0 args) A) : SimX Try.prog F_table_New args A (outK K Kp) :=
  X_inl g_table_New c_table_New (by rw [Try.ntmps45]; exact hn) h
@[simp] theorem k_table_New : callable Try.prog F_table_New = true := by kernel_rfl
theorem c_Ptable_Table_Size : trF Try.prog Try.f16 = some a_Ptable_Table_Size := by kernel_rfl
theorem g_Ptable_Table_Size : Try.prog.funcs[16]? = some Try.f16 := by kernel_rfl
theorem v_Ptable_Table_Size {args : List AV} {v : AV} (hn : args.length ≤ 8) (h : X Try.prog (fin a_Ptable_Table_Size.res v) a_Ptable_Table_Size.body .done (env0 args) H0) : Gives Try.prog F_Ptable_Table_Size args v :=
  Gives_intro g_Ptable_Table_Size c_Ptable_Table_Size (by rw [Try.ntmps16]; exact hn) h
@[simp] theorem k_Ptable_Table_Size : callable Try.prog F_Ptable_Table_Size = true := by kernel_rfl
theorem c_Ptable_Table_Get : trF Try.prog Try.f17 = some a_Ptable_Table_Get := by kernel_rfl
theorem g_Ptable_Table_Get : Try.prog.funcs[17]? = some Try.f17 := by kernel_rfl
theorem v_Ptable_Table_Get {args : List AV} {v : AV} (hn : args.length ≤ 20) (h : X Try.prog (fin a_Ptable_Table_Get.res v) a_Ptable_Table_Get.body .done (env0 args) H0) : Gives Try.prog F_Ptable_Table_Get args v :=
  Gives_intro g_Ptable_Table_Get c_Ptable_Table_Get (by rw [Try.ntmps17]; exact hn) h
@[simp] theorem k_Ptable_Table_Get : callable Try.prog F_Ptable_Table_Get = true := by kernel_rfl
theorem c_Ptable_Table_Slot : trF Try.prog Try.f19 = some a_Ptable_Table_Slot := by kernel_rfl
theorem g_Ptable_Table_Slot : Try.prog.funcs[19]? = some Try.f19 := by kernel_rfl
theorem v_Ptable_Table_Slot {args : List AV} {v : AV} (hn : args.length ≤ 29) (h : X Try.prog (fin a_Ptable_Table_Slot.res v) a_Ptable_Table_Slot.body .done (env0 args) H0) : Gives Try.prog F_Ptable_Table_Slot args v :=
  Gives_intro g_Ptable_Table_Slot c_Ptable_Table_Slot (by rw [Try.ntmps19]; exact hn) h
@[simp] theorem k_Ptable_Table_Slot : callable Try.prog F_Ptable_Table_Slot = true := by kernel_rfl
theorem c_Ptable_Table_Places : trF Try.prog Try.f21 = some a_Ptable_Table_Places := by kernel_rfl
theorem g_Ptable_Table_Places : Try.prog.funcs[21]? = some Try.f21 := by kernel_rfl
theorem j_Ptable_Table_Places {args : List AV} {A : Heap} {K Kp : AV → Heap → Prop} (hn : args.length ≤ 9) (h : X Try.prog (inl a_Ptable_Table_Places.res K Kp) a_Ptable_Table_Places.body .done (env0 args) A) : SimX Try.prog F_Ptable_Table_Places args A (outK K Kp) :=
  X_inl g_Ptable_Table_Places c_Ptable_Table_Places (by rw [Try.ntmps21]; exact hn) h
@[simp] theorem k_Ptable_Table_Places : callable Try.prog F_Ptable_Table_Places = true := by kernel_rfl
theorem c_Ptable_Table_Put : trF Try.prog Try.f23 = some a_Ptable_Table_Put := by kernel_rfl
theorem g_Ptable_Table_Put : Try.prog.funcs[23]? = some Try.f23 := by kernel_rfl
theorem j_Ptable_Table_Put {args : List AV} {A : Heap} {K Kp : AV → Heap → Prop} (hn : args.length ≤ 116) (h : X Try.prog (inl a_Ptable_Table_Put.res K Kp) a_Ptable_Table_Put.body .done (env0 args) A) : SimX Try.prog F_Ptable_Table_Put args A (outK K Kp) :=
  X_inl g_Ptable_Table_Put c_Ptable_Table_Put (by rw [Try.ntmps23]; exact hn) h
@[simp] theorem k_Ptable_Table_Put : callable Try.prog F_Ptable_Table_Put = true := by kernel_rfl
theorem c_Ptable_Table_Drop : trF Try.prog Try.f24 = some a_Ptable_Table_Drop := by kernel_rfl
theorem g_Ptable_Table_Drop : Try.prog.funcs[24]? = some Try.f24 := by kernel_rfl
theorem j_Ptable_Table_Drop {args : List AV} {A : Heap} {K Kp : AV → Heap → Prop} (hn : args.length ≤ 64) (h : X Try.prog (inl a_Ptable_Table_Drop.res K Kp) a_Ptable_Table_Drop.body .done (env0 args) A) : SimX Try.prog F_Ptable_Table_Drop args A (outK K Kp) :=
  X_inl g_Ptable_Table_Drop c_Ptable_Table_Drop (by rw [Try.ntmps24]; exact hn) h
@[simp] theorem k_Ptable_Table_Drop : callable Try.prog F_Ptable_Table_Drop = true := by kernel_rfl
theorem c_Ptable_Table_Copy : trF Try.prog Try.f27 = some a_Ptable_Table_Copy := by kernel_rfl
theorem g_Ptable_Table_Copy : Try.prog.funcs[27]? = some Try.f27 := by kernel_rfl
theorem j_Ptable_Table_Copy {args : List AV} {A : Heap} {K Kp : AV → Heap → Prop} (hn : args.length ≤ 11) (h : X Try.prog (inl a_Ptable_Table_Copy.res K Kp) a_Ptable_Table_Copy.body .done (env0 args) A) : SimX Try.prog F_Ptable_Table_Copy args A (outK K Kp) :=
  X_inl g_Ptable_Table_Copy c_Ptable_Table_Copy (by rw [Try.ntmps27]; exact hn) h
@[simp] theorem k_Ptable_Table_Copy : callable Try.prog F_Ptable_Table_Copy = true := by kernel_rfl
theorem c_Ptable_Table_Len : trF Try.prog Try.f28 = some a_Ptable_Table_Len := by kernel_rfl
theorem g_Ptable_Table_Len : Try.prog.funcs[28]? = some Try.f28 := by kernel_rfl
theorem v_Ptable_Table_Len {args : List AV} {v : AV} (hn : args.length ≤ 7) (h : X Try.prog (fin a_Ptable_Table_Len.res v) a_Ptable_Table_Len.body .done (env0 args) H0) : Gives Try.prog F_Ptable_Table_Len args v :=
  Gives_intro g_Ptable_Table_Len c_Ptable_Table_Len (by rw [Try.ntmps28]; exact hn) h
@[simp] theorem k_Ptable_Table_Len : callable Try.prog F_Ptable_Table_Len = true := by kernel_rfl
theorem c_Ptable_Table_Longest : trF Try.prog Try.f29 = some a_Ptable_Table_Longest := by kernel_rfl
theorem g_Ptable_Table_Longest : Try.prog.funcs[29]? = some Try.f29 := by kernel_rfl
theorem v_Ptable_Table_Longest {args : List AV} {v : AV} (hn : args.length ≤ 26) (h : X Try.prog (fin a_Ptable_Table_Longest.res v) a_Ptable_Table_Longest.body .done (env0 args) H0) : Gives Try.prog F_Ptable_Table_Longest args v :=
  Gives_intro g_Ptable_Table_Longest c_Ptable_Table_Longest (by rw [Try.ntmps29]; exact hn) h
@[simp] theorem k_Ptable_Table_Longest : callable Try.prog F_Ptable_Table_Longest = true := by kernel_rfl
theorem c_Ptable_Table_find : trF Try.prog Try.f55 = some a_Ptable_Table_find := by kernel_rfl
theorem g_Ptable_Table_find : Try.prog.funcs[55]? = some Try.f55 := by kernel_rfl
theorem v_Ptable_Table_find {args : List AV} {v : AV} (hn : args.length ≤ 55) (h : X Try.prog (fin a_Ptable_Table_find.res v) a_Ptable_Table_find.body .done (env0 args) H0) : Gives Try.prog F_Ptable_Table_find args v :=
  Gives_intro g_Ptable_Table_find c_Ptable_Table_find (by rw [Try.ntmps55]; exact hn) h
@[simp] theorem k_Ptable_Table_find : callable Try.prog F_Ptable_Table_find = true := by kernel_rfl
theorem c_Ptable_Table_yields : trF Try.prog Try.f58 = some a_Ptable_Table_yields := by kernel_rfl
theorem g_Ptable_Table_yields : Try.prog.funcs[58]? = some Try.f58 := by kernel_rfl
theorem v_Ptable_Table_yields {args : List AV} {v : AV} (hn : args.length ≤ 33) (h : X Try.prog (fin a_Ptable_Table_yields.res v) a_Ptable_Table_yields.body .done (env0 args) H0) : Gives Try.prog F_Ptable_Table_yields args v :=
  Gives_intro g_Ptable_Table_yields c_Ptable_Table_yields (by rw [Try.ntmps58]; exact hn) h
@[simp] theorem k_Ptable_Table_yields : callable Try.prog F_Ptable_Table_yields = true := by kernel_rfl
theorem c_Ptable_Table_far : trF Try.prog Try.f59 = some a_Ptable_Table_far := by kernel_rfl
theorem g_Ptable_Table_far : Try.prog.funcs[59]? = some Try.f59 := by kernel_rfl
theorem v_Ptable_Table_far {args : List AV} {v : AV} (hn : args.length ≤ 33) (h : X Try.prog (fin a_Ptable_Table_far.res v) a_Ptable_Table_far.body .done (env0 args) H0) : Gives Try.prog F_Ptable_Table_far args v :=
  Gives_intro g_Ptable_Table_far c_Ptable_Table_far (by rw [Try.ntmps59]; exact hn) h
@[simp] theorem k_Ptable_Table_far : callable Try.prog F_Ptable_Table_far = true := by kernel_rfl
theorem c_ref11_Find : trF Try.prog Try.f18 = some a_ref11_Find := by kernel_rfl
theorem g_ref11_Find : Try.prog.funcs[18]? = some Try.f18 := by kernel_rfl
theorem v_ref11_Find {args : List AV} {v : AV} (hn : args.length ≤ 20) (h : X Try.prog (fin a_ref11_Find.res v) a_ref11_Find.body .done (env0 args) H0) : Gives Try.prog F_ref11_Find args v :=
  Gives_intro g_ref11_Find c_ref11_Find (by rw [Try.ntmps18]; exact hn) h
@[simp] theorem k_ref11_Find : callable Try.prog F_ref11_Find = true := by kernel_rfl
theorem c_ref11_Same : trF Try.prog Try.f20 = some a_ref11_Same := by kernel_rfl
theorem g_ref11_Same : Try.prog.funcs[20]? = some Try.f20 := by kernel_rfl
theorem v_ref11_Same {args : List AV} {v : AV} (hn : args.length ≤ 26) (h : X Try.prog (fin a_ref11_Same.res v) a_ref11_Same.body .done (env0 args) H0) : Gives Try.prog F_ref11_Same args v :=
  Gives_intro g_ref11_Same c_ref11_Same (by rw [Try.ntmps20]; exact hn) h
@[simp] theorem k_ref11_Same : callable Try.prog F_ref11_Same = true := by kernel_rfl
theorem c_ref11_Places : trF Try.prog Try.f22 = some a_ref11_Places := by kernel_rfl
theorem g_ref11_Places : Try.prog.funcs[22]? = some Try.f22 := by kernel_rfl
theorem j_ref11_Places {args : List AV} {A : Heap} {K Kp : AV → Heap → Prop} (hn : args.length ≤ 22) (h : X Try.prog (inl a_ref11_Places.res K Kp) a_ref11_Places.body .done (env0 args) A) : SimX Try.prog F_ref11_Places args A (outK K Kp) :=
  X_inl g_ref11_Places c_ref11_Places (by rw [Try.ntmps22]; exact hn) h
@[simp] theorem k_ref11_Places : callable Try.prog F_ref11_Places = true := by kernel_rfl
theorem c_ref11_Entries : trF Try.prog Try.f26 = some a_ref11_Entries := by kernel_rfl
theorem g_ref11_Entries : Try.prog.funcs[26]? = some Try.f26 := by kernel_rfl
theorem j_ref11_Entries {args : List AV} {A : Heap} {K Kp : AV → Heap → Prop} (hn : args.length ≤ 49) (h : X Try.prog (inl a_ref11_Entries.res K Kp) a_ref11_Entries.body .done (env0 args) A) : SimX Try.prog F_ref11_Entries args A (outK K Kp) :=
  X_inl g_ref11_Entries c_ref11_Entries (by rw [Try.ntmps26]; exact hn) h
@[simp] theorem k_ref11_Entries : callable Try.prog F_ref11_Entries = true := by kernel_rfl
theorem c_ref11_Put : trF Try.prog Try.f46 = some a_ref11_Put := by kernel_rfl
theorem g_ref11_Put : Try.prog.funcs[46]? = some Try.f46 := by kernel_rfl
theorem j_ref11_Put {args : List AV} {A : Heap} {K Kp : AV → Heap → Prop} (hn : args.length ≤ 70) (h : X Try.prog (inl a_ref11_Put.res K Kp) a_ref11_Put.body .done (env0 args) A) : SimX Try.prog F_ref11_Put args A (outK K Kp) :=
  X_inl g_ref11_Put c_ref11_Put (by rw [Try.ntmps46]; exact hn) h
@[simp] theorem k_ref11_Put : callable Try.prog F_ref11_Put = true := by kernel_rfl
theorem c_ref11_Drop : trF Try.prog Try.f54 = some a_ref11_Drop := by kernel_rfl
theorem g_ref11_Drop : Try.prog.funcs[54]? = some Try.f54 := by kernel_rfl
theorem j_ref11_Drop {args : List AV} {A : Heap} {K Kp : AV → Heap → Prop} (hn : args.length ≤ 25) (h : X Try.prog (inl a_ref11_Drop.res K Kp) a_ref11_Drop.body .done (env0 args) A) : SimX Try.prog F_ref11_Drop args A (outK K Kp) :=
  X_inl g_ref11_Drop c_ref11_Drop (by rw [Try.ntmps54]; exact hn) h
@[simp] theorem k_ref11_Drop : callable Try.prog F_ref11_Drop = true := by kernel_rfl
theorem c_ref11_lay : trF Try.prog Try.f56 = some a_ref11_lay := by kernel_rfl
theorem g_ref11_lay : Try.prog.funcs[56]? = some Try.f56 := by kernel_rfl
theorem j_ref11_lay {args : List AV} {A : Heap} {K Kp : AV → Heap → Prop} (hn : args.length ≤ 54) (h : X Try.prog (inl a_ref11_lay.res K Kp) a_ref11_lay.body .done (env0 args) A) : SimX Try.prog F_ref11_lay args A (outK K Kp) :=
  X_inl g_ref11_lay c_ref11_lay (by rw [Try.ntmps56]; exact hn) h
@[simp] theorem k_ref11_lay : callable Try.prog F_ref11_lay = true := by kernel_rfl
theorem c_ref11_right : trF Try.prog Try.f81 = some a_ref11_right := by kernel_rfl
theorem g_ref11_right : Try.prog.funcs[81]? = some Try.f81 := by kernel_rfl
theorem v_ref11_right {args : List AV} {v : AV} (hn : args.length ≤ 21) (h : X Try.prog (fin a_ref11_right.res v) a_ref11_right.body .done (env0 args) H0) : Gives Try.prog F_ref11_right args v :=
  Gives_intro g_ref11_right c_ref11_right (by rw [Try.ntmps81]; exact hn) h
@[simp] theorem k_ref11_right : callable Try.prog F_ref11_right = true := by kernel_rfl
theorem c_ref11_less : trF Try.prog Try.f82 = some a_ref11_less := by kernel_rfl
theorem g_ref11_less : Try.prog.funcs[82]? = some Try.f82 := by kernel_rfl
theorem v_ref11_less {args : List AV} {v : AV} (hn : args.length ≤ 24) (h : X Try.prog (fin a_ref11_less.res v) a_ref11_less.body .done (env0 args) H0) : Gives Try.prog F_ref11_less args v :=
  Gives_intro g_ref11_less c_ref11_less (by rw [Try.ntmps82]; exact hn) h
@[simp] theorem k_ref11_less : callable Try.prog F_ref11_less = true := by kernel_rfl
theorem c_ref11_goes : trF Try.prog Try.f87 = some a_ref11_goes := by kernel_rfl
theorem g_ref11_goes : Try.prog.funcs[87]? = some Try.f87 := by kernel_rfl
theorem v_ref11_goes {args : List AV} {v : AV} (hn : args.length ≤ 32) (h : X Try.prog (fin a_ref11_goes.res v) a_ref11_goes.body .done (env0 args) H0) : Gives Try.prog F_ref11_goes args v :=
  Gives_intro g_ref11_goes c_ref11_goes (by rw [Try.ntmps87]; exact hn) h
@[simp] theorem k_ref11_goes : callable Try.prog F_ref11_goes = true := by kernel_rfl
theorem c_ref11_far : trF Try.prog Try.f97 = some a_ref11_far := by kernel_rfl
theorem g_ref11_far : Try.prog.funcs[97]? = some Try.f97 := by kernel_rfl
theorem v_ref11_far {args : List AV} {v : AV} (hn : args.length ≤ 22) (h : X Try.prog (fin a_ref11_far.res v) a_ref11_far.body .done (env0 args) H0) : Gives Try.prog F_ref11_far args v :=
  Gives_intro g_ref11_far c_ref11_far (by rw [Try.ntmps97]; exact hn) h
@[simp] theorem k_ref11_far : callable Try.prog F_ref11_far = true := by kernel_rfl
theorem c_law11_works : trF Try.prog Try.f13 = some a_law11_works := by kernel_rfl
theorem g_law11_works : Try.prog.funcs[13]? = some Try.f13 := by kernel_rfl
theorem v_law11_works {args : List AV} {v : AV} (hn : args.length ≤ 186) (h : X Try.prog (fin a_law11_works.res v) a_law11_works.body .done (env0 args) H0) : Gives Try.prog F_law11_works args v :=
  Gives_intro g_law11_works c_law11_works (by rw [Try.ntmps13]; exact hn) h
@[simp] theorem k_law11_works : callable Try.prog F_law11_works = true := by kernel_rfl
theorem c_law11_made : trF Try.prog Try.f14 = some a_law11_made := by kernel_rfl
theorem g_law11_made : Try.prog.funcs[14]? = some Try.f14 := by kernel_rfl
theorem j_law11_made {args : List AV} {A : Heap} {K Kp : AV → Heap → Prop} (hn : args.length ≤ 85) (h : X Try.prog (inl a_law11_made.res K Kp) a_law11_made.body .done (env0 args) A) : SimX Try.prog F_law11_made args A (outK K Kp) :=
  X_inl g_law11_made c_law11_made (by rw [Try.ntmps14]; exact hn) h
@[simp] theorem k_law11_made : callable Try.prog F_law11_made = true := by kernel_rfl
theorem c_law11_at : trF Try.prog Try.f53 = some a_law11_at := by kernel_rfl
theorem g_law11_at : Try.prog.funcs[53]? = some Try.f53 := by kernel_rfl
theorem v_law11_at {args : List AV} {v : AV} (hn : args.length ≤ 8) (h : X Try.prog (fin a_law11_at.res v) a_law11_at.body .done (env0 args) H0) : Gives Try.prog F_law11_at args v :=
  Gives_intro g_law11_at c_law11_at (by rw [Try.ntmps53]; exact hn) h
@[simp] theorem k_law11_at : callable Try.prog F_law11_at = true := by kernel_rfl
end Go.Proofs.Ytilgdnbijkcboaa

/- Tables: where entries stand, plainly. -/
namespace Go.Proofs.Ytilgdnbijkcboaa
open Go AVL
set_option linter.unusedVariables false
set_option linter.unusedSimpArgs false

/-- What a table is of: things with keys, a home for each key, an order of keys, empty places. -/
structure TS (α κ : Type) where
  n : Nat
  key : α → κ
  hm : κ → Nat
  lt : κ → κ → Bool
  emp : α → Bool
  z : α
  z_emp : emp z = true
  hm_lt : ∀ k, hm k < n
  irr : ∀ a, lt a a = false
  tr : ∀ a b c, lt a b = true → lt b c = true → lt a c = true
  tot : ∀ a b, a = b ∨ lt a b = true ∨ lt b a = true
namespace TS
variable {α κ : Type} (S : TS α κ)
/-- How far from its home. -/
def far (x : α) (p : Nat) : Nat := if S.hm (S.key x) ≤ p then p - S.hm (S.key x) else p + S.n - S.hm (S.key x)
def pl (x : α) (d : Nat) : Nat := if S.hm (S.key x) + d < S.n then S.hm (S.key x) + d else S.hm (S.key x) + d - S.n
def nxt (p : Nat) : Nat := if p + 1 < S.n then p + 1 else 0
/-- x has the place, of both. -/
def beats (x y : α) (p : Nat) : Prop := S.far y p < S.far x p ∨ (S.far y p = S.far x p ∧ S.lt (S.key x) (S.key y) = true)
def passed (f : Nat → α) (x : α) (d : Nat) : Prop := ∀ k, k < d → S.emp (f (S.pl x k)) = false ∧ S.beats (f (S.pl x k)) x (S.pl x k)
def OK (f : Nat → α) : Prop := ∀ i, i < S.n → S.emp (f i) = false → S.passed f (f i) (S.far (f i) i)
def Dist (f : Nat → α) : Prop := ∀ i j, i < S.n → j < S.n → S.emp (f i) = false → S.emp (f j) = false → S.key (f i) = S.key (f j) → i = j
def Has (f : Nat → α) (x : α) : Prop := ∃ i, i < S.n ∧ f i = x ∧ S.emp x = false
def gap (c p : Nat) : Nat := if p ≤ c then c - p else c + S.n - p
variable {S}
theorem far_lt {x : α} {p : Nat} (hp : p < S.n) : S.far x p < S.n := by
  have := S.hm_lt (S.key x); unfold far; split <;> omega
theorem pl_lt {x : α} {d : Nat} (hd : d < S.n) : S.pl x d < S.n := by
  have := S.hm_lt (S.key x); unfold pl; split <;> omega
theorem pl_far {x : α} {p : Nat} (hp : p < S.n) : S.pl x (S.far x p) = p := by
  have := S.hm_lt (S.key x); unfold pl far; split <;> split <;> omega
theorem far_pl {x : α} {d : Nat} (hd : d < S.n) : S.far x (S.pl x d) = d := by
  have := S.hm_lt (S.key x); unfold pl far; split <;> split <;> omega
theorem nxt_lt {p : Nat} (hp : p < S.n) : S.nxt p < S.n := by unfold nxt; split <;> omega
theorem far_nxt {x : α} {p : Nat} (hp : p < S.n) (h : S.far x p + 1 < S.n) : S.far x (S.nxt p) = S.far x p + 1 := by
  have := S.hm_lt (S.key x); revert h; unfold far nxt; (repeat' split) <;> omega
theorem far_nxt0 {x : α} {p : Nat} (hp : p < S.n) (h : S.far x (S.nxt p) ≠ 0) : S.far x (S.nxt p) = S.far x p + 1 := by
  have := S.hm_lt (S.key x); revert h; unfold far nxt; (repeat' split) <;> omega
theorem pl_nxt {x : α} {k : Nat} (h : k + 1 < S.n) : S.nxt (S.pl x k) = S.pl x (k + 1) := by
  have := S.hm_lt (S.key x); unfold pl nxt; (repeat' split) <;> omega
theorem pl_zero {x : α} : S.pl x 0 = S.hm (S.key x) := by
  have := S.hm_lt (S.key x); unfold pl; simp [this]
theorem far_zero {x : α} {p : Nat} (hp : p < S.n) : S.far x p = 0 ↔ p = S.hm (S.key x) := by
  have := S.hm_lt (S.key x); unfold far; split <;> omega
theorem pl_inj {x : α} {j k : Nat} (hj : j < S.n) (hk : k < S.n) (h : S.pl x j = S.pl x k) : j = k := by
  have h2 := far_pl (S := S) (x := x) hj; rw [h, far_pl hk] at h2; exact h2.symm
theorem gap_nxt {c p : Nat} (hc : c < S.n) (hp : p < S.n) (h : p ≠ c) : S.gap c (S.nxt p) + 1 = S.gap c p := by
  unfold gap nxt; (repeat' split) <;> omega
theorem key_far {x y : α} (h : S.key x = S.key y) (p : Nat) : S.far x p = S.far y p := by unfold far; rw [h]
theorem key_pl {x y : α} (h : S.key x = S.key y) (p : Nat) : S.pl x p = S.pl y p := by unfold pl; rw [h]
theorem beats_trans {x y z : α} {p : Nat} (h1 : S.beats x y p) (h2 : S.beats y z p) : S.beats x z p := by
  unfold beats at *
  rcases h1 with h1 | ⟨h1, h1'⟩ <;> rcases h2 with h2 | ⟨h2, h2'⟩
  · exact .inl (by omega)
  · exact .inl (by omega)
  · exact .inl (by omega)
  · exact .inr ⟨by omega, S.tr _ _ _ h1' h2'⟩
theorem beats_not {x y : α} {p : Nat} (h1 : S.beats x y p) (h2 : S.beats y x p) : False := by
  have := beats_trans h1 h2
  rcases this with h | ⟨_, h⟩
  · omega
  · rw [S.irr] at h; cases h
theorem beats_tot {x y : α} {p : Nat} (hk : S.key x ≠ S.key y) (h : ¬S.beats x y p) : S.beats y x p := by
  unfold beats at *
  rcases Nat.lt_trichotomy (S.far x p) (S.far y p) with h1 | h1 | h1
  · exact .inl h1
  · rcases S.tot (S.key x) (S.key y) with h2 | h2 | h2
    · exact absurd h2 hk
    · exact absurd (.inr ⟨h1.symm, h2⟩) h
    · exact .inr ⟨h1, h2⟩
  · exact absurd (.inl h1) h
/-- Behind the cut at an empty place: further on is further on. -/
theorem cut_lt {g : Nat → α} {x : α} {c d d' : Nat} (hc : c < S.n) (he : S.emp (g c) = true) (hd : d < S.n) (h : S.passed g x d) (h2 : S.emp (g (S.pl x d)) = false) (hd' : d' < d) : S.gap c (S.pl x d) < S.gap c (S.pl x d') := by
  have key : ∀ j, d' + j ≤ d → S.gap c (S.pl x (d' + j)) + j = S.gap c (S.pl x d') := by
    intro j
    induction j with
    | zero => intro _; rfl
    | succ j ih =>
      intro hj
      have h1 := ih (by omega)
      have hne : S.pl x (d' + j) ≠ c := fun e => by
        have := (h (d' + j) (by omega)).1
        rw [e, he] at this; cases this
      have h3 := gap_nxt hc (pl_lt (x := x) (show d' + j < S.n by omega)) hne
      rw [pl_nxt (by omega)] at h3
      show S.gap c (S.pl x (d' + j + 1)) + (j + 1) = _
      omega
  have := key (d - d') (by omega)
  rw [show d' + (d - d') = d by omega] at this
  omega
theorem uniq_aux {f g : Nat → α} (hf : S.OK f) (hg : S.OK g) (df : S.Dist f) {c : Nat} (hc : c < S.n) (he : S.emp (g c) = true) (hs : ∀ x, S.Has g x → S.Has f x) :
    ∀ m i j, i < S.n → j < S.n → S.emp (f i) = false → f i = g j → S.far (f i) i < S.far (f i) j → m = S.n - S.gap c i → False := by
  intro m
  induction m using Nat.strongRecOn with
  | _ m ih =>
    intro i j hi hj hem hfg hlt hm
    have hgj : S.emp (g j) = false := by rw [← hfg]; exact hem
    have h1 := hg j hj hgj
    rw [← hfg] at h1
    have h2 := h1 _ hlt
    rw [pl_far hi] at h2
    obtain ⟨h2e, h2b⟩ := h2
    obtain ⟨i', hi', hx, hxe⟩ := hs (g i) ⟨i, hi, rfl, h2e⟩
    have hne : i' ≠ i := fun e => by
      subst e
      rw [← hx] at h2b
      rcases h2b with h | ⟨_, h⟩
      · omega
      · rw [S.irr] at h; cases h
    have hflt : S.far (f i') i' < S.far (f i') i := by
      rcases Nat.lt_trichotomy (S.far (f i') i') (S.far (f i') i) with h | h | h
      · exact h
      · have := pl_far (S := S) (x := f i') hi'
        rw [h, pl_far hi] at this
        exact absurd this.symm hne
      · have h3 := hf i' hi' (by rw [hx]; exact hxe) _ h
        rw [pl_far hi] at h3
        rw [hx] at h3
        exact (beats_not h2b h3.2).elim
    refine ih (S.n - S.gap c i') ?_ i' i hi' hi (by rw [hx]; exact hxe) hx hflt rfl
    have hgi := hg i hi h2e
    rw [← hx] at hgi
    have := cut_lt hc he (far_lt hi) hgi (by rw [pl_far hi]; exact h2e) hflt
    rw [pl_far hi, pl_far hi'] at this
    have hb : S.gap c i' ≤ S.n - 1 := by unfold gap; split <;> omega
    omega
theorem uniq {f g : Nat → α} (hf : S.OK f) (hg : S.OK g) (df : S.Dist f) (dg : S.Dist g) {c c' : Nat} (hc : c < S.n) (he : S.emp (g c) = true) (hc' : c' < S.n) (he' : S.emp (f c') = true) (hs : ∀ x, S.Has f x ↔ S.Has g x)
    {i : Nat} (hi : i < S.n) (hem : S.emp (f i) = false) : f i = g i := by
  obtain ⟨j, hj, hx, hxe⟩ := (hs (f i)).1 ⟨i, hi, rfl, hem⟩
  rcases Nat.lt_trichotomy (S.far (f i) i) (S.far (f i) j) with h | h | h
  · exact (uniq_aux hf hg df hc he (fun x => (hs x).2) _ i j hi hj hem hx.symm h rfl).elim
  · have h1 := pl_far (S := S) (x := f i) hi
    rw [h, pl_far hj] at h1
    rw [← hx, h1]
  · exact (uniq_aux hg hf dg hc' he' (fun x => (hs x).1) _ j i hj hi (by rw [hx]; exact hxe) hx (by rw [hx]; exact h) rfl).elim
/-! one more -/
def upd (f : Nat → α) (i : Nat) (x : α) : Nat → α := fun j => if j = i then x else f j
theorem upd_eq {f : Nat → α} {i : Nat} {x : α} : upd f i x i = x := by simp [upd]
theorem upd_ne {f : Nat → α} {i j : Nat} {x : α} (h : j ≠ i) : upd f i x j = f j := by simp [upd, h]
variable (S) in
structure Car (f : Nat → α) (now : α) (at_ : Nat) : Prop where
  lt : at_ < S.n
  ok : S.OK f
  dist : S.Dist f
  en : S.emp now = false
  new : ∀ i, i < S.n → S.emp (f i) = false → S.key (f i) ≠ S.key now
  ps : S.passed f now (S.far now at_)
theorem Car.far {f : Nat → α} {now : α} {a c : Nat} (h : Car S f now a) (hc : c < S.n) (he : S.emp (f c) = true) (hn : S.emp (f a) = false) : S.far now a + 1 < S.n := by
  rcases Nat.lt_or_ge (S.far now a + 1) S.n with h1 | h1
  · exact h1
  have hf := far_lt (S := S) (x := now) h.lt
  have hc' := far_lt (S := S) (x := now) hc
  rcases Nat.lt_or_ge (S.far now c) (S.far now a) with h2 | h2
  · have := (h.ps _ h2).1
    rw [pl_far hc, he] at this; cases this
  · have h3 : S.far now c = S.far now a := by omega
    have := pl_far (S := S) (x := now) hc
    rw [h3, pl_far h.lt] at this
    subst this
    rw [he] at hn; cases hn
theorem Car.fin {f : Nat → α} {now : α} {a : Nat} (h : Car S f now a) (he : S.emp (f a) = true) : S.OK (upd f a now) ∧ S.Dist (upd f a now) ∧ ∀ x, S.Has (upd f a now) x ↔ x = now ∨ S.Has f x := by
  refine ⟨fun i hi hem => ?_, fun i j hi hj h1 h2 h3 => ?_, fun x => ⟨?_, ?_⟩⟩
  · by_cases hia : i = a
    · subst hia
      rw [upd_eq]
      intro k hk
      have hne : S.pl now k ≠ i := fun e => by
        have h2 := pl_far (S := S) (x := now) hi
        rw [← e] at h2
        have := pl_inj (S := S) (x := now) (far_lt (pl_lt (by have := far_lt (S := S) (x := now) hi; omega))) (by have := far_lt (S := S) (x := now) hi; omega) h2
        rw [← e, far_pl (by have := far_lt (S := S) (x := now) hi; omega)] at hk; omega
      rw [upd_ne hne]
      exact h.ps k hk
    · rw [upd_ne hia] at hem ⊢
      intro k hk
      have h2 := h.ok i hi hem k hk
      have hne : S.pl (f i) k ≠ a := fun e => by rw [e, he] at h2; cases h2.1
      rw [upd_ne hne]
      exact h2
  · by_cases hia : i = a <;> by_cases hja : j = a
    · omega
    · subst hia
      rw [upd_eq] at h3 h1
      rw [upd_ne hja] at h3 h2
      exact absurd h3.symm (h.new j hj h2)
    · subst hja
      rw [upd_eq] at h3 h2
      rw [upd_ne hia] at h3 h1
      exact absurd h3 (h.new i hi h1)
    · rw [upd_ne hia] at h1 h3
      rw [upd_ne hja] at h2 h3
      exact h.dist i j hi hj h1 h2 h3
  · rintro ⟨i, hi, hx, hxe⟩
    by_cases hia : i = a
    · subst hia; rw [upd_eq] at hx; exact .inl hx.symm
    · rw [upd_ne hia] at hx; exact .inr ⟨i, hi, hx, hxe⟩
  · rintro (rfl | ⟨i, hi, hx, hxe⟩)
    · exact ⟨a, h.lt, upd_eq, h.en⟩
    · have hia : i ≠ a := fun e => by subst e; rw [← hx, he] at hxe; cases hxe
      exact ⟨i, hi, by rw [upd_ne hia]; exact hx, hxe⟩
theorem passed_snoc {f : Nat → α} {x : α} {a : Nat} (ha : a < S.n) (h : S.passed f x (S.far x a)) (hl : S.far x a + 1 < S.n) (h1 : S.emp (f a) = false) (h2 : S.beats (f a) x a) : S.passed f x (S.far x (S.nxt a)) := by
  rw [far_nxt ha hl]
  intro k hk
  rcases Nat.lt_succ_iff_lt_or_eq.1 hk with hk | rfl
  · exact h k hk
  · rw [pl_far ha]; exact ⟨h1, h2⟩
theorem Car.pass {f : Nat → α} {now : α} {a c : Nat} (h : Car S f now a) (hc : c < S.n) (he : S.emp (f c) = true) (hn : S.emp (f a) = false) (hb : ¬S.beats now (f a) a) : Car S f now (S.nxt a) where
  lt := nxt_lt h.lt
  ok := h.ok
  dist := h.dist
  en := h.en
  new := h.new
  ps := passed_snoc h.lt h.ps (h.far hc he hn) hn (beats_tot (fun e => h.new a h.lt hn e.symm) hb)
theorem not_on {x : α} {a k : Nat} (ha : a < S.n) (hk : k < S.far x a) : S.pl x k ≠ a := fun e => by
  have hl := far_lt (S := S) (x := x) ha
  have h2 := far_pl (S := S) (x := x) (show k < S.n by omega)
  rw [e] at h2; omega
theorem Car.swap {f : Nat → α} {now : α} {a c : Nat} (h : Car S f now a) (hc : c < S.n) (he : S.emp (f c) = true) (hn : S.emp (f a) = false) (hb : S.beats now (f a) a) :
    Car S (upd f a now) (f a) (S.nxt a) ∧ ∀ x, (x = f a ∨ S.Has (upd f a now) x) ↔ (x = now ∨ S.Has f x) := by
  have hca : c ≠ a := fun e => by subst e; rw [he] at hn; cases hn
  have ps : ∀ x d, d < S.n → S.passed f x d → (∀ k, k < d → S.pl x k = a → S.beats now x a) → S.passed (upd f a now) x d := by
    intro x d hd hp hab k hk
    by_cases e : S.pl x k = a
    · rw [e, upd_eq]; exact ⟨h.en, hab k hk e⟩
    · rw [upd_ne e]; exact hp k hk
  have hok : S.OK (upd f a now) := by
    intro i hi hem
    by_cases hia : i = a
    · subst hia
      rw [upd_eq]
      exact ps _ _ (far_lt hi) h.ps fun k hk e => absurd e (not_on hi hk)
    · rw [upd_ne hia] at hem ⊢
      refine ps _ _ (far_lt hi) (h.ok i hi hem) fun k hk e => ?_
      have := (h.ok i hi hem k hk).2
      rw [e] at this
      exact beats_trans hb this
  refine ⟨⟨nxt_lt h.lt, hok, fun i j hi hj h1 h2 h3 => ?_, hn, fun i hi h1 => ?_, ?_⟩, fun x => ⟨?_, ?_⟩⟩
  · by_cases hia : i = a <;> by_cases hja : j = a
    · omega
    · subst hia
      rw [upd_eq] at h3 h1
      rw [upd_ne hja] at h3 h2
      exact absurd h3.symm (h.new j hj h2)
    · subst hja
      rw [upd_eq] at h3 h2
      rw [upd_ne hia] at h3 h1
      exact absurd h3 (h.new i hi h1)
    · rw [upd_ne hia] at h1 h3
      rw [upd_ne hja] at h2 h3
      exact h.dist i j hi hj h1 h2 h3
  · by_cases hia : i = a
    · subst hia; rw [upd_eq]; exact fun e => h.new i hi hn e.symm
    · rw [upd_ne hia] at h1 ⊢
      exact fun e => hia (h.dist i a hi h.lt h1 hn e)
  · have hp : S.passed (upd f a now) (f a) (S.far (f a) a) := ps _ _ (far_lt h.lt) (h.ok a h.lt hn) fun k hk e => absurd e (not_on h.lt hk)
    refine passed_snoc h.lt hp ?_ (by rw [upd_eq]; exact h.en) (by rw [upd_eq]; exact hb)
    have := h.far hc he hn
    unfold beats at hb
    omega
  · rintro (rfl | ⟨i, hi, hx, hxe⟩)
    · exact .inr ⟨a, h.lt, rfl, hn⟩
    · by_cases hia : i = a
      · subst hia; rw [upd_eq] at hx; exact .inl hx.symm
      · rw [upd_ne hia] at hx; exact .inr ⟨i, hi, hx, hxe⟩
  · rintro (rfl | ⟨i, hi, hx, hxe⟩)
    · exact .inr ⟨a, h.lt, upd_eq, h.en⟩
    · by_cases hia : i = a
      · subst hia; exact .inl hx.symm
      · exact .inr ⟨i, hi, by rw [upd_ne hia]; exact hx, hxe⟩
/-! one less -/
variable (S) in
/-- But for the place a, all stand right; what went over a counts as right there. -/
structure Hole (f : Nat → α) (a : Nat) : Prop where
  lt : a < S.n
  ok : ∀ i, i < S.n → i ≠ a → S.emp (f i) = false → ∀ k, k < S.far (f i) i → S.pl (f i) k ≠ a → S.emp (f (S.pl (f i) k)) = false ∧ S.beats (f (S.pl (f i) k)) (f i) (S.pl (f i) k)
  dist : ∀ i j, i < S.n → j < S.n → i ≠ a → j ≠ a → S.emp (f i) = false → S.emp (f j) = false → S.key (f i) = S.key (f j) → i = j
theorem Hole.of {f : Nat → α} {a : Nat} (h : S.OK f) (hd : S.Dist f) (ha : a < S.n) : Hole S f a where
  lt := ha
  ok := fun i hi _ hem k hk _ => h i hi hem k hk
  dist := fun i j hi hj _ _ => hd i j hi hj
/-- What goes over a stands behind it, and went over the next place too, or stands there. -/
theorem Hole.over {f : Nat → α} {a : Nat} (h : Hole S f a) {i : Nat} (hi : i < S.n) (hia : i ≠ a) (hem : S.emp (f i) = false) {k : Nat} (hk : k < S.far (f i) i) (e : S.pl (f i) k = a) :
    S.far (f i) a = k ∧ S.far (f i) (S.nxt a) = k + 1 ∧ (i = S.nxt a ∨ (S.emp (f (S.nxt a)) = false ∧ S.beats (f (S.nxt a)) (f i) (S.nxt a) ∧ S.nxt a ≠ a)) := by
  have hl := far_lt (S := S) (x := f i) hi
  have h1 : S.far (f i) a = k := by rw [← e]; exact far_pl (by omega)
  have h2 := pl_nxt (S := S) (x := f i) (k := k) (by omega)
  rw [e] at h2
  have h3 : S.far (f i) (S.nxt a) = k + 1 := by rw [h2]; exact far_pl (by omega)
  refine ⟨h1, h3, ?_⟩
  rcases Nat.lt_or_ge (k + 1) (S.far (f i) i) with h4 | h4
  · have hne : S.nxt a ≠ a := fun e2 => by rw [e2] at h3; omega
    have h5 := h.ok i hi hia hem (k + 1) h4 (by rw [← h2]; exact hne)
    rw [← h2] at h5
    exact .inr ⟨h5.1, h5.2, hne⟩
  · refine .inl ?_
    have h5 := pl_far (S := S) (x := f i) hi
    rw [show S.far (f i) i = k + 1 by omega, ← h2] at h5
    exact h5.symm
theorem Hole.fin {f : Nat → α} {a : Nat} (h : Hole S f a) {z : α} (hz : S.emp z = true) (hn : S.emp (f (S.nxt a)) = true ∨ S.far (f (S.nxt a)) (S.nxt a) = 0) : S.OK (upd f a z) ∧ S.Dist (upd f a z) := by
  constructor
  · intro i hi hem
    have hia : i ≠ a := fun e => by subst e; rw [upd_eq, hz] at hem; cases hem
    rw [upd_ne hia] at hem ⊢
    intro k hk
    by_cases e : S.pl (f i) k = a
    · exfalso
      obtain ⟨h1, h2, h3⟩ := h.over hi hia hem hk e
      rcases h3 with h3 | ⟨h3, h4, h5⟩
      · subst h3
        rcases hn with hn | hn
        · rw [hn] at hem; cases hem
        · omega
      · rcases hn with hn | hn
        · rw [hn] at h3; cases h3
        · unfold beats at h4; omega
    · rw [upd_ne e]; exact h.ok i hi hia hem k hk e
  · intro i j hi hj h1 h2 h3
    have hia : i ≠ a := fun e => by subst e; rw [upd_eq, hz] at h1; cases h1
    have hja : j ≠ a := fun e => by subst e; rw [upd_eq, hz] at h2; cases h2
    rw [upd_ne hia] at h1 h3
    rw [upd_ne hja] at h2 h3
    exact h.dist i j hi hj hia hja h1 h2 h3
theorem Hole.step {f : Nat → α} {a : Nat} (h : Hole S f a) (hne : S.nxt a ≠ a) (hn : S.emp (f (S.nxt a)) = false) (hd : S.far (f (S.nxt a)) (S.nxt a) ≠ 0) : Hole S (upd f a (f (S.nxt a))) (S.nxt a) := by
  obtain ⟨b, hb⟩ : ∃ b, b = S.nxt a := ⟨_, rfl⟩
  have hbl : b < S.n := by rw [hb]; exact nxt_lt h.lt
  have hfb : S.far (f b) b = S.far (f b) a + 1 := by rw [hb]; exact far_nxt0 h.lt hd
  rw [← hb] at hn hd hne ⊢
  refine ⟨hbl, fun i hi hib hem k hk hkb => ?_, fun i j hi hj hib hjb h1 h2 h3 => ?_⟩
  · by_cases hia : i = a
    · subst hia
      rw [upd_eq] at hem hk hkb ⊢
      have hne2 : S.pl (f b) k ≠ i := not_on hi hk
      rw [upd_ne hne2]
      exact h.ok b hbl hne hn k (by omega) hne2
    · rw [upd_ne hia] at hem hk hkb ⊢
      by_cases e : S.pl (f i) k = a
      · rw [e, upd_eq]
        refine ⟨hn, ?_⟩
        obtain ⟨h1, h2, h3⟩ := h.over hi hia hem hk e
        rw [← hb] at h2 h3
        rcases h3 with h3 | ⟨h3, h4, h5⟩
        · exact absurd h3 hib
        · unfold beats at h4 ⊢
          rcases h4 with h4 | ⟨h4, h4'⟩
          · exact .inl (by omega)
          · exact .inr ⟨by omega, h4'⟩
      · rw [upd_ne e]; exact h.ok i hi hia hem k hk e
  · by_cases hia : i = a <;> by_cases hja : j = a
    · omega
    · subst hia
      rw [upd_eq] at h1 h3
      rw [upd_ne hja] at h2 h3
      exact absurd (h.dist b j hbl hj hne hja h1 h2 h3).symm hjb
    · subst hja
      rw [upd_eq] at h2 h3
      rw [upd_ne hia] at h1 h3
      exact absurd (h.dist i b hi hbl hia hne h1 h2 h3) hib
    · rw [upd_ne hia] at h1 h3
      rw [upd_ne hja] at h2 h3
      exact h.dist i j hi hj hia hja h1 h2 h3
end TS
end Go.Proofs.Ytilgdnbijkcboaa

/- Tables as lists of places, entries as rising lists. -/
namespace Go.Proofs.Ytilgdnbijkcboaa
open Go AVL
set_option linter.unusedVariables false
set_option linter.unusedSimpArgs false

namespace TS
variable {α κ : Type} (S : TS α κ)
def fn (L : List α) : Nat → α := fun i => L[i]?.getD S.z
def cnt (L : List α) : Nat := L.countP fun x => !S.emp x
variable {S}
theorem fn_get {L : List α} {i : Nat} (h : i < L.length) : S.fn L i = L[i] := by simp [fn, h]
theorem fn_set {L : List α} {i : Nat} {x : α} (h : i < L.length) : S.fn (L.set i x) = upd (S.fn L) i x := by
  funext j
  simp only [fn, upd, List.getElem?_set]
  by_cases e : i = j
  · subst e; simp [h]
  · rw [if_neg e, if_neg (fun e2 => e e2.symm)]
theorem fn_ext {L M : List α} (hl : L.length = S.n) (hm : M.length = S.n) (h : ∀ i, i < S.n → S.fn L i = S.fn M i) : L = M := by
  refine List.ext_getElem (by omega) fun i h1 h2 => ?_
  have := h i (by omega)
  rwa [fn_get h1, fn_get h2] at this
theorem cnt_set {L : List α} {i : Nat} {x : α} (h : i < L.length) : S.cnt (L.set i x) + (if S.emp (S.fn L i) then 0 else 1) = S.cnt L + (if S.emp x then 0 else 1) := by
  rw [fn_get h]
  have h1 : S.cnt (L.set i x) = _ := List.countP_set h
  rw [h1]
  unfold cnt
  have h2 : (!S.emp L[i]) = true → 0 < L.countP (fun x => !S.emp x) := fun h2 => List.countP_pos_iff.2 ⟨L[i], List.getElem_mem h, h2⟩
  have b1 : ∀ b : Bool, (if (!b) = true then 1 else 0 : Nat) = if b then 0 else 1 := fun b => by cases b <;> rfl
  rw [b1, b1]
  cases h3 : S.emp L[i] with
  | true => simp
  | false =>
    rw [h3] at h2
    have := h2 rfl
    simp; omega
theorem cnt_free {L : List α} (h : S.cnt L < L.length) : ∃ c, c < L.length ∧ S.emp (S.fn L c) = true := by
  by_cases hex : ∃ c, c < L.length ∧ S.emp (S.fn L c) = true
  · exact hex
  · exfalso
    have : S.cnt L = L.length := by
      unfold cnt
      rw [List.countP_eq_length]
      intro x hx
      obtain ⟨i, hi, rfl⟩ := List.getElem_of_mem hx
      cases he : S.emp L[i] with
      | false => rfl
      | true => exact absurd ⟨i, hi, by rw [fn_get hi]; exact he⟩ hex
    omega
theorem cnt_replicate (k : Nat) : S.cnt (List.replicate k S.z) = 0 := by
  unfold cnt
  rw [List.countP_eq_zero]
  intro x hx
  obtain ⟨_, rfl⟩ := List.mem_replicate.1 hx
  simp [S.z_emp]
variable (S) in
/-- A table of those entries. -/
structure Tab (L r : List α) : Prop where
  len : L.length = S.n
  ok : S.OK (S.fn L)
  dist : S.Dist (S.fn L)
  zero : ∀ i, i < S.n → S.emp (S.fn L i) = true → S.fn L i = S.z
  has : ∀ x, S.Has (S.fn L) x ↔ x ∈ r
  cn : S.cnt L = r.length
  room : r.length < S.n
theorem Tab.free {L r : List α} (h : Tab S L r) : ∃ c, c < S.n ∧ S.emp (S.fn L c) = true := by
  have := cnt_free (S := S) (L := L) (by rw [h.cn, h.len]; exact h.room)
  rwa [h.len] at this
theorem Tab.uniq {L r L' r' : List α} (h : Tab S L r) (h' : Tab S L' r') (e : ∀ x, x ∈ r ↔ x ∈ r') : L = L' := by
  obtain ⟨c, hc, he⟩ := h.free
  obtain ⟨c', hc', he'⟩ := h'.free
  have hs : ∀ x, S.Has (S.fn L) x ↔ S.Has (S.fn L') x := fun x => by rw [h.has, h'.has, e]
  refine fn_ext h.len h'.len fun i hi => ?_
  cases hem : S.emp (S.fn L i) with
  | false => exact TS.uniq h.ok h'.ok h.dist h'.dist hc' he' hc he hs hi hem
  | true =>
    cases hem' : S.emp (S.fn L' i) with
    | false => exact (TS.uniq h'.ok h.ok h'.dist h.dist hc he hc' he' (fun x => (hs x).symm) hi hem').symm
    | true => rw [h.zero i hi hem, h'.zero i hi hem']
theorem fn_replicate (k i : Nat) : S.fn (List.replicate k S.z) i = S.z := by
  unfold fn
  rw [List.getElem?_replicate]
  split <;> rfl
theorem Tab.nil : Tab S (List.replicate S.n S.z) [] where
  len := List.length_replicate
  ok := fun i hi h => by rw [fn_replicate, S.z_emp] at h; cases h
  dist := fun i j hi hj h => by rw [fn_replicate, S.z_emp] at h; cases h
  zero := fun i hi h => fn_replicate _ _
  has := fun x => by
    constructor
    · rintro ⟨i, hi, h, h2⟩
      rw [fn_replicate] at h; subst h
      rw [S.z_emp] at h2; cases h2
    · simp
  cn := cnt_replicate _
  room := by
    have := S.hm_lt (S.key S.z)
    simp only [List.length_nil]; omega
theorem Tab.mem {L r : List α} (h : Tab S L r) {i : Nat} (hi : i < S.n) (he : S.emp (S.fn L i) = false) : S.fn L i ∈ r := (h.has _).1 ⟨i, hi, rfl, he⟩
/-! looking for one -/
def Absent (f : Nat → α) (x : α) : Prop := ∀ i, i < S.n → S.emp (f i) = false → S.key (f i) ≠ S.key x
structure Fi (f : Nat → α) (x : α) (d : Nat) : Prop where
  ps : S.passed f x d
  ne : ∀ k, k < d → S.key (f (S.pl x k)) ≠ S.key x
theorem Fi.zero {f : Nat → α} {x : α} : Fi (S := S) f x 0 := ⟨fun k hk => absurd hk (by omega), fun k hk => absurd hk (by omega)⟩
theorem Fi.next {f : Nat → α} {x : α} {d : Nat} (h : Fi (S := S) f x d) (h1 : S.emp (f (S.pl x d)) = false) (h2 : S.key (f (S.pl x d)) ≠ S.key x) (h3 : ¬S.beats x (f (S.pl x d)) (S.pl x d)) : Fi (S := S) f x (d + 1) where
  ps := fun k hk => by
    rcases Nat.lt_succ_iff_lt_or_eq.1 hk with hk | rfl
    · exact h.ps k hk
    · exact ⟨h1, beats_tot (fun e => h2 e.symm) h3⟩
  ne := fun k hk => by
    rcases Nat.lt_succ_iff_lt_or_eq.1 hk with hk | rfl
    · exact h.ne k hk
    · exact h2
theorem Fi.absent {f : Nat → α} {x : α} {d : Nat} (hok : S.OK f) (h : Fi (S := S) f x d) (hd : d ≤ S.n) (h1 : d = S.n ∨ S.emp (f (S.pl x d)) = true ∨ (S.key (f (S.pl x d)) ≠ S.key x ∧ S.beats x (f (S.pl x d)) (S.pl x d))) : Absent (S := S) f x := by
  intro i hi he hk
  have hl := far_lt (S := S) (x := f i) hi
  have hp := pl_far (S := S) (x := f i) hi
  rw [key_pl hk] at hp
  rcases Nat.lt_trichotomy (S.far (f i) i) d with h2 | h2 | h2
  · exact h.ne _ h2 (by rw [hp]; exact hk)
  · rw [h2] at hp
    rw [hp] at h1
    rcases h1 with h1 | h1 | h1
    · omega
    · rw [he] at h1; cases h1
    · exact h1.1 hk
  · have h3 := hok i hi he d h2
    rw [key_pl hk] at h3
    rcases h1 with h1 | h1 | h1
    · omega
    · rw [h1] at h3; cases h3.1
    · have h4 := h3.2
      have h5 := h1.2
      unfold beats at h4 h5
      rw [key_far hk, hk] at h4
      exact beats_not h4 h5
theorem Tab.absent {L r : List α} (h : Tab S L r) {x : α} : Absent (S := S) (S.fn L) x ↔ ∀ y ∈ r, S.key y ≠ S.key x := by
  constructor
  · intro ha y hy
    obtain ⟨i, hi, rfl, he⟩ := (h.has y).2 hy
    exact ha i hi he
  · intro ha i hi he
    exact ha _ (h.mem hi he)
theorem Tab.same {L r : List α} (h : Tab S L r) {x y : α} (hx : x ∈ r) (hy : y ∈ r) (hk : S.key x = S.key y) : x = y := by
  obtain ⟨i, hi, rfl, he⟩ := (h.has x).2 hx
  obtain ⟨j, hj, rfl, he'⟩ := (h.has y).2 hy
  rw [h.dist i j hi hj he he' hk]
/-! putting -/
theorem Tab.over {L r r' : List α} (h : Tab S L r) {i : Nat} {e : α} (hi : i < S.n) (he : S.emp (S.fn L i) = false) (hk : S.key e = S.key (S.fn L i)) (hee : S.emp e = false) (hr : ∀ x, x ∈ r' ↔ x = e ∨ (x ∈ r ∧ S.key x ≠ S.key e)) (hl : r'.length = r.length) :
    Tab S (L.set i e) r' := by
  have hiL : i < L.length := by rw [h.len]; exact hi
  have kf : ∀ j, S.key (upd (S.fn L) i e j) = S.key (S.fn L j) := fun j => by
    unfold upd; split
    · subst_vars; exact hk
    · rfl
  have ef : ∀ j, S.emp (upd (S.fn L) i e j) = S.emp (S.fn L j) := fun j => by
    unfold upd; split
    · subst_vars; rw [hee, he]
    · rfl
  refine ⟨by simp [h.len], ?_, ?_, ?_, fun x => ?_, ?_, by rw [hl]; exact h.room⟩
  · rw [fn_set hiL]
    intro j hj hje k hkk
    rw [ef] at hje
    rw [key_far (kf j)] at hkk
    have := h.ok j hj hje k hkk
    rw [key_pl (kf j), ef]
    refine ⟨this.1, ?_⟩
    have h2 := this.2
    unfold beats at h2 ⊢
    rw [key_far (kf j), key_far (kf (S.pl (S.fn L j) k)), kf, kf]
    exact h2
  · rw [fn_set hiL]
    intro j k hj hk h1 h2 h3
    rw [ef] at h1 h2; rw [kf, kf] at h3
    exact h.dist j k hj hk h1 h2 h3
  · rw [fn_set hiL]
    intro j hj hje
    rw [ef] at hje
    have hji : j ≠ i := fun e2 => by subst e2; rw [he] at hje; cases hje
    rw [upd_ne hji]; exact h.zero j hj hje
  · rw [fn_set hiL, hr]
    constructor
    · rintro ⟨j, hj, hx, hxe⟩
      by_cases hji : j = i
      · subst hji; rw [upd_eq] at hx; exact .inl hx.symm
      · rw [upd_ne hji] at hx
        subst hx
        exact .inr ⟨h.mem hj hxe, fun e2 => hji (h.dist j i hj hi hxe he (e2.trans hk))⟩
    · rintro (rfl | ⟨hx, hne⟩)
      · exact ⟨i, hi, upd_eq, hee⟩
      · obtain ⟨j, hj, hx, hxe⟩ := (h.has x).2 hx
        have hji : j ≠ i := fun e2 => by subst e2; rw [hx] at hk; exact hne hk.symm
        exact ⟨j, hj, by rw [upd_ne hji]; exact hx, hxe⟩
  · have := cnt_set (S := S) (x := e) hiL
    rw [he, hee] at this
    rw [hl, ← h.cn]
    simpa using this
variable (S) in
structure CarL (L : List α) (now : α) (a : Nat) (r : List α) : Prop where
  len : L.length = S.n
  car : Car S (S.fn L) now a
  zero : ∀ i, i < S.n → S.emp (S.fn L i) = true → S.fn L i = S.z
  has : ∀ x, (x = now ∨ S.Has (S.fn L) x) ↔ x ∈ r
  cn : S.cnt L + 1 = r.length
  room : r.length < S.n
theorem Tab.car {L r r' : List α} (h : Tab S L r) {e : α} (ha : Absent (S := S) (S.fn L) e) (hee : S.emp e = false) (hr : ∀ x, x ∈ r' ↔ x = e ∨ x ∈ r) (hl : r'.length = r.length + 1) (hn : r.length + 1 < S.n) : CarL S L e (S.hm (S.key e)) r' where
  len := h.len
  car := ⟨S.hm_lt _, h.ok, h.dist, hee, ha, by rw [(far_zero (S.hm_lt _)).2 rfl]; exact fun k hk => absurd hk (by omega)⟩
  zero := h.zero
  has := fun x => by rw [hr, h.has]
  cn := by rw [h.cn, hl]
  room := by omega
theorem CarL.free {L r : List α} {now : α} {a : Nat} (h : CarL S L now a r) : ∃ c, c < S.n ∧ S.emp (S.fn L c) = true := by
  have := cnt_free (S := S) (L := L) (by have := h.cn; have := h.room; rw [h.len]; omega)
  rwa [h.len] at this
theorem CarL.fin {L r : List α} {now : α} {a : Nat} (h : CarL S L now a r) (he : S.emp (S.fn L a) = true) : Tab S (L.set a now) r := by
  have haL : a < L.length := by rw [h.len]; exact h.car.lt
  obtain ⟨h1, h2, h3⟩ := h.car.fin he
  refine ⟨by simp [h.len], by rw [fn_set haL]; exact h1, by rw [fn_set haL]; exact h2, ?_, fun x => by rw [fn_set haL, h3]; exact h.has x, ?_, h.room⟩
  · rw [fn_set haL]
    intro j hj hje
    have hja : j ≠ a := fun e => by subst e; rw [upd_eq, h.car.en] at hje; cases hje
    rw [upd_ne hja] at hje ⊢; exact h.zero j hj hje
  · have := cnt_set (S := S) (x := now) haL
    rw [he, h.car.en] at this
    rw [← h.cn]; simpa using this
theorem CarL.pass {L r : List α} {now : α} {a : Nat} (h : CarL S L now a r) (he : S.emp (S.fn L a) = false) (hb : ¬S.beats now (S.fn L a) a) : CarL S L now (S.nxt a) r := by
  obtain ⟨c, hc, hce⟩ := h.free
  exact ⟨h.len, h.car.pass hc hce he hb, h.zero, h.has, h.cn, h.room⟩
theorem CarL.far {L r : List α} {now : α} {a : Nat} (h : CarL S L now a r) (he : S.emp (S.fn L a) = false) : S.far now a + 1 < S.n := by
  obtain ⟨c, hc, hce⟩ := h.free
  exact h.car.far hc hce he
theorem CarL.swap {L r : List α} {now : α} {a : Nat} (h : CarL S L now a r) (he : S.emp (S.fn L a) = false) (hb : S.beats now (S.fn L a) a) : CarL S (L.set a now) (S.fn L a) (S.nxt a) r := by
  obtain ⟨c, hc, hce⟩ := h.free
  have haL : a < L.length := by rw [h.len]; exact h.car.lt
  obtain ⟨h1, h2⟩ := h.car.swap hc hce he hb
  refine ⟨by simp [h.len], by rw [fn_set haL]; exact h1, ?_, fun x => by rw [fn_set haL, h2]; exact h.has x, ?_, h.room⟩
  · rw [fn_set haL]
    intro j hj hje
    have hja : j ≠ a := fun e => by subst e; rw [upd_eq, h.car.en] at hje; cases hje
    rw [upd_ne hja] at hje ⊢; exact h.zero j hj hje
  · have := cnt_set (S := S) (x := now) haL
    rw [he, h.car.en] at this
    rw [← h.cn]; simpa using this
/-- An empty place goes on being one, and comes nearer. -/
theorem CarL.gap {L r : List α} {now : α} {a c : Nat} (h : CarL S L now a r) (hc : c < S.n) (he : S.emp (S.fn L c) = true) (hn : S.emp (S.fn L a) = false) : S.gap c (S.nxt a) + 1 = S.gap c a ∧ S.emp (S.fn (L.set a now) c) = true := by
  have hca : c ≠ a := fun e => by subst e; rw [he] at hn; cases hn
  have haL : a < L.length := by rw [h.len]; exact h.car.lt
  exact ⟨gap_nxt hc h.car.lt (fun e => hca e.symm), by rw [fn_set haL, upd_ne hca]; exact he⟩
/-! dropping -/
variable (S) in
structure HoleL (L : List α) (a : Nat) (r : List α) : Prop where
  len : L.length = S.n
  hole : Hole S (S.fn L) a
  zero : ∀ i, i < S.n → i ≠ a → S.emp (S.fn L i) = true → S.fn L i = S.z
  has : ∀ x, (∃ i, i < S.n ∧ i ≠ a ∧ S.fn L i = x ∧ S.emp x = false) ↔ x ∈ r
  cn : S.cnt (L.set a S.z) = r.length
  room : r.length < S.n
theorem Tab.hole {L r r' : List α} (h : Tab S L r) {a : Nat} (ha : a < S.n) (hae : S.emp (S.fn L a) = false) (hr : ∀ x, x ∈ r' ↔ x ∈ r ∧ S.key x ≠ S.key (S.fn L a)) (hl : r'.length + 1 = r.length) : HoleL S L a r' where
  len := h.len
  hole := .of h.ok h.dist ha
  zero := fun i hi _ => h.zero i hi
  has := fun x => by
    rw [hr]
    constructor
    · rintro ⟨i, hi, hia, rfl, he⟩
      exact ⟨h.mem hi he, fun e => hia (h.dist i a hi ha he hae e)⟩
    · rintro ⟨hx, hne⟩
      obtain ⟨i, hi, rfl, he⟩ := (h.has x).2 hx
      exact ⟨i, hi, fun e => hne (by rw [e]), rfl, he⟩
  cn := by
    have := cnt_set (S := S) (x := S.z) (show a < L.length by rw [h.len]; exact ha)
    rw [hae, S.z_emp, h.cn] at this
    simp only [if_true] at this
    have h2 : ¬(false = true) := by decide
    rw [if_neg h2] at this
    omega
  room := by have := h.room; omega
theorem HoleL.fin {L r : List α} {a : Nat} (h : HoleL S L a r) (hn : S.emp (S.fn L (S.nxt a)) = true ∨ S.far (S.fn L (S.nxt a)) (S.nxt a) = 0) : Tab S (L.set a S.z) r := by
  have haL : a < L.length := by rw [h.len]; exact h.hole.lt
  obtain ⟨h1, h2⟩ := h.hole.fin S.z_emp hn
  refine ⟨by simp [h.len], by rw [fn_set haL]; exact h1, by rw [fn_set haL]; exact h2, ?_, fun x => ?_, h.cn, h.room⟩
  · rw [fn_set haL]
    intro i hi hie
    by_cases hia : i = a
    · subst hia; rw [upd_eq]
    · rw [upd_ne hia] at hie ⊢; exact h.zero i hi hia hie
  · rw [fn_set haL, ← h.has]
    constructor
    · rintro ⟨i, hi, hx, he⟩
      by_cases hia : i = a
      · subst hia; rw [upd_eq] at hx; subst hx; rw [S.z_emp] at he; cases he
      · rw [upd_ne hia] at hx; exact ⟨i, hi, hia, hx, he⟩
    · rintro ⟨i, hi, hia, hx, he⟩
      exact ⟨i, hi, by rw [upd_ne hia]; exact hx, he⟩
theorem HoleL.free {L r : List α} {a : Nat} (h : HoleL S L a r) (hroom : r.length + 1 < S.n) : ∃ c, c < S.n ∧ c ≠ a ∧ S.emp (S.fn L c) = true := by
  by_cases hex : ∃ c, c < S.n ∧ c ≠ a ∧ S.emp (S.fn L c) = true
  · exact hex
  · exfalso
    have haL : a < L.length := by rw [h.len]; exact h.hole.lt
    have hnot : ∀ i, i < S.n → i ≠ a → S.emp (S.fn L i) = false := fun i hi hia => by
      cases he : S.emp (S.fn L i) with
      | false => rfl
      | true => exact absurd ⟨i, hi, hia, he⟩ hex
    cases hez : S.emp (S.fn L a) with
    | false =>
      have hall : S.cnt L = L.length := by
        unfold cnt
        rw [List.countP_eq_length]
        intro x hx
        obtain ⟨i, hi, rfl⟩ := List.getElem_of_mem hx
        have : S.emp (S.fn L i) = false := by
          by_cases hia : i = a
          · subst hia; exact hez
          · exact hnot i (by rw [← h.len]; exact hi) hia
        rw [fn_get hi] at this
        simp [this]
      have := cnt_set (S := S) (x := S.z) haL
      rw [hez, S.z_emp, h.cn, hall, h.len] at this
      have h2 : ¬(false = true) := by decide
      simp only [if_true] at this
      rw [if_neg h2] at this
      omega
    | true =>
      by_cases hnn : ∃ x, S.emp x = false
      · obtain ⟨x, hx⟩ := hnn
        have hall : S.cnt (L.set a x) = (L.set a x).length := by
          unfold cnt
          rw [List.countP_eq_length]
          intro y hy
          obtain ⟨i, hi, rfl⟩ := List.getElem_of_mem hy
          have : S.emp (S.fn (L.set a x) i) = false := by
            rw [fn_set haL]
            by_cases hia : i = a
            · subst hia; rw [upd_eq]; exact hx
            · rw [upd_ne hia]; exact hnot i (by rw [← h.len]; simpa using hi) hia
          rw [fn_get hi] at this
          simp [this]
        have h1 := cnt_set (S := S) (x := x) haL
        have h3 := cnt_set (S := S) (x := S.z) haL
        rw [hez, hx, hall] at h1
        rw [hez, S.z_emp, h.cn] at h3
        have h2 : ¬(false = true) := by decide
        simp only [if_true] at h1 h3
        rw [if_neg h2] at h1
        simp only [List.length_set] at h1
        have := h.len
        omega
      · have : S.n = 1 := by
          rcases Nat.lt_or_ge 1 S.n with h1 | h1
          · exfalso
            have h2 : (if a = 0 then 1 else 0) < S.n := by split <;> omega
            have h3 : (if a = 0 then 1 else 0) ≠ a := by split <;> omega
            exact hnn ⟨_, hnot _ h2 h3⟩
          · have := h.hole.lt; omega
        omega
theorem HoleL.step {L r : List α} {a : Nat} (h : HoleL S L a r) (hne : S.nxt a ≠ a) (hn : S.emp (S.fn L (S.nxt a)) = false) (hd : S.far (S.fn L (S.nxt a)) (S.nxt a) ≠ 0) : HoleL S (L.set a (S.fn L (S.nxt a))) (S.nxt a) r := by
  have haL : a < L.length := by rw [h.len]; exact h.hole.lt
  have hbn := nxt_lt (S := S) h.hole.lt
  have hbL : S.nxt a < L.length := by rw [h.len]; exact hbn
  refine ⟨by simp [h.len], by rw [fn_set haL]; exact h.hole.step hne hn hd, ?_, fun x => ?_, ?_, h.room⟩
  · rw [fn_set haL]
    intro i hi hib hie
    by_cases hia : i = a
    · subst hia; rw [upd_eq, hn] at hie; cases hie
    · rw [upd_ne hia] at hie ⊢; exact h.zero i hi hia hie
  · rw [fn_set haL, ← h.has]
    constructor
    · rintro ⟨i, hi, hib, hx, he⟩
      by_cases hia : i = a
      · subst hia; rw [upd_eq] at hx; exact ⟨S.nxt i, hbn, hne, hx, he⟩
      · rw [upd_ne hia] at hx; exact ⟨i, hi, hia, hx, he⟩
    · rintro ⟨i, hi, hia, hx, he⟩
      by_cases hib : i = S.nxt a
      · subst hib; exact ⟨a, h.hole.lt, fun e => hne e.symm, by rw [upd_eq]; exact hx, he⟩
      · exact ⟨i, hi, hib, by rw [upd_ne hia]; exact hx, he⟩
  · have h1 := cnt_set (S := S) (L := L.set a (S.fn L (S.nxt a))) (i := S.nxt a) (x := S.z) (by simpa using hbL)
    have h2 := cnt_set (S := S) (x := S.fn L (S.nxt a)) haL
    have h3 := cnt_set (S := S) (x := S.z) haL
    rw [fn_set haL, upd_ne hne, hn, S.z_emp] at h1
    rw [hn] at h2
    rw [S.z_emp, h.cn] at h3
    have hf : ¬(false = true) := by decide
    simp only [if_true] at h1 h3
    rw [if_neg hf] at h1 h2
    omega
theorem HoleL.gap {L r : List α} {a c : Nat} (h : HoleL S L a r) (hc : c < S.n) (hca : c ≠ a) (he : S.emp (S.fn L c) = true) : S.gap c (S.nxt a) + 1 = S.gap c a ∧ S.emp (S.fn (L.set a (S.fn L (S.nxt a))) c) = true := by
  have haL : a < L.length := by rw [h.len]; exact h.hole.lt
  exact ⟨gap_nxt hc h.hole.lt (fun e => hca e.symm), by rw [fn_set haL, upd_ne hca]; exact he⟩
/-! entries, rising -/
variable (S) in
def Rise (r : List α) : Prop := r.Pairwise fun x y => S.lt (S.key x) (S.key y) = true
variable (S) in
def putR [DecidableEq κ] (e : α) : List α → List α
  | [] => [e]
  | x :: t => if S.lt (S.key x) (S.key e) = true then x :: putR e t else if S.key x = S.key e then e :: t else e :: x :: t
theorem Rise.key_inj {r : List α} (h : Rise S r) {i j : Nat} (hi : i < r.length) (hj : j < r.length) (e : S.key r[i] = S.key r[j]) : i = j := by
  have hp := List.pairwise_iff_getElem.1 h
  rcases Nat.lt_trichotomy i j with h1 | h1 | h1
  · have := hp i j hi hj h1; rw [e, S.irr] at this; cases this
  · exact h1
  · have := hp j i hj hi h1; rw [e, S.irr] at this; cases this
variable [DecidableEq κ]
theorem mem_putR {e x : α} : ∀ {r : List α}, Rise S r → (x ∈ putR S e r ↔ x = e ∨ (x ∈ r ∧ S.key x ≠ S.key e))
  | [], _ => by simp [putR]
  | y :: t, h => by
    obtain ⟨h1, h2⟩ := List.pairwise_cons.1 h
    unfold putR
    split
    · rename_i hl
      have hne : S.key y ≠ S.key e := fun e2 => by rw [e2, S.irr] at hl; cases hl
      rw [List.mem_cons, mem_putR h2, List.mem_cons]
      constructor
      · rintro (rfl | h | h)
        · exact .inr ⟨.inl rfl, hne⟩
        · exact .inl h
        · exact .inr ⟨.inr h.1, h.2⟩
      · rintro (h | ⟨rfl | h, h'⟩)
        · exact .inr (.inl h)
        · exact .inl rfl
        · exact .inr (.inr ⟨h, h'⟩)
    · rename_i hl
      split
      · rename_i he
        rw [List.mem_cons, List.mem_cons]
        constructor
        · rintro (h | h)
          · exact .inl h
          · refine .inr ⟨.inr h, fun e2 => ?_⟩
            have := h1 x h
            rw [he, e2, S.irr] at this; cases this
        · rintro (h | ⟨rfl | h, h'⟩)
          · exact .inl h
          · exact absurd he h'
          · exact .inr h
      · rename_i he
        rw [List.mem_cons]
        constructor
        · rintro (h3 | h3)
          · exact .inl h3
          · refine .inr ⟨h3, fun e2 => ?_⟩
            rcases List.mem_cons.1 h3 with rfl | h4
            · exact he e2
            · have h5 := h1 x h4
              rw [e2] at h5
              exact hl h5
        · rintro (h3 | ⟨h3, _⟩)
          · exact .inl h3
          · exact .inr h3
theorem rise_putR {e : α} : ∀ {r : List α}, Rise S r → Rise S (putR S e r)
  | [], _ => by simp [putR, Rise]
  | y :: t, h => by
    obtain ⟨h1, h2⟩ := List.pairwise_cons.1 h
    unfold putR
    split
    · rename_i hl
      refine List.pairwise_cons.2 ⟨fun x hx => ?_, rise_putR h2⟩
      rcases (mem_putR h2).1 hx with rfl | h3
      · exact hl
      · exact h1 x h3.1
    · rename_i hl
      split
      · rename_i he
        exact List.pairwise_cons.2 ⟨fun x hx => by rw [← he]; exact h1 x hx, h2⟩
      · rename_i he
        have hey : S.lt (S.key e) (S.key y) = true := by
          rcases S.tot (S.key y) (S.key e) with h3 | h3 | h3
          · exact absurd h3 he
          · exact absurd h3 hl
          · exact h3
        refine List.pairwise_cons.2 ⟨fun x hx => ?_, h⟩
        rcases List.mem_cons.1 hx with rfl | h4
        · exact hey
        · exact S.tr _ _ _ hey (h1 x h4)
theorem len_putR {e : α} : ∀ {r : List α}, Rise S r → (putR S e r).length = if ∃ x ∈ r, S.key x = S.key e then r.length else r.length + 1
  | [], _ => by simp [putR]
  | y :: t, h => by
    obtain ⟨h1, h2⟩ := List.pairwise_cons.1 h
    unfold putR
    split
    · rename_i hl
      have hne : S.key y ≠ S.key e := fun e2 => by rw [e2, S.irr] at hl; cases hl
      rw [List.length_cons, len_putR h2]
      have : (∃ x ∈ y :: t, S.key x = S.key e) ↔ ∃ x ∈ t, S.key x = S.key e := by
        simp [hne]
      simp only [this]
      split <;> simp
    · rename_i hl
      split
      · rename_i he
        rw [if_pos ⟨y, by simp, he⟩]; rfl
      · rename_i he
        rw [if_neg]
        · rfl
        · rintro ⟨x, hx, hk⟩
          rcases List.mem_cons.1 hx with rfl | h4
          · exact he hk
          · have h5 := h1 x h4
            rw [hk] at h5
            exact hl h5
variable (S) in
/-- Where a key stands first, or the length. -/
def ixR (r : List α) (k : κ) : Nat := r.findIdx fun x => decide (S.key x = k)
theorem ixR_le {r : List α} {k : κ} : ixR S r k ≤ r.length := List.findIdx_le_length
theorem ixR_lt {r : List α} {k : κ} : ixR S r k < r.length ↔ ∃ x ∈ r, S.key x = k := by
  unfold ixR; rw [List.findIdx_lt_length]; simp
theorem ixR_key {r : List α} {k : κ} (h : ixR S r k < r.length) : S.key (r[ixR S r k]) = k := by
  have := List.findIdx_getElem (p := fun x => decide (S.key x = k)) (xs := r) (w := h)
  exact of_decide_eq_true this
theorem ixR_before {r : List α} {k : κ} {j : Nat} (h : j < ixR S r k) : S.key (r[j]'(Nat.lt_of_lt_of_le h ixR_le)) ≠ k := by
  have := List.not_of_lt_findIdx h
  simpa using this
theorem ixR_eq {r : List α} {k : κ} {i : Nat} (hi : i ≤ r.length) (h1 : ∀ j, (h : j < i) → S.key (r[j]'(by omega)) ≠ k) (h2 : i = r.length ∨ ∃ h : i < r.length, S.key r[i] = k) : ixR S r k = i := by
  rcases Nat.lt_trichotomy (ixR S r k) i with h | h | h
  · exact absurd (ixR_key (S := S) (r := r) (k := k) (by omega)) (h1 _ h)
  · exact h
  · have hl := ixR_le (S := S) (r := r) (k := k)
    rcases h2 with h2 | ⟨h3, h2⟩
    · omega
    · exact absurd h2 (ixR_before h)
variable (S) in
def dropR (r : List α) (k : κ) : List α := r.take (ixR S r k) ++ r.drop (ixR S r k + 1)
theorem dropR_sub {r : List α} {k : κ} : (dropR S r k).Sublist r := by
  unfold dropR
  have h := List.take_append_drop (ixR S r k) r
  conv => rhs; rw [← h]
  refine List.Sublist.append (List.Sublist.refl _) ?_
  rw [← List.drop_drop]
  exact List.drop_sublist _ _
theorem rise_dropR {r : List α} {k : κ} (h : Rise S r) : Rise S (dropR S r k) := List.Pairwise.sublist dropR_sub h
theorem len_dropR {r : List α} {k : κ} (h : ixR S r k < r.length) : (dropR S r k).length + 1 = r.length := by
  unfold dropR; rw [List.length_append, List.length_take, List.length_drop]; omega
theorem mem_dropR {r : List α} {k : κ} {x : α} (h : Rise S r) (hk : ixR S r k < r.length) : x ∈ dropR S r k ↔ x ∈ r ∧ S.key x ≠ k := by
  have hkey := ixR_key hk
  unfold dropR
  rw [List.mem_append]
  constructor
  · rintro (hx | hx)
    · obtain ⟨i, hi, rfl⟩ := List.getElem_of_mem hx
      rw [List.length_take] at hi
      rw [List.getElem_take]
      exact ⟨List.getElem_mem _, ixR_before (by omega)⟩
    · obtain ⟨i, hi, rfl⟩ := List.getElem_of_mem hx
      rw [List.length_drop] at hi
      rw [List.getElem_drop]
      refine ⟨List.getElem_mem _, fun e => ?_⟩
      have := h.key_inj (by omega) hk (e.trans hkey.symm)
      omega
  · rintro ⟨hx, hne⟩
    obtain ⟨i, hi, rfl⟩ := List.getElem_of_mem hx
    rcases Nat.lt_trichotomy i (ixR S r k) with h1 | h1 | h1
    · exact .inl (List.mem_take_iff_getElem.2 ⟨i, by omega, rfl⟩)
    · exact absurd (by subst h1; exact hkey) hne
    · refine .inr (List.mem_iff_getElem.2 ⟨i - (ixR S r k + 1), by rw [List.length_drop]; omega, ?_⟩)
      rw [List.getElem_drop]
      congr 1; omega
end TS
end Go.Proofs.Ytilgdnbijkcboaa

/- Abstract programs; that they are the program's. -/
namespace Go.Proofs.Ytilgdnbijkcboaa
open Go AVL
set_option linter.unusedVariables false
set_option maxRecDepth 20000

def q_digest_Home_0 : List AOper := [
  ⟨(some 2), (.box 23 (.ia .u8 32) (.t 0)), none⟩,
  ⟨(some 4), (.mv (.v (.int .i64 0))), none⟩]
def q_digest_Home_1 : List AOper := [
  ⟨(some 8), (.mv (.t 1)), none⟩,
  ⟨(some 9), (.bin .lss (.t 8) (.v (.int .i64 1))), none⟩]
def q_digest_Home_2 : List AOper := [
  ⟨(some 4), (.mv (.v (.int .i64 0))), none⟩]
def q_digest_Home_3 : List AOper := [
  ⟨(some 5), (.mv (.v (.int .u64 0))), none⟩]
def q_digest_Home_4 : List AOper := [
  ⟨(some 10), (.slcA 32 (.t 2) none (some (.v (.int .i64 6)))), none⟩,
  ⟨(some 11), (.len false (.t 10)), none⟩,
  ⟨(some 12), (.mv (.v (.int .i64 0))), none⟩]
def q_digest_Home_5 : List AOper := [
  ⟨(some 13), (.bin .lss (.t 12) (.t 11)), none⟩]
def q_digest_Home_6 : List AOper := [
  ⟨(some 14), (.idx 1 (.t 10) (.t 12)), none⟩,
  ⟨(some 15), (.load .sc 1 (.t 14)), none⟩,
  ⟨(some 7), (.mv (.t 15)), none⟩]
def q_digest_Home_7 : List AOper := [
  ⟨(some 16), (.mv (.t 5)), none⟩,
  ⟨(some 17), (.bin .shl (.t 16) (.v (.int .u64 8))), none⟩,
  ⟨(some 18), (.mv (.t 7)), none⟩,
  ⟨(some 19), (.conv .u64 (.t 18)), none⟩,
  ⟨(some 20), (.bin .or (.t 17) (.t 19)), none⟩,
  ⟨(some 5), (.mv (.t 20)), none⟩]
def q_digest_Home_8 : List AOper := [
  ⟨(some 21), (.bin .add (.t 12) (.v (.int .i64 1))), none⟩,
  ⟨(some 12), (.mv (.t 21)), none⟩]
def q_digest_Home_L9 : ACode := (.seq (.region q_digest_Home_5) (.seq (.cond (.t 13) .skip (.exit 0)) (.seq (.block 1 (.seq (.region q_digest_Home_6) (.region q_digest_Home_7))) (.region q_digest_Home_8))))
def q_digest_Home_9 : List AOper := [
  ⟨(some 22), (.mv (.t 5)), none⟩,
  ⟨(some 23), (.mv (.t 1)), none⟩,
  ⟨(some 24), (.conv .u64 (.t 23)), none⟩,
  ⟨(some 25), (.bin .rem (.t 22) (.t 24)), none⟩,
  ⟨(some 26), (.conv .i64 (.t 25)), none⟩,
  ⟨(some 4), (.mv (.t 26)), none⟩]
def a_digest_Home : AFunc := ⟨[(.tmp 4)], (.seq (.region q_digest_Home_0) (.seq (.seq (.region q_digest_Home_1) (.cond (.t 9) (.seq (.region q_digest_Home_2) .ret) .skip)) (.seq (.region q_digest_Home_3) (.seq (.seq (.region q_digest_Home_4) (.block 0 (.loop q_digest_Home_L9))) (.seq (.region q_digest_Home_9) .ret)))))⟩

def q_digest_Less_0 : List AOper := [
  ⟨(some 2), (.box 23 (.ia .u8 32) (.t 0)), none⟩,
  ⟨(some 3), (.box 23 (.ia .u8 32) (.t 1)), none⟩,
  ⟨(some 4), (.mv (.v (.bool false))), none⟩]
def q_digest_Less_1 : List AOper := [
  ⟨(some 6), (.mv (.v (.int .i64 0))), none⟩]
def q_digest_Less_2 : List AOper := [
  ⟨(some 7), (.bin .lss (.t 6) (.v (.int .i64 32))), none⟩]
def q_digest_Less_3 : List AOper := [
  ⟨(some 8), (.mv (.t 6)), none⟩,
  ⟨(some 5), (.mv (.t 8)), none⟩]
def q_digest_Less_4 : List DOp := [
  ⟨⟨(some 9), (.mv (.t 5)), none⟩, true, false, none, []⟩,
  ⟨⟨(some 10), (.idxA 32 1 true (.t 2) (.t 9)), none⟩, true, false, none, []⟩,
  ⟨⟨(some 11), (.load .sc 1 (.t 10)), none⟩, true, false, none, []⟩,
  ⟨⟨(some 12), (.mv (.t 5)), none⟩, true, false, none, []⟩,
  ⟨⟨(some 13), (.idxA 32 1 true (.t 3) (.t 12)), none⟩, true, false, none, []⟩,
  ⟨⟨(some 14), (.load .sc 1 (.t 13)), none⟩, true, false, none, []⟩,
  ⟨⟨(some 15), (.eq .scI true (.t 11) (.t 14)), none⟩, true, false, none, []⟩]
def q_digest_Less_5 : List DOp := [
  ⟨⟨(some 16), (.mv (.t 5)), none⟩, true, false, none, []⟩,
  ⟨⟨(some 17), (.idxA 32 1 true (.t 2) (.t 16)), none⟩, true, false, none, []⟩,
  ⟨⟨(some 18), (.load .sc 1 (.t 17)), none⟩, true, false, none, []⟩,
  ⟨⟨(some 19), (.mv (.t 5)), none⟩, true, false, none, []⟩,
  ⟨⟨(some 20), (.idxA 32 1 true (.t 3) (.t 19)), none⟩, true, false, none, []⟩,
  ⟨⟨(some 21), (.load .sc 1 (.t 20)), none⟩, true, false, none, []⟩,
  ⟨⟨(some 22), (.bin .lss (.t 18) (.t 21)), none⟩, true, false, none, []⟩,
  ⟨⟨(some 4), (.mv (.t 22)), none⟩, true, false, none, []⟩]
def q_digest_Less_6 : List AOper := [
  ⟨(some 23), (.bin .add (.t 6) (.v (.int .i64 1))), none⟩,
  ⟨(some 6), (.mv (.t 23)), none⟩]
def q_digest_Less_L7 : ACode := (.seq (.region q_digest_Less_2) (.seq (.cond (.t 7) .skip (.exit 0)) (.seq (.block 1 (.seq (.region q_digest_Less_3) (.seq (.regionD q_digest_Less_4) (.cond (.t 15) (.seq (.regionD q_digest_Less_5) .ret) .skip)))) (.region q_digest_Less_6))))
def q_digest_Less_7 : List AOper := [
  ⟨(some 4), (.mv (.v (.bool false))), none⟩]
def a_digest_Less : AFunc := ⟨[(.tmp 4)], (.seq (.region q_digest_Less_0) (.seq (.seq (.region q_digest_Less_1) (.block 0 (.loop q_digest_Less_L7))) (.seq (.region q_digest_Less_7) .ret)))⟩

def q_ref03_Home_0 : List AOper := [
  ⟨(some 2), (.box 23 (.ia .u8 32) (.t 0)), none⟩,
  ⟨(some 4), (.mv (.v (.int .i64 0))), none⟩]
def q_ref03_Home_1 : List AOper := [
  ⟨(some 7), (.mv (.t 1)), none⟩,
  ⟨(some 8), (.bin .lss (.t 7) (.v (.int .i64 1))), none⟩]
def q_ref03_Home_2 : List AOper := [
  ⟨(some 4), (.mv (.v (.int .i64 0))), none⟩]
def q_ref03_Home_3 : List AOper := [
  ⟨(some 5), (.mv (.v (.int .u64 0))), none⟩]
def q_ref03_Home_4 : List AOper := [
  ⟨(some 6), (.mv (.v (.int .i64 0))), none⟩]
def q_ref03_Home_5 : List AOper := [
  ⟨(some 9), (.mv (.t 6)), none⟩,
  ⟨(some 10), (.bin .lss (.t 9) (.v (.int .i64 6))), none⟩]
def q_ref03_Home_6 : List AOper := [
  ⟨(some 13), (.mv (.t 5)), none⟩,
  ⟨(some 14), (.bin .mul (.t 13) (.v (.int .u64 256))), none⟩,
  ⟨(some 15), (.mv (.t 6)), none⟩,
  ⟨(some 16), (.idxA 32 1 true (.t 2) (.t 15)), none⟩,
  ⟨(some 17), (.load .sc 1 (.t 16)), none⟩,
  ⟨(some 18), (.conv .u64 (.t 17)), none⟩,
  ⟨(some 19), (.bin .add (.t 14) (.t 18)), none⟩,
  ⟨(some 5), (.mv (.t 19)), none⟩]
def q_ref03_Home_7 : List AOper := [
  ⟨(some 11), (.mv (.t 6)), none⟩,
  ⟨(some 12), (.bin .add (.t 11) (.v (.int .i64 1))), none⟩,
  ⟨(some 6), (.mv (.t 12)), none⟩]
def q_ref03_Home_L8 : ACode := (.seq (.seq (.region q_ref03_Home_5) (.cond (.t 10) .skip (.exit 0))) (.seq (.block 1 (.region q_ref03_Home_6)) (.region q_ref03_Home_7)))
def q_ref03_Home_8 : List AOper := [
  ⟨(some 20), (.mv (.t 5)), none⟩,
  ⟨(some 21), (.mv (.t 1)), none⟩,
  ⟨(some 22), (.conv .u64 (.t 21)), none⟩,
  ⟨(some 23), (.bin .rem (.t 20) (.t 22)), none⟩,
  ⟨(some 24), (.conv .i64 (.t 23)), none⟩,
  ⟨(some 4), (.mv (.t 24)), none⟩]
def a_ref03_Home : AFunc := ⟨[(.tmp 4)], (.seq (.region q_ref03_Home_0) (.seq (.seq (.region q_ref03_Home_1) (.cond (.t 8) (.seq (.region q_ref03_Home_2) .ret) .skip)) (.seq (.region q_ref03_Home_3) (.seq (.seq (.region q_ref03_Home_4) (.block 0 (.loop q_ref03_Home_L8))) (.seq (.region q_ref03_Home_8) .ret)))))⟩


theorem c_digest_Home : trF Try.prog Try.f57 = some a_digest_Home := by kernel_rfl
theorem g_digest_Home : Try.prog.funcs[57]? = some Try.f57 := by kernel_rfl
theorem v_digest_Home {args : List AV} {v : AV} (hn : args.length ≤ 27) (h : X Try.prog (fin a_digest_Home.res v) a_digest_Home.body .done (env0 args) H0) : Gives Try.prog F_digest_Home args v :=
  Gives_intro g_digest_Home c_digest_Home (by rw [Try.ntmps57]; exact hn) h
@[simp] theorem k_digest_Home : callable Try.prog F_digest_Home = true := by kernel_rfl
theorem c_digest_Less : trF Try.prog Try.f88 = some a_digest_Less := by kernel_rfl
theorem g_digest_Less : Try.prog.funcs[88]? = some Try.f88 := by kernel_rfl
theorem v_digest_Less {args : List AV} {v : AV} (hn : args.length ≤ 24) (h : X Try.prog (fin a_digest_Less.res v) a_digest_Less.body .done (env0 args) H0) : Gives Try.prog F_digest_Less args v :=
  Gives_intro g_digest_Less c_digest_Less (by rw [Try.ntmps88]; exact hn) h
@[simp] theorem k_digest_Less : callable Try.prog F_digest_Less = true := by kernel_rfl
theorem c_ref03_Home : trF Try.prog Try.f86 = some a_ref03_Home := by kernel_rfl
theorem g_ref03_Home : Try.prog.funcs[86]? = some Try.f86 := by kernel_rfl
theorem v_ref03_Home {args : List AV} {v : AV} (hn : args.length ≤ 25) (h : X Try.prog (fin a_ref03_Home.res v) a_ref03_Home.body .done (env0 args) H0) : Gives Try.prog F_ref03_Home args v :=
  Gives_intro g_ref03_Home c_ref03_Home (by rw [Try.ntmps86]; exact hn) h
@[simp] theorem k_ref03_Home : callable Try.prog F_ref03_Home = true := by kernel_rfl
end Go.Proofs.Ytilgdnbijkcboaa

/- The digest, plainly: words, rounds, blocks, padding; that it does not matter how the bytes come. -/
namespace Go.Proofs.Ytilgdnbijkcboaa
open Go AVL
set_option linter.unusedVariables false
set_option linter.unusedSimpArgs false

abbrev W32 : Nat := 4294967296
def rot (x n : Nat) : Nat := x / 2 ^ n ||| x * 2 ^ (32 - n) % W32
def sg0 (x : Nat) : Nat := rot x 7 ^^^ rot x 18 ^^^ x / 8
def sg1 (x : Nat) : Nat := rot x 17 ^^^ rot x 19 ^^^ x / 1024
def Sg0 (x : Nat) : Nat := rot x 2 ^^^ rot x 13 ^^^ rot x 22
def Sg1 (x : Nat) : Nat := rot x 6 ^^^ rot x 11 ^^^ rot x 25
def chf (e f g : Nat) : Nat := (e &&& f) ^^^ ((W32 - 1 - e) &&& g)
def maj (a b c : Nat) : Nat := (a &&& b) ^^^ (a &&& c) ^^^ (b &&& c)
def Words (l : List Nat) : Prop := ∀ x ∈ l, x < W32
/-- A block's words. -/
def word4 (b : List Nat) (i : Nat) : Nat := (b.getD (4 * i) 0 * 16777216 + b.getD (4 * i + 1) 0 * 65536 + b.getD (4 * i + 2) 0 * 256 + b.getD (4 * i + 3) 0)
def first16 (b : List Nat) : List Nat := (List.range 16).map (word4 b)
def nextW (w : List Nat) (i : Nat) : Nat := (w.getD i 0 + sg0 (w.getD (i + 1) 0) + w.getD (i + 9) 0 + sg1 (w.getD (i + 14) 0)) % W32
def wsN (b : List Nat) : Nat → List Nat
  | 0 => first16 b
  | i + 1 => wsN b i ++ [nextW (wsN b i) i]
@[simp] theorem wsN_length (b : List Nat) : ∀ i, (wsN b i).length = 16 + i
  | 0 => by simp [wsN, first16]
  | i + 1 => by simp [wsN, wsN_length b i]; omega
/-- One round. -/
def rnd (v : List Nat) (k w : Nat) : List Nat :=
  let t := (v.getD 7 0 + Sg1 (v.getD 4 0) + chf (v.getD 4 0) (v.getD 5 0) (v.getD 6 0) + k + w) % W32
  let u := (Sg0 (v.getD 0 0) + maj (v.getD 0 0) (v.getD 1 0) (v.getD 2 0)) % W32
  [(t + u) % W32, v.getD 0 0, v.getD 1 0, v.getD 2 0, (v.getD 3 0 + t) % W32, v.getD 4 0, v.getD 5 0, v.getD 6 0]
def K64 : List Nat := [
  0x428a2f98, 0x71374491, 0xb5c0fbcf, 0xe9b5dba5, 0x3956c25b, 0x59f111f1, 0x923f82a4, 0xab1c5ed5,
  0xd807aa98, 0x12835b01, 0x243185be, 0x550c7dc3, 0x72be5d74, 0x80deb1fe, 0x9bdc06a7, 0xc19bf174,
  0xe49b69c1, 0xefbe4786, 0x0fc19dc6, 0x240ca1cc, 0x2de92c6f, 0x4a7484aa, 0x5cb0a9dc, 0x76f988da,
  0x983e5152, 0xa831c66d, 0xb00327c8, 0xbf597fc7, 0xc6e00bf3, 0xd5a79147, 0x06ca6351, 0x14292967,
  0x27b70a85, 0x2e1b2138, 0x4d2c6dfc, 0x53380d13, 0x650a7354, 0x766a0abb, 0x81c2c92e, 0x92722c85,
  0xa2bfe8a1, 0xa81a664b, 0xc24b8b70, 0xc76c51a3, 0xd192e819, 0xd6990624, 0xf40e3585, 0x106aa070,
  0x19a4c116, 0x1e376c08, 0x2748774c, 0x34b0bcb5, 0x391c0cb3, 0x4ed8aa4a, 0x5b9cca4f, 0x682e6ff3,
  0x748f82ee, 0x78a5636f, 0x84c87814, 0x8cc70208, 0x90befffa, 0xa4506ceb, 0xbef9a3f7, 0xc67178f2]
def rndN (v w : List Nat) : Nat → List Nat
  | 0 => v
  | i + 1 => rnd (rndN v w i) (K64.getD i 0) (w.getD i 0)
def sumW (s v : List Nat) : List Nat := (List.range 8).map fun i => (s.getD i 0 + v.getD i 0) % W32
/-- The words behind a block. -/
def mixB (s b : List Nat) : List Nat := sumW s (rndN s (wsN b 48) 64)
def H256 : List Nat := [0x6a09e667, 0xbb67ae85, 0x3c6ef372, 0xa54ff53a, 0x510e527f, 0x9b05688c, 0x1f83d9ab, 0x5be0cd19]
/-- Whole blocks, one behind the other. -/
def mixAll (s : List Nat) : Nat → List Nat → List Nat
  | 0, _ => s
  | n + 1, b => mixAll (mixB s (b.take 64)) n (b.drop 64)
/-- A number's bytes, the highest first. -/
def be8 (n : Nat) : List Nat := (List.range 8).map fun i => n / 256 ^ (7 - i) % 256
/-- How many noughts come behind so many bytes and one. -/
def zeros (n : Nat) : Nat := (119 - n % 64) % 64
def padT (l : List Nat) : List Nat := l ++ [128] ++ List.replicate (zeros l.length) 0 ++ be8 (8 * l.length)
def outB (s : List Nat) : List Nat := (List.range 32).map fun i => s.getD (i / 4) 0 / 2 ^ (24 - 8 * (i % 4)) % 256
def dig (l : List Nat) : List Nat := outB (mixAll H256 ((l.length + 72) / 64) (padT l))
/-- What a sum that grows has of bytes: the words behind the whole blocks, and the rest. -/
def stW (l : List Nat) : List Nat := mixAll H256 (l.length / 64) l
def stR (l : List Nat) : List Nat := l.drop (64 * (l.length / 64))
end Go.Proofs.Ytilgdnbijkcboaa

/- Digits of sixteen, plainly: there and back; which is ahead. -/
namespace Go.Proofs.Ytilgdnbijkcboaa
open Go AVL
set_option linter.unusedVariables false
set_option linter.unusedSimpArgs false

def hx (n : Nat) : Nat := if n < 10 then 48 + n else 87 + n
def hexL : List Nat → List Nat
  | [] => []
  | c :: r => hx (c / 16) :: hx (c % 16) :: hexL r
def unhx (c : Nat) : Option Nat := if 48 ≤ c ∧ c ≤ 57 then some (c - 48) else if 97 ≤ c ∧ c ≤ 102 then some (c - 87) else none
@[simp] theorem hexL_length : ∀ l, (hexL l).length = 2 * l.length
  | [] => rfl
  | c :: r => by simp [hexL, hexL_length r]; omega
def byts (l : List Nat) : Prop := ∀ x ∈ l, x < 256
def parL : List Nat → Option (List Nat)
  | [] => some []
  | [_] => none
  | x :: y :: r => match unhx x, unhx y, parL r with
    | some a, some b, some l => some ((16 * a + b) :: l)
    | _, _, _ => none
/-- Which is ahead, byte by byte. -/
def lessL : List Nat → List Nat → Bool
  | a :: r, b :: s => if a = b then lessL r s else decide (a < b)
  | [], _ :: _ => true
  | _, [] => false
end Go.Proofs.Ytilgdnbijkcboaa

/- Where an address is at home, and which of two is less: the digest's walks (of Dr and Ds), without the rest of the digest. -/
namespace Go.Proofs.Ytilgdnbijkcboaa
open Go AVL
set_option linter.unusedVariables false
set_option linter.unusedSimpArgs false
set_option maxRecDepth 8000

def homN : List Nat → Nat := List.foldl (fun n c => 256 * n + c) 0
theorem homN_succ {l : List Nat} {i : Nat} (h : i < l.length) : homN (l.take (i + 1)) = 256 * homN (l.take i) + l[i] := by
  rw [List.take_succ_eq_append_getElem h, homN, List.foldl_append]; rfl
theorem homN_lt {l : List Nat} (hb : byts l) : ∀ i, i ≤ l.length → homN (l.take i) < 256 ^ i
  | 0, _ => by simp [homN]
  | i + 1, h => by
    have h1 := homN_lt hb i (by omega)
    have h2 := hb _ (List.getElem_mem (show i < l.length by omega))
    rw [homN_succ (by omega), Nat.pow_succ]; omega
theorem homN_lt6 {l : List Nat} (hb : byts l) (i : Nat) (h : i ≤ l.length) (h6 : i ≤ 6) : homN (l.take i) < 281474976710656 := by
  have h1 := homN_lt hb i h
  have : 256 ^ i ≤ 256 ^ 6 := Nat.pow_le_pow_right (by decide) h6
  omega
def homV (l : List Nat) (o : Int) : Int := if o < 1 then 0 else (homN (l.take 6) : Int).tmod o
theorem shl8 {n m : Nat} (h : n < 281474976710656) (hm : 256 * n = m) : shlI .u64 (n : Int) 8 = (m : Int) := by
  simp only [shlI]
  have : (2 : Int) ^ min (Int.toNat 8) IntKind.u64.bits = 256 := by decide
  rw [this, wrap_u64 (by omega)]; omega
theorem shl8_or (n b : Nat) (hb : b < 256) : n * 256 ||| b = b + 256 * n := by
  have := Nat.two_pow_add_eq_or_of_lt (i := 8) (b := b) (by omega) n
  rw [Nat.mul_comm n 256]; simp only [show (2 : Nat) ^ 8 = 256 from rfl] at this; omega
theorem or8 {n m c s : Nat} (h : n < 281474976710656) (hm : 256 * n = m) (hc : c < 256) (hs : 256 * n + c = s) : bOr .u64 (m : Int) (c : Int) = (s : Int) := by
  rw [bOr_nat rfl (show m < 2 ^ 64 by omega) (show c < 2 ^ 64 by omega)]
  have := shl8_or n c hc
  rw [Nat.mul_comm n 256, hm] at this
  rw [this]; omega
theorem w_ref03_Home {l : List Nat} (hb : byts l) (h32 : l.length = 32) {o : Int} (h1 : -9223372036854775808 ≤ o) (h2 : o ≤ 9223372036854775807) : Gives Try.prog F_ref03_Home [.iarr .u8 32 (ints l), .int .i64 o] (.int .i64 (homV l o)) := by
  refine v_ref03_Home (by simp) ?_
  by_cases ho : o < 1
  · simp -implicitDefEqProofs [a_ref03_Home, q_ref03_Home_0, q_ref03_Home_1, q_ref03_Home_2, h32, ho, homV]
  · simp -implicitDefEqProofs [a_ref03_Home, q_ref03_Home_0, q_ref03_Home_1, q_ref03_Home_3, q_ref03_Home_4, h32, ho]
    intro g
    refine X_lp (fun (i : Nat) env B => i ≤ 6 ∧ env 1 = .int .i64 o ∧ env 2 = .ptr g 0 ∧ env 5 = .int .u64 (homN (l.take i)) ∧ env 6 = .int .i64 i ∧ B g = some (.var T_32_uint8 [.iarr .u8 32 (ints l)])) (fun i => 6 - i) 0
      ⟨by omega, by simp, by simp, by simp [homN], by simp, by simp⟩ ?_
    rintro i env B ⟨hi, e1, e2, e5, e6, fg⟩
    have hlt := homN_lt6 hb i (by omega) (by omega)
    by_cases hi6 : i < 6
    · have c6 : (i : Int) < 6 := by omega
      have c32 : (i : Int) < 32 := by omega
      have hil : i < l.length := by omega
      obtain ⟨c, hc⟩ : ∃ c, l[i] = c := ⟨_, rfl⟩
      have hcb : c < 256 := hc ▸ hb _ (List.getElem_mem hil)
      have hgd : l[i]?.getD 0 = c := by rw [List.getElem?_eq_getElem hil, ← hc]; rfl
      have hs := homN_succ hil
      rw [hc] at hs
      obtain ⟨n, hn⟩ : ∃ n, homN (l.take i) = n := ⟨_, rfl⟩
      rw [hn] at hs e5 hlt
      have w1 : IntKind.u64.wrap ((n : Int) * 256) = (n : Int) * 256 := wrap_u64 (by omega)
      have w2 : IntKind.u64.wrap (c : Int) = (c : Int) := wrap_u64 (by omega)
      have w3 : IntKind.u64.wrap ((n : Int) * 256 + c) = ((256 * n + c : Nat) : Int) := by rw [wrap_u64 (by omega)]; omega
      have wi : IntKind.i64.wrap ((i : Int) + 1) = (i : Int) + 1 := wrap_i64 (by omega)
      obtain ⟨s, hss⟩ : ∃ s, 256 * n + c = s := ⟨_, rfl⟩
      rw [hss] at hs w3
      simp -implicitDefEqProofs [q_ref03_Home_L8, q_ref03_Home_5, q_ref03_Home_6, q_ref03_Home_7, e1, e2, e5, e6, fg, c6, c32, h32, hgd, w1, w2, w3, wi]
      refine lp_next (i + 1) ⟨by omega, by simp [e1], by simp [e2], by simp [hs], by simp, by simp [fg]⟩ (by omega)
    · have hie : i = 6 := by omega
      subst hie
      obtain ⟨n, hn⟩ : ∃ n, homN (l.take 6) = n := ⟨_, rfl⟩
      rw [hn] at e5 hlt
      have w1 : IntKind.u64.wrap o = o := wrap_u64 (by omega)
      have hm : (n : Int).tmod o = (n : Int) % o := Int.tmod_eq_emod_of_nonneg (by omega)
      have hm1 := Int.emod_nonneg (n : Int) (show o ≠ 0 by omega)
      have hm2 := Int.emod_lt_of_pos (n : Int) (show 0 < o by omega)
      obtain ⟨r, hr⟩ : ∃ r, (n : Int) % o = r := ⟨_, rfl⟩
      rw [hr] at hm hm1 hm2
      have w2 : IntKind.i64.wrap r = r := wrap_i64 (by omega)
      have o0 : ¬ o = 0 := by omega
      simp -implicitDefEqProofs [q_ref03_Home_L8, q_ref03_Home_5, q_ref03_Home_8, e1, e5, e6, w1, w2, hm, hn, o0, ho, homV]
theorem w_digest_Home {l : List Nat} (hb : byts l) (h32 : l.length = 32) {o : Int} (h1 : -9223372036854775808 ≤ o) (h2 : o ≤ 9223372036854775807) : Gives Try.prog F_digest_Home [.iarr .u8 32 (ints l), .int .i64 o] (.int .i64 (homV l o)) := by
  refine v_digest_Home (by simp) ?_
  by_cases ho : o < 1
  · simp -implicitDefEqProofs [a_digest_Home, q_digest_Home_0, q_digest_Home_1, q_digest_Home_2, h32, ho, homV]
  · simp -implicitDefEqProofs [a_digest_Home, q_digest_Home_0, q_digest_Home_1, q_digest_Home_3, q_digest_Home_4, h32, ho]
    intro g
    refine X_lp (fun (i : Nat) env B => i ≤ 6 ∧ env 1 = .int .i64 o ∧ env 10 = .asl g 0 32 0 6 ∧ env 11 = .int .i64 6 ∧ env 5 = .int .u64 (homN (l.take i)) ∧ env 12 = .int .i64 i ∧ B g = some (.var T_32_uint8 [.iarr .u8 32 (ints l)])) (fun i => 6 - i) 0
      ⟨by omega, by simp, by simp, by simp, by simp [homN], by simp, by simp⟩ ?_
    rintro i env B ⟨hi, e1, e10, e11, e5, e12, fg⟩
    have hlt := homN_lt6 hb i (by omega) (by omega)
    by_cases hi6 : i < 6
    · have c6 : (i : Int) < 6 := by omega
      have c32 : (i : Int) < 32 := by omega
      have hil : i < l.length := by omega
      obtain ⟨c, hc⟩ : ∃ c, l[i] = c := ⟨_, rfl⟩
      have hcb : c < 256 := hc ▸ hb _ (List.getElem_mem hil)
      have hgd : l[i]?.getD 0 = c := by rw [List.getElem?_eq_getElem hil, ← hc]; rfl
      have hs := homN_succ hil
      rw [hc] at hs
      obtain ⟨n, hn⟩ : ∃ n, homN (l.take i) = n := ⟨_, rfl⟩
      rw [hn] at hs e5 hlt
      obtain ⟨m, hm⟩ : ∃ m, 256 * n = m := ⟨_, rfl⟩
      have w1 := shl8 hlt hm
      have w2 : IntKind.u64.wrap (c : Int) = (c : Int) := wrap_u64 (by omega)
      obtain ⟨s, hss⟩ : ∃ s, 256 * n + c = s := ⟨_, rfl⟩
      have w3 := or8 hlt hm hcb hss
      have wi : IntKind.i64.wrap ((i : Int) + 1) = (i : Int) + 1 := wrap_i64 (by omega)
      rw [hss] at hs
      simp -implicitDefEqProofs [q_digest_Home_L9, q_digest_Home_5, q_digest_Home_6, q_digest_Home_7, q_digest_Home_8, e1, e10, e11, e5, e12, fg, c6, c32, h32, hgd, w1, w2, w3, wi]
      refine lp_next (i + 1) ⟨by omega, by simp [e1], by simp [e10], by simp [e11], by simp [hs], by simp, by simp [fg]⟩ (by omega)
    · have hie : i = 6 := by omega
      subst hie
      obtain ⟨n, hn⟩ : ∃ n, homN (l.take 6) = n := ⟨_, rfl⟩
      rw [hn] at e5 hlt
      have w1 : IntKind.u64.wrap o = o := wrap_u64 (by omega)
      have hm : (n : Int).tmod o = (n : Int) % o := Int.tmod_eq_emod_of_nonneg (by omega)
      have hm1 := Int.emod_nonneg (n : Int) (show o ≠ 0 by omega)
      have hm2 := Int.emod_lt_of_pos (n : Int) (show 0 < o by omega)
      obtain ⟨r, hr⟩ : ∃ r, (n : Int) % o = r := ⟨_, rfl⟩
      rw [hr] at hm hm1 hm2
      have w2 : IntKind.i64.wrap r = r := wrap_i64 (by omega)
      have o0 : ¬ o = 0 := by omega
      simp -implicitDefEqProofs [q_digest_Home_L9, q_digest_Home_5, q_digest_Home_9, e1, e5, e11, e12, w1, w2, hm, hn, o0, ho, homV]
theorem lessL_lt : ∀ (a b : List Nat), lessL a b = decide (a < b)
  | [], [] => rfl
  | [], _ :: _ => by simp [lessL]
  | _ :: _, [] => by simp [lessL]
  | a :: r, b :: s => by
    simp only [lessL, lessL_lt r s, List.cons_lt_cons_iff]
    by_cases h : a = b
    · subst h; simp
    · simp [h]
theorem lessL_drop {a b : List Nat} {i : Nat} (ha : i < a.length) (hb : i < b.length) : lessL (a.drop i) (b.drop i) = if a[i] = b[i] then lessL (a.drop (i + 1)) (b.drop (i + 1)) else decide (a[i] < b[i]) := by
  rw [List.drop_eq_getElem_cons ha, List.drop_eq_getElem_cons hb, lessL]
theorem w_digest_Less {a b : List Nat} (ha : a.length = 32) (hb : b.length = 32) : Gives Try.prog F_digest_Less [.iarr .u8 32 (ints a), .iarr .u8 32 (ints b)] (.bool (lessL a b)) := by
  refine v_digest_Less (by simp) ?_
  simp -implicitDefEqProofs [a_digest_Less, q_digest_Less_0, q_digest_Less_1, ha, hb]
  intro g2 g3 n1 n2
  refine X_lp (fun (i : Nat) env B => i ≤ 32 ∧ env 2 = .ptr g2 0 ∧ env 3 = .ptr g3 0 ∧ env 6 = .int .i64 i ∧ lessL a b = lessL (a.drop i) (b.drop i) ∧ B g2 = some (.var T_32_uint8 [.iarr .u8 32 (ints a)]) ∧ B g3 = some (.var T_32_uint8 [.iarr .u8 32 (ints b)])) (fun i => 32 - i) 0
    ⟨by omega, by simp, by simp, by simp, rfl, by simp [n1, n2], by simp⟩ ?_
  rintro i env B ⟨hi, e2, e3, e6, hl, f2, f3⟩
  by_cases hi32 : i < 32
  · have c32 : (i : Int) < 32 := by omega
    have wi : IntKind.i64.wrap ((i : Int) + 1) = (i : Int) + 1 := wrap_i64 (by omega)
    have hia : i < a.length := by omega
    have hib : i < b.length := by omega
    rw [lessL_drop hia hib] at hl
    obtain ⟨x, hx⟩ : ∃ x, a[i] = x := ⟨_, rfl⟩
    obtain ⟨y, hy⟩ : ∃ x, b[i] = x := ⟨_, rfl⟩
    have hxd : a[i]?.getD 0 = x := by rw [List.getElem?_eq_getElem hia, ← hx]; rfl
    have hyd : b[i]?.getD 0 = y := by rw [List.getElem?_eq_getElem hib, ← hy]; rfl
    rw [hx, hy] at hl
    by_cases hxy : x = y
    · rw [if_pos hxy] at hl
      simp -implicitDefEqProofs [q_digest_Less_L7, q_digest_Less_2, q_digest_Less_3, q_digest_Less_4, q_digest_Less_6, e2, e3, e6, f2, f3, c32, ha, hb, hxd, hyd, hxy, wi]
      exact lp_next (i + 1) ⟨by omega, by simp [e2], by simp [e3], by simp, hl, by simp [f2], by simp [f3]⟩ (by omega)
    · rw [if_neg hxy] at hl
      have hxy' : ¬ (x : Int) = y := by omega
      simp -implicitDefEqProofs [q_digest_Less_L7, q_digest_Less_2, q_digest_Less_3, q_digest_Less_4, q_digest_Less_5, e2, e3, e6, f2, f3, c32, ha, hb, hxd, hyd, hxy, hxy', a_digest_Less, outOf, hl]
  · have c32 : ¬ (i : Int) < 32 := by omega
    have hie : i = 32 := by omega
    subst hie
    rw [List.drop_of_length_le (by omega), List.drop_of_length_le (by omega)] at hl
    simp -implicitDefEqProofs [q_digest_Less_L7, q_digest_Less_2, q_digest_Less_7, e6, a_digest_Less, outOf, hl, lessL]
end Go.Proofs.Ytilgdnbijkcboaa

/- Entries, and a table's, as values. -/
namespace Go.Proofs.Ytilgdnbijkcboaa
open Go AVL
set_option linter.unusedVariables false
set_option linter.unusedSimpArgs false
set_option maxRecDepth 8000

/-- An entry. -/
structure En where
  addr : List Nat
  slot : Int
  count : Int
  hb : byts addr
  h32 : addr.length = 32
  s1 : -9223372036854775808 ≤ slot
  s2 : slot < 9223372036854775808
  c1 : -9223372036854775808 ≤ count
  c2 : count < 9223372036854775808
def enA (e : En) : AV := .agg [.iarr .u8 32 (ints e.addr), .int .i64 e.slot, .int .i64 e.count]
def z32 : List Nat := List.replicate 32 0
theorem z32_byts : byts z32 := fun x hx => by
  obtain ⟨_, rfl⟩ := List.mem_replicate.1 hx; decide
def enZ : En := ⟨z32, 0, 0, z32_byts, rfl, by decide, by decide, by decide, by decide⟩
theorem En.ext {e f : En} (h1 : e.addr = f.addr) (h2 : e.slot = f.slot) (h3 : e.count = f.count) : e = f := by
  cases e; cases f; simp at h1 h2 h3; subst h1; subst h2; subst h3; rfl
/-- The place, of so many, at which an address is at home. -/
def hmN (n : Nat) (a : List Nat) : Nat := homN (a.take 6) % n
theorem homV_eq {n : Nat} (hn : 0 < n) (a : List Nat) : homV a (n : Int) = ((hmN n a : Nat) : Int) := by
  unfold homV hmN
  rw [if_neg (by omega), Int.ofNat_tmod]
/-- Tables of n + 1 places. -/
def tS (n : Nat) : TS En (List Nat) where
  n := n + 1
  key := En.addr
  hm := hmN (n + 1)
  lt := lessL
  emp := fun e => decide (e.count = 0)
  z := enZ
  z_emp := rfl
  hm_lt := fun k => Nat.mod_lt _ (by omega)
  irr := fun a => by rw [lessL_lt]; simp [List.lt_irrefl]
  tr := fun a b c h1 h2 => by
    rw [lessL_lt, decide_eq_true_eq] at *
    exact List.lt_trans h1 h2
  tot := fun a b => by
    rw [lessL_lt, lessL_lt, decide_eq_true_eq, decide_eq_true_eq]
    by_cases h1 : a < b
    · exact .inr (.inl h1)
    · by_cases h2 : b < a
      · exact .inr (.inr h2)
      · exact .inl (List.le_antisymm h2 h1)
/-- A table, seen: its places, how many entries it has. -/
def tabV (L : List En) (k : Int) : AV := .pval (.agg [.dsl 34 (L.map enA), .int .i64 k])
theorem tab_vw {A : Heap} {t h : Nat} {ty te : TypeId} {L : List En} {k : Int} (ht : A t = some (.var ty [.own h 0 L.length, .int .i64 k])) (hh : A h = some (.row te 34 (L.map enA))) : Vw A (.ptr t 0) (tabV L k) := by
  refine .ptr ht (.cons ?_ (.cons (.refl _) .nil))
  have hv := Vw.ownR (i := 0) (n := L.length) hh (by simp) (l' := L.map enA) (by
    rw [List.drop_zero, List.take_of_length_le (by simp)]
    generalize L.map enA = l
    induction l with
    | nil => exact .nil
    | cons x r ih => exact .cons (.refl _) ih)
  exact hv
theorem tS_fn {n : Nat} {L : List En} {i : Nat} (h : i < L.length) : (tS n).fn L i = L[i] := TS.fn_get h
theorem far_eq {n : Nat} {x : En} {p : Nat} (hp : p < n + 1) : (((p : Int) - (hmN (n + 1) x.addr : Nat) + ((n + 1 : Nat) : Int)).tmod ((n + 1 : Nat) : Int)) = ((tS n).far x p : Nat) := by
  have hh : hmN (n + 1) x.addr < n + 1 := Nat.mod_lt _ (by omega)
  have e1 : (p : Int) - (hmN (n + 1) x.addr : Nat) + ((n + 1 : Nat) : Int) = ((p + (n + 1) - hmN (n + 1) x.addr : Nat) : Int) := by omega
  rw [e1, ← Int.ofNat_tmod]
  congr 1
  show _ = if hmN (n + 1) x.addr ≤ p then p - hmN (n + 1) x.addr else p + (n + 1) - hmN (n + 1) x.addr
  split
  · rw [show p + (n + 1) - hmN (n + 1) x.addr = (p - hmN (n + 1) x.addr) + (n + 1) by omega, Nat.add_mod_right, Nat.mod_eq_of_lt (by omega)]
  · rw [Nat.mod_eq_of_lt (by omega)]
theorem nxt_eq {n : Nat} {p : Nat} (hp : p < n + 1) : ((p : Int) + 1).tmod ((n + 1 : Nat) : Int) = ((tS n).nxt p : Nat) := by
  have e1 : (p : Int) + 1 = ((p + 1 : Nat) : Int) := by omega
  rw [e1, ← Int.ofNat_tmod]
  congr 1
  show _ = if p + 1 < n + 1 then p + 1 else 0
  split
  · rw [Nat.mod_eq_of_lt (by omega)]
  · rw [show p + 1 = n + 1 by omega, Nat.mod_self]
section
variable {n : Nat} {L : List En} {k : Int}
theorem w_table_far (hL : L.length = n + 1) (hn : n < 2 ^ 40) {a : Nat} (ha : a < n + 1) : Gives Try.prog F_Ptable_Table_far [tabV L k, .int .i64 a] (.int .i64 ((tS n).far ((tS n).fn L a) a : Nat)) := by
  refine v_Ptable_Table_far (by simp) ?_
  have hal : a < L.length := by omega
  have hi : (a : Int) < L.length := by omega
  have e1 := far_eq (x := L[a]) ha
  have hh : hmN (n + 1) L[a].addr < n + 1 := Nat.mod_lt _ (by omega)
  have hm := homV_eq (n := n + 1) (by omega) L[a].addr
  obtain ⟨q, hq⟩ : ∃ q, q = hmN (n + 1) L[a].addr := ⟨_, rfl⟩
  obtain ⟨r, hr⟩ : ∃ r, r = (tS n).far L[a] a := ⟨_, rfl⟩
  have hrl : r < n + 1 := by rw [hr]; exact TS.far_lt ha
  rw [tS_fn hal, ← hr]
  rw [← hr, ← hq, ← hL] at e1
  rw [← hq, ← hL] at hm
  rw [← hq, ← hL] at hh
  have hm2 : homV L[a].addr (L.length : Int) = (q : Int) := hm
  have hw1 : IntKind.i64.wrap ((a : Int) - (q : Int)) = (a : Int) - (q : Int) := wrap_i64 (by omega)
  have hw2 : IntKind.i64.wrap ((a : Int) - (q : Int) + (L.length : Int)) = (a : Int) - (q : Int) + (L.length : Int) := wrap_i64 (by omega)
  have hw3 : IntKind.i64.wrap (r : Int) = (r : Int) := wrap_i64 (by omega)
  have hne : ¬ (L.length : Int) = 0 := by omega
  have hd := w_digest_Home L[a].hb L[a].h32 (o := (L.length : Int)) (by omega) (by omega)
  rw [hm2] at hd
  clear hm hm2 hr hq
  simp -implicitDefEqProofs [a_Ptable_Table_far, q_Ptable_Table_far_0, q_Ptable_Table_far_1, tabV, hal, hi, enA]
  refine hd.call (.cons (.refl _) rfl (.cons (.refl _) rfl .nil)) rfl ?_
  simp -implicitDefEqProofs [hw1, hw2, hw3, e1, hne]
  intro h
  subst h
  simp at hal
theorem w_table_yields (hL : L.length = n + 1) (hn : n < 2 ^ 40) {a d : Nat} {b : List Nat} (ha : a < n + 1) (hd : d < 2 ^ 41) (hb : b.length = 32) :
    Gives Try.prog F_Ptable_Table_yields [tabV L k, .int .i64 a, .iarr .u8 32 (ints b), .int .i64 d] (.bool (decide ((tS n).far ((tS n).fn L a) a < d ∨ ((tS n).far ((tS n).fn L a) a = d ∧ lessL b ((tS n).fn L a).addr = true)))) := by
  refine v_Ptable_Table_yields (by simp) ?_
  have hal : a < L.length := by omega
  have hi : (a : Int) < L.length := by omega
  have hf := w_table_far (k := k) hL hn ha
  rw [tS_fn hal] at hf ⊢
  obtain ⟨r, hr⟩ : ∃ r, r = (tS n).far L[a] a := ⟨_, rfl⟩
  have hl := w_digest_Less hb L[a].h32
  obtain ⟨s, hs⟩ : ∃ s, s = lessL b L[a].addr := ⟨_, rfl⟩
  rw [← hr] at hf ⊢
  rw [← hs] at hl ⊢
  clear hr hs
  simp -implicitDefEqProofs [a_Ptable_Table_yields, q_Ptable_Table_yields_0, q_Ptable_Table_yields_1, hb]
  intro g
  refine hf.call (.cons (.refl _) rfl (.cons (.refl _) rfl .nil)) rfl ?_
  by_cases h1 : r < d
  · have h1' : (r : Int) < d := by omega
    simp -implicitDefEqProofs [q_Ptable_Table_yields_2, h1, h1']
  · have h1' : ¬ (r : Int) < d := by omega
    by_cases h2 : r = d
    · have h2' : (r : Int) = d := by omega
      simp -implicitDefEqProofs [q_Ptable_Table_yields_2, h1, h1', h2, h2', hb, tabV, hal, hi, enA]
      refine hl.call (.cons (.refl _) rfl (.cons (.refl _) rfl .nil)) rfl ?_
      simp -implicitDefEqProofs
    · have h2' : ¬ (r : Int) = d := by omega
      simp -implicitDefEqProofs [q_Ptable_Table_yields_2, h1, h1', h2, h2']
end
end Go.Proofs.Ytilgdnbijkcboaa

/- Abstract programs; that they are the program's. -/
namespace Go.Proofs.Ytilgdnbijkcboaa
open Go AVL
set_option linter.unusedVariables false
set_option maxRecDepth 20000

def q_word_Get_0 : List AOper := [
  ⟨(some 2), (.mv (.v (.int .u64 0))), none⟩]
def q_word_Get_1 : List AOper := [
  ⟨(some 3), (.mv (.v (.int .u64 0))), none⟩]
def q_word_Get_2 : List AOper := [
  ⟨(some 5), (.mv (.t 0)), none⟩,
  ⟨(some 6), (.len false (.t 5)), none⟩,
  ⟨(some 7), (.xx (.p (.mnI false)) [(.t 6), (.v (.int .i64 8))]), none⟩,
  ⟨(some 8), (.bin .sub (.t 7) (.v (.int .i64 1))), none⟩,
  ⟨(some 4), (.mv (.t 8)), none⟩]
def q_word_Get_3 : List AOper := [
  ⟨(some 9), (.mv (.t 4)), none⟩,
  ⟨(some 10), (.bin .geq (.t 9) (.v (.int .i64 0))), none⟩]
def q_word_Get_4 : List AOper := [
  ⟨(some 13), (.mv (.t 3)), none⟩,
  ⟨(some 14), (.bin .shl (.t 13) (.v (.int .u64 8))), none⟩,
  ⟨(some 15), (.mv (.t 0)), none⟩,
  ⟨(some 16), (.mv (.t 4)), none⟩,
  ⟨(some 17), (.idx 1 (.t 15) (.t 16)), none⟩,
  ⟨(some 18), (.load .sc 1 (.t 17)), none⟩,
  ⟨(some 19), (.conv .u64 (.t 18)), none⟩,
  ⟨(some 20), (.bin .or (.t 14) (.t 19)), none⟩,
  ⟨(some 3), (.mv (.t 20)), none⟩]
def q_word_Get_5 : List AOper := [
  ⟨(some 11), (.mv (.t 4)), none⟩,
  ⟨(some 12), (.bin .sub (.t 11) (.v (.int .i64 1))), none⟩,
  ⟨(some 4), (.mv (.t 12)), none⟩]
def q_word_Get_L6 : ACode := (.seq (.seq (.region q_word_Get_3) (.cond (.t 10) .skip (.exit 0))) (.seq (.block 1 (.region q_word_Get_4)) (.region q_word_Get_5)))
def q_word_Get_6 : List AOper := [
  ⟨(some 21), (.mv (.t 3)), none⟩,
  ⟨(some 2), (.mv (.t 21)), none⟩]
def a_word_Get : AFunc := ⟨[(.tmp 2)], (.seq (.region q_word_Get_0) (.seq (.region q_word_Get_1) (.seq (.seq (.region q_word_Get_2) (.block 0 (.loop q_word_Get_L6))) (.seq (.region q_word_Get_6) .ret))))⟩

def q_word_Put_0 : List AOper := [
  ⟨(some 4), (.mv (.v .nilS)), none⟩]
def q_word_Put_1 : List AOper := [
  ⟨(some 7), (.mv (.t 1)), none⟩,
  ⟨(some 8), (.xx (.p (.mnI true)) [(.t 7), (.v (.int .i64 0))]), none⟩,
  ⟨(some 9), (.mkI 5 .u8 1 (.t 8) (.t 8)), none⟩,
  ⟨(some 5), (.mv (.t 9)), none⟩]
def q_word_Put_2 : List AOper := [
  ⟨(some 10), (.mv (.t 5)), none⟩,
  ⟨(some 11), (.len false (.t 10)), none⟩,
  ⟨(some 12), (.mv (.v (.int .i64 0))), none⟩]
def q_word_Put_3 : List AOper := [
  ⟨(some 13), (.bin .lss (.t 12) (.t 11)), none⟩]
def q_word_Put_4 : List AOper := [
  ⟨(some 14), (.mv (.t 12)), none⟩,
  ⟨(some 6), (.mv (.t 14)), none⟩]
def q_word_Put_5 : List AOper := [
  ⟨(some 15), (.mv (.t 6)), none⟩,
  ⟨(some 16), (.bin .lss (.t 15) (.v (.int .i64 8))), none⟩]
def q_word_Put_6 : List AOper := [
  ⟨(some 17), (.mv (.t 5)), none⟩,
  ⟨(some 18), (.mv (.t 6)), none⟩,
  ⟨(some 19), (.mv (.t 0)), none⟩,
  ⟨(some 20), (.mv (.t 6)), none⟩,
  ⟨(some 21), (.bin .mul (.v (.int .i64 8)) (.t 20)), none⟩,
  ⟨(some 22), (.bin .shr (.t 19) (.t 21)), none⟩,
  ⟨(some 23), (.conv .u8 (.t 22)), none⟩,
  ⟨(some 24), (.idx 1 (.t 17) (.t 18)), none⟩,
  ⟨none, (.store .sc 1 (.t 24) (.t 23)), none⟩]
def q_word_Put_7 : List AOper := [
  ⟨(some 25), (.bin .add (.t 12) (.v (.int .i64 1))), none⟩,
  ⟨(some 12), (.mv (.t 25)), none⟩]
def q_word_Put_L8 : ACode := (.seq (.region q_word_Put_3) (.seq (.cond (.t 13) .skip (.exit 0)) (.seq (.block 1 (.seq (.region q_word_Put_4) (.seq (.region q_word_Put_5) (.cond (.t 16) (.region q_word_Put_6) .skip)))) (.region q_word_Put_7))))
def q_word_Put_8 : List AOper := [
  ⟨(some 26), (.mv (.t 5)), none⟩,
  ⟨(some 4), (.mv (.t 26)), none⟩]
def a_word_Put : AFunc := ⟨[(.tmp 4)], (.seq (.region q_word_Put_0) (.seq (.region q_word_Put_1) (.seq (.seq (.region q_word_Put_2) (.block 0 (.loop q_word_Put_L8))) (.seq (.region q_word_Put_8) .ret))))⟩

def q_word_Zero_0 : List AOper := [
  ⟨(some 2), (.mv (.v (.bool false))), none⟩]
def q_word_Zero_1 : List AOper := [
  ⟨(some 5), (.mv (.t 0)), none⟩,
  ⟨(some 6), (.len false (.t 5)), none⟩,
  ⟨(some 7), (.mv (.v (.int .i64 0))), none⟩]
def q_word_Zero_2 : List AOper := [
  ⟨(some 8), (.bin .lss (.t 7) (.t 6)), none⟩]
def q_word_Zero_3 : List AOper := [
  ⟨(some 9), (.idx 1 (.t 5) (.t 7)), none⟩,
  ⟨(some 10), (.load .sc 1 (.t 9)), none⟩,
  ⟨(some 4), (.mv (.t 10)), none⟩]
def q_word_Zero_4 : List AOper := [
  ⟨(some 11), (.mv (.t 4)), none⟩,
  ⟨(some 12), (.eq .scI true (.t 11) (.v (.int .u8 0))), none⟩]
def q_word_Zero_5 : List AOper := [
  ⟨(some 2), (.mv (.v (.bool false))), none⟩]
def q_word_Zero_6 : List AOper := [
  ⟨(some 13), (.bin .add (.t 7) (.v (.int .i64 1))), none⟩,
  ⟨(some 7), (.mv (.t 13)), none⟩]
def q_word_Zero_L7 : ACode := (.seq (.region q_word_Zero_2) (.seq (.cond (.t 8) .skip (.exit 0)) (.seq (.block 1 (.seq (.region q_word_Zero_3) (.seq (.region q_word_Zero_4) (.cond (.t 12) (.seq (.region q_word_Zero_5) .ret) .skip)))) (.region q_word_Zero_6))))
def q_word_Zero_7 : List AOper := [
  ⟨(some 2), (.mv (.v (.bool true))), none⟩]
def a_word_Zero : AFunc := ⟨[(.tmp 2)], (.seq (.region q_word_Zero_0) (.seq (.seq (.region q_word_Zero_1) (.block 0 (.loop q_word_Zero_L7))) (.seq (.region q_word_Zero_7) .ret)))⟩

def q_word_Whole_0 : List AOper := [
  ⟨(some 2), (.alloc 54 [(.iarr .u8 256 (List.replicate 256 0))]), none⟩]
def q_word_Whole_1 : List AOper := [
  ⟨(some 3), (.alloc 54 [(.iarr .u8 256 (List.replicate 256 0))]), none⟩]
def q_word_Whole_2 : List AOper := [
  ⟨(some 4), (.slcA 256 (.t 3) none none), none⟩,
  ⟨(some 5), (.mv (.t 0)), none⟩,
  ⟨(some 6), (.xx (.cpI .u8) [(.t 4), (.t 5)]), none⟩]
def q_word_Whole_3 : List AOper := [
  ⟨(some 7), (.load (.ia .u8 256) 256 (.t 3)), none⟩,
  ⟨none, (.store (.ia .u8 256) 256 (.t 2) (.t 7)), none⟩]
def a_word_Whole : AFunc := ⟨[(.cell 2 (.ia .u8 256) 256)], (.seq (.region q_word_Whole_0) (.seq (.region q_word_Whole_1) (.seq (.region q_word_Whole_2) (.seq (.region q_word_Whole_3) .ret))))⟩

def q_word_From_0 : List AOper := [
  ⟨(some 2), (.mv (.v .nilP)), none⟩]
def q_word_From_1 : List AOper := [
  ⟨(some 3), (.mv (.t 0)), none⟩,
  ⟨(some 4), (.build .ag [.nilS, (.bool false)] [(0, (1, (.t 3)))]), none⟩,
  ⟨(some 5), (.box 151 .ag (.t 4)), none⟩,
  ⟨(some 2), (.mv (.t 5)), none⟩]
def a_word_From : AFunc := ⟨[(.tmp 2)], (.seq (.region q_word_From_0) (.seq (.region q_word_From_1) .ret))⟩

def q_Pword_Cursor_Bytes_0 : List AOper := [
  ⟨(some 4), (.mv (.v .nilS)), none⟩]
def q_Pword_Cursor_Bytes_1 : List AOper := [
  ⟨(some 6), (.mv (.t 0)), none⟩,
  ⟨(some 7), (.xx (.p .nilCk) [(.t 6)]), none⟩,
  ⟨(some 8), (.fadr 1 1 .sc (.t 7)), none⟩,
  ⟨(some 9), (.load .sc 1 (.t 8)), none⟩,
  ⟨(some 10), (.mv (.t 9)), none⟩,
  ⟨(some 11), (.mv (.t 1)), (some (10, false))⟩,
  ⟨(some 12), (.bin .lss (.t 11) (.v (.int .i64 0))), (some (10, false))⟩,
  ⟨(some 13), (.pick (.t 10) (.v (.bool true)) (.t 12)), none⟩,
  ⟨(some 14), (.mv (.t 13)), none⟩,
  ⟨(some 15), (.mv (.t 1)), (some (14, false))⟩,
  ⟨(some 16), (.mv (.t 0)), (some (14, false))⟩,
  ⟨(some 17), (.xx (.p .nilCk) [(.t 16)]), (some (14, false))⟩,
  ⟨(some 18), (.fadr 0 1 .sc (.t 17)), (some (14, false))⟩,
  ⟨(some 19), (.load .sc 1 (.t 18)), (some (14, false))⟩,
  ⟨(some 20), (.len false (.t 19)), (some (14, false))⟩,
  ⟨(some 21), (.bin .gtr (.t 15) (.t 20)), (some (14, false))⟩,
  ⟨(some 22), (.pick (.t 14) (.v (.bool true)) (.t 21)), none⟩]
def q_Pword_Cursor_Bytes_2 : List AOper := [
  ⟨(some 23), (.mv (.t 0)), none⟩,
  ⟨(some 24), (.xx (.p .nilCk) [(.t 23)]), none⟩,
  ⟨(some 25), (.fadr 1 1 .sc (.t 24)), none⟩,
  ⟨none, (.store .sc 1 (.t 25) (.v (.bool true))), none⟩]
def q_Pword_Cursor_Bytes_3 : List AOper := [
  ⟨(some 26), (.mv (.t 1)), none⟩,
  ⟨(some 27), (.xx (.p (.mnI true)) [(.t 26), (.v (.int .i64 0))]), none⟩,
  ⟨(some 28), (.xx (.p (.mnI false)) [(.t 27), (.v (.int .i64 256))]), none⟩,
  ⟨(some 29), (.mkI 5 .u8 1 (.t 28) (.t 28)), none⟩,
  ⟨(some 4), (.mv (.t 29)), none⟩]
def q_Pword_Cursor_Bytes_4 : List AOper := [
  ⟨(some 30), (.mv (.t 1)), none⟩,
  ⟨(some 31), (.mkI 5 .u8 1 (.t 30) (.t 30)), none⟩,
  ⟨(some 5), (.mv (.t 31)), none⟩]
def q_Pword_Cursor_Bytes_5 : List AOper := [
  ⟨(some 32), (.mv (.t 5)), none⟩,
  ⟨(some 33), (.mv (.t 0)), none⟩,
  ⟨(some 34), (.xx (.p .nilCk) [(.t 33)]), none⟩,
  ⟨(some 35), (.fadr 0 1 .sc (.t 34)), none⟩,
  ⟨(some 36), (.load .sc 1 (.t 35)), none⟩,
  ⟨(some 37), (.xx (.cpI .u8) [(.t 32), (.t 36)]), none⟩]
def q_Pword_Cursor_Bytes_6 : List AOper := [
  ⟨(some 38), (.mv (.t 0)), none⟩,
  ⟨(some 39), (.mv (.t 0)), none⟩,
  ⟨(some 40), (.xx (.p .nilCk) [(.t 39)]), none⟩,
  ⟨(some 41), (.fadr 0 1 .sc (.t 40)), none⟩,
  ⟨(some 42), (.load .sc 1 (.t 41)), none⟩,
  ⟨(some 43), (.mv (.t 1)), none⟩,
  ⟨(some 44), (.slc 1 (.t 42) (some (.t 43)) none), none⟩,
  ⟨(some 45), (.xx (.p .nilCk) [(.t 38)]), none⟩,
  ⟨(some 46), (.fadr 0 1 .sc (.t 45)), none⟩,
  ⟨none, (.store .sc 1 (.t 46) (.t 44)), none⟩]
def q_Pword_Cursor_Bytes_7 : List AOper := [
  ⟨(some 47), (.mv (.t 5)), none⟩,
  ⟨(some 4), (.mv (.t 47)), none⟩]
def a_Pword_Cursor_Bytes : AFunc := ⟨[(.tmp 4)], (.seq (.region q_Pword_Cursor_Bytes_0) (.seq (.seq (.region q_Pword_Cursor_Bytes_1) (.cond (.t 22) (.seq (.region q_Pword_Cursor_Bytes_2) (.seq (.region q_Pword_Cursor_Bytes_3) .ret)) .skip)) (.seq (.region q_Pword_Cursor_Bytes_4) (.seq (.region q_Pword_Cursor_Bytes_5) (.seq (.region q_Pword_Cursor_Bytes_6) (.seq (.region q_Pword_Cursor_Bytes_7) .ret))))))⟩

def q_Pword_Cursor_Num_0 : List AOper := [
  ⟨(some 4), (.mv (.v (.int .u64 0))), none⟩]
def q_Pword_Cursor_Num_1 : List AOper := [
  ⟨(some 5), (.mv (.t 0)), none⟩,
  ⟨(some 6), (.mv (.t 1)), none⟩,
  ⟨(some 7), (.call F_Pword_Cursor_Bytes [(.sc, (.t 5)), (.sc, (.t 6))]), none⟩,
  ⟨(some 8), (.call F_word_Get [(.sc, (.t 7))]), none⟩,
  ⟨(some 4), (.mv (.t 8)), none⟩]
def a_Pword_Cursor_Num : AFunc := ⟨[(.tmp 4)], (.seq (.region q_Pword_Cursor_Num_0) (.seq (.region q_Pword_Cursor_Num_1) .ret))⟩

def q_Pword_Cursor_Rest_0 : List AOper := [
  ⟨(some 2), (.mv (.v (.bool false))), none⟩]
def q_Pword_Cursor_Rest_1 : List AOper := [
  ⟨(some 3), (.mv (.t 0)), none⟩,
  ⟨(some 4), (.xx (.p .nilCk) [(.t 3)]), none⟩,
  ⟨(some 5), (.fadr 1 1 .sc (.t 4)), none⟩,
  ⟨(some 6), (.load .sc 1 (.t 5)), none⟩,
  ⟨(some 7), (.un .not (.t 6)), none⟩,
  ⟨(some 8), (.mv (.t 7)), none⟩,
  ⟨(some 9), (.mv (.t 0)), (some (8, true))⟩,
  ⟨(some 10), (.xx (.p .nilCk) [(.t 9)]), (some (8, true))⟩,
  ⟨(some 11), (.fadr 0 1 .sc (.t 10)), (some (8, true))⟩,
  ⟨(some 12), (.load .sc 1 (.t 11)), (some (8, true))⟩,
  ⟨(some 13), (.call F_word_Zero [(.sc, (.t 12))]), (some (8, true))⟩,
  ⟨(some 14), (.pick (.t 8) (.t 13) (.v (.bool false))), none⟩,
  ⟨(some 2), (.mv (.t 14)), none⟩]
def a_Pword_Cursor_Rest : AFunc := ⟨[(.tmp 2)], (.seq (.region q_Pword_Cursor_Rest_0) (.seq (.region q_Pword_Cursor_Rest_1) .ret))⟩

def q_ref01_Put_0 : List AOper := [
  ⟨(some 4), (.mv (.v .nilS)), none⟩]
def q_ref01_Put_1 : List AOper := [
  ⟨(some 6), (.mv (.t 1)), none⟩,
  ⟨(some 7), (.bin .leq (.t 6) (.v (.int .i64 0))), none⟩]
def q_ref01_Put_2 : List AOper := [
  ⟨(some 4), (.mv (.v .nilS)), none⟩]
def q_ref01_Put_3 : List AOper := [
  ⟨(some 8), (.mv (.t 0)), none⟩,
  ⟨(some 9), (.bin .rem (.t 8) (.v (.int .u64 256))), none⟩,
  ⟨(some 10), (.conv .u8 (.t 9)), none⟩,
  ⟨(some 11), (.bslI 5 .u8 [(.t 10)]), none⟩,
  ⟨(some 5), (.mv (.t 11)), none⟩]
def q_ref01_Put_4 : List AOper := [
  ⟨(some 12), (.mv (.t 5)), none⟩,
  ⟨(some 13), (.mv (.t 0)), none⟩,
  ⟨(some 14), (.bin .quo (.t 13) (.v (.int .u64 256))), none⟩,
  ⟨(some 15), (.mv (.t 1)), none⟩,
  ⟨(some 16), (.bin .sub (.t 15) (.v (.int .i64 1))), none⟩,
  ⟨(some 17), (.call F_ref01_Put [(.sc, (.t 14)), (.sc, (.t 16))]), none⟩,
  ⟨(some 18), (.appI 5 .u8 1 (.t 12) (.t 17)), none⟩,
  ⟨(some 4), (.mv (.t 18)), none⟩]
def a_ref01_Put : AFunc := ⟨[(.tmp 4)], (.seq (.region q_ref01_Put_0) (.seq (.seq (.region q_ref01_Put_1) (.cond (.t 7) (.seq (.region q_ref01_Put_2) .ret) .skip)) (.seq (.region q_ref01_Put_3) (.seq (.region q_ref01_Put_4) .ret))))⟩

theorem c_word_Get : trF Try.prog Try.f93 = some a_word_Get := by kernel_rfl
theorem g_word_Get : Try.prog.funcs[93]? = some Try.f93 := by kernel_rfl
theorem v_word_Get {args : List AV} {v : AV} (hn : args.length ≤ 22) (h : X Try.prog (fin a_word_Get.res v) a_word_Get.body .done (env0 args) H0) : Gives Try.prog F_word_Get args v :=
  Gives_intro g_word_Get c_word_Get (by rw [Try.ntmps93]; exact hn) h
@[simp] theorem k_word_Get : callable Try.prog F_word_Get = true := by kernel_rfl
theorem c_word_Put : trF Try.prog Try.f62 = some a_word_Put := by kernel_rfl
theorem g_word_Put : Try.prog.funcs[62]? = some Try.f62 := by kernel_rfl
theorem i_word_Put {args : List AV} {A : Heap} {Ko : AOut → Heap → Prop} (hn : args.length ≤ 27)
    (h : ∀ R : APost, (∀ e env A, fpost a_word_Put.res Ko e env A → R e env A) → X Try.prog R a_word_Put.body .done (env0 args) A) : SimX Try.prog F_word_Put args A Ko :=
  X_intro g_word_Put c_word_Put (by rw [Try.ntmps62]; exact hn) h
@[simp] theorem k_word_Put : callable Try.prog F_word_Put = true := by kernel_rfl
theorem c_word_Zero : trF Try.prog Try.f95 = some a_word_Zero := by kernel_rfl
theorem g_word_Zero : Try.prog.funcs[95]? = some Try.f95 := by kernel_rfl
theorem v_word_Zero {args : List AV} {v : AV} (hn : args.length ≤ 14) (h : X Try.prog (fin a_word_Zero.res v) a_word_Zero.body .done (env0 args) H0) : Gives Try.prog F_word_Zero args v :=
  Gives_intro g_word_Zero c_word_Zero (by rw [Try.ntmps95]; exact hn) h
@[simp] theorem k_word_Zero : callable Try.prog F_word_Zero = true := by kernel_rfl
theorem c_word_Whole : trF Try.prog Try.f63 = some a_word_Whole := by kernel_rfl
theorem g_word_Whole : Try.prog.funcs[63]? = some Try.f63 := by kernel_rfl
theorem v_word_Whole {args : List AV} {v : AV} (hn : args.length ≤ 8) (h : X Try.prog (fin a_word_Whole.res v) a_word_Whole.body .done (env0 args) H0) : Gives Try.prog F_word_Whole args v :=
  Gives_intro g_word_Whole c_word_Whole (by rw [Try.ntmps63]; exact hn) h
@[simp] theorem k_word_Whole : callable Try.prog F_word_Whole = true := by kernel_rfl
theorem c_word_From : trF Try.prog Try.f69 = some a_word_From := by kernel_rfl
theorem g_word_From : Try.prog.funcs[69]? = some Try.f69 := by kernel_rfl
theorem j_word_From {args : List AV} {A : Heap} {K Kp : AV → Heap → Prop} (hn : args.length ≤ 6) (h : X Try.prog (inl a_word_From.res K Kp) a_word_From.body .done (env0 args) A) : SimX Try.prog F_word_From args A (outK K Kp) :=
  X_inl g_word_From c_word_From (by rw [Try.ntmps69]; exact hn) h
@[simp] theorem k_word_From : callable Try.prog F_word_From = true := by kernel_rfl
theorem c_Pword_Cursor_Bytes : trF Try.prog Try.f94 = some a_Pword_Cursor_Bytes := by kernel_rfl
theorem g_Pword_Cursor_Bytes : Try.prog.funcs[94]? = some Try.f94 := by kernel_rfl
theorem j_Pword_Cursor_Bytes {args : List AV} {A : Heap} {K Kp : AV → Heap → Prop} (hn : args.length ≤ 48) (h : X Try.prog (inl a_Pword_Cursor_Bytes.res K Kp) a_Pword_Cursor_Bytes.body .done (env0 args) A) : SimX Try.prog F_Pword_Cursor_Bytes args A (outK K Kp) :=
  X_inl g_Pword_Cursor_Bytes c_Pword_Cursor_Bytes (by rw [Try.ntmps94]; exact hn) h
@[simp] theorem k_Pword_Cursor_Bytes : callable Try.prog F_Pword_Cursor_Bytes = true := by kernel_rfl
theorem c_Pword_Cursor_Num : trF Try.prog Try.f70 = some a_Pword_Cursor_Num := by kernel_rfl
theorem g_Pword_Cursor_Num : Try.prog.funcs[70]? = some Try.f70 := by kernel_rfl
theorem j_Pword_Cursor_Num {args : List AV} {A : Heap} {K Kp : AV → Heap → Prop} (hn : args.length ≤ 9) (h : X Try.prog (inl a_Pword_Cursor_Num.res K Kp) a_Pword_Cursor_Num.body .done (env0 args) A) : SimX Try.prog F_Pword_Cursor_Num args A (outK K Kp) :=
  X_inl g_Pword_Cursor_Num c_Pword_Cursor_Num (by rw [Try.ntmps70]; exact hn) h
@[simp] theorem k_Pword_Cursor_Num : callable Try.prog F_Pword_Cursor_Num = true := by kernel_rfl
theorem c_Pword_Cursor_Rest : trF Try.prog Try.f71 = some a_Pword_Cursor_Rest := by kernel_rfl
theorem g_Pword_Cursor_Rest : Try.prog.funcs[71]? = some Try.f71 := by kernel_rfl
theorem j_Pword_Cursor_Rest {args : List AV} {A : Heap} {K Kp : AV → Heap → Prop} (hn : args.length ≤ 15) (h : X Try.prog (inl a_Pword_Cursor_Rest.res K Kp) a_Pword_Cursor_Rest.body .done (env0 args) A) : SimX Try.prog F_Pword_Cursor_Rest args A (outK K Kp) :=
  X_inl g_Pword_Cursor_Rest c_Pword_Cursor_Rest (by rw [Try.ntmps71]; exact hn) h
@[simp] theorem k_Pword_Cursor_Rest : callable Try.prog F_Pword_Cursor_Rest = true := by kernel_rfl
theorem c_ref01_Put : trF Try.prog Try.f66 = some a_ref01_Put := by kernel_rfl
theorem g_ref01_Put : Try.prog.funcs[66]? = some Try.f66 := by kernel_rfl
theorem i_ref01_Put {args : List AV} {A : Heap} {Ko : AOut → Heap → Prop} (hn : args.length ≤ 19)
    (h : ∀ R : APost, (∀ e env A, fpost a_ref01_Put.res Ko e env A → R e env A) → X Try.prog R a_ref01_Put.body .done (env0 args) A) : SimX Try.prog F_ref01_Put args A Ko :=
  X_intro g_ref01_Put c_ref01_Put (by rw [Try.ntmps66]; exact hn) h
@[simp] theorem k_ref01_Put : callable Try.prog F_ref01_Put = true := by kernel_rfl
end Go.Proofs.Ytilgdnbijkcboaa

/- Words: numbers as bytes; the walks of word.Put, word.Get, the reference's Put and Same. -/
namespace Go.Proofs.Ytilgdnbijkcboaa
open Go AVL
attribute [-simp] AV.isAgg aappI aapp alen
set_option linter.unusedVariables false
set_option linter.unusedSimpArgs false

def Bytes (l : List Nat) : Prop := ∀ x ∈ l, x < 256
theorem bytes_take {l : List Nat} (h : Bytes l) (n : Nat) : Bytes (l.take n) := fun x hx => h x (List.mem_of_mem_take hx)
theorem bytes_drop {l : List Nat} (h : Bytes l) (n : Nat) : Bytes (l.drop n) := fun x hx => h x (List.mem_of_mem_drop hx)
theorem bytes_append {a b : List Nat} (ha : Bytes a) (hb : Bytes b) : Bytes (a ++ b) := fun x hx => (List.mem_append.1 hx).elim (ha x) (hb x)
def leN : List Nat → Nat
  | [] => 0
  | c :: r => c + 256 * leN r
theorem leN_lt : ∀ (l : List Nat), Bytes l → leN l < 256 ^ l.length
  | [], _ => by simp [leN]
  | c :: r, h => by
    have h1 := leN_lt r fun x hx => h x (by simp [hx])
    have h2 := h c (by simp)
    simp only [leN, List.length_cons, Nat.pow_succ]
    omega
theorem leN_lt8 {l : List Nat} (h : Bytes l) (hl : l.length ≤ 8) : leN l < 2 ^ 64 := by
  have h1 := leN_lt l h
  have : 256 ^ l.length ≤ 256 ^ 8 := Nat.pow_le_pow_right (by decide) hl
  omega
theorem w_word_Get (l : List Nat) (hl : Bytes l) (h8 : l.length ≤ 8) : Gives Try.prog F_word_Get [.isl .u8 (ints l)] (.int .u64 (leN l)) := by
  refine v_word_Get (by simp) ?_
  simp -implicitDefEqProofs [a_word_Get, q_word_Get_0, q_word_Get_1, q_word_Get_2]
  refine X_lp (fun (k : Nat) env A => k ≤ l.length ∧ env 0 = .isl .u8 (ints l) ∧ env 3 = .int .u64 (leN (l.drop k)) ∧ env 4 = .int .i64 ((k : Int) - 1)) (fun k => k) l.length ⟨Nat.le_refl _, by simp, by simp [leN], ?_⟩ ?_
  · simp
    rw [wrap_i64 (by split <;> omega)]
    split <;> omega
  rintro k env A ⟨h1, h2, h3, h4⟩
  simp -implicitDefEqProofs (disch := first | omega | simp) [q_word_Get_L6, q_word_Get_3, q_word_Get_6, h2, h3, h4]
  refine ⟨fun hk => ?_, fun hk => ?_⟩
  · have hk1 : k - 1 < l.length := by omega
    have eto : ((k : Int) - 1).toNat = k - 1 := by omega
    have hd : l.drop (k - 1) = l[k - 1] :: l.drop k := by
      rw [List.drop_eq_getElem_cons hk1]; congr 2; omega
    have hb := hl _ (List.getElem_mem hk1)
    have hn8 := leN_lt8 (bytes_drop hl (k - 1)) (by simp; omega)
    rw [hd] at hn8
    simp only [leN] at hn8
    have e1 : shlI .u64 ((leN (l.drop k) : Nat) : Int) 8 = ((leN (l.drop k) * 256 : Nat) : Int) := by
      simp only [shlI]
      have : (2 : Int) ^ min (Int.toNat 8) IntKind.u64.bits = 256 := by decide
      rw [this, wrap_u64 (by omega)]; omega
    have e2 : IntKind.u64.wrap ((l[k - 1] : Nat) : Int) = ((l[k - 1] : Nat) : Int) := wrap_u64 (by omega)
    have e3 : bOr .u64 ((leN (l.drop k) * 256 : Nat) : Int) ((l[k - 1] : Nat) : Int) = ((leN (l.drop (k - 1)) : Nat) : Int) := by
      rw [bOr_nat rfl (show leN (l.drop k) * 256 < 2 ^ 64 by omega) (show l[k - 1] < 2 ^ 64 by omega), shl8_or _ _ hb, hd, leN]
    have hs : IntKind.u64.signed = false := rfl
    simp -implicitDefEqProofs (disch := first | omega | simp) [q_word_Get_4, q_word_Get_5, h2, h3, h4, eto, hk1, e1, hs]
    rw [Int.natCast_mul] at e3
    refine ⟨by omega, by omega, lp_next (k - 1) ⟨by omega, by simp [h2], ?_, ?_⟩ (by omega)⟩
    · simp only [upd]
      simp
      rw [e2]; exact e3
    · simp
      rw [wrap_i64 (by omega)]; omega
  · have : k = 0 := by omega
    subst this
    simp
/-- A number's bytes, the lowest first. -/
def le : Nat → Nat → List Nat
  | 0, _ => []
  | m + 1, n => n % 256 :: le m (n / 256)
@[simp] theorem le_length : ∀ m n, (le m n).length = m
  | 0, _ => rfl
  | m + 1, n => by simp [le, le_length m]
theorem le_bytes : ∀ m n, Bytes (le m n)
  | 0, _ => by simp [le, Bytes]
  | m + 1, n => by
    intro x hx
    rcases List.mem_cons.1 hx with rfl | hx
    · exact Nat.mod_lt _ (by decide)
    · exact le_bytes m _ x hx
theorem le_get : ∀ (m n i : Nat) (h : i < (le m n).length), (le m n)[i] = n / 256 ^ i % 256
  | 0, n, i, h => by simp at h
  | m + 1, n, 0, h => by simp [le]
  | m + 1, n, i + 1, h => by
    simp only [le, List.getElem_cons_succ]
    rw [le_get m (n / 256) i (by simpa [le] using h), Nat.div_div_eq_div_mul, Nat.pow_succ, Nat.mul_comm]
theorem leN_le : ∀ (m n : Nat), n < 256 ^ m → leN (le m n) = n
  | 0, n, h => by simp at h; subst h; rfl
  | m + 1, n, h => by
    rw [Nat.pow_succ] at h
    simp only [le, leN, leN_le m (n / 256) (by omega)]
    omega
theorem le_leN : ∀ (l : List Nat), Bytes l → le l.length (leN l) = l
  | [], _ => rfl
  | c :: r, h => by
    have hc := h c (by simp)
    have hr := le_leN r fun x hx => h x (by simp [hx])
    simp only [List.length_cons, le, leN]
    rw [show (c + 256 * leN r) % 256 = c by omega, show (c + 256 * leN r) / 256 = leN r by omega, hr]
theorem fill_set {l : List Nat} {i : Nat} (h : i < l.length) : (l.take i ++ List.replicate (l.length - i) 0).set i l[i] = l.take (i + 1) ++ List.replicate (l.length - (i + 1)) 0 := by
  rw [show l.length - i = (l.length - (i + 1)) + 1 by omega, List.replicate_succ, List.set_append_right _ _ (by simp; omega), List.length_take, show i - min i l.length = 0 by omega]
  simp only [List.set_cons_zero]
  rw [List.take_succ_eq_append_getElem h, List.append_assoc]; rfl
theorem w_word_Put {n m : Nat} (hn : n < 2 ^ 64) (hm : m ≤ 8) : Makes Try.prog F_word_Put [.int .u64 n, .int .i64 m] m (.irow T_uint8 .u8 (ints (le m n))) := by
  refine i_word_Put (by simp) fun R hR => ?_
  simp -implicitDefEqProofs (disch := first | omega | simp) [a_word_Put, q_word_Put_0, q_word_Put_1, q_word_Put_2]
  have hmx : (if (m : Int) < 0 then (0 : Int) else m) = m := by split <;> omega
  rw [hmx]
  refine ⟨by omega, by omega, fun g => ?_⟩
  have h0 : List.replicate (m : Int).toNat (0 : Int) = ints ((le m n).take 0 ++ List.replicate ((le m n).length - 0) 0) := by simp [ints]
  rw [h0]
  refine X_lp (fun (i : Nat) env B => i ≤ m ∧ env 0 = .int .u64 n ∧ env 5 = .own g 0 m ∧ env 11 = .int .i64 m ∧ env 12 = .int .i64 i ∧ B = H0.set g (.irow T_uint8 .u8 (ints ((le m n).take i ++ List.replicate ((le m n).length - i) 0)))) (fun i => m - i) 0
    ⟨by omega, by simp, by simp, by simp, by simp, rfl⟩ ?_
  rintro i env B ⟨hi, e0, e5, e11, e12, rfl⟩
  simp -implicitDefEqProofs (disch := first | omega | simp) [q_word_Put_L8, q_word_Put_3, q_word_Put_4, q_word_Put_5, q_word_Put_7, q_word_Put_8, e0, e5, e11, e12]
  refine ⟨fun hil => ?_, fun hil => ?_⟩
  · have hlt : i < (le m n).length := by simpa using hil
    obtain ⟨q, hq⟩ : ∃ q : Nat, q = n / 256 ^ i := ⟨_, rfl⟩
    have e1 : shrI .u64 (n : Int) (8 * (i : Int)) = (q : Int) := by
      have : (8 * (i : Int)) = ((8 * i : Nat) : Int) := by omega
      rw [this, shrI_nat, show min (8 * i) IntKind.u64.bits = 8 * i from Nat.min_eq_left (by show 8 * i ≤ 64; omega), Nat.pow_mul, hq]
    have e2 : IntKind.u8.wrap (q : Int) = (((le m n)[i] : Nat) : Int) := by
      rw [wrap_u8m, le_get, hq]; omega
    have e3 : IntKind.i64.wrap (8 * (i : Int)) = 8 * (i : Int) := wrap_i64 (by omega)
    have e4 := fill_set hlt
    simp only [le_length] at e4
    have e5' : (i : Int) < 8 := by omega
    have e6 : ¬ (8 : Int) ≤ i := by omega
    simp -implicitDefEqProofs (disch := first | omega | simp) [q_word_Put_6, e0, e5, e11, e12, e1, e2, e3, hil, e5', e6, e4]
    exact ⟨by omega, lp_next (i + 1) ⟨by omega, by simp [e0], by simp [e5], by simp [e11], by simp [wrap_i64 (show -9223372036854775808 ≤ (i : Int) + 1 ∧ (i : Int) + 1 < 9223372036854775808 by omega)], by simp⟩ (by omega)⟩
  · have hie : i = m := by omega
    refine hR _ _ _ ?_
    simp -implicitDefEqProofs [a_word_Put, fpost, outOf]
    rw [hie]
    simp
    rw [List.take_of_length_le (by simp)]
    exact Sub_refl _
theorem w_ref01_Put : ∀ (m n : Nat), n < 2 ^ 64 → m ≤ 8 → MakesS Try.prog F_ref01_Put [.int .u64 n, .int .i64 m] T_uint8 .u8 (ints (le m n))
  | 0, n, hn, hm => by
    refine i_ref01_Put (by simp) fun R hR => ?_
    simp -implicitDefEqProofs [a_ref01_Put, q_ref01_Put_0, q_ref01_Put_1, q_ref01_Put_2]
    refine hR _ _ _ ?_
    simp -implicitDefEqProofs [a_ref01_Put, fpost, outOf, le]
  | m + 1, n, hn, hm => by
    refine i_ref01_Put (by simp) fun R hR => ?_
    have e0 : ¬ ((m : Int) + 1 ≤ 0) := by omega
    have e1 : IntKind.u8.wrap ((n : Int).tmod 256) = ((n % 256 : Nat) : Int) := by rw [wrap_u8m, Int.tmod_eq_emod_of_nonneg (by omega)]; omega
    have e2 : IntKind.i64.wrap (m : Int) = (m : Int) := wrap_i64 (by omega)
    have e3 : IntKind.u64.wrap ((n : Int) / 256) = ((n / 256 : Nat) : Int) := by rw [wrap_u64 (by omega)]; omega
    have ih := w_ref01_Put m (n / 256) (by omega) (by omega)
    simp -implicitDefEqProofs (disch := first | omega | simp) [a_ref01_Put, q_ref01_Put_0, q_ref01_Put_1, q_ref01_Put_3, q_ref01_Put_4, e0, e1, e2, e3]
    intro g
    refine ih.call (.cons (.refl _) rfl (.cons (.refl _) rfl .nil)) fun v B hB => ?_
    have h1 : SlS T_uint8 .u8 (.own g 0 1) (ints [n % 256]) H0 B := (SlS.one (by simp) (by simp)).mono hB.sub
    simp -implicitDefEqProofs
    refine h1.appS (Sub_refl _) (hB.src (Sub_refl _)) (by simp; omega) fun v' C' h' hag => ?_
    simp -implicitDefEqProofs
    refine hR _ _ _ ?_
    simpa -implicitDefEqProofs [fpost, a_ref01_Put, outOf, hag, le] using h'.fin
def il (l : List Nat) : AV := .isl .u8 (ints l)
end Go.Proofs.Ytilgdnbijkcboaa

/- The walk of word.Whole. -/
namespace Go.Proofs.Ytilgdnbijkcboaa
open Go AVL
attribute [-simp] AV.isAgg aappI aapp alen shp good comps
set_option linter.unusedVariables false
set_option linter.unusedSimpArgs false
set_option maxRecDepth 20000

section
variable {A B C : Heap} {K Kp : AV → Heap → Prop} {P : Program}
/-- Bytes as a sector. -/
def whole (b : List Nat) : List Nat := b.take 256 ++ List.replicate (256 - b.length) 0
theorem whole_len (b : List Nat) : (whole b).length = 256 := by simp [whole]; omega
theorem whole_bytes {b : List Nat} (h : Bytes b) : Bytes (whole b) := fun x hx => by
  rcases List.mem_append.1 hx with hx | hx
  · exact h x (List.mem_of_mem_take hx)
  · rw [List.eq_of_mem_replicate hx]; decide
theorem spl_whole (b : List Nat) : spl (List.replicate 256 0) 0 (ints (b.take 256)) = ints (whole b) := by
  have h : 256 - min 256 b.length = 256 - b.length := by omega
  simp -implicitDefEqProofs [spl, whole, ints, h, -List.reduceReplicate]
theorem w_word_Whole {b : List Nat} (hb : Bytes b) : Gives Try.prog F_word_Whole [.isl .u8 (ints b)] (.iarr .u8 256 (ints (whole b))) := by
  refine v_word_Whole (by simp) ?_
  simp -implicitDefEqProofs [a_word_Whole, q_word_Whole_0, q_word_Whole_1, q_word_Whole_2, q_word_Whole_3, acopy, spl_whole, -List.reduceReplicate]
  intro g g1 n1 n2
  simp -implicitDefEqProofs [n1, n2, -List.reduceReplicate]
end
end Go.Proofs.Ytilgdnbijkcboaa

/- Abstract programs; that they are the program's. -/
namespace Go.Proofs.Ytilgdnbijkcboaa
open Go AVL
set_option linter.unusedVariables false
set_option maxRecDepth 20000

def q_crc_Sealed_0 : List AOper := [
  ⟨(some 2), (.mv (.v .nilS)), none⟩]
def q_crc_Sealed_1 : List AOper := [
  ⟨(some 4), (.mv (.t 0)), none⟩,
  ⟨(some 5), (.call F_crc_Of [(.sc, (.t 4))]), none⟩,
  ⟨(some 6), (.call F_crc_Four [(.sc, (.t 5))]), none⟩,
  ⟨(some 3), (.alloc 146 [(.iarr .u8 4 [0, 0, 0, 0])]), none⟩,
  ⟨none, (.store (.ia .u8 4) 4 (.t 3) (.t 6)), none⟩]
def q_crc_Sealed_2 : List DOp := [
  ⟨⟨(some 8), (.mv (.t 0)), none⟩, true, false, none, []⟩,
  ⟨⟨(some 10), (.slcA 4 (.t 3) none none), none⟩, true, false, none, []⟩,
  ⟨⟨(some 7), (.bslI 5 .u8 []), none⟩, false, false, none, []⟩,
  ⟨⟨(some 9), (.appI 5 .u8 1 (.t 7) (.t 8)), none⟩, false, false, none, []⟩,
  ⟨⟨(some 11), (.appI 5 .u8 1 (.t 9) (.t 10)), none⟩, false, false, none, []⟩,
  ⟨⟨(some 2), (.mv (.t 11)), none⟩, true, false, none, []⟩]
def a_crc_Sealed : AFunc := ⟨[(.tmp 2)], (.seq (.region q_crc_Sealed_0) (.seq (.region q_crc_Sealed_1) (.seq (.regionD q_crc_Sealed_2) .ret)))⟩

def q_crc_Holds_0 : List AOper := [
  ⟨(some 2), (.mv (.v (.bool false))), none⟩]
def q_crc_Holds_1 : List AOper := [
  ⟨(some 4), (.mv (.t 0)), none⟩,
  ⟨(some 5), (.len false (.t 4)), none⟩,
  ⟨(some 6), (.bin .sub (.t 5) (.v (.int .i64 4))), none⟩,
  ⟨(some 3), (.mv (.t 6)), none⟩]
def q_crc_Holds_2 : List AOper := [
  ⟨(some 7), (.mv (.t 3)), none⟩,
  ⟨(some 8), (.bin .lss (.t 7) (.v (.int .i64 0))), none⟩]
def q_crc_Holds_3 : List AOper := [
  ⟨(some 2), (.mv (.v (.bool false))), none⟩]
def q_crc_Holds_4 : List DOp := [
  ⟨⟨(some 9), (.mv (.t 0)), none⟩, true, false, none, []⟩,
  ⟨⟨(some 10), (.mv (.t 3)), none⟩, true, false, none, []⟩,
  ⟨⟨(some 11), (.slc 1 (.t 9) none (some (.t 10))), none⟩, true, false, none, []⟩,
  ⟨⟨(some 14), (.mv (.t 0)), none⟩, true, false, none, []⟩,
  ⟨⟨(some 15), (.mv (.t 3)), none⟩, true, false, none, []⟩,
  ⟨⟨(some 16), (.slc 1 (.t 14) (some (.t 15)) none), none⟩, true, false, none, []⟩,
  ⟨⟨(some 17), (.s2a 4 (.t 16)), none⟩, true, false, none, []⟩,
  ⟨⟨(some 18), (.load (.ia .u8 4) 4 (.t 17)), none⟩, true, false, none, []⟩,
  ⟨⟨(some 12), (.call F_crc_Of [(.sc, (.t 11))]), none⟩, false, true, (some [17, 14]), []⟩,
  ⟨⟨(some 13), (.call F_crc_Four [(.sc, (.t 12))]), none⟩, false, true, (some [17, 14]), []⟩,
  ⟨⟨(some 19), (.eq (.ia 4) false (.t 13) (.t 18)), none⟩, true, false, none, []⟩,
  ⟨⟨(some 2), (.mv (.t 19)), none⟩, true, false, none, []⟩]
def a_crc_Holds : AFunc := ⟨[(.tmp 2)], (.seq (.region q_crc_Holds_0) (.seq (.region q_crc_Holds_1) (.seq (.seq (.region q_crc_Holds_2) (.cond (.t 8) (.seq (.region q_crc_Holds_3) .ret) .skip)) (.seq (.regionD q_crc_Holds_4) .ret))))⟩

def q_crc_Four_0 : List AOper := [
  ⟨(some 2), (.alloc 146 [(.iarr .u8 4 [0, 0, 0, 0])]), none⟩]
def q_crc_Four_1 : List AOper := [
  ⟨(some 3), (.mv (.t 0)), none⟩,
  ⟨(some 4), (.conv .u8 (.t 3)), none⟩,
  ⟨(some 5), (.mv (.t 0)), none⟩,
  ⟨(some 6), (.bin .shr (.t 5) (.v (.int .u64 8))), none⟩,
  ⟨(some 7), (.conv .u8 (.t 6)), none⟩,
  ⟨(some 8), (.mv (.t 0)), none⟩,
  ⟨(some 9), (.bin .shr (.t 8) (.v (.int .u64 16))), none⟩,
  ⟨(some 10), (.conv .u8 (.t 9)), none⟩,
  ⟨(some 11), (.mv (.t 0)), none⟩,
  ⟨(some 12), (.bin .shr (.t 11) (.v (.int .u64 24))), none⟩,
  ⟨(some 13), (.conv .u8 (.t 12)), none⟩,
  ⟨(some 14), (.build (.ia .u8 4) [(.iarr .u8 4 [0, 0, 0, 0])] [(0, (1, (.t 4))), (1, (1, (.t 7))), (2, (1, (.t 10))), (3, (1, (.t 13)))]), none⟩,
  ⟨none, (.store (.ia .u8 4) 4 (.t 2) (.t 14)), none⟩]
def a_crc_Four : AFunc := ⟨[(.cell 2 (.ia .u8 4) 4)], (.seq (.region q_crc_Four_0) (.seq (.region q_crc_Four_1) .ret))⟩

def q_crc_Of_0 : List AOper := [
  ⟨(some 2), (.mv (.v (.int .u32 0))), none⟩]
def q_crc_Of_1 : List AOper := [
  ⟨(some 3), (.mv (.t 0)), none⟩,
  ⟨(some 4), (.call F_crc_More [(.sc, (.v (.int .u32 0))), (.sc, (.t 3))]), none⟩,
  ⟨(some 2), (.mv (.t 4)), none⟩]
def a_crc_Of : AFunc := ⟨[(.tmp 2)], (.seq (.region q_crc_Of_0) (.seq (.region q_crc_Of_1) .ret))⟩

def q_crc_More_0 : List AOper := [
  ⟨(some 4), (.mv (.v (.int .u32 0))), none⟩]
def q_crc_More_1 : List AOper := [
  ⟨(some 8), (.mv (.t 0)), none⟩,
  ⟨(some 9), (.un .xor (.t 8)), none⟩,
  ⟨(some 5), (.mv (.t 9)), none⟩]
def q_crc_More_2 : List AOper := [
  ⟨(some 10), (.mv (.t 1)), none⟩,
  ⟨(some 11), (.len false (.t 10)), none⟩,
  ⟨(some 12), (.mv (.v (.int .i64 0))), none⟩]
def q_crc_More_3 : List AOper := [
  ⟨(some 13), (.bin .lss (.t 12) (.t 11)), none⟩]
def q_crc_More_4 : List AOper := [
  ⟨(some 14), (.idx 1 (.t 10) (.t 12)), none⟩,
  ⟨(some 15), (.load .sc 1 (.t 14)), none⟩,
  ⟨(some 7), (.mv (.t 15)), none⟩]
def q_crc_More_5 : List AOper := [
  ⟨(some 16), (.mv (.t 5)), none⟩,
  ⟨(some 17), (.mv (.t 7)), none⟩,
  ⟨(some 18), (.call F_crc_turn [(.sc, (.t 16)), (.sc, (.t 17))]), none⟩,
  ⟨(some 5), (.mv (.t 18)), none⟩]
def q_crc_More_6 : List AOper := [
  ⟨(some 19), (.bin .add (.t 12) (.v (.int .i64 1))), none⟩,
  ⟨(some 12), (.mv (.t 19)), none⟩]
def q_crc_More_L7 : ACode := (.seq (.region q_crc_More_3) (.seq (.cond (.t 13) .skip (.exit 0)) (.seq (.block 1 (.seq (.region q_crc_More_4) (.region q_crc_More_5))) (.region q_crc_More_6))))
def q_crc_More_7 : List AOper := [
  ⟨(some 20), (.mv (.t 5)), none⟩,
  ⟨(some 21), (.un .xor (.t 20)), none⟩,
  ⟨(some 4), (.mv (.t 21)), none⟩]
def a_crc_More : AFunc := ⟨[(.tmp 4)], (.seq (.region q_crc_More_0) (.seq (.region q_crc_More_1) (.seq (.seq (.region q_crc_More_2) (.block 0 (.loop q_crc_More_L7))) (.seq (.region q_crc_More_7) .ret))))⟩

def q_crc_turn_0 : List AOper := [
  ⟨(some 4), (.mv (.v (.int .u32 0))), none⟩]
def q_crc_turn_1 : List AOper := [
  ⟨(some 5), (.mv (.t 0)), none⟩,
  ⟨(some 6), (.mv (.t 1)), none⟩,
  ⟨(some 7), (.conv .u32 (.t 6)), none⟩,
  ⟨(some 8), (.bin .xor (.t 5) (.t 7)), none⟩,
  ⟨(some 0), (.mv (.t 8)), none⟩]
def q_crc_turn_2 : List AOper := [
  ⟨(some 9), (.mv (.v (.int .i64 0))), none⟩]
def q_crc_turn_3 : List AOper := [
  ⟨(some 10), (.bin .lss (.t 9) (.v (.int .i64 8))), none⟩]
def q_crc_turn_4 : List AOper := [
  ⟨(some 11), (.mv (.t 0)), none⟩,
  ⟨(some 12), (.bin .and (.t 11) (.v (.int .u32 1))), none⟩,
  ⟨(some 13), (.eq .scI false (.t 12) (.v (.int .u32 1))), none⟩]
def q_crc_turn_5 : List AOper := [
  ⟨(some 14), (.mv (.t 0)), none⟩,
  ⟨(some 15), (.bin .shr (.t 14) (.v (.int .u64 1))), none⟩,
  ⟨(some 16), (.bin .xor (.t 15) (.v (.int .u32 3988292384))), none⟩,
  ⟨(some 0), (.mv (.t 16)), none⟩]
def q_crc_turn_6 : List AOper := [
  ⟨(some 17), (.mv (.t 0)), none⟩,
  ⟨(some 18), (.bin .shr (.t 17) (.v (.int .u64 1))), none⟩,
  ⟨(some 0), (.mv (.t 18)), none⟩]
def q_crc_turn_7 : List AOper := [
  ⟨(some 19), (.bin .add (.t 9) (.v (.int .i64 1))), none⟩,
  ⟨(some 9), (.mv (.t 19)), none⟩]
def q_crc_turn_L8 : ACode := (.seq (.region q_crc_turn_3) (.seq (.cond (.t 10) .skip (.exit 0)) (.seq (.block 1 (.seq (.region q_crc_turn_4) (.cond (.t 13) (.region q_crc_turn_5) (.region q_crc_turn_6)))) (.region q_crc_turn_7))))
def q_crc_turn_8 : List AOper := [
  ⟨(some 20), (.mv (.t 0)), none⟩,
  ⟨(some 4), (.mv (.t 20)), none⟩]
def a_crc_turn : AFunc := ⟨[(.tmp 4)], (.seq (.region q_crc_turn_0) (.seq (.region q_crc_turn_1) (.seq (.seq (.region q_crc_turn_2) (.block 0 (.loop q_crc_turn_L8))) (.seq (.region q_crc_turn_8) .ret))))⟩

def q_ref02_Of_0 : List AOper := [
  ⟨(some 2), (.mv (.v (.int .u32 0))), none⟩]
def q_ref02_Of_1 : List AOper := [
  ⟨(some 11), (.mv (.t 0)), none⟩,
  ⟨(some 12), (.call F_ref02_bits [(.sc, (.t 11))]), none⟩,
  ⟨(some 13), (.xx (.appZ 5 .u8 1) [(.t 12), (.v (.int .i64 32))]), none⟩,
  ⟨(some 3), (.mv (.t 13)), none⟩]
def q_ref02_Of_2 : List AOper := [
  ⟨(some 4), (.mv (.v (.int .i64 0))), none⟩]
def q_ref02_Of_3 : List AOper := [
  ⟨(some 14), (.mv (.t 4)), none⟩,
  ⟨(some 15), (.bin .lss (.t 14) (.v (.int .i64 32))), none⟩]
def q_ref02_Of_4 : List AOper := [
  ⟨(some 18), (.mv (.t 3)), none⟩,
  ⟨(some 19), (.mv (.t 4)), none⟩,
  ⟨(some 20), (.mv (.t 3)), none⟩,
  ⟨(some 21), (.mv (.t 4)), none⟩,
  ⟨(some 22), (.idx 1 (.t 20) (.t 21)), none⟩,
  ⟨(some 23), (.load .sc 1 (.t 22)), none⟩,
  ⟨(some 24), (.bin .sub (.v (.int .u8 1)) (.t 23)), none⟩,
  ⟨(some 25), (.idx 1 (.t 18) (.t 19)), none⟩,
  ⟨none, (.store .sc 1 (.t 25) (.t 24)), none⟩]
def q_ref02_Of_5 : List AOper := [
  ⟨(some 16), (.mv (.t 4)), none⟩,
  ⟨(some 17), (.bin .add (.t 16) (.v (.int .i64 1))), none⟩,
  ⟨(some 4), (.mv (.t 17)), none⟩]
def q_ref02_Of_L6 : ACode := (.seq (.seq (.region q_ref02_Of_3) (.cond (.t 15) .skip (.exit 0))) (.seq (.block 1 (.region q_ref02_Of_4)) (.region q_ref02_Of_5)))
def q_ref02_Of_6 : List AOper := [
  ⟨(some 26), (.bslI 5 .u8 [(.v (.int .u8 1)), (.v (.int .u8 0)), (.v (.int .u8 0)), (.v (.int .u8 0)), (.v (.int .u8 0)), (.v (.int .u8 0)), (.v (.int .u8 1)), (.v (.int .u8 0)), (.v (.int .u8 0)), (.v (.int .u8 1)), (.v (.int .u8 1)), (.v (.int .u8 0)), (.v (.int .u8 0)), (.v (.int .u8 0)), (.v (.int .u8 0)), (.v (.int .u8 0)), (.v (.int .u8 1)), (.v (.int .u8 0)), (.v (.int .u8 0)), (.v (.int .u8 0)), (.v (.int .u8 1)), (.v (.int .u8 1)), (.v (.int .u8 1)), (.v (.int .u8 0)), (.v (.int .u8 1)), (.v (.int .u8 1)), (.v (.int .u8 0)), (.v (.int .u8 1)), (.v (.int .u8 1)), (.v (.int .u8 0)), (.v (.int .u8 1)), (.v (.int .u8 1)), (.v (.int .u8 1))]), none⟩,
  ⟨(some 5), (.mv (.t 26)), none⟩]
def q_ref02_Of_7 : List AOper := [
  ⟨(some 6), (.mv (.v (.int .i64 0))), none⟩]
def q_ref02_Of_8 : List AOper := [
  ⟨(some 27), (.mv (.t 6)), none⟩,
  ⟨(some 28), (.bin .add (.t 27) (.v (.int .i64 32))), none⟩,
  ⟨(some 29), (.mv (.t 3)), none⟩,
  ⟨(some 30), (.len false (.t 29)), none⟩,
  ⟨(some 31), (.bin .lss (.t 28) (.t 30)), none⟩]
def q_ref02_Of_9 : List AOper := [
  ⟨(some 34), (.mv (.t 3)), none⟩,
  ⟨(some 35), (.mv (.t 6)), none⟩,
  ⟨(some 36), (.idx 1 (.t 34) (.t 35)), none⟩,
  ⟨(some 37), (.load .sc 1 (.t 36)), none⟩,
  ⟨(some 38), (.eq .scI false (.t 37) (.v (.int .u8 1))), none⟩]
def q_ref02_Of_10 : List AOper := [
  ⟨(some 7), (.mv (.v (.int .i64 0))), none⟩]
def q_ref02_Of_11 : List AOper := [
  ⟨(some 39), (.mv (.t 7)), none⟩,
  ⟨(some 40), (.bin .lss (.t 39) (.v (.int .i64 33))), none⟩]
def q_ref02_Of_12 : List DOp := [
  ⟨⟨(some 43), (.mv (.t 3)), none⟩, true, false, none, []⟩,
  ⟨⟨(some 44), (.mv (.t 6)), none⟩, true, false, none, []⟩,
  ⟨⟨(some 45), (.mv (.t 7)), none⟩, true, false, none, []⟩,
  ⟨⟨(some 46), (.bin .add (.t 44) (.t 45)), none⟩, true, false, none, []⟩,
  ⟨⟨(some 47), (.mv (.t 3)), none⟩, true, false, none, []⟩,
  ⟨⟨(some 48), (.mv (.t 6)), none⟩, true, false, none, []⟩,
  ⟨⟨(some 49), (.mv (.t 7)), none⟩, true, false, none, []⟩,
  ⟨⟨(some 50), (.bin .add (.t 48) (.t 49)), none⟩, true, false, none, []⟩,
  ⟨⟨(some 51), (.idx 1 (.t 47) (.t 50)), none⟩, true, false, none, []⟩,
  ⟨⟨(some 52), (.load .sc 1 (.t 51)), none⟩, true, false, none, []⟩,
  ⟨⟨(some 53), (.mv (.t 5)), none⟩, true, false, none, []⟩,
  ⟨⟨(some 54), (.mv (.t 7)), none⟩, true, false, none, []⟩,
  ⟨⟨(some 55), (.idx 1 (.t 53) (.t 54)), none⟩, true, false, none, []⟩,
  ⟨⟨(some 56), (.load .sc 1 (.t 55)), none⟩, true, false, none, []⟩,
  ⟨⟨(some 57), (.bin .xor (.t 52) (.t 56)), none⟩, true, false, none, []⟩,
  ⟨⟨(some 58), (.idx 1 (.t 43) (.t 46)), none⟩, true, false, none, []⟩,
  ⟨⟨none, (.store .sc 1 (.t 58) (.t 57)), none⟩, false, false, none, []⟩]
def q_ref02_Of_13 : List AOper := [
  ⟨(some 41), (.mv (.t 7)), none⟩,
  ⟨(some 42), (.bin .add (.t 41) (.v (.int .i64 1))), none⟩,
  ⟨(some 7), (.mv (.t 42)), none⟩]
def q_ref02_Of_L14 : ACode := (.seq (.seq (.region q_ref02_Of_11) (.cond (.t 40) .skip (.exit 4))) (.seq (.block 5 (.regionD q_ref02_Of_12)) (.region q_ref02_Of_13)))
def q_ref02_Of_14 : List AOper := [
  ⟨(some 32), (.mv (.t 6)), none⟩,
  ⟨(some 33), (.bin .add (.t 32) (.v (.int .i64 1))), none⟩,
  ⟨(some 6), (.mv (.t 33)), none⟩]
def q_ref02_Of_L15 : ACode := (.seq (.seq (.region q_ref02_Of_8) (.cond (.t 31) .skip (.exit 2))) (.seq (.block 3 (.seq (.region q_ref02_Of_9) (.cond (.t 38) (.seq (.region q_ref02_Of_10) (.block 4 (.loop q_ref02_Of_L14))) .skip))) (.region q_ref02_Of_14)))
def q_ref02_Of_15 : List AOper := [
  ⟨(some 8), (.mv (.v (.int .u32 0))), none⟩]
def q_ref02_Of_16 : List AOper := [
  ⟨(some 59), (.mv (.t 3)), none⟩,
  ⟨(some 60), (.len false (.t 59)), none⟩,
  ⟨(some 61), (.bin .sub (.t 60) (.v (.int .i64 32))), none⟩,
  ⟨(some 9), (.mv (.t 61)), none⟩]
def q_ref02_Of_17 : List AOper := [
  ⟨(some 10), (.mv (.v (.int .i64 0))), none⟩]
def q_ref02_Of_18 : List AOper := [
  ⟨(some 62), (.mv (.t 10)), none⟩,
  ⟨(some 63), (.bin .lss (.t 62) (.v (.int .i64 32))), none⟩]
def q_ref02_Of_19 : List AOper := [
  ⟨(some 66), (.mv (.t 8)), none⟩,
  ⟨(some 67), (.mv (.t 3)), none⟩,
  ⟨(some 68), (.mv (.t 9)), none⟩,
  ⟨(some 69), (.mv (.t 10)), none⟩,
  ⟨(some 70), (.bin .add (.t 68) (.t 69)), none⟩,
  ⟨(some 71), (.idx 1 (.t 67) (.t 70)), none⟩,
  ⟨(some 72), (.load .sc 1 (.t 71)), none⟩,
  ⟨(some 73), (.bin .sub (.v (.int .u8 1)) (.t 72)), none⟩,
  ⟨(some 74), (.conv .u32 (.t 73)), none⟩,
  ⟨(some 75), (.mv (.t 10)), none⟩,
  ⟨(some 76), (.conv .u64 (.t 75)), none⟩,
  ⟨(some 77), (.bin .shl (.t 74) (.t 76)), none⟩,
  ⟨(some 78), (.bin .or (.t 66) (.t 77)), none⟩,
  ⟨(some 8), (.mv (.t 78)), none⟩]
def q_ref02_Of_20 : List AOper := [
  ⟨(some 64), (.mv (.t 10)), none⟩,
  ⟨(some 65), (.bin .add (.t 64) (.v (.int .i64 1))), none⟩,
  ⟨(some 10), (.mv (.t 65)), none⟩]
def q_ref02_Of_L21 : ACode := (.seq (.seq (.region q_ref02_Of_18) (.cond (.t 63) .skip (.exit 6))) (.seq (.block 7 (.region q_ref02_Of_19)) (.region q_ref02_Of_20)))
def q_ref02_Of_21 : List AOper := [
  ⟨(some 79), (.mv (.t 8)), none⟩,
  ⟨(some 2), (.mv (.t 79)), none⟩]
def a_ref02_Of : AFunc := ⟨[(.tmp 2)], (.seq (.region q_ref02_Of_0) (.seq (.region q_ref02_Of_1) (.seq (.seq (.region q_ref02_Of_2) (.block 0 (.loop q_ref02_Of_L6))) (.seq (.region q_ref02_Of_6) (.seq (.seq (.region q_ref02_Of_7) (.block 2 (.loop q_ref02_Of_L15))) (.seq (.region q_ref02_Of_15) (.seq (.region q_ref02_Of_16) (.seq (.seq (.region q_ref02_Of_17) (.block 6 (.loop q_ref02_Of_L21))) (.seq (.region q_ref02_Of_21) .ret)))))))))⟩

def q_ref02_bits_0 : List AOper := [
  ⟨(some 2), (.mv (.v .nilS)), none⟩]
def q_ref02_bits_1 : List AOper := [
  ⟨(some 3), (.mv (.v .nilS)), none⟩]
def q_ref02_bits_2 : List AOper := [
  ⟨(some 4), (.mv (.v (.int .i64 0))), none⟩]
def q_ref02_bits_3 : List AOper := [
  ⟨(some 6), (.mv (.t 4)), none⟩,
  ⟨(some 7), (.mv (.t 0)), none⟩,
  ⟨(some 8), (.len false (.t 7)), none⟩,
  ⟨(some 9), (.bin .lss (.t 6) (.t 8)), none⟩]
def q_ref02_bits_4 : List AOper := [
  ⟨(some 5), (.mv (.v (.int .i64 0))), none⟩]
def q_ref02_bits_5 : List AOper := [
  ⟨(some 12), (.mv (.t 5)), none⟩,
  ⟨(some 13), (.bin .lss (.t 12) (.v (.int .i64 8))), none⟩]
def q_ref02_bits_6 : List AOper := [
  ⟨(some 16), (.mv (.t 3)), none⟩,
  ⟨(some 17), (.mv (.t 0)), none⟩,
  ⟨(some 18), (.mv (.t 4)), none⟩,
  ⟨(some 19), (.idx 1 (.t 17) (.t 18)), none⟩,
  ⟨(some 20), (.load .sc 1 (.t 19)), none⟩,
  ⟨(some 21), (.mv (.t 5)), none⟩,
  ⟨(some 22), (.conv .u64 (.t 21)), none⟩,
  ⟨(some 23), (.bin .shr (.t 20) (.t 22)), none⟩,
  ⟨(some 24), (.bin .and (.t 23) (.v (.int .u8 1))), none⟩,
  ⟨(some 25), (.bslI 5 .u8 [(.t 24)]), none⟩,
  ⟨(some 26), (.appI 5 .u8 1 (.t 16) (.t 25)), none⟩,
  ⟨(some 3), (.mv (.t 26)), none⟩]
def q_ref02_bits_7 : List AOper := [
  ⟨(some 14), (.mv (.t 5)), none⟩,
  ⟨(some 15), (.bin .add (.t 14) (.v (.int .i64 1))), none⟩,
  ⟨(some 5), (.mv (.t 15)), none⟩]
def q_ref02_bits_L8 : ACode := (.seq (.seq (.region q_ref02_bits_5) (.cond (.t 13) .skip (.exit 2))) (.seq (.block 3 (.region q_ref02_bits_6)) (.region q_ref02_bits_7)))
def q_ref02_bits_8 : List AOper := [
  ⟨(some 10), (.mv (.t 4)), none⟩,
  ⟨(some 11), (.bin .add (.t 10) (.v (.int .i64 1))), none⟩,
  ⟨(some 4), (.mv (.t 11)), none⟩]
def q_ref02_bits_L9 : ACode := (.seq (.seq (.region q_ref02_bits_3) (.cond (.t 9) .skip (.exit 0))) (.seq (.block 1 (.seq (.region q_ref02_bits_4) (.block 2 (.loop q_ref02_bits_L8)))) (.region q_ref02_bits_8)))
def q_ref02_bits_9 : List AOper := [
  ⟨(some 27), (.mv (.t 3)), none⟩,
  ⟨(some 2), (.mv (.t 27)), none⟩]
def a_ref02_bits : AFunc := ⟨[(.tmp 2)], (.seq (.region q_ref02_bits_0) (.seq (.region q_ref02_bits_1) (.seq (.seq (.region q_ref02_bits_2) (.block 0 (.loop q_ref02_bits_L9))) (.seq (.region q_ref02_bits_9) .ret))))⟩

def q_ref08_Sealed_0 : List AOper := [
  ⟨(some 2), (.alloc 54 [(.iarr .u8 256 (List.replicate 256 0))]), none⟩]
def q_ref08_Sealed_1 : List AOper := [
  ⟨(some 3), (.mv (.v .nilS)), none⟩]
def q_ref08_Sealed_2 : List AOper := [
  ⟨(some 6), (.mv (.t 3)), none⟩,
  ⟨(some 7), (.mv (.t 0)), none⟩,
  ⟨(some 8), (.appI 5 .u8 1 (.t 6) (.t 7)), none⟩,
  ⟨(some 3), (.mv (.t 8)), none⟩]
def q_ref08_Sealed_3 : List AOper := [
  ⟨(some 9), (.mv (.t 3)), none⟩,
  ⟨(some 10), (.len false (.t 9)), none⟩,
  ⟨(some 11), (.bin .lss (.t 10) (.v (.int .i64 252))), none⟩]
def q_ref08_Sealed_4 : List AOper := [
  ⟨(some 12), (.mv (.t 3)), none⟩,
  ⟨(some 13), (.bslI 5 .u8 [(.v (.int .u8 0))]), none⟩,
  ⟨(some 14), (.appI 5 .u8 1 (.t 12) (.t 13)), none⟩,
  ⟨(some 3), (.mv (.t 14)), none⟩]
def q_ref08_Sealed_L5 : ACode := (.seq (.seq (.region q_ref08_Sealed_3) (.cond (.t 11) .skip (.exit 0))) (.block 1 (.region q_ref08_Sealed_4)))
def q_ref08_Sealed_5 : List AOper := [
  ⟨(some 15), (.mv (.t 3)), none⟩,
  ⟨(some 16), (.mv (.t 3)), none⟩,
  ⟨(some 17), (.call F_ref02_Of [(.sc, (.t 16))]), none⟩,
  ⟨(some 18), (.conv .u64 (.t 17)), none⟩,
  ⟨(some 19), (.call F_ref01_Put [(.sc, (.t 18)), (.sc, (.v (.int .i64 4)))]), none⟩,
  ⟨(some 20), (.appI 5 .u8 1 (.t 15) (.t 19)), none⟩,
  ⟨(some 3), (.mv (.t 20)), none⟩]
def q_ref08_Sealed_6 : List AOper := [
  ⟨(some 4), (.alloc 54 [(.iarr .u8 256 (List.replicate 256 0))]), none⟩]
def q_ref08_Sealed_7 : List AOper := [
  ⟨(some 5), (.mv (.v (.int .i64 0))), none⟩]
def q_ref08_Sealed_8 : List AOper := [
  ⟨(some 21), (.mv (.t 5)), none⟩,
  ⟨(some 22), (.bin .lss (.t 21) (.v (.int .i64 256))), none⟩]
def q_ref08_Sealed_9 : List AOper := [
  ⟨(some 25), (.mv (.t 5)), none⟩,
  ⟨(some 26), (.mv (.t 3)), none⟩,
  ⟨(some 27), (.mv (.t 5)), none⟩,
  ⟨(some 28), (.idx 1 (.t 26) (.t 27)), none⟩,
  ⟨(some 29), (.load .sc 1 (.t 28)), none⟩,
  ⟨(some 30), (.idxA 256 1 true (.t 4) (.t 25)), none⟩,
  ⟨none, (.store .sc 1 (.t 30) (.t 29)), none⟩]
def q_ref08_Sealed_10 : List AOper := [
  ⟨(some 23), (.mv (.t 5)), none⟩,
  ⟨(some 24), (.bin .add (.t 23) (.v (.int .i64 1))), none⟩,
  ⟨(some 5), (.mv (.t 24)), none⟩]
def q_ref08_Sealed_L11 : ACode := (.seq (.seq (.region q_ref08_Sealed_8) (.cond (.t 22) .skip (.exit 2))) (.seq (.block 3 (.region q_ref08_Sealed_9)) (.region q_ref08_Sealed_10)))
def q_ref08_Sealed_11 : List AOper := [
  ⟨(some 31), (.load (.ia .u8 256) 256 (.t 4)), none⟩,
  ⟨none, (.store (.ia .u8 256) 256 (.t 2) (.t 31)), none⟩]
def a_ref08_Sealed : AFunc := ⟨[(.cell 2 (.ia .u8 256) 256)], (.seq (.region q_ref08_Sealed_0) (.seq (.region q_ref08_Sealed_1) (.seq (.region q_ref08_Sealed_2) (.seq (.block 0 (.loop q_ref08_Sealed_L5)) (.seq (.region q_ref08_Sealed_5) (.seq (.region q_ref08_Sealed_6) (.seq (.seq (.region q_ref08_Sealed_7) (.block 2 (.loop q_ref08_Sealed_L11))) (.seq (.region q_ref08_Sealed_11) .ret))))))))⟩


theorem c_crc_Sealed : trF Try.prog Try.f64 = some a_crc_Sealed := by kernel_rfl
theorem g_crc_Sealed : Try.prog.funcs[64]? = some Try.f64 := by kernel_rfl
theorem i_crc_Sealed {args : List AV} {A : Heap} {Ko : AOut → Heap → Prop} (hn : args.length ≤ 12)
    (h : ∀ R : APost, (∀ e env A, fpost a_crc_Sealed.res Ko e env A → R e env A) → X Try.prog R a_crc_Sealed.body .done (env0 args) A) : SimX Try.prog F_crc_Sealed args A Ko :=
  X_intro g_crc_Sealed c_crc_Sealed (by rw [Try.ntmps64]; exact hn) h
@[simp] theorem k_crc_Sealed : callable Try.prog F_crc_Sealed = true := by kernel_rfl
theorem c_crc_Holds : trF Try.prog Try.f68 = some a_crc_Holds := by kernel_rfl
theorem g_crc_Holds : Try.prog.funcs[68]? = some Try.f68 := by kernel_rfl
theorem i_crc_Holds {args : List AV} {A : Heap} {Ko : AOut → Heap → Prop} (hn : args.length ≤ 20)
    (h : ∀ R : APost, (∀ e env A, fpost a_crc_Holds.res Ko e env A → R e env A) → X Try.prog R a_crc_Holds.body .done (env0 args) A) : SimX Try.prog F_crc_Holds args A Ko :=
  X_intro g_crc_Holds c_crc_Holds (by rw [Try.ntmps68]; exact hn) h
@[simp] theorem k_crc_Holds : callable Try.prog F_crc_Holds = true := by kernel_rfl
theorem c_crc_Four : trF Try.prog Try.f89 = some a_crc_Four := by kernel_rfl
theorem g_crc_Four : Try.prog.funcs[89]? = some Try.f89 := by kernel_rfl
theorem i_crc_Four {args : List AV} {A : Heap} {Ko : AOut → Heap → Prop} (hn : args.length ≤ 15)
    (h : ∀ R : APost, (∀ e env A, fpost a_crc_Four.res Ko e env A → R e env A) → X Try.prog R a_crc_Four.body .done (env0 args) A) : SimX Try.prog F_crc_Four args A Ko :=
  X_intro g_crc_Four c_crc_Four (by rw [Try.ntmps89]; exact hn) h
@[simp] theorem k_crc_Four : callable Try.prog F_crc_Four = true := by kernel_rfl
theorem c_crc_Of : trF Try.prog Try.f90 = some a_crc_Of := by kernel_rfl
theorem g_crc_Of : Try.prog.funcs[90]? = some Try.f90 := by kernel_rfl
theorem i_crc_Of {args : List AV} {A : Heap} {Ko : AOut → Heap → Prop} (hn : args.length ≤ 5)
    (h : ∀ R : APost, (∀ e env A, fpost a_crc_Of.res Ko e env A → R e env A) → X Try.prog R a_crc_Of.body .done (env0 args) A) : SimX Try.prog F_crc_Of args A Ko :=
  X_intro g_crc_Of c_crc_Of (by rw [Try.ntmps90]; exact hn) h
@[simp] theorem k_crc_Of : callable Try.prog F_crc_Of = true := by kernel_rfl
theorem c_crc_More : trF Try.prog Try.f98 = some a_crc_More := by kernel_rfl
theorem g_crc_More : Try.prog.funcs[98]? = some Try.f98 := by kernel_rfl
theorem i_crc_More {args : List AV} {A : Heap} {Ko : AOut → Heap → Prop} (hn : args.length ≤ 22)
    (h : ∀ R : APost, (∀ e env A, fpost a_crc_More.res Ko e env A → R e env A) → X Try.prog R a_crc_More.body .done (env0 args) A) : SimX Try.prog F_crc_More args A Ko :=
  X_intro g_crc_More c_crc_More (by rw [Try.ntmps98]; exact hn) h
@[simp] theorem k_crc_More : callable Try.prog F_crc_More = true := by kernel_rfl
theorem c_crc_turn : trF Try.prog Try.f100 = some a_crc_turn := by kernel_rfl
theorem g_crc_turn : Try.prog.funcs[100]? = some Try.f100 := by kernel_rfl
theorem i_crc_turn {args : List AV} {A : Heap} {Ko : AOut → Heap → Prop} (hn : args.length ≤ 21)
    (h : ∀ R : APost, (∀ e env A, fpost a_crc_turn.res Ko e env A → R e env A) → X Try.prog R a_crc_turn.body .done (env0 args) A) : SimX Try.prog F_crc_turn args A Ko :=
  X_intro g_crc_turn c_crc_turn (by rw [Try.ntmps100]; exact hn) h
@[simp] theorem k_crc_turn : callable Try.prog F_crc_turn = true := by kernel_rfl
theorem c_ref02_Of : trF Try.prog Try.f92 = some a_ref02_Of := by kernel_rfl
theorem g_ref02_Of : Try.prog.funcs[92]? = some Try.f92 := by kernel_rfl
theorem i_ref02_Of {args : List AV} {A : Heap} {Ko : AOut → Heap → Prop} (hn : args.length ≤ 80)
    (h : ∀ R : APost, (∀ e env A, fpost a_ref02_Of.res Ko e env A → R e env A) → X Try.prog R a_ref02_Of.body .done (env0 args) A) : SimX Try.prog F_ref02_Of args A Ko :=
  X_intro g_ref02_Of c_ref02_Of (by rw [Try.ntmps92]; exact hn) h
@[simp] theorem k_ref02_Of : callable Try.prog F_ref02_Of = true := by kernel_rfl
theorem c_ref02_bits : trF Try.prog Try.f99 = some a_ref02_bits := by kernel_rfl
theorem g_ref02_bits : Try.prog.funcs[99]? = some Try.f99 := by kernel_rfl
theorem i_ref02_bits {args : List AV} {A : Heap} {Ko : AOut → Heap → Prop} (hn : args.length ≤ 28)
    (h : ∀ R : APost, (∀ e env A, fpost a_ref02_bits.res Ko e env A → R e env A) → X Try.prog R a_ref02_bits.body .done (env0 args) A) : SimX Try.prog F_ref02_bits args A Ko :=
  X_intro g_ref02_bits c_ref02_bits (by rw [Try.ntmps99]; exact hn) h
@[simp] theorem k_ref02_bits : callable Try.prog F_ref02_bits = true := by kernel_rfl
theorem c_ref08_Sealed : trF Try.prog Try.f67 = some a_ref08_Sealed := by kernel_rfl
theorem g_ref08_Sealed : Try.prog.funcs[67]? = some Try.f67 := by kernel_rfl
theorem v_ref08_Sealed {args : List AV} {v : AV} (hn : args.length ≤ 32) (h : X Try.prog (fin a_ref08_Sealed.res v) a_ref08_Sealed.body .done (env0 args) H0) : Gives Try.prog F_ref08_Sealed args v :=
  Gives_intro g_ref08_Sealed c_ref08_Sealed (by rw [Try.ntmps67]; exact hn) h
@[simp] theorem k_ref08_Sealed : callable Try.prog F_ref08_Sealed = true := by kernel_rfl
end Go.Proofs.Ytilgdnbijkcboaa

/- The walks of the checksum functions. -/
namespace Go.Proofs.Ytilgdnbijkcboaa
open Go AVL
set_option linter.unusedVariables false
set_option linter.unusedSimpArgs false

def step1 (r : Nat) : Nat := if r % 2 = 1 then (r / 2) ^^^ 3988292384 else r / 2
def steps : Nat → Nat → Nat
  | 0, r => r
  | n + 1, r => steps n (step1 r)
def turnN (r c : Nat) : Nat := steps 8 (r ^^^ c)
theorem step1_lt {r : Nat} (h : r < 2 ^ 32) : step1 r < 2 ^ 32 := by
  unfold step1
  split
  · exact Nat.xor_lt_two_pow (by omega) (by omega)
  · omega
theorem steps_lt : ∀ (n : Nat) {r : Nat}, r < 2 ^ 32 → steps n r < 2 ^ 32
  | 0, r, h => h
  | n + 1, r, h => steps_lt n (step1_lt h)
theorem turnN_lt {r c : Nat} (hr : r < 2 ^ 32) (hc : c < 256) : turnN r c < 2 ^ 32 := steps_lt 8 (Nat.xor_lt_two_pow hr (by omega))

theorem w_crc_turn (r c : Nat) (hr : r < 2 ^ 32) (hc : c < 256) : Gives Try.prog F_crc_turn [.int .u32 r, .int .u8 c] (.int .u32 (turnN r c)) := by
  refine i_crc_turn (by simp) fun R hR => ?_
  have e1 : IntKind.u32.wrap (c : Int) = c := wrap_u32 (by omega)
  have e2 : bXor .u32 (r : Int) (c : Int) = ((r ^^^ c : Nat) : Int) := bXor_nat rfl hr (by simp [IntKind.bits]; omega)
  simp -implicitDefEqProofs [a_crc_turn, q_crc_turn_0, q_crc_turn_1, q_crc_turn_2, e1, e2]
  refine X_loop (fun (s : Nat × Nat) env A => s.1 ≤ 8 ∧ s.2 < 2 ^ 32 ∧ steps (8 - s.1) s.2 = turnN r c ∧ env 0 = .int .u32 s.2 ∧ env 9 = .int .i64 s.1 ∧ A = H0) (fun s => 8 - s.1) (0, r ^^^ c) ⟨by simp, Nat.xor_lt_two_pow hr (by omega), rfl, by simp, by simp, rfl⟩ ?_
  rintro R' ⟨i, x⟩ env A ⟨h1, h2, h3, h4, h5, rfl⟩ hN hE
  simp only at h1 h2 h3 h4 h5
  have e3 : bAnd .u32 (x : Int) 1 = ((x % 2 : Nat) : Int) := by
    have := bAnd_nat (k := .u32) rfl h2 (b := 1) (by decide)
    rw [Nat.and_one_is_mod] at this; exact this
  have e4 : shrI .u32 (x : Int) 1 = ((x / 2 : Nat) : Int) := shrI_nat (b := 1)
  have e5 : bXor .u32 ((x : Int) / 2) 3988292384 = ((x / 2 ^^^ 3988292384 : Nat) : Int) := bXor_nat (a := x / 2) (b := 3988292384) rfl (by simp [IntKind.bits]; omega) (by decide)
  have e6 : i < 8 → IntKind.i64.wrap ((i : Int) + 1) = ((i + 1 : Nat) : Int) := fun h => by rw [wrap_i64 (by omega)]; simp
  simp -implicitDefEqProofs [q_crc_turn_L8, q_crc_turn_3, q_crc_turn_4, q_crc_turn_5, q_crc_turn_6, q_crc_turn_7, h4, h5, e3, e4, e5]
  refine ⟨fun hi => ?_, fun hi => ?_⟩
  · have hs : 8 - i = (8 - (i + 1)) + 1 := by omega
    rw [hs] at h3
    simp only [steps] at h3
    refine ⟨fun hx => ?_, fun hx => ?_⟩
    · have hx' : step1 x = x / 2 ^^^ 3988292384 := by unfold step1; rw [if_pos (by omega)]
      refine hN (i + 1, step1 x) _ _ ⟨by simp; omega, step1_lt h2, h3, by simp [hx'], by simp [e6 (by omega)], rfl⟩ (by simp; omega)
    · have hx' : step1 x = x / 2 := by unfold step1; rw [if_neg (by omega)]
      refine hN (i + 1, step1 x) _ _ ⟨by simp; omega, step1_lt h2, h3, by simp [hx'], by simp [e6 (by omega)], rfl⟩ (by simp; omega)
  · refine hE _ _ _ (by simp) ?_
    have : i = 8 := by omega
    subst this
    simp only [Nat.sub_self, steps] at h3
    subst h3
    simp -implicitDefEqProofs [q_crc_turn_8, h4]
    exact hR _ _ _ ⟨H0, Sub_refl _, by simp, rfl⟩
end Go.Proofs.Ytilgdnbijkcboaa

/- The walks of the checksum functions, second part. -/
namespace Go.Proofs.Ytilgdnbijkcboaa
open Go AVL
set_option linter.unusedVariables false
set_option linter.unusedSimpArgs false

def notN (s : Nat) : Nat := 4294967295 ^^^ s
def moreN (s : Nat) (l : List Nat) : Nat := notN (l.foldl turnN (notN s))
theorem notN_lt {s : Nat} (h : s < 2 ^ 32) : notN s < 2 ^ 32 := Nat.xor_lt_two_pow (by decide) h
theorem foldl_lt : ∀ (l : List Nat) (r : Nat), Bytes l → r < 2 ^ 32 → l.foldl turnN r < 2 ^ 32
  | [], r, _, hr => hr
  | c :: l, r, hl, hr => foldl_lt l _ (fun x hx => hl x (by simp [hx])) (turnN_lt hr (hl c (by simp)))
theorem moreN_lt {s : Nat} {l : List Nat} (hs : s < 2 ^ 32) (hl : Bytes l) : moreN s l < 2 ^ 32 := notN_lt (foldl_lt l _ hl (notN_lt hs))
theorem bXor_not {s : Nat} (hs : s < 2 ^ 32) : bXor .u32 4294967295 (s : Int) = ((notN s : Nat) : Int) := bXor_nat (a := 4294967295) rfl (by decide) hs

theorem w_crc_More (s : Nat) (l : List Nat) (hs : s < 2 ^ 32) (hl : Bytes l) (hn : l.length < 2 ^ 62) : Gives Try.prog F_crc_More [.int .u32 s, .isl .u8 (ints l)] (.int .u32 (moreN s l)) := by
  refine i_crc_More (by simp) fun R hR => ?_
  have m : IntKind.u32.max = 4294967295 := by decide
  have sg : IntKind.u32.signed = false := rfl
  simp -implicitDefEqProofs [a_crc_More, q_crc_More_0, q_crc_More_1, q_crc_More_2, sg, m, bXor_not hs]
  refine X_loop (fun (s' : Nat × Nat) env A => s'.1 ≤ l.length ∧ s'.2 < 2 ^ 32 ∧ notN ((l.drop s'.1).foldl turnN s'.2) = moreN s l ∧ env 5 = .int .u32 s'.2 ∧ env 10 = .isl .u8 (ints l) ∧ env 11 = .int .i64 l.length ∧ env 12 = .int .i64 s'.1 ∧ A = H0)
    (fun s' => l.length - s'.1) (0, notN s) ⟨by simp, notN_lt hs, rfl, by simp, by simp, by simp, by simp, rfl⟩ ?_
  rintro R' ⟨i, x⟩ env A ⟨h1, h2, h3, h4, h5, h6, h7, rfl⟩ hN hE
  simp only at h1 h2 h3 h4 h7
  simp -implicitDefEqProofs [q_crc_More_L7, q_crc_More_3, q_crc_More_4, h4, h5, h6, h7]
  refine ⟨fun hi => ⟨hi, ?_⟩, fun hi => ?_⟩
  · have hb : (l[i]?.getD 0) < 256 := by rw [List.getElem?_eq_getElem hi]; exact hl _ (List.getElem_mem hi)
    simp -implicitDefEqProofs [q_crc_More_5, h4]
    refine (w_crc_turn x _ h2 hb).call (.cons (.refl _) rfl (.cons (.refl _) rfl .nil)) rfl ?_
    have e6 : IntKind.i64.wrap ((i : Int) + 1) = ((i + 1 : Nat) : Int) := by rw [wrap_i64 (by omega)]; simp
    simp -implicitDefEqProofs [q_crc_More_6, h7]
    refine hN (i + 1, turnN x (l[i]?.getD 0)) _ _ ⟨hi, turnN_lt h2 hb, ?_, by simp, by simp [h5], by simp [h6], by simp [e6], rfl⟩ (by simp; omega)
    rw [List.drop_eq_getElem_cons hi] at h3
    have hg : l[i]?.getD 0 = l[i] := by simp [List.getElem?_eq_getElem hi]
    rw [hg]
    exact h3
  · refine hE _ _ _ (by simp) ?_
    have : i = l.length := by omega
    subst this
    simp only [List.drop_length, List.foldl_nil] at h3
    simp -implicitDefEqProofs [q_crc_More_7, h4, sg, m, bXor_not h2, h3]
    exact hR _ _ _ ⟨H0, Sub_refl _, by simp, rfl⟩

theorem w_crc_Of (l : List Nat) (hl : Bytes l) (hn : l.length < 2 ^ 62) : Gives Try.prog F_crc_Of [.isl .u8 (ints l)] (.int .u32 (moreN 0 l)) := by
  refine i_crc_Of (by simp) fun R hR => ?_
  simp -implicitDefEqProofs [a_crc_Of, q_crc_Of_0, q_crc_Of_1]
  refine (w_crc_More 0 l (by decide) hl hn).call (.cons (.refl _) rfl (.cons (.refl _) rfl .nil)) rfl ?_
  simp -implicitDefEqProofs
  exact hR _ _ _ ⟨H0, Sub_refl _, by simp, rfl⟩

def fourN (s : Nat) : List Nat := [s % 256, s / 256 % 256, s / 65536 % 256, s / 16777216 % 256]
theorem w_crc_Four (s : Nat) (hs : s < 2 ^ 32) : Gives Try.prog F_crc_Four [.int .u32 s] (.iarr .u8 4 (ints (fourN s))) := by
  refine i_crc_Four (by simp) fun R hR => ?_
  have e8 : shrI .u32 (s : Int) 8 = ((s / 256 : Nat) : Int) := shrI_nat (b := 8)
  have e16 : shrI .u32 (s : Int) 16 = ((s / 65536 : Nat) : Int) := shrI_nat (b := 16)
  have e24 : shrI .u32 (s : Int) 24 = ((s / 16777216 : Nat) : Int) := shrI_nat (b := 24)
  simp -implicitDefEqProofs [a_crc_Four, q_crc_Four_0, q_crc_Four_1, e8, e16, e24, wrap_u8m]
  intro g
  refine hR _ _ _ ?_
  simp -implicitDefEqProofs [a_crc_Four, fpost, fourN, ints]

theorem w_crc_Sealed (l : List Nat) (hl : Bytes l) (hn : l.length < 2 ^ 40) : Makes Try.prog F_crc_Sealed [.isl .u8 (ints l)] (l.length + 4) (.irow 5 .u8 (ints (l ++ fourN (moreN 0 l)))) := by
  refine i_crc_Sealed (by simp) fun R hR => ?_
  simp -implicitDefEqProofs [a_crc_Sealed, q_crc_Sealed_0, q_crc_Sealed_1]
  refine (w_crc_Of l hl (by omega)).call (.cons (.refl _) rfl .nil) rfl ?_
  simp -implicitDefEqProofs
  refine (w_crc_Four _ (moreN_lt (by decide) hl)).call (.cons (.refl _) rfl .nil) rfl ?_
  have h4 : (fourN (moreN 0 l)).length = 4 := rfl
  simp -implicitDefEqProofs +contextual [q_crc_Sealed_2, h4]
  intro g g1 _ _
  refine ⟨by omega, fun g2 _ _ _ _ => ⟨by omega, fun g3 _ _ _ _ => ?_⟩⟩
  refine hR _ _ _ ?_
  simp -implicitDefEqProofs [a_crc_Sealed, fpost]
  have h5 : List.take 4 (fourN (moreN 0 l)) = fourN (moreN 0 l) := rfl
  simp only [h5]
  exact set_sub (H0_sub _)

theorem bytes_four (s : Nat) : Bytes (fourN s) := by
  intro x hx
  simp -implicitDefEqProofs [fourN] at hx
  omega
/-- What Holds answers. -/
def holdsN (l : List Nat) : Bool := decide (4 ≤ l.length) && (fourN (moreN 0 (l.take (l.length - 4))) == l.drop (l.length - 4))
theorem w_crc_Holds (l : List Nat) (hl : Bytes l) (hn : l.length < 2 ^ 60) : Gives Try.prog F_crc_Holds [.isl .u8 (ints l)] (.bool (holdsN l)) := by
  refine i_crc_Holds (by simp) fun R hR => ?_
  have e : IntKind.i64.wrap ((l.length : Int) - 4) = (l.length : Int) - 4 := wrap_i64 (by omega)
  simp -implicitDefEqProofs [a_crc_Holds, q_crc_Holds_0, q_crc_Holds_1, q_crc_Holds_2, e]
  refine ⟨fun h => ?_, fun h => ?_⟩
  · simp -implicitDefEqProofs [q_crc_Holds_3]
    have : holdsN l = false := by simp [holdsN]; omega
    exact hR _ _ _ (by simp [a_crc_Holds, fpost, this])
  · have tn : ((l.length : Int) - 4).toNat = l.length - 4 := by omega
    have hl4 : 4 ≤ l.length := by omega
    have t2 : l.length - (l.length - 4) = 4 := by omega
    have t3 : List.take 4 (List.drop (l.length - 4) l) = List.drop (l.length - 4) l := List.take_of_length_le (by simp; omega)
    simp -implicitDefEqProofs [q_crc_Holds_4, tn, hl4, t2, t3, h]
    refine ⟨by omega, ?_⟩
    refine (w_crc_Of _ (bytes_take hl _) (by simp; omega)).call (.cons (.refl _) rfl .nil) rfl ?_
    simp -implicitDefEqProofs [Sub_refl]
    refine (w_crc_Four _ (moreN_lt (by decide) (bytes_take hl _))).call (.cons (.refl _) rfl .nil) rfl ?_
    simp -implicitDefEqProofs [Sub_refl]
    have he : eqI 4 (ints (fourN (moreN 0 (List.take (l.length - 4) l)))) (ints (List.drop (l.length - 4) l)) = holdsN l := by
      rw [eqI_ints (n := 4) rfl (by simp; omega)]
      simp -implicitDefEqProofs [holdsN, hl4]
    rw [he]
    exact hR _ _ _ (by simp [a_crc_Holds, fpost])
end Go.Proofs.Ytilgdnbijkcboaa

/- The plain law behind CrcTurns: the step is linear and loses nothing. -/
namespace Go.Proofs.Ytilgdnbijkcboaa
open Go AVL
set_option linter.unusedVariables false
set_option linter.unusedSimpArgs false
theorem xor_twice (a s : Nat) : a ^^^ (a ^^^ s) = s := by rw [← Nat.xor_assoc, Nat.xor_self, Nat.zero_xor]

theorem xor_half (a b : Nat) : (a ^^^ b) / 2 = a / 2 ^^^ b / 2 := by
  have := Nat.shiftRight_xor_distrib (a := a) (b := b) (i := 1)
  simpa [Nat.shiftRight_eq_div_pow] using this
theorem xor_par (a b : Nat) : (a ^^^ b) % 2 = (a + b) % 2 := by
  have h := Nat.testBit_xor a b 0
  rw [Nat.testBit_zero, Nat.testBit_zero, Nat.testBit_zero] at h
  rcases Nat.mod_two_eq_zero_or_one a with ha | ha <;> rcases Nat.mod_two_eq_zero_or_one b with hb | hb <;> rcases Nat.mod_two_eq_zero_or_one (a ^^^ b) with hc | hc <;> simp [ha, hb, hc] at h <;> omega
theorem step_lin (p a b : Nat) : (if (a ^^^ b) % 2 = 1 then (a ^^^ b) / 2 ^^^ p else (a ^^^ b) / 2) = (if a % 2 = 1 then a / 2 ^^^ p else a / 2) ^^^ (if b % 2 = 1 then b / 2 ^^^ p else b / 2) := by
  rw [xor_half, xor_par]
  rcases Nat.mod_two_eq_zero_or_one a with ha | ha <;> rcases Nat.mod_two_eq_zero_or_one b with hb | hb
  · have : (a + b) % 2 = 0 := by omega
    simp [ha, hb, this]
  · have : (a + b) % 2 = 1 := by omega
    simp [ha, hb, this, Nat.xor_assoc]
  · have : (a + b) % 2 = 1 := by omega
    simp [ha, hb, this, Nat.xor_assoc, Nat.xor_comm p]
  · have : (a + b) % 2 = 0 := by omega
    simp only [ha, hb, this, if_true]
    rw [if_neg (by decide)]
    have e : a / 2 ^^^ p ^^^ (b / 2 ^^^ p) = a / 2 ^^^ (p ^^^ (p ^^^ b / 2)) := by rw [Nat.xor_comm (b / 2) p, Nat.xor_assoc]
    rw [e, xor_twice]
theorem step1_xor (a b : Nat) : step1 (a ^^^ b) = step1 a ^^^ step1 b := by
  rw [step1.eq_1, step1.eq_1, step1.eq_1]; exact step_lin _ a b
theorem step1_even (x : Nat) : step1 (2 * x) = x := by
  rw [step1.eq_1, if_neg (by omega)]; omega
theorem steps_add : ∀ (m n r : Nat), steps (m + n) r = steps n (steps m r)
  | 0, n, r => by rw [Nat.zero_add]; rfl
  | m + 1, n, r => by rw [Nat.add_right_comm]; exact steps_add m n (step1 r)
theorem steps_xor : ∀ (n a b : Nat), steps n (a ^^^ b) = steps n a ^^^ steps n b
  | 0, a, b => rfl
  | n + 1, a, b => by simp only [steps]; rw [step1_xor]; exact steps_xor n _ _
theorem steps_pow : ∀ (n x : Nat), steps n (2 ^ n * x) = x
  | 0, x => by simp [steps]
  | n + 1, x => by
    simp only [steps]
    have : 2 ^ (n + 1) * x = 2 * (2 ^ n * x) := by rw [Nat.pow_succ]; simp [Nat.mul_comm, Nat.mul_left_comm]
    rw [this, step1_even]
    exact steps_pow n x
/-- The register behind bytes. -/
def reg (r : Nat) (l : List Nat) : Nat := l.foldl turnN r
theorem reg_append (r : Nat) (l m : List Nat) : reg r (l ++ m) = reg (reg r l) m := by simp [reg]
theorem moreN_reg (l : List Nat) : moreN 0 l = notN (reg 4294967295 l) := by
  rw [moreN.eq_1]
  congr 1
theorem holds_sealed (l : List Nat) : holdsN (l ++ fourN (moreN 0 l)) = true := by
  have h4 : (fourN (moreN 0 l)).length = 4 := rfl
  simp [holdsN, h4]
/-- One bit more of the mask. -/
theorem mask_step (mask k : Nat) : mask % 2 ^ (k + 1) = if mask / 2 ^ k % 2 = 1 then mask % 2 ^ k ^^^ 2 ^ k else mask % 2 ^ k := by
  apply Nat.eq_of_testBit_eq
  intro i
  have hb : mask.testBit k = decide (mask / 2 ^ k % 2 = 1) := Nat.testBit_eq_decide_div_mod_eq
  split
  · rename_i h
    rw [Nat.testBit_xor, Nat.testBit_mod_two_pow, Nat.testBit_mod_two_pow, Nat.testBit_two_pow]
    by_cases e : i = k
    · subst e; simp [hb, h]
    · have e2 : ¬ k = i := fun h => e h.symm
      have : (i < k + 1) = (i < k) := by apply propext; omega
      simp [e2, this]
  · rename_i h
    rw [Nat.testBit_mod_two_pow, Nat.testBit_mod_two_pow]
    by_cases e : i = k
    · subst e; simp [hb, h]
    · have : (i < k + 1) = (i < k) := by apply propext; omega
      simp [this]
end Go.Proofs.Ytilgdnbijkcboaa

/- The walk of the reference's bits. -/
namespace Go.Proofs.Ytilgdnbijkcboaa
open Go AVL
set_option linter.unusedVariables false
set_option linter.unusedSimpArgs false

def rawb (l : List Nat) (p : Nat) : Nat := l[p / 8]?.getD 0 / 2 ^ (p % 8) % 2
def rawbits (l : List Nat) (n : Nat) : List Nat := (List.range n).map (rawb l)
theorem rawbits_succ (l : List Nat) (n : Nat) : rawbits l (n + 1) = rawbits l n ++ [rawb l n] := by simp [rawbits, List.range_succ]
@[simp] theorem rawbits_length (l : List Nat) (n : Nat) : (rawbits l n).length = n := by simp [rawbits]
/-- A row of bytes that grows. -/
def Row (v : AV) (B : Heap) (xs : List Nat) : Prop := (xs = [] ∧ v = .nilS ∧ B = H0) ∨ ∃ g, v = .own g 0 xs.length ∧ B = H0.set g (.irow 5 .u8 (ints xs))

theorem w_ref02_bits (l : List Nat) (hl : Bytes l) (hn : l.length < 2 ^ 20) : SimX Try.prog F_ref02_bits [.isl .u8 (ints l)] H0 (fun o A' => ∃ v, o = .ret v ∧ Row v A' (rawbits l (8 * l.length))) := by
  refine i_ref02_bits (by simp) fun R hR => ?_
  simp -implicitDefEqProofs [a_ref02_bits, q_ref02_bits_0, q_ref02_bits_1, q_ref02_bits_2]
  refine X_loopS (fun (i : Nat) env B => i ≤ l.length ∧ env 0 = .isl .u8 (ints l) ∧ env 4 = .int .i64 i ∧ Row (env 3) B (rawbits l (8 * i))) (fun i => l.length - i) 0 H0 (Sub_refl _)
    ⟨by simp, by simp, by simp, .inl ⟨rfl, by simp, rfl⟩⟩ ?_
  rintro R' i env B ⟨h1, h2, h3, h4⟩ hN hE
  simp -implicitDefEqProofs [q_ref02_bits_L9, q_ref02_bits_3, h2, h3]
  refine ⟨fun hi => ?_, fun hi => ?_⟩
  · simp -implicitDefEqProofs [q_ref02_bits_4]
    refine X_loopS (fun (k : Nat) env B => k ≤ 8 ∧ env 0 = .isl .u8 (ints l) ∧ env 4 = .int .i64 i ∧ env 5 = .int .i64 k ∧ Row (env 3) B (rawbits l (8 * i + k))) (fun k => 8 - k) 0 B (Sub_refl _)
      ⟨by simp, by simp [h2], by simp [h3], by simp, by simpa using h4⟩ ?_
    rintro R2 k env B_ ⟨k1, k2, k3, k4, k5⟩ kN kE
    simp -implicitDefEqProofs [q_ref02_bits_L8, q_ref02_bits_5, k4]
    refine ⟨fun hk => ?_, fun hk => ?_⟩
    · have hd : (8 * i + k) / 8 = i := by omega
      have hm : (8 * i + k) % 8 = k := by omega
      have hx : l[i] < 256 := hl _ (List.getElem_mem hi)
      have hr : rawb l (8 * i + k) = l[i] / 2 ^ k % 2 := by simp [rawb, hd, hm, List.getElem?_eq_getElem hi]
      have s1 : shrI .u8 ((l[i] : Nat) : Int) (k : Int) = ((l[i] / 2 ^ k : Nat) : Int) := by rw [shrI_nat]; congr 3; simp [IntKind.bits]; omega
      have s2 : bAnd .u8 ((l[i] / 2 ^ k : Nat) : Int) 1 = ((rawb l (8 * i + k) : Nat) : Int) := by
        have := bAnd_nat (k := .u8) rfl (a := l[i] / 2 ^ k) (by have := Nat.div_le_self l[i] (2 ^ k); simp [IntKind.bits]; omega) (b := 1) (by decide)
        rw [Nat.and_one_is_mod] at this; rw [hr]; exact this
      have s3 : IntKind.u64.wrap (k : Int) = k := wrap_u64 (by omega)
      have s4 : IntKind.i64.wrap ((k : Int) + 1) = ((k + 1 : Nat) : Int) := by rw [wrap_i64 (by omega)]; simp
      have hs : rawbits l (8 * i + (k + 1)) = rawbits l (8 * i + k) ++ [rawb l (8 * i + k)] := rawbits_succ l _
      rcases k5 with ⟨e1, e2, rfl⟩ | ⟨g, e2, rfl⟩
      · simp -implicitDefEqProofs +contextual [q_ref02_bits_6, k2, k3, k4, e2, hi, s1, s2, s3, -Int.natCast_ediv, -Int.natCast_emod, -Int.natCast_pow]
        intro g1 g2 _ _
        simp -implicitDefEqProofs [q_ref02_bits_7, k4, s4, -Int.natCast_add]
        refine kN (k + 1) _ _ (H0.set g2 (.irow 5 .u8 (ints (rawbits l (8 * i + (k + 1)))))) ?_ ⟨by omega, by simp [k2], by simp [k3], by simp, .inr ⟨g2, ?_, rfl⟩⟩ (by omega)
        · rw [hs, e1]; exact set_sub (H0_sub _)
        · simp [hs, e1]
      · simp -implicitDefEqProofs +contextual [q_ref02_bits_6, k2, k3, k4, e2, hi, s1, s2, s3, -Int.natCast_ediv, -Int.natCast_emod, -Int.natCast_pow]
        intro g1 _ _
        refine ⟨by omega, fun g2 _ _ _ _ => ?_⟩
        simp -implicitDefEqProofs [q_ref02_bits_7, k4, s4, -Int.natCast_add]
        refine kN (k + 1) _ _ (H0.set g2 (.irow 5 .u8 (ints (rawbits l (8 * i + (k + 1)))))) ?_ ⟨by omega, by simp [k2], by simp [k3], by simp, .inr ⟨g2, ?_, rfl⟩⟩ (by omega)
        · have : List.take (8 * i + k) (rawbits l (8 * i + k)) = rawbits l (8 * i + k) := List.take_of_length_le (by simp)
          rw [hs, this, ← ints_append]; exact set_sub (H0_sub _)
        · simp [hs]
    · refine kE _ _ _ (by simp) ?_
      have hk8 : k = 8 := by omega
      subst hk8
      have s4 : IntKind.i64.wrap ((i : Int) + 1) = ((i + 1 : Nat) : Int) := by rw [wrap_i64 (by omega)]; simp
      simp -implicitDefEqProofs [q_ref02_bits_8, k3, s4, -Int.natCast_add]
      exact hN (i + 1) _ _ B_ (Sub_refl _) ⟨hi, by simp [k2], by simp, by simpa [Nat.mul_add] using k5⟩ (by omega)
  · refine hE _ _ _ (by simp) ?_
    have : i = l.length := by omega
    subst this
    simp -implicitDefEqProofs [q_ref02_bits_9]
    refine hR _ _ _ ?_
    simp [a_ref02_bits, fpost]
    exact ⟨B, Sub_refl _, h4⟩
end Go.Proofs.Ytilgdnbijkcboaa

/- The plain law behind CrcSums: the division's window is the register. -/
namespace Go.Proofs.Ytilgdnbijkcboaa
open Go AVL
set_option linter.unusedVariables false
set_option linter.unusedSimpArgs false

/-- The register, bit by bit. -/
def rb (l : List Nat) : Nat → Nat
  | 0 => 4294967295
  | i + 1 => step1 (rb l i ^^^ rawb l i)
theorem rawb_lt (l : List Nat) (p : Nat) : rawb l p < 2 := Nat.mod_lt _ (by decide)
theorem rb_lt (l : List Nat) : ∀ i, rb l i < 2 ^ 32
  | 0 => by simp [rb]
  | i + 1 => step1_lt (Nat.xor_lt_two_pow (rb_lt l i) (by have := rawb_lt l i; omega))
theorem rb_byte (l : List Nat) (j : Nat) : ∀ t, t ≤ 8 → rb l (8 * j + t) = steps t (rb l (8 * j) ^^^ (l[j]?.getD 0 % 2 ^ t))
  | 0, _ => by simp [steps, Nat.mod_one]
  | t + 1, h => by
    have ih := rb_byte l j t (by omega)
    have hd : (8 * j + t) / 8 = j := by omega
    have hm : (8 * j + t) % 8 = t := by omega
    have e1 : rb l (8 * j + (t + 1)) = step1 (rb l (8 * j + t) ^^^ rawb l (8 * j + t)) := rfl
    have hraw : rawb l (8 * j + t) = l[j]?.getD 0 / 2 ^ t % 2 := by simp [rawb, hd, hm]
    rw [e1, ih, hraw]
    generalize l[j]?.getD 0 = c
    have hp := steps_pow t (c / 2 ^ t % 2)
    have e2 : steps t (rb l (8 * j) ^^^ c % 2 ^ t) ^^^ (c / 2 ^ t % 2) = steps t (rb l (8 * j) ^^^ c % 2 ^ t ^^^ 2 ^ t * (c / 2 ^ t % 2)) := by rw [steps_xor t _ (2 ^ t * _), hp]
    rw [e2]
    have e3 : ∀ x, step1 (steps t x) = steps (t + 1) x := fun x => by rw [steps_add]; rfl
    rw [e3, mask_step, Nat.xor_assoc]
    congr 2
    rcases Nat.mod_two_eq_zero_or_one (c / 2 ^ t) with h0 | h0
    · simp [h0]
    · simp [h0]
theorem rb_reg (l : List Nat) (hl : Bytes l) : ∀ j, j ≤ l.length → rb l (8 * j) = reg 4294967295 (l.take j)
  | 0, _ => rfl
  | j + 1, h => by
    have ih := rb_reg l hl j (by omega)
    have hb := rb_byte l j 8 (Nat.le_refl _)
    have hc : l[j]?.getD 0 = l[j] := by rw [List.getElem?_eq_getElem (by omega)]; rfl
    have hlt : l[j] < 256 := hl _ (List.getElem_mem (by omega))
    rw [show 8 * (j + 1) = 8 * j + 8 by omega, hb, ih, hc, Nat.mod_eq_of_lt (by omega), List.take_add_one, reg_append]
    rw [List.getElem?_eq_getElem (by omega)]
    rfl

def bt (r j : Nat) : Nat := (r.testBit j).toNat
theorem bt_lt (r j : Nat) : bt r j < 2 := by unfold bt; cases r.testBit j <;> decide
theorem bt_xor (a b j : Nat) : bt (a ^^^ b) j = bt a j ^^^ bt b j := by
  unfold bt
  rw [Nat.testBit_xor]
  cases a.testBit j <;> cases b.testBit j <;> rfl
theorem bt_half (a j : Nat) : bt (a / 2) j = bt a (j + 1) := by
  unfold bt; rw [Nat.testBit_add_one]
theorem bt_zero (a : Nat) : bt a 0 = a % 2 := by
  unfold bt
  rw [Nat.testBit_zero]
  rcases Nat.mod_two_eq_zero_or_one a with h | h <;> simp [h]
theorem bt_big {r j : Nat} (h : r < 2 ^ 32) (hj : 32 ≤ j) : bt r j = 0 := by
  unfold bt
  rw [Nat.testBit_lt_two_pow (Nat.lt_of_lt_of_le h (Nat.pow_le_pow_right (by decide) hj))]
  rfl
def poly : List Nat := [1, 0, 0, 0, 0, 0, 1, 0, 0, 1, 1, 0, 0, 0, 0, 0, 1, 0, 0, 0, 1, 1, 1, 0, 1, 1, 0, 1, 1, 0, 1, 1, 1]
theorem poly_bt : ∀ j, j < 32 → poly[j + 1]?.getD 0 = bt 3988292384 j := by decide
/-- One step of the division, seen at a place behind it. -/
theorem div_bit (l : List Nat) (i j : Nat) : bt (rb l (i + 1)) j = bt (rb l i) (j + 1) ^^^ (if (bt (rb l i) 0 ^^^ rawb l i) = 1 then bt 3988292384 j else 0) := by
  have hr := rawb_lt l i
  have e1 : rb l (i + 1) = step1 (rb l i ^^^ rawb l i) := rfl
  have h2 : rawb l i / 2 = 0 := by omega
  have hpar : (rb l i ^^^ rawb l i) % 2 = bt (rb l i) 0 ^^^ rawb l i := by
    rw [← bt_zero, bt_xor]
    congr 1
    rw [bt_zero]; omega
  rw [e1, step1.eq_1, hpar]
  split
  · rw [bt_xor, xor_half, h2, Nat.xor_zero, bt_half]
  · rw [xor_half, h2, Nat.xor_zero, bt_half, Nat.xor_zero]
end Go.Proofs.Ytilgdnbijkcboaa

/- Tables, and calls that return rows. -/
namespace Go.Proofs.Ytilgdnbijkcboaa
open Go AVL
set_option linter.unusedVariables false
set_option linter.unusedSimpArgs false

def tab (M : Nat) (F : Nat → Nat) : List Nat := (List.range M).map F
@[simp] theorem tab_length (M : Nat) (F : Nat → Nat) : (tab M F).length = M := by simp [tab]
theorem tab_get {M : Nat} {F : Nat → Nat} {p : Nat} (h : p < (tab M F).length) : (tab M F)[p] = F p := by simp [tab]
theorem tab_set (M : Nat) (F : Nat → Nat) (p v : Nat) : (tab M F).set p v = tab M (fun q => if q = p then v else F q) := by
  apply List.ext_getElem
  · simp
  · intro q h1 h2
    rw [List.getElem_set, tab_get, tab_get]
    by_cases e : p = q
    · subst e; simp
    · have : ¬ q = p := fun h => e h.symm
      simp [e, this]
theorem tab_ext {M : Nat} {F G : Nat → Nat} (h : ∀ p, p < M → F p = G p) : tab M F = tab M G :=
  List.map_congr_left fun p hp => h p (List.mem_range.1 hp)
theorem rawb_out (l : List Nat) {p : Nat} (h : 8 * l.length ≤ p) : rawb l p = 0 := by
  have : l.length ≤ p / 8 := by omega
  simp [rawb, List.getElem?_eq_none this]
theorem raw_tab (l : List Nat) (z : Nat) : rawbits l (8 * l.length) ++ List.replicate z 0 = tab (8 * l.length + z) (rawb l) := by
  apply List.ext_getElem
  · simp
  · intro p h1 h2
    rw [tab_get]
    by_cases h : p < 8 * l.length
    · rw [List.getElem_append_left (by simpa using h)]
      simp [rawbits]
    · rw [List.getElem_append_right (by simp; omega), rawb_out l (by omega)]
      simp
/-- One bit more. -/
theorem mask_or (r k : Nat) : r % 2 ^ k ||| bt r k * 2 ^ k = r % 2 ^ (k + 1) := by
  apply Nat.eq_of_testBit_eq
  intro i
  rw [Nat.testBit_or, Nat.testBit_mod_two_pow, Nat.testBit_mod_two_pow]
  have hb : (bt r k * 2 ^ k).testBit i = (decide (i = k) && r.testBit k) := by
    unfold bt
    cases hk : r.testBit k with
    | false => simp
    | true =>
      simp only [Bool.toNat_true, Nat.one_mul, Nat.testBit_two_pow, Bool.and_true]
      by_cases e : k = i
      · subst e; simp
      · have : ¬ i = k := fun h => e h.symm
        simp [e, this]
  rw [hb]
  by_cases e : i = k
  · subst e; simp
  · have : (i < k + 1) = (i < k) := by apply propext; omega
    simp [e, this]
theorem call_row {P : Program} {f : FuncId} {args args' : List AV} {xs : List Nat} {A : Heap} {K Kp : AV → Heap → Prop} (h : SimX P f args' H0 (fun o A' => ∃ v, o = .ret v ∧ Row v A' xs)) (hv : VwL A args args')
    (h0 : xs = [] → K .nilS A) (hk : ∀ g, A g = none → K (.own g 0 xs.length) (A.set g (.irow 5 .u8 (ints xs)))) : SimX P f args A (outK K Kp) := by
  refine SimX.view h hv ?_ ?_
  · rintro o B ⟨v, rfl, ⟨h1, rfl, rfl⟩ | ⟨g, rfl, rfl⟩⟩
    · exact ⟨rfl, fun g c hc => by cases hc⟩
    · refine ⟨rfl, fun g' c' hc => ?_⟩
      rw [set_app] at hc
      split at hc
      · injection hc with hc; subst hc; rfl
      · cases hc
  · rintro o B ⟨v, rfl, ⟨h1, rfl, rfl⟩ | ⟨g, rfl, rfl⟩⟩ hd
    · rw [join_H0]; exact h0 h1
    · have := hd g (.irow 5 .u8 (ints xs)) (by simp)
      rw [join_set A this]; exact hk g this
end Go.Proofs.Ytilgdnbijkcboaa
