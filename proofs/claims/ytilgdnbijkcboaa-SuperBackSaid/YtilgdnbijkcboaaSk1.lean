/- Texts of this claim, in order: Fn Gword SWb SMh0 Gslot SZa SZb SZc SZd SZe SZf SZg SMi SMj Sb Gplan SPa Gsuper. -/
import Derived.Test.YtilgdnbijkcboaaL4
import Derived.Test.YtilgdnbijkcboaaProg
import Derived.KernelRfl
/- The numbers of functions and types, by name. -/
namespace Go.Proofs.Ytilgdnbijkcboaa
open Go AVL
set_option linter.unusedVariables false
set_option maxRecDepth 20000

abbrev F_law11_TableDoes : FuncId := 3
abbrev F_law11_TableOne : FuncId := 4
abbrev F_law11_TableForgets : FuncId := 5
abbrev F_law11_TableReads : FuncId := 6
abbrev F_law08_SuperPuts : FuncId := 7
abbrev F_law08_SuperBack : FuncId := 8
abbrev F_law08_SuperBumps : FuncId := 9
abbrev F_law12_ShelfBack : FuncId := 10
abbrev F_law12_ShelfReads : FuncId := 11
abbrev F_law12_ShelfForgets : FuncId := 12
abbrev F_law11_works : FuncId := 13
abbrev F_law11_made : FuncId := 14
abbrev F_law11_size : FuncId := 15
abbrev F_Ptable_Table_Size : FuncId := 16
abbrev F_Ptable_Table_Get : FuncId := 17
abbrev F_ref11_Find : FuncId := 18
abbrev F_Ptable_Table_Slot : FuncId := 19
abbrev F_ref11_Same : FuncId := 20
abbrev F_Ptable_Table_Places : FuncId := 21
abbrev F_ref11_Places : FuncId := 22
abbrev F_Ptable_Table_Put : FuncId := 23
abbrev F_Ptable_Table_Drop : FuncId := 24
abbrev F_table_Of : FuncId := 25
abbrev F_ref11_Entries : FuncId := 26
abbrev F_Ptable_Table_Copy : FuncId := 27
abbrev F_Ptable_Table_Len : FuncId := 28
abbrev F_Ptable_Table_Longest : FuncId := 29
abbrev F_super_Put : FuncId := 30
abbrev F_ref08_Put : FuncId := 31
abbrev F_super_Get : FuncId := 32
abbrev F_ref08_Get : FuncId := 33
abbrev F_super_Choose : FuncId := 34
abbrev F_ref08_Choose : FuncId := 35
abbrev F_law08_works : FuncId := 36
abbrev F_disk_New : FuncId := 37
abbrev F_Pdisk_Disk_Write : FuncId := 38
abbrev F_Pdisk_Disk_Flush : FuncId := 39
abbrev F_Pdisk_Disk_Fuse : FuncId := 40
abbrev F_super_Bump : FuncId := 41
abbrev F_Pdisk_Disk_Crash : FuncId := 42
abbrev F_super_Read : FuncId := 43
abbrev F_law12_works : FuncId := 44
abbrev F_table_New : FuncId := 45
abbrev F_ref11_Put : FuncId := 46
abbrev F_shelf_Put : FuncId := 47
abbrev F_shelf_Changes : FuncId := 48
abbrev F_ref06_SameImage : FuncId := 49
abbrev F_ref12_Sectors : FuncId := 50
abbrev F_shelf_Get : FuncId := 51
abbrev F_ref12_Read : FuncId := 52
abbrev F_law11_at : FuncId := 53
abbrev F_ref11_Drop : FuncId := 54
abbrev F_Ptable_Table_find : FuncId := 55
abbrev F_ref11_lay : FuncId := 56
abbrev F_digest_Home : FuncId := 57
abbrev F_Ptable_Table_yields : FuncId := 58
abbrev F_Ptable_Table_far : FuncId := 59
abbrev F_plan_Check : FuncId := 60
abbrev F_super_mark : FuncId := 61
abbrev F_word_Put : FuncId := 62
abbrev F_word_Whole : FuncId := 63
abbrev F_crc_Sealed : FuncId := 64
abbrev F_ref07_Check : FuncId := 65
abbrev F_ref01_Put : FuncId := 66
abbrev F_ref08_Sealed : FuncId := 67
abbrev F_crc_Holds : FuncId := 68
abbrev F_word_From : FuncId := 69
abbrev F_Pword_Cursor_Num : FuncId := 70
abbrev F_Pword_Cursor_Rest : FuncId := 71
abbrev F_ref01_Get : FuncId := 72
abbrev F_ref08_num : FuncId := 73
abbrev F_Pdisk_Disk_Waits : FuncId := 74
abbrev F_Pdisk_Disk_inside : FuncId := 75
abbrev F_Pdisk_Disk_step : FuncId := 76
abbrev F_Pdisk_Disk_settle : FuncId := 77
abbrev F_Pdisk_Disk_Flush_1 : FuncId := 78
abbrev F_Pdisk_Disk_Crash_1 : FuncId := 79
abbrev F_Pdisk_Disk_Read : FuncId := 80
abbrev F_ref11_right : FuncId := 81
abbrev F_ref11_less : FuncId := 82
abbrev F_shelf_sector : FuncId := 83
abbrev F_shelf_entries : FuncId := 84
abbrev F_ref12_one : FuncId := 85
abbrev F_ref03_Home : FuncId := 86
abbrev F_ref11_goes : FuncId := 87
abbrev F_digest_Less : FuncId := 88
abbrev F_crc_Four : FuncId := 89
abbrev F_crc_Of : FuncId := 90
abbrev F_ref07_right : FuncId := 91
abbrev F_ref02_Of : FuncId := 92
abbrev F_word_Get : FuncId := 93
abbrev F_Pword_Cursor_Bytes : FuncId := 94
abbrev F_word_Zero : FuncId := 95
abbrev F_shelf_entry : FuncId := 96
abbrev F_ref11_far : FuncId := 97
abbrev F_crc_More : FuncId := 98
abbrev F_ref02_bits : FuncId := 99
abbrev F_crc_turn : FuncId := 100
abbrev F_Pruntime_TypeAssertionError_Error : FuncId := 109
abbrev F_Pruntime_TypeAssertionError_RuntimeError : FuncId := 110
abbrev F_Pruntime_PanicNilError_Error : FuncId := 111
abbrev F_Pruntime_PanicNilError_RuntimeError : FuncId := 112
abbrev F_Pinternal_abi_Type_Align : FuncId := 113
abbrev F_internal_runtime_maps_unhashableTypeError_Error : FuncId := 114
abbrev F_internal_runtime_maps_unhashableTypeError_RuntimeError : FuncId := 115
abbrev F_Pdisk_Disk_Down : FuncId := 116
abbrev F_internal_abi_Kind_String : FuncId := 117
abbrev T_fno_c : TypeId := 1
abbrev T_int64 : TypeId := 2
abbrev T_int : TypeId := 3
abbrev T_bool : TypeId := 4
abbrev T_uint8 : TypeId := 5
abbrev T_string : TypeId := 9
abbrev T_uintptr : TypeId := 12
abbrev T_P_runtime_TypeAssertionError : TypeId := 15
abbrev T_P_runtime_PanicNilError : TypeId := 16
abbrev T_P_abi_Type : TypeId := 17
abbrev T_interface : TypeId := 20
abbrev T_int32 : TypeId := 21
abbrev T_L_law11_Op : TypeId := 22
abbrev T_32_uint8 : TypeId := 23
abbrev T_fno_c_bool : TypeId := 24
abbrev T_P_table_Table : TypeId := 25
abbrev T_L_api_Entry : TypeId := 26
abbrev T_P_table_Table_L_api_Entry_bool : TypeId := 27
abbrev T_fno_uint8_c_int : TypeId := 29
abbrev T_fno_c_int : TypeId := 30
abbrev T_api_Entry : TypeId := 32
abbrev T_api_Entry_bool : TypeId := 33
abbrev T_fno_32_uint8_c_o_api_Entry_bool_c : TypeId := 34
abbrev T_fno_L_api_Entry_32_uint8_c_int : TypeId := 35
abbrev T_fno_int_c_o_api_Entry_bool_c : TypeId := 36
abbrev T_fno_uint8_L_law11_Op_32_uint8_int_c_bool : TypeId := 37
abbrev T_fno_L_api_Entry_L_api_Entry_c_bool : TypeId := 38
abbrev T_fno_c_L_api_Entry : TypeId := 39
abbrev T_fno_L_api_Entry_int_c_L_api_Entry : TypeId := 40
abbrev T_fno_uint8_L_law11_Op_c_bool : TypeId := 41
abbrev T_api_Code : TypeId := 42
abbrev T_fno_api_Entry_c_api_Code : TypeId := 43
abbrev T_fno_32_uint8_c_api_Code : TypeId := 44
abbrev T_fno_uint8_L_law11_Op_L_api_Entry_uint8_c_bool : TypeId := 45
abbrev T_P_table_Table_bool : TypeId := 46
abbrev T_fno_L_api_Entry_c_o_P_table_Table_bool_c : TypeId := 47
abbrev T_L_api_Entry_bool : TypeId := 48
abbrev T_fno_L_api_Entry_c_o_L_api_Entry_bool_c : TypeId := 49
abbrev T_fno_c_P_table_Table : TypeId := 50
abbrev T_fno_L_api_Entry_api_Entry_c_bool : TypeId := 51
abbrev T_api_Plan : TypeId := 53
abbrev T_256_uint8 : TypeId := 54
abbrev T_256_uint8_api_Code : TypeId := 55
abbrev T_fno_super_Super_c_o_256_uint8_api_Code_c : TypeId := 56
abbrev T_super_Super : TypeId := 58
abbrev T_fno_ref08_Super_c_o_256_uint8_api_Code_c : TypeId := 59
abbrev T_ref08_Super : TypeId := 60
abbrev T_super_Super_api_Code : TypeId := 61
abbrev T_fno_256_uint8_c_o_super_Super_api_Code_c : TypeId := 62
abbrev T_ref08_Super_api_Code : TypeId := 63
abbrev T_fno_256_uint8_c_o_ref08_Super_api_Code_c : TypeId := 64
abbrev T_super_Super_int_api_Code : TypeId := 65
abbrev T_fno_256_uint8_256_uint8_c_o_super_Super_int_api_Code_c : TypeId := 66
abbrev T_ref08_Super_int_api_Code : TypeId := 67
abbrev T_fno_api_Plan_int_256_uint8_256_uint8_c_bool : TypeId := 69
abbrev T_uint16 : TypeId := 70
abbrev T_uint32 : TypeId := 71
abbrev T_uint : TypeId := 72
abbrev T_fno_api_Plan_int_uint16_uint32_c_bool : TypeId := 73
abbrev T_L_uint8 : TypeId := 74
abbrev T_L_bool : TypeId := 75
abbrev T_P_disk_Disk : TypeId := 76
abbrev T_P_disk_Disk_api_Code : TypeId := 77
abbrev T_fno_int_c_o_P_disk_Disk_api_Code_c : TypeId := 78
abbrev T_fno_int_256_uint8_c_api_Code : TypeId := 79
abbrev T_fno_c_api_Code : TypeId := 80
abbrev T_fno_int_c : TypeId := 81
abbrev T_fno_P_disk_Disk_c_o_super_Super_api_Code_c : TypeId := 82
abbrev T_fno_L_bool_c_int : TypeId := 83
abbrev T_fno_P_disk_Disk_c_o_super_Super_int_api_Code_c : TypeId := 84
abbrev T_fno_api_Plan_int_L_uint8_L_bool_c_bool : TypeId := 85
abbrev T_P_table_Table_api_Code : TypeId := 86
abbrev T_fno_int_c_o_P_table_Table_api_Code_c : TypeId := 87
abbrev T_L_api_Entry_api_Code : TypeId := 88
abbrev T_fno_L_api_Entry_int_api_Entry_c_o_L_api_Entry_api_Code_c : TypeId := 89
abbrev T_L_256_uint8 : TypeId := 90
abbrev T_L_256_uint8_api_Code : TypeId := 91
abbrev T_fno_P_table_Table_c_o_L_256_uint8_api_Code_c : TypeId := 92
abbrev T_L_api_Change : TypeId := 93
abbrev T_L_api_Change_api_Code : TypeId := 94
abbrev T_fno_P_table_Table_int_c_o_L_api_Change_api_Code_c : TypeId := 95
abbrev T_fno_L_256_uint8_L_256_uint8_c_bool : TypeId := 96
abbrev T_fno_L_api_Entry_c_L_256_uint8 : TypeId := 97
abbrev T_api_Change : TypeId := 99
abbrev T_fno_L_256_uint8_c_o_P_table_Table_api_Code_c : TypeId := 100
abbrev T_fno_L_api_Entry_uint8_int_c_bool : TypeId := 101
abbrev T_fno_L_256_uint8_c_o_L_api_Entry_bool_c : TypeId := 102
abbrev T_fno_L_256_uint8_c_bool : TypeId := 103
abbrev T_fno_uint8_uint8_c_32_uint8 : TypeId := 104
abbrev T_law11_Op : TypeId := 106
abbrev T_fno_L_api_Entry_32_uint8_c_o_L_api_Entry_api_Code_c : TypeId := 107
abbrev T_table_Table : TypeId := 109
abbrev T_fno_32_uint8_c_int : TypeId := 110
abbrev T_fno_L_api_Entry_api_Entry_c_L_api_Entry : TypeId := 111
abbrev T_fno_32_uint8_int_c_int : TypeId := 112
abbrev T_fno_int_32_uint8_int_c_bool : TypeId := 113
abbrev T_fno_int_c_int : TypeId := 114
abbrev T_fno_api_Plan_c_api_Code : TypeId := 115
abbrev T_8_uint8 : TypeId := 116
abbrev T_fno_c_8_uint8 : TypeId := 117
abbrev T_4_int : TypeId := 118
abbrev T_fno_uint64_int_c_L_uint8 : TypeId := 119
abbrev T_uint64 : TypeId := 120
abbrev T_fno_L_uint8_c_256_uint8 : TypeId := 121
abbrev T_fno_L_uint8_c_L_uint8 : TypeId := 122
abbrev T_fno_L_uint8_c_bool : TypeId := 123
abbrev T_P_word_Cursor : TypeId := 124
abbrev T_fno_L_uint8_c_P_word_Cursor : TypeId := 125
abbrev T_fno_int_c_uint64 : TypeId := 126
abbrev T_fno_L_uint8_c_uint64 : TypeId := 127
abbrev T_fno_256_uint8_int_c_int : TypeId := 128
abbrev T_map_int_256_uint8 : TypeId := 129
abbrev T_L_disk_write : TypeId := 130
abbrev T_disk_Disk : TypeId := 132
abbrev T_fno_int_c_bool : TypeId := 133
abbrev T_disk_write : TypeId := 135
abbrev T_fno_funco_int_c_bool_c_int : TypeId := 136
abbrev T_fno_int_c_o_256_uint8_api_Code_c : TypeId := 137
abbrev T_fno_api_Entry_c_bool : TypeId := 138
abbrev T_fno_32_uint8_32_uint8_c_bool : TypeId := 139
abbrev T_fno_L_api_Entry_c_256_uint8 : TypeId := 140
abbrev T_fno_256_uint8_c_o_L_api_Entry_bool_c : TypeId := 141
abbrev T_fno_256_uint8_int_c_api_Entry : TypeId := 142
abbrev T_fno_32_uint8_32_uint8_int_int_c_bool : TypeId := 143
abbrev T_2_int : TypeId := 144
abbrev T_4_2_int : TypeId := 145
abbrev T_4_uint8 : TypeId := 146
abbrev T_fno_uint32_c_4_uint8 : TypeId := 147
abbrev T_fno_L_uint8_c_uint32 : TypeId := 148
abbrev T_fno_api_Plan_c_bool : TypeId := 149
abbrev T_word_Cursor : TypeId := 151
abbrev T_fno_int_c_L_uint8 : TypeId := 152
abbrev T_256_uint8_bool : TypeId := 153
abbrev T_fno_api_Entry_c_L_uint8 : TypeId := 154
abbrev T_fno_32_uint8_int_int_c_int : TypeId := 155
abbrev T_fno_uint32_L_uint8_c_uint32 : TypeId := 156
abbrev T_fno_uint32_uint8_c_uint32 : TypeId := 157
abbrev T_fno_c_string : TypeId := 158
abbrev T_0_P_runtime_PanicNilError : TypeId := 161
abbrev T_fno_unsafe_Pointer_unsafe_Pointer_c_bool : TypeId := 166
abbrev T_P_uint8 : TypeId := 167
end Go.Proofs.Ytilgdnbijkcboaa

/- Abstract programs; that they are the program's. -/
namespace Go.Proofs.Ytilgdnbijkcboaa
open Go AVL
set_option linter.unusedVariables false
set_option maxRecDepth 20000

def q_word_Get_0 : List AOper := [
  ⟨(some 2), (.mv (.v (.int .u64 0))), none⟩]
def q_word_Get_1 : List AOper := [
  ⟨(some 3), (.mv (.v (.int .u64 0))), none⟩]
def q_word_Get_2 : List AOper := [
  ⟨(some 5), (.mv (.t 0)), none⟩,
  ⟨(some 6), (.len false (.t 5)), none⟩,
  ⟨(some 7), (.xx (.p (.mnI false)) [(.t 6), (.v (.int .i64 8))]), none⟩,
  ⟨(some 8), (.bin .sub (.t 7) (.v (.int .i64 1))), none⟩,
  ⟨(some 4), (.mv (.t 8)), none⟩]
def q_word_Get_3 : List AOper := [
  ⟨(some 9), (.mv (.t 4)), none⟩,
  ⟨(some 10), (.bin .geq (.t 9) (.v (.int .i64 0))), none⟩]
def q_word_Get_4 : List AOper := [
  ⟨(some 13), (.mv (.t 3)), none⟩,
  ⟨(some 14), (.bin .shl (.t 13) (.v (.int .u64 8))), none⟩,
  ⟨(some 15), (.mv (.t 0)), none⟩,
  ⟨(some 16), (.mv (.t 4)), none⟩,
  ⟨(some 17), (.idx 1 (.t 15) (.t 16)), none⟩,
  ⟨(some 18), (.load .sc 1 (.t 17)), none⟩,
  ⟨(some 19), (.conv .u64 (.t 18)), none⟩,
  ⟨(some 20), (.bin .or (.t 14) (.t 19)), none⟩,
  ⟨(some 3), (.mv (.t 20)), none⟩]
def q_word_Get_5 : List AOper := [
  ⟨(some 11), (.mv (.t 4)), none⟩,
  ⟨(some 12), (.bin .sub (.t 11) (.v (.int .i64 1))), none⟩,
  ⟨(some 4), (.mv (.t 12)), none⟩]
def q_word_Get_L6 : ACode := (.seq (.seq (.region q_word_Get_3) (.cond (.t 10) .skip (.exit 0))) (.seq (.block 1 (.region q_word_Get_4)) (.region q_word_Get_5)))
def q_word_Get_6 : List AOper := [
  ⟨(some 21), (.mv (.t 3)), none⟩,
  ⟨(some 2), (.mv (.t 21)), none⟩]
def a_word_Get : AFunc := ⟨[(.tmp 2)], (.seq (.region q_word_Get_0) (.seq (.region q_word_Get_1) (.seq (.seq (.region q_word_Get_2) (.block 0 (.loop q_word_Get_L6))) (.seq (.region q_word_Get_6) .ret))))⟩

def q_word_Put_0 : List AOper := [
  ⟨(some 4), (.mv (.v .nilS)), none⟩]
def q_word_Put_1 : List AOper := [
  ⟨(some 7), (.mv (.t 1)), none⟩,
  ⟨(some 8), (.xx (.p (.mnI true)) [(.t 7), (.v (.int .i64 0))]), none⟩,
  ⟨(some 9), (.mkI 5 .u8 1 (.t 8) (.t 8)), none⟩,
  ⟨(some 5), (.mv (.t 9)), none⟩]
def q_word_Put_2 : List AOper := [
  ⟨(some 10), (.mv (.t 5)), none⟩,
  ⟨(some 11), (.len false (.t 10)), none⟩,
  ⟨(some 12), (.mv (.v (.int .i64 0))), none⟩]
def q_word_Put_3 : List AOper := [
  ⟨(some 13), (.bin .lss (.t 12) (.t 11)), none⟩]
def q_word_Put_4 : List AOper := [
  ⟨(some 14), (.mv (.t 12)), none⟩,
  ⟨(some 6), (.mv (.t 14)), none⟩]
def q_word_Put_5 : List AOper := [
  ⟨(some 15), (.mv (.t 6)), none⟩,
  ⟨(some 16), (.bin .lss (.t 15) (.v (.int .i64 8))), none⟩]
def q_word_Put_6 : List AOper := [
  ⟨(some 17), (.mv (.t 5)), none⟩,
  ⟨(some 18), (.mv (.t 6)), none⟩,
  ⟨(some 19), (.mv (.t 0)), none⟩,
  ⟨(some 20), (.mv (.t 6)), none⟩,
  ⟨(some 21), (.bin .mul (.v (.int .i64 8)) (.t 20)), none⟩,
  ⟨(some 22), (.bin .shr (.t 19) (.t 21)), none⟩,
  ⟨(some 23), (.conv .u8 (.t 22)), none⟩,
  ⟨(some 24), (.idx 1 (.t 17) (.t 18)), none⟩,
  ⟨none, (.store .sc 1 (.t 24) (.t 23)), none⟩]
def q_word_Put_7 : List AOper := [
  ⟨(some 25), (.bin .add (.t 12) (.v (.int .i64 1))), none⟩,
  ⟨(some 12), (.mv (.t 25)), none⟩]
def q_word_Put_L8 : ACode := (.seq (.region q_word_Put_3) (.seq (.cond (.t 13) .skip (.exit 0)) (.seq (.block 1 (.seq (.region q_word_Put_4) (.seq (.region q_word_Put_5) (.cond (.t 16) (.region q_word_Put_6) .skip)))) (.region q_word_Put_7))))
def q_word_Put_8 : List AOper := [
  ⟨(some 26), (.mv (.t 5)), none⟩,
  ⟨(some 4), (.mv (.t 26)), none⟩]
def a_word_Put : AFunc := ⟨[(.tmp 4)], (.seq (.region q_word_Put_0) (.seq (.region q_word_Put_1) (.seq (.seq (.region q_word_Put_2) (.block 0 (.loop q_word_Put_L8))) (.seq (.region q_word_Put_8) .ret))))⟩

def q_word_Zero_0 : List AOper := [
  ⟨(some 2), (.mv (.v (.bool false))), none⟩]
def q_word_Zero_1 : List AOper := [
  ⟨(some 5), (.mv (.t 0)), none⟩,
  ⟨(some 6), (.len false (.t 5)), none⟩,
  ⟨(some 7), (.mv (.v (.int .i64 0))), none⟩]
def q_word_Zero_2 : List AOper := [
  ⟨(some 8), (.bin .lss (.t 7) (.t 6)), none⟩]
def q_word_Zero_3 : List AOper := [
  ⟨(some 9), (.idx 1 (.t 5) (.t 7)), none⟩,
  ⟨(some 10), (.load .sc 1 (.t 9)), none⟩,
  ⟨(some 4), (.mv (.t 10)), none⟩]
def q_word_Zero_4 : List AOper := [
  ⟨(some 11), (.mv (.t 4)), none⟩,
  ⟨(some 12), (.eq .scI true (.t 11) (.v (.int .u8 0))), none⟩]
def q_word_Zero_5 : List AOper := [
  ⟨(some 2), (.mv (.v (.bool false))), none⟩]
def q_word_Zero_6 : List AOper := [
  ⟨(some 13), (.bin .add (.t 7) (.v (.int .i64 1))), none⟩,
  ⟨(some 7), (.mv (.t 13)), none⟩]
def q_word_Zero_L7 : ACode := (.seq (.region q_word_Zero_2) (.seq (.cond (.t 8) .skip (.exit 0)) (.seq (.block 1 (.seq (.region q_word_Zero_3) (.seq (.region q_word_Zero_4) (.cond (.t 12) (.seq (.region q_word_Zero_5) .ret) .skip)))) (.region q_word_Zero_6))))
def q_word_Zero_7 : List AOper := [
  ⟨(some 2), (.mv (.v (.bool true))), none⟩]
def a_word_Zero : AFunc := ⟨[(.tmp 2)], (.seq (.region q_word_Zero_0) (.seq (.seq (.region q_word_Zero_1) (.block 0 (.loop q_word_Zero_L7))) (.seq (.region q_word_Zero_7) .ret)))⟩

def q_word_Whole_0 : List AOper := [
  ⟨(some 2), (.alloc 54 [(.iarr .u8 256 (List.replicate 256 0))]), none⟩]
def q_word_Whole_1 : List AOper := [
  ⟨(some 3), (.alloc 54 [(.iarr .u8 256 (List.replicate 256 0))]), none⟩]
def q_word_Whole_2 : List AOper := [
  ⟨(some 4), (.slcA 256 (.t 3) none none), none⟩,
  ⟨(some 5), (.mv (.t 0)), none⟩,
  ⟨(some 6), (.xx (.cpI .u8) [(.t 4), (.t 5)]), none⟩]
def q_word_Whole_3 : List AOper := [
  ⟨(some 7), (.load (.ia .u8 256) 256 (.t 3)), none⟩,
  ⟨none, (.store (.ia .u8 256) 256 (.t 2) (.t 7)), none⟩]
def a_word_Whole : AFunc := ⟨[(.cell 2 (.ia .u8 256) 256)], (.seq (.region q_word_Whole_0) (.seq (.region q_word_Whole_1) (.seq (.region q_word_Whole_2) (.seq (.region q_word_Whole_3) .ret))))⟩

def q_word_From_0 : List AOper := [
  ⟨(some 2), (.mv (.v .nilP)), none⟩]
def q_word_From_1 : List AOper := [
  ⟨(some 3), (.mv (.t 0)), none⟩,
  ⟨(some 4), (.build .ag [.nilS, (.bool false)] [(0, (1, (.t 3)))]), none⟩,
  ⟨(some 5), (.box 151 .ag (.t 4)), none⟩,
  ⟨(some 2), (.mv (.t 5)), none⟩]
def a_word_From : AFunc := ⟨[(.tmp 2)], (.seq (.region q_word_From_0) (.seq (.region q_word_From_1) .ret))⟩

def q_Pword_Cursor_Bytes_0 : List AOper := [
  ⟨(some 4), (.mv (.v .nilS)), none⟩]
def q_Pword_Cursor_Bytes_1 : List AOper := [
  ⟨(some 6), (.mv (.t 0)), none⟩,
  ⟨(some 7), (.xx (.p .nilCk) [(.t 6)]), none⟩,
  ⟨(some 8), (.fadr 1 1 .sc (.t 7)), none⟩,
  ⟨(some 9), (.load .sc 1 (.t 8)), none⟩,
  ⟨(some 10), (.mv (.t 9)), none⟩,
  ⟨(some 11), (.mv (.t 1)), (some (10, false))⟩,
  ⟨(some 12), (.bin .lss (.t 11) (.v (.int .i64 0))), (some (10, false))⟩,
  ⟨(some 13), (.pick (.t 10) (.v (.bool true)) (.t 12)), none⟩,
  ⟨(some 14), (.mv (.t 13)), none⟩,
  ⟨(some 15), (.mv (.t 1)), (some (14, false))⟩,
  ⟨(some 16), (.mv (.t 0)), (some (14, false))⟩,
  ⟨(some 17), (.xx (.p .nilCk) [(.t 16)]), (some (14, false))⟩,
  ⟨(some 18), (.fadr 0 1 .sc (.t 17)), (some (14, false))⟩,
  ⟨(some 19), (.load .sc 1 (.t 18)), (some (14, false))⟩,
  ⟨(some 20), (.len false (.t 19)), (some (14, false))⟩,
  ⟨(some 21), (.bin .gtr (.t 15) (.t 20)), (some (14, false))⟩,
  ⟨(some 22), (.pick (.t 14) (.v (.bool true)) (.t 21)), none⟩]
def q_Pword_Cursor_Bytes_2 : List AOper := [
  ⟨(some 23), (.mv (.t 0)), none⟩,
  ⟨(some 24), (.xx (.p .nilCk) [(.t 23)]), none⟩,
  ⟨(some 25), (.fadr 1 1 .sc (.t 24)), none⟩,
  ⟨none, (.store .sc 1 (.t 25) (.v (.bool true))), none⟩]
def q_Pword_Cursor_Bytes_3 : List AOper := [
  ⟨(some 26), (.mv (.t 1)), none⟩,
  ⟨(some 27), (.xx (.p (.mnI true)) [(.t 26), (.v (.int .i64 0))]), none⟩,
  ⟨(some 28), (.xx (.p (.mnI false)) [(.t 27), (.v (.int .i64 256))]), none⟩,
  ⟨(some 29), (.mkI 5 .u8 1 (.t 28) (.t 28)), none⟩,
  ⟨(some 4), (.mv (.t 29)), none⟩]
def q_Pword_Cursor_Bytes_4 : List AOper := [
  ⟨(some 30), (.mv (.t 1)), none⟩,
  ⟨(some 31), (.mkI 5 .u8 1 (.t 30) (.t 30)), none⟩,
  ⟨(some 5), (.mv (.t 31)), none⟩]
def q_Pword_Cursor_Bytes_5 : List AOper := [
  ⟨(some 32), (.mv (.t 5)), none⟩,
  ⟨(some 33), (.mv (.t 0)), none⟩,
  ⟨(some 34), (.xx (.p .nilCk) [(.t 33)]), none⟩,
  ⟨(some 35), (.fadr 0 1 .sc (.t 34)), none⟩,
  ⟨(some 36), (.load .sc 1 (.t 35)), none⟩,
  ⟨(some 37), (.xx (.cpI .u8) [(.t 32), (.t 36)]), none⟩]
def q_Pword_Cursor_Bytes_6 : List AOper := [
  ⟨(some 38), (.mv (.t 0)), none⟩,
  ⟨(some 39), (.mv (.t 0)), none⟩,
  ⟨(some 40), (.xx (.p .nilCk) [(.t 39)]), none⟩,
  ⟨(some 41), (.fadr 0 1 .sc (.t 40)), none⟩,
  ⟨(some 42), (.load .sc 1 (.t 41)), none⟩,
  ⟨(some 43), (.mv (.t 1)), none⟩,
  ⟨(some 44), (.slc 1 (.t 42) (some (.t 43)) none), none⟩,
  ⟨(some 45), (.xx (.p .nilCk) [(.t 38)]), none⟩,
  ⟨(some 46), (.fadr 0 1 .sc (.t 45)), none⟩,
  ⟨none, (.store .sc 1 (.t 46) (.t 44)), none⟩]
def q_Pword_Cursor_Bytes_7 : List AOper := [
  ⟨(some 47), (.mv (.t 5)), none⟩,
  ⟨(some 4), (.mv (.t 47)), none⟩]
def a_Pword_Cursor_Bytes : AFunc := ⟨[(.tmp 4)], (.seq (.region q_Pword_Cursor_Bytes_0) (.seq (.seq (.region q_Pword_Cursor_Bytes_1) (.cond (.t 22) (.seq (.region q_Pword_Cursor_Bytes_2) (.seq (.region q_Pword_Cursor_Bytes_3) .ret)) .skip)) (.seq (.region q_Pword_Cursor_Bytes_4) (.seq (.region q_Pword_Cursor_Bytes_5) (.seq (.region q_Pword_Cursor_Bytes_6) (.seq (.region q_Pword_Cursor_Bytes_7) .ret))))))⟩

def q_Pword_Cursor_Num_0 : List AOper := [
  ⟨(some 4), (.mv (.v (.int .u64 0))), none⟩]
def q_Pword_Cursor_Num_1 : List AOper := [
  ⟨(some 5), (.mv (.t 0)), none⟩,
  ⟨(some 6), (.mv (.t 1)), none⟩,
  ⟨(some 7), (.call F_Pword_Cursor_Bytes [(.sc, (.t 5)), (.sc, (.t 6))]), none⟩,
  ⟨(some 8), (.call F_word_Get [(.sc, (.t 7))]), none⟩,
  ⟨(some 4), (.mv (.t 8)), none⟩]
def a_Pword_Cursor_Num : AFunc := ⟨[(.tmp 4)], (.seq (.region q_Pword_Cursor_Num_0) (.seq (.region q_Pword_Cursor_Num_1) .ret))⟩

def q_Pword_Cursor_Rest_0 : List AOper := [
  ⟨(some 2), (.mv (.v (.bool false))), none⟩]
def q_Pword_Cursor_Rest_1 : List AOper := [
  ⟨(some 3), (.mv (.t 0)), none⟩,
  ⟨(some 4), (.xx (.p .nilCk) [(.t 3)]), none⟩,
  ⟨(some 5), (.fadr 1 1 .sc (.t 4)), none⟩,
  ⟨(some 6), (.load .sc 1 (.t 5)), none⟩,
  ⟨(some 7), (.un .not (.t 6)), none⟩,
  ⟨(some 8), (.mv (.t 7)), none⟩,
  ⟨(some 9), (.mv (.t 0)), (some (8, true))⟩,
  ⟨(some 10), (.xx (.p .nilCk) [(.t 9)]), (some (8, true))⟩,
  ⟨(some 11), (.fadr 0 1 .sc (.t 10)), (some (8, true))⟩,
  ⟨(some 12), (.load .sc 1 (.t 11)), (some (8, true))⟩,
  ⟨(some 13), (.call F_word_Zero [(.sc, (.t 12))]), (some (8, true))⟩,
  ⟨(some 14), (.pick (.t 8) (.t 13) (.v (.bool false))), none⟩,
  ⟨(some 2), (.mv (.t 14)), none⟩]
def a_Pword_Cursor_Rest : AFunc := ⟨[(.tmp 2)], (.seq (.region q_Pword_Cursor_Rest_0) (.seq (.region q_Pword_Cursor_Rest_1) .ret))⟩

def q_ref01_Put_0 : List AOper := [
  ⟨(some 4), (.mv (.v .nilS)), none⟩]
def q_ref01_Put_1 : List AOper := [
  ⟨(some 6), (.mv (.t 1)), none⟩,
  ⟨(some 7), (.bin .leq (.t 6) (.v (.int .i64 0))), none⟩]
def q_ref01_Put_2 : List AOper := [
  ⟨(some 4), (.mv (.v .nilS)), none⟩]
def q_ref01_Put_3 : List AOper := [
  ⟨(some 8), (.mv (.t 0)), none⟩,
  ⟨(some 9), (.bin .rem (.t 8) (.v (.int .u64 256))), none⟩,
  ⟨(some 10), (.conv .u8 (.t 9)), none⟩,
  ⟨(some 11), (.bslI 5 .u8 [(.t 10)]), none⟩,
  ⟨(some 5), (.mv (.t 11)), none⟩]
def q_ref01_Put_4 : List AOper := [
  ⟨(some 12), (.mv (.t 5)), none⟩,
  ⟨(some 13), (.mv (.t 0)), none⟩,
  ⟨(some 14), (.bin .quo (.t 13) (.v (.int .u64 256))), none⟩,
  ⟨(some 15), (.mv (.t 1)), none⟩,
  ⟨(some 16), (.bin .sub (.t 15) (.v (.int .i64 1))), none⟩,
  ⟨(some 17), (.call F_ref01_Put [(.sc, (.t 14)), (.sc, (.t 16))]), none⟩,
  ⟨(some 18), (.appI 5 .u8 1 (.t 12) (.t 17)), none⟩,
  ⟨(some 4), (.mv (.t 18)), none⟩]
def a_ref01_Put : AFunc := ⟨[(.tmp 4)], (.seq (.region q_ref01_Put_0) (.seq (.seq (.region q_ref01_Put_1) (.cond (.t 7) (.seq (.region q_ref01_Put_2) .ret) .skip)) (.seq (.region q_ref01_Put_3) (.seq (.region q_ref01_Put_4) .ret))))⟩

def q_ref01_Get_0 : List AOper := [
  ⟨(some 2), (.mv (.v (.int .u64 0))), none⟩]
def q_ref01_Get_1 : List AOper := [
  ⟨(some 3), (.mv (.t 0)), none⟩,
  ⟨(some 4), (.len false (.t 3)), none⟩,
  ⟨(some 5), (.eq .scI false (.t 4) (.v (.int .i64 0))), none⟩]
def q_ref01_Get_2 : List AOper := [
  ⟨(some 2), (.mv (.v (.int .u64 0))), none⟩]
def q_ref01_Get_3 : List AOper := [
  ⟨(some 6), (.mv (.t 0)), none⟩,
  ⟨(some 7), (.len false (.t 6)), none⟩,
  ⟨(some 8), (.bin .gtr (.t 7) (.v (.int .i64 8))), none⟩]
def q_ref01_Get_4 : List AOper := [
  ⟨(some 9), (.mv (.t 0)), none⟩,
  ⟨(some 10), (.slc 1 (.t 9) none (some (.v (.int .i64 8)))), none⟩,
  ⟨(some 11), (.call F_ref01_Get [(.sc, (.t 10))]), none⟩,
  ⟨(some 2), (.mv (.t 11)), none⟩]
def q_ref01_Get_5 : List DOp := [
  ⟨⟨(some 12), (.mv (.t 0)), none⟩, true, false, none, []⟩,
  ⟨⟨(some 13), (.idx 1 (.t 12) (.v (.int .i64 0))), none⟩, true, false, none, []⟩,
  ⟨⟨(some 14), (.load .sc 1 (.t 13)), none⟩, true, false, none, []⟩,
  ⟨⟨(some 15), (.conv .u64 (.t 14)), none⟩, true, false, none, []⟩,
  ⟨⟨(some 16), (.mv (.t 0)), none⟩, true, false, none, []⟩,
  ⟨⟨(some 17), (.slc 1 (.t 16) (some (.v (.int .i64 1))) none), none⟩, true, false, none, []⟩,
  ⟨⟨(some 18), (.call F_ref01_Get [(.sc, (.t 17))]), none⟩, false, true, (some [13, 12]), []⟩,
  ⟨⟨(some 19), (.bin .mul (.v (.int .u64 256)) (.t 18)), none⟩, true, false, none, []⟩,
  ⟨⟨(some 20), (.bin .add (.t 15) (.t 19)), none⟩, true, false, none, []⟩,
  ⟨⟨(some 2), (.mv (.t 20)), none⟩, true, false, none, []⟩]
def a_ref01_Get : AFunc := ⟨[(.tmp 2)], (.seq (.region q_ref01_Get_0) (.seq (.seq (.region q_ref01_Get_1) (.cond (.t 5) (.seq (.region q_ref01_Get_2) .ret) .skip)) (.seq (.seq (.region q_ref01_Get_3) (.cond (.t 8) (.seq (.region q_ref01_Get_4) .ret) .skip)) (.seq (.regionD q_ref01_Get_5) .ret))))⟩


theorem c_word_Get : trF Try.prog Try.f93 = some a_word_Get := by kernel_rfl
theorem g_word_Get : Try.prog.funcs[93]? = some Try.f93 := by kernel_rfl
theorem i_word_Get {args : List AV} {A : Heap} {Ko : AOut → Heap → Prop} (hn : args.length ≤ 22)
    (h : ∀ R : APost, (∀ e env A, fpost a_word_Get.res Ko e env A → R e env A) → X Try.prog R a_word_Get.body .done (env0 args) A) : SimX Try.prog F_word_Get args A Ko :=
  X_intro g_word_Get c_word_Get (by rw [Try.ntmps93]; exact hn) h
theorem v_word_Get {args : List AV} {v : AV} (hn : args.length ≤ 22) (h : X Try.prog (fin a_word_Get.res v) a_word_Get.body .done (env0 args) H0) : Gives Try.prog F_word_Get args v :=
  Gives_intro g_word_Get c_word_Get (by rw [Try.ntmps93]; exact hn) h
theorem e_word_Get {args : List AV} {Q : AOut → Prop} (hn : args.length ≤ 22) (h : X Try.prog (finE a_word_Get.res Q) a_word_Get.body .done (env0 args) H0) : Fins Try.prog F_word_Get args Q :=
  Fins_intro g_word_Get c_word_Get (by rw [Try.ntmps93]; exact hn) h
theorem j_word_Get {args : List AV} {A : Heap} {K Kp : AV → Heap → Prop} (hn : args.length ≤ 22) (h : X Try.prog (inl a_word_Get.res K Kp) a_word_Get.body .done (env0 args) A) : SimX Try.prog F_word_Get args A (outK K Kp) :=
  X_inl g_word_Get c_word_Get (by rw [Try.ntmps93]; exact hn) h
theorem d_word_Get {args : List AV} {A : Heap} {Ko : AOut → Heap → Prop} (hn : args.length ≤ 22) (hrf : AVL.Func.hasRF Try.f93 = false)
    (h : ∀ R : APost, (∀ e env A, fpost a_word_Get.res Ko e env A → R e env A) → X Try.prog R a_word_Get.body .done (env0 args) A) : SimD Try.prog F_word_Get args A Ko :=
  X_introD g_word_Get c_word_Get (by rw [Try.ntmps93]; exact hn) hrf h
@[simp] theorem k_word_Get : callable Try.prog F_word_Get = true := by kernel_rfl
theorem c_word_Put : trF Try.prog Try.f62 = some a_word_Put := by kernel_rfl
theorem g_word_Put : Try.prog.funcs[62]? = some Try.f62 := by kernel_rfl
theorem i_word_Put {args : List AV} {A : Heap} {Ko : AOut → Heap → Prop} (hn : args.length ≤ 27)
    (h : ∀ R : APost, (∀ e env A, fpost a_word_Put.res Ko e env A → R e env A) → X Try.prog R a_word_Put.body .done (env0 args) A) : SimX Try.prog F_word_Put args A Ko :=
  X_intro g_word_Put c_word_Put (by rw [Try.ntmps62]; exact hn) h
theorem v_word_Put {args : List AV} {v : AV} (hn : args.length ≤ 27) (h : X Try.prog (fin a_word_Put.res v) a_word_Put.body .done (env0 args) H0) : Gives Try.prog F_word_Put args v :=
  Gives_intro g_word_Put c_word_Put (by rw [Try.ntmps62]; exact hn) h
theorem e_word_Put {args : List AV} {Q : AOut → Prop} (hn : args.length ≤ 27) (h : X Try.prog (finE a_word_Put.res Q) a_word_Put.body .done (env0 args) H0) : Fins Try.prog F_word_Put args Q :=
  Fins_intro g_word_Put c_word_Put (by rw [Try.ntmps62]; exact hn) h
theorem j_word_Put {args : List AV} {A : Heap} {K Kp : AV → Heap → Prop} (hn : args.length ≤ 27) (h : X Try.prog (inl a_word_Put.res K Kp) a_word_Put.body .done (env0 args) A) : SimX Try.prog F_word_Put args A (outK K Kp) :=
  X_inl g_word_Put c_word_Put (by rw [Try.ntmps62]; exact hn) h
theorem d_word_Put {args : List AV} {A : Heap} {Ko : AOut → Heap → Prop} (hn : args.length ≤ 27) (hrf : AVL.Func.hasRF Try.f62 = false)
    (h : ∀ R : APost, (∀ e env A, fpost a_word_Put.res Ko e env A → R e env A) → X Try.prog R a_word_Put.body .done (env0 args) A) : SimD Try.prog F_word_Put args A Ko :=
  X_introD g_word_Put c_word_Put (by rw [Try.ntmps62]; exact hn) hrf h
@[simp] theorem k_word_Put : callable Try.prog F_word_Put = true := by kernel_rfl
theorem c_word_Zero : trF Try.prog Try.f95 = some a_word_Zero := by kernel_rfl
theorem g_word_Zero : Try.prog.funcs[95]? = some Try.f95 := by kernel_rfl
theorem i_word_Zero {args : List AV} {A : Heap} {Ko : AOut → Heap → Prop} (hn : args.length ≤ 14)
    (h : ∀ R : APost, (∀ e env A, fpost a_word_Zero.res Ko e env A → R e env A) → X Try.prog R a_word_Zero.body .done (env0 args) A) : SimX Try.prog F_word_Zero args A Ko :=
  X_intro g_word_Zero c_word_Zero (by rw [Try.ntmps95]; exact hn) h
theorem v_word_Zero {args : List AV} {v : AV} (hn : args.length ≤ 14) (h : X Try.prog (fin a_word_Zero.res v) a_word_Zero.body .done (env0 args) H0) : Gives Try.prog F_word_Zero args v :=
  Gives_intro g_word_Zero c_word_Zero (by rw [Try.ntmps95]; exact hn) h
theorem e_word_Zero {args : List AV} {Q : AOut → Prop} (hn : args.length ≤ 14) (h : X Try.prog (finE a_word_Zero.res Q) a_word_Zero.body .done (env0 args) H0) : Fins Try.prog F_word_Zero args Q :=
  Fins_intro g_word_Zero c_word_Zero (by rw [Try.ntmps95]; exact hn) h
theorem j_word_Zero {args : List AV} {A : Heap} {K Kp : AV → Heap → Prop} (hn : args.length ≤ 14) (h : X Try.prog (inl a_word_Zero.res K Kp) a_word_Zero.body .done (env0 args) A) : SimX Try.prog F_word_Zero args A (outK K Kp) :=
  X_inl g_word_Zero c_word_Zero (by rw [Try.ntmps95]; exact hn) h
theorem d_word_Zero {args : List AV} {A : Heap} {Ko : AOut → Heap → Prop} (hn : args.length ≤ 14) (hrf : AVL.Func.hasRF Try.f95 = false)
    (h : ∀ R : APost, (∀ e env A, fpost a_word_Zero.res Ko e env A → R e env A) → X Try.prog R a_word_Zero.body .done (env0 args) A) : SimD Try.prog F_word_Zero args A Ko :=
  X_introD g_word_Zero c_word_Zero (by rw [Try.ntmps95]; exact hn) hrf h
@[simp] theorem k_word_Zero : callable Try.prog F_word_Zero = true := by kernel_rfl
theorem c_word_Whole : trF Try.prog Try.f63 = some a_word_Whole := by kernel_rfl
theorem g_word_Whole : Try.prog.funcs[63]? = some Try.f63 := by kernel_rfl
theorem i_word_Whole {args : List AV} {A : Heap} {Ko : AOut → Heap → Prop} (hn : args.length ≤ 8)
    (h : ∀ R : APost, (∀ e env A, fpost a_word_Whole.res Ko e env A → R e env A) → X Try.prog R a_word_Whole.body .done (env0 args) A) : SimX Try.prog F_word_Whole args A Ko :=
  X_intro g_word_Whole c_word_Whole (by rw [Try.ntmps63]; exact hn) h
theorem v_word_Whole {args : List AV} {v : AV} (hn : args.length ≤ 8) (h : X Try.prog (fin a_word_Whole.res v) a_word_Whole.body .done (env0 args) H0) : Gives Try.prog F_word_Whole args v :=
  Gives_intro g_word_Whole c_word_Whole (by rw [Try.ntmps63]; exact hn) h
theorem e_word_Whole {args : List AV} {Q : AOut → Prop} (hn : args.length ≤ 8) (h : X Try.prog (finE a_word_Whole.res Q) a_word_Whole.body .done (env0 args) H0) : Fins Try.prog F_word_Whole args Q :=
  Fins_intro g_word_Whole c_word_Whole (by rw [Try.ntmps63]; exact hn) h
theorem j_word_Whole {args : List AV} {A : Heap} {K Kp : AV → Heap → Prop} (hn : args.length ≤ 8) (h : X Try.prog (inl a_word_Whole.res K Kp) a_word_Whole.body .done (env0 args) A) : SimX Try.prog F_word_Whole args A (outK K Kp) :=
  X_inl g_word_Whole c_word_Whole (by rw [Try.ntmps63]; exact hn) h
theorem d_word_Whole {args : List AV} {A : Heap} {Ko : AOut → Heap → Prop} (hn : args.length ≤ 8) (hrf : AVL.Func.hasRF Try.f63 = false)
    (h : ∀ R : APost, (∀ e env A, fpost a_word_Whole.res Ko e env A → R e env A) → X Try.prog R a_word_Whole.body .done (env0 args) A) : SimD Try.prog F_word_Whole args A Ko :=
  X_introD g_word_Whole c_word_Whole (by rw [Try.ntmps63]; exact hn) hrf h
@[simp] theorem k_word_Whole : callable Try.prog F_word_Whole = true := by kernel_rfl
theorem c_word_From : trF Try.prog Try.f69 = some a_word_From := by kernel_rfl
theorem g_word_From : Try.prog.funcs[69]? = some Try.f69 := by kernel_rfl
theorem i_word_From {args : List AV} {A : Heap} {Ko : AOut → Heap → Prop} (hn : args.length ≤ 6)
    (h : ∀ R : APost, (∀ e env A, fpost a_word_From.res Ko e env A → R e env A) → X Try.prog R a_word_From.body .done (env0 args) A) : SimX Try.prog F_word_From args A Ko :=
  X_intro g_word_From c_word_From (by rw [Try.ntmps69]; exact hn) h
theorem v_word_From {args : List AV} {v : AV} (hn : args.length ≤ 6) (h : X Try.prog (fin a_word_From.res v) a_word_From.body .done (env0 args) H0) : Gives Try.prog F_word_From args v :=
  Gives_intro g_word_From c_word_From (by rw [Try.ntmps69]; exact hn) h
theorem e_word_From {args : List AV} {Q : AOut → Prop} (hn : args.length ≤ 6) (h : X Try.prog (finE a_word_From.res Q) a_word_From.body .done (env0 args) H0) : Fins Try.prog F_word_From args Q :=
  Fins_intro g_word_From c_word_From (by rw [Try.ntmps69]; exact hn) h
theorem j_word_From {args : List AV} {A : Heap} {K Kp : AV → Heap → Prop} (hn : args.length ≤ 6) (h : X Try.prog (inl a_word_From.res K Kp) a_word_From.body .done (env0 args) A) : SimX Try.prog F_word_From args A (outK K Kp) :=
  X_inl g_word_From c_word_From (by rw [Try.ntmps69]; exact hn) h
theorem d_word_From {args : List AV} {A : Heap} {Ko : AOut → Heap → Prop} (hn : args.length ≤ 6) (hrf : AVL.Func.hasRF Try.f69 = false)
    (h : ∀ R : APost, (∀ e env A, fpost a_word_From.res Ko e env A → R e env A) → X Try.prog R a_word_From.body .done (env0 args) A) : SimD Try.prog F_word_From args A Ko :=
  X_introD g_word_From c_word_From (by rw [Try.ntmps69]; exact hn) hrf h
@[simp] theorem k_word_From : callable Try.prog F_word_From = true := by kernel_rfl
theorem c_Pword_Cursor_Bytes : trF Try.prog Try.f94 = some a_Pword_Cursor_Bytes := by kernel_rfl
theorem g_Pword_Cursor_Bytes : Try.prog.funcs[94]? = some Try.f94 := by kernel_rfl
theorem i_Pword_Cursor_Bytes {args : List AV} {A : Heap} {Ko : AOut → Heap → Prop} (hn : args.length ≤ 48)
    (h : ∀ R : APost, (∀ e env A, fpost a_Pword_Cursor_Bytes.res Ko e env A → R e env A) → X Try.prog R a_Pword_Cursor_Bytes.body .done (env0 args) A) : SimX Try.prog F_Pword_Cursor_Bytes args A Ko :=
  X_intro g_Pword_Cursor_Bytes c_Pword_Cursor_Bytes (by rw [Try.ntmps94]; exact hn) h
theorem v_Pword_Cursor_Bytes {args : List AV} {v : AV} (hn : args.length ≤ 48) (h : X Try.prog (fin a_Pword_Cursor_Bytes.res v) a_Pword_Cursor_Bytes.body .done (env0 args) H0) : Gives Try.prog F_Pword_Cursor_Bytes args v :=
  Gives_intro g_Pword_Cursor_Bytes c_Pword_Cursor_Bytes (by rw [Try.ntmps94]; exact hn) h
theorem e_Pword_Cursor_Bytes {args : List AV} {Q : AOut → Prop} (hn : args.length ≤ 48) (h : X Try.prog (finE a_Pword_Cursor_Bytes.res Q) a_Pword_Cursor_Bytes.body .done (env0 args) H0) : Fins Try.prog F_Pword_Cursor_Bytes args Q :=
  Fins_intro g_Pword_Cursor_Bytes c_Pword_Cursor_Bytes (by rw [Try.ntmps94]; exact hn) h
theorem j_Pword_Cursor_Bytes {args : List AV} {A : Heap} {K Kp : AV → Heap → Prop} (hn : args.length ≤ 48) (h : X Try.prog (inl a_Pword_Cursor_Bytes.res K Kp) a_Pword_Cursor_Bytes.body .done (env0 args) A) : SimX Try.prog F_Pword_Cursor_Bytes args A (outK K Kp) :=
  X_inl g_Pword_Cursor_Bytes c_Pword_Cursor_Bytes (by rw [Try.ntmps94]; exact hn) h
theorem d_Pword_Cursor_Bytes {args : List AV} {A : Heap} {Ko : AOut → Heap → Prop} (hn : args.length ≤ 48) (hrf : AVL.Func.hasRF Try.f94 = false)
    (h : ∀ R : APost, (∀ e env A, fpost a_Pword_Cursor_Bytes.res Ko e env A → R e env A) → X Try.prog R a_Pword_Cursor_Bytes.body .done (env0 args) A) : SimD Try.prog F_Pword_Cursor_Bytes args A Ko :=
  X_introD g_Pword_Cursor_Bytes c_Pword_Cursor_Bytes (by rw [Try.ntmps94]; exact hn) hrf h
@[simp] theorem k_Pword_Cursor_Bytes : callable Try.prog F_Pword_Cursor_Bytes = true := by kernel_rfl
theorem c_Pword_Cursor_Num : trF Try.prog Try.f70 = some a_Pword_Cursor_Num := by kernel_rfl
theorem g_Pword_Cursor_Num : Try.prog.funcs[70]? = some Try.f70 := by kernel_rfl
theorem i_Pword_Cursor_Num {args : List AV} {A : Heap} {Ko : AOut → Heap → Prop} (hn : args.length ≤ 9)
    (h : ∀ R : APost, (∀ e env A, fpost a_Pword_Cursor_Num.res Ko e env A → R e env A) → X Try.prog R a_Pword_Cursor_Num.body .done (env0 args) A) : SimX Try.prog F_Pword_Cursor_Num args A Ko :=
  X_intro g_Pword_Cursor_Num c_Pword_Cursor_Num (by rw [Try.ntmps70]; exact hn) h
theorem v_Pword_Cursor_Num {args : List AV} {v : AV} (hn : args.length ≤ 9) (h : X Try.prog (fin a_Pword_Cursor_Num.res v) a_Pword_Cursor_Num.body .done (env0 args) H0) : Gives Try.prog F_Pword_Cursor_Num args v :=
  Gives_intro g_Pword_Cursor_Num c_Pword_Cursor_Num (by rw [Try.ntmps70]; exact hn) h
theorem e_Pword_Cursor_Num {args : List AV} {Q : AOut → Prop} (hn : args.length ≤ 9) (h : X Try.prog (finE a_Pword_Cursor_Num.res Q) a_Pword_Cursor_Num.body .done (env0 args) H0) : Fins Try.prog F_Pword_Cursor_Num args Q :=
  Fins_intro g_Pword_Cursor_Num c_Pword_Cursor_Num (by rw [Try.ntmps70]; exact hn) h
theorem j_Pword_Cursor_Num {args : List AV} {A : Heap} {K Kp : AV → Heap → Prop} (hn : args.length ≤ 9) (h : X Try.prog (inl a_Pword_Cursor_Num.res K Kp) a_Pword_Cursor_Num.body .done (env0 args) A) : SimX Try.prog F_Pword_Cursor_Num args A (outK K Kp) :=
  X_inl g_Pword_Cursor_Num c_Pword_Cursor_Num (by rw [Try.ntmps70]; exact hn) h
theorem d_Pword_Cursor_Num {args : List AV} {A : Heap} {Ko : AOut → Heap → Prop} (hn : args.length ≤ 9) (hrf : AVL.Func.hasRF Try.f70 = false)
    (h : ∀ R : APost, (∀ e env A, fpost a_Pword_Cursor_Num.res Ko e env A → R e env A) → X Try.prog R a_Pword_Cursor_Num.body .done (env0 args) A) : SimD Try.prog F_Pword_Cursor_Num args A Ko :=
  X_introD g_Pword_Cursor_Num c_Pword_Cursor_Num (by rw [Try.ntmps70]; exact hn) hrf h
@[simp] theorem k_Pword_Cursor_Num : callable Try.prog F_Pword_Cursor_Num = true := by kernel_rfl
theorem c_Pword_Cursor_Rest : trF Try.prog Try.f71 = some a_Pword_Cursor_Rest := by kernel_rfl
theorem g_Pword_Cursor_Rest : Try.prog.funcs[71]? = some Try.f71 := by kernel_rfl
theorem i_Pword_Cursor_Rest {args : List AV} {A : Heap} {Ko : AOut → Heap → Prop} (hn : args.length ≤ 15)
    (h : ∀ R : APost, (∀ e env A, fpost a_Pword_Cursor_Rest.res Ko e env A → R e env A) → X Try.prog R a_Pword_Cursor_Rest.body .done (env0 args) A) : SimX Try.prog F_Pword_Cursor_Rest args A Ko :=
  X_intro g_Pword_Cursor_Rest c_Pword_Cursor_Rest (by rw [Try.ntmps71]; exact hn) h
theorem v_Pword_Cursor_Rest {args : List AV} {v : AV} (hn : args.length ≤ 15) (h : X Try.prog (fin a_Pword_Cursor_Rest.res v) a_Pword_Cursor_Rest.body .done (env0 args) H0) : Gives Try.prog F_Pword_Cursor_Rest args v :=
  Gives_intro g_Pword_Cursor_Rest c_Pword_Cursor_Rest (by rw [Try.ntmps71]; exact hn) h
theorem e_Pword_Cursor_Rest {args : List AV} {Q : AOut → Prop} (hn : args.length ≤ 15) (h : X Try.prog (finE a_Pword_Cursor_Rest.res Q) a_Pword_Cursor_Rest.body .done (env0 args) H0) : Fins Try.prog F_Pword_Cursor_Rest args Q :=
  Fins_intro g_Pword_Cursor_Rest c_Pword_Cursor_Rest (by rw [Try.ntmps71]; exact hn) h
theorem j_Pword_Cursor_Rest {args : List AV} {A : Heap} {K Kp : AV → Heap → Prop} (hn : args.length ≤ 15) (h : X Try.prog (inl a_Pword_Cursor_Rest.res K Kp) a_Pword_Cursor_Rest.body .done (env0 args) A) : SimX Try.prog F_Pword_Cursor_Rest args A (outK K Kp) :=
  X_inl g_Pword_Cursor_Rest c_Pword_Cursor_Rest (by rw [Try.ntmps71]; exact hn) h
theorem d_Pword_Cursor_Rest {args : List AV} {A : Heap} {Ko : AOut → Heap → Prop} (hn : args.length ≤ 15) (hrf : AVL.Func.hasRF Try.f71 = false)
    (h : ∀ R : APost, (∀ e env A, fpost a_Pword_Cursor_Rest.res Ko e env A → R e env A) → X Try.prog R a_Pword_Cursor_Rest.body .done (env0 args) A) : SimD Try.prog F_Pword_Cursor_Rest args A Ko :=
  X_introD g_Pword_Cursor_Rest c_Pword_Cursor_Rest (by rw [Try.ntmps71]; exact hn) hrf h
@[simp] theorem k_Pword_Cursor_Rest : callable Try.prog F_Pword_Cursor_Rest = true := by kernel_rfl
theorem c_ref01_Put : trF Try.prog Try.f66 = some a_ref01_Put := by kernel_rfl
theorem g_ref01_Put : Try.prog.funcs[66]? = some Try.f66 := by kernel_rfl
theorem i_ref01_Put {args : List AV} {A : Heap} {Ko : AOut → Heap → Prop} (hn : args.length ≤ 19)
    (h : ∀ R : APost, (∀ e env A, fpost a_ref01_Put.res Ko e env A → R e env A) → X Try.prog R a_ref01_Put.body .done (env0 args) A) : SimX Try.prog F_ref01_Put args A Ko :=
  X_intro g_ref01_Put c_ref01_Put (by rw [Try.ntmps66]; exact hn) h
theorem v_ref01_Put {args : List AV} {v : AV} (hn : args.length ≤ 19) (h : X Try.prog (fin a_ref01_Put.res v) a_ref01_Put.body .done (env0 args) H0) : Gives Try.prog F_ref01_Put args v :=
  Gives_intro g_ref01_Put c_ref01_Put (by rw [Try.ntmps66]; exact hn) h
theorem e_ref01_Put {args : List AV} {Q : AOut → Prop} (hn : args.length ≤ 19) (h : X Try.prog (finE a_ref01_Put.res Q) a_ref01_Put.body .done (env0 args) H0) : Fins Try.prog F_ref01_Put args Q :=
  Fins_intro g_ref01_Put c_ref01_Put (by rw [Try.ntmps66]; exact hn) h
theorem j_ref01_Put {args : List AV} {A : Heap} {K Kp : AV → Heap → Prop} (hn : args.length ≤ 19) (h : X Try.prog (inl a_ref01_Put.res K Kp) a_ref01_Put.body .done (env0 args) A) : SimX Try.prog F_ref01_Put args A (outK K Kp) :=
  X_inl g_ref01_Put c_ref01_Put (by rw [Try.ntmps66]; exact hn) h
theorem d_ref01_Put {args : List AV} {A : Heap} {Ko : AOut → Heap → Prop} (hn : args.length ≤ 19) (hrf : AVL.Func.hasRF Try.f66 = false)
    (h : ∀ R : APost, (∀ e env A, fpost a_ref01_Put.res Ko e env A → R e env A) → X Try.prog R a_ref01_Put.body .done (env0 args) A) : SimD Try.prog F_ref01_Put args A Ko :=
  X_introD g_ref01_Put c_ref01_Put (by rw [Try.ntmps66]; exact hn) hrf h
@[simp] theorem k_ref01_Put : callable Try.prog F_ref01_Put = true := by kernel_rfl
theorem c_ref01_Get : trF Try.prog Try.f72 = some a_ref01_Get := by kernel_rfl
theorem g_ref01_Get : Try.prog.funcs[72]? = some Try.f72 := by kernel_rfl
theorem i_ref01_Get {args : List AV} {A : Heap} {Ko : AOut → Heap → Prop} (hn : args.length ≤ 21)
    (h : ∀ R : APost, (∀ e env A, fpost a_ref01_Get.res Ko e env A → R e env A) → X Try.prog R a_ref01_Get.body .done (env0 args) A) : SimX Try.prog F_ref01_Get args A Ko :=
  X_intro g_ref01_Get c_ref01_Get (by rw [Try.ntmps72]; exact hn) h
theorem v_ref01_Get {args : List AV} {v : AV} (hn : args.length ≤ 21) (h : X Try.prog (fin a_ref01_Get.res v) a_ref01_Get.body .done (env0 args) H0) : Gives Try.prog F_ref01_Get args v :=
  Gives_intro g_ref01_Get c_ref01_Get (by rw [Try.ntmps72]; exact hn) h
theorem e_ref01_Get {args : List AV} {Q : AOut → Prop} (hn : args.length ≤ 21) (h : X Try.prog (finE a_ref01_Get.res Q) a_ref01_Get.body .done (env0 args) H0) : Fins Try.prog F_ref01_Get args Q :=
  Fins_intro g_ref01_Get c_ref01_Get (by rw [Try.ntmps72]; exact hn) h
theorem j_ref01_Get {args : List AV} {A : Heap} {K Kp : AV → Heap → Prop} (hn : args.length ≤ 21) (h : X Try.prog (inl a_ref01_Get.res K Kp) a_ref01_Get.body .done (env0 args) A) : SimX Try.prog F_ref01_Get args A (outK K Kp) :=
  X_inl g_ref01_Get c_ref01_Get (by rw [Try.ntmps72]; exact hn) h
theorem d_ref01_Get {args : List AV} {A : Heap} {Ko : AOut → Heap → Prop} (hn : args.length ≤ 21) (hrf : AVL.Func.hasRF Try.f72 = false)
    (h : ∀ R : APost, (∀ e env A, fpost a_ref01_Get.res Ko e env A → R e env A) → X Try.prog R a_ref01_Get.body .done (env0 args) A) : SimD Try.prog F_ref01_Get args A Ko :=
  X_introD g_ref01_Get c_ref01_Get (by rw [Try.ntmps72]; exact hn) hrf h
@[simp] theorem k_ref01_Get : callable Try.prog F_ref01_Get = true := by kernel_rfl
end Go.Proofs.Ytilgdnbijkcboaa

/- Words: numbers as bytes; the walks of word.Put, word.Get, the reference's Put and Same. -/
namespace Go.Proofs.Ytilgdnbijkcboaa
open Go AVL
attribute [-simp] AV.isAgg aappI aapp alen
set_option linter.unusedVariables false
set_option linter.unusedSimpArgs false

def Bytes (l : List Nat) : Prop := ∀ x ∈ l, x < 256
theorem bytes_take {l : List Nat} (h : Bytes l) (n : Nat) : Bytes (l.take n) := fun x hx => h x (List.mem_of_mem_take hx)
theorem bytes_drop {l : List Nat} (h : Bytes l) (n : Nat) : Bytes (l.drop n) := fun x hx => h x (List.mem_of_mem_drop hx)
theorem bytes_append {a b : List Nat} (ha : Bytes a) (hb : Bytes b) : Bytes (a ++ b) := fun x hx => (List.mem_append.1 hx).elim (ha x) (hb x)
def leN : List Nat → Nat
  | [] => 0
  | c :: r => c + 256 * leN r
theorem leN_lt : ∀ (l : List Nat), Bytes l → leN l < 256 ^ l.length
  | [], _ => by simp [leN]
  | c :: r, h => by
    have h1 := leN_lt r fun x hx => h x (by simp [hx])
    have h2 := h c (by simp)
    simp only [leN, List.length_cons, Nat.pow_succ]
    omega
theorem leN_lt8 {l : List Nat} (h : Bytes l) (hl : l.length ≤ 8) : leN l < 2 ^ 64 := by
  have h1 := leN_lt l h
  have : 256 ^ l.length ≤ 256 ^ 8 := Nat.pow_le_pow_right (by decide) hl
  omega
theorem strOf_inj {a b : List Nat} (ha : Bytes a) (hb : Bytes b) : (strOf (ints a) = strOf (ints b)) = (a = b) := by
  apply propext
  constructor
  · intro h
    have key : ∀ {x : List Nat}, Bytes x → (strOf (ints x)).data.toList.map UInt8.toNat = x := by
      intro x hx
      simp only [strOf, ints, List.map_map]
      rw [List.map_congr_left (g := id) (fun n hn => by
        have := hx n hn
        simp [UInt8.toNat_ofNat', Nat.mod_eq_of_lt this])]
      simp
    rw [← key ha, ← key hb, h]
  · rintro rfl; rfl
theorem shl8_or (n b : Nat) (hb : b < 256) : n * 256 ||| b = b + 256 * n := by
  have := Nat.two_pow_add_eq_or_of_lt (i := 8) (b := b) (by omega) n
  rw [Nat.mul_comm n 256]; simp only [show (2 : Nat) ^ 8 = 256 from rfl] at this; omega
theorem w_word_Get (l : List Nat) (hl : Bytes l) (h8 : l.length ≤ 8) : Gives Try.prog F_word_Get [.isl .u8 (ints l)] (.int .u64 (leN l)) := by
  refine v_word_Get (by simp) ?_
  simp -implicitDefEqProofs [a_word_Get, q_word_Get_0, q_word_Get_1, q_word_Get_2]
  refine X_lp (fun (k : Nat) env A => k ≤ l.length ∧ env 0 = .isl .u8 (ints l) ∧ env 3 = .int .u64 (leN (l.drop k)) ∧ env 4 = .int .i64 ((k : Int) - 1)) (fun k => k) l.length ⟨Nat.le_refl _, by simp, by simp [leN], ?_⟩ ?_
  · simp
    rw [wrap_i64 (by split <;> omega)]
    split <;> omega
  rintro k env A ⟨h1, h2, h3, h4⟩
  simp -implicitDefEqProofs (disch := first | omega | simp) [q_word_Get_L6, q_word_Get_3, q_word_Get_6, h2, h3, h4]
  refine ⟨fun hk => ?_, fun hk => ?_⟩
  · have hk1 : k - 1 < l.length := by omega
    have eto : ((k : Int) - 1).toNat = k - 1 := by omega
    have hd : l.drop (k - 1) = l[k - 1] :: l.drop k := by
      rw [List.drop_eq_getElem_cons hk1]; congr 2; omega
    have hb := hl _ (List.getElem_mem hk1)
    have hn8 := leN_lt8 (bytes_drop hl (k - 1)) (by simp; omega)
    rw [hd] at hn8
    simp only [leN] at hn8
    have e1 : shlI .u64 ((leN (l.drop k) : Nat) : Int) 8 = ((leN (l.drop k) * 256 : Nat) : Int) := by
      simp only [shlI]
      have : (2 : Int) ^ min (Int.toNat 8) IntKind.u64.bits = 256 := by decide
      rw [this, wrap_u64 (by omega)]; omega
    have e2 : IntKind.u64.wrap ((l[k - 1] : Nat) : Int) = ((l[k - 1] : Nat) : Int) := wrap_u64 (by omega)
    have e3 : bOr .u64 ((leN (l.drop k) * 256 : Nat) : Int) ((l[k - 1] : Nat) : Int) = ((leN (l.drop (k - 1)) : Nat) : Int) := by
      rw [bOr_nat rfl (show leN (l.drop k) * 256 < 2 ^ 64 by omega) (show l[k - 1] < 2 ^ 64 by omega), shl8_or _ _ hb, hd, leN]
    have hs : IntKind.u64.signed = false := rfl
    simp -implicitDefEqProofs (disch := first | omega | simp) [q_word_Get_4, q_word_Get_5, h2, h3, h4, eto, hk1, e1, hs]
    rw [Int.natCast_mul] at e3
    refine ⟨by omega, by omega, lp_next (k - 1) ⟨by omega, by simp [h2], ?_, ?_⟩ (by omega)⟩
    · simp only [upd]
      simp
      rw [e2]; exact e3
    · simp
      rw [wrap_i64 (by omega)]; omega
  · have : k = 0 := by omega
    subst this
    simp
/-- A number's bytes, the lowest first. -/
def le : Nat → Nat → List Nat
  | 0, _ => []
  | m + 1, n => n % 256 :: le m (n / 256)
@[simp] theorem le_length : ∀ m n, (le m n).length = m
  | 0, _ => rfl
  | m + 1, n => by simp [le, le_length m]
theorem le_bytes : ∀ m n, Bytes (le m n)
  | 0, _ => by simp [le, Bytes]
  | m + 1, n => by
    intro x hx
    rcases List.mem_cons.1 hx with rfl | hx
    · exact Nat.mod_lt _ (by decide)
    · exact le_bytes m _ x hx
theorem le_get : ∀ (m n i : Nat) (h : i < (le m n).length), (le m n)[i] = n / 256 ^ i % 256
  | 0, n, i, h => by simp at h
  | m + 1, n, 0, h => by simp [le]
  | m + 1, n, i + 1, h => by
    simp only [le, List.getElem_cons_succ]
    rw [le_get m (n / 256) i (by simpa [le] using h), Nat.div_div_eq_div_mul, Nat.pow_succ, Nat.mul_comm]
theorem leN_le : ∀ (m n : Nat), n < 256 ^ m → leN (le m n) = n
  | 0, n, h => by simp at h; subst h; rfl
  | m + 1, n, h => by
    rw [Nat.pow_succ] at h
    simp only [le, leN, leN_le m (n / 256) (by omega)]
    omega
theorem le_leN : ∀ (l : List Nat), Bytes l → le l.length (leN l) = l
  | [], _ => rfl
  | c :: r, h => by
    have hc := h c (by simp)
    have hr := le_leN r fun x hx => h x (by simp [hx])
    simp only [List.length_cons, le, leN]
    rw [show (c + 256 * leN r) % 256 = c by omega, show (c + 256 * leN r) / 256 = leN r by omega, hr]
theorem fill_set {l : List Nat} {i : Nat} (h : i < l.length) : (l.take i ++ List.replicate (l.length - i) 0).set i l[i] = l.take (i + 1) ++ List.replicate (l.length - (i + 1)) 0 := by
  rw [show l.length - i = (l.length - (i + 1)) + 1 by omega, List.replicate_succ, List.set_append_right _ _ (by simp; omega), List.length_take, show i - min i l.length = 0 by omega]
  simp only [List.set_cons_zero]
  rw [List.take_succ_eq_append_getElem h, List.append_assoc]; rfl
theorem w_word_Put {n m : Nat} (hn : n < 2 ^ 64) (hm : m ≤ 8) : Makes Try.prog F_word_Put [.int .u64 n, .int .i64 m] m (.irow T_uint8 .u8 (ints (le m n))) := by
  refine i_word_Put (by simp) fun R hR => ?_
  simp -implicitDefEqProofs (disch := first | omega | simp) [a_word_Put, q_word_Put_0, q_word_Put_1, q_word_Put_2]
  have hmx : (if (m : Int) < 0 then (0 : Int) else m) = m := by split <;> omega
  rw [hmx]
  refine ⟨by omega, by omega, fun g => ?_⟩
  have h0 : List.replicate (m : Int).toNat (0 : Int) = ints ((le m n).take 0 ++ List.replicate ((le m n).length - 0) 0) := by simp [ints]
  rw [h0]
  refine X_lp (fun (i : Nat) env B => i ≤ m ∧ env 0 = .int .u64 n ∧ env 5 = .own g 0 m ∧ env 11 = .int .i64 m ∧ env 12 = .int .i64 i ∧ B = H0.set g (.irow T_uint8 .u8 (ints ((le m n).take i ++ List.replicate ((le m n).length - i) 0)))) (fun i => m - i) 0
    ⟨by omega, by simp, by simp, by simp, by simp, rfl⟩ ?_
  rintro i env B ⟨hi, e0, e5, e11, e12, rfl⟩
  simp -implicitDefEqProofs (disch := first | omega | simp) [q_word_Put_L8, q_word_Put_3, q_word_Put_4, q_word_Put_5, q_word_Put_7, q_word_Put_8, e0, e5, e11, e12]
  refine ⟨fun hil => ?_, fun hil => ?_⟩
  · have hlt : i < (le m n).length := by simpa using hil
    obtain ⟨q, hq⟩ : ∃ q : Nat, q = n / 256 ^ i := ⟨_, rfl⟩
    have e1 : shrI .u64 (n : Int) (8 * (i : Int)) = (q : Int) := by
      have : (8 * (i : Int)) = ((8 * i : Nat) : Int) := by omega
      rw [this, shrI_nat, show min (8 * i) IntKind.u64.bits = 8 * i from Nat.min_eq_left (by show 8 * i ≤ 64; omega), Nat.pow_mul, hq]
    have e2 : IntKind.u8.wrap (q : Int) = (((le m n)[i] : Nat) : Int) := by
      rw [wrap_u8m, le_get, hq]; omega
    have e3 : IntKind.i64.wrap (8 * (i : Int)) = 8 * (i : Int) := wrap_i64 (by omega)
    have e4 := fill_set hlt
    simp only [le_length] at e4
    have e5' : (i : Int) < 8 := by omega
    have e6 : ¬ (8 : Int) ≤ i := by omega
    simp -implicitDefEqProofs (disch := first | omega | simp) [q_word_Put_6, e0, e5, e11, e12, e1, e2, e3, hil, e5', e6, e4]
    exact ⟨by omega, lp_next (i + 1) ⟨by omega, by simp [e0], by simp [e5], by simp [e11], by simp [wrap_i64 (show -9223372036854775808 ≤ (i : Int) + 1 ∧ (i : Int) + 1 < 9223372036854775808 by omega)], by simp⟩ (by omega)⟩
  · have hie : i = m := by omega
    refine hR _ _ _ ?_
    simp -implicitDefEqProofs [a_word_Put, fpost, outOf]
    rw [hie]
    simp
    rw [List.take_of_length_le (by simp)]
    exact Sub_refl _
theorem w_ref01_Put : ∀ (m n : Nat), n < 2 ^ 64 → m ≤ 8 → MakesS Try.prog F_ref01_Put [.int .u64 n, .int .i64 m] T_uint8 .u8 (ints (le m n))
  | 0, n, hn, hm => by
    refine i_ref01_Put (by simp) fun R hR => ?_
    simp -implicitDefEqProofs [a_ref01_Put, q_ref01_Put_0, q_ref01_Put_1, q_ref01_Put_2]
    refine hR _ _ _ ?_
    simp -implicitDefEqProofs [a_ref01_Put, fpost, outOf, le]
  | m + 1, n, hn, hm => by
    refine i_ref01_Put (by simp) fun R hR => ?_
    have e0 : ¬ ((m : Int) + 1 ≤ 0) := by omega
    have e1 : IntKind.u8.wrap ((n : Int).tmod 256) = ((n % 256 : Nat) : Int) := by rw [wrap_u8m, Int.tmod_eq_emod_of_nonneg (by omega)]; omega
    have e2 : IntKind.i64.wrap (m : Int) = (m : Int) := wrap_i64 (by omega)
    have e3 : IntKind.u64.wrap ((n : Int) / 256) = ((n / 256 : Nat) : Int) := by rw [wrap_u64 (by omega)]; omega
    have ih := w_ref01_Put m (n / 256) (by omega) (by omega)
    simp -implicitDefEqProofs (disch := first | omega | simp) [a_ref01_Put, q_ref01_Put_0, q_ref01_Put_1, q_ref01_Put_3, q_ref01_Put_4, e0, e1, e2, e3]
    intro g
    refine ih.call (.cons (.refl _) rfl (.cons (.refl _) rfl .nil)) fun v B hB => ?_
    have h1 : SlS T_uint8 .u8 (.own g 0 1) (ints [n % 256]) H0 B := (SlS.one (by simp) (by simp)).mono hB.sub
    simp -implicitDefEqProofs
    refine h1.appS (Sub_refl _) (hB.src (Sub_refl _)) (by simp; omega) fun v' C' h' hag => ?_
    simp -implicitDefEqProofs
    refine hR _ _ _ ?_
    simpa -implicitDefEqProofs [fpost, a_ref01_Put, outOf, hag, le] using h'.fin
def il (l : List Nat) : AV := .isl .u8 (ints l)
end Go.Proofs.Ytilgdnbijkcboaa

/- The walk of word.Whole. -/
namespace Go.Proofs.Ytilgdnbijkcboaa
open Go AVL
attribute [-simp] AV.isAgg aappI aapp alen shp good comps
set_option linter.unusedVariables false
set_option linter.unusedSimpArgs false
set_option maxRecDepth 20000

section
variable {A B C : Heap} {K Kp : AV → Heap → Prop} {P : Program}
/-- Bytes as a sector. -/
def whole (b : List Nat) : List Nat := b.take 256 ++ List.replicate (256 - b.length) 0
theorem whole_len (b : List Nat) : (whole b).length = 256 := by simp [whole]; omega
theorem whole_bytes {b : List Nat} (h : Bytes b) : Bytes (whole b) := fun x hx => by
  rcases List.mem_append.1 hx with hx | hx
  · exact h x (List.mem_of_mem_take hx)
  · rw [List.eq_of_mem_replicate hx]; decide
theorem spl_whole (b : List Nat) : spl (List.replicate 256 0) 0 (ints (b.take 256)) = ints (whole b) := by
  have h : 256 - min 256 b.length = 256 - b.length := by omega
  simp -implicitDefEqProofs [spl, whole, ints, h, -List.reduceReplicate]
theorem w_word_Whole {b : List Nat} (hb : Bytes b) : Gives Try.prog F_word_Whole [.isl .u8 (ints b)] (.iarr .u8 256 (ints (whole b))) := by
  refine v_word_Whole (by simp) ?_
  simp -implicitDefEqProofs [a_word_Whole, q_word_Whole_0, q_word_Whole_1, q_word_Whole_2, q_word_Whole_3, acopy, spl_whole, -List.reduceReplicate]
  intro g g1 n1 n2
  simp -implicitDefEqProofs [n1, n2, -List.reduceReplicate]
end
end Go.Proofs.Ytilgdnbijkcboaa

/- Abstract programs; that they are the program's. -/
namespace Go.Proofs.Ytilgdnbijkcboaa
open Go AVL
set_option linter.unusedVariables false
set_option maxRecDepth 20000

def q_crc_Sealed_0 : List AOper := [
  ⟨(some 2), (.mv (.v .nilS)), none⟩]
def q_crc_Sealed_1 : List AOper := [
  ⟨(some 4), (.mv (.t 0)), none⟩,
  ⟨(some 5), (.call F_crc_Of [(.sc, (.t 4))]), none⟩,
  ⟨(some 6), (.call F_crc_Four [(.sc, (.t 5))]), none⟩,
  ⟨(some 3), (.alloc 146 [(.iarr .u8 4 [0, 0, 0, 0])]), none⟩,
  ⟨none, (.store (.ia .u8 4) 4 (.t 3) (.t 6)), none⟩]
def q_crc_Sealed_2 : List DOp := [
  ⟨⟨(some 8), (.mv (.t 0)), none⟩, true, false, none, []⟩,
  ⟨⟨(some 10), (.slcA 4 (.t 3) none none), none⟩, true, false, none, []⟩,
  ⟨⟨(some 7), (.bslI 5 .u8 []), none⟩, false, false, none, []⟩,
  ⟨⟨(some 9), (.appI 5 .u8 1 (.t 7) (.t 8)), none⟩, false, false, none, []⟩,
  ⟨⟨(some 11), (.appI 5 .u8 1 (.t 9) (.t 10)), none⟩, false, false, none, []⟩,
  ⟨⟨(some 2), (.mv (.t 11)), none⟩, true, false, none, []⟩]
def a_crc_Sealed : AFunc := ⟨[(.tmp 2)], (.seq (.region q_crc_Sealed_0) (.seq (.region q_crc_Sealed_1) (.seq (.regionD q_crc_Sealed_2) .ret)))⟩

def q_crc_Holds_0 : List AOper := [
  ⟨(some 2), (.mv (.v (.bool false))), none⟩]
def q_crc_Holds_1 : List AOper := [
  ⟨(some 4), (.mv (.t 0)), none⟩,
  ⟨(some 5), (.len false (.t 4)), none⟩,
  ⟨(some 6), (.bin .sub (.t 5) (.v (.int .i64 4))), none⟩,
  ⟨(some 3), (.mv (.t 6)), none⟩]
def q_crc_Holds_2 : List AOper := [
  ⟨(some 7), (.mv (.t 3)), none⟩,
  ⟨(some 8), (.bin .lss (.t 7) (.v (.int .i64 0))), none⟩]
def q_crc_Holds_3 : List AOper := [
  ⟨(some 2), (.mv (.v (.bool false))), none⟩]
def q_crc_Holds_4 : List DOp := [
  ⟨⟨(some 9), (.mv (.t 0)), none⟩, true, false, none, []⟩,
  ⟨⟨(some 10), (.mv (.t 3)), none⟩, true, false, none, []⟩,
  ⟨⟨(some 11), (.slc 1 (.t 9) none (some (.t 10))), none⟩, true, false, none, []⟩,
  ⟨⟨(some 14), (.mv (.t 0)), none⟩, true, false, none, []⟩,
  ⟨⟨(some 15), (.mv (.t 3)), none⟩, true, false, none, []⟩,
  ⟨⟨(some 16), (.slc 1 (.t 14) (some (.t 15)) none), none⟩, true, false, none, []⟩,
  ⟨⟨(some 17), (.s2a 4 (.t 16)), none⟩, true, false, none, []⟩,
  ⟨⟨(some 18), (.load (.ia .u8 4) 4 (.t 17)), none⟩, true, false, none, []⟩,
  ⟨⟨(some 12), (.call F_crc_Of [(.sc, (.t 11))]), none⟩, false, true, (some [17, 14]), []⟩,
  ⟨⟨(some 13), (.call F_crc_Four [(.sc, (.t 12))]), none⟩, false, true, (some [17, 14]), []⟩,
  ⟨⟨(some 19), (.eq (.ia 4) false (.t 13) (.t 18)), none⟩, true, false, none, []⟩,
  ⟨⟨(some 2), (.mv (.t 19)), none⟩, true, false, none, []⟩]
def a_crc_Holds : AFunc := ⟨[(.tmp 2)], (.seq (.region q_crc_Holds_0) (.seq (.region q_crc_Holds_1) (.seq (.seq (.region q_crc_Holds_2) (.cond (.t 8) (.seq (.region q_crc_Holds_3) .ret) .skip)) (.seq (.regionD q_crc_Holds_4) .ret))))⟩

def q_crc_Four_0 : List AOper := [
  ⟨(some 2), (.alloc 146 [(.iarr .u8 4 [0, 0, 0, 0])]), none⟩]
def q_crc_Four_1 : List AOper := [
  ⟨(some 3), (.mv (.t 0)), none⟩,
  ⟨(some 4), (.conv .u8 (.t 3)), none⟩,
  ⟨(some 5), (.mv (.t 0)), none⟩,
  ⟨(some 6), (.bin .shr (.t 5) (.v (.int .u64 8))), none⟩,
  ⟨(some 7), (.conv .u8 (.t 6)), none⟩,
  ⟨(some 8), (.mv (.t 0)), none⟩,
  ⟨(some 9), (.bin .shr (.t 8) (.v (.int .u64 16))), none⟩,
  ⟨(some 10), (.conv .u8 (.t 9)), none⟩,
  ⟨(some 11), (.mv (.t 0)), none⟩,
  ⟨(some 12), (.bin .shr (.t 11) (.v (.int .u64 24))), none⟩,
  ⟨(some 13), (.conv .u8 (.t 12)), none⟩,
  ⟨(some 14), (.build (.ia .u8 4) [(.iarr .u8 4 [0, 0, 0, 0])] [(0, (1, (.t 4))), (1, (1, (.t 7))), (2, (1, (.t 10))), (3, (1, (.t 13)))]), none⟩,
  ⟨none, (.store (.ia .u8 4) 4 (.t 2) (.t 14)), none⟩]
def a_crc_Four : AFunc := ⟨[(.cell 2 (.ia .u8 4) 4)], (.seq (.region q_crc_Four_0) (.seq (.region q_crc_Four_1) .ret))⟩

def q_crc_Of_0 : List AOper := [
  ⟨(some 2), (.mv (.v (.int .u32 0))), none⟩]
def q_crc_Of_1 : List AOper := [
  ⟨(some 3), (.mv (.t 0)), none⟩,
  ⟨(some 4), (.call F_crc_More [(.sc, (.v (.int .u32 0))), (.sc, (.t 3))]), none⟩,
  ⟨(some 2), (.mv (.t 4)), none⟩]
def a_crc_Of : AFunc := ⟨[(.tmp 2)], (.seq (.region q_crc_Of_0) (.seq (.region q_crc_Of_1) .ret))⟩

def q_crc_More_0 : List AOper := [
  ⟨(some 4), (.mv (.v (.int .u32 0))), none⟩]
def q_crc_More_1 : List AOper := [
  ⟨(some 8), (.mv (.t 0)), none⟩,
  ⟨(some 9), (.un .xor (.t 8)), none⟩,
  ⟨(some 5), (.mv (.t 9)), none⟩]
def q_crc_More_2 : List AOper := [
  ⟨(some 10), (.mv (.t 1)), none⟩,
  ⟨(some 11), (.len false (.t 10)), none⟩,
  ⟨(some 12), (.mv (.v (.int .i64 0))), none⟩]
def q_crc_More_3 : List AOper := [
  ⟨(some 13), (.bin .lss (.t 12) (.t 11)), none⟩]
def q_crc_More_4 : List AOper := [
  ⟨(some 14), (.idx 1 (.t 10) (.t 12)), none⟩,
  ⟨(some 15), (.load .sc 1 (.t 14)), none⟩,
  ⟨(some 7), (.mv (.t 15)), none⟩]
def q_crc_More_5 : List AOper := [
  ⟨(some 16), (.mv (.t 5)), none⟩,
  ⟨(some 17), (.mv (.t 7)), none⟩,
  ⟨(some 18), (.call F_crc_turn [(.sc, (.t 16)), (.sc, (.t 17))]), none⟩,
  ⟨(some 5), (.mv (.t 18)), none⟩]
def q_crc_More_6 : List AOper := [
  ⟨(some 19), (.bin .add (.t 12) (.v (.int .i64 1))), none⟩,
  ⟨(some 12), (.mv (.t 19)), none⟩]
def q_crc_More_L7 : ACode := (.seq (.region q_crc_More_3) (.seq (.cond (.t 13) .skip (.exit 0)) (.seq (.block 1 (.seq (.region q_crc_More_4) (.region q_crc_More_5))) (.region q_crc_More_6))))
def q_crc_More_7 : List AOper := [
  ⟨(some 20), (.mv (.t 5)), none⟩,
  ⟨(some 21), (.un .xor (.t 20)), none⟩,
  ⟨(some 4), (.mv (.t 21)), none⟩]
def a_crc_More : AFunc := ⟨[(.tmp 4)], (.seq (.region q_crc_More_0) (.seq (.region q_crc_More_1) (.seq (.seq (.region q_crc_More_2) (.block 0 (.loop q_crc_More_L7))) (.seq (.region q_crc_More_7) .ret))))⟩

def q_crc_turn_0 : List AOper := [
  ⟨(some 4), (.mv (.v (.int .u32 0))), none⟩]
def q_crc_turn_1 : List AOper := [
  ⟨(some 5), (.mv (.t 0)), none⟩,
  ⟨(some 6), (.mv (.t 1)), none⟩,
  ⟨(some 7), (.conv .u32 (.t 6)), none⟩,
  ⟨(some 8), (.bin .xor (.t 5) (.t 7)), none⟩,
  ⟨(some 0), (.mv (.t 8)), none⟩]
def q_crc_turn_2 : List AOper := [
  ⟨(some 9), (.mv (.v (.int .i64 0))), none⟩]
def q_crc_turn_3 : List AOper := [
  ⟨(some 10), (.bin .lss (.t 9) (.v (.int .i64 8))), none⟩]
def q_crc_turn_4 : List AOper := [
  ⟨(some 11), (.mv (.t 0)), none⟩,
  ⟨(some 12), (.bin .and (.t 11) (.v (.int .u32 1))), none⟩,
  ⟨(some 13), (.eq .scI false (.t 12) (.v (.int .u32 1))), none⟩]
def q_crc_turn_5 : List AOper := [
  ⟨(some 14), (.mv (.t 0)), none⟩,
  ⟨(some 15), (.bin .shr (.t 14) (.v (.int .u64 1))), none⟩,
  ⟨(some 16), (.bin .xor (.t 15) (.v (.int .u32 3988292384))), none⟩,
  ⟨(some 0), (.mv (.t 16)), none⟩]
def q_crc_turn_6 : List AOper := [
  ⟨(some 17), (.mv (.t 0)), none⟩,
  ⟨(some 18), (.bin .shr (.t 17) (.v (.int .u64 1))), none⟩,
  ⟨(some 0), (.mv (.t 18)), none⟩]
def q_crc_turn_7 : List AOper := [
  ⟨(some 19), (.bin .add (.t 9) (.v (.int .i64 1))), none⟩,
  ⟨(some 9), (.mv (.t 19)), none⟩]
def q_crc_turn_L8 : ACode := (.seq (.region q_crc_turn_3) (.seq (.cond (.t 10) .skip (.exit 0)) (.seq (.block 1 (.seq (.region q_crc_turn_4) (.cond (.t 13) (.region q_crc_turn_5) (.region q_crc_turn_6)))) (.region q_crc_turn_7))))
def q_crc_turn_8 : List AOper := [
  ⟨(some 20), (.mv (.t 0)), none⟩,
  ⟨(some 4), (.mv (.t 20)), none⟩]
def a_crc_turn : AFunc := ⟨[(.tmp 4)], (.seq (.region q_crc_turn_0) (.seq (.region q_crc_turn_1) (.seq (.seq (.region q_crc_turn_2) (.block 0 (.loop q_crc_turn_L8))) (.seq (.region q_crc_turn_8) .ret))))⟩

def q_ref02_Of_0 : List AOper := [
  ⟨(some 2), (.mv (.v (.int .u32 0))), none⟩]
def q_ref02_Of_1 : List AOper := [
  ⟨(some 11), (.mv (.t 0)), none⟩,
  ⟨(some 12), (.call F_ref02_bits [(.sc, (.t 11))]), none⟩,
  ⟨(some 13), (.xx (.appZ 5 .u8 1) [(.t 12), (.v (.int .i64 32))]), none⟩,
  ⟨(some 3), (.mv (.t 13)), none⟩]
def q_ref02_Of_2 : List AOper := [
  ⟨(some 4), (.mv (.v (.int .i64 0))), none⟩]
def q_ref02_Of_3 : List AOper := [
  ⟨(some 14), (.mv (.t 4)), none⟩,
  ⟨(some 15), (.bin .lss (.t 14) (.v (.int .i64 32))), none⟩]
def q_ref02_Of_4 : List AOper := [
  ⟨(some 18), (.mv (.t 3)), none⟩,
  ⟨(some 19), (.mv (.t 4)), none⟩,
  ⟨(some 20), (.mv (.t 3)), none⟩,
  ⟨(some 21), (.mv (.t 4)), none⟩,
  ⟨(some 22), (.idx 1 (.t 20) (.t 21)), none⟩,
  ⟨(some 23), (.load .sc 1 (.t 22)), none⟩,
  ⟨(some 24), (.bin .sub (.v (.int .u8 1)) (.t 23)), none⟩,
  ⟨(some 25), (.idx 1 (.t 18) (.t 19)), none⟩,
  ⟨none, (.store .sc 1 (.t 25) (.t 24)), none⟩]
def q_ref02_Of_5 : List AOper := [
  ⟨(some 16), (.mv (.t 4)), none⟩,
  ⟨(some 17), (.bin .add (.t 16) (.v (.int .i64 1))), none⟩,
  ⟨(some 4), (.mv (.t 17)), none⟩]
def q_ref02_Of_L6 : ACode := (.seq (.seq (.region q_ref02_Of_3) (.cond (.t 15) .skip (.exit 0))) (.seq (.block 1 (.region q_ref02_Of_4)) (.region q_ref02_Of_5)))
def q_ref02_Of_6 : List AOper := [
  ⟨(some 26), (.bslI 5 .u8 [(.v (.int .u8 1)), (.v (.int .u8 0)), (.v (.int .u8 0)), (.v (.int .u8 0)), (.v (.int .u8 0)), (.v (.int .u8 0)), (.v (.int .u8 1)), (.v (.int .u8 0)), (.v (.int .u8 0)), (.v (.int .u8 1)), (.v (.int .u8 1)), (.v (.int .u8 0)), (.v (.int .u8 0)), (.v (.int .u8 0)), (.v (.int .u8 0)), (.v (.int .u8 0)), (.v (.int .u8 1)), (.v (.int .u8 0)), (.v (.int .u8 0)), (.v (.int .u8 0)), (.v (.int .u8 1)), (.v (.int .u8 1)), (.v (.int .u8 1)), (.v (.int .u8 0)), (.v (.int .u8 1)), (.v (.int .u8 1)), (.v (.int .u8 0)), (.v (.int .u8 1)), (.v (.int .u8 1)), (.v (.int .u8 0)), (.v (.int .u8 1)), (.v (.int .u8 1)), (.v (.int .u8 1))]), none⟩,
  ⟨(some 5), (.mv (.t 26)), none⟩]
def q_ref02_Of_7 : List AOper := [
  ⟨(some 6), (.mv (.v (.int .i64 0))), none⟩]
def q_ref02_Of_8 : List AOper := [
  ⟨(some 27), (.mv (.t 6)), none⟩,
  ⟨(some 28), (.bin .add (.t 27) (.v (.int .i64 32))), none⟩,
  ⟨(some 29), (.mv (.t 3)), none⟩,
  ⟨(some 30), (.len false (.t 29)), none⟩,
  ⟨(some 31), (.bin .lss (.t 28) (.t 30)), none⟩]
def q_ref02_Of_9 : List AOper := [
  ⟨(some 34), (.mv (.t 3)), none⟩,
  ⟨(some 35), (.mv (.t 6)), none⟩,
  ⟨(some 36), (.idx 1 (.t 34) (.t 35)), none⟩,
  ⟨(some 37), (.load .sc 1 (.t 36)), none⟩,
  ⟨(some 38), (.eq .scI false (.t 37) (.v (.int .u8 1))), none⟩]
def q_ref02_Of_10 : List AOper := [
  ⟨(some 7), (.mv (.v (.int .i64 0))), none⟩]
def q_ref02_Of_11 : List AOper := [
  ⟨(some 39), (.mv (.t 7)), none⟩,
  ⟨(some 40), (.bin .lss (.t 39) (.v (.int .i64 33))), none⟩]
def q_ref02_Of_12 : List DOp := [
  ⟨⟨(some 43), (.mv (.t 3)), none⟩, true, false, none, []⟩,
  ⟨⟨(some 44), (.mv (.t 6)), none⟩, true, false, none, []⟩,
  ⟨⟨(some 45), (.mv (.t 7)), none⟩, true, false, none, []⟩,
  ⟨⟨(some 46), (.bin .add (.t 44) (.t 45)), none⟩, true, false, none, []⟩,
  ⟨⟨(some 47), (.mv (.t 3)), none⟩, true, false, none, []⟩,
  ⟨⟨(some 48), (.mv (.t 6)), none⟩, true, false, none, []⟩,
  ⟨⟨(some 49), (.mv (.t 7)), none⟩, true, false, none, []⟩,
  ⟨⟨(some 50), (.bin .add (.t 48) (.t 49)), none⟩, true, false, none, []⟩,
  ⟨⟨(some 51), (.idx 1 (.t 47) (.t 50)), none⟩, true, false, none, []⟩,
  ⟨⟨(some 52), (.load .sc 1 (.t 51)), none⟩, true, false, none, []⟩,
  ⟨⟨(some 53), (.mv (.t 5)), none⟩, true, false, none, []⟩,
  ⟨⟨(some 54), (.mv (.t 7)), none⟩, true, false, none, []⟩,
  ⟨⟨(some 55), (.idx 1 (.t 53) (.t 54)), none⟩, true, false, none, []⟩,
  ⟨⟨(some 56), (.load .sc 1 (.t 55)), none⟩, true, false, none, []⟩,
  ⟨⟨(some 57), (.bin .xor (.t 52) (.t 56)), none⟩, true, false, none, []⟩,
  ⟨⟨(some 58), (.idx 1 (.t 43) (.t 46)), none⟩, true, false, none, []⟩,
  ⟨⟨none, (.store .sc 1 (.t 58) (.t 57)), none⟩, false, false, none, []⟩]
def q_ref02_Of_13 : List AOper := [
  ⟨(some 41), (.mv (.t 7)), none⟩,
  ⟨(some 42), (.bin .add (.t 41) (.v (.int .i64 1))), none⟩,
  ⟨(some 7), (.mv (.t 42)), none⟩]
def q_ref02_Of_L14 : ACode := (.seq (.seq (.region q_ref02_Of_11) (.cond (.t 40) .skip (.exit 4))) (.seq (.block 5 (.regionD q_ref02_Of_12)) (.region q_ref02_Of_13)))
def q_ref02_Of_14 : List AOper := [
  ⟨(some 32), (.mv (.t 6)), none⟩,
  ⟨(some 33), (.bin .add (.t 32) (.v (.int .i64 1))), none⟩,
  ⟨(some 6), (.mv (.t 33)), none⟩]
def q_ref02_Of_L15 : ACode := (.seq (.seq (.region q_ref02_Of_8) (.cond (.t 31) .skip (.exit 2))) (.seq (.block 3 (.seq (.region q_ref02_Of_9) (.cond (.t 38) (.seq (.region q_ref02_Of_10) (.block 4 (.loop q_ref02_Of_L14))) .skip))) (.region q_ref02_Of_14)))
def q_ref02_Of_15 : List AOper := [
  ⟨(some 8), (.mv (.v (.int .u32 0))), none⟩]
def q_ref02_Of_16 : List AOper := [
  ⟨(some 59), (.mv (.t 3)), none⟩,
  ⟨(some 60), (.len false (.t 59)), none⟩,
  ⟨(some 61), (.bin .sub (.t 60) (.v (.int .i64 32))), none⟩,
  ⟨(some 9), (.mv (.t 61)), none⟩]
def q_ref02_Of_17 : List AOper := [
  ⟨(some 10), (.mv (.v (.int .i64 0))), none⟩]
def q_ref02_Of_18 : List AOper := [
  ⟨(some 62), (.mv (.t 10)), none⟩,
  ⟨(some 63), (.bin .lss (.t 62) (.v (.int .i64 32))), none⟩]
def q_ref02_Of_19 : List AOper := [
  ⟨(some 66), (.mv (.t 8)), none⟩,
  ⟨(some 67), (.mv (.t 3)), none⟩,
  ⟨(some 68), (.mv (.t 9)), none⟩,
  ⟨(some 69), (.mv (.t 10)), none⟩,
  ⟨(some 70), (.bin .add (.t 68) (.t 69)), none⟩,
  ⟨(some 71), (.idx 1 (.t 67) (.t 70)), none⟩,
  ⟨(some 72), (.load .sc 1 (.t 71)), none⟩,
  ⟨(some 73), (.bin .sub (.v (.int .u8 1)) (.t 72)), none⟩,
  ⟨(some 74), (.conv .u32 (.t 73)), none⟩,
  ⟨(some 75), (.mv (.t 10)), none⟩,
  ⟨(some 76), (.conv .u64 (.t 75)), none⟩,
  ⟨(some 77), (.bin .shl (.t 74) (.t 76)), none⟩,
  ⟨(some 78), (.bin .or (.t 66) (.t 77)), none⟩,
  ⟨(some 8), (.mv (.t 78)), none⟩]
def q_ref02_Of_20 : List AOper := [
  ⟨(some 64), (.mv (.t 10)), none⟩,
  ⟨(some 65), (.bin .add (.t 64) (.v (.int .i64 1))), none⟩,
  ⟨(some 10), (.mv (.t 65)), none⟩]
def q_ref02_Of_L21 : ACode := (.seq (.seq (.region q_ref02_Of_18) (.cond (.t 63) .skip (.exit 6))) (.seq (.block 7 (.region q_ref02_Of_19)) (.region q_ref02_Of_20)))
def q_ref02_Of_21 : List AOper := [
  ⟨(some 79), (.mv (.t 8)), none⟩,
  ⟨(some 2), (.mv (.t 79)), none⟩]
def a_ref02_Of : AFunc := ⟨[(.tmp 2)], (.seq (.region q_ref02_Of_0) (.seq (.region q_ref02_Of_1) (.seq (.seq (.region q_ref02_Of_2) (.block 0 (.loop q_ref02_Of_L6))) (.seq (.region q_ref02_Of_6) (.seq (.seq (.region q_ref02_Of_7) (.block 2 (.loop q_ref02_Of_L15))) (.seq (.region q_ref02_Of_15) (.seq (.region q_ref02_Of_16) (.seq (.seq (.region q_ref02_Of_17) (.block 6 (.loop q_ref02_Of_L21))) (.seq (.region q_ref02_Of_21) .ret)))))))))⟩

def q_ref02_bits_0 : List AOper := [
  ⟨(some 2), (.mv (.v .nilS)), none⟩]
def q_ref02_bits_1 : List AOper := [
  ⟨(some 3), (.mv (.v .nilS)), none⟩]
def q_ref02_bits_2 : List AOper := [
  ⟨(some 4), (.mv (.v (.int .i64 0))), none⟩]
def q_ref02_bits_3 : List AOper := [
  ⟨(some 6), (.mv (.t 4)), none⟩,
  ⟨(some 7), (.mv (.t 0)), none⟩,
  ⟨(some 8), (.len false (.t 7)), none⟩,
  ⟨(some 9), (.bin .lss (.t 6) (.t 8)), none⟩]
def q_ref02_bits_4 : List AOper := [
  ⟨(some 5), (.mv (.v (.int .i64 0))), none⟩]
def q_ref02_bits_5 : List AOper := [
  ⟨(some 12), (.mv (.t 5)), none⟩,
  ⟨(some 13), (.bin .lss (.t 12) (.v (.int .i64 8))), none⟩]
def q_ref02_bits_6 : List AOper := [
  ⟨(some 16), (.mv (.t 3)), none⟩,
  ⟨(some 17), (.mv (.t 0)), none⟩,
  ⟨(some 18), (.mv (.t 4)), none⟩,
  ⟨(some 19), (.idx 1 (.t 17) (.t 18)), none⟩,
  ⟨(some 20), (.load .sc 1 (.t 19)), none⟩,
  ⟨(some 21), (.mv (.t 5)), none⟩,
  ⟨(some 22), (.conv .u64 (.t 21)), none⟩,
  ⟨(some 23), (.bin .shr (.t 20) (.t 22)), none⟩,
  ⟨(some 24), (.bin .and (.t 23) (.v (.int .u8 1))), none⟩,
  ⟨(some 25), (.bslI 5 .u8 [(.t 24)]), none⟩,
  ⟨(some 26), (.appI 5 .u8 1 (.t 16) (.t 25)), none⟩,
  ⟨(some 3), (.mv (.t 26)), none⟩]
def q_ref02_bits_7 : List AOper := [
  ⟨(some 14), (.mv (.t 5)), none⟩,
  ⟨(some 15), (.bin .add (.t 14) (.v (.int .i64 1))), none⟩,
  ⟨(some 5), (.mv (.t 15)), none⟩]
def q_ref02_bits_L8 : ACode := (.seq (.seq (.region q_ref02_bits_5) (.cond (.t 13) .skip (.exit 2))) (.seq (.block 3 (.region q_ref02_bits_6)) (.region q_ref02_bits_7)))
def q_ref02_bits_8 : List AOper := [
  ⟨(some 10), (.mv (.t 4)), none⟩,
  ⟨(some 11), (.bin .add (.t 10) (.v (.int .i64 1))), none⟩,
  ⟨(some 4), (.mv (.t 11)), none⟩]
def q_ref02_bits_L9 : ACode := (.seq (.seq (.region q_ref02_bits_3) (.cond (.t 9) .skip (.exit 0))) (.seq (.block 1 (.seq (.region q_ref02_bits_4) (.block 2 (.loop q_ref02_bits_L8)))) (.region q_ref02_bits_8)))
def q_ref02_bits_9 : List AOper := [
  ⟨(some 27), (.mv (.t 3)), none⟩,
  ⟨(some 2), (.mv (.t 27)), none⟩]
def a_ref02_bits : AFunc := ⟨[(.tmp 2)], (.seq (.region q_ref02_bits_0) (.seq (.region q_ref02_bits_1) (.seq (.seq (.region q_ref02_bits_2) (.block 0 (.loop q_ref02_bits_L9))) (.seq (.region q_ref02_bits_9) .ret))))⟩

def q_ref08_Sealed_0 : List AOper := [
  ⟨(some 2), (.alloc 54 [(.iarr .u8 256 (List.replicate 256 0))]), none⟩]
def q_ref08_Sealed_1 : List AOper := [
  ⟨(some 3), (.mv (.v .nilS)), none⟩]
def q_ref08_Sealed_2 : List AOper := [
  ⟨(some 6), (.mv (.t 3)), none⟩,
  ⟨(some 7), (.mv (.t 0)), none⟩,
  ⟨(some 8), (.appI 5 .u8 1 (.t 6) (.t 7)), none⟩,
  ⟨(some 3), (.mv (.t 8)), none⟩]
def q_ref08_Sealed_3 : List AOper := [
  ⟨(some 9), (.mv (.t 3)), none⟩,
  ⟨(some 10), (.len false (.t 9)), none⟩,
  ⟨(some 11), (.bin .lss (.t 10) (.v (.int .i64 252))), none⟩]
def q_ref08_Sealed_4 : List AOper := [
  ⟨(some 12), (.mv (.t 3)), none⟩,
  ⟨(some 13), (.bslI 5 .u8 [(.v (.int .u8 0))]), none⟩,
  ⟨(some 14), (.appI 5 .u8 1 (.t 12) (.t 13)), none⟩,
  ⟨(some 3), (.mv (.t 14)), none⟩]
def q_ref08_Sealed_L5 : ACode := (.seq (.seq (.region q_ref08_Sealed_3) (.cond (.t 11) .skip (.exit 0))) (.block 1 (.region q_ref08_Sealed_4)))
def q_ref08_Sealed_5 : List AOper := [
  ⟨(some 15), (.mv (.t 3)), none⟩,
  ⟨(some 16), (.mv (.t 3)), none⟩,
  ⟨(some 17), (.call F_ref02_Of [(.sc, (.t 16))]), none⟩,
  ⟨(some 18), (.conv .u64 (.t 17)), none⟩,
  ⟨(some 19), (.call F_ref01_Put [(.sc, (.t 18)), (.sc, (.v (.int .i64 4)))]), none⟩,
  ⟨(some 20), (.appI 5 .u8 1 (.t 15) (.t 19)), none⟩,
  ⟨(some 3), (.mv (.t 20)), none⟩]
def q_ref08_Sealed_6 : List AOper := [
  ⟨(some 4), (.alloc 54 [(.iarr .u8 256 (List.replicate 256 0))]), none⟩]
def q_ref08_Sealed_7 : List AOper := [
  ⟨(some 5), (.mv (.v (.int .i64 0))), none⟩]
def q_ref08_Sealed_8 : List AOper := [
  ⟨(some 21), (.mv (.t 5)), none⟩,
  ⟨(some 22), (.bin .lss (.t 21) (.v (.int .i64 256))), none⟩]
def q_ref08_Sealed_9 : List AOper := [
  ⟨(some 25), (.mv (.t 5)), none⟩,
  ⟨(some 26), (.mv (.t 3)), none⟩,
  ⟨(some 27), (.mv (.t 5)), none⟩,
  ⟨(some 28), (.idx 1 (.t 26) (.t 27)), none⟩,
  ⟨(some 29), (.load .sc 1 (.t 28)), none⟩,
  ⟨(some 30), (.idxA 256 1 true (.t 4) (.t 25)), none⟩,
  ⟨none, (.store .sc 1 (.t 30) (.t 29)), none⟩]
def q_ref08_Sealed_10 : List AOper := [
  ⟨(some 23), (.mv (.t 5)), none⟩,
  ⟨(some 24), (.bin .add (.t 23) (.v (.int .i64 1))), none⟩,
  ⟨(some 5), (.mv (.t 24)), none⟩]
def q_ref08_Sealed_L11 : ACode := (.seq (.seq (.region q_ref08_Sealed_8) (.cond (.t 22) .skip (.exit 2))) (.seq (.block 3 (.region q_ref08_Sealed_9)) (.region q_ref08_Sealed_10)))
def q_ref08_Sealed_11 : List AOper := [
  ⟨(some 31), (.load (.ia .u8 256) 256 (.t 4)), none⟩,
  ⟨none, (.store (.ia .u8 256) 256 (.t 2) (.t 31)), none⟩]
def a_ref08_Sealed : AFunc := ⟨[(.cell 2 (.ia .u8 256) 256)], (.seq (.region q_ref08_Sealed_0) (.seq (.region q_ref08_Sealed_1) (.seq (.region q_ref08_Sealed_2) (.seq (.block 0 (.loop q_ref08_Sealed_L5)) (.seq (.region q_ref08_Sealed_5) (.seq (.region q_ref08_Sealed_6) (.seq (.seq (.region q_ref08_Sealed_7) (.block 2 (.loop q_ref08_Sealed_L11))) (.seq (.region q_ref08_Sealed_11) .ret))))))))⟩


theorem c_crc_Sealed : trF Try.prog Try.f64 = some a_crc_Sealed := by kernel_rfl
theorem g_crc_Sealed : Try.prog.funcs[64]? = some Try.f64 := by kernel_rfl
theorem i_crc_Sealed {args : List AV} {A : Heap} {Ko : AOut → Heap → Prop} (hn : args.length ≤ 12)
    (h : ∀ R : APost, (∀ e env A, fpost a_crc_Sealed.res Ko e env A → R e env A) → X Try.prog R a_crc_Sealed.body .done (env0 args) A) : SimX Try.prog F_crc_Sealed args A Ko :=
  X_intro g_crc_Sealed c_crc_Sealed (by rw [Try.ntmps64]; exact hn) h
theorem v_crc_Sealed {args : List AV} {v : AV} (hn : args.length ≤ 12) (h : X Try.prog (fin a_crc_Sealed.res v) a_crc_Sealed.body .done (env0 args) H0) : Gives Try.prog F_crc_Sealed args v :=
  Gives_intro g_crc_Sealed c_crc_Sealed (by rw [Try.ntmps64]; exact hn) h
theorem e_crc_Sealed {args : List AV} {Q : AOut → Prop} (hn : args.length ≤ 12) (h : X Try.prog (finE a_crc_Sealed.res Q) a_crc_Sealed.body .done (env0 args) H0) : Fins Try.prog F_crc_Sealed args Q :=
  Fins_intro g_crc_Sealed c_crc_Sealed (by rw [Try.ntmps64]; exact hn) h
theorem j_crc_Sealed {args : List AV} {A : Heap} {K Kp : AV → Heap → Prop} (hn : args.length ≤ 12) (h : X Try.prog (inl a_crc_Sealed.res K Kp) a_crc_Sealed.body .done (env0 args) A) : SimX Try.prog F_crc_Sealed args A (outK K Kp) :=
  X_inl g_crc_Sealed c_crc_Sealed (by rw [Try.ntmps64]; exact hn) h
theorem d_crc_Sealed {args : List AV} {A : Heap} {Ko : AOut → Heap → Prop} (hn : args.length ≤ 12) (hrf : AVL.Func.hasRF Try.f64 = false)
    (h : ∀ R : APost, (∀ e env A, fpost a_crc_Sealed.res Ko e env A → R e env A) → X Try.prog R a_crc_Sealed.body .done (env0 args) A) : SimD Try.prog F_crc_Sealed args A Ko :=
  X_introD g_crc_Sealed c_crc_Sealed (by rw [Try.ntmps64]; exact hn) hrf h
@[simp] theorem k_crc_Sealed : callable Try.prog F_crc_Sealed = true := by kernel_rfl
theorem c_crc_Holds : trF Try.prog Try.f68 = some a_crc_Holds := by kernel_rfl
theorem g_crc_Holds : Try.prog.funcs[68]? = some Try.f68 := by kernel_rfl
theorem i_crc_Holds {args : List AV} {A : Heap} {Ko : AOut → Heap → Prop} (hn : args.length ≤ 20)
    (h : ∀ R : APost, (∀ e env A, fpost a_crc_Holds.res Ko e env A → R e env A) → X Try.prog R a_crc_Holds.body .done (env0 args) A) : SimX Try.prog F_crc_Holds args A Ko :=
  X_intro g_crc_Holds c_crc_Holds (by rw [Try.ntmps68]; exact hn) h
theorem v_crc_Holds {args : List AV} {v : AV} (hn : args.length ≤ 20) (h : X Try.prog (fin a_crc_Holds.res v) a_crc_Holds.body .done (env0 args) H0) : Gives Try.prog F_crc_Holds args v :=
  Gives_intro g_crc_Holds c_crc_Holds (by rw [Try.ntmps68]; exact hn) h
theorem e_crc_Holds {args : List AV} {Q : AOut → Prop} (hn : args.length ≤ 20) (h : X Try.prog (finE a_crc_Holds.res Q) a_crc_Holds.body .done (env0 args) H0) : Fins Try.prog F_crc_Holds args Q :=
  Fins_intro g_crc_Holds c_crc_Holds (by rw [Try.ntmps68]; exact hn) h
theorem j_crc_Holds {args : List AV} {A : Heap} {K Kp : AV → Heap → Prop} (hn : args.length ≤ 20) (h : X Try.prog (inl a_crc_Holds.res K Kp) a_crc_Holds.body .done (env0 args) A) : SimX Try.prog F_crc_Holds args A (outK K Kp) :=
  X_inl g_crc_Holds c_crc_Holds (by rw [Try.ntmps68]; exact hn) h
theorem d_crc_Holds {args : List AV} {A : Heap} {Ko : AOut → Heap → Prop} (hn : args.length ≤ 20) (hrf : AVL.Func.hasRF Try.f68 = false)
    (h : ∀ R : APost, (∀ e env A, fpost a_crc_Holds.res Ko e env A → R e env A) → X Try.prog R a_crc_Holds.body .done (env0 args) A) : SimD Try.prog F_crc_Holds args A Ko :=
  X_introD g_crc_Holds c_crc_Holds (by rw [Try.ntmps68]; exact hn) hrf h
@[simp] theorem k_crc_Holds : callable Try.prog F_crc_Holds = true := by kernel_rfl
theorem c_crc_Four : trF Try.prog Try.f89 = some a_crc_Four := by kernel_rfl
theorem g_crc_Four : Try.prog.funcs[89]? = some Try.f89 := by kernel_rfl
theorem i_crc_Four {args : List AV} {A : Heap} {Ko : AOut → Heap → Prop} (hn : args.length ≤ 15)
    (h : ∀ R : APost, (∀ e env A, fpost a_crc_Four.res Ko e env A → R e env A) → X Try.prog R a_crc_Four.body .done (env0 args) A) : SimX Try.prog F_crc_Four args A Ko :=
  X_intro g_crc_Four c_crc_Four (by rw [Try.ntmps89]; exact hn) h
theorem v_crc_Four {args : List AV} {v : AV} (hn : args.length ≤ 15) (h : X Try.prog (fin a_crc_Four.res v) a_crc_Four.body .done (env0 args) H0) : Gives Try.prog F_crc_Four args v :=
  Gives_intro g_crc_Four c_crc_Four (by rw [Try.ntmps89]; exact hn) h
theorem e_crc_Four {args : List AV} {Q : AOut → Prop} (hn : args.length ≤ 15) (h : X Try.prog (finE a_crc_Four.res Q) a_crc_Four.body .done (env0 args) H0) : Fins Try.prog F_crc_Four args Q :=
  Fins_intro g_crc_Four c_crc_Four (by rw [Try.ntmps89]; exact hn) h
theorem j_crc_Four {args : List AV} {A : Heap} {K Kp : AV → Heap → Prop} (hn : args.length ≤ 15) (h : X Try.prog (inl a_crc_Four.res K Kp) a_crc_Four.body .done (env0 args) A) : SimX Try.prog F_crc_Four args A (outK K Kp) :=
  X_inl g_crc_Four c_crc_Four (by rw [Try.ntmps89]; exact hn) h
theorem d_crc_Four {args : List AV} {A : Heap} {Ko : AOut → Heap → Prop} (hn : args.length ≤ 15) (hrf : AVL.Func.hasRF Try.f89 = false)
    (h : ∀ R : APost, (∀ e env A, fpost a_crc_Four.res Ko e env A → R e env A) → X Try.prog R a_crc_Four.body .done (env0 args) A) : SimD Try.prog F_crc_Four args A Ko :=
  X_introD g_crc_Four c_crc_Four (by rw [Try.ntmps89]; exact hn) hrf h
@[simp] theorem k_crc_Four : callable Try.prog F_crc_Four = true := by kernel_rfl
theorem c_crc_Of : trF Try.prog Try.f90 = some a_crc_Of := by kernel_rfl
theorem g_crc_Of : Try.prog.funcs[90]? = some Try.f90 := by kernel_rfl
theorem i_crc_Of {args : List AV} {A : Heap} {Ko : AOut → Heap → Prop} (hn : args.length ≤ 5)
    (h : ∀ R : APost, (∀ e env A, fpost a_crc_Of.res Ko e env A → R e env A) → X Try.prog R a_crc_Of.body .done (env0 args) A) : SimX Try.prog F_crc_Of args A Ko :=
  X_intro g_crc_Of c_crc_Of (by rw [Try.ntmps90]; exact hn) h
theorem v_crc_Of {args : List AV} {v : AV} (hn : args.length ≤ 5) (h : X Try.prog (fin a_crc_Of.res v) a_crc_Of.body .done (env0 args) H0) : Gives Try.prog F_crc_Of args v :=
  Gives_intro g_crc_Of c_crc_Of (by rw [Try.ntmps90]; exact hn) h
theorem e_crc_Of {args : List AV} {Q : AOut → Prop} (hn : args.length ≤ 5) (h : X Try.prog (finE a_crc_Of.res Q) a_crc_Of.body .done (env0 args) H0) : Fins Try.prog F_crc_Of args Q :=
  Fins_intro g_crc_Of c_crc_Of (by rw [Try.ntmps90]; exact hn) h
theorem j_crc_Of {args : List AV} {A : Heap} {K Kp : AV → Heap → Prop} (hn : args.length ≤ 5) (h : X Try.prog (inl a_crc_Of.res K Kp) a_crc_Of.body .done (env0 args) A) : SimX Try.prog F_crc_Of args A (outK K Kp) :=
  X_inl g_crc_Of c_crc_Of (by rw [Try.ntmps90]; exact hn) h
theorem d_crc_Of {args : List AV} {A : Heap} {Ko : AOut → Heap → Prop} (hn : args.length ≤ 5) (hrf : AVL.Func.hasRF Try.f90 = false)
    (h : ∀ R : APost, (∀ e env A, fpost a_crc_Of.res Ko e env A → R e env A) → X Try.prog R a_crc_Of.body .done (env0 args) A) : SimD Try.prog F_crc_Of args A Ko :=
  X_introD g_crc_Of c_crc_Of (by rw [Try.ntmps90]; exact hn) hrf h
@[simp] theorem k_crc_Of : callable Try.prog F_crc_Of = true := by kernel_rfl
theorem c_crc_More : trF Try.prog Try.f98 = some a_crc_More := by kernel_rfl
theorem g_crc_More : Try.prog.funcs[98]? = some Try.f98 := by kernel_rfl
theorem i_crc_More {args : List AV} {A : Heap} {Ko : AOut → Heap → Prop} (hn : args.length ≤ 22)
    (h : ∀ R : APost, (∀ e env A, fpost a_crc_More.res Ko e env A → R e env A) → X Try.prog R a_crc_More.body .done (env0 args) A) : SimX Try.prog F_crc_More args A Ko :=
  X_intro g_crc_More c_crc_More (by rw [Try.ntmps98]; exact hn) h
theorem v_crc_More {args : List AV} {v : AV} (hn : args.length ≤ 22) (h : X Try.prog (fin a_crc_More.res v) a_crc_More.body .done (env0 args) H0) : Gives Try.prog F_crc_More args v :=
  Gives_intro g_crc_More c_crc_More (by rw [Try.ntmps98]; exact hn) h
theorem e_crc_More {args : List AV} {Q : AOut → Prop} (hn : args.length ≤ 22) (h : X Try.prog (finE a_crc_More.res Q) a_crc_More.body .done (env0 args) H0) : Fins Try.prog F_crc_More args Q :=
  Fins_intro g_crc_More c_crc_More (by rw [Try.ntmps98]; exact hn) h
theorem j_crc_More {args : List AV} {A : Heap} {K Kp : AV → Heap → Prop} (hn : args.length ≤ 22) (h : X Try.prog (inl a_crc_More.res K Kp) a_crc_More.body .done (env0 args) A) : SimX Try.prog F_crc_More args A (outK K Kp) :=
  X_inl g_crc_More c_crc_More (by rw [Try.ntmps98]; exact hn) h
theorem d_crc_More {args : List AV} {A : Heap} {Ko : AOut → Heap → Prop} (hn : args.length ≤ 22) (hrf : AVL.Func.hasRF Try.f98 = false)
    (h : ∀ R : APost, (∀ e env A, fpost a_crc_More.res Ko e env A → R e env A) → X Try.prog R a_crc_More.body .done (env0 args) A) : SimD Try.prog F_crc_More args A Ko :=
  X_introD g_crc_More c_crc_More (by rw [Try.ntmps98]; exact hn) hrf h
@[simp] theorem k_crc_More : callable Try.prog F_crc_More = true := by kernel_rfl
theorem c_crc_turn : trF Try.prog Try.f100 = some a_crc_turn := by kernel_rfl
theorem g_crc_turn : Try.prog.funcs[100]? = some Try.f100 := by kernel_rfl
theorem i_crc_turn {args : List AV} {A : Heap} {Ko : AOut → Heap → Prop} (hn : args.length ≤ 21)
    (h : ∀ R : APost, (∀ e env A, fpost a_crc_turn.res Ko e env A → R e env A) → X Try.prog R a_crc_turn.body .done (env0 args) A) : SimX Try.prog F_crc_turn args A Ko :=
  X_intro g_crc_turn c_crc_turn (by rw [Try.ntmps100]; exact hn) h
theorem v_crc_turn {args : List AV} {v : AV} (hn : args.length ≤ 21) (h : X Try.prog (fin a_crc_turn.res v) a_crc_turn.body .done (env0 args) H0) : Gives Try.prog F_crc_turn args v :=
  Gives_intro g_crc_turn c_crc_turn (by rw [Try.ntmps100]; exact hn) h
theorem e_crc_turn {args : List AV} {Q : AOut → Prop} (hn : args.length ≤ 21) (h : X Try.prog (finE a_crc_turn.res Q) a_crc_turn.body .done (env0 args) H0) : Fins Try.prog F_crc_turn args Q :=
  Fins_intro g_crc_turn c_crc_turn (by rw [Try.ntmps100]; exact hn) h
theorem j_crc_turn {args : List AV} {A : Heap} {K Kp : AV → Heap → Prop} (hn : args.length ≤ 21) (h : X Try.prog (inl a_crc_turn.res K Kp) a_crc_turn.body .done (env0 args) A) : SimX Try.prog F_crc_turn args A (outK K Kp) :=
  X_inl g_crc_turn c_crc_turn (by rw [Try.ntmps100]; exact hn) h
theorem d_crc_turn {args : List AV} {A : Heap} {Ko : AOut → Heap → Prop} (hn : args.length ≤ 21) (hrf : AVL.Func.hasRF Try.f100 = false)
    (h : ∀ R : APost, (∀ e env A, fpost a_crc_turn.res Ko e env A → R e env A) → X Try.prog R a_crc_turn.body .done (env0 args) A) : SimD Try.prog F_crc_turn args A Ko :=
  X_introD g_crc_turn c_crc_turn (by rw [Try.ntmps100]; exact hn) hrf h
@[simp] theorem k_crc_turn : callable Try.prog F_crc_turn = true := by kernel_rfl
theorem c_ref02_Of : trF Try.prog Try.f92 = some a_ref02_Of := by kernel_rfl
theorem g_ref02_Of : Try.prog.funcs[92]? = some Try.f92 := by kernel_rfl
theorem i_ref02_Of {args : List AV} {A : Heap} {Ko : AOut → Heap → Prop} (hn : args.length ≤ 80)
    (h : ∀ R : APost, (∀ e env A, fpost a_ref02_Of.res Ko e env A → R e env A) → X Try.prog R a_ref02_Of.body .done (env0 args) A) : SimX Try.prog F_ref02_Of args A Ko :=
  X_intro g_ref02_Of c_ref02_Of (by rw [Try.ntmps92]; exact hn) h
theorem v_ref02_Of {args : List AV} {v : AV} (hn : args.length ≤ 80) (h : X Try.prog (fin a_ref02_Of.res v) a_ref02_Of.body .done (env0 args) H0) : Gives Try.prog F_ref02_Of args v :=
  Gives_intro g_ref02_Of c_ref02_Of (by rw [Try.ntmps92]; exact hn) h
theorem e_ref02_Of {args : List AV} {Q : AOut → Prop} (hn : args.length ≤ 80) (h : X Try.prog (finE a_ref02_Of.res Q) a_ref02_Of.body .done (env0 args) H0) : Fins Try.prog F_ref02_Of args Q :=
  Fins_intro g_ref02_Of c_ref02_Of (by rw [Try.ntmps92]; exact hn) h
theorem j_ref02_Of {args : List AV} {A : Heap} {K Kp : AV → Heap → Prop} (hn : args.length ≤ 80) (h : X Try.prog (inl a_ref02_Of.res K Kp) a_ref02_Of.body .done (env0 args) A) : SimX Try.prog F_ref02_Of args A (outK K Kp) :=
  X_inl g_ref02_Of c_ref02_Of (by rw [Try.ntmps92]; exact hn) h
theorem d_ref02_Of {args : List AV} {A : Heap} {Ko : AOut → Heap → Prop} (hn : args.length ≤ 80) (hrf : AVL.Func.hasRF Try.f92 = false)
    (h : ∀ R : APost, (∀ e env A, fpost a_ref02_Of.res Ko e env A → R e env A) → X Try.prog R a_ref02_Of.body .done (env0 args) A) : SimD Try.prog F_ref02_Of args A Ko :=
  X_introD g_ref02_Of c_ref02_Of (by rw [Try.ntmps92]; exact hn) hrf h
@[simp] theorem k_ref02_Of : callable Try.prog F_ref02_Of = true := by kernel_rfl
theorem c_ref02_bits : trF Try.prog Try.f99 = some a_ref02_bits := by kernel_rfl
theorem g_ref02_bits : Try.prog.funcs[99]? = some Try.f99 := by kernel_rfl
theorem i_ref02_bits {args : List AV} {A : Heap} {Ko : AOut → Heap → Prop} (hn : args.length ≤ 28)
    (h : ∀ R : APost, (∀ e env A, fpost a_ref02_bits.res Ko e env A → R e env A) → X Try.prog R a_ref02_bits.body .done (env0 args) A) : SimX Try.prog F_ref02_bits args A Ko :=
  X_intro g_ref02_bits c_ref02_bits (by rw [Try.ntmps99]; exact hn) h
theorem v_ref02_bits {args : List AV} {v : AV} (hn : args.length ≤ 28) (h : X Try.prog (fin a_ref02_bits.res v) a_ref02_bits.body .done (env0 args) H0) : Gives Try.prog F_ref02_bits args v :=
  Gives_intro g_ref02_bits c_ref02_bits (by rw [Try.ntmps99]; exact hn) h
theorem e_ref02_bits {args : List AV} {Q : AOut → Prop} (hn : args.length ≤ 28) (h : X Try.prog (finE a_ref02_bits.res Q) a_ref02_bits.body .done (env0 args) H0) : Fins Try.prog F_ref02_bits args Q :=
  Fins_intro g_ref02_bits c_ref02_bits (by rw [Try.ntmps99]; exact hn) h
theorem j_ref02_bits {args : List AV} {A : Heap} {K Kp : AV → Heap → Prop} (hn : args.length ≤ 28) (h : X Try.prog (inl a_ref02_bits.res K Kp) a_ref02_bits.body .done (env0 args) A) : SimX Try.prog F_ref02_bits args A (outK K Kp) :=
  X_inl g_ref02_bits c_ref02_bits (by rw [Try.ntmps99]; exact hn) h
theorem d_ref02_bits {args : List AV} {A : Heap} {Ko : AOut → Heap → Prop} (hn : args.length ≤ 28) (hrf : AVL.Func.hasRF Try.f99 = false)
    (h : ∀ R : APost, (∀ e env A, fpost a_ref02_bits.res Ko e env A → R e env A) → X Try.prog R a_ref02_bits.body .done (env0 args) A) : SimD Try.prog F_ref02_bits args A Ko :=
  X_introD g_ref02_bits c_ref02_bits (by rw [Try.ntmps99]; exact hn) hrf h
@[simp] theorem k_ref02_bits : callable Try.prog F_ref02_bits = true := by kernel_rfl
theorem c_ref08_Sealed : trF Try.prog Try.f67 = some a_ref08_Sealed := by kernel_rfl
theorem g_ref08_Sealed : Try.prog.funcs[67]? = some Try.f67 := by kernel_rfl
theorem i_ref08_Sealed {args : List AV} {A : Heap} {Ko : AOut → Heap → Prop} (hn : args.length ≤ 32)
    (h : ∀ R : APost, (∀ e env A, fpost a_ref08_Sealed.res Ko e env A → R e env A) → X Try.prog R a_ref08_Sealed.body .done (env0 args) A) : SimX Try.prog F_ref08_Sealed args A Ko :=
  X_intro g_ref08_Sealed c_ref08_Sealed (by rw [Try.ntmps67]; exact hn) h
theorem v_ref08_Sealed {args : List AV} {v : AV} (hn : args.length ≤ 32) (h : X Try.prog (fin a_ref08_Sealed.res v) a_ref08_Sealed.body .done (env0 args) H0) : Gives Try.prog F_ref08_Sealed args v :=
  Gives_intro g_ref08_Sealed c_ref08_Sealed (by rw [Try.ntmps67]; exact hn) h
theorem e_ref08_Sealed {args : List AV} {Q : AOut → Prop} (hn : args.length ≤ 32) (h : X Try.prog (finE a_ref08_Sealed.res Q) a_ref08_Sealed.body .done (env0 args) H0) : Fins Try.prog F_ref08_Sealed args Q :=
  Fins_intro g_ref08_Sealed c_ref08_Sealed (by rw [Try.ntmps67]; exact hn) h
theorem j_ref08_Sealed {args : List AV} {A : Heap} {K Kp : AV → Heap → Prop} (hn : args.length ≤ 32) (h : X Try.prog (inl a_ref08_Sealed.res K Kp) a_ref08_Sealed.body .done (env0 args) A) : SimX Try.prog F_ref08_Sealed args A (outK K Kp) :=
  X_inl g_ref08_Sealed c_ref08_Sealed (by rw [Try.ntmps67]; exact hn) h
theorem d_ref08_Sealed {args : List AV} {A : Heap} {Ko : AOut → Heap → Prop} (hn : args.length ≤ 32) (hrf : AVL.Func.hasRF Try.f67 = false)
    (h : ∀ R : APost, (∀ e env A, fpost a_ref08_Sealed.res Ko e env A → R e env A) → X Try.prog R a_ref08_Sealed.body .done (env0 args) A) : SimD Try.prog F_ref08_Sealed args A Ko :=
  X_introD g_ref08_Sealed c_ref08_Sealed (by rw [Try.ntmps67]; exact hn) hrf h
@[simp] theorem k_ref08_Sealed : callable Try.prog F_ref08_Sealed = true := by kernel_rfl
end Go.Proofs.Ytilgdnbijkcboaa

/- The walks of the checksum functions. -/
namespace Go.Proofs.Ytilgdnbijkcboaa
open Go AVL
set_option linter.unusedVariables false
set_option linter.unusedSimpArgs false

def step1 (r : Nat) : Nat := if r % 2 = 1 then (r / 2) ^^^ 3988292384 else r / 2
def steps : Nat → Nat → Nat
  | 0, r => r
  | n + 1, r => steps n (step1 r)
def turnN (r c : Nat) : Nat := steps 8 (r ^^^ c)
theorem step1_lt {r : Nat} (h : r < 2 ^ 32) : step1 r < 2 ^ 32 := by
  unfold step1
  split
  · exact Nat.xor_lt_two_pow (by omega) (by omega)
  · omega
theorem steps_lt : ∀ (n : Nat) {r : Nat}, r < 2 ^ 32 → steps n r < 2 ^ 32
  | 0, r, h => h
  | n + 1, r, h => steps_lt n (step1_lt h)
theorem turnN_lt {r c : Nat} (hr : r < 2 ^ 32) (hc : c < 256) : turnN r c < 2 ^ 32 := steps_lt 8 (Nat.xor_lt_two_pow hr (by omega))

theorem w_crc_turn (r c : Nat) (hr : r < 2 ^ 32) (hc : c < 256) : Gives Try.prog F_crc_turn [.int .u32 r, .int .u8 c] (.int .u32 (turnN r c)) := by
  refine i_crc_turn (by simp) fun R hR => ?_
  have e1 : IntKind.u32.wrap (c : Int) = c := wrap_u32 (by omega)
  have e2 : bXor .u32 (r : Int) (c : Int) = ((r ^^^ c : Nat) : Int) := bXor_nat rfl hr (by simp [IntKind.bits]; omega)
  simp -implicitDefEqProofs [a_crc_turn, q_crc_turn_0, q_crc_turn_1, q_crc_turn_2, e1, e2]
  refine X_loop (fun (s : Nat × Nat) env A => s.1 ≤ 8 ∧ s.2 < 2 ^ 32 ∧ steps (8 - s.1) s.2 = turnN r c ∧ env 0 = .int .u32 s.2 ∧ env 9 = .int .i64 s.1 ∧ A = H0) (fun s => 8 - s.1) (0, r ^^^ c) ⟨by simp, Nat.xor_lt_two_pow hr (by omega), rfl, by simp, by simp, rfl⟩ ?_
  rintro R' ⟨i, x⟩ env A ⟨h1, h2, h3, h4, h5, rfl⟩ hN hE
  simp only at h1 h2 h3 h4 h5
  have e3 : bAnd .u32 (x : Int) 1 = ((x % 2 : Nat) : Int) := by
    have := bAnd_nat (k := .u32) rfl h2 (b := 1) (by decide)
    rw [Nat.and_one_is_mod] at this; exact this
  have e4 : shrI .u32 (x : Int) 1 = ((x / 2 : Nat) : Int) := shrI_nat (b := 1)
  have e5 : bXor .u32 ((x : Int) / 2) 3988292384 = ((x / 2 ^^^ 3988292384 : Nat) : Int) := bXor_nat (a := x / 2) (b := 3988292384) rfl (by simp [IntKind.bits]; omega) (by decide)
  have e6 : i < 8 → IntKind.i64.wrap ((i : Int) + 1) = ((i + 1 : Nat) : Int) := fun h => by rw [wrap_i64 (by omega)]; simp
  simp -implicitDefEqProofs [q_crc_turn_L8, q_crc_turn_3, q_crc_turn_4, q_crc_turn_5, q_crc_turn_6, q_crc_turn_7, h4, h5, e3, e4, e5]
  refine ⟨fun hi => ?_, fun hi => ?_⟩
  · have hs : 8 - i = (8 - (i + 1)) + 1 := by omega
    rw [hs] at h3
    simp only [steps] at h3
    refine ⟨fun hx => ?_, fun hx => ?_⟩
    · have hx' : step1 x = x / 2 ^^^ 3988292384 := by unfold step1; rw [if_pos (by omega)]
      refine hN (i + 1, step1 x) _ _ ⟨by simp; omega, step1_lt h2, h3, by simp [hx'], by simp [e6 (by omega)], rfl⟩ (by simp; omega)
    · have hx' : step1 x = x / 2 := by unfold step1; rw [if_neg (by omega)]
      refine hN (i + 1, step1 x) _ _ ⟨by simp; omega, step1_lt h2, h3, by simp [hx'], by simp [e6 (by omega)], rfl⟩ (by simp; omega)
  · refine hE _ _ _ (by simp) ?_
    have : i = 8 := by omega
    subst this
    simp only [Nat.sub_self, steps] at h3
    subst h3
    simp -implicitDefEqProofs [q_crc_turn_8, h4]
    exact hR _ _ _ ⟨H0, Sub_refl _, by simp, rfl⟩
end Go.Proofs.Ytilgdnbijkcboaa

/- The walks of the checksum functions, second part. -/
namespace Go.Proofs.Ytilgdnbijkcboaa
open Go AVL
set_option linter.unusedVariables false
set_option linter.unusedSimpArgs false

def notN (s : Nat) : Nat := 4294967295 ^^^ s
def moreN (s : Nat) (l : List Nat) : Nat := notN (l.foldl turnN (notN s))
theorem notN_lt {s : Nat} (h : s < 2 ^ 32) : notN s < 2 ^ 32 := Nat.xor_lt_two_pow (by decide) h
theorem foldl_lt : ∀ (l : List Nat) (r : Nat), Bytes l → r < 2 ^ 32 → l.foldl turnN r < 2 ^ 32
  | [], r, _, hr => hr
  | c :: l, r, hl, hr => foldl_lt l _ (fun x hx => hl x (by simp [hx])) (turnN_lt hr (hl c (by simp)))
theorem moreN_lt {s : Nat} {l : List Nat} (hs : s < 2 ^ 32) (hl : Bytes l) : moreN s l < 2 ^ 32 := notN_lt (foldl_lt l _ hl (notN_lt hs))
theorem bXor_not {s : Nat} (hs : s < 2 ^ 32) : bXor .u32 4294967295 (s : Int) = ((notN s : Nat) : Int) := bXor_nat (a := 4294967295) rfl (by decide) hs

theorem w_crc_More (s : Nat) (l : List Nat) (hs : s < 2 ^ 32) (hl : Bytes l) (hn : l.length < 2 ^ 62) : Gives Try.prog F_crc_More [.int .u32 s, .isl .u8 (ints l)] (.int .u32 (moreN s l)) := by
  refine i_crc_More (by simp) fun R hR => ?_
  have m : IntKind.u32.max = 4294967295 := by decide
  have sg : IntKind.u32.signed = false := rfl
  simp -implicitDefEqProofs [a_crc_More, q_crc_More_0, q_crc_More_1, q_crc_More_2, sg, m, bXor_not hs]
  refine X_loop (fun (s' : Nat × Nat) env A => s'.1 ≤ l.length ∧ s'.2 < 2 ^ 32 ∧ notN ((l.drop s'.1).foldl turnN s'.2) = moreN s l ∧ env 5 = .int .u32 s'.2 ∧ env 10 = .isl .u8 (ints l) ∧ env 11 = .int .i64 l.length ∧ env 12 = .int .i64 s'.1 ∧ A = H0)
    (fun s' => l.length - s'.1) (0, notN s) ⟨by simp, notN_lt hs, rfl, by simp, by simp, by simp, by simp, rfl⟩ ?_
  rintro R' ⟨i, x⟩ env A ⟨h1, h2, h3, h4, h5, h6, h7, rfl⟩ hN hE
  simp only at h1 h2 h3 h4 h7
  simp -implicitDefEqProofs [q_crc_More_L7, q_crc_More_3, q_crc_More_4, h4, h5, h6, h7]
  refine ⟨fun hi => ⟨hi, ?_⟩, fun hi => ?_⟩
  · have hb : (l[i]?.getD 0) < 256 := by rw [List.getElem?_eq_getElem hi]; exact hl _ (List.getElem_mem hi)
    simp -implicitDefEqProofs [q_crc_More_5, h4]
    refine (w_crc_turn x _ h2 hb).call (.cons (.refl _) rfl (.cons (.refl _) rfl .nil)) rfl ?_
    have e6 : IntKind.i64.wrap ((i : Int) + 1) = ((i + 1 : Nat) : Int) := by rw [wrap_i64 (by omega)]; simp
    simp -implicitDefEqProofs [q_crc_More_6, h7]
    refine hN (i + 1, turnN x (l[i]?.getD 0)) _ _ ⟨hi, turnN_lt h2 hb, ?_, by simp, by simp [h5], by simp [h6], by simp [e6], rfl⟩ (by simp; omega)
    rw [List.drop_eq_getElem_cons hi] at h3
    have hg : l[i]?.getD 0 = l[i] := by simp [List.getElem?_eq_getElem hi]
    rw [hg]
    exact h3
  · refine hE _ _ _ (by simp) ?_
    have : i = l.length := by omega
    subst this
    simp only [List.drop_length, List.foldl_nil] at h3
    simp -implicitDefEqProofs [q_crc_More_7, h4, sg, m, bXor_not h2, h3]
    exact hR _ _ _ ⟨H0, Sub_refl _, by simp, rfl⟩

theorem w_crc_Of (l : List Nat) (hl : Bytes l) (hn : l.length < 2 ^ 62) : Gives Try.prog F_crc_Of [.isl .u8 (ints l)] (.int .u32 (moreN 0 l)) := by
  refine i_crc_Of (by simp) fun R hR => ?_
  simp -implicitDefEqProofs [a_crc_Of, q_crc_Of_0, q_crc_Of_1]
  refine (w_crc_More 0 l (by decide) hl hn).call (.cons (.refl _) rfl (.cons (.refl _) rfl .nil)) rfl ?_
  simp -implicitDefEqProofs
  exact hR _ _ _ ⟨H0, Sub_refl _, by simp, rfl⟩

def fourN (s : Nat) : List Nat := [s % 256, s / 256 % 256, s / 65536 % 256, s / 16777216 % 256]
theorem w_crc_Four (s : Nat) (hs : s < 2 ^ 32) : Gives Try.prog F_crc_Four [.int .u32 s] (.iarr .u8 4 (ints (fourN s))) := by
  refine i_crc_Four (by simp) fun R hR => ?_
  have e8 : shrI .u32 (s : Int) 8 = ((s / 256 : Nat) : Int) := shrI_nat (b := 8)
  have e16 : shrI .u32 (s : Int) 16 = ((s / 65536 : Nat) : Int) := shrI_nat (b := 16)
  have e24 : shrI .u32 (s : Int) 24 = ((s / 16777216 : Nat) : Int) := shrI_nat (b := 24)
  simp -implicitDefEqProofs [a_crc_Four, q_crc_Four_0, q_crc_Four_1, e8, e16, e24, wrap_u8m]
  intro g
  refine hR _ _ _ ?_
  simp -implicitDefEqProofs [a_crc_Four, fpost, fourN, ints]

theorem w_crc_Sealed (l : List Nat) (hl : Bytes l) (hn : l.length < 2 ^ 40) : Makes Try.prog F_crc_Sealed [.isl .u8 (ints l)] (l.length + 4) (.irow 5 .u8 (ints (l ++ fourN (moreN 0 l)))) := by
  refine i_crc_Sealed (by simp) fun R hR => ?_
  simp -implicitDefEqProofs [a_crc_Sealed, q_crc_Sealed_0, q_crc_Sealed_1]
  refine (w_crc_Of l hl (by omega)).call (.cons (.refl _) rfl .nil) rfl ?_
  simp -implicitDefEqProofs
  refine (w_crc_Four _ (moreN_lt (by decide) hl)).call (.cons (.refl _) rfl .nil) rfl ?_
  have h4 : (fourN (moreN 0 l)).length = 4 := rfl
  simp -implicitDefEqProofs +contextual [q_crc_Sealed_2, h4]
  intro g g1 _ _
  refine ⟨by omega, fun g2 _ _ _ _ => ⟨by omega, fun g3 _ _ _ _ => ?_⟩⟩
  refine hR _ _ _ ?_
  simp -implicitDefEqProofs [a_crc_Sealed, fpost]
  have h5 : List.take 4 (fourN (moreN 0 l)) = fourN (moreN 0 l) := rfl
  simp only [h5]
  exact set_sub (H0_sub _)

theorem bytes_four (s : Nat) : Bytes (fourN s) := by
  intro x hx
  simp -implicitDefEqProofs [fourN] at hx
  omega
/-- What Holds answers. -/
def holdsN (l : List Nat) : Bool := decide (4 ≤ l.length) && (fourN (moreN 0 (l.take (l.length - 4))) == l.drop (l.length - 4))
theorem w_crc_Holds (l : List Nat) (hl : Bytes l) (hn : l.length < 2 ^ 60) : Gives Try.prog F_crc_Holds [.isl .u8 (ints l)] (.bool (holdsN l)) := by
  refine i_crc_Holds (by simp) fun R hR => ?_
  have e : IntKind.i64.wrap ((l.length : Int) - 4) = (l.length : Int) - 4 := wrap_i64 (by omega)
  simp -implicitDefEqProofs [a_crc_Holds, q_crc_Holds_0, q_crc_Holds_1, q_crc_Holds_2, e]
  refine ⟨fun h => ?_, fun h => ?_⟩
  · simp -implicitDefEqProofs [q_crc_Holds_3]
    have : holdsN l = false := by simp [holdsN]; omega
    exact hR _ _ _ (by simp [a_crc_Holds, fpost, this])
  · have tn : ((l.length : Int) - 4).toNat = l.length - 4 := by omega
    have hl4 : 4 ≤ l.length := by omega
    have t2 : l.length - (l.length - 4) = 4 := by omega
    have t3 : List.take 4 (List.drop (l.length - 4) l) = List.drop (l.length - 4) l := List.take_of_length_le (by simp; omega)
    simp -implicitDefEqProofs [q_crc_Holds_4, tn, hl4, t2, t3, h]
    refine ⟨by omega, ?_⟩
    refine (w_crc_Of _ (bytes_take hl _) (by simp; omega)).call (.cons (.refl _) rfl .nil) rfl ?_
    simp -implicitDefEqProofs [Sub_refl]
    refine (w_crc_Four _ (moreN_lt (by decide) (bytes_take hl _))).call (.cons (.refl _) rfl .nil) rfl ?_
    simp -implicitDefEqProofs [Sub_refl]
    have he : eqI 4 (ints (fourN (moreN 0 (List.take (l.length - 4) l)))) (ints (List.drop (l.length - 4) l)) = holdsN l := by
      rw [eqI_ints (n := 4) rfl (by simp; omega)]
      simp -implicitDefEqProofs [holdsN, hl4]
    rw [he]
    exact hR _ _ _ (by simp [a_crc_Holds, fpost])
end Go.Proofs.Ytilgdnbijkcboaa

/- The plain law behind CrcTurns: the step is linear and loses nothing. -/
namespace Go.Proofs.Ytilgdnbijkcboaa
open Go AVL
set_option linter.unusedVariables false
set_option linter.unusedSimpArgs false
theorem xor_twice (a s : Nat) : a ^^^ (a ^^^ s) = s := by rw [← Nat.xor_assoc, Nat.xor_self, Nat.zero_xor]

theorem xor_half (a b : Nat) : (a ^^^ b) / 2 = a / 2 ^^^ b / 2 := by
  have := Nat.shiftRight_xor_distrib (a := a) (b := b) (i := 1)
  simpa [Nat.shiftRight_eq_div_pow] using this
theorem xor_par (a b : Nat) : (a ^^^ b) % 2 = (a + b) % 2 := by
  have h := Nat.testBit_xor a b 0
  rw [Nat.testBit_zero, Nat.testBit_zero, Nat.testBit_zero] at h
  rcases Nat.mod_two_eq_zero_or_one a with ha | ha <;> rcases Nat.mod_two_eq_zero_or_one b with hb | hb <;> rcases Nat.mod_two_eq_zero_or_one (a ^^^ b) with hc | hc <;> simp [ha, hb, hc] at h <;> omega
theorem step_lin (p a b : Nat) : (if (a ^^^ b) % 2 = 1 then (a ^^^ b) / 2 ^^^ p else (a ^^^ b) / 2) = (if a % 2 = 1 then a / 2 ^^^ p else a / 2) ^^^ (if b % 2 = 1 then b / 2 ^^^ p else b / 2) := by
  rw [xor_half, xor_par]
  rcases Nat.mod_two_eq_zero_or_one a with ha | ha <;> rcases Nat.mod_two_eq_zero_or_one b with hb | hb
  · have : (a + b) % 2 = 0 := by omega
    simp [ha, hb, this]
  · have : (a + b) % 2 = 1 := by omega
    simp [ha, hb, this, Nat.xor_assoc]
  · have : (a + b) % 2 = 1 := by omega
    simp [ha, hb, this, Nat.xor_assoc, Nat.xor_comm p]
  · have : (a + b) % 2 = 0 := by omega
    simp only [ha, hb, this, if_true]
    rw [if_neg (by decide)]
    have e : a / 2 ^^^ p ^^^ (b / 2 ^^^ p) = a / 2 ^^^ (p ^^^ (p ^^^ b / 2)) := by rw [Nat.xor_comm (b / 2) p, Nat.xor_assoc]
    rw [e, xor_twice]
theorem step1_xor (a b : Nat) : step1 (a ^^^ b) = step1 a ^^^ step1 b := by
  rw [step1.eq_1, step1.eq_1, step1.eq_1]; exact step_lin _ a b
theorem step1_zero : step1 0 = 0 := by decide
theorem step1_even (x : Nat) : step1 (2 * x) = x := by
  rw [step1.eq_1, if_neg (by omega)]; omega
theorem step1_ne {a : Nat} (h : a < 2 ^ 32) (h0 : a ≠ 0) : step1 a ≠ 0 := by
  rw [step1.eq_1]
  split
  · intro e
    have : a / 2 = 3988292384 := by
      have h2 := congrArg (fun x => x ^^^ 3988292384) e
      simp only [Nat.xor_assoc, Nat.xor_self, Nat.xor_zero, Nat.zero_xor] at h2
      exact h2
    omega
  · omega
theorem steps_add : ∀ (m n r : Nat), steps (m + n) r = steps n (steps m r)
  | 0, n, r => by rw [Nat.zero_add]; rfl
  | m + 1, n, r => by rw [Nat.add_right_comm]; exact steps_add m n (step1 r)
theorem steps_xor : ∀ (n a b : Nat), steps n (a ^^^ b) = steps n a ^^^ steps n b
  | 0, a, b => rfl
  | n + 1, a, b => by simp only [steps]; rw [step1_xor]; exact steps_xor n _ _
theorem steps_pow : ∀ (n x : Nat), steps n (2 ^ n * x) = x
  | 0, x => by simp [steps]
  | n + 1, x => by
    simp only [steps]
    have : 2 ^ (n + 1) * x = 2 * (2 ^ n * x) := by rw [Nat.pow_succ]; simp [Nat.mul_comm, Nat.mul_left_comm]
    rw [this, step1_even]
    exact steps_pow n x
theorem steps_ne : ∀ (n : Nat) {a : Nat}, a < 2 ^ 32 → a ≠ 0 → steps n a ≠ 0
  | 0, a, _, h => h
  | n + 1, a, hl, h => steps_ne n (step1_lt hl) (step1_ne hl h)

/-- The register behind bytes. -/
def reg (r : Nat) (l : List Nat) : Nat := l.foldl turnN r
theorem turnN_xor (a b c : Nat) : turnN (a ^^^ b) c = turnN a c ^^^ steps 8 b := by
  simp only [turnN]
  rw [← steps_xor]
  congr 1
  rw [Nat.xor_assoc, Nat.xor_comm b c, ← Nat.xor_assoc]
theorem reg_xor : ∀ (l : List Nat) (a b : Nat), reg (a ^^^ b) l = reg a l ^^^ steps (8 * l.length) b
  | [], a, b => rfl
  | c :: l, a, b => by
    show reg (turnN (a ^^^ b) c) l = reg (turnN a c) l ^^^ _
    rw [turnN_xor, reg_xor l, ← steps_add]
    congr 2
    simp; omega
theorem turnN_flip (r c j : Nat) (hj : j < 8) : turnN r (c ^^^ 2 ^ j) = turnN r c ^^^ steps (8 - j) 1 := by
  simp only [turnN]
  rw [← Nat.xor_assoc, steps_xor]
  congr 1
  have : 8 = j + (8 - j) := by omega
  rw [show steps 8 (2 ^ j) = steps (j + (8 - j)) (2 ^ j) by rw [← this], steps_add]
  have := steps_pow j 1
  rw [Nat.mul_one] at this
  rw [this]
theorem reg_append (r : Nat) (l m : List Nat) : reg r (l ++ m) = reg (reg r l) m := by simp [reg]
/-- A bit is turned. -/
theorem reg_flip (r : Nat) (l : List Nat) (i : Nat) (hi : i < 8 * l.length) : reg r (l.set (i / 8) (l[i / 8]?.getD 0 ^^^ 2 ^ (i % 8))) = reg r l ^^^ steps (8 * l.length - i) 1 := by
  have hk : i / 8 < l.length := by omega
  have hs : l = l.take (i / 8) ++ l[i / 8] :: l.drop (i / 8 + 1) := by rw [List.getElem_cons_drop]; exact (List.take_append_drop _ _).symm
  have hset : l.set (i / 8) (l[i / 8]?.getD 0 ^^^ 2 ^ (i % 8)) = l.take (i / 8) ++ (l[i / 8] ^^^ 2 ^ (i % 8)) :: l.drop (i / 8 + 1) := by
    rw [List.set_eq_take_append_cons_drop, if_pos hk, List.getElem?_eq_getElem hk]; rfl
  rw [hset, reg_append]
  have e1 : reg r l = reg (turnN (reg r (l.take (i / 8))) l[i / 8]) (l.drop (i / 8 + 1)) := by
    conv => lhs; rw [hs]
    rw [reg_append]; rfl
  rw [e1]
  show reg (turnN (reg r (l.take (i / 8))) (l[i / 8] ^^^ 2 ^ (i % 8))) (l.drop (i / 8 + 1)) = _
  rw [turnN_flip _ _ _ (Nat.mod_lt _ (by decide)), reg_xor, ← steps_add]
  congr 2
  simp only [List.length_drop]
  omega

theorem xor_low (d : Nat) : d = d % 256 ^^^ 256 * (d / 256) := by
  apply Nat.eq_of_testBit_eq
  intro i
  rw [Nat.testBit_xor]
  have h1 : (256 : Nat) = 2 ^ 8 := rfl
  rw [h1, Nat.testBit_mod_two_pow, Nat.testBit_two_pow_mul, Nat.testBit_div_two_pow]
  by_cases h : i < 8
  · simp [h, Nat.not_le.2 h]
  · have : 8 ≤ i := by omega
    simp [h, this]
theorem turn_low (r d : Nat) : steps 8 (r ^^^ d) = turnN r (d % 256) ^^^ d / 256 := by
  conv => lhs; rw [xor_low d]
  rw [← Nat.xor_assoc, steps_xor]
  have := steps_pow 8 (d / 256)
  rw [show (2 : Nat) ^ 8 = 256 from rfl] at this
  rw [this]; rfl
theorem reg_four (r d : Nat) (hd : d < 2 ^ 32) : reg r (fourN d) = steps 32 (r ^^^ d) := by
  have e : steps 32 (r ^^^ d) = steps 8 (steps 8 (steps 8 (steps 8 (r ^^^ d)))) := by
    rw [← steps_add, ← steps_add, ← steps_add]
  rw [e, turn_low, turn_low, turn_low, turn_low]
  have d1 : d / 256 / 256 = d / 65536 := by omega
  have d2 : d / 65536 / 256 = d / 16777216 := by omega
  have d3 : d / 16777216 / 256 = 0 := by omega
  rw [d1, d2, d3, Nat.xor_zero]
  rfl
theorem reg_sealed (r : Nat) (hr : r < 2 ^ 32) : reg r (fourN (notN r)) = steps 32 4294967295 := by
  rw [reg_four _ _ (notN_lt hr)]
  congr 1
  rw [notN.eq_1, Nat.xor_comm 4294967295 r, xor_twice]
theorem moreN_reg (l : List Nat) : moreN 0 l = notN (reg 4294967295 l) := by
  rw [moreN.eq_1]
  congr 1
theorem reg_lt {l : List Nat} (hl : Bytes l) : reg 4294967295 l < 2 ^ 32 := foldl_lt l _ hl (by decide)
/-- What holds has the one register behind it. -/
theorem holds_reg {l : List Nat} (hl : Bytes l) (h : holdsN l = true) : reg 4294967295 l = steps 32 4294967295 := by
  simp only [holdsN, Bool.and_eq_true, decide_eq_true_eq, beq_iff_eq] at h
  conv => lhs; rw [← List.take_append_drop (l.length - 4) l]
  rw [reg_append, ← h.2, moreN_reg]
  exact reg_sealed _ (reg_lt (bytes_take hl _))
theorem holds_sealed (l : List Nat) : holdsN (l ++ fourN (moreN 0 l)) = true := by
  have h4 : (fourN (moreN 0 l)).length = 4 := rfl
  simp [holdsN, h4]
/-- Bytes with a burst in them do not hold. -/
theorem burst {l m : List Nat} (hl : Bytes l) (hm : Bytes m) (h : holdsN l = true) {n mask : Nat} (h0 : mask ≠ 0) (hmask : mask < 2 ^ 32) (hr : reg 4294967295 m = reg 4294967295 l ^^^ steps n mask) : holdsN m = false := by
  cases hh : holdsN m with
  | false => rfl
  | true =>
    exfalso
    rw [holds_reg hm hh, holds_reg hl h] at hr
    have h2 := congrArg (fun x => steps 32 4294967295 ^^^ x) hr
    simp only [Nat.xor_self, xor_twice] at h2
    exact steps_ne n hmask h0 h2.symm
/-- One bit more of the mask. -/
theorem mask_step (mask k : Nat) : mask % 2 ^ (k + 1) = if mask / 2 ^ k % 2 = 1 then mask % 2 ^ k ^^^ 2 ^ k else mask % 2 ^ k := by
  apply Nat.eq_of_testBit_eq
  intro i
  have hb : mask.testBit k = decide (mask / 2 ^ k % 2 = 1) := Nat.testBit_eq_decide_div_mod_eq
  split
  · rename_i h
    rw [Nat.testBit_xor, Nat.testBit_mod_two_pow, Nat.testBit_mod_two_pow, Nat.testBit_two_pow]
    by_cases e : i = k
    · subst e; simp [hb, h]
    · have e2 : ¬ k = i := fun h => e h.symm
      have : (i < k + 1) = (i < k) := by apply propext; omega
      simp [e2, this]
  · rename_i h
    rw [Nat.testBit_mod_two_pow, Nat.testBit_mod_two_pow]
    by_cases e : i = k
    · subst e; simp [hb, h]
    · have : (i < k + 1) = (i < k) := by apply propext; omega
      simp [this]
end Go.Proofs.Ytilgdnbijkcboaa

/- The walk of the reference's bits. -/
namespace Go.Proofs.Ytilgdnbijkcboaa
open Go AVL
set_option linter.unusedVariables false
set_option linter.unusedSimpArgs false

def rawb (l : List Nat) (p : Nat) : Nat := l[p / 8]?.getD 0 / 2 ^ (p % 8) % 2
def rawbits (l : List Nat) (n : Nat) : List Nat := (List.range n).map (rawb l)
theorem rawbits_succ (l : List Nat) (n : Nat) : rawbits l (n + 1) = rawbits l n ++ [rawb l n] := by simp [rawbits, List.range_succ]
@[simp] theorem rawbits_length (l : List Nat) (n : Nat) : (rawbits l n).length = n := by simp [rawbits]
/-- A row of bytes that grows. -/
def Row (v : AV) (B : Heap) (xs : List Nat) : Prop := (xs = [] ∧ v = .nilS ∧ B = H0) ∨ ∃ g, v = .own g 0 xs.length ∧ B = H0.set g (.irow 5 .u8 (ints xs))

theorem w_ref02_bits (l : List Nat) (hl : Bytes l) (hn : l.length < 2 ^ 20) : SimX Try.prog F_ref02_bits [.isl .u8 (ints l)] H0 (fun o A' => ∃ v, o = .ret v ∧ Row v A' (rawbits l (8 * l.length))) := by
  refine i_ref02_bits (by simp) fun R hR => ?_
  simp -implicitDefEqProofs [a_ref02_bits, q_ref02_bits_0, q_ref02_bits_1, q_ref02_bits_2]
  refine X_loopS (fun (i : Nat) env B => i ≤ l.length ∧ env 0 = .isl .u8 (ints l) ∧ env 4 = .int .i64 i ∧ Row (env 3) B (rawbits l (8 * i))) (fun i => l.length - i) 0 H0 (Sub_refl _)
    ⟨by simp, by simp, by simp, .inl ⟨rfl, by simp, rfl⟩⟩ ?_
  rintro R' i env B ⟨h1, h2, h3, h4⟩ hN hE
  simp -implicitDefEqProofs [q_ref02_bits_L9, q_ref02_bits_3, h2, h3]
  refine ⟨fun hi => ?_, fun hi => ?_⟩
  · simp -implicitDefEqProofs [q_ref02_bits_4]
    refine X_loopS (fun (k : Nat) env B => k ≤ 8 ∧ env 0 = .isl .u8 (ints l) ∧ env 4 = .int .i64 i ∧ env 5 = .int .i64 k ∧ Row (env 3) B (rawbits l (8 * i + k))) (fun k => 8 - k) 0 B (Sub_refl _)
      ⟨by simp, by simp [h2], by simp [h3], by simp, by simpa using h4⟩ ?_
    rintro R2 k env B_ ⟨k1, k2, k3, k4, k5⟩ kN kE
    simp -implicitDefEqProofs [q_ref02_bits_L8, q_ref02_bits_5, k4]
    refine ⟨fun hk => ?_, fun hk => ?_⟩
    · have hd : (8 * i + k) / 8 = i := by omega
      have hm : (8 * i + k) % 8 = k := by omega
      have hx : l[i] < 256 := hl _ (List.getElem_mem hi)
      have hr : rawb l (8 * i + k) = l[i] / 2 ^ k % 2 := by simp [rawb, hd, hm, List.getElem?_eq_getElem hi]
      have s1 : shrI .u8 ((l[i] : Nat) : Int) (k : Int) = ((l[i] / 2 ^ k : Nat) : Int) := by rw [shrI_nat]; congr 3; simp [IntKind.bits]; omega
      have s2 : bAnd .u8 ((l[i] / 2 ^ k : Nat) : Int) 1 = ((rawb l (8 * i + k) : Nat) : Int) := by
        have := bAnd_nat (k := .u8) rfl (a := l[i] / 2 ^ k) (by have := Nat.div_le_self l[i] (2 ^ k); simp [IntKind.bits]; omega) (b := 1) (by decide)
        rw [Nat.and_one_is_mod] at this; rw [hr]; exact this
      have s3 : IntKind.u64.wrap (k : Int) = k := wrap_u64 (by omega)
      have s4 : IntKind.i64.wrap ((k : Int) + 1) = ((k + 1 : Nat) : Int) := by rw [wrap_i64 (by omega)]; simp
      have hs : rawbits l (8 * i + (k + 1)) = rawbits l (8 * i + k) ++ [rawb l (8 * i + k)] := rawbits_succ l _
      rcases k5 with ⟨e1, e2, rfl⟩ | ⟨g, e2, rfl⟩
      · simp -implicitDefEqProofs +contextual [q_ref02_bits_6, k2, k3, k4, e2, hi, s1, s2, s3, -Int.natCast_ediv, -Int.natCast_emod, -Int.natCast_pow]
        intro g1 g2 _ _
        simp -implicitDefEqProofs [q_ref02_bits_7, k4, s4, -Int.natCast_add]
        refine kN (k + 1) _ _ (H0.set g2 (.irow 5 .u8 (ints (rawbits l (8 * i + (k + 1)))))) ?_ ⟨by omega, by simp [k2], by simp [k3], by simp, .inr ⟨g2, ?_, rfl⟩⟩ (by omega)
        · rw [hs, e1]; exact set_sub (H0_sub _)
        · simp [hs, e1]
      · simp -implicitDefEqProofs +contextual [q_ref02_bits_6, k2, k3, k4, e2, hi, s1, s2, s3, -Int.natCast_ediv, -Int.natCast_emod, -Int.natCast_pow]
        intro g1 _ _
        refine ⟨by omega, fun g2 _ _ _ _ => ?_⟩
        simp -implicitDefEqProofs [q_ref02_bits_7, k4, s4, -Int.natCast_add]
        refine kN (k + 1) _ _ (H0.set g2 (.irow 5 .u8 (ints (rawbits l (8 * i + (k + 1)))))) ?_ ⟨by omega, by simp [k2], by simp [k3], by simp, .inr ⟨g2, ?_, rfl⟩⟩ (by omega)
        · have : List.take (8 * i + k) (rawbits l (8 * i + k)) = rawbits l (8 * i + k) := List.take_of_length_le (by simp)
          rw [hs, this, ← ints_append]; exact set_sub (H0_sub _)
        · simp [hs]
    · refine kE _ _ _ (by simp) ?_
      have hk8 : k = 8 := by omega
      subst hk8
      have s4 : IntKind.i64.wrap ((i : Int) + 1) = ((i + 1 : Nat) : Int) := by rw [wrap_i64 (by omega)]; simp
      simp -implicitDefEqProofs [q_ref02_bits_8, k3, s4, -Int.natCast_add]
      exact hN (i + 1) _ _ B_ (Sub_refl _) ⟨hi, by simp [k2], by simp, by simpa [Nat.mul_add] using k5⟩ (by omega)
  · refine hE _ _ _ (by simp) ?_
    have : i = l.length := by omega
    subst this
    simp -implicitDefEqProofs [q_ref02_bits_9]
    refine hR _ _ _ ?_
    simp [a_ref02_bits, fpost]
    exact ⟨B, Sub_refl _, h4⟩
end Go.Proofs.Ytilgdnbijkcboaa

/- The plain law behind CrcSums: the division's window is the register. -/
namespace Go.Proofs.Ytilgdnbijkcboaa
open Go AVL
set_option linter.unusedVariables false
set_option linter.unusedSimpArgs false

/-- The register, bit by bit. -/
def rb (l : List Nat) : Nat → Nat
  | 0 => 4294967295
  | i + 1 => step1 (rb l i ^^^ rawb l i)
theorem rawb_lt (l : List Nat) (p : Nat) : rawb l p < 2 := Nat.mod_lt _ (by decide)
theorem rb_lt (l : List Nat) : ∀ i, rb l i < 2 ^ 32
  | 0 => by simp [rb]
  | i + 1 => step1_lt (Nat.xor_lt_two_pow (rb_lt l i) (by have := rawb_lt l i; omega))
theorem rb_byte (l : List Nat) (j : Nat) : ∀ t, t ≤ 8 → rb l (8 * j + t) = steps t (rb l (8 * j) ^^^ (l[j]?.getD 0 % 2 ^ t))
  | 0, _ => by simp [steps, Nat.mod_one]
  | t + 1, h => by
    have ih := rb_byte l j t (by omega)
    have hd : (8 * j + t) / 8 = j := by omega
    have hm : (8 * j + t) % 8 = t := by omega
    have e1 : rb l (8 * j + (t + 1)) = step1 (rb l (8 * j + t) ^^^ rawb l (8 * j + t)) := rfl
    have hraw : rawb l (8 * j + t) = l[j]?.getD 0 / 2 ^ t % 2 := by simp [rawb, hd, hm]
    rw [e1, ih, hraw]
    generalize l[j]?.getD 0 = c
    have hp := steps_pow t (c / 2 ^ t % 2)
    have e2 : steps t (rb l (8 * j) ^^^ c % 2 ^ t) ^^^ (c / 2 ^ t % 2) = steps t (rb l (8 * j) ^^^ c % 2 ^ t ^^^ 2 ^ t * (c / 2 ^ t % 2)) := by rw [steps_xor t _ (2 ^ t * _), hp]
    rw [e2]
    have e3 : ∀ x, step1 (steps t x) = steps (t + 1) x := fun x => by rw [steps_add]; rfl
    rw [e3, mask_step, Nat.xor_assoc]
    congr 2
    rcases Nat.mod_two_eq_zero_or_one (c / 2 ^ t) with h0 | h0
    · simp [h0]
    · simp [h0]
theorem rb_reg (l : List Nat) (hl : Bytes l) : ∀ j, j ≤ l.length → rb l (8 * j) = reg 4294967295 (l.take j)
  | 0, _ => rfl
  | j + 1, h => by
    have ih := rb_reg l hl j (by omega)
    have hb := rb_byte l j 8 (Nat.le_refl _)
    have hc : l[j]?.getD 0 = l[j] := by rw [List.getElem?_eq_getElem (by omega)]; rfl
    have hlt : l[j] < 256 := hl _ (List.getElem_mem (by omega))
    rw [show 8 * (j + 1) = 8 * j + 8 by omega, hb, ih, hc, Nat.mod_eq_of_lt (by omega), List.take_add_one, reg_append]
    rw [List.getElem?_eq_getElem (by omega)]
    rfl

def bt (r j : Nat) : Nat := (r.testBit j).toNat
theorem bt_lt (r j : Nat) : bt r j < 2 := by unfold bt; cases r.testBit j <;> decide
theorem bt_xor (a b j : Nat) : bt (a ^^^ b) j = bt a j ^^^ bt b j := by
  unfold bt
  rw [Nat.testBit_xor]
  cases a.testBit j <;> cases b.testBit j <;> rfl
theorem bt_half (a j : Nat) : bt (a / 2) j = bt a (j + 1) := by
  unfold bt; rw [Nat.testBit_add_one]
theorem bt_zero (a : Nat) : bt a 0 = a % 2 := by
  unfold bt
  rw [Nat.testBit_zero]
  rcases Nat.mod_two_eq_zero_or_one a with h | h <;> simp [h]
theorem bt_big {r j : Nat} (h : r < 2 ^ 32) (hj : 32 ≤ j) : bt r j = 0 := by
  unfold bt
  rw [Nat.testBit_lt_two_pow (Nat.lt_of_lt_of_le h (Nat.pow_le_pow_right (by decide) hj))]
  rfl
def poly : List Nat := [1, 0, 0, 0, 0, 0, 1, 0, 0, 1, 1, 0, 0, 0, 0, 0, 1, 0, 0, 0, 1, 1, 1, 0, 1, 1, 0, 1, 1, 0, 1, 1, 1]
theorem poly_bt : ∀ j, j < 32 → poly[j + 1]?.getD 0 = bt 3988292384 j := by decide
/-- One step of the division, seen at a place behind it. -/
theorem div_bit (l : List Nat) (i j : Nat) : bt (rb l (i + 1)) j = bt (rb l i) (j + 1) ^^^ (if (bt (rb l i) 0 ^^^ rawb l i) = 1 then bt 3988292384 j else 0) := by
  have hr := rawb_lt l i
  have e1 : rb l (i + 1) = step1 (rb l i ^^^ rawb l i) := rfl
  have h2 : rawb l i / 2 = 0 := by omega
  have hpar : (rb l i ^^^ rawb l i) % 2 = bt (rb l i) 0 ^^^ rawb l i := by
    rw [← bt_zero, bt_xor]
    congr 1
    rw [bt_zero]; omega
  rw [e1, step1.eq_1, hpar]
  split
  · rw [bt_xor, xor_half, h2, Nat.xor_zero, bt_half]
  · rw [xor_half, h2, Nat.xor_zero, bt_half, Nat.xor_zero]
end Go.Proofs.Ytilgdnbijkcboaa

/- Tables, and calls that return rows. -/
namespace Go.Proofs.Ytilgdnbijkcboaa
open Go AVL
set_option linter.unusedVariables false
set_option linter.unusedSimpArgs false

def tab (M : Nat) (F : Nat → Nat) : List Nat := (List.range M).map F
@[simp] theorem tab_length (M : Nat) (F : Nat → Nat) : (tab M F).length = M := by simp [tab]
theorem tab_get {M : Nat} {F : Nat → Nat} {p : Nat} (h : p < (tab M F).length) : (tab M F)[p] = F p := by simp [tab]
theorem tab_set (M : Nat) (F : Nat → Nat) (p v : Nat) : (tab M F).set p v = tab M (fun q => if q = p then v else F q) := by
  apply List.ext_getElem
  · simp
  · intro q h1 h2
    rw [List.getElem_set, tab_get, tab_get]
    by_cases e : p = q
    · subst e; simp
    · have : ¬ q = p := fun h => e h.symm
      simp [e, this]
theorem tab_ext {M : Nat} {F G : Nat → Nat} (h : ∀ p, p < M → F p = G p) : tab M F = tab M G :=
  List.map_congr_left fun p hp => h p (List.mem_range.1 hp)
theorem rawb_out (l : List Nat) {p : Nat} (h : 8 * l.length ≤ p) : rawb l p = 0 := by
  have : l.length ≤ p / 8 := by omega
  simp [rawb, List.getElem?_eq_none this]
theorem raw_tab (l : List Nat) (z : Nat) : rawbits l (8 * l.length) ++ List.replicate z 0 = tab (8 * l.length + z) (rawb l) := by
  apply List.ext_getElem
  · simp
  · intro p h1 h2
    rw [tab_get]
    by_cases h : p < 8 * l.length
    · rw [List.getElem_append_left (by simpa using h)]
      simp [rawbits]
    · rw [List.getElem_append_right (by simp; omega), rawb_out l (by omega)]
      simp
/-- One bit more. -/
theorem mask_or (r k : Nat) : r % 2 ^ k ||| bt r k * 2 ^ k = r % 2 ^ (k + 1) := by
  apply Nat.eq_of_testBit_eq
  intro i
  rw [Nat.testBit_or, Nat.testBit_mod_two_pow, Nat.testBit_mod_two_pow]
  have hb : (bt r k * 2 ^ k).testBit i = (decide (i = k) && r.testBit k) := by
    unfold bt
    cases hk : r.testBit k with
    | false => simp
    | true =>
      simp only [Bool.toNat_true, Nat.one_mul, Nat.testBit_two_pow, Bool.and_true]
      by_cases e : k = i
      · subst e; simp
      · have : ¬ i = k := fun h => e h.symm
        simp [e, this]
  rw [hb]
  by_cases e : i = k
  · subst e; simp
  · have : (i < k + 1) = (i < k) := by apply propext; omega
    simp [e, this]
theorem call_row {P : Program} {f : FuncId} {args args' : List AV} {xs : List Nat} {A : Heap} {K Kp : AV → Heap → Prop} (h : SimX P f args' H0 (fun o A' => ∃ v, o = .ret v ∧ Row v A' xs)) (hv : VwL A args args')
    (h0 : xs = [] → K .nilS A) (hk : ∀ g, A g = none → K (.own g 0 xs.length) (A.set g (.irow 5 .u8 (ints xs)))) : SimX P f args A (outK K Kp) := by
  refine SimX.view h hv ?_ ?_
  · rintro o B ⟨v, rfl, ⟨h1, rfl, rfl⟩ | ⟨g, rfl, rfl⟩⟩
    · exact ⟨rfl, fun g c hc => by cases hc⟩
    · refine ⟨rfl, fun g' c' hc => ?_⟩
      rw [set_app] at hc
      split at hc
      · injection hc with hc; subst hc; rfl
      · cases hc
  · rintro o B ⟨v, rfl, ⟨h1, rfl, rfl⟩ | ⟨g, rfl, rfl⟩⟩ hd
    · rw [join_H0]; exact h0 h1
    · have := hd g (.irow 5 .u8 (ints xs)) (by simp)
      rw [join_set A this]; exact hk g this
end Go.Proofs.Ytilgdnbijkcboaa

/- The walk of the reference's division. -/
namespace Go.Proofs.Ytilgdnbijkcboaa
open Go AVL
set_option linter.unusedVariables false
set_option linter.unusedSimpArgs false

theorem xor_one (x : Nat) (h : x < 2) : 1 - x = 1 ^^^ x := by
  rcases (by omega : x = 0 ∨ x = 1) with rfl | rfl <;> rfl
theorem xor_lt2 {a b : Nat} (ha : a < 2) (hb : b < 2) : a ^^^ b < 2 := Nat.xor_lt_two_pow (n := 1) ha hb
theorem ones_bt (p : Nat) : bt 4294967295 p = if p < 32 then 1 else 0 := by
  unfold bt
  have : (4294967295 : Nat) = 2 ^ 32 - 1 := rfl
  rw [this, Nat.testBit_two_pow_sub_one]
  by_cases h : p < 32 <;> simp [h]
theorem poly_lt (k : Nat) : poly[k]?.getD 0 < 2 := by
  by_cases h : k < 33
  · revert k; decide
  · have : poly.length ≤ k := by simp [poly]; omega
    simp [List.getElem?_eq_none this]

theorem set_swap {A : Heap} {g h : Nat} {c d : Cont} (e : ¬ g = h) : (A.set h d).set g c = (A.set g c).set h d := by
  funext x
  simp only [set_app]
  by_cases h1 : x = g
  · subst h1; simp [e]
  · simp [h1]

theorem w_ref02_Of (l : List Nat) (hl : Bytes l) (hn : l.length < 2 ^ 20) : Gives Try.prog F_ref02_Of [.isl .u8 (ints l)] (.int .u32 (moreN 0 l)) := by
  refine i_ref02_Of (by simp) fun R hR => ?_
  obtain ⟨M, hM⟩ : ∃ M, M = 8 * l.length + 32 := ⟨_, rfl⟩
  have main : ∀ (g : Nat) (env : AEnv) (A : Heap), (H0.set g (.irow 5 .u8 (ints (tab M (rawb l))))).Sub A → env 3 = .own g 0 M → env 4 = .int .i64 0 →
      X Try.prog R (.loop q_ref02_Of_L6) (.blk 0 (.thn (.seq (.region q_ref02_Of_6) (.seq (.seq (.region q_ref02_Of_7) (.block 2 (.loop q_ref02_Of_L15))) (.seq (.region q_ref02_Of_15) (.seq (.region q_ref02_Of_16) (.seq (.seq (.region q_ref02_Of_17) (.block 6 (.loop q_ref02_Of_L21))) (.seq (.region q_ref02_Of_21) .ret)))))) .done)) env A := by
    intro g env A hA e3 e4
    refine X_loopS (fun (i : Nat) env B => i ≤ 32 ∧ env 3 = .own g 0 M ∧ env 4 = .int .i64 i ∧ B = H0.set g (.irow 5 .u8 (ints (tab M fun p => if p < i then 1 - rawb l p else rawb l p)))) (fun i => 32 - i) 0 _ hA
      ⟨by simp, e3, by simpa using e4, by simp⟩ ?_
    rintro R' i env B ⟨h1, h2, h3, rfl⟩ hN hE
    simp -implicitDefEqProofs [q_ref02_Of_L6, q_ref02_Of_3, h3]
    refine ⟨fun hi => ?_, fun hi => ?_⟩
    · have hiM : i < M := by omega
      have r2 := rawb_lt l i
      have s1 : IntKind.u8.wrap (1 - ((rawb l i : Nat) : Int)) = ((1 - rawb l i : Nat) : Int) := by rw [wrap_u8 (by omega)]; omega
      have s4 : IntKind.i64.wrap ((i : Int) + 1) = ((i + 1 : Nat) : Int) := by rw [wrap_i64 (by omega)]; simp
      simp -implicitDefEqProofs [q_ref02_Of_4, h2, h3, hiM, tab_get, s1]
      simp -implicitDefEqProofs [q_ref02_Of_5, h3, s4, -Int.natCast_add]
      refine hN (i + 1) _ _ _ (Sub_refl _) ⟨by omega, by simp [h2], by simp, ?_⟩ (by omega)
      rw [tab_set]
      congr 3
      refine tab_ext fun p _ => ?_
      by_cases e : p = i
      · subst e; simp
      · have : (p < i + 1) = (p < i) := by apply propext; omega
        simp [e, this]
    · refine hE _ _ _ (by simp) ?_
      have : i = 32 := by omega
      subst this
      simp -implicitDefEqProofs +contextual [q_ref02_Of_6, h2]
      intro g5 hg5 hg5'
      simp -implicitDefEqProofs [q_ref02_Of_7]
      refine X_loopS (fun (s : Nat × (Nat → Nat)) env B => s.1 + 32 ≤ M ∧ env 3 = .own g 0 M ∧ env 5 = .own g5 0 33 ∧ env 6 = .int .i64 s.1 ∧ (∀ p, s.2 p < 2) ∧ (∀ p, s.1 ≤ p → p < M → s.2 p = bt (rb l s.1) (p - s.1) ^^^ rawb l p) ∧
          B = (H0.set g (.irow 5 .u8 (ints (tab M s.2)))).set g5 (.irow 5 .u8 (ints poly))) (fun s => M - s.1) (0, fun p => if p < 32 then 1 - rawb l p else rawb l p) _ (Sub_refl _)
        ⟨by simp; omega, by simp [h2], by simp, by simp, ?_, ?_, rfl⟩ ?_
      · intro p
        have := rawb_lt l p
        simp only
        split <;> omega
      · intro p _ hp
        have r2 := rawb_lt l p
        simp only [Nat.sub_zero, rb, ones_bt]
        split
        · exact xor_one _ r2
        · rw [Nat.zero_xor]
      · rintro R2 ⟨i, G⟩ env B ⟨d1, d2, d3, d4, d5, d6, rfl⟩ dN dE
        simp only at d1 d4 d5 d6
        have t1 : IntKind.i64.wrap ((i : Int) + 32) = ((i + 32 : Nat) : Int) := by rw [wrap_i64 (by omega)]; simp
        simp -implicitDefEqProofs [q_ref02_Of_L15, q_ref02_Of_8, d2, d4, t1, -Int.natCast_add]
        refine ⟨fun hi => ?_, fun hi => ?_⟩
        · have hiM : i < M := by omega
          have hbit := d6 i (Nat.le_refl i) hiM
          rw [Nat.sub_self] at hbit
          have hdv := div_bit l i
          rw [← hbit] at hdv
          have s4 : IntKind.i64.wrap ((i : Int) + 1) = ((i + 1 : Nat) : Int) := by rw [wrap_i64 (by omega)]; simp
          simp -implicitDefEqProofs [q_ref02_Of_9, d2, d4, hg5', hiM, tab_get, -Int.natCast_add]
          refine ⟨fun hb => ?_, fun hb => ?_⟩
          · have hb' : G i = 1 := by omega
            simp -implicitDefEqProofs [q_ref02_Of_10]
            refine X_loopS (fun (k : Nat) env B => k ≤ 33 ∧ env 3 = .own g 0 M ∧ env 5 = .own g5 0 33 ∧ env 6 = .int .i64 i ∧ env 7 = .int .i64 k ∧
                B = (H0.set g (.irow 5 .u8 (ints (tab M fun p => if i ≤ p ∧ p < i + k then G p ^^^ poly[p - i]?.getD 0 else G p)))).set g5 (.irow 5 .u8 (ints poly))) (fun k => 33 - k) 0 _ (Sub_refl _)
              ⟨by simp, by simp [d2], by simp [d3], by simp [d4], by simp, ?_⟩ ?_
            · congr 4
              refine tab_ext fun p _ => ?_
              rw [if_neg (by omega)]
            · rintro R3 k env B ⟨f1, f2, f3, f4, f5, rfl⟩ fN fE
              simp -implicitDefEqProofs [q_ref02_Of_L14, q_ref02_Of_11, f5]
              refine ⟨fun hk => ?_, fun hk => ?_⟩
              · have hk33 : k < 33 := by omega
                have hx : i + k < M := by omega
                have u1 : IntKind.i64.wrap ((i : Int) + (k : Int)) = ((i + k : Nat) : Int) := by rw [wrap_i64 (by omega)]; simp
                have u2 : IntKind.i64.wrap ((k : Int) + 1) = ((k + 1 : Nat) : Int) := by rw [wrap_i64 (by omega)]; simp
                have hpl : k < poly.length := hk33
                have hpg : poly[k]?.getD 0 = poly[k] := by rw [List.getElem?_eq_getElem hpl]; rfl
                have hp2 := poly_lt k
                rw [hpg] at hp2
                have hG2 := d5 (i + k)
                have u3 : bXor .u8 ((G (i + k) : Nat) : Int) ((poly[k] : Nat) : Int) = ((G (i + k) ^^^ poly[k] : Nat) : Int) := bXor_nat rfl (by simp [IntKind.bits]; omega) (by simp [IntKind.bits]; omega)
                simp -implicitDefEqProofs [q_ref02_Of_12, q_ref02_Of_13, f2, f3, f4, f5, u1, u2, u3, hg5', hx, hk33, hpl, tab_get, -Int.natCast_add]
                refine ⟨hk, fN (k + 1) _ _ _ ?_ ⟨by omega, by simp [f2], by simp [f3], by simp [f4], by simp, rfl⟩ (by omega)⟩
                rw [tab_set, set_swap hg5']
                rw [show (tab M fun q => if q = i + k then G (i + k) ^^^ poly[k] else if i ≤ q ∧ q < i + k then G q ^^^ poly[q - i]?.getD 0 else G q) = tab M (fun p => if i ≤ p ∧ p < i + (k + 1) then G p ^^^ poly[p - i]?.getD 0 else G p) from tab_ext fun p _ => by
                  by_cases e : p = i + k
                  · subst e
                    rw [if_pos rfl, if_pos (by omega), Nat.add_sub_cancel_left, hpg]
                  · rw [if_neg e]
                    by_cases e2 : i ≤ p ∧ p < i + k
                    · rw [if_pos e2, if_pos (by omega)]
                    · rw [if_neg e2, if_neg (by omega)]]
                rw [set_set]
                exact Sub_refl _
              · refine fE _ _ _ (by simp) ?_
                have : k = 33 := by omega
                subst this
                simp -implicitDefEqProofs [q_ref02_Of_14, f4, s4, -Int.natCast_add]
                refine dN (i + 1, fun p => if i ≤ p ∧ p < i + 33 then G p ^^^ poly[p - i]?.getD 0 else G p) _ _ _ (Sub_refl _) ⟨by simp only; omega, by simp [f2], by simp [f3], by simp, ?_, ?_, rfl⟩ (by simp only; omega)
                · intro p
                  simp only
                  split
                  · exact xor_lt2 (d5 p) (poly_lt _)
                  · exact d5 p
                · intro p hp hpM
                  simp only at hp ⊢
                  obtain ⟨q, rfl⟩ : ∃ q, p = i + (q + 1) := ⟨p - i - 1, by omega⟩
                  have e1 : i + (q + 1) - (i + 1) = q := by omega
                  have e2 : i + (q + 1) - i = q + 1 := by omega
                  have hG := d6 (i + (q + 1)) (by omega) hpM
                  rw [e2] at hG
                  have hd := hdv q
                  rw [if_pos hb'] at hd
                  rw [e1, e2, hd, hG]
                  by_cases hq : q < 32
                  · rw [if_pos (by omega), poly_bt q hq, Nat.xor_assoc, Nat.xor_assoc, Nat.xor_comm (rawb l (i + (q + 1)))]
                  · rw [if_neg (by omega), bt_big (r := 3988292384) (by decide) (by omega), Nat.xor_zero]
          · have hb' : ¬ G i = 1 := by omega
            simp -implicitDefEqProofs [q_ref02_Of_14, d4, s4, -Int.natCast_add]
            refine dN (i + 1, G) _ _ _ (Sub_refl _) ⟨by simp only; omega, by simp [d2], by simp [d3], by simp, d5, ?_, rfl⟩ (by simp only; omega)
            intro p hp hpM
            simp only at hp ⊢
            obtain ⟨q, rfl⟩ : ∃ q, p = i + (q + 1) := ⟨p - i - 1, by omega⟩
            have e1 : i + (q + 1) - (i + 1) = q := by omega
            have e2 : i + (q + 1) - i = q + 1 := by omega
            have hG := d6 (i + (q + 1)) (by omega) hpM
            rw [e2] at hG
            have hd := hdv q
            rw [if_neg hb', Nat.xor_zero] at hd
            rw [e1, hd, hG]
        · refine dE _ _ _ (by simp) ?_
          have hiN : i = 8 * l.length := by omega
          have hrN : rb l i = reg 4294967295 l := by rw [hiN, rb_reg l hl _ (Nat.le_refl _), List.take_length]
          have w1 : IntKind.i64.wrap ((M : Int) - 32) = ((i : Nat) : Int) := by rw [wrap_i64 (by omega)]; omega
          simp -implicitDefEqProofs [q_ref02_Of_15, q_ref02_Of_16, q_ref02_Of_17, d2, w1]
          refine X_loopS (fun (k : Nat) env B => k ≤ 32 ∧ env 3 = .own g 0 M ∧ env 8 = .int .u32 ((notN (rb l i) % 2 ^ k : Nat) : Int) ∧ env 9 = .int .i64 i ∧ env 10 = .int .i64 k ∧
              B = H0.set g (.irow 5 .u8 (ints (tab M G)))) (fun k => 32 - k) 0 (H0.set g (.irow 5 .u8 (ints (tab M G)))) ?_
            ⟨by simp, by simp [d2], by simp [Nat.mod_one], by simp, by simp, rfl⟩ ?_
          · rw [← set_swap hg5']; exact set_sub (H0_sub _)
          · rintro R3 k env B ⟨f1, f2, f3, f4, f5, rfl⟩ fN fE
            simp -implicitDefEqProofs [q_ref02_Of_L21, q_ref02_Of_18, f5]
            refine ⟨fun hk => ?_, fun hk => ?_⟩
            · have hk32 : k < 32 := by omega
              have hx : i + k < M := by omega
              have hrl := rb_lt l i
              have hG := d6 (i + k) (by omega) hx
              rw [Nat.add_sub_cancel_left, rawb_out l (by omega), Nat.xor_zero] at hG
              have hb2 := bt_lt (rb l i) k
              have hnb : 1 - G (i + k) = bt (notN (rb l i)) k := by
                rw [hG, xor_one _ hb2, notN.eq_1, bt_xor, ones_bt, if_pos hk32]
              have hnlt := bt_lt (notN (rb l i)) k
              have v1 : IntKind.i64.wrap ((i : Int) + (k : Int)) = ((i + k : Nat) : Int) := by rw [wrap_i64 (by omega)]; simp
              have v2 : IntKind.i64.wrap ((k : Int) + 1) = ((k + 1 : Nat) : Int) := by rw [wrap_i64 (by omega)]; simp
              have v3 : IntKind.u8.wrap (1 - ((G (i + k) : Nat) : Int)) = ((bt (notN (rb l i)) k : Nat) : Int) := by
                rw [wrap_u8 (by omega), ← hnb]; omega
              have v4 : IntKind.u32.wrap ((bt (notN (rb l i)) k : Nat) : Int) = ((bt (notN (rb l i)) k : Nat) : Int) := wrap_u32 (by omega)
              have v5 : IntKind.u64.wrap (k : Int) = (k : Int) := wrap_u64 (by omega)
              have hp : 2 ^ k ≤ 2 ^ 31 := Nat.pow_le_pow_right (by decide) (by omega)
              have hmul : bt (notN (rb l i)) k * 2 ^ k < 2 ^ 32 := by
                have : bt (notN (rb l i)) k * 2 ^ k ≤ 1 * 2 ^ k := Nat.mul_le_mul_right _ (by omega)
                omega
              have v6 : shlI .u32 ((bt (notN (rb l i)) k : Nat) : Int) (k : Int) = ((bt (notN (rb l i)) k * 2 ^ k : Nat) : Int) := by
                have hm : min k IntKind.u32.bits = k := by simp [IntKind.bits]; omega
                unfold shlI
                rw [Int.toNat_natCast, hm]
                have : ((bt (notN (rb l i)) k : Nat) : Int) * (2 : Int) ^ k = ((bt (notN (rb l i)) k * 2 ^ k : Nat) : Int) := by norm_cast
                rw [this]
                exact bits_lt (k := .u32) hmul rfl
              have hacc : notN (rb l i) % 2 ^ k < 2 ^ 32 := Nat.lt_of_le_of_lt (Nat.mod_le _ _) (notN_lt hrl)
              have v7 : bOr .u32 ((notN (rb l i) % 2 ^ k : Nat) : Int) ((bt (notN (rb l i)) k * 2 ^ k : Nat) : Int) = ((notN (rb l i) % 2 ^ (k + 1) : Nat) : Int) := by
                rw [bOr_nat rfl hacc hmul, mask_or]
              simp -implicitDefEqProofs [q_ref02_Of_19, q_ref02_Of_20, f2, f3, f4, f5, v1, v2, v3, v4, v5, v6, v7, hx, tab_get, -Int.natCast_add, -Int.natCast_emod, -Int.natCast_mul, -Int.natCast_pow]
              refine fN (k + 1) _ _ _ (Sub_refl _) ⟨by omega, by simp [f2], by simp, by simp [f4], by simp, rfl⟩ (by omega)
            · refine fE _ _ _ (by simp) ?_
              have : k = 32 := by omega
              subst this
              simp -implicitDefEqProofs [q_ref02_Of_21, f3]
              refine hR _ _ _ ?_
              have hfin : notN (rb l i) % 2 ^ 32 = moreN 0 l := by
                rw [Nat.mod_eq_of_lt (notN_lt (rb_lt l i)), moreN_reg, hrN]
              simp only [a_ref02_Of, fpost, aress, upd_app, outOf]
              refine ⟨H0, H0_sub _, ?_, rfl⟩
              have : ((notN (rb l i) : Nat) : Int) % 4294967296 = ((moreN 0 l : Nat) : Int) := by rw [← hfin]; rfl
              simp [this]
  simp -implicitDefEqProofs [a_ref02_Of, q_ref02_Of_0, q_ref02_Of_1]
  refine call_row (w_ref02_bits l hl hn) (.cons (.refl _) rfl .nil) ?_ ?_
  · intro hnil
    have hl0 : l.length = 0 := by have := congrArg List.length hnil; simp at this; omega
    simp -implicitDefEqProofs
    intro g
    have hz : [(0 : Int), 0, 0, 0, 0, 0, 0, 0, 0, 0, 0, 0, 0, 0, 0, 0, 0, 0, 0, 0, 0, 0, 0, 0, 0, 0, 0, 0, 0, 0, 0, 0] = ints (tab M (rawb l)) := by
      rw [hM, ← raw_tab, hnil]; rfl
    rw [hz]
    simp -implicitDefEqProofs [q_ref02_Of_2]
    refine main g _ _ (Sub_refl _) (by simp [hM, hl0]) (by simp)
  · intro g _
    simp -implicitDefEqProofs +contextual
    refine ⟨by omega, fun g2 _ _ => ?_⟩
    have hz : ints (List.take (8 * l.length) (rawbits l (8 * l.length))) ++ [(0 : Int), 0, 0, 0, 0, 0, 0, 0, 0, 0, 0, 0, 0, 0, 0, 0, 0, 0, 0, 0, 0, 0, 0, 0, 0, 0, 0, 0, 0, 0, 0, 0] = ints (tab M (rawb l)) := by
      rw [hM, ← raw_tab, ← ints_append, List.take_of_length_le (by simp)]; rfl
    rw [hz]
    simp -implicitDefEqProofs [q_ref02_Of_2]
    refine main g2 _ _ (Sub_refl _) (by simp [hM]) (by simp)
end Go.Proofs.Ytilgdnbijkcboaa

/- What a slot map's sector is. -/
namespace Go.Proofs.Ytilgdnbijkcboaa
open Go AVL
attribute [-simp] AV.isAgg aappI aapp alen shp good comps
set_option linter.unusedVariables false
set_option linter.unusedSimpArgs false
set_option maxRecDepth 20000

def Slots (l : List Nat) : Prop := ∀ x ∈ l, x ≤ 2
theorem Slots.bytes {l : List Nat} (h : Slots l) : Bytes l := fun x hx => by have := h x hx; omega
theorem Slots.take {l : List Nat} (h : Slots l) (n : Nat) : Slots (l.take n) := fun x hx => h x (List.mem_of_mem_take hx)
theorem Slots.getD {l : List Nat} (h : Slots l) (k : Nat) : l[k]?.getD 0 ≤ 2 := by
  by_cases hk : k < l.length
  · rw [List.getElem?_eq_getElem hk]; exact h _ (List.getElem_mem hk)
  · rw [List.getElem?_eq_none (by omega)]; simp
def pkv (l : List Nat) (j : Nat) : Nat := l[4 * j]?.getD 0 + 4 * l[4 * j + 1]?.getD 0 + 16 * l[4 * j + 2]?.getD 0 + 64 * l[4 * j + 3]?.getD 0
def pk (l : List Nat) : List Nat := tab ((l.length + 3) / 4) (pkv l)
theorem pkv_lt {l : List Nat} (h : Slots l) (j : Nat) : pkv l j < 256 := by
  have h0 := h.getD (4 * j)
  have h1 := h.getD (4 * j + 1)
  have h2 := h.getD (4 * j + 2)
  have h3 := h.getD (4 * j + 3)
  unfold pkv; omega
theorem pk_len (l : List Nat) : (pk l).length = (l.length + 3) / 4 := by simp [pk, tab]
theorem pk_bytes {l : List Nat} (h : Slots l) : Bytes (pk l) := fun x hx => by
  simp only [pk, tab, List.mem_map] at hx
  obtain ⟨j, _, rfl⟩ := hx
  exact pkv_lt h j
theorem take_getD (l : List Nat) (i k : Nat) : (l.take i)[k]?.getD 0 = if k < i then l[k]?.getD 0 else 0 := by
  rw [List.getElem?_take]; split <;> rfl
theorem pkv_other {l : List Nat} {i j : Nat} (h : j ≠ i / 4) : pkv (l.take (i + 1)) j = pkv (l.take i) j := by
  have key : ∀ k, k / 4 = j → (l.take (i + 1))[k]?.getD 0 = (l.take i)[k]?.getD 0 := fun k hk => by
    rw [take_getD, take_getD]
    by_cases e : k < i
    · rw [if_pos e, if_pos (by omega)]
    · rw [if_neg e, if_neg (fun e2 => h (by rw [← hk]; congr 1; omega))]
  unfold pkv
  rw [key _ (by omega), key _ (by omega), key _ (by omega), key _ (by omega)]
theorem or_add {a x n : Nat} (h : a < 2 ^ n) : a ||| x * 2 ^ n = a + x * 2 ^ n := by
  have := Nat.two_pow_add_eq_or_of_lt h x
  rw [Nat.or_comm, Nat.mul_comm x, ← this, Nat.add_comm]
theorem pkv_lo {l : List Nat} (h : Slots l) (i : Nat) : pkv (l.take i) (i / 4) < 2 ^ (2 * (i % 4)) := by
  have h0 := h.getD (4 * (i / 4))
  have h1 := h.getD (4 * (i / 4) + 1)
  have h2 := h.getD (4 * (i / 4) + 2)
  unfold pkv
  simp only [take_getD]
  rcases (by omega : i % 4 = 0 ∨ i % 4 = 1 ∨ i % 4 = 2 ∨ i % 4 = 3) with e | e | e | e
  · rw [e, if_neg (by omega), if_neg (by omega), if_neg (by omega), if_neg (by omega)]; decide
  · rw [e, if_pos (by omega), if_neg (by omega), if_neg (by omega), if_neg (by omega)]; omega
  · rw [e, if_pos (by omega), if_pos (by omega), if_neg (by omega), if_neg (by omega)]; omega
  · rw [e, if_pos (by omega), if_pos (by omega), if_pos (by omega), if_neg (by omega)]; omega
theorem pkv_step {l : List Nat} (h : Slots l) {i : Nat} (hi : i < l.length) : pkv (l.take i) (i / 4) + l[i] * 2 ^ (2 * (i % 4)) = pkv (l.take (i + 1)) (i / 4) := by
  have hg : l[i] = l[i]?.getD 0 := by rw [List.getElem?_eq_getElem hi]; rfl
  rw [hg]
  unfold pkv
  simp only [take_getD]
  rcases (by omega : i % 4 = 0 ∨ i % 4 = 1 ∨ i % 4 = 2 ∨ i % 4 = 3) with e | e | e | e
  · obtain ⟨q, rfl⟩ : ∃ q, i = 4 * q := ⟨i / 4, by omega⟩
    simp only [show 4 * q / 4 = q by omega, e]
    repeat (first | rw [if_pos (by omega)] | rw [if_neg (by omega)])
    omega
  · obtain ⟨q, rfl⟩ : ∃ q, i = 4 * q + 1 := ⟨i / 4, by omega⟩
    simp only [show (4 * q + 1) / 4 = q by omega, e]
    repeat (first | rw [if_pos (by omega)] | rw [if_neg (by omega)])
    omega
  · obtain ⟨q, rfl⟩ : ∃ q, i = 4 * q + 2 := ⟨i / 4, by omega⟩
    simp only [show (4 * q + 2) / 4 = q by omega, e]
    repeat (first | rw [if_pos (by omega)] | rw [if_neg (by omega)])
    omega
  · obtain ⟨q, rfl⟩ : ∃ q, i = 4 * q + 3 := ⟨i / 4, by omega⟩
    simp only [show (4 * q + 3) / 4 = q by omega, e]
    repeat (first | rw [if_pos (by omega)] | rw [if_neg (by omega)])
    omega
theorem pkv_or {l : List Nat} (h : Slots l) {i : Nat} (hi : i < l.length) : pkv (l.take i) (i / 4) ||| l[i] * 2 ^ (2 * (i % 4)) = pkv (l.take (i + 1)) (i / 4) := by
  rw [or_add (pkv_lo h i), pkv_step h hi]
/-- Sealed: so many bytes, noughts up to 252, and their sum. -/
def sealN (b : List Nat) : List Nat := b.take 252 ++ List.replicate (252 - b.length) 0 ++ fourN (moreN 0 (b.take 252 ++ List.replicate (252 - b.length) 0))
theorem sealN_len (b : List Nat) : (sealN b).length = 256 := by simp [sealN, fourN]; omega
theorem sealN_whole {b : List Nat} (h : b.length ≤ 252) : whole (((whole b).take 252) ++ fourN (moreN 0 ((whole b).take 252))) = sealN b := by
  have e : (whole b).take 252 = b.take 252 ++ List.replicate (252 - b.length) 0 := by
    unfold whole
    rw [List.take_append, List.take_take, List.take_replicate]
    congr 2
    simp; omega
  rw [e]
  unfold whole sealN
  have hl : (b.take 252 ++ List.replicate (252 - b.length) 0 ++ fourN (moreN 0 (b.take 252 ++ List.replicate (252 - b.length) 0))).length = 256 := by simp [fourN]; omega
  rw [List.take_of_length_le (by omega), hl]
  simp
theorem sealN_bytes {b : List Nat} (h : Bytes b) : Bytes (sealN b) := fun x hx => by
  simp only [sealN, List.mem_append] at hx
  rcases hx with (hx | hx) | hx
  · exact h x (List.mem_of_mem_take hx)
  · rw [List.eq_of_mem_replicate hx]; decide
  · exact bytes_four _ x hx
theorem sealN_holds {b : List Nat} : holdsN (sealN b) = true := holds_sealed _
end Go.Proofs.Ytilgdnbijkcboaa

/- The walks of a slot map's Put and of the reference's sealed sector. -/
namespace Go.Proofs.Ytilgdnbijkcboaa
open Go AVL
attribute [-simp] AV.isAgg aappI aapp alen shp good comps
set_option linter.unusedVariables false
set_option linter.unusedSimpArgs false
set_option maxRecDepth 20000

section
variable {A B C : Heap} {K Kp : AV → Heap → Prop} {P : Program}
theorem le_four (s : Nat) : le 4 s = fourN s := by
  simp [le, fourN]
  omega
theorem fill_step {S : List Nat} {n i : Nat} (hS : S.length = n) (h : i < n) : (S.take i ++ List.replicate (n - i) 0).set i (S[i]'(by omega)) = S.take (i + 1) ++ List.replicate (n - (i + 1)) 0 := by
  have hl : (S.take i).length = i := by simp; omega
  rw [List.set_append_right _ _ (by omega), hl, Nat.sub_self, show n - i = (n - (i + 1)) + 1 by omega, List.replicate_succ, List.set_cons_zero, List.take_succ_eq_append_getElem (by omega), List.append_assoc]; rfl
theorem w_ref08_Sealed {b : List Nat} (hb : Bytes b) (hlen : b.length ≤ 252) : Gives Try.prog F_ref08_Sealed [.isl .u8 (ints b)] (.iarr .u8 256 (ints (sealN b))) := by
  refine v_ref08_Sealed (by simp) ?_
  simp -implicitDefEqProofs [a_ref08_Sealed, q_ref08_Sealed_0, q_ref08_Sealed_1, q_ref08_Sealed_2, -List.reduceReplicate]
  intro g2
  refine (SlS.nil (e := 5) (k := .u8) (Sub_refl _)).appS (ys := ints b) (Sub_refl _) srcI_isl (by simp; omega) fun v C hv hag => ?_
  have hs := hv.scl
  rw [List.nil_append] at hv
  have c2 := hv.sub _ _ set_eq'
  simp -implicitDefEqProofs [-List.reduceReplicate]
  refine X_lp (fun (n : Nat) env E => n ≤ 252 - b.length ∧ env 2 = .ptr g2 0 ∧ SlS 5 .u8 (env 3) (ints (b ++ List.replicate n 0)) (H0.set g2 (.var 54 [.iarr .u8 256 (List.replicate 256 0)])) E) (fun n => 252 - b.length - n) 0
    ⟨by omega, by simp, by simpa using hv⟩ ?_
  clear v hv hag hs C c2
  rintro n env E ⟨hn, e2, hv⟩
  obtain ⟨v, e3⟩ : ∃ v, env 3 = v := ⟨_, rfl⟩
  rw [e3] at hv
  have hs := hv.scl
  by_cases hlt : n < 252 - b.length
  · have hlt' : (b.length : Int) + n < 252 := by omega
    simp -implicitDefEqProofs [q_ref08_Sealed_L5, q_ref08_Sealed_3, q_ref08_Sealed_4, e2, e3, hv.len, hlt', hs.size, hs.shp, hs.agg, hs.good, hs.comps, hs.st, -List.reduceReplicate]
    intro g9 h9
    refine hv.appS (ys := [0]) (sub_none h9) (srcI_row set_eq' rfl) (by simp; omega) fun v2 C2 hv2 hag2 => ?_
    have hs2 := hv2.scl
    simp -implicitDefEqProofs [-List.reduceReplicate]
    refine lp_next (n + 1) ⟨by omega, by simp [e2], ?_⟩ (by omega)
    rw [List.replicate_succ', ← List.append_assoc]
    simpa [ints, -List.reduceReplicate] using hv2
  · have hne : n = 252 - b.length := by omega
    have hlt' : ¬ (b.length : Int) + n < 252 := by omega
    obtain ⟨L, hL⟩ : ∃ L, b ++ List.replicate n 0 = L := ⟨_, rfl⟩
    have hLl : L.length = 252 := by rw [← hL]; simp; omega
    have hLb : Bytes L := fun x hx => by
      rw [← hL] at hx
      rcases List.mem_append.1 hx with hx | hx
      · exact hb x hx
      · rw [List.eq_of_mem_replicate hx]; decide
    have hsl : sealN b = L ++ fourN (moreN 0 L) := by
      have : b.take 252 ++ List.replicate (252 - b.length) 0 = L := by rw [List.take_of_length_le hlen, ← hne]; exact hL
      unfold sealN; rw [this]
    rw [hL] at hv
    have hm := moreN_lt (s := 0) (by decide) hLb
    have wu : IntKind.u64.wrap ((moreN 0 L : Nat) : Int) = ((moreN 0 L : Nat) : Int) := wrap_u64 (by omega)
    simp -implicitDefEqProofs [q_ref08_Sealed_L5, q_ref08_Sealed_3, q_ref08_Sealed_5, e2, e3, hv.len, hLl, hs.size, hs.shp, hs.agg, hs.good, hs.comps, hs.st, -List.reduceReplicate]
    refine (w_ref02_Of L hLb (by omega)).call (.cons hv.vw hs.agg .nil) rfl ?_
    simp -implicitDefEqProofs [wu, -List.reduceReplicate]
    refine (w_ref01_Put 4 (moreN 0 L) (by omega) (by decide)).call (.cons (.refl _) rfl (.cons (.refl _) rfl .nil)) fun v4 C4 h4 => ?_
    have h4s := h4.scl
    simp -implicitDefEqProofs [h4s.agg, -List.reduceReplicate]
    obtain ⟨gq, g1, g2', g3⟩ := h4.pos (by simp)
    subst g1
    refine hv.appS (ys := ints (fourN (moreN 0 L))) h4.sub (srcI_row (by rw [← le_four]; exact g3) (by simp [fourN])) (by simp [hLl, fourN]) fun v5 C5 hv5 hag5 => ?_
    rw [ints_append, ← hsl] at hv5
    obtain ⟨S, hS⟩ : ∃ S, sealN b = S := ⟨_, rfl⟩
    have hSl : S.length = 256 := by rw [← hS]; exact sealN_len b
    rw [hS] at hv5 ⊢
    obtain ⟨x, r1, r2, r3⟩ := hv5.pos (by simp [hSl])
    subst r1
    have c2 := hv5.sub _ _ set_eq'
    simp -implicitDefEqProofs [hSl, q_ref08_Sealed_6, q_ref08_Sealed_7, -List.reduceReplicate]
    intro g4 h4'
    have nx4 := fresh_ne r3 h4'
    have n24 := fresh_ne c2 h4'
    refine X_lp (fun (i : Nat) env E => i ≤ 256 ∧ env 2 = .ptr g2 0 ∧ env 3 = .own x 0 256 ∧ env 4 = .ptr g4 0 ∧ env 5 = .int .i64 i ∧ E = C5.set g4 (.var 54 [.iarr .u8 256 (ints (S.take i ++ List.replicate (256 - i) 0))])) (fun i => 256 - i) 0
      ⟨by omega, by simp [e2], by simp, by simp, by simp, by simp [ints, -List.reduceReplicate]⟩ ?_
    rintro i env E ⟨hi, e2, e3, e4, e5, rfl⟩
    by_cases hil : i < 256
    · have hil' : (i : Int) < 256 := by omega
      have wi : IntKind.i64.wrap ((i : Int) + 1) = (i : Int) + 1 := wrap_i64 (by omega)
      simp -implicitDefEqProofs [q_ref08_Sealed_L11, q_ref08_Sealed_8, q_ref08_Sealed_9, q_ref08_Sealed_10, e2, e3, e4, e5, hil, hil', wi, nx4, r3, hSl, -List.reduceReplicate]
      refine ⟨by omega, lp_next (i + 1) ⟨by omega, by simp [e2], by simp [e3], by simp [e4], by simp, ?_⟩ (by omega)⟩
      rw [fill_step hSl hil]
    · have hie : i = 256 := by omega
      subst hie
      simp -implicitDefEqProofs [q_ref08_Sealed_L11, q_ref08_Sealed_8, q_ref08_Sealed_11, e2, e3, e4, e5, n24, c2, hSl, -List.reduceReplicate]
      rw [List.take_of_length_le (by omega)]
end
end Go.Proofs.Ytilgdnbijkcboaa

/- The walks of a cursor over a sector. -/
namespace Go.Proofs.Ytilgdnbijkcboaa
open Go AVL
set_option linter.unusedVariables false
set_option linter.unusedSimpArgs false
set_option maxRecDepth 8000

section
variable {A B : Heap} {K Kp : AV → Heap → Prop}
/-- A cursor: what of a sector is still to be read. -/
structure CurI (g g1 : Nat) (x : List Nat) (at_ m : Nat) (B : Heap) : Prop where
  cg : B g = some (.var T_word_Cursor [.asl g1 0 256 at_ m, .bool false])
  c1 : B g1 = some (.var T_256_uint8 [.iarr .u8 256 (ints x)])
  le : at_ + m ≤ 256
theorem w_word_From {g1 at_ m : Nat} {x : List Nat} (h1 : B g1 = some (.var T_256_uint8 [.iarr .u8 256 (ints x)])) (hle : at_ + m ≤ 256) (hk : ∀ g B', B g = none → CurI g g1 x at_ m B' → B.Sub B' → K (.ptr g 0) B') : SimX Try.prog F_word_From [.asl g1 0 256 at_ m] B (outK K Kp) := by
  refine j_word_From (by simp) ?_
  simp -implicitDefEqProofs [a_word_From, q_word_From_0, q_word_From_1, outOf]
  intro g hg
  exact hk g _ hg ⟨set_eq', by rw [set_ne' (fun e => by rw [e, hg] at h1; cases h1)]; exact h1, hle⟩ (sub_none hg)
theorem w_Cursor_Bytes {g g1 at_ m n : Nat} {x : List Nat} (hx : Bytes x) (hxl : x.length = 256) (h : CurI g g1 x at_ m B) (hn : n ≤ m)
    (hk : ∀ g' B', CurI g g1 x (at_ + n) (m - n) B' → B g' = none → B' g' = some (.irow T_uint8 .u8 (ints ((x.drop at_).take n))) → (∀ y c, y ≠ g → B y = some c → B' y = some c) → K (.own g' 0 n) B') : SimX Try.prog F_Pword_Cursor_Bytes [.ptr g 0, .int .i64 n] B (outK K Kp) := by
  refine j_Pword_Cursor_Bytes (by simp) ?_
  have cg := h.cg
  have c1 := h.c1
  have hle := h.le
  have n0 : ¬ (n : Int) < 0 := by omega
  have n0' : (0 : Int) ≤ n := by omega
  have nm : ¬ (m : Int) < n := by omega
  have nm' : (n : Int) ≤ m := by omega
  have hbig : (n : Int) ≤ 140737488355328 := by omega
  unfold a_Pword_Cursor_Bytes
  obtain ⟨r4, hr4⟩ : ∃ r, r = q_Pword_Cursor_Bytes_4 := ⟨_, rfl⟩; rw [← hr4]
  obtain ⟨r5, hr5⟩ : ∃ r, r = q_Pword_Cursor_Bytes_5 := ⟨_, rfl⟩; rw [← hr5]
  obtain ⟨r6, hr6⟩ : ∃ r, r = q_Pword_Cursor_Bytes_6 := ⟨_, rfl⟩; rw [← hr6]
  simp -implicitDefEqProofs [q_Pword_Cursor_Bytes_0, q_Pword_Cursor_Bytes_1, cg, n0, nm]
  simp -implicitDefEqProofs [-List.reduceReplicate, hr4, q_Pword_Cursor_Bytes_4, n0', hbig]
  intro g' hg'
  have ng : ¬ g = g' := fun e => by rw [e, hg'] at cg; cases cg
  have n1 : ¬ g1 = g' := fun e => by rw [e, hg'] at c1; cases c1
  simp -implicitDefEqProofs [-List.reduceReplicate, hr5, q_Pword_Cursor_Bytes_5, cg, ng, acopy]
  have hcpy : spl (List.replicate n 0) 0 (ints (((x.drop at_).take m).take n)) = ints ((x.drop at_).take n) := by
    rw [List.take_take, Nat.min_eq_left hn]
    have hl : (ints ((x.drop at_).take n)).length = n := by simp; omega
    unfold spl
    have h2 : (List.replicate n (0 : Int)).drop (0 + (ints ((x.drop at_).take n)).length) = [] := List.drop_of_length_le (by rw [List.length_replicate]; omega)
    rw [h2]; simp
  simp -implicitDefEqProofs [-List.reduceReplicate, c1, n1, hxl]
  rw [hcpy]
  obtain ⟨Y, hY⟩ : ∃ Y, Y = B.set g' (.irow T_uint8 .u8 (ints ((x.drop at_).take n))) := ⟨_, rfl⟩
  have hY' : B.set g' (.irow 5 .u8 (ints ((x.drop at_).take n))) = Y := hY.symm
  try simp only [hY']
  have yg : Y g = some (.var T_word_Cursor [.asl g1 0 256 at_ m, .bool false]) := by rw [hY, set_ne' ng]; exact cg
  have y1 : Y g1 = some (.var T_256_uint8 [.iarr .u8 256 (ints x)]) := by rw [hY, set_ne' n1]; exact c1
  have yn : Y g' = some (.irow T_uint8 .u8 (ints ((x.drop at_).take n))) := by rw [hY, set_eq']
  have hs : B.Sub Y := by rw [hY]; exact sub_none hg'
  clear hY hY'
  have hng1 : ¬ g1 = g := fun e => by rw [e, cg] at c1; cases c1
  simp -implicitDefEqProofs [hr6, q_Pword_Cursor_Bytes_6, q_Pword_Cursor_Bytes_7, yg, n0', nm', outOf]
  refine hk g' _ ⟨set_eq', by rw [set_ne' hng1]; exact y1, by omega⟩ hg' (by rw [set_ne' (fun e => ng e.symm)]; exact yn) fun y c hy hc => by rw [set_ne' hy]; exact hs _ _ hc
theorem w_Cursor_Num {g g1 at_ m n : Nat} {x : List Nat} (hx : Bytes x) (hxl : x.length = 256) (h : CurI g g1 x at_ m B) (hn : n ≤ m) (hn8 : n ≤ 8)
    (hk : ∀ B', CurI g g1 x (at_ + n) (m - n) B' → (∀ y c, y ≠ g → B y = some c → B' y = some c) → K (.int .u64 (leN ((x.drop at_).take n))) B') : SimX Try.prog F_Pword_Cursor_Num [.ptr g 0, .int .i64 n] B (outK K Kp) := by
  refine j_Pword_Cursor_Num (by simp) ?_
  simp -implicitDefEqProofs [a_Pword_Cursor_Num, q_Pword_Cursor_Num_0, q_Pword_Cursor_Num_1]
  refine w_Cursor_Bytes hx hxl h hn fun g' B' hc hg' hr hkp => ?_
  simp -implicitDefEqProofs
  have hl : ((x.drop at_).take n).length = n := by have := h.le; simp; omega
  refine (w_word_Get ((x.drop at_).take n) (bytes_take (bytes_drop hx at_) n) (by omega)).call (.cons (vw_irow hr (by simp [hl])) rfl .nil) rfl ?_
  simp -implicitDefEqProofs [outOf]
  exact hk B' hc hkp
/-- Nothing but noughts. -/
def zeroB (l : List Nat) : Bool := l.all fun b => decide (b = 0)
structure ZerI (l : List Nat) (i : Nat) (env : AEnv) (B : Heap) : Prop where
  le : i ≤ l.length
  eq : zeroB l = zeroB (l.drop i)
  e5 : env 5 = .isl .u8 (ints l)
  e6 : env 6 = .int .i64 l.length
  e7 : env 7 = .int .i64 i
theorem w_word_Zero {l : List Nat} (hl : l.length < 2 ^ 40) : Gives Try.prog F_word_Zero [.isl .u8 (ints l)] (.bool (zeroB l)) := by
  refine v_word_Zero (by simp) ?_
  simp -implicitDefEqProofs [a_word_Zero, q_word_Zero_0, q_word_Zero_1]
  refine X_lp (ZerI l) (fun i => l.length - i) 0 ⟨by omega, by simp, by simp, by simp, by simp⟩ ?_
  rintro i env B ⟨hi, heq, e5, e6, e7⟩
  simp -implicitDefEqProofs [q_word_Zero_L7, q_word_Zero_2, e6, e7]
  refine ⟨fun hlt => ?_, fun hge => ?_⟩
  · have hii : (i : Int) < l.length := by omega
    have wi : IntKind.i64.wrap ((i : Int) + 1) = (i : Int) + 1 := wrap_i64 (by omega)
    rw [List.drop_eq_getElem_cons hlt] at heq
    obtain ⟨b, hb⟩ : ∃ b, b = l[i] := ⟨_, rfl⟩
    rw [← hb] at heq
    have hbd : l[i]?.getD 0 = b := by rw [List.getElem?_eq_getElem hlt, hb]; rfl
    by_cases hz : b = 0
    · have hl0 : l[i] = 0 := by rw [← hb]; exact hz
      have hz2 : zeroB l = zeroB (l.drop (i + 1)) := by rw [heq]; simp [zeroB, hz]
      simp -implicitDefEqProofs [q_word_Zero_3, q_word_Zero_4, q_word_Zero_6, e5, e7, hlt, hii, hbd, hz, hl0, wi]
      exact lp_next (i + 1) ⟨by omega, hz2, by simp [e5], by simp [e6], by simp⟩ (by omega)
    · have hz2 : zeroB l = false := by rw [heq]; simp [zeroB, hz]
      have hl0 : ¬ l[i] = 0 := by rw [← hb]; exact hz
      have hz' : ¬ (b : Int) = 0 := by omega
      simp -implicitDefEqProofs [q_word_Zero_3, q_word_Zero_4, q_word_Zero_5, e5, e7, hlt, hii, hbd, hz, hl0, hz', a_word_Zero, outOf, hz2]
  · have hz2 : zeroB l = true := by rw [heq, List.drop_of_length_le (by omega)]; rfl
    simp -implicitDefEqProofs [q_word_Zero_7, a_word_Zero, outOf, hz2]
theorem w_Cursor_Rest {g g1 at_ m : Nat} {x : List Nat} (hxl : x.length = 256) (h : CurI g g1 x at_ m B) (hk : K (.bool (zeroB ((x.drop at_).take m))) B) : SimX Try.prog F_Pword_Cursor_Rest [.ptr g 0] B (outK K Kp) := by
  refine j_Pword_Cursor_Rest (by simp) ?_
  have cg := h.cg
  simp -implicitDefEqProofs [a_Pword_Cursor_Rest, q_Pword_Cursor_Rest_0, q_Pword_Cursor_Rest_1, cg]
  have hv := vw_arrP (i := at_) (n := m) h.c1 (by simp [hxl])
  rw [ints_drop, ints_take] at hv
  refine (w_word_Zero (l := (x.drop at_).take m) (by simp; omega)).call (.cons hv rfl .nil) rfl ?_
  simp -implicitDefEqProofs [outOf]
  exact hk
end
end Go.Proofs.Ytilgdnbijkcboaa

/- Abstract programs; that they are the program's. -/
namespace Go.Proofs.Ytilgdnbijkcboaa
open Go AVL
set_option linter.unusedVariables false
set_option maxRecDepth 20000

def q_plan_Check_0 : List AOper := [
  ⟨(some 1), (.box 53 .ag (.t 0)), none⟩,
  ⟨(some 2), (.mv (.v (.int .i64 0))), none⟩]
def q_plan_Check_1 : List AOper := [
  ⟨(some 5), (.fadr 0 1 .sc (.t 1)), none⟩,
  ⟨(some 6), (.load .sc 1 (.t 5)), none⟩,
  ⟨(some 7), (.build (.ia .i64 2) [(.iarr .i64 2 [0, 0])] [(0, (1, (.t 6))), (1, (1, (.v (.int .i64 200))))]), none⟩,
  ⟨(some 8), (.fadr 1 1 .sc (.t 1)), none⟩,
  ⟨(some 9), (.load .sc 1 (.t 8)), none⟩,
  ⟨(some 10), (.build (.ia .i64 2) [(.iarr .i64 2 [0, 0])] [(0, (1, (.t 9))), (1, (1, (.v (.int .i64 40))))]), none⟩,
  ⟨(some 11), (.fadr 2 1 .sc (.t 1)), none⟩,
  ⟨(some 12), (.load .sc 1 (.t 11)), none⟩,
  ⟨(some 13), (.build (.ia .i64 2) [(.iarr .i64 2 [0, 0])] [(0, (1, (.t 12))), (1, (1, (.v (.int .i64 40))))]), none⟩,
  ⟨(some 14), (.fadr 3 1 .sc (.t 1)), none⟩,
  ⟨(some 15), (.load .sc 1 (.t 14)), none⟩,
  ⟨(some 16), (.build (.ia .i64 2) [(.iarr .i64 2 [0, 0])] [(0, (1, (.t 15))), (1, (1, (.v (.int .i64 80))))]), none⟩,
  ⟨(some 17), (.build .ag [(.iarr .i64 2 [0, 0]), (.iarr .i64 2 [0, 0]), (.iarr .i64 2 [0, 0]), (.iarr .i64 2 [0, 0])] [(0, (2, (.t 7))), (2, (2, (.t 10))), (4, (2, (.t 13))), (6, (2, (.t 16)))]), none⟩,
  ⟨(some 18), (.mv (.v (.int .i64 0))), none⟩]
def q_plan_Check_2 : List AOper := [
  ⟨(some 19), (.bin .lss (.t 18) (.v (.int .i64 4))), none⟩]
def q_plan_Check_3 : List AOper := [
  ⟨(some 20), (.xx (.idxV 4 2 (.ia .i64 2)) [(.t 17), (.t 18)]), none⟩,
  ⟨(some 4), (.alloc 144 [(.iarr .i64 2 [0, 0])]), none⟩,
  ⟨none, (.store (.ia .i64 2) 2 (.t 4) (.t 20)), none⟩]
def q_plan_Check_4 : List AOper := [
  ⟨(some 21), (.idxA 2 1 true (.t 4) (.v (.int .i64 0))), none⟩,
  ⟨(some 22), (.load .sc 1 (.t 21)), none⟩,
  ⟨(some 23), (.bin .lss (.t 22) (.v (.int .i64 1))), none⟩,
  ⟨(some 24), (.mv (.t 23)), none⟩,
  ⟨(some 25), (.idxA 2 1 true (.t 4) (.v (.int .i64 0))), (some (24, false))⟩,
  ⟨(some 26), (.load .sc 1 (.t 25)), (some (24, false))⟩,
  ⟨(some 27), (.idxA 2 1 true (.t 4) (.v (.int .i64 1))), (some (24, false))⟩,
  ⟨(some 28), (.load .sc 1 (.t 27)), (some (24, false))⟩,
  ⟨(some 29), (.bin .gtr (.t 26) (.t 28)), (some (24, false))⟩,
  ⟨(some 30), (.pick (.t 24) (.v (.bool true)) (.t 29)), none⟩]
def q_plan_Check_5 : List AOper := [
  ⟨(some 2), (.mv (.v (.int .i64 2))), none⟩]
def q_plan_Check_6 : List AOper := [
  ⟨(some 31), (.bin .add (.t 18) (.v (.int .i64 1))), none⟩,
  ⟨(some 18), (.mv (.t 31)), none⟩]
def q_plan_Check_L7 : ACode := (.seq (.region q_plan_Check_2) (.seq (.cond (.t 19) .skip (.exit 0)) (.seq (.block 1 (.seq (.region q_plan_Check_3) (.seq (.region q_plan_Check_4) (.cond (.t 30) (.seq (.region q_plan_Check_5) .ret) .skip)))) (.region q_plan_Check_6))))
def q_plan_Check_7 : List AOper := [
  ⟨(some 2), (.mv (.v (.int .i64 0))), none⟩]
def a_plan_Check : AFunc := ⟨[(.tmp 2)], (.seq (.region q_plan_Check_0) (.seq (.seq (.region q_plan_Check_1) (.block 0 (.loop q_plan_Check_L7))) (.seq (.region q_plan_Check_7) .ret)))⟩

def q_ref07_Check_0 : List AOper := [
  ⟨(some 1), (.box 53 .ag (.t 0)), none⟩,
  ⟨(some 2), (.mv (.v (.int .i64 0))), none⟩]
def q_ref07_Check_1 : List AOper := [
  ⟨(some 3), (.load .ag 4 (.t 1)), none⟩,
  ⟨(some 4), (.call F_ref07_right [(.ag, (.t 3))]), none⟩,
  ⟨(some 5), (.un .not (.t 4)), none⟩]
def q_ref07_Check_2 : List AOper := [
  ⟨(some 2), (.mv (.v (.int .i64 2))), none⟩]
def q_ref07_Check_3 : List AOper := [
  ⟨(some 2), (.mv (.v (.int .i64 0))), none⟩]
def a_ref07_Check : AFunc := ⟨[(.tmp 2)], (.seq (.region q_ref07_Check_0) (.seq (.seq (.region q_ref07_Check_1) (.cond (.t 5) (.seq (.region q_ref07_Check_2) .ret) .skip)) (.seq (.region q_ref07_Check_3) .ret)))⟩

def q_ref07_right_0 : List AOper := [
  ⟨(some 1), (.box 53 .ag (.t 0)), none⟩,
  ⟨(some 2), (.mv (.v (.bool false))), none⟩]
def q_ref07_right_1 : List AOper := [
  ⟨(some 3), (.fadr 0 1 .sc (.t 1)), none⟩,
  ⟨(some 4), (.load .sc 1 (.t 3)), none⟩,
  ⟨(some 5), (.bin .geq (.t 4) (.v (.int .i64 1))), none⟩,
  ⟨(some 6), (.mv (.t 5)), none⟩,
  ⟨(some 7), (.fadr 0 1 .sc (.t 1)), (some (6, true))⟩,
  ⟨(some 8), (.load .sc 1 (.t 7)), (some (6, true))⟩,
  ⟨(some 9), (.bin .leq (.t 8) (.v (.int .i64 200))), (some (6, true))⟩,
  ⟨(some 10), (.pick (.t 6) (.t 9) (.v (.bool false))), none⟩,
  ⟨(some 11), (.mv (.t 10)), none⟩,
  ⟨(some 12), (.fadr 1 1 .sc (.t 1)), (some (11, true))⟩,
  ⟨(some 13), (.load .sc 1 (.t 12)), (some (11, true))⟩,
  ⟨(some 14), (.bin .geq (.t 13) (.v (.int .i64 1))), (some (11, true))⟩,
  ⟨(some 15), (.pick (.t 11) (.t 14) (.v (.bool false))), none⟩,
  ⟨(some 16), (.mv (.t 15)), none⟩,
  ⟨(some 17), (.fadr 1 1 .sc (.t 1)), (some (16, true))⟩,
  ⟨(some 18), (.load .sc 1 (.t 17)), (some (16, true))⟩,
  ⟨(some 19), (.bin .leq (.t 18) (.v (.int .i64 40))), (some (16, true))⟩,
  ⟨(some 20), (.pick (.t 16) (.t 19) (.v (.bool false))), none⟩,
  ⟨(some 21), (.mv (.t 20)), none⟩,
  ⟨(some 22), (.fadr 2 1 .sc (.t 1)), (some (21, true))⟩,
  ⟨(some 23), (.load .sc 1 (.t 22)), (some (21, true))⟩,
  ⟨(some 24), (.bin .geq (.t 23) (.v (.int .i64 1))), (some (21, true))⟩,
  ⟨(some 25), (.pick (.t 21) (.t 24) (.v (.bool false))), none⟩,
  ⟨(some 26), (.mv (.t 25)), none⟩,
  ⟨(some 27), (.fadr 2 1 .sc (.t 1)), (some (26, true))⟩,
  ⟨(some 28), (.load .sc 1 (.t 27)), (some (26, true))⟩,
  ⟨(some 29), (.bin .leq (.t 28) (.v (.int .i64 40))), (some (26, true))⟩,
  ⟨(some 30), (.pick (.t 26) (.t 29) (.v (.bool false))), none⟩,
  ⟨(some 31), (.mv (.t 30)), none⟩,
  ⟨(some 32), (.fadr 3 1 .sc (.t 1)), (some (31, true))⟩,
  ⟨(some 33), (.load .sc 1 (.t 32)), (some (31, true))⟩,
  ⟨(some 34), (.bin .geq (.t 33) (.v (.int .i64 1))), (some (31, true))⟩,
  ⟨(some 35), (.pick (.t 31) (.t 34) (.v (.bool false))), none⟩,
  ⟨(some 36), (.mv (.t 35)), none⟩,
  ⟨(some 37), (.fadr 3 1 .sc (.t 1)), (some (36, true))⟩,
  ⟨(some 38), (.load .sc 1 (.t 37)), (some (36, true))⟩,
  ⟨(some 39), (.bin .leq (.t 38) (.v (.int .i64 80))), (some (36, true))⟩,
  ⟨(some 40), (.pick (.t 36) (.t 39) (.v (.bool false))), none⟩,
  ⟨(some 2), (.mv (.t 40)), none⟩]
def a_ref07_right : AFunc := ⟨[(.tmp 2)], (.seq (.region q_ref07_right_0) (.seq (.region q_ref07_right_1) .ret))⟩


theorem c_plan_Check : trF Try.prog Try.f60 = some a_plan_Check := by kernel_rfl
theorem g_plan_Check : Try.prog.funcs[60]? = some Try.f60 := by kernel_rfl
theorem i_plan_Check {args : List AV} {A : Heap} {Ko : AOut → Heap → Prop} (hn : args.length ≤ 32)
    (h : ∀ R : APost, (∀ e env A, fpost a_plan_Check.res Ko e env A → R e env A) → X Try.prog R a_plan_Check.body .done (env0 args) A) : SimX Try.prog F_plan_Check args A Ko :=
  X_intro g_plan_Check c_plan_Check (by rw [Try.ntmps60]; exact hn) h
theorem v_plan_Check {args : List AV} {v : AV} (hn : args.length ≤ 32) (h : X Try.prog (fin a_plan_Check.res v) a_plan_Check.body .done (env0 args) H0) : Gives Try.prog F_plan_Check args v :=
  Gives_intro g_plan_Check c_plan_Check (by rw [Try.ntmps60]; exact hn) h
theorem e_plan_Check {args : List AV} {Q : AOut → Prop} (hn : args.length ≤ 32) (h : X Try.prog (finE a_plan_Check.res Q) a_plan_Check.body .done (env0 args) H0) : Fins Try.prog F_plan_Check args Q :=
  Fins_intro g_plan_Check c_plan_Check (by rw [Try.ntmps60]; exact hn) h
theorem j_plan_Check {args : List AV} {A : Heap} {K Kp : AV → Heap → Prop} (hn : args.length ≤ 32) (h : X Try.prog (inl a_plan_Check.res K Kp) a_plan_Check.body .done (env0 args) A) : SimX Try.prog F_plan_Check args A (outK K Kp) :=
  X_inl g_plan_Check c_plan_Check (by rw [Try.ntmps60]; exact hn) h
theorem d_plan_Check {args : List AV} {A : Heap} {Ko : AOut → Heap → Prop} (hn : args.length ≤ 32) (hrf : AVL.Func.hasRF Try.f60 = false)
    (h : ∀ R : APost, (∀ e env A, fpost a_plan_Check.res Ko e env A → R e env A) → X Try.prog R a_plan_Check.body .done (env0 args) A) : SimD Try.prog F_plan_Check args A Ko :=
  X_introD g_plan_Check c_plan_Check (by rw [Try.ntmps60]; exact hn) hrf h
@[simp] theorem k_plan_Check : callable Try.prog F_plan_Check = true := by kernel_rfl
theorem c_ref07_Check : trF Try.prog Try.f65 = some a_ref07_Check := by kernel_rfl
theorem g_ref07_Check : Try.prog.funcs[65]? = some Try.f65 := by kernel_rfl
theorem i_ref07_Check {args : List AV} {A : Heap} {Ko : AOut → Heap → Prop} (hn : args.length ≤ 6)
    (h : ∀ R : APost, (∀ e env A, fpost a_ref07_Check.res Ko e env A → R e env A) → X Try.prog R a_ref07_Check.body .done (env0 args) A) : SimX Try.prog F_ref07_Check args A Ko :=
  X_intro g_ref07_Check c_ref07_Check (by rw [Try.ntmps65]; exact hn) h
theorem v_ref07_Check {args : List AV} {v : AV} (hn : args.length ≤ 6) (h : X Try.prog (fin a_ref07_Check.res v) a_ref07_Check.body .done (env0 args) H0) : Gives Try.prog F_ref07_Check args v :=
  Gives_intro g_ref07_Check c_ref07_Check (by rw [Try.ntmps65]; exact hn) h
theorem e_ref07_Check {args : List AV} {Q : AOut → Prop} (hn : args.length ≤ 6) (h : X Try.prog (finE a_ref07_Check.res Q) a_ref07_Check.body .done (env0 args) H0) : Fins Try.prog F_ref07_Check args Q :=
  Fins_intro g_ref07_Check c_ref07_Check (by rw [Try.ntmps65]; exact hn) h
theorem j_ref07_Check {args : List AV} {A : Heap} {K Kp : AV → Heap → Prop} (hn : args.length ≤ 6) (h : X Try.prog (inl a_ref07_Check.res K Kp) a_ref07_Check.body .done (env0 args) A) : SimX Try.prog F_ref07_Check args A (outK K Kp) :=
  X_inl g_ref07_Check c_ref07_Check (by rw [Try.ntmps65]; exact hn) h
theorem d_ref07_Check {args : List AV} {A : Heap} {Ko : AOut → Heap → Prop} (hn : args.length ≤ 6) (hrf : AVL.Func.hasRF Try.f65 = false)
    (h : ∀ R : APost, (∀ e env A, fpost a_ref07_Check.res Ko e env A → R e env A) → X Try.prog R a_ref07_Check.body .done (env0 args) A) : SimD Try.prog F_ref07_Check args A Ko :=
  X_introD g_ref07_Check c_ref07_Check (by rw [Try.ntmps65]; exact hn) hrf h
@[simp] theorem k_ref07_Check : callable Try.prog F_ref07_Check = true := by kernel_rfl
theorem c_ref07_right : trF Try.prog Try.f91 = some a_ref07_right := by kernel_rfl
theorem g_ref07_right : Try.prog.funcs[91]? = some Try.f91 := by kernel_rfl
theorem i_ref07_right {args : List AV} {A : Heap} {Ko : AOut → Heap → Prop} (hn : args.length ≤ 41)
    (h : ∀ R : APost, (∀ e env A, fpost a_ref07_right.res Ko e env A → R e env A) → X Try.prog R a_ref07_right.body .done (env0 args) A) : SimX Try.prog F_ref07_right args A Ko :=
  X_intro g_ref07_right c_ref07_right (by rw [Try.ntmps91]; exact hn) h
theorem v_ref07_right {args : List AV} {v : AV} (hn : args.length ≤ 41) (h : X Try.prog (fin a_ref07_right.res v) a_ref07_right.body .done (env0 args) H0) : Gives Try.prog F_ref07_right args v :=
  Gives_intro g_ref07_right c_ref07_right (by rw [Try.ntmps91]; exact hn) h
theorem e_ref07_right {args : List AV} {Q : AOut → Prop} (hn : args.length ≤ 41) (h : X Try.prog (finE a_ref07_right.res Q) a_ref07_right.body .done (env0 args) H0) : Fins Try.prog F_ref07_right args Q :=
  Fins_intro g_ref07_right c_ref07_right (by rw [Try.ntmps91]; exact hn) h
theorem j_ref07_right {args : List AV} {A : Heap} {K Kp : AV → Heap → Prop} (hn : args.length ≤ 41) (h : X Try.prog (inl a_ref07_right.res K Kp) a_ref07_right.body .done (env0 args) A) : SimX Try.prog F_ref07_right args A (outK K Kp) :=
  X_inl g_ref07_right c_ref07_right (by rw [Try.ntmps91]; exact hn) h
theorem d_ref07_right {args : List AV} {A : Heap} {Ko : AOut → Heap → Prop} (hn : args.length ≤ 41) (hrf : AVL.Func.hasRF Try.f91 = false)
    (h : ∀ R : APost, (∀ e env A, fpost a_ref07_right.res Ko e env A → R e env A) → X Try.prog R a_ref07_right.body .done (env0 args) A) : SimD Try.prog F_ref07_right args A Ko :=
  X_introD g_ref07_right c_ref07_right (by rw [Try.ntmps91]; exact hn) hrf h
@[simp] theorem k_ref07_right : callable Try.prog F_ref07_right = true := by kernel_rfl
end Go.Proofs.Ytilgdnbijkcboaa

/- The walks of the plan's functions: Check. -/
namespace Go.Proofs.Ytilgdnbijkcboaa
open Go AVL
set_option linter.unusedVariables false
set_option linter.unusedSimpArgs false

def planV (s t c a : Int) : AV := .agg [.int .i64 s, .int .i64 t, .int .i64 c, .int .i64 a]
def planOk (s t c a : Int) : Prop := (1 ≤ s ∧ s ≤ 200) ∧ (1 ≤ t ∧ t ≤ 40) ∧ (1 ≤ c ∧ c ≤ 40) ∧ (1 ≤ a ∧ a ≤ 80)
instance (s t c a : Int) : Decidable (planOk s t c a) := by unfold planOk; infer_instance
def planCode (s t c a : Int) : Int := if planOk s t c a then 0 else 2

theorem w_ref07_right (s t c a : Int) : Gives Try.prog F_ref07_right [planV s t c a] (.bool (decide (planOk s t c a))) := by
  refine v_ref07_right (by simp) ?_
  simp -implicitDefEqProofs +contextual [a_ref07_right, q_ref07_right_0, q_ref07_right_1, planV, guardO_dec]
  by_cases h : planOk s t c a <;> simp [h] <;> unfold planOk at h <;> omega
theorem w_ref07_Check (s t c a : Int) : Gives Try.prog F_ref07_Check [planV s t c a] (.int .i64 (planCode s t c a)) := by
  refine v_ref07_Check (by simp) ?_
  simp -implicitDefEqProofs [a_ref07_Check, q_ref07_Check_0, q_ref07_Check_1, planV]
  intro g
  refine (w_ref07_right s t c a).call (.cons (.refl _) rfl .nil) rfl ?_
  simp -implicitDefEqProofs +contextual [q_ref07_Check_2, q_ref07_Check_3, planCode]
theorem w_plan_Check (s t c a : Int) : Gives Try.prog F_plan_Check [planV s t c a] (.int .i64 (planCode s t c a)) := by
  refine v_plan_Check (by simp) ?_
  simp -implicitDefEqProofs [a_plan_Check, q_plan_Check_0, q_plan_Check_1, planV]
  intro g
  refine X_lp (fun (i : Nat) env A => i ≤ 4 ∧ env 17 = .agg [.iarr .i64 2 [s, 200], .iarr .i64 2 [t, 40], .iarr .i64 2 [c, 40], .iarr .i64 2 [a, 80]] ∧ env 18 = .int .i64 i ∧
    (0 < i → 1 ≤ s ∧ s ≤ 200) ∧ (1 < i → 1 ≤ t ∧ t ≤ 40) ∧ (2 < i → 1 ≤ c ∧ c ≤ 40) ∧ (3 < i → 1 ≤ a ∧ a ≤ 80)) (fun i => 4 - i) 0 ⟨by simp, by simp, by simp, by simp, by simp, by simp, by simp⟩ ?_
  rintro i env A ⟨h1, h2, h3, h4, h5, h6, h7⟩
  have hp : planCode s t c a = if planOk s t c a then 0 else 2 := rfl
  rcases (by omega : i = 0 ∨ i = 1 ∨ i = 2 ∨ i = 3 ∨ i = 4) with rfl | rfl | rfl | rfl | rfl <;>
    simp -implicitDefEqProofs [q_plan_Check_L7, q_plan_Check_2, q_plan_Check_3, q_plan_Check_4, q_plan_Check_5, q_plan_Check_6, q_plan_Check_7, h2, h3, guardO_decF]
  case inr.inr.inr.inr => rw [hp, if_pos]; unfold planOk; omega
  case inl =>
    intro g hg
    exact ⟨fun hx => ⟨fun hy => by rw [hp, if_neg]; unfold planOk; omega, fun hy => lp_next 1 ⟨by simp, by simp [h2], by simp; decide, by omega, by omega, by omega, by omega⟩ (by decide)⟩,
      fun hx => by rw [hp, if_neg]; unfold planOk; omega⟩
  case inr.inl =>
    intro g hg
    exact ⟨fun hx => ⟨fun hy => by rw [hp, if_neg]; unfold planOk; omega, fun hy => lp_next 2 ⟨by simp, by simp [h2], by simp; decide, by omega, by omega, by omega, by omega⟩ (by decide)⟩,
      fun hx => by rw [hp, if_neg]; unfold planOk; omega⟩
  case inr.inr.inl =>
    intro g hg
    exact ⟨fun hx => ⟨fun hy => by rw [hp, if_neg]; unfold planOk; omega, fun hy => lp_next 3 ⟨by simp, by simp [h2], by simp; decide, by omega, by omega, by omega, by omega⟩ (by decide)⟩,
      fun hx => by rw [hp, if_neg]; unfold planOk; omega⟩
  case inr.inr.inr.inl =>
    intro g hg
    exact ⟨fun hx => ⟨fun hy => by rw [hp, if_neg]; unfold planOk; omega, fun hy => lp_next 4 ⟨by simp, by simp [h2], by simp; decide, by omega, by omega, by omega, by omega⟩ (by decide)⟩,
      fun hx => by rw [hp, if_neg]; unfold planOk; omega⟩
/-- The numbers of a layout. -/
def ixN (s : Int) : Int := (2 * s + 5) / 6
def layL (s t c a : Int) : List Int :=
  [s, t, c, a, 5, 5 + ixN s, 5 + ixN s + t, 5 + ixN s + t + c, 5 + ixN s + t + c + a, 5 + ixN s + t + c + a + 1, 5 + ixN s + t + c + a + 1 + (ixN s + 9 + t), 5 + ixN s + t + c + a + 1 + (ixN s + 9 + t) + s, ixN s * 6, ixN s + 9 + t]
def layV (l : List Int) : AV := .agg (l.map (.int .i64))
def lay0 : List Int := [0, 0, 0, 0, 0, 0, 0, 0, 0, 0, 0, 0, 0, 0]
end Go.Proofs.Ytilgdnbijkcboaa

/- Abstract programs; that they are the program's. -/
namespace Go.Proofs.Ytilgdnbijkcboaa
open Go AVL
set_option linter.unusedVariables false
set_option maxRecDepth 20000

def q_super_Put_0 : List AOper := [
  ⟨(some 1), (.box 58 .ag (.t 0)), none⟩,
  ⟨(some 2), (.alloc 54 [(.iarr .u8 256 (List.replicate 256 0))]), none⟩,
  ⟨(some 3), (.mv (.v (.int .i64 0))), none⟩]
def q_super_Put_1 : List AOper := [
  ⟨(some 10), (.fadr 0 4 .ag (.t 1)), none⟩,
  ⟨(some 11), (.load .ag 4 (.t 10)), none⟩,
  ⟨(some 12), (.call F_plan_Check [(.ag, (.t 11))]), none⟩,
  ⟨(some 4), (.mv (.t 12)), none⟩]
def q_super_Put_2 : List AOper := [
  ⟨(some 13), (.mv (.t 4)), none⟩,
  ⟨(some 14), (.eq .scI true (.t 13) (.v (.int .i64 0))), none⟩]
def q_super_Put_3 : List AOper := [
  ⟨(some 15), (.build (.ia .u8 256) [(.iarr .u8 256 (List.replicate 256 0))] []), none⟩,
  ⟨(some 16), (.mv (.t 4)), none⟩,
  ⟨none, (.store (.ia .u8 256) 256 (.t 2) (.t 15)), none⟩,
  ⟨(some 3), (.mv (.t 16)), none⟩]
def q_super_Put_4 : List AOper := [
  ⟨(some 17), (.fadr 4 1 .sc (.t 1)), none⟩,
  ⟨(some 18), (.load .sc 1 (.t 17)), none⟩,
  ⟨(some 19), (.bin .lss (.t 18) (.v (.int .i64 0))), none⟩,
  ⟨(some 20), (.mv (.t 19)), none⟩,
  ⟨(some 21), (.fadr 4 1 .sc (.t 1)), (some (20, false))⟩,
  ⟨(some 22), (.load .sc 1 (.t 21)), (some (20, false))⟩,
  ⟨(some 23), (.bin .gtr (.t 22) (.v (.int .i64 1099511627776))), (some (20, false))⟩,
  ⟨(some 24), (.pick (.t 20) (.v (.bool true)) (.t 23)), none⟩]
def q_super_Put_5 : List AOper := [
  ⟨(some 25), (.build (.ia .u8 256) [(.iarr .u8 256 (List.replicate 256 0))] []), none⟩,
  ⟨none, (.store (.ia .u8 256) 256 (.t 2) (.t 25)), none⟩,
  ⟨(some 3), (.mv (.v (.int .i64 2))), none⟩]
def q_super_Put_6 : List AOper := [
  ⟨(some 26), (.call F_super_mark []), none⟩,
  ⟨(some 5), (.alloc 116 [(.iarr .u8 8 [0, 0, 0, 0, 0, 0, 0, 0])]), none⟩,
  ⟨none, (.store (.ia .u8 8) 8 (.t 5) (.t 26)), none⟩]
def q_super_Put_7 : List AOper := [
  ⟨(some 27), (.slcA 8 (.t 5) none none), none⟩,
  ⟨(some 6), (.mv (.t 27)), none⟩]
def q_super_Put_8 : List AOper := [
  ⟨(some 28), (.fadr 0 4 .ag (.t 1)), none⟩,
  ⟨(some 29), (.fadr 0 1 .sc (.t 28)), none⟩,
  ⟨(some 30), (.load .sc 1 (.t 29)), none⟩,
  ⟨(some 31), (.fadr 0 4 .ag (.t 1)), none⟩,
  ⟨(some 32), (.fadr 1 1 .sc (.t 31)), none⟩,
  ⟨(some 33), (.load .sc 1 (.t 32)), none⟩,
  ⟨(some 34), (.fadr 0 4 .ag (.t 1)), none⟩,
  ⟨(some 35), (.fadr 2 1 .sc (.t 34)), none⟩,
  ⟨(some 36), (.load .sc 1 (.t 35)), none⟩,
  ⟨(some 37), (.fadr 0 4 .ag (.t 1)), none⟩,
  ⟨(some 38), (.fadr 3 1 .sc (.t 37)), none⟩,
  ⟨(some 39), (.load .sc 1 (.t 38)), none⟩,
  ⟨(some 40), (.build (.ia .i64 4) [(.iarr .i64 4 [0, 0, 0, 0])] [(0, (1, (.t 30))), (1, (1, (.t 33))), (2, (1, (.t 36))), (3, (1, (.t 39)))]), none⟩,
  ⟨(some 41), (.mv (.v (.int .i64 0))), none⟩]
def q_super_Put_9 : List AOper := [
  ⟨(some 42), (.bin .lss (.t 41) (.v (.int .i64 4))), none⟩]
def q_super_Put_10 : List AOper := [
  ⟨(some 43), (.xx (.idxV 4 1 .sc) [(.t 40), (.t 41)]), none⟩,
  ⟨(some 8), (.mv (.t 43)), none⟩]
def q_super_Put_11 : List AOper := [
  ⟨(some 44), (.mv (.t 6)), none⟩,
  ⟨(some 45), (.mv (.t 8)), none⟩,
  ⟨(some 46), (.conv .u64 (.t 45)), none⟩,
  ⟨(some 47), (.call F_word_Put [(.sc, (.t 46)), (.sc, (.v (.int .i64 2)))]), none⟩,
  ⟨(some 48), (.appI 5 .u8 1 (.t 44) (.t 47)), none⟩,
  ⟨(some 6), (.mv (.t 48)), none⟩]
def q_super_Put_12 : List AOper := [
  ⟨(some 49), (.bin .add (.t 41) (.v (.int .i64 1))), none⟩,
  ⟨(some 41), (.mv (.t 49)), none⟩]
def q_super_Put_L13 : ACode := (.seq (.region q_super_Put_9) (.seq (.cond (.t 42) .skip (.exit 0)) (.seq (.block 1 (.seq (.region q_super_Put_10) (.region q_super_Put_11))) (.region q_super_Put_12))))
def q_super_Put_13 : List AOper := [
  ⟨(some 50), (.mv (.t 6)), none⟩,
  ⟨(some 51), (.fadr 4 1 .sc (.t 1)), none⟩,
  ⟨(some 52), (.load .sc 1 (.t 51)), none⟩,
  ⟨(some 53), (.conv .u64 (.t 52)), none⟩,
  ⟨(some 54), (.call F_word_Put [(.sc, (.t 53)), (.sc, (.v (.int .i64 8)))]), none⟩,
  ⟨(some 55), (.appI 5 .u8 1 (.t 50) (.t 54)), none⟩,
  ⟨(some 6), (.mv (.t 55)), none⟩]
def q_super_Put_14 : List AOper := [
  ⟨(some 56), (.mv (.t 6)), none⟩,
  ⟨(some 57), (.call F_word_Whole [(.sc, (.t 56))]), none⟩,
  ⟨(some 9), (.alloc 54 [(.iarr .u8 256 (List.replicate 256 0))]), none⟩,
  ⟨none, (.store (.ia .u8 256) 256 (.t 9) (.t 57)), none⟩]
def q_super_Put_15 : List AOper := [
  ⟨(some 58), (.slcA 256 (.t 9) none (some (.v (.int .i64 252)))), none⟩,
  ⟨(some 59), (.call F_crc_Sealed [(.sc, (.t 58))]), none⟩,
  ⟨(some 60), (.call F_word_Whole [(.sc, (.t 59))]), none⟩,
  ⟨none, (.store (.ia .u8 256) 256 (.t 2) (.t 60)), none⟩,
  ⟨(some 3), (.mv (.v (.int .i64 0))), none⟩]
def a_super_Put : AFunc := ⟨[(.cell 2 (.ia .u8 256) 256), (.tmp 3)], (.seq (.region q_super_Put_0) (.seq (.seq (.region q_super_Put_1) (.seq (.region q_super_Put_2) (.cond (.t 14) (.seq (.region q_super_Put_3) .ret) .skip))) (.seq (.seq (.region q_super_Put_4) (.cond (.t 24) (.seq (.region q_super_Put_5) .ret) .skip)) (.seq (.region q_super_Put_6) (.seq (.region q_super_Put_7) (.seq (.seq (.region q_super_Put_8) (.block 0 (.loop q_super_Put_L13))) (.seq (.region q_super_Put_13) (.seq (.region q_super_Put_14) (.seq (.region q_super_Put_15) .ret)))))))))⟩

def q_super_Get_0 : List AOper := [
  ⟨(some 1), (.box 54 (.ia .u8 256) (.t 0)), none⟩,
  ⟨(some 2), (.alloc 58 [(.int .i64 0), (.int .i64 0), (.int .i64 0), (.int .i64 0), (.int .i64 0)]), none⟩,
  ⟨(some 3), (.mv (.v (.int .i64 0))), none⟩]
def q_super_Get_1 : List DOp := [
  ⟨⟨(some 7), (.slcA 256 (.t 1) none none), none⟩, true, false, none, []⟩,
  ⟨⟨(some 8), (.call F_crc_Holds [(.sc, (.t 7))]), none⟩, false, false, none, []⟩,
  ⟨⟨(some 9), (.un .not (.t 8)), none⟩, true, false, none, []⟩,
  ⟨⟨(some 10), (.mv (.t 9)), none⟩, true, false, none, []⟩,
  ⟨⟨(some 11), (.slcA 256 (.t 1) none (some (.v (.int .i64 8)))), (some (10, false))⟩, true, false, none, []⟩,
  ⟨⟨(some 12), (.s2a 8 (.t 11)), (some (10, false))⟩, true, false, none, []⟩,
  ⟨⟨(some 13), (.load (.ia .u8 8) 8 (.t 12)), (some (10, false))⟩, true, false, none, []⟩,
  ⟨⟨(some 14), (.call F_super_mark []), (some (10, false))⟩, false, true, (some [12]), []⟩,
  ⟨⟨(some 15), (.eq (.ia 8) true (.t 13) (.t 14)), (some (10, false))⟩, true, false, none, []⟩,
  ⟨⟨(some 16), (.pick (.t 10) (.v (.bool true)) (.t 15)), none⟩, true, false, none, []⟩]
def q_super_Get_2 : List AOper := [
  ⟨(some 17), (.build .ag [(.int .i64 0), (.int .i64 0), (.int .i64 0), (.int .i64 0), (.int .i64 0)] []), none⟩,
  ⟨none, (.store .ag 5 (.t 2) (.t 17)), none⟩,
  ⟨(some 3), (.mv (.v (.int .i64 5))), none⟩]
def q_super_Get_3 : List AOper := [
  ⟨(some 18), (.slcA 256 (.t 1) (some (.v (.int .i64 8))) (some (.v (.int .i64 252)))), none⟩,
  ⟨(some 19), (.call F_word_From [(.sc, (.t 18))]), none⟩,
  ⟨(some 4), (.mv (.t 19)), none⟩]
def q_super_Get_4 : List AOper := [
  ⟨(some 20), (.mv (.t 4)), none⟩,
  ⟨(some 21), (.call F_Pword_Cursor_Num [(.sc, (.t 20)), (.sc, (.v (.int .i64 2)))]), none⟩,
  ⟨(some 22), (.conv .i64 (.t 21)), none⟩,
  ⟨(some 23), (.mv (.t 4)), none⟩,
  ⟨(some 24), (.call F_Pword_Cursor_Num [(.sc, (.t 23)), (.sc, (.v (.int .i64 2)))]), none⟩,
  ⟨(some 25), (.conv .i64 (.t 24)), none⟩,
  ⟨(some 26), (.mv (.t 4)), none⟩,
  ⟨(some 27), (.call F_Pword_Cursor_Num [(.sc, (.t 26)), (.sc, (.v (.int .i64 2)))]), none⟩,
  ⟨(some 28), (.conv .i64 (.t 27)), none⟩,
  ⟨(some 29), (.mv (.t 4)), none⟩,
  ⟨(some 30), (.call F_Pword_Cursor_Num [(.sc, (.t 29)), (.sc, (.v (.int .i64 2)))]), none⟩,
  ⟨(some 31), (.conv .i64 (.t 30)), none⟩,
  ⟨(some 32), (.build .ag [(.int .i64 0), (.int .i64 0), (.int .i64 0), (.int .i64 0)] [(0, (1, (.t 22))), (1, (1, (.t 25))), (2, (1, (.t 28))), (3, (1, (.t 31)))]), none⟩,
  ⟨(some 5), (.alloc 53 [(.int .i64 0), (.int .i64 0), (.int .i64 0), (.int .i64 0)]), none⟩,
  ⟨none, (.store .ag 4 (.t 5) (.t 32)), none⟩]
def q_super_Get_5 : List AOper := [
  ⟨(some 33), (.mv (.t 4)), none⟩,
  ⟨(some 34), (.call F_Pword_Cursor_Num [(.sc, (.t 33)), (.sc, (.v (.int .i64 8)))]), none⟩,
  ⟨(some 6), (.mv (.t 34)), none⟩]
def q_super_Get_6 : List AOper := [
  ⟨(some 35), (.mv (.t 4)), none⟩,
  ⟨(some 36), (.call F_Pword_Cursor_Rest [(.sc, (.t 35))]), none⟩,
  ⟨(some 37), (.un .not (.t 36)), none⟩,
  ⟨(some 38), (.mv (.t 37)), none⟩,
  ⟨(some 39), (.load .ag 4 (.t 5)), (some (38, false))⟩,
  ⟨(some 40), (.call F_plan_Check [(.ag, (.t 39))]), (some (38, false))⟩,
  ⟨(some 41), (.eq .scI true (.t 40) (.v (.int .i64 0))), (some (38, false))⟩,
  ⟨(some 42), (.pick (.t 38) (.v (.bool true)) (.t 41)), none⟩,
  ⟨(some 43), (.mv (.t 42)), none⟩,
  ⟨(some 44), (.mv (.t 6)), (some (43, false))⟩,
  ⟨(some 45), (.bin .gtr (.t 44) (.v (.int .u64 1099511627776))), (some (43, false))⟩,
  ⟨(some 46), (.pick (.t 43) (.v (.bool true)) (.t 45)), none⟩]
def q_super_Get_7 : List AOper := [
  ⟨(some 47), (.build .ag [(.int .i64 0), (.int .i64 0), (.int .i64 0), (.int .i64 0), (.int .i64 0)] []), none⟩,
  ⟨none, (.store .ag 5 (.t 2) (.t 47)), none⟩,
  ⟨(some 3), (.mv (.v (.int .i64 5))), none⟩]
def q_super_Get_8 : List AOper := [
  ⟨(some 48), (.load .ag 4 (.t 5)), none⟩,
  ⟨(some 49), (.mv (.t 6)), none⟩,
  ⟨(some 50), (.conv .i64 (.t 49)), none⟩,
  ⟨(some 51), (.build .ag [(.int .i64 0), (.int .i64 0), (.int .i64 0), (.int .i64 0), (.int .i64 0)] [(0, (4, (.t 48))), (4, (1, (.t 50)))]), none⟩,
  ⟨none, (.store .ag 5 (.t 2) (.t 51)), none⟩,
  ⟨(some 3), (.mv (.v (.int .i64 0))), none⟩]
def a_super_Get : AFunc := ⟨[(.cell 2 .ag 5), (.tmp 3)], (.seq (.region q_super_Get_0) (.seq (.seq (.regionD q_super_Get_1) (.cond (.t 16) (.seq (.region q_super_Get_2) .ret) .skip)) (.seq (.region q_super_Get_3) (.seq (.region q_super_Get_4) (.seq (.region q_super_Get_5) (.seq (.seq (.region q_super_Get_6) (.cond (.t 46) (.seq (.region q_super_Get_7) .ret) .skip)) (.seq (.region q_super_Get_8) .ret)))))))⟩

def q_super_Choose_0 : List AOper := [
  ⟨(some 2), (.box 54 (.ia .u8 256) (.t 0)), none⟩,
  ⟨(some 3), (.box 54 (.ia .u8 256) (.t 1)), none⟩,
  ⟨(some 4), (.alloc 58 [(.int .i64 0), (.int .i64 0), (.int .i64 0), (.int .i64 0), (.int .i64 0)]), none⟩,
  ⟨(some 5), (.mv (.v (.int .i64 0))), none⟩,
  ⟨(some 6), (.mv (.v (.int .i64 0))), none⟩]
def q_super_Choose_1 : List AOper := [
  ⟨(some 12), (.load (.ia .u8 256) 256 (.t 2)), none⟩,
  ⟨(some 13), (.call F_super_Get [((.ia .u8 256), (.t 12))]), none⟩,
  ⟨(some 11), (.mv (.t 13)), none⟩,
  ⟨(some 14), (.ext 0 (.t 11)), none⟩,
  ⟨(some 15), (.ext 1 (.t 11)), none⟩,
  ⟨(some 7), (.alloc 58 [(.int .i64 0), (.int .i64 0), (.int .i64 0), (.int .i64 0), (.int .i64 0)]), none⟩,
  ⟨none, (.store .ag 5 (.t 7) (.t 14)), none⟩,
  ⟨(some 8), (.mv (.t 15)), none⟩]
def q_super_Choose_2 : List AOper := [
  ⟨(some 17), (.load (.ia .u8 256) 256 (.t 3)), none⟩,
  ⟨(some 18), (.call F_super_Get [((.ia .u8 256), (.t 17))]), none⟩,
  ⟨(some 16), (.mv (.t 18)), none⟩,
  ⟨(some 19), (.ext 0 (.t 16)), none⟩,
  ⟨(some 20), (.ext 1 (.t 16)), none⟩,
  ⟨(some 9), (.alloc 58 [(.int .i64 0), (.int .i64 0), (.int .i64 0), (.int .i64 0), (.int .i64 0)]), none⟩,
  ⟨none, (.store .ag 5 (.t 9) (.t 19)), none⟩,
  ⟨(some 10), (.mv (.t 20)), none⟩]
def q_super_Choose_3 : List AOper := [
  ⟨(some 22), (.mv (.t 8)), none⟩,
  ⟨(some 23), (.eq .scI true (.t 22) (.v (.int .i64 0))), none⟩,
  ⟨(some 24), (.mv (.t 23)), none⟩,
  ⟨(some 25), (.mv (.t 10)), (some (24, true))⟩,
  ⟨(some 26), (.eq .scI true (.t 25) (.v (.int .i64 0))), (some (24, true))⟩,
  ⟨(some 27), (.pick (.t 24) (.t 26) (.v (.bool false))), none⟩,
  ⟨(some 21), (.mv (.t 27)), none⟩]
def q_super_Choose_4 : List AOper := [
  ⟨(some 28), (.build .ag [(.int .i64 0), (.int .i64 0), (.int .i64 0), (.int .i64 0), (.int .i64 0)] []), none⟩,
  ⟨none, (.store .ag 5 (.t 4) (.t 28)), none⟩,
  ⟨(some 5), (.mv (.v (.int .i64 0))), none⟩,
  ⟨(some 6), (.mv (.v (.int .i64 5))), none⟩]
def q_super_Choose_5 : List AOper := [
  ⟨(some 30), (.mv (.t 8)), none⟩,
  ⟨(some 31), (.eq .scI true (.t 30) (.v (.int .i64 0))), none⟩,
  ⟨(some 32), (.mv (.t 31)), none⟩,
  ⟨(some 33), (.mv (.t 10)), (some (32, false))⟩,
  ⟨(some 34), (.eq .scI false (.t 33) (.v (.int .i64 0))), (some (32, false))⟩,
  ⟨(some 35), (.mv (.t 34)), (some (32, false))⟩,
  ⟨(some 36), (.fadr 4 1 .sc (.t 9)), (some (35, true))⟩,
  ⟨(some 37), (.load .sc 1 (.t 36)), (some (35, true))⟩,
  ⟨(some 38), (.fadr 4 1 .sc (.t 7)), (some (35, true))⟩,
  ⟨(some 39), (.load .sc 1 (.t 38)), (some (35, true))⟩,
  ⟨(some 40), (.bin .gtr (.t 37) (.t 39)), (some (35, true))⟩,
  ⟨(some 41), (.pick (.t 35) (.t 40) (.v (.bool false))), (some (32, false))⟩,
  ⟨(some 42), (.pick (.t 32) (.v (.bool true)) (.t 41)), none⟩,
  ⟨(some 29), (.mv (.t 42)), none⟩]
def q_super_Choose_6 : List AOper := [
  ⟨(some 43), (.load .ag 5 (.t 9)), none⟩,
  ⟨none, (.store .ag 5 (.t 4) (.t 43)), none⟩,
  ⟨(some 5), (.mv (.v (.int .i64 1))), none⟩,
  ⟨(some 6), (.mv (.v (.int .i64 0))), none⟩]
def q_super_Choose_7 : List AOper := [
  ⟨(some 44), (.load .ag 5 (.t 7)), none⟩,
  ⟨none, (.store .ag 5 (.t 4) (.t 44)), none⟩,
  ⟨(some 5), (.mv (.v (.int .i64 0))), none⟩,
  ⟨(some 6), (.mv (.v (.int .i64 0))), none⟩]
def a_super_Choose : AFunc := ⟨[(.cell 4 .ag 5), (.tmp 5), (.tmp 6)], (.seq (.region q_super_Choose_0) (.seq (.region q_super_Choose_1) (.seq (.region q_super_Choose_2) (.seq (.block 0 (.seq (.region q_super_Choose_3) (.cond (.t 21) (.seq (.region q_super_Choose_4) .ret) (.seq (.region q_super_Choose_5) (.cond (.t 29) (.seq (.region q_super_Choose_6) .ret) .skip))))) (.seq (.region q_super_Choose_7) .ret)))))⟩

def q_super_Bump_0 : List AOper := [
  ⟨(some 2), (.alloc 58 [(.int .i64 0), (.int .i64 0), (.int .i64 0), (.int .i64 0), (.int .i64 0)]), none⟩,
  ⟨(some 3), (.mv (.v (.int .i64 0))), none⟩]
def q_super_Bump_1 : List AOper := [
  ⟨(some 11), (.mv (.t 0)), none⟩,
  ⟨(some 12), (.call F_super_Read [(.sc, (.t 11))]), none⟩,
  ⟨(some 10), (.mv (.t 12)), none⟩,
  ⟨(some 13), (.ext 0 (.t 10)), none⟩,
  ⟨(some 14), (.ext 1 (.t 10)), none⟩,
  ⟨(some 15), (.ext 2 (.t 10)), none⟩,
  ⟨(some 4), (.alloc 58 [(.int .i64 0), (.int .i64 0), (.int .i64 0), (.int .i64 0), (.int .i64 0)]), none⟩,
  ⟨none, (.store .ag 5 (.t 4) (.t 13)), none⟩,
  ⟨(some 5), (.mv (.t 14)), none⟩,
  ⟨(some 6), (.mv (.t 15)), none⟩]
def q_super_Bump_2 : List AOper := [
  ⟨(some 16), (.mv (.t 6)), none⟩,
  ⟨(some 17), (.eq .scI true (.t 16) (.v (.int .i64 0))), none⟩]
def q_super_Bump_3 : List AOper := [
  ⟨(some 18), (.build .ag [(.int .i64 0), (.int .i64 0), (.int .i64 0), (.int .i64 0), (.int .i64 0)] []), none⟩,
  ⟨(some 19), (.mv (.t 6)), none⟩,
  ⟨none, (.store .ag 5 (.t 2) (.t 18)), none⟩,
  ⟨(some 3), (.mv (.t 19)), none⟩]
def q_super_Bump_4 : List AOper := [
  ⟨(some 20), (.fadr 4 1 .sc (.t 4)), none⟩,
  ⟨(some 21), (.load .sc 1 (.t 20)), none⟩,
  ⟨(some 22), (.bin .add (.t 21) (.v (.int .i64 1))), none⟩,
  ⟨(some 23), (.fadr 4 1 .sc (.t 4)), none⟩,
  ⟨none, (.store .sc 1 (.t 23) (.t 22)), none⟩]
def q_super_Bump_5 : List AOper := [
  ⟨(some 25), (.load .ag 5 (.t 4)), none⟩,
  ⟨(some 26), (.call F_super_Put [(.ag, (.t 25))]), none⟩,
  ⟨(some 24), (.mv (.t 26)), none⟩,
  ⟨(some 27), (.ext 0 (.t 24)), none⟩,
  ⟨(some 28), (.ext 1 (.t 24)), none⟩,
  ⟨(some 7), (.alloc 54 [(.iarr .u8 256 (List.replicate 256 0))]), none⟩,
  ⟨none, (.store (.ia .u8 256) 256 (.t 7) (.t 27)), none⟩,
  ⟨(some 6), (.mv (.t 28)), none⟩]
def q_super_Bump_6 : List AOper := [
  ⟨(some 29), (.mv (.t 6)), none⟩,
  ⟨(some 30), (.eq .scI true (.t 29) (.v (.int .i64 0))), none⟩]
def q_super_Bump_7 : List AOper := [
  ⟨(some 31), (.build .ag [(.int .i64 0), (.int .i64 0), (.int .i64 0), (.int .i64 0), (.int .i64 0)] []), none⟩,
  ⟨(some 32), (.mv (.t 6)), none⟩,
  ⟨none, (.store .ag 5 (.t 2) (.t 31)), none⟩,
  ⟨(some 3), (.mv (.t 32)), none⟩]
def q_super_Bump_8 : List AOper := [
  ⟨(some 33), (.mv (.t 0)), none⟩,
  ⟨(some 34), (.mv (.t 5)), none⟩,
  ⟨(some 35), (.bin .sub (.v (.int .i64 1)) (.t 34)), none⟩,
  ⟨(some 36), (.load (.ia .u8 256) 256 (.t 7)), none⟩,
  ⟨(some 37), (.call F_Pdisk_Disk_Write [(.sc, (.t 33)), (.sc, (.t 35)), ((.ia .u8 256), (.t 36))]), none⟩,
  ⟨(some 8), (.mv (.t 37)), none⟩]
def q_super_Bump_9 : List AOper := [
  ⟨(some 38), (.mv (.t 8)), none⟩,
  ⟨(some 39), (.eq .scI true (.t 38) (.v (.int .i64 0))), none⟩]
def q_super_Bump_10 : List AOper := [
  ⟨(some 40), (.build .ag [(.int .i64 0), (.int .i64 0), (.int .i64 0), (.int .i64 0), (.int .i64 0)] []), none⟩,
  ⟨(some 41), (.mv (.t 8)), none⟩,
  ⟨none, (.store .ag 5 (.t 2) (.t 40)), none⟩,
  ⟨(some 3), (.mv (.t 41)), none⟩]
def q_super_Bump_11 : List AOper := [
  ⟨(some 42), (.mv (.t 0)), none⟩,
  ⟨(some 43), (.call F_Pdisk_Disk_Flush [(.sc, (.t 42))]), none⟩,
  ⟨(some 9), (.mv (.t 43)), none⟩]
def q_super_Bump_12 : List AOper := [
  ⟨(some 44), (.mv (.t 9)), none⟩,
  ⟨(some 45), (.eq .scI true (.t 44) (.v (.int .i64 0))), none⟩]
def q_super_Bump_13 : List AOper := [
  ⟨(some 46), (.build .ag [(.int .i64 0), (.int .i64 0), (.int .i64 0), (.int .i64 0), (.int .i64 0)] []), none⟩,
  ⟨(some 47), (.mv (.t 9)), none⟩,
  ⟨none, (.store .ag 5 (.t 2) (.t 46)), none⟩,
  ⟨(some 3), (.mv (.t 47)), none⟩]
def q_super_Bump_14 : List AOper := [
  ⟨(some 48), (.load .ag 5 (.t 4)), none⟩,
  ⟨none, (.store .ag 5 (.t 2) (.t 48)), none⟩,
  ⟨(some 3), (.mv (.v (.int .i64 0))), none⟩]
def a_super_Bump : AFunc := ⟨[(.cell 2 .ag 5), (.tmp 3)], (.seq (.region q_super_Bump_0) (.seq (.region q_super_Bump_1) (.seq (.seq (.region q_super_Bump_2) (.cond (.t 17) (.seq (.region q_super_Bump_3) .ret) .skip)) (.seq (.region q_super_Bump_4) (.seq (.region q_super_Bump_5) (.seq (.seq (.region q_super_Bump_6) (.cond (.t 30) (.seq (.region q_super_Bump_7) .ret) .skip)) (.seq (.seq (.region q_super_Bump_8) (.seq (.region q_super_Bump_9) (.cond (.t 39) (.seq (.region q_super_Bump_10) .ret) .skip))) (.seq (.seq (.region q_super_Bump_11) (.seq (.region q_super_Bump_12) (.cond (.t 45) (.seq (.region q_super_Bump_13) .ret) .skip))) (.seq (.region q_super_Bump_14) .ret)))))))))⟩

def q_super_Read_0 : List AOper := [
  ⟨(some 2), (.alloc 58 [(.int .i64 0), (.int .i64 0), (.int .i64 0), (.int .i64 0), (.int .i64 0)]), none⟩,
  ⟨(some 3), (.mv (.v (.int .i64 0))), none⟩,
  ⟨(some 4), (.mv (.v (.int .i64 0))), none⟩]
def q_super_Read_1 : List AOper := [
  ⟨(some 9), (.mv (.t 0)), none⟩,
  ⟨(some 10), (.xx (.p (.isNil .ptr false)) [(.t 9)]), none⟩]
def q_super_Read_2 : List AOper := [
  ⟨(some 11), (.build .ag [(.int .i64 0), (.int .i64 0), (.int .i64 0), (.int .i64 0), (.int .i64 0)] []), none⟩,
  ⟨none, (.store .ag 5 (.t 2) (.t 11)), none⟩,
  ⟨(some 3), (.mv (.v (.int .i64 0))), none⟩,
  ⟨(some 4), (.mv (.v (.int .i64 1))), none⟩]
def q_super_Read_3 : List AOper := [
  ⟨(some 13), (.mv (.t 0)), none⟩,
  ⟨(some 14), (.call F_Pdisk_Disk_Read [(.sc, (.t 13)), (.sc, (.v (.int .i64 0)))]), none⟩,
  ⟨(some 12), (.mv (.t 14)), none⟩,
  ⟨(some 15), (.ext 0 (.t 12)), none⟩,
  ⟨(some 16), (.ext 1 (.t 12)), none⟩,
  ⟨(some 5), (.alloc 54 [(.iarr .u8 256 (List.replicate 256 0))]), none⟩,
  ⟨none, (.store (.ia .u8 256) 256 (.t 5) (.t 15)), none⟩,
  ⟨(some 6), (.mv (.t 16)), none⟩]
def q_super_Read_4 : List AOper := [
  ⟨(some 18), (.mv (.t 0)), none⟩,
  ⟨(some 19), (.call F_Pdisk_Disk_Read [(.sc, (.t 18)), (.sc, (.v (.int .i64 1)))]), none⟩,
  ⟨(some 17), (.mv (.t 19)), none⟩,
  ⟨(some 20), (.ext 0 (.t 17)), none⟩,
  ⟨(some 21), (.ext 1 (.t 17)), none⟩,
  ⟨(some 7), (.alloc 54 [(.iarr .u8 256 (List.replicate 256 0))]), none⟩,
  ⟨none, (.store (.ia .u8 256) 256 (.t 7) (.t 20)), none⟩,
  ⟨(some 8), (.mv (.t 21)), none⟩]
def q_super_Read_5 : List AOper := [
  ⟨(some 22), (.mv (.t 6)), none⟩,
  ⟨(some 23), (.eq .scI true (.t 22) (.v (.int .i64 0))), none⟩,
  ⟨(some 24), (.mv (.t 23)), none⟩,
  ⟨(some 25), (.mv (.t 8)), (some (24, false))⟩,
  ⟨(some 26), (.eq .scI true (.t 25) (.v (.int .i64 0))), (some (24, false))⟩,
  ⟨(some 27), (.pick (.t 24) (.v (.bool true)) (.t 26)), none⟩]
def q_super_Read_6 : List AOper := [
  ⟨(some 28), (.build .ag [(.int .i64 0), (.int .i64 0), (.int .i64 0), (.int .i64 0), (.int .i64 0)] []), none⟩,
  ⟨(some 29), (.mv (.t 6)), none⟩,
  ⟨(some 30), (.mv (.t 8)), none⟩,
  ⟨(some 31), (.xx (.p (.mnI true)) [(.t 29), (.t 30)]), none⟩,
  ⟨none, (.store .ag 5 (.t 2) (.t 28)), none⟩,
  ⟨(some 3), (.mv (.v (.int .i64 0))), none⟩,
  ⟨(some 4), (.mv (.t 31)), none⟩]
def q_super_Read_7 : List AOper := [
  ⟨(some 32), (.load (.ia .u8 256) 256 (.t 5)), none⟩,
  ⟨(some 33), (.load (.ia .u8 256) 256 (.t 7)), none⟩,
  ⟨(some 34), (.call F_super_Choose [((.ia .u8 256), (.t 32)), ((.ia .u8 256), (.t 33))]), none⟩,
  ⟨(some 35), (.ext 0 (.t 34)), none⟩,
  ⟨(some 36), (.ext 1 (.t 34)), none⟩,
  ⟨(some 37), (.ext 2 (.t 34)), none⟩,
  ⟨none, (.store .ag 5 (.t 2) (.t 35)), none⟩,
  ⟨(some 3), (.mv (.t 36)), none⟩,
  ⟨(some 4), (.mv (.t 37)), none⟩]
def a_super_Read : AFunc := ⟨[(.cell 2 .ag 5), (.tmp 3), (.tmp 4)], (.seq (.region q_super_Read_0) (.seq (.seq (.region q_super_Read_1) (.cond (.t 10) (.seq (.region q_super_Read_2) .ret) .skip)) (.seq (.region q_super_Read_3) (.seq (.region q_super_Read_4) (.seq (.seq (.region q_super_Read_5) (.cond (.t 27) (.seq (.region q_super_Read_6) .ret) .skip)) (.seq (.region q_super_Read_7) .ret))))))⟩

def q_super_mark_0 : List AOper := [
  ⟨(some 0), (.alloc 116 [(.iarr .u8 8 [0, 0, 0, 0, 0, 0, 0, 0])]), none⟩]
def q_super_mark_1 : List AOper := [
  ⟨(some 1), (.bslI 5 .u8 [(.v (.int .u8 77)), (.v (.int .u8 79)), (.v (.int .u8 82)), (.v (.int .u8 84)), (.v (.int .u8 77)), (.v (.int .u8 65)), (.v (.int .u8 73)), (.v (.int .u8 78))]), none⟩,
  ⟨(some 2), (.xx .sealB [(.t 1)]), none⟩,
  ⟨(some 3), (.s2a 8 (.t 2)), none⟩,
  ⟨(some 4), (.load (.ia .u8 8) 8 (.t 3)), none⟩,
  ⟨none, (.store (.ia .u8 8) 8 (.t 0) (.t 4)), none⟩]
def a_super_mark : AFunc := ⟨[(.cell 0 (.ia .u8 8) 8)], (.seq (.region q_super_mark_0) (.seq (.region q_super_mark_1) .ret))⟩

def q_ref08_Put_0 : List AOper := [
  ⟨(some 1), (.box 60 .ag (.t 0)), none⟩,
  ⟨(some 2), (.alloc 54 [(.iarr .u8 256 (List.replicate 256 0))]), none⟩,
  ⟨(some 3), (.mv (.v (.int .i64 0))), none⟩]
def q_ref08_Put_1 : List AOper := [
  ⟨(some 6), (.fadr 0 4 .ag (.t 1)), none⟩,
  ⟨(some 7), (.load .ag 4 (.t 6)), none⟩,
  ⟨(some 8), (.call F_ref07_Check [(.ag, (.t 7))]), none⟩,
  ⟨(some 4), (.mv (.t 8)), none⟩]
def q_ref08_Put_2 : List AOper := [
  ⟨(some 9), (.mv (.t 4)), none⟩,
  ⟨(some 10), (.eq .scI true (.t 9) (.v (.int .i64 0))), none⟩]
def q_ref08_Put_3 : List AOper := [
  ⟨(some 11), (.build (.ia .u8 256) [(.iarr .u8 256 (List.replicate 256 0))] []), none⟩,
  ⟨(some 12), (.mv (.t 4)), none⟩,
  ⟨none, (.store (.ia .u8 256) 256 (.t 2) (.t 11)), none⟩,
  ⟨(some 3), (.mv (.t 12)), none⟩]
def q_ref08_Put_4 : List AOper := [
  ⟨(some 13), (.fadr 4 1 .sc (.t 1)), none⟩,
  ⟨(some 14), (.load .sc 1 (.t 13)), none⟩,
  ⟨(some 15), (.bin .lss (.t 14) (.v (.int .i64 0))), none⟩,
  ⟨(some 16), (.mv (.t 15)), none⟩,
  ⟨(some 17), (.fadr 4 1 .sc (.t 1)), (some (16, false))⟩,
  ⟨(some 18), (.load .sc 1 (.t 17)), (some (16, false))⟩,
  ⟨(some 19), (.bin .gtr (.t 18) (.v (.int .i64 1099511627776))), (some (16, false))⟩,
  ⟨(some 20), (.pick (.t 16) (.v (.bool true)) (.t 19)), none⟩]
def q_ref08_Put_5 : List AOper := [
  ⟨(some 21), (.build (.ia .u8 256) [(.iarr .u8 256 (List.replicate 256 0))] []), none⟩,
  ⟨none, (.store (.ia .u8 256) 256 (.t 2) (.t 21)), none⟩,
  ⟨(some 3), (.mv (.v (.int .i64 2))), none⟩]
def q_ref08_Put_6 : List AOper := [
  ⟨(some 22), (.bslI 5 .u8 [(.v (.int .u8 77)), (.v (.int .u8 79)), (.v (.int .u8 82)), (.v (.int .u8 84)), (.v (.int .u8 77)), (.v (.int .u8 65)), (.v (.int .u8 73)), (.v (.int .u8 78))]), none⟩,
  ⟨(some 23), (.xx .sealB [(.t 22)]), none⟩,
  ⟨(some 5), (.mv (.t 23)), none⟩]
def q_ref08_Put_7 : List AOper := [
  ⟨(some 24), (.mv (.t 5)), none⟩,
  ⟨(some 25), (.fadr 0 4 .ag (.t 1)), none⟩,
  ⟨(some 26), (.fadr 0 1 .sc (.t 25)), none⟩,
  ⟨(some 27), (.load .sc 1 (.t 26)), none⟩,
  ⟨(some 28), (.conv .u64 (.t 27)), none⟩,
  ⟨(some 29), (.call F_ref01_Put [(.sc, (.t 28)), (.sc, (.v (.int .i64 2)))]), none⟩,
  ⟨(some 30), (.appI 5 .u8 1 (.t 24) (.t 29)), none⟩,
  ⟨(some 5), (.mv (.t 30)), none⟩]
def q_ref08_Put_8 : List AOper := [
  ⟨(some 31), (.mv (.t 5)), none⟩,
  ⟨(some 32), (.fadr 0 4 .ag (.t 1)), none⟩,
  ⟨(some 33), (.fadr 1 1 .sc (.t 32)), none⟩,
  ⟨(some 34), (.load .sc 1 (.t 33)), none⟩,
  ⟨(some 35), (.conv .u64 (.t 34)), none⟩,
  ⟨(some 36), (.call F_ref01_Put [(.sc, (.t 35)), (.sc, (.v (.int .i64 2)))]), none⟩,
  ⟨(some 37), (.appI 5 .u8 1 (.t 31) (.t 36)), none⟩,
  ⟨(some 5), (.mv (.t 37)), none⟩]
def q_ref08_Put_9 : List AOper := [
  ⟨(some 38), (.mv (.t 5)), none⟩,
  ⟨(some 39), (.fadr 0 4 .ag (.t 1)), none⟩,
  ⟨(some 40), (.fadr 2 1 .sc (.t 39)), none⟩,
  ⟨(some 41), (.load .sc 1 (.t 40)), none⟩,
  ⟨(some 42), (.conv .u64 (.t 41)), none⟩,
  ⟨(some 43), (.call F_ref01_Put [(.sc, (.t 42)), (.sc, (.v (.int .i64 2)))]), none⟩,
  ⟨(some 44), (.appI 5 .u8 1 (.t 38) (.t 43)), none⟩,
  ⟨(some 5), (.mv (.t 44)), none⟩]
def q_ref08_Put_10 : List AOper := [
  ⟨(some 45), (.mv (.t 5)), none⟩,
  ⟨(some 46), (.fadr 0 4 .ag (.t 1)), none⟩,
  ⟨(some 47), (.fadr 3 1 .sc (.t 46)), none⟩,
  ⟨(some 48), (.load .sc 1 (.t 47)), none⟩,
  ⟨(some 49), (.conv .u64 (.t 48)), none⟩,
  ⟨(some 50), (.call F_ref01_Put [(.sc, (.t 49)), (.sc, (.v (.int .i64 2)))]), none⟩,
  ⟨(some 51), (.appI 5 .u8 1 (.t 45) (.t 50)), none⟩,
  ⟨(some 5), (.mv (.t 51)), none⟩]
def q_ref08_Put_11 : List AOper := [
  ⟨(some 52), (.mv (.t 5)), none⟩,
  ⟨(some 53), (.fadr 4 1 .sc (.t 1)), none⟩,
  ⟨(some 54), (.load .sc 1 (.t 53)), none⟩,
  ⟨(some 55), (.conv .u64 (.t 54)), none⟩,
  ⟨(some 56), (.call F_ref01_Put [(.sc, (.t 55)), (.sc, (.v (.int .i64 8)))]), none⟩,
  ⟨(some 57), (.appI 5 .u8 1 (.t 52) (.t 56)), none⟩,
  ⟨(some 5), (.mv (.t 57)), none⟩]
def q_ref08_Put_12 : List AOper := [
  ⟨(some 58), (.mv (.t 5)), none⟩,
  ⟨(some 59), (.call F_ref08_Sealed [(.sc, (.t 58))]), none⟩,
  ⟨none, (.store (.ia .u8 256) 256 (.t 2) (.t 59)), none⟩,
  ⟨(some 3), (.mv (.v (.int .i64 0))), none⟩]
def a_ref08_Put : AFunc := ⟨[(.cell 2 (.ia .u8 256) 256), (.tmp 3)], (.seq (.region q_ref08_Put_0) (.seq (.seq (.region q_ref08_Put_1) (.seq (.region q_ref08_Put_2) (.cond (.t 10) (.seq (.region q_ref08_Put_3) .ret) .skip))) (.seq (.seq (.region q_ref08_Put_4) (.cond (.t 20) (.seq (.region q_ref08_Put_5) .ret) .skip)) (.seq (.region q_ref08_Put_6) (.seq (.region q_ref08_Put_7) (.seq (.region q_ref08_Put_8) (.seq (.region q_ref08_Put_9) (.seq (.region q_ref08_Put_10) (.seq (.region q_ref08_Put_11) (.seq (.region q_ref08_Put_12) .ret))))))))))⟩

def q_ref08_Get_0 : List AOper := [
  ⟨(some 1), (.box 54 (.ia .u8 256) (.t 0)), none⟩,
  ⟨(some 2), (.alloc 60 [(.int .i64 0), (.int .i64 0), (.int .i64 0), (.int .i64 0), (.int .i64 0)]), none⟩,
  ⟨(some 3), (.mv (.v (.int .i64 0))), none⟩]
def q_ref08_Get_1 : List AOper := [
  ⟨(some 4), (.mv (.v .nilS)), none⟩]
def q_ref08_Get_2 : List AOper := [
  ⟨(some 5), (.mv (.v (.int .i64 16))), none⟩]
def q_ref08_Get_3 : List AOper := [
  ⟨(some 10), (.mv (.t 5)), none⟩,
  ⟨(some 11), (.bin .lss (.t 10) (.v (.int .i64 24))), none⟩]
def q_ref08_Get_4 : List AOper := [
  ⟨(some 14), (.mv (.t 4)), none⟩,
  ⟨(some 15), (.mv (.t 5)), none⟩,
  ⟨(some 16), (.idxA 256 1 true (.t 1) (.t 15)), none⟩,
  ⟨(some 17), (.load .sc 1 (.t 16)), none⟩,
  ⟨(some 18), (.bslI 5 .u8 [(.t 17)]), none⟩,
  ⟨(some 19), (.appI 5 .u8 1 (.t 14) (.t 18)), none⟩,
  ⟨(some 4), (.mv (.t 19)), none⟩]
def q_ref08_Get_5 : List AOper := [
  ⟨(some 12), (.mv (.t 5)), none⟩,
  ⟨(some 13), (.bin .add (.t 12) (.v (.int .i64 1))), none⟩,
  ⟨(some 5), (.mv (.t 13)), none⟩]
def q_ref08_Get_L6 : ACode := (.seq (.seq (.region q_ref08_Get_3) (.cond (.t 11) .skip (.exit 0))) (.seq (.block 1 (.region q_ref08_Get_4)) (.region q_ref08_Get_5)))
def q_ref08_Get_6 : List AOper := [
  ⟨(some 20), (.mv (.t 4)), none⟩,
  ⟨(some 21), (.call F_ref01_Get [(.sc, (.t 20))]), none⟩,
  ⟨(some 6), (.mv (.t 21)), none⟩]
def q_ref08_Get_7 : List AOper := [
  ⟨(some 22), (.mv (.t 6)), none⟩,
  ⟨(some 23), (.bin .gtr (.t 22) (.v (.int .u64 1099511627776))), none⟩]
def q_ref08_Get_8 : List AOper := [
  ⟨(some 24), (.build .ag [(.int .i64 0), (.int .i64 0), (.int .i64 0), (.int .i64 0), (.int .i64 0)] []), none⟩,
  ⟨none, (.store .ag 5 (.t 2) (.t 24)), none⟩,
  ⟨(some 3), (.mv (.v (.int .i64 5))), none⟩]
def q_ref08_Get_9 : List DOp := [
  ⟨⟨(some 25), (.load (.ia .u8 256) 256 (.t 1)), none⟩, true, false, none, []⟩,
  ⟨⟨(some 27), (.load (.ia .u8 256) 256 (.t 1)), none⟩, true, false, none, []⟩,
  ⟨⟨(some 29), (.load (.ia .u8 256) 256 (.t 1)), none⟩, true, false, none, []⟩,
  ⟨⟨(some 31), (.load (.ia .u8 256) 256 (.t 1)), none⟩, true, false, none, []⟩,
  ⟨⟨(some 34), (.mv (.t 6)), none⟩, true, false, none, []⟩,
  ⟨⟨(some 35), (.conv .i64 (.t 34)), none⟩, true, false, none, []⟩,
  ⟨⟨(some 26), (.call F_ref08_num [((.ia .u8 256), (.t 25)), (.sc, (.v (.int .i64 8)))]), none⟩, false, true, (some [1, 1, 1]), []⟩,
  ⟨⟨(some 28), (.call F_ref08_num [((.ia .u8 256), (.t 27)), (.sc, (.v (.int .i64 10)))]), none⟩, false, true, (some [1, 1]), []⟩,
  ⟨⟨(some 30), (.call F_ref08_num [((.ia .u8 256), (.t 29)), (.sc, (.v (.int .i64 12)))]), none⟩, false, true, (some [1]), []⟩,
  ⟨⟨(some 32), (.call F_ref08_num [((.ia .u8 256), (.t 31)), (.sc, (.v (.int .i64 14)))]), none⟩, false, false, none, []⟩,
  ⟨⟨(some 33), (.build .ag [(.int .i64 0), (.int .i64 0), (.int .i64 0), (.int .i64 0)] [(0, (1, (.t 26))), (1, (1, (.t 28))), (2, (1, (.t 30))), (3, (1, (.t 32)))]), none⟩, true, false, none, []⟩,
  ⟨⟨(some 36), (.build .ag [(.int .i64 0), (.int .i64 0), (.int .i64 0), (.int .i64 0), (.int .i64 0)] [(0, (4, (.t 33))), (4, (1, (.t 35)))]), none⟩, true, false, none, []⟩,
  ⟨⟨(some 7), (.alloc 60 [(.int .i64 0), (.int .i64 0), (.int .i64 0), (.int .i64 0), (.int .i64 0)]), none⟩, false, false, none, []⟩,
  ⟨⟨none, (.store .ag 5 (.t 7) (.t 36)), none⟩, false, false, none, []⟩]
def q_ref08_Get_10 : List AOper := [
  ⟨(some 38), (.load .ag 5 (.t 7)), none⟩,
  ⟨(some 39), (.call F_ref08_Put [(.ag, (.t 38))]), none⟩,
  ⟨(some 37), (.mv (.t 39)), none⟩,
  ⟨(some 40), (.ext 0 (.t 37)), none⟩,
  ⟨(some 41), (.ext 1 (.t 37)), none⟩,
  ⟨(some 8), (.alloc 54 [(.iarr .u8 256 (List.replicate 256 0))]), none⟩,
  ⟨none, (.store (.ia .u8 256) 256 (.t 8) (.t 40)), none⟩,
  ⟨(some 9), (.mv (.t 41)), none⟩]
def q_ref08_Get_11 : List AOper := [
  ⟨(some 42), (.mv (.t 9)), none⟩,
  ⟨(some 43), (.eq .scI true (.t 42) (.v (.int .i64 0))), none⟩,
  ⟨(some 44), (.mv (.t 43)), none⟩,
  ⟨(some 45), (.load (.ia .u8 256) 256 (.t 8)), (some (44, false))⟩,
  ⟨(some 46), (.load (.ia .u8 256) 256 (.t 1)), (some (44, false))⟩,
  ⟨(some 47), (.eq (.ia 256) true (.t 45) (.t 46)), (some (44, false))⟩,
  ⟨(some 48), (.pick (.t 44) (.v (.bool true)) (.t 47)), none⟩]
def q_ref08_Get_12 : List AOper := [
  ⟨(some 49), (.build .ag [(.int .i64 0), (.int .i64 0), (.int .i64 0), (.int .i64 0), (.int .i64 0)] []), none⟩,
  ⟨none, (.store .ag 5 (.t 2) (.t 49)), none⟩,
  ⟨(some 3), (.mv (.v (.int .i64 5))), none⟩]
def q_ref08_Get_13 : List AOper := [
  ⟨(some 50), (.load .ag 5 (.t 7)), none⟩,
  ⟨none, (.store .ag 5 (.t 2) (.t 50)), none⟩,
  ⟨(some 3), (.mv (.v (.int .i64 0))), none⟩]
def a_ref08_Get : AFunc := ⟨[(.cell 2 .ag 5), (.tmp 3)], (.seq (.region q_ref08_Get_0) (.seq (.region q_ref08_Get_1) (.seq (.seq (.region q_ref08_Get_2) (.block 0 (.loop q_ref08_Get_L6))) (.seq (.region q_ref08_Get_6) (.seq (.seq (.region q_ref08_Get_7) (.cond (.t 23) (.seq (.region q_ref08_Get_8) .ret) .skip)) (.seq (.regionD q_ref08_Get_9) (.seq (.region q_ref08_Get_10) (.seq (.seq (.region q_ref08_Get_11) (.cond (.t 48) (.seq (.region q_ref08_Get_12) .ret) .skip)) (.seq (.region q_ref08_Get_13) .ret)))))))))⟩

def q_ref08_Choose_0 : List AOper := [
  ⟨(some 2), (.box 54 (.ia .u8 256) (.t 0)), none⟩,
  ⟨(some 3), (.box 54 (.ia .u8 256) (.t 1)), none⟩,
  ⟨(some 4), (.alloc 60 [(.int .i64 0), (.int .i64 0), (.int .i64 0), (.int .i64 0), (.int .i64 0)]), none⟩,
  ⟨(some 5), (.mv (.v (.int .i64 0))), none⟩,
  ⟨(some 6), (.mv (.v (.int .i64 0))), none⟩]
def q_ref08_Choose_1 : List AOper := [
  ⟨(some 12), (.load (.ia .u8 256) 256 (.t 2)), none⟩,
  ⟨(some 13), (.call F_ref08_Get [((.ia .u8 256), (.t 12))]), none⟩,
  ⟨(some 11), (.mv (.t 13)), none⟩,
  ⟨(some 14), (.ext 0 (.t 11)), none⟩,
  ⟨(some 15), (.ext 1 (.t 11)), none⟩,
  ⟨(some 7), (.alloc 60 [(.int .i64 0), (.int .i64 0), (.int .i64 0), (.int .i64 0), (.int .i64 0)]), none⟩,
  ⟨none, (.store .ag 5 (.t 7) (.t 14)), none⟩,
  ⟨(some 8), (.mv (.t 15)), none⟩]
def q_ref08_Choose_2 : List AOper := [
  ⟨(some 17), (.load (.ia .u8 256) 256 (.t 3)), none⟩,
  ⟨(some 18), (.call F_ref08_Get [((.ia .u8 256), (.t 17))]), none⟩,
  ⟨(some 16), (.mv (.t 18)), none⟩,
  ⟨(some 19), (.ext 0 (.t 16)), none⟩,
  ⟨(some 20), (.ext 1 (.t 16)), none⟩,
  ⟨(some 9), (.alloc 60 [(.int .i64 0), (.int .i64 0), (.int .i64 0), (.int .i64 0), (.int .i64 0)]), none⟩,
  ⟨none, (.store .ag 5 (.t 9) (.t 19)), none⟩,
  ⟨(some 10), (.mv (.t 20)), none⟩]
def q_ref08_Choose_3 : List AOper := [
  ⟨(some 21), (.mv (.t 8)), none⟩,
  ⟨(some 22), (.eq .scI false (.t 21) (.v (.int .i64 0))), none⟩,
  ⟨(some 23), (.mv (.t 22)), none⟩,
  ⟨(some 24), (.mv (.t 10)), (some (23, true))⟩,
  ⟨(some 25), (.eq .scI true (.t 24) (.v (.int .i64 0))), (some (23, true))⟩,
  ⟨(some 26), (.mv (.t 25)), (some (23, true))⟩,
  ⟨(some 27), (.fadr 4 1 .sc (.t 7)), (some (26, false))⟩,
  ⟨(some 28), (.load .sc 1 (.t 27)), (some (26, false))⟩,
  ⟨(some 29), (.fadr 4 1 .sc (.t 9)), (some (26, false))⟩,
  ⟨(some 30), (.load .sc 1 (.t 29)), (some (26, false))⟩,
  ⟨(some 31), (.bin .geq (.t 28) (.t 30)), (some (26, false))⟩,
  ⟨(some 32), (.pick (.t 26) (.v (.bool true)) (.t 31)), (some (23, true))⟩,
  ⟨(some 33), (.pick (.t 23) (.t 32) (.v (.bool false))), none⟩]
def q_ref08_Choose_4 : List AOper := [
  ⟨(some 34), (.load .ag 5 (.t 7)), none⟩,
  ⟨none, (.store .ag 5 (.t 4) (.t 34)), none⟩,
  ⟨(some 5), (.mv (.v (.int .i64 0))), none⟩,
  ⟨(some 6), (.mv (.v (.int .i64 0))), none⟩]
def q_ref08_Choose_5 : List AOper := [
  ⟨(some 35), (.mv (.t 10)), none⟩,
  ⟨(some 36), (.eq .scI false (.t 35) (.v (.int .i64 0))), none⟩]
def q_ref08_Choose_6 : List AOper := [
  ⟨(some 37), (.load .ag 5 (.t 9)), none⟩,
  ⟨none, (.store .ag 5 (.t 4) (.t 37)), none⟩,
  ⟨(some 5), (.mv (.v (.int .i64 1))), none⟩,
  ⟨(some 6), (.mv (.v (.int .i64 0))), none⟩]
def q_ref08_Choose_7 : List AOper := [
  ⟨(some 38), (.build .ag [(.int .i64 0), (.int .i64 0), (.int .i64 0), (.int .i64 0), (.int .i64 0)] []), none⟩,
  ⟨none, (.store .ag 5 (.t 4) (.t 38)), none⟩,
  ⟨(some 5), (.mv (.v (.int .i64 0))), none⟩,
  ⟨(some 6), (.mv (.v (.int .i64 5))), none⟩]
def a_ref08_Choose : AFunc := ⟨[(.cell 4 .ag 5), (.tmp 5), (.tmp 6)], (.seq (.region q_ref08_Choose_0) (.seq (.region q_ref08_Choose_1) (.seq (.region q_ref08_Choose_2) (.seq (.seq (.region q_ref08_Choose_3) (.cond (.t 33) (.seq (.region q_ref08_Choose_4) .ret) .skip)) (.seq (.seq (.region q_ref08_Choose_5) (.cond (.t 36) (.seq (.region q_ref08_Choose_6) .ret) .skip)) (.seq (.region q_ref08_Choose_7) .ret))))))⟩

def q_ref08_num_0 : List AOper := [
  ⟨(some 2), (.box 54 (.ia .u8 256) (.t 0)), none⟩,
  ⟨(some 4), (.mv (.v (.int .i64 0))), none⟩]
def q_ref08_num_1 : List DOp := [
  ⟨⟨(some 5), (.mv (.t 1)), none⟩, true, false, none, []⟩,
  ⟨⟨(some 6), (.idxA 256 1 true (.t 2) (.t 5)), none⟩, true, false, none, []⟩,
  ⟨⟨(some 7), (.load .sc 1 (.t 6)), none⟩, true, false, none, []⟩,
  ⟨⟨(some 8), (.conv .i64 (.t 7)), none⟩, true, false, none, []⟩,
  ⟨⟨(some 9), (.mv (.t 1)), none⟩, true, false, none, []⟩,
  ⟨⟨(some 10), (.bin .add (.t 9) (.v (.int .i64 1))), none⟩, true, false, none, []⟩,
  ⟨⟨(some 11), (.idxA 256 1 true (.t 2) (.t 10)), none⟩, true, false, none, []⟩,
  ⟨⟨(some 12), (.load .sc 1 (.t 11)), none⟩, true, false, none, []⟩,
  ⟨⟨(some 13), (.conv .i64 (.t 12)), none⟩, true, false, none, []⟩,
  ⟨⟨(some 14), (.bin .mul (.v (.int .i64 256)) (.t 13)), none⟩, true, false, none, []⟩,
  ⟨⟨(some 15), (.bin .add (.t 8) (.t 14)), none⟩, true, false, none, []⟩,
  ⟨⟨(some 4), (.mv (.t 15)), none⟩, true, false, none, []⟩]
def a_ref08_num : AFunc := ⟨[(.tmp 4)], (.seq (.region q_ref08_num_0) (.seq (.regionD q_ref08_num_1) .ret))⟩

def q_law08_SuperPuts_0 : List AOper := [
  ⟨(some 4), (.box 53 .ag (.t 0)), none⟩,
  ⟨(some 6), (.box 54 (.ia .u8 256) (.t 2)), none⟩,
  ⟨(some 7), (.box 54 (.ia .u8 256) (.t 3)), none⟩,
  ⟨(some 8), (.mv (.v (.bool false))), none⟩]
def q_law08_SuperPuts_1 : List AOper := [
  ⟨(some 24), (.load .ag 4 (.t 4)), none⟩,
  ⟨(some 25), (.mv (.t 1)), none⟩,
  ⟨(some 26), (.build .ag [(.int .i64 0), (.int .i64 0), (.int .i64 0), (.int .i64 0), (.int .i64 0)] [(0, (4, (.t 24))), (4, (1, (.t 25)))]), none⟩,
  ⟨(some 27), (.call F_super_Put [(.ag, (.t 26))]), none⟩,
  ⟨(some 23), (.mv (.t 27)), none⟩,
  ⟨(some 28), (.ext 0 (.t 23)), none⟩,
  ⟨(some 29), (.ext 1 (.t 23)), none⟩,
  ⟨(some 9), (.alloc 54 [(.iarr .u8 256 (List.replicate 256 0))]), none⟩,
  ⟨none, (.store (.ia .u8 256) 256 (.t 9) (.t 28)), none⟩,
  ⟨(some 10), (.mv (.t 29)), none⟩]
def q_law08_SuperPuts_2 : List AOper := [
  ⟨(some 31), (.load .ag 4 (.t 4)), none⟩,
  ⟨(some 32), (.mv (.t 1)), none⟩,
  ⟨(some 33), (.build .ag [(.int .i64 0), (.int .i64 0), (.int .i64 0), (.int .i64 0), (.int .i64 0)] [(0, (4, (.t 31))), (4, (1, (.t 32)))]), none⟩,
  ⟨(some 34), (.call F_ref08_Put [(.ag, (.t 33))]), none⟩,
  ⟨(some 30), (.mv (.t 34)), none⟩,
  ⟨(some 35), (.ext 0 (.t 30)), none⟩,
  ⟨(some 36), (.ext 1 (.t 30)), none⟩,
  ⟨(some 11), (.alloc 54 [(.iarr .u8 256 (List.replicate 256 0))]), none⟩,
  ⟨none, (.store (.ia .u8 256) 256 (.t 11) (.t 35)), none⟩,
  ⟨(some 12), (.mv (.t 36)), none⟩]
def q_law08_SuperPuts_3 : List AOper := [
  ⟨(some 38), (.load (.ia .u8 256) 256 (.t 6)), none⟩,
  ⟨(some 39), (.call F_super_Get [((.ia .u8 256), (.t 38))]), none⟩,
  ⟨(some 37), (.mv (.t 39)), none⟩,
  ⟨(some 40), (.ext 0 (.t 37)), none⟩,
  ⟨(some 41), (.ext 1 (.t 37)), none⟩,
  ⟨(some 13), (.alloc 58 [(.int .i64 0), (.int .i64 0), (.int .i64 0), (.int .i64 0), (.int .i64 0)]), none⟩,
  ⟨none, (.store .ag 5 (.t 13) (.t 40)), none⟩,
  ⟨(some 14), (.mv (.t 41)), none⟩]
def q_law08_SuperPuts_4 : List AOper := [
  ⟨(some 43), (.load (.ia .u8 256) 256 (.t 6)), none⟩,
  ⟨(some 44), (.call F_ref08_Get [((.ia .u8 256), (.t 43))]), none⟩,
  ⟨(some 42), (.mv (.t 44)), none⟩,
  ⟨(some 45), (.ext 0 (.t 42)), none⟩,
  ⟨(some 46), (.ext 1 (.t 42)), none⟩,
  ⟨(some 15), (.alloc 60 [(.int .i64 0), (.int .i64 0), (.int .i64 0), (.int .i64 0), (.int .i64 0)]), none⟩,
  ⟨none, (.store .ag 5 (.t 15) (.t 45)), none⟩,
  ⟨(some 16), (.mv (.t 46)), none⟩]
def q_law08_SuperPuts_5 : List AOper := [
  ⟨(some 48), (.load (.ia .u8 256) 256 (.t 6)), none⟩,
  ⟨(some 49), (.load (.ia .u8 256) 256 (.t 7)), none⟩,
  ⟨(some 50), (.call F_super_Choose [((.ia .u8 256), (.t 48)), ((.ia .u8 256), (.t 49))]), none⟩,
  ⟨(some 47), (.mv (.t 50)), none⟩,
  ⟨(some 51), (.ext 0 (.t 47)), none⟩,
  ⟨(some 52), (.ext 1 (.t 47)), none⟩,
  ⟨(some 53), (.ext 2 (.t 47)), none⟩,
  ⟨(some 17), (.alloc 58 [(.int .i64 0), (.int .i64 0), (.int .i64 0), (.int .i64 0), (.int .i64 0)]), none⟩,
  ⟨none, (.store .ag 5 (.t 17) (.t 51)), none⟩,
  ⟨(some 18), (.mv (.t 52)), none⟩,
  ⟨(some 19), (.mv (.t 53)), none⟩]
def q_law08_SuperPuts_6 : List AOper := [
  ⟨(some 55), (.load (.ia .u8 256) 256 (.t 6)), none⟩,
  ⟨(some 56), (.load (.ia .u8 256) 256 (.t 7)), none⟩,
  ⟨(some 57), (.call F_ref08_Choose [((.ia .u8 256), (.t 55)), ((.ia .u8 256), (.t 56))]), none⟩,
  ⟨(some 54), (.mv (.t 57)), none⟩,
  ⟨(some 58), (.ext 0 (.t 54)), none⟩,
  ⟨(some 59), (.ext 1 (.t 54)), none⟩,
  ⟨(some 60), (.ext 2 (.t 54)), none⟩,
  ⟨(some 20), (.alloc 60 [(.int .i64 0), (.int .i64 0), (.int .i64 0), (.int .i64 0), (.int .i64 0)]), none⟩,
  ⟨none, (.store .ag 5 (.t 20) (.t 58)), none⟩,
  ⟨(some 21), (.mv (.t 59)), none⟩,
  ⟨(some 22), (.mv (.t 60)), none⟩]
def q_law08_SuperPuts_7 : List AOper := [
  ⟨(some 61), (.load (.ia .u8 256) 256 (.t 9)), none⟩,
  ⟨(some 62), (.load (.ia .u8 256) 256 (.t 11)), none⟩,
  ⟨(some 63), (.eq (.ia 256) false (.t 61) (.t 62)), none⟩,
  ⟨(some 64), (.mv (.t 63)), none⟩,
  ⟨(some 65), (.mv (.t 10)), (some (64, true))⟩,
  ⟨(some 66), (.mv (.t 12)), (some (64, true))⟩,
  ⟨(some 67), (.eq .scI false (.t 65) (.t 66)), (some (64, true))⟩,
  ⟨(some 68), (.pick (.t 64) (.t 67) (.v (.bool false))), none⟩,
  ⟨(some 69), (.mv (.t 68)), none⟩,
  ⟨(some 70), (.fadr 0 4 .ag (.t 13)), (some (69, true))⟩,
  ⟨(some 71), (.load .ag 4 (.t 70)), (some (69, true))⟩,
  ⟨(some 72), (.fadr 0 4 .ag (.t 15)), (some (69, true))⟩,
  ⟨(some 73), (.load .ag 4 (.t 72)), (some (69, true))⟩,
  ⟨(some 74), (.eq (.st [(0, (1, (.sc, .scI))), (1, (1, (.sc, .scI))), (2, (1, (.sc, .scI))), (3, (1, (.sc, .scI)))]) false (.t 71) (.t 73)), (some (69, true))⟩,
  ⟨(some 75), (.pick (.t 69) (.t 74) (.v (.bool false))), none⟩,
  ⟨(some 76), (.mv (.t 75)), none⟩,
  ⟨(some 77), (.fadr 4 1 .sc (.t 13)), (some (76, true))⟩,
  ⟨(some 78), (.load .sc 1 (.t 77)), (some (76, true))⟩,
  ⟨(some 79), (.fadr 4 1 .sc (.t 15)), (some (76, true))⟩,
  ⟨(some 80), (.load .sc 1 (.t 79)), (some (76, true))⟩,
  ⟨(some 81), (.eq .scI false (.t 78) (.t 80)), (some (76, true))⟩,
  ⟨(some 82), (.pick (.t 76) (.t 81) (.v (.bool false))), none⟩,
  ⟨(some 83), (.mv (.t 82)), none⟩,
  ⟨(some 84), (.mv (.t 14)), (some (83, true))⟩,
  ⟨(some 85), (.mv (.t 16)), (some (83, true))⟩,
  ⟨(some 86), (.eq .scI false (.t 84) (.t 85)), (some (83, true))⟩,
  ⟨(some 87), (.pick (.t 83) (.t 86) (.v (.bool false))), none⟩,
  ⟨(some 88), (.mv (.t 87)), none⟩,
  ⟨(some 89), (.fadr 0 4 .ag (.t 17)), (some (88, true))⟩,
  ⟨(some 90), (.load .ag 4 (.t 89)), (some (88, true))⟩,
  ⟨(some 91), (.fadr 0 4 .ag (.t 20)), (some (88, true))⟩,
  ⟨(some 92), (.load .ag 4 (.t 91)), (some (88, true))⟩,
  ⟨(some 93), (.eq (.st [(0, (1, (.sc, .scI))), (1, (1, (.sc, .scI))), (2, (1, (.sc, .scI))), (3, (1, (.sc, .scI)))]) false (.t 90) (.t 92)), (some (88, true))⟩,
  ⟨(some 94), (.pick (.t 88) (.t 93) (.v (.bool false))), none⟩,
  ⟨(some 95), (.mv (.t 94)), none⟩,
  ⟨(some 96), (.fadr 4 1 .sc (.t 17)), (some (95, true))⟩,
  ⟨(some 97), (.load .sc 1 (.t 96)), (some (95, true))⟩,
  ⟨(some 98), (.fadr 4 1 .sc (.t 20)), (some (95, true))⟩,
  ⟨(some 99), (.load .sc 1 (.t 98)), (some (95, true))⟩,
  ⟨(some 100), (.eq .scI false (.t 97) (.t 99)), (some (95, true))⟩,
  ⟨(some 101), (.pick (.t 95) (.t 100) (.v (.bool false))), none⟩,
  ⟨(some 102), (.mv (.t 101)), none⟩,
  ⟨(some 103), (.mv (.t 18)), (some (102, true))⟩,
  ⟨(some 104), (.mv (.t 21)), (some (102, true))⟩,
  ⟨(some 105), (.eq .scI false (.t 103) (.t 104)), (some (102, true))⟩,
  ⟨(some 106), (.pick (.t 102) (.t 105) (.v (.bool false))), none⟩,
  ⟨(some 107), (.mv (.t 106)), none⟩,
  ⟨(some 108), (.mv (.t 19)), (some (107, true))⟩,
  ⟨(some 109), (.mv (.t 22)), (some (107, true))⟩,
  ⟨(some 110), (.eq .scI false (.t 108) (.t 109)), (some (107, true))⟩,
  ⟨(some 111), (.pick (.t 107) (.t 110) (.v (.bool false))), none⟩,
  ⟨(some 112), (.mv (.t 111)), none⟩,
  ⟨(some 113), (.call F_law08_works []), (some (112, true))⟩,
  ⟨(some 114), (.pick (.t 112) (.t 113) (.v (.bool false))), none⟩,
  ⟨(some 8), (.mv (.t 114)), none⟩]
def a_law08_SuperPuts : AFunc := ⟨[(.tmp 8)], (.seq (.region q_law08_SuperPuts_0) (.seq (.region q_law08_SuperPuts_1) (.seq (.region q_law08_SuperPuts_2) (.seq (.region q_law08_SuperPuts_3) (.seq (.region q_law08_SuperPuts_4) (.seq (.region q_law08_SuperPuts_5) (.seq (.region q_law08_SuperPuts_6) (.seq (.region q_law08_SuperPuts_7) .ret))))))))⟩

def q_law08_SuperBack_0 : List AOper := [
  ⟨(some 4), (.box 53 .ag (.t 0)), none⟩,
  ⟨(some 8), (.mv (.v (.bool false))), none⟩]
def q_law08_SuperBack_1 : List AOper := [
  ⟨(some 18), (.load .ag 4 (.t 4)), none⟩,
  ⟨(some 19), (.mv (.t 1)), none⟩,
  ⟨(some 20), (.build .ag [(.int .i64 0), (.int .i64 0), (.int .i64 0), (.int .i64 0), (.int .i64 0)] [(0, (4, (.t 18))), (4, (1, (.t 19)))]), none⟩,
  ⟨(some 21), (.call F_super_Put [(.ag, (.t 20))]), none⟩,
  ⟨(some 17), (.mv (.t 21)), none⟩,
  ⟨(some 22), (.ext 0 (.t 17)), none⟩,
  ⟨(some 23), (.ext 1 (.t 17)), none⟩,
  ⟨(some 9), (.alloc 54 [(.iarr .u8 256 (List.replicate 256 0))]), none⟩,
  ⟨none, (.store (.ia .u8 256) 256 (.t 9) (.t 22)), none⟩,
  ⟨(some 10), (.mv (.t 23)), none⟩]
def q_law08_SuperBack_2 : List AOper := [
  ⟨(some 24), (.mv (.t 10)), none⟩,
  ⟨(some 25), (.eq .scI true (.t 24) (.v (.int .i64 0))), none⟩]
def q_law08_SuperBack_3 : List AOper := [
  ⟨(some 26), (.call F_law08_works []), none⟩,
  ⟨(some 8), (.mv (.t 26)), none⟩]
def q_law08_SuperBack_4 : List AOper := [
  ⟨(some 28), (.load (.ia .u8 256) 256 (.t 9)), none⟩,
  ⟨(some 29), (.call F_super_Get [((.ia .u8 256), (.t 28))]), none⟩,
  ⟨(some 27), (.mv (.t 29)), none⟩,
  ⟨(some 30), (.ext 0 (.t 27)), none⟩,
  ⟨(some 31), (.ext 1 (.t 27)), none⟩,
  ⟨(some 11), (.alloc 58 [(.int .i64 0), (.int .i64 0), (.int .i64 0), (.int .i64 0), (.int .i64 0)]), none⟩,
  ⟨none, (.store .ag 5 (.t 11) (.t 30)), none⟩,
  ⟨(some 12), (.mv (.t 31)), none⟩]
def q_law08_SuperBack_5 : List AOper := [
  ⟨(some 32), (.mv (.t 12)), none⟩,
  ⟨(some 33), (.eq .scI true (.t 32) (.v (.int .i64 0))), none⟩,
  ⟨(some 34), (.mv (.t 33)), none⟩,
  ⟨(some 35), (.fadr 0 4 .ag (.t 11)), (some (34, false))⟩,
  ⟨(some 36), (.load .ag 4 (.t 35)), (some (34, false))⟩,
  ⟨(some 37), (.load .ag 4 (.t 4)), (some (34, false))⟩,
  ⟨(some 38), (.eq (.st [(0, (1, (.sc, .scI))), (1, (1, (.sc, .scI))), (2, (1, (.sc, .scI))), (3, (1, (.sc, .scI)))]) true (.t 36) (.t 37)), (some (34, false))⟩,
  ⟨(some 39), (.pick (.t 34) (.v (.bool true)) (.t 38)), none⟩,
  ⟨(some 40), (.mv (.t 39)), none⟩,
  ⟨(some 41), (.fadr 4 1 .sc (.t 11)), (some (40, false))⟩,
  ⟨(some 42), (.load .sc 1 (.t 41)), (some (40, false))⟩,
  ⟨(some 43), (.mv (.t 1)), (some (40, false))⟩,
  ⟨(some 44), (.eq .scI true (.t 42) (.t 43)), (some (40, false))⟩,
  ⟨(some 45), (.pick (.t 40) (.v (.bool true)) (.t 44)), none⟩]
def q_law08_SuperBack_6 : List AOper := [
  ⟨(some 8), (.mv (.v (.bool false))), none⟩]
def q_law08_SuperBack_7 : List AOper := [
  ⟨(some 46), (.mv (.t 3)), none⟩,
  ⟨(some 47), (.eq .scI false (.t 46) (.v (.int .u32 0))), none⟩]
def q_law08_SuperBack_8 : List AOper := [
  ⟨(some 48), (.call F_law08_works []), none⟩,
  ⟨(some 8), (.mv (.t 48)), none⟩]
def q_law08_SuperBack_9 : List AOper := [
  ⟨(some 49), (.mv (.t 2)), none⟩,
  ⟨(some 50), (.conv .i64 (.t 49)), none⟩,
  ⟨(some 51), (.bin .rem (.t 50) (.v (.int .i64 2017))), none⟩,
  ⟨(some 13), (.mv (.t 51)), none⟩]
def q_law08_SuperBack_10 : List AOper := [
  ⟨(some 14), (.mv (.v (.int .i64 0))), none⟩]
def q_law08_SuperBack_11 : List AOper := [
  ⟨(some 52), (.mv (.t 14)), none⟩,
  ⟨(some 53), (.bin .lss (.t 52) (.v (.int .i64 32))), none⟩]
def q_law08_SuperBack_12 : List AOper := [
  ⟨(some 56), (.mv (.t 3)), none⟩,
  ⟨(some 57), (.mv (.t 14)), none⟩,
  ⟨(some 58), (.conv .u64 (.t 57)), none⟩,
  ⟨(some 59), (.bin .shr (.t 56) (.t 58)), none⟩,
  ⟨(some 60), (.bin .and (.t 59) (.v (.int .u32 1))), none⟩,
  ⟨(some 61), (.eq .scI false (.t 60) (.v (.int .u32 1))), none⟩]
def q_law08_SuperBack_13 : List AOper := [
  ⟨(some 62), (.mv (.t 13)), none⟩,
  ⟨(some 63), (.mv (.t 14)), none⟩,
  ⟨(some 64), (.bin .add (.t 62) (.t 63)), none⟩,
  ⟨(some 65), (.bin .quo (.t 64) (.v (.int .i64 8))), none⟩,
  ⟨(some 66), (.mv (.t 13)), none⟩,
  ⟨(some 67), (.mv (.t 14)), none⟩,
  ⟨(some 68), (.bin .add (.t 66) (.t 67)), none⟩,
  ⟨(some 69), (.bin .quo (.t 68) (.v (.int .i64 8))), none⟩,
  ⟨(some 70), (.idxA 256 1 true (.t 9) (.t 69)), none⟩,
  ⟨(some 71), (.load .sc 1 (.t 70)), none⟩,
  ⟨(some 72), (.mv (.t 13)), none⟩,
  ⟨(some 73), (.mv (.t 14)), none⟩,
  ⟨(some 74), (.bin .add (.t 72) (.t 73)), none⟩,
  ⟨(some 75), (.bin .rem (.t 74) (.v (.int .i64 8))), none⟩,
  ⟨(some 76), (.conv .u64 (.t 75)), none⟩,
  ⟨(some 77), (.bin .shl (.v (.int .u8 1)) (.t 76)), none⟩,
  ⟨(some 78), (.bin .xor (.t 71) (.t 77)), none⟩,
  ⟨(some 79), (.idxA 256 1 true (.t 9) (.t 65)), none⟩,
  ⟨none, (.store .sc 1 (.t 79) (.t 78)), none⟩]
def q_law08_SuperBack_14 : List AOper := [
  ⟨(some 54), (.mv (.t 14)), none⟩,
  ⟨(some 55), (.bin .add (.t 54) (.v (.int .i64 1))), none⟩,
  ⟨(some 14), (.mv (.t 55)), none⟩]
def q_law08_SuperBack_L15 : ACode := (.seq (.seq (.region q_law08_SuperBack_11) (.cond (.t 53) .skip (.exit 0))) (.seq (.block 1 (.seq (.region q_law08_SuperBack_12) (.cond (.t 61) (.region q_law08_SuperBack_13) .skip))) (.region q_law08_SuperBack_14)))
def q_law08_SuperBack_15 : List AOper := [
  ⟨(some 81), (.load (.ia .u8 256) 256 (.t 9)), none⟩,
  ⟨(some 82), (.call F_super_Get [((.ia .u8 256), (.t 81))]), none⟩,
  ⟨(some 80), (.mv (.t 82)), none⟩,
  ⟨(some 83), (.ext 0 (.t 80)), none⟩,
  ⟨(some 84), (.ext 1 (.t 80)), none⟩,
  ⟨(some 15), (.alloc 58 [(.int .i64 0), (.int .i64 0), (.int .i64 0), (.int .i64 0), (.int .i64 0)]), none⟩,
  ⟨none, (.store .ag 5 (.t 15) (.t 83)), none⟩,
  ⟨(some 16), (.mv (.t 84)), none⟩]
def q_law08_SuperBack_16 : List AOper := [
  ⟨(some 85), (.mv (.t 16)), none⟩,
  ⟨(some 86), (.eq .scI false (.t 85) (.v (.int .i64 5))), none⟩,
  ⟨(some 87), (.mv (.t 86)), none⟩,
  ⟨(some 88), (.call F_law08_works []), (some (87, true))⟩,
  ⟨(some 89), (.pick (.t 87) (.t 88) (.v (.bool false))), none⟩,
  ⟨(some 8), (.mv (.t 89)), none⟩]
def a_law08_SuperBack : AFunc := ⟨[(.tmp 8)], (.seq (.region q_law08_SuperBack_0) (.seq (.region q_law08_SuperBack_1) (.seq (.seq (.region q_law08_SuperBack_2) (.cond (.t 25) (.seq (.region q_law08_SuperBack_3) .ret) .skip)) (.seq (.region q_law08_SuperBack_4) (.seq (.seq (.region q_law08_SuperBack_5) (.cond (.t 45) (.seq (.region q_law08_SuperBack_6) .ret) .skip)) (.seq (.seq (.region q_law08_SuperBack_7) (.cond (.t 47) (.seq (.region q_law08_SuperBack_8) .ret) .skip)) (.seq (.region q_law08_SuperBack_9) (.seq (.seq (.region q_law08_SuperBack_10) (.block 0 (.loop q_law08_SuperBack_L15))) (.seq (.region q_law08_SuperBack_15) (.seq (.region q_law08_SuperBack_16) .ret))))))))))⟩

def q_law08_SuperBumps_0 : List AOper := [
  ⟨(some 4), (.box 53 .ag (.t 0)), none⟩,
  ⟨(some 8), (.mv (.v (.bool false))), none⟩]
def q_law08_SuperBumps_1 : List AOper := [
  ⟨(some 20), (.mv (.t 1)), none⟩,
  ⟨(some 21), (.bin .gtr (.t 20) (.v (.int .i64 1073741824))), none⟩,
  ⟨(some 22), (.mv (.t 21)), none⟩,
  ⟨(some 23), (.mv (.t 2)), (some (22, false))⟩,
  ⟨(some 24), (.len false (.t 23)), (some (22, false))⟩,
  ⟨(some 25), (.bin .gtr (.t 24) (.v (.int .i64 40))), (some (22, false))⟩,
  ⟨(some 26), (.pick (.t 22) (.v (.bool true)) (.t 25)), none⟩]
def q_law08_SuperBumps_2 : List AOper := [
  ⟨(some 27), (.call F_law08_works []), none⟩,
  ⟨(some 8), (.mv (.t 27)), none⟩]
def q_law08_SuperBumps_3 : List AOper := [
  ⟨(some 29), (.load .ag 4 (.t 4)), none⟩,
  ⟨(some 30), (.mv (.t 1)), none⟩,
  ⟨(some 31), (.build .ag [(.int .i64 0), (.int .i64 0), (.int .i64 0), (.int .i64 0), (.int .i64 0)] [(0, (4, (.t 29))), (4, (1, (.t 30)))]), none⟩,
  ⟨(some 32), (.call F_super_Put [(.ag, (.t 31))]), none⟩,
  ⟨(some 28), (.mv (.t 32)), none⟩,
  ⟨(some 33), (.ext 0 (.t 28)), none⟩,
  ⟨(some 34), (.ext 1 (.t 28)), none⟩,
  ⟨(some 9), (.alloc 54 [(.iarr .u8 256 (List.replicate 256 0))]), none⟩,
  ⟨none, (.store (.ia .u8 256) 256 (.t 9) (.t 33)), none⟩,
  ⟨(some 10), (.mv (.t 34)), none⟩]
def q_law08_SuperBumps_4 : List AOper := [
  ⟨(some 36), (.call F_disk_New [(.sc, (.v (.int .i64 9)))]), none⟩,
  ⟨(some 35), (.mv (.t 36)), none⟩,
  ⟨(some 37), (.ext 0 (.t 35)), none⟩,
  ⟨(some 38), (.ext 1 (.t 35)), none⟩,
  ⟨(some 11), (.mv (.t 37)), none⟩,
  ⟨(some 12), (.mv (.t 38)), none⟩]
def q_law08_SuperBumps_5 : List AOper := [
  ⟨(some 39), (.mv (.t 10)), none⟩,
  ⟨(some 40), (.eq .scI true (.t 39) (.v (.int .i64 0))), none⟩]
def q_law08_SuperBumps_6 : List AOper := [
  ⟨(some 41), (.call F_law08_works []), none⟩,
  ⟨(some 8), (.mv (.t 41)), none⟩]
def q_law08_SuperBumps_7 : List AOper := [
  ⟨(some 42), (.mv (.t 11)), none⟩,
  ⟨(some 43), (.xx (.p (.isNil .ptr false)) [(.t 42)]), none⟩,
  ⟨(some 44), (.mv (.t 43)), none⟩,
  ⟨(some 45), (.mv (.t 12)), (some (44, false))⟩,
  ⟨(some 46), (.eq .scI true (.t 45) (.v (.int .i64 0))), (some (44, false))⟩,
  ⟨(some 47), (.pick (.t 44) (.v (.bool true)) (.t 46)), none⟩,
  ⟨(some 48), (.mv (.t 47)), none⟩,
  ⟨(some 49), (.mv (.t 11)), (some (48, false))⟩,
  ⟨(some 50), (.load (.ia .u8 256) 256 (.t 9)), (some (48, false))⟩,
  ⟨(some 51), (.call F_Pdisk_Disk_Write [(.sc, (.t 49)), (.sc, (.v (.int .i64 0))), ((.ia .u8 256), (.t 50))]), (some (48, false))⟩,
  ⟨(some 52), (.eq .scI true (.t 51) (.v (.int .i64 0))), (some (48, false))⟩,
  ⟨(some 53), (.pick (.t 48) (.v (.bool true)) (.t 52)), none⟩,
  ⟨(some 54), (.mv (.t 53)), none⟩,
  ⟨(some 55), (.mv (.t 11)), (some (54, false))⟩,
  ⟨(some 56), (.call F_Pdisk_Disk_Flush [(.sc, (.t 55))]), (some (54, false))⟩,
  ⟨(some 57), (.eq .scI true (.t 56) (.v (.int .i64 0))), (some (54, false))⟩,
  ⟨(some 58), (.pick (.t 54) (.v (.bool true)) (.t 57)), none⟩]
def q_law08_SuperBumps_8 : List AOper := [
  ⟨(some 8), (.mv (.v (.bool false))), none⟩]
def q_law08_SuperBumps_9 : List AOper := [
  ⟨(some 59), (.mv (.t 1)), none⟩,
  ⟨(some 13), (.mv (.t 59)), none⟩]
def q_law08_SuperBumps_10 : List AOper := [
  ⟨(some 14), (.mv (.v (.int .i64 0))), none⟩]
def q_law08_SuperBumps_11 : List AOper := [
  ⟨(some 60), (.mv (.t 14)), none⟩,
  ⟨(some 61), (.mv (.t 2)), none⟩,
  ⟨(some 62), (.len false (.t 61)), none⟩,
  ⟨(some 63), (.bin .lss (.t 60) (.t 62)), none⟩]
def q_law08_SuperBumps_12 : List AOper := [
  ⟨(some 66), (.mv (.t 11)), none⟩,
  ⟨(some 67), (.mv (.t 2)), none⟩,
  ⟨(some 68), (.mv (.t 14)), none⟩,
  ⟨(some 69), (.idx 1 (.t 67) (.t 68)), none⟩,
  ⟨(some 70), (.load .sc 1 (.t 69)), none⟩,
  ⟨(some 71), (.conv .i64 (.t 70)), none⟩,
  ⟨(some 72), (.bin .rem (.t 71) (.v (.int .i64 4))), none⟩,
  ⟨(some 73), (.call F_Pdisk_Disk_Fuse [(.sc, (.t 66)), (.sc, (.t 72))]), none⟩]
def q_law08_SuperBumps_13 : List AOper := [
  ⟨(some 75), (.mv (.t 11)), none⟩,
  ⟨(some 76), (.call F_super_Bump [(.sc, (.t 75))]), none⟩,
  ⟨(some 74), (.mv (.t 76)), none⟩,
  ⟨(some 77), (.ext 0 (.t 74)), none⟩,
  ⟨(some 78), (.ext 1 (.t 74)), none⟩,
  ⟨(some 15), (.alloc 58 [(.int .i64 0), (.int .i64 0), (.int .i64 0), (.int .i64 0), (.int .i64 0)]), none⟩,
  ⟨none, (.store .ag 5 (.t 15) (.t 77)), none⟩,
  ⟨(some 16), (.mv (.t 78)), none⟩]
def q_law08_SuperBumps_14 : List AOper := [
  ⟨(some 79), (.mv (.t 11)), none⟩,
  ⟨(some 80), (.mv (.t 14)), none⟩,
  ⟨(some 81), (.mv (.t 3)), none⟩,
  ⟨(some 82), (.len false (.t 81)), none⟩,
  ⟨(some 83), (.bin .lss (.t 80) (.t 82)), none⟩,
  ⟨(some 84), (.mv (.t 83)), none⟩,
  ⟨(some 85), (.mv (.t 3)), (some (84, true))⟩,
  ⟨(some 86), (.mv (.t 14)), (some (84, true))⟩,
  ⟨(some 87), (.idx 1 (.t 85) (.t 86)), (some (84, true))⟩,
  ⟨(some 88), (.load .sc 1 (.t 87)), (some (84, true))⟩,
  ⟨(some 89), (.pick (.t 84) (.t 88) (.v (.bool false))), none⟩,
  ⟨(some 90), (.bsl 4 .sc 1 [(.t 89)]), none⟩,
  ⟨(some 91), (.call F_Pdisk_Disk_Crash [(.sc, (.t 79)), (.sc, (.t 90))]), none⟩]
def q_law08_SuperBumps_15 : List AOper := [
  ⟨(some 93), (.mv (.t 11)), none⟩,
  ⟨(some 94), (.call F_super_Read [(.sc, (.t 93))]), none⟩,
  ⟨(some 92), (.mv (.t 94)), none⟩,
  ⟨(some 95), (.ext 0 (.t 92)), none⟩,
  ⟨(some 96), (.ext 1 (.t 92)), none⟩,
  ⟨(some 97), (.ext 2 (.t 92)), none⟩,
  ⟨(some 17), (.alloc 58 [(.int .i64 0), (.int .i64 0), (.int .i64 0), (.int .i64 0), (.int .i64 0)]), none⟩,
  ⟨none, (.store .ag 5 (.t 17) (.t 95)), none⟩,
  ⟨(some 18), (.mv (.t 96)), none⟩,
  ⟨(some 19), (.mv (.t 97)), none⟩]
def q_law08_SuperBumps_16 : List AOper := [
  ⟨(some 98), (.mv (.t 19)), none⟩,
  ⟨(some 99), (.eq .scI true (.t 98) (.v (.int .i64 0))), none⟩,
  ⟨(some 100), (.mv (.t 99)), none⟩,
  ⟨(some 101), (.fadr 0 4 .ag (.t 17)), (some (100, false))⟩,
  ⟨(some 102), (.load .ag 4 (.t 101)), (some (100, false))⟩,
  ⟨(some 103), (.load .ag 4 (.t 4)), (some (100, false))⟩,
  ⟨(some 104), (.eq (.st [(0, (1, (.sc, .scI))), (1, (1, (.sc, .scI))), (2, (1, (.sc, .scI))), (3, (1, (.sc, .scI)))]) true (.t 102) (.t 103)), (some (100, false))⟩,
  ⟨(some 105), (.pick (.t 100) (.v (.bool true)) (.t 104)), none⟩,
  ⟨(some 106), (.mv (.t 105)), none⟩,
  ⟨(some 107), (.fadr 4 1 .sc (.t 17)), (some (106, false))⟩,
  ⟨(some 108), (.load .sc 1 (.t 107)), (some (106, false))⟩,
  ⟨(some 109), (.mv (.t 13)), (some (106, false))⟩,
  ⟨(some 110), (.bin .lss (.t 108) (.t 109)), (some (106, false))⟩,
  ⟨(some 111), (.pick (.t 106) (.v (.bool true)) (.t 110)), none⟩,
  ⟨(some 112), (.mv (.t 111)), none⟩,
  ⟨(some 113), (.fadr 4 1 .sc (.t 17)), (some (112, false))⟩,
  ⟨(some 114), (.load .sc 1 (.t 113)), (some (112, false))⟩,
  ⟨(some 115), (.mv (.t 13)), (some (112, false))⟩,
  ⟨(some 116), (.bin .add (.t 115) (.v (.int .i64 1))), (some (112, false))⟩,
  ⟨(some 117), (.bin .gtr (.t 114) (.t 116)), (some (112, false))⟩,
  ⟨(some 118), (.pick (.t 112) (.v (.bool true)) (.t 117)), none⟩,
  ⟨(some 119), (.mv (.t 118)), none⟩,
  ⟨(some 120), (.mv (.t 16)), (some (119, false))⟩,
  ⟨(some 121), (.eq .scI false (.t 120) (.v (.int .i64 0))), (some (119, false))⟩,
  ⟨(some 122), (.mv (.t 121)), (some (119, false))⟩,
  ⟨(some 123), (.fadr 4 1 .sc (.t 17)), (some (122, true))⟩,
  ⟨(some 124), (.load .sc 1 (.t 123)), (some (122, true))⟩,
  ⟨(some 125), (.mv (.t 13)), (some (122, true))⟩,
  ⟨(some 126), (.bin .add (.t 125) (.v (.int .i64 1))), (some (122, true))⟩,
  ⟨(some 127), (.eq .scI true (.t 124) (.t 126)), (some (122, true))⟩,
  ⟨(some 128), (.pick (.t 122) (.t 127) (.v (.bool false))), (some (119, false))⟩,
  ⟨(some 129), (.pick (.t 119) (.v (.bool true)) (.t 128)), none⟩]
def q_law08_SuperBumps_17 : List AOper := [
  ⟨(some 8), (.mv (.v (.bool false))), none⟩]
def q_law08_SuperBumps_18 : List AOper := [
  ⟨(some 130), (.fadr 4 1 .sc (.t 17)), none⟩,
  ⟨(some 131), (.load .sc 1 (.t 130)), none⟩,
  ⟨(some 13), (.mv (.t 131)), none⟩]
def q_law08_SuperBumps_19 : List AOper := [
  ⟨(some 64), (.mv (.t 14)), none⟩,
  ⟨(some 65), (.bin .add (.t 64) (.v (.int .i64 1))), none⟩,
  ⟨(some 14), (.mv (.t 65)), none⟩]
def q_law08_SuperBumps_L20 : ACode := (.seq (.seq (.region q_law08_SuperBumps_11) (.cond (.t 63) .skip (.exit 0))) (.seq (.block 1 (.seq (.region q_law08_SuperBumps_12) (.seq (.region q_law08_SuperBumps_13) (.seq (.region q_law08_SuperBumps_14) (.seq (.region q_law08_SuperBumps_15) (.seq (.seq (.region q_law08_SuperBumps_16) (.cond (.t 129) (.seq (.region q_law08_SuperBumps_17) .ret) .skip)) (.region q_law08_SuperBumps_18))))))) (.region q_law08_SuperBumps_19)))
def q_law08_SuperBumps_20 : List AOper := [
  ⟨(some 132), (.call F_law08_works []), none⟩,
  ⟨(some 8), (.mv (.t 132)), none⟩]
def a_law08_SuperBumps : AFunc := ⟨[(.tmp 8)], (.seq (.region q_law08_SuperBumps_0) (.seq (.seq (.region q_law08_SuperBumps_1) (.cond (.t 26) (.seq (.region q_law08_SuperBumps_2) .ret) .skip)) (.seq (.region q_law08_SuperBumps_3) (.seq (.region q_law08_SuperBumps_4) (.seq (.seq (.region q_law08_SuperBumps_5) (.cond (.t 40) (.seq (.region q_law08_SuperBumps_6) .ret) .skip)) (.seq (.seq (.region q_law08_SuperBumps_7) (.cond (.t 58) (.seq (.region q_law08_SuperBumps_8) .ret) .skip)) (.seq (.region q_law08_SuperBumps_9) (.seq (.seq (.region q_law08_SuperBumps_10) (.block 0 (.loop q_law08_SuperBumps_L20))) (.seq (.region q_law08_SuperBumps_20) .ret)))))))))⟩

def q_law08_works_0 : List AOper := [
  ⟨(some 0), (.mv (.v (.bool false))), none⟩]
def q_law08_works_1 : List AOper := [
  ⟨(some 24), (.build .ag [(.int .i64 0), (.int .i64 0), (.int .i64 0), (.int .i64 0)] [(0, (1, (.v (.int .i64 3)))), (1, (1, (.v (.int .i64 2)))), (2, (1, (.v (.int .i64 1)))), (3, (1, (.v (.int .i64 4))))]), none⟩,
  ⟨(some 1), (.alloc 53 [(.int .i64 0), (.int .i64 0), (.int .i64 0), (.int .i64 0)]), none⟩,
  ⟨none, (.store .ag 4 (.t 1) (.t 24)), none⟩]
def q_law08_works_2 : List AOper := [
  ⟨(some 26), (.load .ag 4 (.t 1)), none⟩,
  ⟨(some 27), (.build .ag [(.int .i64 0), (.int .i64 0), (.int .i64 0), (.int .i64 0), (.int .i64 0)] [(0, (4, (.t 26))), (4, (1, (.v (.int .i64 6))))]), none⟩,
  ⟨(some 28), (.call F_super_Put [(.ag, (.t 27))]), none⟩,
  ⟨(some 25), (.mv (.t 28)), none⟩,
  ⟨(some 29), (.ext 0 (.t 25)), none⟩,
  ⟨(some 30), (.ext 1 (.t 25)), none⟩,
  ⟨(some 2), (.alloc 54 [(.iarr .u8 256 (List.replicate 256 0))]), none⟩,
  ⟨none, (.store (.ia .u8 256) 256 (.t 2) (.t 29)), none⟩,
  ⟨(some 3), (.mv (.t 30)), none⟩]
def q_law08_works_3 : List AOper := [
  ⟨(some 32), (.load (.ia .u8 256) 256 (.t 2)), none⟩,
  ⟨(some 33), (.call F_super_Get [((.ia .u8 256), (.t 32))]), none⟩,
  ⟨(some 31), (.mv (.t 33)), none⟩,
  ⟨(some 34), (.ext 0 (.t 31)), none⟩,
  ⟨(some 35), (.ext 1 (.t 31)), none⟩,
  ⟨(some 4), (.alloc 58 [(.int .i64 0), (.int .i64 0), (.int .i64 0), (.int .i64 0), (.int .i64 0)]), none⟩,
  ⟨none, (.store .ag 5 (.t 4) (.t 34)), none⟩,
  ⟨(some 5), (.mv (.t 35)), none⟩]
def q_law08_works_4 : List AOper := [
  ⟨(some 37), (.build (.ia .u8 256) [(.iarr .u8 256 (List.replicate 256 0))] []), none⟩,
  ⟨(some 38), (.call F_super_Get [((.ia .u8 256), (.t 37))]), none⟩,
  ⟨(some 36), (.mv (.t 38)), none⟩,
  ⟨(some 39), (.ext 0 (.t 36)), none⟩,
  ⟨(some 40), (.ext 1 (.t 36)), none⟩,
  ⟨(some 6), (.alloc 58 [(.int .i64 0), (.int .i64 0), (.int .i64 0), (.int .i64 0), (.int .i64 0)]), none⟩,
  ⟨none, (.store .ag 5 (.t 6) (.t 39)), none⟩,
  ⟨(some 7), (.mv (.t 40)), none⟩]
def q_law08_works_5 : List AOper := [
  ⟨(some 42), (.load .ag 4 (.t 1)), none⟩,
  ⟨(some 43), (.build .ag [(.int .i64 0), (.int .i64 0), (.int .i64 0), (.int .i64 0), (.int .i64 0)] [(0, (4, (.t 42))), (4, (1, (.v (.int .i64 7))))]), none⟩,
  ⟨(some 44), (.call F_super_Put [(.ag, (.t 43))]), none⟩,
  ⟨(some 41), (.mv (.t 44)), none⟩,
  ⟨(some 45), (.ext 0 (.t 41)), none⟩,
  ⟨(some 46), (.ext 1 (.t 41)), none⟩,
  ⟨(some 8), (.alloc 54 [(.iarr .u8 256 (List.replicate 256 0))]), none⟩,
  ⟨none, (.store (.ia .u8 256) 256 (.t 8) (.t 45)), none⟩,
  ⟨(some 9), (.mv (.t 46)), none⟩]
def q_law08_works_6 : List AOper := [
  ⟨(some 48), (.load (.ia .u8 256) 256 (.t 2)), none⟩,
  ⟨(some 49), (.load (.ia .u8 256) 256 (.t 8)), none⟩,
  ⟨(some 50), (.call F_super_Choose [((.ia .u8 256), (.t 48)), ((.ia .u8 256), (.t 49))]), none⟩,
  ⟨(some 47), (.mv (.t 50)), none⟩,
  ⟨(some 51), (.ext 0 (.t 47)), none⟩,
  ⟨(some 52), (.ext 1 (.t 47)), none⟩,
  ⟨(some 53), (.ext 2 (.t 47)), none⟩,
  ⟨(some 10), (.alloc 58 [(.int .i64 0), (.int .i64 0), (.int .i64 0), (.int .i64 0), (.int .i64 0)]), none⟩,
  ⟨none, (.store .ag 5 (.t 10) (.t 51)), none⟩,
  ⟨(some 11), (.mv (.t 52)), none⟩,
  ⟨(some 12), (.mv (.t 53)), none⟩]
def q_law08_works_7 : List AOper := [
  ⟨(some 55), (.call F_disk_New [(.sc, (.v (.int .i64 5)))]), none⟩,
  ⟨(some 54), (.mv (.t 55)), none⟩,
  ⟨(some 56), (.ext 0 (.t 54)), none⟩,
  ⟨(some 57), (.ext 1 (.t 54)), none⟩,
  ⟨(some 13), (.mv (.t 56)), none⟩,
  ⟨(some 14), (.mv (.t 57)), none⟩]
def q_law08_works_8 : List AOper := [
  ⟨(some 59), (.call F_super_Bump [(.sc, (.v .nilP))]), none⟩,
  ⟨(some 58), (.mv (.t 59)), none⟩,
  ⟨(some 60), (.ext 0 (.t 58)), none⟩,
  ⟨(some 61), (.ext 1 (.t 58)), none⟩,
  ⟨(some 15), (.alloc 58 [(.int .i64 0), (.int .i64 0), (.int .i64 0), (.int .i64 0), (.int .i64 0)]), none⟩,
  ⟨none, (.store .ag 5 (.t 15) (.t 60)), none⟩,
  ⟨(some 16), (.mv (.t 61)), none⟩]
def q_law08_works_9 : List AOper := [
  ⟨(some 62), (.mv (.t 13)), none⟩,
  ⟨(some 63), (.xx (.p (.isNil .ptr false)) [(.t 62)]), none⟩]
def q_law08_works_10 : List AOper := [
  ⟨(some 0), (.mv (.v (.bool false))), none⟩]
def q_law08_works_11 : List AOper := [
  ⟨(some 65), (.mv (.t 13)), none⟩,
  ⟨(some 66), (.call F_super_Bump [(.sc, (.t 65))]), none⟩,
  ⟨(some 64), (.mv (.t 66)), none⟩,
  ⟨(some 67), (.ext 0 (.t 64)), none⟩,
  ⟨(some 68), (.ext 1 (.t 64)), none⟩,
  ⟨(some 17), (.alloc 58 [(.int .i64 0), (.int .i64 0), (.int .i64 0), (.int .i64 0), (.int .i64 0)]), none⟩,
  ⟨none, (.store .ag 5 (.t 17) (.t 67)), none⟩,
  ⟨(some 18), (.mv (.t 68)), none⟩]
def q_law08_works_12 : List AOper := [
  ⟨(some 69), (.mv (.t 13)), none⟩,
  ⟨(some 70), (.load (.ia .u8 256) 256 (.t 2)), none⟩,
  ⟨(some 71), (.call F_Pdisk_Disk_Write [(.sc, (.t 69)), (.sc, (.v (.int .i64 1))), ((.ia .u8 256), (.t 70))]), none⟩]
def q_law08_works_13 : List AOper := [
  ⟨(some 73), (.mv (.t 13)), none⟩,
  ⟨(some 74), (.call F_super_Bump [(.sc, (.t 73))]), none⟩,
  ⟨(some 72), (.mv (.t 74)), none⟩,
  ⟨(some 75), (.ext 0 (.t 72)), none⟩,
  ⟨(some 76), (.ext 1 (.t 72)), none⟩,
  ⟨(some 19), (.alloc 58 [(.int .i64 0), (.int .i64 0), (.int .i64 0), (.int .i64 0), (.int .i64 0)]), none⟩,
  ⟨none, (.store .ag 5 (.t 19) (.t 75)), none⟩,
  ⟨(some 20), (.mv (.t 76)), none⟩]
def q_law08_works_14 : List AOper := [
  ⟨(some 78), (.mv (.t 13)), none⟩,
  ⟨(some 79), (.call F_super_Read [(.sc, (.t 78))]), none⟩,
  ⟨(some 77), (.mv (.t 79)), none⟩,
  ⟨(some 80), (.ext 0 (.t 77)), none⟩,
  ⟨(some 81), (.ext 1 (.t 77)), none⟩,
  ⟨(some 82), (.ext 2 (.t 77)), none⟩,
  ⟨(some 21), (.alloc 58 [(.int .i64 0), (.int .i64 0), (.int .i64 0), (.int .i64 0), (.int .i64 0)]), none⟩,
  ⟨none, (.store .ag 5 (.t 21) (.t 80)), none⟩,
  ⟨(some 22), (.mv (.t 81)), none⟩,
  ⟨(some 23), (.mv (.t 82)), none⟩]
def q_law08_works_15 : List AOper := [
  ⟨(some 83), (.mv (.t 3)), none⟩,
  ⟨(some 84), (.eq .scI false (.t 83) (.v (.int .i64 0))), none⟩,
  ⟨(some 85), (.mv (.t 84)), none⟩,
  ⟨(some 86), (.mv (.t 5)), (some (85, true))⟩,
  ⟨(some 87), (.eq .scI false (.t 86) (.v (.int .i64 0))), (some (85, true))⟩,
  ⟨(some 88), (.pick (.t 85) (.t 87) (.v (.bool false))), none⟩,
  ⟨(some 89), (.mv (.t 88)), none⟩,
  ⟨(some 90), (.fadr 0 4 .ag (.t 4)), (some (89, true))⟩,
  ⟨(some 91), (.load .ag 4 (.t 90)), (some (89, true))⟩,
  ⟨(some 92), (.load .ag 4 (.t 1)), (some (89, true))⟩,
  ⟨(some 93), (.eq (.st [(0, (1, (.sc, .scI))), (1, (1, (.sc, .scI))), (2, (1, (.sc, .scI))), (3, (1, (.sc, .scI)))]) false (.t 91) (.t 92)), (some (89, true))⟩,
  ⟨(some 94), (.pick (.t 89) (.t 93) (.v (.bool false))), none⟩,
  ⟨(some 95), (.mv (.t 94)), none⟩,
  ⟨(some 96), (.fadr 4 1 .sc (.t 4)), (some (95, true))⟩,
  ⟨(some 97), (.load .sc 1 (.t 96)), (some (95, true))⟩,
  ⟨(some 98), (.eq .scI false (.t 97) (.v (.int .i64 6))), (some (95, true))⟩,
  ⟨(some 99), (.pick (.t 95) (.t 98) (.v (.bool false))), none⟩,
  ⟨(some 100), (.mv (.t 99)), none⟩,
  ⟨(some 101), (.mv (.t 7)), (some (100, true))⟩,
  ⟨(some 102), (.eq .scI false (.t 101) (.v (.int .i64 5))), (some (100, true))⟩,
  ⟨(some 103), (.pick (.t 100) (.t 102) (.v (.bool false))), none⟩,
  ⟨(some 104), (.mv (.t 103)), none⟩,
  ⟨(some 105), (.fadr 4 1 .sc (.t 10)), (some (104, true))⟩,
  ⟨(some 106), (.load .sc 1 (.t 105)), (some (104, true))⟩,
  ⟨(some 107), (.eq .scI false (.t 106) (.v (.int .i64 7))), (some (104, true))⟩,
  ⟨(some 108), (.pick (.t 104) (.t 107) (.v (.bool false))), none⟩,
  ⟨(some 109), (.mv (.t 108)), none⟩,
  ⟨(some 110), (.mv (.t 11)), (some (109, true))⟩,
  ⟨(some 111), (.eq .scI false (.t 110) (.v (.int .i64 1))), (some (109, true))⟩,
  ⟨(some 112), (.pick (.t 109) (.t 111) (.v (.bool false))), none⟩,
  ⟨(some 113), (.mv (.t 112)), none⟩,
  ⟨(some 114), (.mv (.t 12)), (some (113, true))⟩,
  ⟨(some 115), (.eq .scI false (.t 114) (.v (.int .i64 0))), (some (113, true))⟩,
  ⟨(some 116), (.pick (.t 113) (.t 115) (.v (.bool false))), none⟩,
  ⟨(some 117), (.mv (.t 116)), none⟩,
  ⟨(some 118), (.mv (.t 16)), (some (117, true))⟩,
  ⟨(some 119), (.eq .scI false (.t 118) (.v (.int .i64 1))), (some (117, true))⟩,
  ⟨(some 120), (.pick (.t 117) (.t 119) (.v (.bool false))), none⟩,
  ⟨(some 121), (.mv (.t 120)), none⟩,
  ⟨(some 122), (.mv (.t 18)), (some (121, true))⟩,
  ⟨(some 123), (.eq .scI false (.t 122) (.v (.int .i64 5))), (some (121, true))⟩,
  ⟨(some 124), (.pick (.t 121) (.t 123) (.v (.bool false))), none⟩,
  ⟨(some 125), (.mv (.t 124)), none⟩,
  ⟨(some 126), (.mv (.t 20)), (some (125, true))⟩,
  ⟨(some 127), (.eq .scI false (.t 126) (.v (.int .i64 0))), (some (125, true))⟩,
  ⟨(some 128), (.pick (.t 125) (.t 127) (.v (.bool false))), none⟩,
  ⟨(some 129), (.mv (.t 128)), none⟩,
  ⟨(some 130), (.fadr 4 1 .sc (.t 19)), (some (129, true))⟩,
  ⟨(some 131), (.load .sc 1 (.t 130)), (some (129, true))⟩,
  ⟨(some 132), (.eq .scI false (.t 131) (.v (.int .i64 7))), (some (129, true))⟩,
  ⟨(some 133), (.pick (.t 129) (.t 132) (.v (.bool false))), none⟩,
  ⟨(some 134), (.mv (.t 133)), none⟩,
  ⟨(some 135), (.fadr 4 1 .sc (.t 21)), (some (134, true))⟩,
  ⟨(some 136), (.load .sc 1 (.t 135)), (some (134, true))⟩,
  ⟨(some 137), (.eq .scI false (.t 136) (.v (.int .i64 7))), (some (134, true))⟩,
  ⟨(some 138), (.pick (.t 134) (.t 137) (.v (.bool false))), none⟩,
  ⟨(some 139), (.mv (.t 138)), none⟩,
  ⟨(some 140), (.mv (.t 22)), (some (139, true))⟩,
  ⟨(some 141), (.eq .scI false (.t 140) (.v (.int .i64 0))), (some (139, true))⟩,
  ⟨(some 142), (.pick (.t 139) (.t 141) (.v (.bool false))), none⟩,
  ⟨(some 143), (.mv (.t 142)), none⟩,
  ⟨(some 144), (.mv (.t 23)), (some (143, true))⟩,
  ⟨(some 145), (.eq .scI false (.t 144) (.v (.int .i64 0))), (some (143, true))⟩,
  ⟨(some 146), (.pick (.t 143) (.t 145) (.v (.bool false))), none⟩,
  ⟨(some 147), (.mv (.t 146)), none⟩,
  ⟨(some 148), (.mv (.t 13)), (some (147, true))⟩,
  ⟨(some 149), (.call F_Pdisk_Disk_Waits [(.sc, (.t 148))]), (some (147, true))⟩,
  ⟨(some 150), (.eq .scI false (.t 149) (.v (.int .i64 0))), (some (147, true))⟩,
  ⟨(some 151), (.pick (.t 147) (.t 150) (.v (.bool false))), none⟩,
  ⟨(some 0), (.mv (.t 151)), none⟩]
def a_law08_works : AFunc := ⟨[(.tmp 0)], (.seq (.region q_law08_works_0) (.seq (.region q_law08_works_1) (.seq (.region q_law08_works_2) (.seq (.region q_law08_works_3) (.seq (.region q_law08_works_4) (.seq (.region q_law08_works_5) (.seq (.region q_law08_works_6) (.seq (.region q_law08_works_7) (.seq (.region q_law08_works_8) (.seq (.seq (.region q_law08_works_9) (.cond (.t 63) (.seq (.region q_law08_works_10) .ret) .skip)) (.seq (.region q_law08_works_11) (.seq (.region q_law08_works_12) (.seq (.region q_law08_works_13) (.seq (.region q_law08_works_14) (.seq (.region q_law08_works_15) .ret)))))))))))))))⟩


theorem c_super_Put : trF Try.prog Try.f30 = some a_super_Put := by kernel_rfl
theorem g_super_Put : Try.prog.funcs[30]? = some Try.f30 := by kernel_rfl
theorem i_super_Put {args : List AV} {A : Heap} {Ko : AOut → Heap → Prop} (hn : args.length ≤ 61)
    (h : ∀ R : APost, (∀ e env A, fpost a_super_Put.res Ko e env A → R e env A) → X Try.prog R a_super_Put.body .done (env0 args) A) : SimX Try.prog F_super_Put args A Ko :=
  X_intro g_super_Put c_super_Put (by rw [Try.ntmps30]; exact hn) h
theorem v_super_Put {args : List AV} {v : AV} (hn : args.length ≤ 61) (h : X Try.prog (fin a_super_Put.res v) a_super_Put.body .done (env0 args) H0) : Gives Try.prog F_super_Put args v :=
  Gives_intro g_super_Put c_super_Put (by rw [Try.ntmps30]; exact hn) h
theorem e_super_Put {args : List AV} {Q : AOut → Prop} (hn : args.length ≤ 61) (h : X Try.prog (finE a_super_Put.res Q) a_super_Put.body .done (env0 args) H0) : Fins Try.prog F_super_Put args Q :=
  Fins_intro g_super_Put c_super_Put (by rw [Try.ntmps30]; exact hn) h
theorem j_super_Put {args : List AV} {A : Heap} {K Kp : AV → Heap → Prop} (hn : args.length ≤ 61) (h : X Try.prog (inl a_super_Put.res K Kp) a_super_Put.body .done (env0 args) A) : SimX Try.prog F_super_Put args A (outK K Kp) :=
  X_inl g_super_Put c_super_Put (by rw [Try.ntmps30]; exact hn) h
theorem d_super_Put {args : List AV} {A : Heap} {Ko : AOut → Heap → Prop} (hn : args.length ≤ 61) (hrf : AVL.Func.hasRF Try.f30 = false)
    (h : ∀ R : APost, (∀ e env A, fpost a_super_Put.res Ko e env A → R e env A) → X Try.prog R a_super_Put.body .done (env0 args) A) : SimD Try.prog F_super_Put args A Ko :=
  X_introD g_super_Put c_super_Put (by rw [Try.ntmps30]; exact hn) hrf h
@[simp] theorem k_super_Put : callable Try.prog F_super_Put = true := by kernel_rfl
theorem c_super_Get : trF Try.prog Try.f32 = some a_super_Get := by kernel_rfl
theorem g_super_Get : Try.prog.funcs[32]? = some Try.f32 := by kernel_rfl
theorem i_super_Get {args : List AV} {A : Heap} {Ko : AOut → Heap → Prop} (hn : args.length ≤ 52)
    (h : ∀ R : APost, (∀ e env A, fpost a_super_Get.res Ko e env A → R e env A) → X Try.prog R a_super_Get.body .done (env0 args) A) : SimX Try.prog F_super_Get args A Ko :=
  X_intro g_super_Get c_super_Get (by rw [Try.ntmps32]; exact hn) h
theorem v_super_Get {args : List AV} {v : AV} (hn : args.length ≤ 52) (h : X Try.prog (fin a_super_Get.res v) a_super_Get.body .done (env0 args) H0) : Gives Try.prog F_super_Get args v :=
  Gives_intro g_super_Get c_super_Get (by rw [Try.ntmps32]; exact hn) h
theorem e_super_Get {args : List AV} {Q : AOut → Prop} (hn : args.length ≤ 52) (h : X Try.prog (finE a_super_Get.res Q) a_super_Get.body .done (env0 args) H0) : Fins Try.prog F_super_Get args Q :=
  Fins_intro g_super_Get c_super_Get (by rw [Try.ntmps32]; exact hn) h
theorem j_super_Get {args : List AV} {A : Heap} {K Kp : AV → Heap → Prop} (hn : args.length ≤ 52) (h : X Try.prog (inl a_super_Get.res K Kp) a_super_Get.body .done (env0 args) A) : SimX Try.prog F_super_Get args A (outK K Kp) :=
  X_inl g_super_Get c_super_Get (by rw [Try.ntmps32]; exact hn) h
theorem d_super_Get {args : List AV} {A : Heap} {Ko : AOut → Heap → Prop} (hn : args.length ≤ 52) (hrf : AVL.Func.hasRF Try.f32 = false)
    (h : ∀ R : APost, (∀ e env A, fpost a_super_Get.res Ko e env A → R e env A) → X Try.prog R a_super_Get.body .done (env0 args) A) : SimD Try.prog F_super_Get args A Ko :=
  X_introD g_super_Get c_super_Get (by rw [Try.ntmps32]; exact hn) hrf h
@[simp] theorem k_super_Get : callable Try.prog F_super_Get = true := by kernel_rfl
theorem c_super_Choose : trF Try.prog Try.f34 = some a_super_Choose := by kernel_rfl
theorem g_super_Choose : Try.prog.funcs[34]? = some Try.f34 := by kernel_rfl
theorem i_super_Choose {args : List AV} {A : Heap} {Ko : AOut → Heap → Prop} (hn : args.length ≤ 45)
    (h : ∀ R : APost, (∀ e env A, fpost a_super_Choose.res Ko e env A → R e env A) → X Try.prog R a_super_Choose.body .done (env0 args) A) : SimX Try.prog F_super_Choose args A Ko :=
  X_intro g_super_Choose c_super_Choose (by rw [Try.ntmps34]; exact hn) h
theorem v_super_Choose {args : List AV} {v : AV} (hn : args.length ≤ 45) (h : X Try.prog (fin a_super_Choose.res v) a_super_Choose.body .done (env0 args) H0) : Gives Try.prog F_super_Choose args v :=
  Gives_intro g_super_Choose c_super_Choose (by rw [Try.ntmps34]; exact hn) h
theorem e_super_Choose {args : List AV} {Q : AOut → Prop} (hn : args.length ≤ 45) (h : X Try.prog (finE a_super_Choose.res Q) a_super_Choose.body .done (env0 args) H0) : Fins Try.prog F_super_Choose args Q :=
  Fins_intro g_super_Choose c_super_Choose (by rw [Try.ntmps34]; exact hn) h
theorem j_super_Choose {args : List AV} {A : Heap} {K Kp : AV → Heap → Prop} (hn : args.length ≤ 45) (h : X Try.prog (inl a_super_Choose.res K Kp) a_super_Choose.body .done (env0 args) A) : SimX Try.prog F_super_Choose args A (outK K Kp) :=
  X_inl g_super_Choose c_super_Choose (by rw [Try.ntmps34]; exact hn) h
theorem d_super_Choose {args : List AV} {A : Heap} {Ko : AOut → Heap → Prop} (hn : args.length ≤ 45) (hrf : AVL.Func.hasRF Try.f34 = false)
    (h : ∀ R : APost, (∀ e env A, fpost a_super_Choose.res Ko e env A → R e env A) → X Try.prog R a_super_Choose.body .done (env0 args) A) : SimD Try.prog F_super_Choose args A Ko :=
  X_introD g_super_Choose c_super_Choose (by rw [Try.ntmps34]; exact hn) hrf h
@[simp] theorem k_super_Choose : callable Try.prog F_super_Choose = true := by kernel_rfl
theorem c_super_Bump : trF Try.prog Try.f41 = some a_super_Bump := by kernel_rfl
theorem g_super_Bump : Try.prog.funcs[41]? = some Try.f41 := by kernel_rfl
theorem i_super_Bump {args : List AV} {A : Heap} {Ko : AOut → Heap → Prop} (hn : args.length ≤ 49)
    (h : ∀ R : APost, (∀ e env A, fpost a_super_Bump.res Ko e env A → R e env A) → X Try.prog R a_super_Bump.body .done (env0 args) A) : SimX Try.prog F_super_Bump args A Ko :=
  X_intro g_super_Bump c_super_Bump (by rw [Try.ntmps41]; exact hn) h
theorem v_super_Bump {args : List AV} {v : AV} (hn : args.length ≤ 49) (h : X Try.prog (fin a_super_Bump.res v) a_super_Bump.body .done (env0 args) H0) : Gives Try.prog F_super_Bump args v :=
  Gives_intro g_super_Bump c_super_Bump (by rw [Try.ntmps41]; exact hn) h
theorem e_super_Bump {args : List AV} {Q : AOut → Prop} (hn : args.length ≤ 49) (h : X Try.prog (finE a_super_Bump.res Q) a_super_Bump.body .done (env0 args) H0) : Fins Try.prog F_super_Bump args Q :=
  Fins_intro g_super_Bump c_super_Bump (by rw [Try.ntmps41]; exact hn) h
theorem j_super_Bump {args : List AV} {A : Heap} {K Kp : AV → Heap → Prop} (hn : args.length ≤ 49) (h : X Try.prog (inl a_super_Bump.res K Kp) a_super_Bump.body .done (env0 args) A) : SimX Try.prog F_super_Bump args A (outK K Kp) :=
  X_inl g_super_Bump c_super_Bump (by rw [Try.ntmps41]; exact hn) h
theorem d_super_Bump {args : List AV} {A : Heap} {Ko : AOut → Heap → Prop} (hn : args.length ≤ 49) (hrf : AVL.Func.hasRF Try.f41 = false)
    (h : ∀ R : APost, (∀ e env A, fpost a_super_Bump.res Ko e env A → R e env A) → X Try.prog R a_super_Bump.body .done (env0 args) A) : SimD Try.prog F_super_Bump args A Ko :=
  X_introD g_super_Bump c_super_Bump (by rw [Try.ntmps41]; exact hn) hrf h
@[simp] theorem k_super_Bump : callable Try.prog F_super_Bump = true := by kernel_rfl
theorem c_super_Read : trF Try.prog Try.f43 = some a_super_Read := by kernel_rfl
theorem g_super_Read : Try.prog.funcs[43]? = some Try.f43 := by kernel_rfl
theorem i_super_Read {args : List AV} {A : Heap} {Ko : AOut → Heap → Prop} (hn : args.length ≤ 38)
    (h : ∀ R : APost, (∀ e env A, fpost a_super_Read.res Ko e env A → R e env A) → X Try.prog R a_super_Read.body .done (env0 args) A) : SimX Try.prog F_super_Read args A Ko :=
  X_intro g_super_Read c_super_Read (by rw [Try.ntmps43]; exact hn) h
theorem v_super_Read {args : List AV} {v : AV} (hn : args.length ≤ 38) (h : X Try.prog (fin a_super_Read.res v) a_super_Read.body .done (env0 args) H0) : Gives Try.prog F_super_Read args v :=
  Gives_intro g_super_Read c_super_Read (by rw [Try.ntmps43]; exact hn) h
theorem e_super_Read {args : List AV} {Q : AOut → Prop} (hn : args.length ≤ 38) (h : X Try.prog (finE a_super_Read.res Q) a_super_Read.body .done (env0 args) H0) : Fins Try.prog F_super_Read args Q :=
  Fins_intro g_super_Read c_super_Read (by rw [Try.ntmps43]; exact hn) h
theorem j_super_Read {args : List AV} {A : Heap} {K Kp : AV → Heap → Prop} (hn : args.length ≤ 38) (h : X Try.prog (inl a_super_Read.res K Kp) a_super_Read.body .done (env0 args) A) : SimX Try.prog F_super_Read args A (outK K Kp) :=
  X_inl g_super_Read c_super_Read (by rw [Try.ntmps43]; exact hn) h
theorem d_super_Read {args : List AV} {A : Heap} {Ko : AOut → Heap → Prop} (hn : args.length ≤ 38) (hrf : AVL.Func.hasRF Try.f43 = false)
    (h : ∀ R : APost, (∀ e env A, fpost a_super_Read.res Ko e env A → R e env A) → X Try.prog R a_super_Read.body .done (env0 args) A) : SimD Try.prog F_super_Read args A Ko :=
  X_introD g_super_Read c_super_Read (by rw [Try.ntmps43]; exact hn) hrf h
@[simp] theorem k_super_Read : callable Try.prog F_super_Read = true := by kernel_rfl
theorem c_super_mark : trF Try.prog Try.f61 = some a_super_mark := by kernel_rfl
theorem g_super_mark : Try.prog.funcs[61]? = some Try.f61 := by kernel_rfl
theorem i_super_mark {args : List AV} {A : Heap} {Ko : AOut → Heap → Prop} (hn : args.length ≤ 5)
    (h : ∀ R : APost, (∀ e env A, fpost a_super_mark.res Ko e env A → R e env A) → X Try.prog R a_super_mark.body .done (env0 args) A) : SimX Try.prog F_super_mark args A Ko :=
  X_intro g_super_mark c_super_mark (by rw [Try.ntmps61]; exact hn) h
theorem v_super_mark {args : List AV} {v : AV} (hn : args.length ≤ 5) (h : X Try.prog (fin a_super_mark.res v) a_super_mark.body .done (env0 args) H0) : Gives Try.prog F_super_mark args v :=
  Gives_intro g_super_mark c_super_mark (by rw [Try.ntmps61]; exact hn) h
theorem e_super_mark {args : List AV} {Q : AOut → Prop} (hn : args.length ≤ 5) (h : X Try.prog (finE a_super_mark.res Q) a_super_mark.body .done (env0 args) H0) : Fins Try.prog F_super_mark args Q :=
  Fins_intro g_super_mark c_super_mark (by rw [Try.ntmps61]; exact hn) h
theorem j_super_mark {args : List AV} {A : Heap} {K Kp : AV → Heap → Prop} (hn : args.length ≤ 5) (h : X Try.prog (inl a_super_mark.res K Kp) a_super_mark.body .done (env0 args) A) : SimX Try.prog F_super_mark args A (outK K Kp) :=
  X_inl g_super_mark c_super_mark (by rw [Try.ntmps61]; exact hn) h
theorem d_super_mark {args : List AV} {A : Heap} {Ko : AOut → Heap → Prop} (hn : args.length ≤ 5) (hrf : AVL.Func.hasRF Try.f61 = false)
    (h : ∀ R : APost, (∀ e env A, fpost a_super_mark.res Ko e env A → R e env A) → X Try.prog R a_super_mark.body .done (env0 args) A) : SimD Try.prog F_super_mark args A Ko :=
  X_introD g_super_mark c_super_mark (by rw [Try.ntmps61]; exact hn) hrf h
@[simp] theorem k_super_mark : callable Try.prog F_super_mark = true := by kernel_rfl
theorem c_ref08_Put : trF Try.prog Try.f31 = some a_ref08_Put := by kernel_rfl
theorem g_ref08_Put : Try.prog.funcs[31]? = some Try.f31 := by kernel_rfl
theorem i_ref08_Put {args : List AV} {A : Heap} {Ko : AOut → Heap → Prop} (hn : args.length ≤ 60)
    (h : ∀ R : APost, (∀ e env A, fpost a_ref08_Put.res Ko e env A → R e env A) → X Try.prog R a_ref08_Put.body .done (env0 args) A) : SimX Try.prog F_ref08_Put args A Ko :=
  X_intro g_ref08_Put c_ref08_Put (by rw [Try.ntmps31]; exact hn) h
theorem v_ref08_Put {args : List AV} {v : AV} (hn : args.length ≤ 60) (h : X Try.prog (fin a_ref08_Put.res v) a_ref08_Put.body .done (env0 args) H0) : Gives Try.prog F_ref08_Put args v :=
  Gives_intro g_ref08_Put c_ref08_Put (by rw [Try.ntmps31]; exact hn) h
theorem e_ref08_Put {args : List AV} {Q : AOut → Prop} (hn : args.length ≤ 60) (h : X Try.prog (finE a_ref08_Put.res Q) a_ref08_Put.body .done (env0 args) H0) : Fins Try.prog F_ref08_Put args Q :=
  Fins_intro g_ref08_Put c_ref08_Put (by rw [Try.ntmps31]; exact hn) h
theorem j_ref08_Put {args : List AV} {A : Heap} {K Kp : AV → Heap → Prop} (hn : args.length ≤ 60) (h : X Try.prog (inl a_ref08_Put.res K Kp) a_ref08_Put.body .done (env0 args) A) : SimX Try.prog F_ref08_Put args A (outK K Kp) :=
  X_inl g_ref08_Put c_ref08_Put (by rw [Try.ntmps31]; exact hn) h
theorem d_ref08_Put {args : List AV} {A : Heap} {Ko : AOut → Heap → Prop} (hn : args.length ≤ 60) (hrf : AVL.Func.hasRF Try.f31 = false)
    (h : ∀ R : APost, (∀ e env A, fpost a_ref08_Put.res Ko e env A → R e env A) → X Try.prog R a_ref08_Put.body .done (env0 args) A) : SimD Try.prog F_ref08_Put args A Ko :=
  X_introD g_ref08_Put c_ref08_Put (by rw [Try.ntmps31]; exact hn) hrf h
@[simp] theorem k_ref08_Put : callable Try.prog F_ref08_Put = true := by kernel_rfl
theorem c_ref08_Get : trF Try.prog Try.f33 = some a_ref08_Get := by kernel_rfl
theorem g_ref08_Get : Try.prog.funcs[33]? = some Try.f33 := by kernel_rfl
theorem i_ref08_Get {args : List AV} {A : Heap} {Ko : AOut → Heap → Prop} (hn : args.length ≤ 51)
    (h : ∀ R : APost, (∀ e env A, fpost a_ref08_Get.res Ko e env A → R e env A) → X Try.prog R a_ref08_Get.body .done (env0 args) A) : SimX Try.prog F_ref08_Get args A Ko :=
  X_intro g_ref08_Get c_ref08_Get (by rw [Try.ntmps33]; exact hn) h
theorem v_ref08_Get {args : List AV} {v : AV} (hn : args.length ≤ 51) (h : X Try.prog (fin a_ref08_Get.res v) a_ref08_Get.body .done (env0 args) H0) : Gives Try.prog F_ref08_Get args v :=
  Gives_intro g_ref08_Get c_ref08_Get (by rw [Try.ntmps33]; exact hn) h
theorem e_ref08_Get {args : List AV} {Q : AOut → Prop} (hn : args.length ≤ 51) (h : X Try.prog (finE a_ref08_Get.res Q) a_ref08_Get.body .done (env0 args) H0) : Fins Try.prog F_ref08_Get args Q :=
  Fins_intro g_ref08_Get c_ref08_Get (by rw [Try.ntmps33]; exact hn) h
theorem j_ref08_Get {args : List AV} {A : Heap} {K Kp : AV → Heap → Prop} (hn : args.length ≤ 51) (h : X Try.prog (inl a_ref08_Get.res K Kp) a_ref08_Get.body .done (env0 args) A) : SimX Try.prog F_ref08_Get args A (outK K Kp) :=
  X_inl g_ref08_Get c_ref08_Get (by rw [Try.ntmps33]; exact hn) h
theorem d_ref08_Get {args : List AV} {A : Heap} {Ko : AOut → Heap → Prop} (hn : args.length ≤ 51) (hrf : AVL.Func.hasRF Try.f33 = false)
    (h : ∀ R : APost, (∀ e env A, fpost a_ref08_Get.res Ko e env A → R e env A) → X Try.prog R a_ref08_Get.body .done (env0 args) A) : SimD Try.prog F_ref08_Get args A Ko :=
  X_introD g_ref08_Get c_ref08_Get (by rw [Try.ntmps33]; exact hn) hrf h
@[simp] theorem k_ref08_Get : callable Try.prog F_ref08_Get = true := by kernel_rfl
theorem c_ref08_Choose : trF Try.prog Try.f35 = some a_ref08_Choose := by kernel_rfl
theorem g_ref08_Choose : Try.prog.funcs[35]? = some Try.f35 := by kernel_rfl
theorem i_ref08_Choose {args : List AV} {A : Heap} {Ko : AOut → Heap → Prop} (hn : args.length ≤ 39)
    (h : ∀ R : APost, (∀ e env A, fpost a_ref08_Choose.res Ko e env A → R e env A) → X Try.prog R a_ref08_Choose.body .done (env0 args) A) : SimX Try.prog F_ref08_Choose args A Ko :=
  X_intro g_ref08_Choose c_ref08_Choose (by rw [Try.ntmps35]; exact hn) h
theorem v_ref08_Choose {args : List AV} {v : AV} (hn : args.length ≤ 39) (h : X Try.prog (fin a_ref08_Choose.res v) a_ref08_Choose.body .done (env0 args) H0) : Gives Try.prog F_ref08_Choose args v :=
  Gives_intro g_ref08_Choose c_ref08_Choose (by rw [Try.ntmps35]; exact hn) h
theorem e_ref08_Choose {args : List AV} {Q : AOut → Prop} (hn : args.length ≤ 39) (h : X Try.prog (finE a_ref08_Choose.res Q) a_ref08_Choose.body .done (env0 args) H0) : Fins Try.prog F_ref08_Choose args Q :=
  Fins_intro g_ref08_Choose c_ref08_Choose (by rw [Try.ntmps35]; exact hn) h
theorem j_ref08_Choose {args : List AV} {A : Heap} {K Kp : AV → Heap → Prop} (hn : args.length ≤ 39) (h : X Try.prog (inl a_ref08_Choose.res K Kp) a_ref08_Choose.body .done (env0 args) A) : SimX Try.prog F_ref08_Choose args A (outK K Kp) :=
  X_inl g_ref08_Choose c_ref08_Choose (by rw [Try.ntmps35]; exact hn) h
theorem d_ref08_Choose {args : List AV} {A : Heap} {Ko : AOut → Heap → Prop} (hn : args.length ≤ 39) (hrf : AVL.Func.hasRF Try.f35 = false)
    (h : ∀ R : APost, (∀ e env A, fpost a_ref08_Choose.res Ko e env A → R e env A) → X Try.prog R a_ref08_Choose.body .done (env0 args) A) : SimD Try.prog F_ref08_Choose args A Ko :=
  X_introD g_ref08_Choose c_ref08_Choose (by rw [Try.ntmps35]; exact hn) hrf h
@[simp] theorem k_ref08_Choose : callable Try.prog F_ref08_Choose = true := by kernel_rfl
theorem c_ref08_num : trF Try.prog Try.f73 = some a_ref08_num := by kernel_rfl
theorem g_ref08_num : Try.prog.funcs[73]? = some Try.f73 := by kernel_rfl
theorem i_ref08_num {args : List AV} {A : Heap} {Ko : AOut → Heap → Prop} (hn : args.length ≤ 16)
    (h : ∀ R : APost, (∀ e env A, fpost a_ref08_num.res Ko e env A → R e env A) → X Try.prog R a_ref08_num.body .done (env0 args) A) : SimX Try.prog F_ref08_num args A Ko :=
  X_intro g_ref08_num c_ref08_num (by rw [Try.ntmps73]; exact hn) h
theorem v_ref08_num {args : List AV} {v : AV} (hn : args.length ≤ 16) (h : X Try.prog (fin a_ref08_num.res v) a_ref08_num.body .done (env0 args) H0) : Gives Try.prog F_ref08_num args v :=
  Gives_intro g_ref08_num c_ref08_num (by rw [Try.ntmps73]; exact hn) h
theorem e_ref08_num {args : List AV} {Q : AOut → Prop} (hn : args.length ≤ 16) (h : X Try.prog (finE a_ref08_num.res Q) a_ref08_num.body .done (env0 args) H0) : Fins Try.prog F_ref08_num args Q :=
  Fins_intro g_ref08_num c_ref08_num (by rw [Try.ntmps73]; exact hn) h
theorem j_ref08_num {args : List AV} {A : Heap} {K Kp : AV → Heap → Prop} (hn : args.length ≤ 16) (h : X Try.prog (inl a_ref08_num.res K Kp) a_ref08_num.body .done (env0 args) A) : SimX Try.prog F_ref08_num args A (outK K Kp) :=
  X_inl g_ref08_num c_ref08_num (by rw [Try.ntmps73]; exact hn) h
theorem d_ref08_num {args : List AV} {A : Heap} {Ko : AOut → Heap → Prop} (hn : args.length ≤ 16) (hrf : AVL.Func.hasRF Try.f73 = false)
    (h : ∀ R : APost, (∀ e env A, fpost a_ref08_num.res Ko e env A → R e env A) → X Try.prog R a_ref08_num.body .done (env0 args) A) : SimD Try.prog F_ref08_num args A Ko :=
  X_introD g_ref08_num c_ref08_num (by rw [Try.ntmps73]; exact hn) hrf h
@[simp] theorem k_ref08_num : callable Try.prog F_ref08_num = true := by kernel_rfl
theorem c_law08_SuperPuts : trF Try.prog Try.f7 = some a_law08_SuperPuts := by kernel_rfl
theorem g_law08_SuperPuts : Try.prog.funcs[7]? = some Try.f7 := by kernel_rfl
theorem i_law08_SuperPuts {args : List AV} {A : Heap} {Ko : AOut → Heap → Prop} (hn : args.length ≤ 115)
    (h : ∀ R : APost, (∀ e env A, fpost a_law08_SuperPuts.res Ko e env A → R e env A) → X Try.prog R a_law08_SuperPuts.body .done (env0 args) A) : SimX Try.prog F_law08_SuperPuts args A Ko :=
  X_intro g_law08_SuperPuts c_law08_SuperPuts (by rw [Try.ntmps7]; exact hn) h
theorem v_law08_SuperPuts {args : List AV} {v : AV} (hn : args.length ≤ 115) (h : X Try.prog (fin a_law08_SuperPuts.res v) a_law08_SuperPuts.body .done (env0 args) H0) : Gives Try.prog F_law08_SuperPuts args v :=
  Gives_intro g_law08_SuperPuts c_law08_SuperPuts (by rw [Try.ntmps7]; exact hn) h
theorem e_law08_SuperPuts {args : List AV} {Q : AOut → Prop} (hn : args.length ≤ 115) (h : X Try.prog (finE a_law08_SuperPuts.res Q) a_law08_SuperPuts.body .done (env0 args) H0) : Fins Try.prog F_law08_SuperPuts args Q :=
  Fins_intro g_law08_SuperPuts c_law08_SuperPuts (by rw [Try.ntmps7]; exact hn) h
theorem j_law08_SuperPuts {args : List AV} {A : Heap} {K Kp : AV → Heap → Prop} (hn : args.length ≤ 115) (h : X Try.prog (inl a_law08_SuperPuts.res K Kp) a_law08_SuperPuts.body .done (env0 args) A) : SimX Try.prog F_law08_SuperPuts args A (outK K Kp) :=
  X_inl g_law08_SuperPuts c_law08_SuperPuts (by rw [Try.ntmps7]; exact hn) h
theorem d_law08_SuperPuts {args : List AV} {A : Heap} {Ko : AOut → Heap → Prop} (hn : args.length ≤ 115) (hrf : AVL.Func.hasRF Try.f7 = false)
    (h : ∀ R : APost, (∀ e env A, fpost a_law08_SuperPuts.res Ko e env A → R e env A) → X Try.prog R a_law08_SuperPuts.body .done (env0 args) A) : SimD Try.prog F_law08_SuperPuts args A Ko :=
  X_introD g_law08_SuperPuts c_law08_SuperPuts (by rw [Try.ntmps7]; exact hn) hrf h
@[simp] theorem k_law08_SuperPuts : callable Try.prog F_law08_SuperPuts = true := by kernel_rfl
theorem c_law08_SuperBack : trF Try.prog Try.f8 = some a_law08_SuperBack := by kernel_rfl
theorem g_law08_SuperBack : Try.prog.funcs[8]? = some Try.f8 := by kernel_rfl
theorem i_law08_SuperBack {args : List AV} {A : Heap} {Ko : AOut → Heap → Prop} (hn : args.length ≤ 90)
    (h : ∀ R : APost, (∀ e env A, fpost a_law08_SuperBack.res Ko e env A → R e env A) → X Try.prog R a_law08_SuperBack.body .done (env0 args) A) : SimX Try.prog F_law08_SuperBack args A Ko :=
  X_intro g_law08_SuperBack c_law08_SuperBack (by rw [Try.ntmps8]; exact hn) h
theorem v_law08_SuperBack {args : List AV} {v : AV} (hn : args.length ≤ 90) (h : X Try.prog (fin a_law08_SuperBack.res v) a_law08_SuperBack.body .done (env0 args) H0) : Gives Try.prog F_law08_SuperBack args v :=
  Gives_intro g_law08_SuperBack c_law08_SuperBack (by rw [Try.ntmps8]; exact hn) h
theorem e_law08_SuperBack {args : List AV} {Q : AOut → Prop} (hn : args.length ≤ 90) (h : X Try.prog (finE a_law08_SuperBack.res Q) a_law08_SuperBack.body .done (env0 args) H0) : Fins Try.prog F_law08_SuperBack args Q :=
  Fins_intro g_law08_SuperBack c_law08_SuperBack (by rw [Try.ntmps8]; exact hn) h
theorem j_law08_SuperBack {args : List AV} {A : Heap} {K Kp : AV → Heap → Prop} (hn : args.length ≤ 90) (h : X Try.prog (inl a_law08_SuperBack.res K Kp) a_law08_SuperBack.body .done (env0 args) A) : SimX Try.prog F_law08_SuperBack args A (outK K Kp) :=
  X_inl g_law08_SuperBack c_law08_SuperBack (by rw [Try.ntmps8]; exact hn) h
theorem d_law08_SuperBack {args : List AV} {A : Heap} {Ko : AOut → Heap → Prop} (hn : args.length ≤ 90) (hrf : AVL.Func.hasRF Try.f8 = false)
    (h : ∀ R : APost, (∀ e env A, fpost a_law08_SuperBack.res Ko e env A → R e env A) → X Try.prog R a_law08_SuperBack.body .done (env0 args) A) : SimD Try.prog F_law08_SuperBack args A Ko :=
  X_introD g_law08_SuperBack c_law08_SuperBack (by rw [Try.ntmps8]; exact hn) hrf h
@[simp] theorem k_law08_SuperBack : callable Try.prog F_law08_SuperBack = true := by kernel_rfl
theorem c_law08_SuperBumps : trF Try.prog Try.f9 = some a_law08_SuperBumps := by kernel_rfl
theorem g_law08_SuperBumps : Try.prog.funcs[9]? = some Try.f9 := by kernel_rfl
theorem i_law08_SuperBumps {args : List AV} {A : Heap} {Ko : AOut → Heap → Prop} (hn : args.length ≤ 133)
    (h : ∀ R : APost, (∀ e env A, fpost a_law08_SuperBumps.res Ko e env A → R e env A) → X Try.prog R a_law08_SuperBumps.body .done (env0 args) A) : SimX Try.prog F_law08_SuperBumps args A Ko :=
  X_intro g_law08_SuperBumps c_law08_SuperBumps (by rw [Try.ntmps9]; exact hn) h
theorem v_law08_SuperBumps {args : List AV} {v : AV} (hn : args.length ≤ 133) (h : X Try.prog (fin a_law08_SuperBumps.res v) a_law08_SuperBumps.body .done (env0 args) H0) : Gives Try.prog F_law08_SuperBumps args v :=
  Gives_intro g_law08_SuperBumps c_law08_SuperBumps (by rw [Try.ntmps9]; exact hn) h
theorem e_law08_SuperBumps {args : List AV} {Q : AOut → Prop} (hn : args.length ≤ 133) (h : X Try.prog (finE a_law08_SuperBumps.res Q) a_law08_SuperBumps.body .done (env0 args) H0) : Fins Try.prog F_law08_SuperBumps args Q :=
  Fins_intro g_law08_SuperBumps c_law08_SuperBumps (by rw [Try.ntmps9]; exact hn) h
theorem j_law08_SuperBumps {args : List AV} {A : Heap} {K Kp : AV → Heap → Prop} (hn : args.length ≤ 133) (h : X Try.prog (inl a_law08_SuperBumps.res K Kp) a_law08_SuperBumps.body .done (env0 args) A) : SimX Try.prog F_law08_SuperBumps args A (outK K Kp) :=
  X_inl g_law08_SuperBumps c_law08_SuperBumps (by rw [Try.ntmps9]; exact hn) h
theorem d_law08_SuperBumps {args : List AV} {A : Heap} {Ko : AOut → Heap → Prop} (hn : args.length ≤ 133) (hrf : AVL.Func.hasRF Try.f9 = false)
    (h : ∀ R : APost, (∀ e env A, fpost a_law08_SuperBumps.res Ko e env A → R e env A) → X Try.prog R a_law08_SuperBumps.body .done (env0 args) A) : SimD Try.prog F_law08_SuperBumps args A Ko :=
  X_introD g_law08_SuperBumps c_law08_SuperBumps (by rw [Try.ntmps9]; exact hn) hrf h
@[simp] theorem k_law08_SuperBumps : callable Try.prog F_law08_SuperBumps = true := by kernel_rfl
theorem c_law08_works : trF Try.prog Try.f36 = some a_law08_works := by kernel_rfl
theorem g_law08_works : Try.prog.funcs[36]? = some Try.f36 := by kernel_rfl
theorem i_law08_works {args : List AV} {A : Heap} {Ko : AOut → Heap → Prop} (hn : args.length ≤ 152)
    (h : ∀ R : APost, (∀ e env A, fpost a_law08_works.res Ko e env A → R e env A) → X Try.prog R a_law08_works.body .done (env0 args) A) : SimX Try.prog F_law08_works args A Ko :=
  X_intro g_law08_works c_law08_works (by rw [Try.ntmps36]; exact hn) h
theorem v_law08_works {args : List AV} {v : AV} (hn : args.length ≤ 152) (h : X Try.prog (fin a_law08_works.res v) a_law08_works.body .done (env0 args) H0) : Gives Try.prog F_law08_works args v :=
  Gives_intro g_law08_works c_law08_works (by rw [Try.ntmps36]; exact hn) h
theorem e_law08_works {args : List AV} {Q : AOut → Prop} (hn : args.length ≤ 152) (h : X Try.prog (finE a_law08_works.res Q) a_law08_works.body .done (env0 args) H0) : Fins Try.prog F_law08_works args Q :=
  Fins_intro g_law08_works c_law08_works (by rw [Try.ntmps36]; exact hn) h
theorem j_law08_works {args : List AV} {A : Heap} {K Kp : AV → Heap → Prop} (hn : args.length ≤ 152) (h : X Try.prog (inl a_law08_works.res K Kp) a_law08_works.body .done (env0 args) A) : SimX Try.prog F_law08_works args A (outK K Kp) :=
  X_inl g_law08_works c_law08_works (by rw [Try.ntmps36]; exact hn) h
theorem d_law08_works {args : List AV} {A : Heap} {Ko : AOut → Heap → Prop} (hn : args.length ≤ 152) (hrf : AVL.Func.hasRF Try.f36 = false)
    (h : ∀ R : APost, (∀ e env A, fpost a_law08_works.res Ko e env A → R e env A) → X Try.prog R a_law08_works.body .done (env0 args) A) : SimD Try.prog F_law08_works args A Ko :=
  X_introD g_law08_works c_law08_works (by rw [Try.ntmps36]; exact hn) hrf h
@[simp] theorem k_law08_works : callable Try.prog F_law08_works = true := by kernel_rfl
end Go.Proofs.Ytilgdnbijkcboaa
