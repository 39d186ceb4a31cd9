/- Texts of this claim, in order: Fn Gword SWb SMh0 Gslot SZa SZb SZc SZd SZe SZf SZg SMi Ea SMj Sb Gdisk SKa SKb SKc SKd. -/
import Derived.Test.YtkmlndihdcplfaaL4
import Derived.Test.YtkmlndihdcplfaaProg
import Derived.KernelRfl
/- The numbers of functions and types, by name. -/
namespace Go.Proofs.Ytkmlndihdcplfaa
open Go AVL
set_option linter.unusedVariables false
set_option maxRecDepth 20000

abbrev F_law36_RingSectors : FuncId := 3
abbrev F_law36_RingDoes : FuncId := 4
abbrev F_law36_RingTurns : FuncId := 5
abbrev F_law36_RingCrashes : FuncId := 6
abbrev F_law09_JournalHeads : FuncId := 7
abbrev F_law09_JournalCosts : FuncId := 8
abbrev F_law09_JournalAtomic : FuncId := 9
abbrev F_law09_JournalTwice : FuncId := 10
abbrev F_law38_DeltaMakes : FuncId := 11
abbrev F_law38_DeltaJoins : FuncId := 12
abbrev F_law38_DeltaPacks : FuncId := 13
abbrev F_law38_DeltaWrites : FuncId := 14
abbrev F_law36_works : FuncId := 15
abbrev F_ring_Put : FuncId := 16
abbrev F_ref36_Put : FuncId := 17
abbrev F_ring_Get : FuncId := 18
abbrev F_ref36_Get : FuncId := 19
abbrev F_ref01_Same : FuncId := 20
abbrev F_law36_light : FuncId := 21
abbrev F_disk_New : FuncId := 22
abbrev F_ring_New : FuncId := 23
abbrev F_Pring_Ring_Drop : FuncId := 24
abbrev F_ref36_Drop : FuncId := 25
abbrev F_Pring_Ring_Append : FuncId := 26
abbrev F_ref36_Append : FuncId := 27
abbrev F_law36_same : FuncId := 28
abbrev F_ring_Open : FuncId := 29
abbrev F_Pring_Ring_Next : FuncId := 30
abbrev F_Pring_Ring_Len : FuncId := 31
abbrev F_Pring_Ring_First : FuncId := 32
abbrev F_Pring_Ring_Read : FuncId := 33
abbrev F_Pring_Ring_Clean : FuncId := 34
abbrev F_Pdisk_Disk_Fuse : FuncId := 35
abbrev F_Pdisk_Disk_Down : FuncId := 36
abbrev F_Pdisk_Disk_Crash : FuncId := 37
abbrev F_law09_works : FuncId := 38
abbrev F_law09_begin : FuncId := 39
abbrev F_law09_list : FuncId := 40
abbrev F_journal_Targets : FuncId := 41
abbrev F_ref09_Targets : FuncId := 42
abbrev F_journal_Head : FuncId := 43
abbrev F_ref09_Head : FuncId := 44
abbrev F_Pjournal_Journal_Check : FuncId := 45
abbrev F_ref09_Check : FuncId := 46
abbrev F_law09_small : FuncId := 47
abbrev F_Pjournal_Journal_Cost : FuncId := 48
abbrev F_Pjournal_Journal_Commit : FuncId := 49
abbrev F_Pdisk_Disk_Steps : FuncId := 50
abbrev F_law09_Light : FuncId := 51
abbrev F_Pdisk_Disk_Image : FuncId := 52
abbrev F_ref06_SameImage : FuncId := 53
abbrev F_law09_ran : FuncId := 54
abbrev F_ref09_Done : FuncId := 55
abbrev F_Pjournal_Journal_Recover : FuncId := 56
abbrev F_law38_light : FuncId := 57
abbrev F_law38_works : FuncId := 58
abbrev F_delta_Apply : FuncId := 59
abbrev F_ref38_Apply : FuncId := 60
abbrev F_delta_Of : FuncId := 61
abbrev F_ref38_Same : FuncId := 62
abbrev F_ref38_Of : FuncId := 63
abbrev F_delta_Shrink : FuncId := 64
abbrev F_ref38_Shrink : FuncId := 65
abbrev F_delta_Join : FuncId := 66
abbrev F_delta_Pack : FuncId := 67
abbrev F_ref38_Pack : FuncId := 68
abbrev F_delta_Unpack : FuncId := 69
abbrev F_Pdisk_Disk_Write : FuncId := 70
abbrev F_Pdisk_Disk_Flush : FuncId := 71
abbrev F_delta_Write : FuncId := 72
abbrev F_Pring_Ring_All : FuncId := 73
abbrev F_word_Put : FuncId := 74
abbrev F_word_Whole : FuncId := 75
abbrev F_crc_Sealed : FuncId := 76
abbrev F_ref01_Put : FuncId := 77
abbrev F_ref08_Sealed : FuncId := 78
abbrev F_crc_Holds : FuncId := 79
abbrev F_word_From : FuncId := 80
abbrev F_Pword_Cursor_Bytes : FuncId := 81
abbrev F_Pword_Cursor_Num : FuncId := 82
abbrev F_Pword_Cursor_Rest : FuncId := 83
abbrev F_ref01_Get : FuncId := 84
abbrev F_Pdisk_Disk_Size : FuncId := 85
abbrev F_Pring_Ring_at : FuncId := 86
abbrev F_Pring_Ring_found : FuncId := 87
abbrev F_Pring_Ring_scrub : FuncId := 88
abbrev F_Pdisk_Disk_Read : FuncId := 89
abbrev F_Pdisk_Disk_settle : FuncId := 90
abbrev F_Pdisk_Disk_Crash_1 : FuncId := 91
abbrev F_Pjournal_Journal_Clean : FuncId := 92
abbrev F_Pdisk_Disk_Waits : FuncId := 93
abbrev F_Pjournal_Journal_Scrub : FuncId := 94
abbrev F_plan_Of : FuncId := 95
abbrev F_journal_New : FuncId := 96
abbrev F_journal_mark : FuncId := 97
abbrev F_plan_Layout_Home : FuncId := 98
abbrev F_ref07_Index : FuncId := 99
abbrev F_ref07_Parts : FuncId := 100
abbrev F_journal_steps : FuncId := 101
abbrev F_Pjournal_Journal_Commit_1 : FuncId := 102
abbrev F_Pjournal_Journal_lay : FuncId := 103
abbrev F_Pjournal_Journal_Commit_2 : FuncId := 104
abbrev F_Pjournal_Journal_head : FuncId := 105
abbrev F_Pjournal_Journal_Commit_3 : FuncId := 106
abbrev F_Pjournal_Journal_home : FuncId := 107
abbrev F_Pjournal_Journal_Commit_4 : FuncId := 108
abbrev F_Pjournal_Journal_pending : FuncId := 109
abbrev F_Pjournal_Journal_Recover_1 : FuncId := 110
abbrev F_Pjournal_Journal_Recover_2 : FuncId := 111
abbrev F_slices_Clone_256_byte_256_byte : FuncId := 112
abbrev F_slices_Clone_api_Change_api_Change : FuncId := 113
abbrev F_slices_SortStableFunc_api_Change_api_Change : FuncId := 114
abbrev F_delta_Shrink_1 : FuncId := 115
abbrev F_slices_Concat_api_Change_api_Change : FuncId := 116
abbrev F_delta_runs : FuncId := 117
abbrev F_ref38_run : FuncId := 118
abbrev F_ref02_Of : FuncId := 119
abbrev F_trap_Try_api_Change : FuncId := 120
abbrev F_delta_Unpack_1 : FuncId := 121
abbrev F_Pdelta_eye_take : FuncId := 122
abbrev F_trap_Throw : FuncId := 123
abbrev F_word_Get : FuncId := 124
abbrev F_Pdelta_eye_one : FuncId := 125
abbrev F_Pdisk_Disk_inside : FuncId := 126
abbrev F_Pdisk_Disk_step : FuncId := 127
abbrev F_Pdisk_Disk_Flush_1 : FuncId := 128
abbrev F_crc_Four : FuncId := 129
abbrev F_crc_Of : FuncId := 130
abbrev F_word_Zero : FuncId := 131
abbrev F_plan_Check : FuncId := 132
abbrev F_slices_stableCmpFunc_api_Change : FuncId := 133
abbrev F_slices_Grow_api_Change_api_Change : FuncId := 134
abbrev F_ref02_bits : FuncId := 135
abbrev F_trap_Catch : FuncId := 136
abbrev F_trap_Try_api_Change_1 : FuncId := 137
abbrev F_slices_Contains_byte_byte : FuncId := 138
abbrev F_crc_More : FuncId := 139
abbrev F_slices_insertionSortCmpFunc_api_Change : FuncId := 140
abbrev F_slices_symMergeCmpFunc_api_Change : FuncId := 141
abbrev F_trap_Catch_1 : FuncId := 142
abbrev F_trap_caught : FuncId := 143
abbrev F_slices_Index_byte_byte : FuncId := 144
abbrev F_crc_turn : FuncId := 145
abbrev F_slices_rotateCmpFunc_api_Change : FuncId := 146
abbrev F_slices_swapRangeCmpFunc_api_Change : FuncId := 147
abbrev F_Pruntime_TypeAssertionError_Error : FuncId := 156
abbrev F_Pruntime_TypeAssertionError_RuntimeError : FuncId := 157
abbrev F_Pruntime_PanicNilError_Error : FuncId := 158
abbrev F_Pruntime_PanicNilError_RuntimeError : FuncId := 159
abbrev F_Pinternal_abi_Type_Align : FuncId := 160
abbrev F_internal_runtime_maps_unhashableTypeError_Error : FuncId := 161
abbrev F_internal_runtime_maps_unhashableTypeError_RuntimeError : FuncId := 162
abbrev F_plan_Layout_Bound : FuncId := 163
abbrev F_internal_abi_Kind_String : FuncId := 164
abbrev T_fno_c : TypeId := 1
abbrev T_int64 : TypeId := 2
abbrev T_int : TypeId := 3
abbrev T_bool : TypeId := 4
abbrev T_uint8 : TypeId := 5
abbrev T_string : TypeId := 9
abbrev T_uintptr : TypeId := 12
abbrev T_P_runtime_TypeAssertionError : TypeId := 15
abbrev T_P_runtime_PanicNilError : TypeId := 16
abbrev T_P_abi_Type : TypeId := 17
abbrev T_interface : TypeId := 20
abbrev T_int32 : TypeId := 21
abbrev T_L_uint8 : TypeId := 22
abbrev T_256_uint8 : TypeId := 23
abbrev T_fno_c_bool : TypeId := 24
abbrev T_api_Code : TypeId := 25
abbrev T_256_uint8_api_Code : TypeId := 26
abbrev T_fno_int_L_uint8_c_o_256_uint8_api_Code_c : TypeId := 27
abbrev T_int_L_uint8_bool : TypeId := 28
abbrev T_fno_256_uint8_c_o_int_L_uint8_bool_c : TypeId := 29
abbrev T_fno_L_uint8_L_uint8_c_bool : TypeId := 30
abbrev T_fno_int_L_uint8_256_uint8_c_bool : TypeId := 31
abbrev T_L_law36_Op : TypeId := 32
abbrev T_fno_L_law36_Op_c_bool : TypeId := 33
abbrev T_P_disk_Disk : TypeId := 34
abbrev T_P_disk_Disk_api_Code : TypeId := 35
abbrev T_fno_int_c_o_P_disk_Disk_api_Code_c : TypeId := 36
abbrev T_P_ring_Ring : TypeId := 37
abbrev T_P_ring_Ring_api_Code : TypeId := 38
abbrev T_fno_P_disk_Disk_int_int_c_o_P_ring_Ring_api_Code_c : TypeId := 39
abbrev T_L_L_uint8 : TypeId := 40
abbrev T_ref36_Ring : TypeId := 42
abbrev T_law36_Op : TypeId := 44
abbrev T_int_api_Code : TypeId := 45
abbrev T_fno_int_c_o_int_api_Code_c : TypeId := 46
abbrev T_ref36_Ring_int : TypeId := 47
abbrev T_fno_ref36_Ring_int_c_o_ref36_Ring_int_c : TypeId := 48
abbrev T_fno_L_uint8_c_o_int_api_Code_c : TypeId := 49
abbrev T_ref36_Ring_int_api_Code : TypeId := 50
abbrev T_fno_P_ring_Ring_ref36_Ring_c_bool : TypeId := 52
abbrev T_fno_P_disk_Disk_int_int_int_c_o_P_ring_Ring_api_Code_c : TypeId := 53
abbrev T_fno_c_int : TypeId := 54
abbrev T_fno_uint8_L_law36_Op_c_bool : TypeId := 55
abbrev T_L_uint8_api_Code : TypeId := 56
abbrev T_fno_int_c_o_L_uint8_api_Code_c : TypeId := 57
abbrev T_fno_uint8_L_L_uint8_c_bool : TypeId := 58
abbrev T_fno_int_c : TypeId := 59
abbrev T_fno_L_bool_c_int : TypeId := 60
abbrev T_L_bool : TypeId := 61
abbrev T_L_law09_Put : TypeId := 62
abbrev T_P_journal_Journal : TypeId := 63
abbrev T_api_Plan : TypeId := 65
abbrev T_plan_Layout : TypeId := 67
abbrev T_P_disk_Disk_P_journal_Journal_plan_Layout_bool : TypeId := 68
abbrev T_fno_c_o_P_disk_Disk_P_journal_Journal_plan_Layout_bool_c : TypeId := 69
abbrev T_L_api_Change : TypeId := 70
abbrev T_fno_L_law09_Put_c_L_api_Change : TypeId := 71
abbrev T_L_int : TypeId := 72
abbrev T_L_int_bool : TypeId := 73
abbrev T_fno_256_uint8_c_o_L_int_bool_c : TypeId := 74
abbrev T_fno_L_api_Change_c_256_uint8 : TypeId := 75
abbrev T_fno_L_api_Change_c_api_Code : TypeId := 76
abbrev T_fno_api_Plan_L_api_Change_c_api_Code : TypeId := 77
abbrev T_fno_c_api_Plan : TypeId := 78
abbrev T_fno_L_law09_Put_256_uint8_c_bool : TypeId := 79
abbrev T_fno_int_c_int : TypeId := 80
abbrev T_fno_L_law09_Put_c_bool : TypeId := 81
abbrev T_law09_Crash : TypeId := 83
abbrev T_L_law09_Crash : TypeId := 84
abbrev T_fno_L_law09_Crash_c_int : TypeId := 85
abbrev T_L_256_uint8 : TypeId := 86
abbrev T_fno_c_L_256_uint8 : TypeId := 87
abbrev T_fno_L_256_uint8_L_256_uint8_c_bool : TypeId := 88
abbrev T_fno_L_256_uint8_L_api_Change_c_L_256_uint8 : TypeId := 90
abbrev T_fno_c_o_int_api_Code_c : TypeId := 92
abbrev T_fno_L_256_uint8_L_256_uint8_L_api_Change_c_bool : TypeId := 94
abbrev T_L_256_uint8_api_Code : TypeId := 95
abbrev T_fno_L_256_uint8_L_api_Change_c_o_L_256_uint8_api_Code_c : TypeId := 96
abbrev T_L_256_uint8_bool : TypeId := 97
abbrev T_fno_L_256_uint8_L_api_Change_c_o_L_256_uint8_bool_c : TypeId := 98
abbrev T_L_api_Change_api_Code : TypeId := 99
abbrev T_fno_L_256_uint8_L_256_uint8_c_o_L_api_Change_api_Code_c : TypeId := 100
abbrev T_fno_L_api_Change_L_api_Change_c_bool : TypeId := 101
abbrev T_fno_L_256_uint8_L_256_uint8_c_L_api_Change : TypeId := 102
abbrev T_api_Change : TypeId := 104
abbrev T_fno_L_api_Change_c_L_api_Change : TypeId := 105
abbrev T_fno_L_api_Change_L_api_Change_c_L_api_Change : TypeId := 106
abbrev T_fno_L_256_uint8_L_api_Change_L_api_Change_c_bool : TypeId := 107
abbrev T_fno_L_api_Change_c_o_L_uint8_api_Code_c : TypeId := 108
abbrev T_fno_L_uint8_c_o_L_api_Change_api_Code_c : TypeId := 109
abbrev T_fno_L_api_Change_L_uint8_c_bool : TypeId := 110
abbrev T_fno_int_256_uint8_c_api_Code : TypeId := 111
abbrev T_fno_c_api_Code : TypeId := 112
abbrev T_fno_P_disk_Disk_L_api_Change_c_api_Code : TypeId := 113
abbrev T_fno_L_256_uint8_L_api_Change_L_bool_c_bool : TypeId := 114
abbrev T_L_L_uint8_api_Code : TypeId := 115
abbrev T_fno_c_o_L_L_uint8_api_Code_c : TypeId := 116
abbrev T_fno_uint64_int_c_L_uint8 : TypeId := 117
abbrev T_uint64 : TypeId := 118
abbrev T_fno_L_uint8_c_256_uint8 : TypeId := 119
abbrev T_fno_L_uint8_c_L_uint8 : TypeId := 120
abbrev T_fno_L_uint8_c_bool : TypeId := 121
abbrev T_P_word_Cursor : TypeId := 122
abbrev T_fno_L_uint8_c_P_word_Cursor : TypeId := 123
abbrev T_fno_int_c_L_uint8 : TypeId := 124
abbrev T_fno_int_c_uint64 : TypeId := 125
abbrev T_fno_L_uint8_c_uint64 : TypeId := 126
abbrev T_map_int_256_uint8 : TypeId := 127
abbrev T_L_disk_write : TypeId := 128
abbrev T_disk_Disk : TypeId := 130
abbrev T_ring_Ring : TypeId := 132
abbrev T_int_int_bool_api_Code : TypeId := 133
abbrev T_fno_c_o_int_int_bool_api_Code_c : TypeId := 134
abbrev T_fno_int_c_o_256_uint8_api_Code_c : TypeId := 135
abbrev T_fno_funco_int_c_bool_c_int : TypeId := 136
abbrev T_fno_int_c_bool : TypeId := 137
abbrev T_law09_Put : TypeId := 139
abbrev T_plan_Layout_api_Code : TypeId := 140
abbrev T_fno_api_Plan_c_o_plan_Layout_api_Code_c : TypeId := 141
abbrev T_fno_P_disk_Disk_plan_Layout_c_P_journal_Journal : TypeId := 142
abbrev T_fno_c_uint64 : TypeId := 143
abbrev T_journal_Journal : TypeId := 145
abbrev T_fno_api_Plan_c_int : TypeId := 146
abbrev T_L_string : TypeId := 147
abbrev T_fno_api_Plan_c_L_string : TypeId := 148
abbrev T_fno_funco_c_api_Code_c_api_Code : TypeId := 149
abbrev T_fno_256_uint8_c_api_Code : TypeId := 150
abbrev T_fno_c_o_L_api_Change_api_Code_c : TypeId := 151
abbrev T_fno_L_256_uint8_c_L_256_uint8 : TypeId := 152
abbrev T_fno_L_api_Change_funco_api_Change_api_Change_c_int_c : TypeId := 153
abbrev T_fno_api_Change_api_Change_c_int : TypeId := 154
abbrev T_L_2_int : TypeId := 156
abbrev T_fno_256_uint8_c_L_2_int : TypeId := 157
abbrev T_2_int : TypeId := 158
abbrev T_fno_256_uint8_int_c_int : TypeId := 159
abbrev T_uint32 : TypeId := 160
abbrev T_fno_L_uint8_c_uint32 : TypeId := 161
abbrev T_P_delta_eye : TypeId := 162
abbrev T_delta_eye : TypeId := 164
abbrev T_fno_funco_c_L_api_Change_c_o_L_api_Change_api_Code_c : TypeId := 165
abbrev T_fno_api_Code_c : TypeId := 166
abbrev T_fno_c_api_Change : TypeId := 167
abbrev T_fno_c_L_api_Change : TypeId := 168
abbrev T_disk_write : TypeId := 170
abbrev T_4_uint8 : TypeId := 171
abbrev T_fno_uint32_c_4_uint8 : TypeId := 172
abbrev T_word_Cursor : TypeId := 174
abbrev T_256_uint8_bool : TypeId := 175
abbrev T_fno_api_Plan_c_api_Code : TypeId := 176
abbrev T_L_func_api_Code : TypeId := 177
abbrev T_fno_L_api_Change_int_funco_api_Change_api_Change_c_int_c : TypeId := 178
abbrev T_L_L_api_Change : TypeId := 179
abbrev T_fno_L_api_Change_int_c_L_api_Change : TypeId := 180
abbrev T_uint : TypeId := 181
abbrev T_fno_funco_c_c_api_Code : TypeId := 182
abbrev T_trap_Fault : TypeId := 184
abbrev T_fno_L_uint8_uint8_c_bool : TypeId := 185
abbrev T_fno_uint32_L_uint8_c_uint32 : TypeId := 186
abbrev T_4_2_int : TypeId := 187
abbrev T_fno_interface_c_api_Code : TypeId := 190
abbrev T_fno_L_uint8_uint8_c_int : TypeId := 191
abbrev T_fno_uint32_uint8_c_uint32 : TypeId := 192
abbrev T_fno_c_string : TypeId := 193
abbrev T_0_P_runtime_PanicNilError : TypeId := 196
abbrev T_fno_unsafe_Pointer_unsafe_Pointer_c_bool : TypeId := 201
abbrev T_P_uint8 : TypeId := 202
end Go.Proofs.Ytkmlndihdcplfaa

/- Abstract programs; that they are the program's. -/
namespace Go.Proofs.Ytkmlndihdcplfaa
open Go AVL
set_option linter.unusedVariables false
set_option maxRecDepth 20000

def q_word_Get_0 : List AOper := [
  ⟨(some 2), (.mv (.v (.int .u64 0))), none⟩]
def q_word_Get_1 : List AOper := [
  ⟨(some 3), (.mv (.v (.int .u64 0))), none⟩]
def q_word_Get_2 : List AOper := [
  ⟨(some 5), (.mv (.t 0)), none⟩,
  ⟨(some 6), (.len false (.t 5)), none⟩,
  ⟨(some 7), (.xx (.p (.mnI false)) [(.t 6), (.v (.int .i64 8))]), none⟩,
  ⟨(some 8), (.bin .sub (.t 7) (.v (.int .i64 1))), none⟩,
  ⟨(some 4), (.mv (.t 8)), none⟩]
def q_word_Get_3 : List AOper := [
  ⟨(some 9), (.mv (.t 4)), none⟩,
  ⟨(some 10), (.bin .geq (.t 9) (.v (.int .i64 0))), none⟩]
def q_word_Get_4 : List AOper := [
  ⟨(some 13), (.mv (.t 3)), none⟩,
  ⟨(some 14), (.bin .shl (.t 13) (.v (.int .u64 8))), none⟩,
  ⟨(some 15), (.mv (.t 0)), none⟩,
  ⟨(some 16), (.mv (.t 4)), none⟩,
  ⟨(some 17), (.idx 1 (.t 15) (.t 16)), none⟩,
  ⟨(some 18), (.load .sc 1 (.t 17)), none⟩,
  ⟨(some 19), (.conv .u64 (.t 18)), none⟩,
  ⟨(some 20), (.bin .or (.t 14) (.t 19)), none⟩,
  ⟨(some 3), (.mv (.t 20)), none⟩]
def q_word_Get_5 : List AOper := [
  ⟨(some 11), (.mv (.t 4)), none⟩,
  ⟨(some 12), (.bin .sub (.t 11) (.v (.int .i64 1))), none⟩,
  ⟨(some 4), (.mv (.t 12)), none⟩]
def q_word_Get_L6 : ACode := (.seq (.seq (.region q_word_Get_3) (.cond (.t 10) .skip (.exit 0))) (.seq (.block 1 (.region q_word_Get_4)) (.region q_word_Get_5)))
def q_word_Get_6 : List AOper := [
  ⟨(some 21), (.mv (.t 3)), none⟩,
  ⟨(some 2), (.mv (.t 21)), none⟩]
def a_word_Get : AFunc := ⟨[(.tmp 2)], (.seq (.region q_word_Get_0) (.seq (.region q_word_Get_1) (.seq (.seq (.region q_word_Get_2) (.block 0 (.loop q_word_Get_L6))) (.seq (.region q_word_Get_6) .ret))))⟩

def q_word_Put_0 : List AOper := [
  ⟨(some 4), (.mv (.v .nilS)), none⟩]
def q_word_Put_1 : List AOper := [
  ⟨(some 7), (.mv (.t 1)), none⟩,
  ⟨(some 8), (.xx (.p (.mnI true)) [(.t 7), (.v (.int .i64 0))]), none⟩,
  ⟨(some 9), (.mkI 5 .u8 1 (.t 8) (.t 8)), none⟩,
  ⟨(some 5), (.mv (.t 9)), none⟩]
def q_word_Put_2 : List AOper := [
  ⟨(some 10), (.mv (.t 5)), none⟩,
  ⟨(some 11), (.len false (.t 10)), none⟩,
  ⟨(some 12), (.mv (.v (.int .i64 0))), none⟩]
def q_word_Put_3 : List AOper := [
  ⟨(some 13), (.bin .lss (.t 12) (.t 11)), none⟩]
def q_word_Put_4 : List AOper := [
  ⟨(some 14), (.mv (.t 12)), none⟩,
  ⟨(some 6), (.mv (.t 14)), none⟩]
def q_word_Put_5 : List AOper := [
  ⟨(some 15), (.mv (.t 6)), none⟩,
  ⟨(some 16), (.bin .lss (.t 15) (.v (.int .i64 8))), none⟩]
def q_word_Put_6 : List AOper := [
  ⟨(some 17), (.mv (.t 5)), none⟩,
  ⟨(some 18), (.mv (.t 6)), none⟩,
  ⟨(some 19), (.mv (.t 0)), none⟩,
  ⟨(some 20), (.mv (.t 6)), none⟩,
  ⟨(some 21), (.bin .mul (.v (.int .i64 8)) (.t 20)), none⟩,
  ⟨(some 22), (.bin .shr (.t 19) (.t 21)), none⟩,
  ⟨(some 23), (.conv .u8 (.t 22)), none⟩,
  ⟨(some 24), (.idx 1 (.t 17) (.t 18)), none⟩,
  ⟨none, (.store .sc 1 (.t 24) (.t 23)), none⟩]
def q_word_Put_7 : List AOper := [
  ⟨(some 25), (.bin .add (.t 12) (.v (.int .i64 1))), none⟩,
  ⟨(some 12), (.mv (.t 25)), none⟩]
def q_word_Put_L8 : ACode := (.seq (.region q_word_Put_3) (.seq (.cond (.t 13) .skip (.exit 0)) (.seq (.block 1 (.seq (.region q_word_Put_4) (.seq (.region q_word_Put_5) (.cond (.t 16) (.region q_word_Put_6) .skip)))) (.region q_word_Put_7))))
def q_word_Put_8 : List AOper := [
  ⟨(some 26), (.mv (.t 5)), none⟩,
  ⟨(some 4), (.mv (.t 26)), none⟩]
def a_word_Put : AFunc := ⟨[(.tmp 4)], (.seq (.region q_word_Put_0) (.seq (.region q_word_Put_1) (.seq (.seq (.region q_word_Put_2) (.block 0 (.loop q_word_Put_L8))) (.seq (.region q_word_Put_8) .ret))))⟩

def q_word_Zero_0 : List AOper := [
  ⟨(some 2), (.mv (.v (.bool false))), none⟩]
def q_word_Zero_1 : List AOper := [
  ⟨(some 5), (.mv (.t 0)), none⟩,
  ⟨(some 6), (.len false (.t 5)), none⟩,
  ⟨(some 7), (.mv (.v (.int .i64 0))), none⟩]
def q_word_Zero_2 : List AOper := [
  ⟨(some 8), (.bin .lss (.t 7) (.t 6)), none⟩]
def q_word_Zero_3 : List AOper := [
  ⟨(some 9), (.idx 1 (.t 5) (.t 7)), none⟩,
  ⟨(some 10), (.load .sc 1 (.t 9)), none⟩,
  ⟨(some 4), (.mv (.t 10)), none⟩]
def q_word_Zero_4 : List AOper := [
  ⟨(some 11), (.mv (.t 4)), none⟩,
  ⟨(some 12), (.eq .scI true (.t 11) (.v (.int .u8 0))), none⟩]
def q_word_Zero_5 : List AOper := [
  ⟨(some 2), (.mv (.v (.bool false))), none⟩]
def q_word_Zero_6 : List AOper := [
  ⟨(some 13), (.bin .add (.t 7) (.v (.int .i64 1))), none⟩,
  ⟨(some 7), (.mv (.t 13)), none⟩]
def q_word_Zero_L7 : ACode := (.seq (.region q_word_Zero_2) (.seq (.cond (.t 8) .skip (.exit 0)) (.seq (.block 1 (.seq (.region q_word_Zero_3) (.seq (.region q_word_Zero_4) (.cond (.t 12) (.seq (.region q_word_Zero_5) .ret) .skip)))) (.region q_word_Zero_6))))
def q_word_Zero_7 : List AOper := [
  ⟨(some 2), (.mv (.v (.bool true))), none⟩]
def a_word_Zero : AFunc := ⟨[(.tmp 2)], (.seq (.region q_word_Zero_0) (.seq (.seq (.region q_word_Zero_1) (.block 0 (.loop q_word_Zero_L7))) (.seq (.region q_word_Zero_7) .ret)))⟩

def q_word_Whole_0 : List AOper := [
  ⟨(some 2), (.alloc 23 [(.iarr .u8 256 (List.replicate 256 0))]), none⟩]
def q_word_Whole_1 : List AOper := [
  ⟨(some 3), (.alloc 23 [(.iarr .u8 256 (List.replicate 256 0))]), none⟩]
def q_word_Whole_2 : List AOper := [
  ⟨(some 4), (.slcA 256 (.t 3) none none), none⟩,
  ⟨(some 5), (.mv (.t 0)), none⟩,
  ⟨(some 6), (.xx (.cpI .u8) [(.t 4), (.t 5)]), none⟩]
def q_word_Whole_3 : List AOper := [
  ⟨(some 7), (.load (.ia .u8 256) 256 (.t 3)), none⟩,
  ⟨none, (.store (.ia .u8 256) 256 (.t 2) (.t 7)), none⟩]
def a_word_Whole : AFunc := ⟨[(.cell 2 (.ia .u8 256) 256)], (.seq (.region q_word_Whole_0) (.seq (.region q_word_Whole_1) (.seq (.region q_word_Whole_2) (.seq (.region q_word_Whole_3) .ret))))⟩

def q_word_From_0 : List AOper := [
  ⟨(some 2), (.mv (.v .nilP)), none⟩]
def q_word_From_1 : List AOper := [
  ⟨(some 3), (.mv (.t 0)), none⟩,
  ⟨(some 4), (.build .ag [.nilS, (.bool false)] [(0, (1, (.t 3)))]), none⟩,
  ⟨(some 5), (.box 174 .ag (.t 4)), none⟩,
  ⟨(some 2), (.mv (.t 5)), none⟩]
def a_word_From : AFunc := ⟨[(.tmp 2)], (.seq (.region q_word_From_0) (.seq (.region q_word_From_1) .ret))⟩

def q_Pword_Cursor_Bytes_0 : List AOper := [
  ⟨(some 4), (.mv (.v .nilS)), none⟩]
def q_Pword_Cursor_Bytes_1 : List AOper := [
  ⟨(some 6), (.mv (.t 0)), none⟩,
  ⟨(some 7), (.xx (.p .nilCk) [(.t 6)]), none⟩,
  ⟨(some 8), (.fadr 1 1 .sc (.t 7)), none⟩,
  ⟨(some 9), (.load .sc 1 (.t 8)), none⟩,
  ⟨(some 10), (.mv (.t 9)), none⟩,
  ⟨(some 11), (.mv (.t 1)), (some (10, false))⟩,
  ⟨(some 12), (.bin .lss (.t 11) (.v (.int .i64 0))), (some (10, false))⟩,
  ⟨(some 13), (.pick (.t 10) (.v (.bool true)) (.t 12)), none⟩,
  ⟨(some 14), (.mv (.t 13)), none⟩,
  ⟨(some 15), (.mv (.t 1)), (some (14, false))⟩,
  ⟨(some 16), (.mv (.t 0)), (some (14, false))⟩,
  ⟨(some 17), (.xx (.p .nilCk) [(.t 16)]), (some (14, false))⟩,
  ⟨(some 18), (.fadr 0 1 .sc (.t 17)), (some (14, false))⟩,
  ⟨(some 19), (.load .sc 1 (.t 18)), (some (14, false))⟩,
  ⟨(some 20), (.len false (.t 19)), (some (14, false))⟩,
  ⟨(some 21), (.bin .gtr (.t 15) (.t 20)), (some (14, false))⟩,
  ⟨(some 22), (.pick (.t 14) (.v (.bool true)) (.t 21)), none⟩]
def q_Pword_Cursor_Bytes_2 : List AOper := [
  ⟨(some 23), (.mv (.t 0)), none⟩,
  ⟨(some 24), (.xx (.p .nilCk) [(.t 23)]), none⟩,
  ⟨(some 25), (.fadr 1 1 .sc (.t 24)), none⟩,
  ⟨none, (.store .sc 1 (.t 25) (.v (.bool true))), none⟩]
def q_Pword_Cursor_Bytes_3 : List AOper := [
  ⟨(some 26), (.mv (.t 1)), none⟩,
  ⟨(some 27), (.xx (.p (.mnI true)) [(.t 26), (.v (.int .i64 0))]), none⟩,
  ⟨(some 28), (.xx (.p (.mnI false)) [(.t 27), (.v (.int .i64 256))]), none⟩,
  ⟨(some 29), (.mkI 5 .u8 1 (.t 28) (.t 28)), none⟩,
  ⟨(some 4), (.mv (.t 29)), none⟩]
def q_Pword_Cursor_Bytes_4 : List AOper := [
  ⟨(some 30), (.mv (.t 1)), none⟩,
  ⟨(some 31), (.mkI 5 .u8 1 (.t 30) (.t 30)), none⟩,
  ⟨(some 5), (.mv (.t 31)), none⟩]
def q_Pword_Cursor_Bytes_5 : List AOper := [
  ⟨(some 32), (.mv (.t 5)), none⟩,
  ⟨(some 33), (.mv (.t 0)), none⟩,
  ⟨(some 34), (.xx (.p .nilCk) [(.t 33)]), none⟩,
  ⟨(some 35), (.fadr 0 1 .sc (.t 34)), none⟩,
  ⟨(some 36), (.load .sc 1 (.t 35)), none⟩,
  ⟨(some 37), (.xx (.cpI .u8) [(.t 32), (.t 36)]), none⟩]
def q_Pword_Cursor_Bytes_6 : List AOper := [
  ⟨(some 38), (.mv (.t 0)), none⟩,
  ⟨(some 39), (.mv (.t 0)), none⟩,
  ⟨(some 40), (.xx (.p .nilCk) [(.t 39)]), none⟩,
  ⟨(some 41), (.fadr 0 1 .sc (.t 40)), none⟩,
  ⟨(some 42), (.load .sc 1 (.t 41)), none⟩,
  ⟨(some 43), (.mv (.t 1)), none⟩,
  ⟨(some 44), (.slc 1 (.t 42) (some (.t 43)) none), none⟩,
  ⟨(some 45), (.xx (.p .nilCk) [(.t 38)]), none⟩,
  ⟨(some 46), (.fadr 0 1 .sc (.t 45)), none⟩,
  ⟨none, (.store .sc 1 (.t 46) (.t 44)), none⟩]
def q_Pword_Cursor_Bytes_7 : List AOper := [
  ⟨(some 47), (.mv (.t 5)), none⟩,
  ⟨(some 4), (.mv (.t 47)), none⟩]
def a_Pword_Cursor_Bytes : AFunc := ⟨[(.tmp 4)], (.seq (.region q_Pword_Cursor_Bytes_0) (.seq (.seq (.region q_Pword_Cursor_Bytes_1) (.cond (.t 22) (.seq (.region q_Pword_Cursor_Bytes_2) (.seq (.region q_Pword_Cursor_Bytes_3) .ret)) .skip)) (.seq (.region q_Pword_Cursor_Bytes_4) (.seq (.region q_Pword_Cursor_Bytes_5) (.seq (.region q_Pword_Cursor_Bytes_6) (.seq (.region q_Pword_Cursor_Bytes_7) .ret))))))⟩

def q_Pword_Cursor_Num_0 : List AOper := [
  ⟨(some 4), (.mv (.v (.int .u64 0))), none⟩]
def q_Pword_Cursor_Num_1 : List AOper := [
  ⟨(some 5), (.mv (.t 0)), none⟩,
  ⟨(some 6), (.mv (.t 1)), none⟩,
  ⟨(some 7), (.call F_Pword_Cursor_Bytes [(.sc, (.t 5)), (.sc, (.t 6))]), none⟩,
  ⟨(some 8), (.call F_word_Get [(.sc, (.t 7))]), none⟩,
  ⟨(some 4), (.mv (.t 8)), none⟩]
def a_Pword_Cursor_Num : AFunc := ⟨[(.tmp 4)], (.seq (.region q_Pword_Cursor_Num_0) (.seq (.region q_Pword_Cursor_Num_1) .ret))⟩

def q_Pword_Cursor_Rest_0 : List AOper := [
  ⟨(some 2), (.mv (.v (.bool false))), none⟩]
def q_Pword_Cursor_Rest_1 : List AOper := [
  ⟨(some 3), (.mv (.t 0)), none⟩,
  ⟨(some 4), (.xx (.p .nilCk) [(.t 3)]), none⟩,
  ⟨(some 5), (.fadr 1 1 .sc (.t 4)), none⟩,
  ⟨(some 6), (.load .sc 1 (.t 5)), none⟩,
  ⟨(some 7), (.un .not (.t 6)), none⟩,
  ⟨(some 8), (.mv (.t 7)), none⟩,
  ⟨(some 9), (.mv (.t 0)), (some (8, true))⟩,
  ⟨(some 10), (.xx (.p .nilCk) [(.t 9)]), (some (8, true))⟩,
  ⟨(some 11), (.fadr 0 1 .sc (.t 10)), (some (8, true))⟩,
  ⟨(some 12), (.load .sc 1 (.t 11)), (some (8, true))⟩,
  ⟨(some 13), (.call F_word_Zero [(.sc, (.t 12))]), (some (8, true))⟩,
  ⟨(some 14), (.pick (.t 8) (.t 13) (.v (.bool false))), none⟩,
  ⟨(some 2), (.mv (.t 14)), none⟩]
def a_Pword_Cursor_Rest : AFunc := ⟨[(.tmp 2)], (.seq (.region q_Pword_Cursor_Rest_0) (.seq (.region q_Pword_Cursor_Rest_1) .ret))⟩

def q_ref01_Put_0 : List AOper := [
  ⟨(some 4), (.mv (.v .nilS)), none⟩]
def q_ref01_Put_1 : List AOper := [
  ⟨(some 6), (.mv (.t 1)), none⟩,
  ⟨(some 7), (.bin .leq (.t 6) (.v (.int .i64 0))), none⟩]
def q_ref01_Put_2 : List AOper := [
  ⟨(some 4), (.mv (.v .nilS)), none⟩]
def q_ref01_Put_3 : List AOper := [
  ⟨(some 8), (.mv (.t 0)), none⟩,
  ⟨(some 9), (.bin .rem (.t 8) (.v (.int .u64 256))), none⟩,
  ⟨(some 10), (.conv .u8 (.t 9)), none⟩,
  ⟨(some 11), (.bslI 5 .u8 [(.t 10)]), none⟩,
  ⟨(some 5), (.mv (.t 11)), none⟩]
def q_ref01_Put_4 : List AOper := [
  ⟨(some 12), (.mv (.t 5)), none⟩,
  ⟨(some 13), (.mv (.t 0)), none⟩,
  ⟨(some 14), (.bin .quo (.t 13) (.v (.int .u64 256))), none⟩,
  ⟨(some 15), (.mv (.t 1)), none⟩,
  ⟨(some 16), (.bin .sub (.t 15) (.v (.int .i64 1))), none⟩,
  ⟨(some 17), (.call F_ref01_Put [(.sc, (.t 14)), (.sc, (.t 16))]), none⟩,
  ⟨(some 18), (.appI 5 .u8 1 (.t 12) (.t 17)), none⟩,
  ⟨(some 4), (.mv (.t 18)), none⟩]
def a_ref01_Put : AFunc := ⟨[(.tmp 4)], (.seq (.region q_ref01_Put_0) (.seq (.seq (.region q_ref01_Put_1) (.cond (.t 7) (.seq (.region q_ref01_Put_2) .ret) .skip)) (.seq (.region q_ref01_Put_3) (.seq (.region q_ref01_Put_4) .ret))))⟩

def q_ref01_Get_0 : List AOper := [
  ⟨(some 2), (.mv (.v (.int .u64 0))), none⟩]
def q_ref01_Get_1 : List AOper := [
  ⟨(some 3), (.mv (.t 0)), none⟩,
  ⟨(some 4), (.len false (.t 3)), none⟩,
  ⟨(some 5), (.eq .scI false (.t 4) (.v (.int .i64 0))), none⟩]
def q_ref01_Get_2 : List AOper := [
  ⟨(some 2), (.mv (.v (.int .u64 0))), none⟩]
def q_ref01_Get_3 : List AOper := [
  ⟨(some 6), (.mv (.t 0)), none⟩,
  ⟨(some 7), (.len false (.t 6)), none⟩,
  ⟨(some 8), (.bin .gtr (.t 7) (.v (.int .i64 8))), none⟩]
def q_ref01_Get_4 : List AOper := [
  ⟨(some 9), (.mv (.t 0)), none⟩,
  ⟨(some 10), (.slc 1 (.t 9) none (some (.v (.int .i64 8)))), none⟩,
  ⟨(some 11), (.call F_ref01_Get [(.sc, (.t 10))]), none⟩,
  ⟨(some 2), (.mv (.t 11)), none⟩]
def q_ref01_Get_5 : List DOp := [
  ⟨⟨(some 12), (.mv (.t 0)), none⟩, true, false, none, []⟩,
  ⟨⟨(some 13), (.idx 1 (.t 12) (.v (.int .i64 0))), none⟩, true, false, none, []⟩,
  ⟨⟨(some 14), (.load .sc 1 (.t 13)), none⟩, true, false, none, []⟩,
  ⟨⟨(some 15), (.conv .u64 (.t 14)), none⟩, true, false, none, []⟩,
  ⟨⟨(some 16), (.mv (.t 0)), none⟩, true, false, none, []⟩,
  ⟨⟨(some 17), (.slc 1 (.t 16) (some (.v (.int .i64 1))) none), none⟩, true, false, none, []⟩,
  ⟨⟨(some 18), (.call F_ref01_Get [(.sc, (.t 17))]), none⟩, false, true, (some [13, 12]), []⟩,
  ⟨⟨(some 19), (.bin .mul (.v (.int .u64 256)) (.t 18)), none⟩, true, false, none, []⟩,
  ⟨⟨(some 20), (.bin .add (.t 15) (.t 19)), none⟩, true, false, none, []⟩,
  ⟨⟨(some 2), (.mv (.t 20)), none⟩, true, false, none, []⟩]
def a_ref01_Get : AFunc := ⟨[(.tmp 2)], (.seq (.region q_ref01_Get_0) (.seq (.seq (.region q_ref01_Get_1) (.cond (.t 5) (.seq (.region q_ref01_Get_2) .ret) .skip)) (.seq (.seq (.region q_ref01_Get_3) (.cond (.t 8) (.seq (.region q_ref01_Get_4) .ret) .skip)) (.seq (.regionD q_ref01_Get_5) .ret))))⟩

def q_ref01_Same_0 : List AOper := [
  ⟨(some 4), (.mv (.v (.bool false))), none⟩]
def q_ref01_Same_1 : List AOper := [
  ⟨(some 5), (.mv (.t 0)), none⟩,
  ⟨(some 6), (.xx .bstr [(.t 5)]), none⟩,
  ⟨(some 7), (.mv (.t 1)), none⟩,
  ⟨(some 8), (.xx .bstr [(.t 7)]), none⟩,
  ⟨(some 9), (.eq .scS false (.t 6) (.t 8)), none⟩,
  ⟨(some 4), (.mv (.t 9)), none⟩]
def a_ref01_Same : AFunc := ⟨[(.tmp 4)], (.seq (.region q_ref01_Same_0) (.seq (.region q_ref01_Same_1) .ret))⟩


theorem c_word_Get : trF Try.prog Try.f124 = some a_word_Get := by kernel_rfl
theorem g_word_Get : Try.prog.funcs[124]? = some Try.f124 := by kernel_rfl
theorem v_word_Get {args : List AV} {v : AV} (hn : args.length ≤ 22) (h : X Try.prog (fin a_word_Get.res v) a_word_Get.body .done (env0 args) H0) : Gives Try.prog F_word_Get args v :=
  Gives_intro g_word_Get c_word_Get (by rw [Try.ntmps124]; exact hn) h
@[simp] theorem k_word_Get : callable Try.prog F_word_Get = true := by kernel_rfl
theorem c_word_Put : trF Try.prog Try.f74 = some a_word_Put := by kernel_rfl
theorem g_word_Put : Try.prog.funcs[74]? = some Try.f74 := by kernel_rfl
theorem i_word_Put {args : List AV} {A : Heap} {Ko : AOut → Heap → Prop} (hn : args.length ≤ 27)
    (h : ∀ R : APost, (∀ e env A, fpost a_word_Put.res Ko e env A → R e env A) → X Try.prog R a_word_Put.body .done (env0 args) A) : SimX Try.prog F_word_Put args A Ko :=
  X_intro g_word_Put c_word_Put (by rw [Try.ntmps74]; exact hn) h
@[simp] theorem k_word_Put : callable Try.prog F_word_Put = true := by kernel_rfl
theorem c_word_Zero : trF Try.prog Try.f131 = some a_word_Zero := by kernel_rfl
theorem g_word_Zero : Try.prog.funcs[131]? = some Try.f131 := by kernel_rfl
theorem v_word_Zero {args : List AV} {v : AV} (hn : args.length ≤ 14) (h : X Try.prog (fin a_word_Zero.res v) a_word_Zero.body .done (env0 args) H0) : Gives Try.prog F_word_Zero args v :=
  Gives_intro g_word_Zero c_word_Zero (by rw [Try.ntmps131]; exact hn) h
@[simp] theorem k_word_Zero : callable Try.prog F_word_Zero = true := by kernel_rfl
theorem c_word_Whole : trF Try.prog Try.f75 = some a_word_Whole := by kernel_rfl
theorem g_word_Whole : Try.prog.funcs[75]? = some Try.f75 := by kernel_rfl
theorem v_word_Whole {args : List AV} {v : AV} (hn : args.length ≤ 8) (h : X Try.prog (fin a_word_Whole.res v) a_word_Whole.body .done (env0 args) H0) : Gives Try.prog F_word_Whole args v :=
  Gives_intro g_word_Whole c_word_Whole (by rw [Try.ntmps75]; exact hn) h
@[simp] theorem k_word_Whole : callable Try.prog F_word_Whole = true := by kernel_rfl
theorem c_word_From : trF Try.prog Try.f80 = some a_word_From := by kernel_rfl
theorem g_word_From : Try.prog.funcs[80]? = some Try.f80 := by kernel_rfl
theorem j_word_From {args : List AV} {A : Heap} {K Kp : AV → Heap → Prop} (hn : args.length ≤ 6) (h : X Try.prog (inl a_word_From.res K Kp) a_word_From.body .done (env0 args) A) : SimX Try.prog F_word_From args A (outK K Kp) :=
  X_inl g_word_From c_word_From (by rw [Try.ntmps80]; exact hn) h
@[simp] theorem k_word_From : callable Try.prog F_word_From = true := by kernel_rfl
theorem c_Pword_Cursor_Bytes : trF Try.prog Try.f81 = some a_Pword_Cursor_Bytes := by kernel_rfl
theorem g_Pword_Cursor_Bytes : Try.prog.funcs[81]? = some Try.f81 := by kernel_rfl
theorem j_Pword_Cursor_Bytes {args : List AV} {A : Heap} {K Kp : AV → Heap → Prop} (hn : args.length ≤ 48) (h : X Try.prog (inl a_Pword_Cursor_Bytes.res K Kp) a_Pword_Cursor_Bytes.body .done (env0 args) A) : SimX Try.prog F_Pword_Cursor_Bytes args A (outK K Kp) :=
  X_inl g_Pword_Cursor_Bytes c_Pword_Cursor_Bytes (by rw [Try.ntmps81]; exact hn) h
@[simp] theorem k_Pword_Cursor_Bytes : callable Try.prog F_Pword_Cursor_Bytes = true := by kernel_rfl
theorem c_Pword_Cursor_Num : trF Try.prog Try.f82 = some a_Pword_Cursor_Num := by kernel_rfl
theorem g_Pword_Cursor_Num : Try.prog.funcs[82]? = some Try.f82 := by kernel_rfl
theorem j_Pword_Cursor_Num {args : List AV} {A : Heap} {K Kp : AV → Heap → Prop} (hn : args.length ≤ 9) (h : X Try.prog (inl a_Pword_Cursor_Num.res K Kp) a_Pword_Cursor_Num.body .done (env0 args) A) : SimX Try.prog F_Pword_Cursor_Num args A (outK K Kp) :=
  X_inl g_Pword_Cursor_Num c_Pword_Cursor_Num (by rw [Try.ntmps82]; exact hn) h
@[simp] theorem k_Pword_Cursor_Num : callable Try.prog F_Pword_Cursor_Num = true := by kernel_rfl
theorem c_Pword_Cursor_Rest : trF Try.prog Try.f83 = some a_Pword_Cursor_Rest := by kernel_rfl
theorem g_Pword_Cursor_Rest : Try.prog.funcs[83]? = some Try.f83 := by kernel_rfl
theorem j_Pword_Cursor_Rest {args : List AV} {A : Heap} {K Kp : AV → Heap → Prop} (hn : args.length ≤ 15) (h : X Try.prog (inl a_Pword_Cursor_Rest.res K Kp) a_Pword_Cursor_Rest.body .done (env0 args) A) : SimX Try.prog F_Pword_Cursor_Rest args A (outK K Kp) :=
  X_inl g_Pword_Cursor_Rest c_Pword_Cursor_Rest (by rw [Try.ntmps83]; exact hn) h
@[simp] theorem k_Pword_Cursor_Rest : callable Try.prog F_Pword_Cursor_Rest = true := by kernel_rfl
theorem c_ref01_Put : trF Try.prog Try.f77 = some a_ref01_Put := by kernel_rfl
theorem g_ref01_Put : Try.prog.funcs[77]? = some Try.f77 := by kernel_rfl
theorem i_ref01_Put {args : List AV} {A : Heap} {Ko : AOut → Heap → Prop} (hn : args.length ≤ 19)
    (h : ∀ R : APost, (∀ e env A, fpost a_ref01_Put.res Ko e env A → R e env A) → X Try.prog R a_ref01_Put.body .done (env0 args) A) : SimX Try.prog F_ref01_Put args A Ko :=
  X_intro g_ref01_Put c_ref01_Put (by rw [Try.ntmps77]; exact hn) h
@[simp] theorem k_ref01_Put : callable Try.prog F_ref01_Put = true := by kernel_rfl
theorem c_ref01_Get : trF Try.prog Try.f84 = some a_ref01_Get := by kernel_rfl
theorem g_ref01_Get : Try.prog.funcs[84]? = some Try.f84 := by kernel_rfl
theorem v_ref01_Get {args : List AV} {v : AV} (hn : args.length ≤ 21) (h : X Try.prog (fin a_ref01_Get.res v) a_ref01_Get.body .done (env0 args) H0) : Gives Try.prog F_ref01_Get args v :=
  Gives_intro g_ref01_Get c_ref01_Get (by rw [Try.ntmps84]; exact hn) h
@[simp] theorem k_ref01_Get : callable Try.prog F_ref01_Get = true := by kernel_rfl
theorem c_ref01_Same : trF Try.prog Try.f20 = some a_ref01_Same := by kernel_rfl
theorem g_ref01_Same : Try.prog.funcs[20]? = some Try.f20 := by kernel_rfl
theorem v_ref01_Same {args : List AV} {v : AV} (hn : args.length ≤ 10) (h : X Try.prog (fin a_ref01_Same.res v) a_ref01_Same.body .done (env0 args) H0) : Gives Try.prog F_ref01_Same args v :=
  Gives_intro g_ref01_Same c_ref01_Same (by rw [Try.ntmps20]; exact hn) h
@[simp] theorem k_ref01_Same : callable Try.prog F_ref01_Same = true := by kernel_rfl
end Go.Proofs.Ytkmlndihdcplfaa

/- Words: numbers as bytes; the walks of word.Put, word.Get, the reference's Put and Same. -/
namespace Go.Proofs.Ytkmlndihdcplfaa
open Go AVL
attribute [-simp] AV.isAgg aappI aapp alen
set_option linter.unusedVariables false
set_option linter.unusedSimpArgs false

def Bytes (l : List Nat) : Prop := ∀ x ∈ l, x < 256
theorem bytes_take {l : List Nat} (h : Bytes l) (n : Nat) : Bytes (l.take n) := fun x hx => h x (List.mem_of_mem_take hx)
theorem bytes_drop {l : List Nat} (h : Bytes l) (n : Nat) : Bytes (l.drop n) := fun x hx => h x (List.mem_of_mem_drop hx)
theorem bytes_append {a b : List Nat} (ha : Bytes a) (hb : Bytes b) : Bytes (a ++ b) := fun x hx => (List.mem_append.1 hx).elim (ha x) (hb x)
def leN : List Nat → Nat
  | [] => 0
  | c :: r => c + 256 * leN r
theorem leN_lt : ∀ (l : List Nat), Bytes l → leN l < 256 ^ l.length
  | [], _ => by simp [leN]
  | c :: r, h => by
    have h1 := leN_lt r fun x hx => h x (by simp [hx])
    have h2 := h c (by simp)
    simp only [leN, List.length_cons, Nat.pow_succ]
    omega
theorem leN_lt8 {l : List Nat} (h : Bytes l) (hl : l.length ≤ 8) : leN l < 2 ^ 64 := by
  have h1 := leN_lt l h
  have : 256 ^ l.length ≤ 256 ^ 8 := Nat.pow_le_pow_right (by decide) hl
  omega
theorem strOf_inj {a b : List Nat} (ha : Bytes a) (hb : Bytes b) : (strOf (ints a) = strOf (ints b)) = (a = b) := by
  apply propext
  constructor
  · intro h
    have key : ∀ {x : List Nat}, Bytes x → (strOf (ints x)).data.toList.map UInt8.toNat = x := by
      intro x hx
      simp only [strOf, ints, List.map_map]
      rw [List.map_congr_left (g := id) (fun n hn => by
        have := hx n hn
        simp [UInt8.toNat_ofNat', Nat.mod_eq_of_lt this])]
      simp
    rw [← key ha, ← key hb, h]
  · rintro rfl; rfl
theorem shl8_or (n b : Nat) (hb : b < 256) : n * 256 ||| b = b + 256 * n := by
  have := Nat.two_pow_add_eq_or_of_lt (i := 8) (b := b) (by omega) n
  rw [Nat.mul_comm n 256]; simp only [show (2 : Nat) ^ 8 = 256 from rfl] at this; omega
theorem w_word_Get (l : List Nat) (hl : Bytes l) (h8 : l.length ≤ 8) : Gives Try.prog F_word_Get [.isl .u8 (ints l)] (.int .u64 (leN l)) := by
  refine v_word_Get (by simp) ?_
  simp -implicitDefEqProofs [a_word_Get, q_word_Get_0, q_word_Get_1, q_word_Get_2]
  refine X_lp (fun (k : Nat) env A => k ≤ l.length ∧ env 0 = .isl .u8 (ints l) ∧ env 3 = .int .u64 (leN (l.drop k)) ∧ env 4 = .int .i64 ((k : Int) - 1)) (fun k => k) l.length ⟨Nat.le_refl _, by simp, by simp [leN], ?_⟩ ?_
  · simp
    rw [wrap_i64 (by split <;> omega)]
    split <;> omega
  rintro k env A ⟨h1, h2, h3, h4⟩
  simp -implicitDefEqProofs (disch := first | omega | simp) [q_word_Get_L6, q_word_Get_3, q_word_Get_6, h2, h3, h4]
  refine ⟨fun hk => ?_, fun hk => ?_⟩
  · have hk1 : k - 1 < l.length := by omega
    have eto : ((k : Int) - 1).toNat = k - 1 := by omega
    have hd : l.drop (k - 1) = l[k - 1] :: l.drop k := by
      rw [List.drop_eq_getElem_cons hk1]; congr 2; omega
    have hb := hl _ (List.getElem_mem hk1)
    have hn8 := leN_lt8 (bytes_drop hl (k - 1)) (by simp; omega)
    rw [hd] at hn8
    simp only [leN] at hn8
    have e1 : shlI .u64 ((leN (l.drop k) : Nat) : Int) 8 = ((leN (l.drop k) * 256 : Nat) : Int) := by
      simp only [shlI]
      have : (2 : Int) ^ min (Int.toNat 8) IntKind.u64.bits = 256 := by decide
      rw [this, wrap_u64 (by omega)]; omega
    have e2 : IntKind.u64.wrap ((l[k - 1] : Nat) : Int) = ((l[k - 1] : Nat) : Int) := wrap_u64 (by omega)
    have e3 : bOr .u64 ((leN (l.drop k) * 256 : Nat) : Int) ((l[k - 1] : Nat) : Int) = ((leN (l.drop (k - 1)) : Nat) : Int) := by
      rw [bOr_nat rfl (show leN (l.drop k) * 256 < 2 ^ 64 by omega) (show l[k - 1] < 2 ^ 64 by omega), shl8_or _ _ hb, hd, leN]
    have hs : IntKind.u64.signed = false := rfl
    simp -implicitDefEqProofs (disch := first | omega | simp) [q_word_Get_4, q_word_Get_5, h2, h3, h4, eto, hk1, e1, hs]
    rw [Int.natCast_mul] at e3
    refine ⟨by omega, by omega, lp_next (k - 1) ⟨by omega, by simp [h2], ?_, ?_⟩ (by omega)⟩
    · simp only [upd]
      simp
      rw [e2]; exact e3
    · simp
      rw [wrap_i64 (by omega)]; omega
  · have : k = 0 := by omega
    subst this
    simp
/-- A number's bytes, the lowest first. -/
def le : Nat → Nat → List Nat
  | 0, _ => []
  | m + 1, n => n % 256 :: le m (n / 256)
@[simp] theorem le_length : ∀ m n, (le m n).length = m
  | 0, _ => rfl
  | m + 1, n => by simp [le, le_length m]
theorem le_bytes : ∀ m n, Bytes (le m n)
  | 0, _ => by simp [le, Bytes]
  | m + 1, n => by
    intro x hx
    rcases List.mem_cons.1 hx with rfl | hx
    · exact Nat.mod_lt _ (by decide)
    · exact le_bytes m _ x hx
theorem le_get : ∀ (m n i : Nat) (h : i < (le m n).length), (le m n)[i] = n / 256 ^ i % 256
  | 0, n, i, h => by simp at h
  | m + 1, n, 0, h => by simp [le]
  | m + 1, n, i + 1, h => by
    simp only [le, List.getElem_cons_succ]
    rw [le_get m (n / 256) i (by simpa [le] using h), Nat.div_div_eq_div_mul, Nat.pow_succ, Nat.mul_comm]
theorem leN_le : ∀ (m n : Nat), n < 256 ^ m → leN (le m n) = n
  | 0, n, h => by simp at h; subst h; rfl
  | m + 1, n, h => by
    rw [Nat.pow_succ] at h
    simp only [le, leN, leN_le m (n / 256) (by omega)]
    omega
theorem le_leN : ∀ (l : List Nat), Bytes l → le l.length (leN l) = l
  | [], _ => rfl
  | c :: r, h => by
    have hc := h c (by simp)
    have hr := le_leN r fun x hx => h x (by simp [hx])
    simp only [List.length_cons, le, leN]
    rw [show (c + 256 * leN r) % 256 = c by omega, show (c + 256 * leN r) / 256 = leN r by omega, hr]
theorem fill_set {l : List Nat} {i : Nat} (h : i < l.length) : (l.take i ++ List.replicate (l.length - i) 0).set i l[i] = l.take (i + 1) ++ List.replicate (l.length - (i + 1)) 0 := by
  rw [show l.length - i = (l.length - (i + 1)) + 1 by omega, List.replicate_succ, List.set_append_right _ _ (by simp; omega), List.length_take, show i - min i l.length = 0 by omega]
  simp only [List.set_cons_zero]
  rw [List.take_succ_eq_append_getElem h, List.append_assoc]; rfl
theorem w_word_Put {n m : Nat} (hn : n < 2 ^ 64) (hm : m ≤ 8) : Makes Try.prog F_word_Put [.int .u64 n, .int .i64 m] m (.irow T_uint8 .u8 (ints (le m n))) := by
  refine i_word_Put (by simp) fun R hR => ?_
  simp -implicitDefEqProofs (disch := first | omega | simp) [a_word_Put, q_word_Put_0, q_word_Put_1, q_word_Put_2]
  have hmx : (if (m : Int) < 0 then (0 : Int) else m) = m := by split <;> omega
  rw [hmx]
  refine ⟨by omega, by omega, fun g => ?_⟩
  have h0 : List.replicate (m : Int).toNat (0 : Int) = ints ((le m n).take 0 ++ List.replicate ((le m n).length - 0) 0) := by simp [ints]
  rw [h0]
  refine X_lp (fun (i : Nat) env B => i ≤ m ∧ env 0 = .int .u64 n ∧ env 5 = .own g 0 m ∧ env 11 = .int .i64 m ∧ env 12 = .int .i64 i ∧ B = H0.set g (.irow T_uint8 .u8 (ints ((le m n).take i ++ List.replicate ((le m n).length - i) 0)))) (fun i => m - i) 0
    ⟨by omega, by simp, by simp, by simp, by simp, rfl⟩ ?_
  rintro i env B ⟨hi, e0, e5, e11, e12, rfl⟩
  simp -implicitDefEqProofs (disch := first | omega | simp) [q_word_Put_L8, q_word_Put_3, q_word_Put_4, q_word_Put_5, q_word_Put_7, q_word_Put_8, e0, e5, e11, e12]
  refine ⟨fun hil => ?_, fun hil => ?_⟩
  · have hlt : i < (le m n).length := by simpa using hil
    obtain ⟨q, hq⟩ : ∃ q : Nat, q = n / 256 ^ i := ⟨_, rfl⟩
    have e1 : shrI .u64 (n : Int) (8 * (i : Int)) = (q : Int) := by
      have : (8 * (i : Int)) = ((8 * i : Nat) : Int) := by omega
      rw [this, shrI_nat, show min (8 * i) IntKind.u64.bits = 8 * i from Nat.min_eq_left (by show 8 * i ≤ 64; omega), Nat.pow_mul, hq]
    have e2 : IntKind.u8.wrap (q : Int) = (((le m n)[i] : Nat) : Int) := by
      rw [wrap_u8m, le_get, hq]; omega
    have e3 : IntKind.i64.wrap (8 * (i : Int)) = 8 * (i : Int) := wrap_i64 (by omega)
    have e4 := fill_set hlt
    simp only [le_length] at e4
    have e5' : (i : Int) < 8 := by omega
    have e6 : ¬ (8 : Int) ≤ i := by omega
    simp -implicitDefEqProofs (disch := first | omega | simp) [q_word_Put_6, e0, e5, e11, e12, e1, e2, e3, hil, e5', e6, e4]
    exact ⟨by omega, lp_next (i + 1) ⟨by omega, by simp [e0], by simp [e5], by simp [e11], by simp [wrap_i64 (show -9223372036854775808 ≤ (i : Int) + 1 ∧ (i : Int) + 1 < 9223372036854775808 by omega)], by simp⟩ (by omega)⟩
  · have hie : i = m := by omega
    refine hR _ _ _ ?_
    simp -implicitDefEqProofs [a_word_Put, fpost, outOf]
    rw [hie]
    simp
    rw [List.take_of_length_le (by simp)]
    exact Sub_refl _
theorem w_ref01_Put : ∀ (m n : Nat), n < 2 ^ 64 → m ≤ 8 → MakesS Try.prog F_ref01_Put [.int .u64 n, .int .i64 m] T_uint8 .u8 (ints (le m n))
  | 0, n, hn, hm => by
    refine i_ref01_Put (by simp) fun R hR => ?_
    simp -implicitDefEqProofs [a_ref01_Put, q_ref01_Put_0, q_ref01_Put_1, q_ref01_Put_2]
    refine hR _ _ _ ?_
    simp -implicitDefEqProofs [a_ref01_Put, fpost, outOf, le]
  | m + 1, n, hn, hm => by
    refine i_ref01_Put (by simp) fun R hR => ?_
    have e0 : ¬ ((m : Int) + 1 ≤ 0) := by omega
    have e1 : IntKind.u8.wrap ((n : Int).tmod 256) = ((n % 256 : Nat) : Int) := by rw [wrap_u8m, Int.tmod_eq_emod_of_nonneg (by omega)]; omega
    have e2 : IntKind.i64.wrap (m : Int) = (m : Int) := wrap_i64 (by omega)
    have e3 : IntKind.u64.wrap ((n : Int) / 256) = ((n / 256 : Nat) : Int) := by rw [wrap_u64 (by omega)]; omega
    have ih := w_ref01_Put m (n / 256) (by omega) (by omega)
    simp -implicitDefEqProofs (disch := first | omega | simp) [a_ref01_Put, q_ref01_Put_0, q_ref01_Put_1, q_ref01_Put_3, q_ref01_Put_4, e0, e1, e2, e3]
    intro g
    refine ih.call (.cons (.refl _) rfl (.cons (.refl _) rfl .nil)) fun v B hB => ?_
    have h1 : SlS T_uint8 .u8 (.own g 0 1) (ints [n % 256]) H0 B := (SlS.one (by simp) (by simp)).mono hB.sub
    simp -implicitDefEqProofs
    refine h1.appS (Sub_refl _) (hB.src (Sub_refl _)) (by simp; omega) fun v' C' h' hag => ?_
    simp -implicitDefEqProofs
    refine hR _ _ _ ?_
    simpa -implicitDefEqProofs [fpost, a_ref01_Put, outOf, hag, le] using h'.fin
def il (l : List Nat) : AV := .isl .u8 (ints l)
end Go.Proofs.Ytkmlndihdcplfaa

/- The walk of word.Whole. -/
namespace Go.Proofs.Ytkmlndihdcplfaa
open Go AVL
attribute [-simp] AV.isAgg aappI aapp alen shp good comps
set_option linter.unusedVariables false
set_option linter.unusedSimpArgs false
set_option maxRecDepth 20000

section
variable {A B C : Heap} {K Kp : AV → Heap → Prop} {P : Program}
/-- Bytes as a sector. -/
def whole (b : List Nat) : List Nat := b.take 256 ++ List.replicate (256 - b.length) 0
theorem whole_len (b : List Nat) : (whole b).length = 256 := by simp [whole]; omega
theorem whole_bytes {b : List Nat} (h : Bytes b) : Bytes (whole b) := fun x hx => by
  rcases List.mem_append.1 hx with hx | hx
  · exact h x (List.mem_of_mem_take hx)
  · rw [List.eq_of_mem_replicate hx]; decide
theorem spl_whole (b : List Nat) : spl (List.replicate 256 0) 0 (ints (b.take 256)) = ints (whole b) := by
  have h : 256 - min 256 b.length = 256 - b.length := by omega
  simp -implicitDefEqProofs [spl, whole, ints, h, -List.reduceReplicate]
theorem w_word_Whole {b : List Nat} (hb : Bytes b) : Gives Try.prog F_word_Whole [.isl .u8 (ints b)] (.iarr .u8 256 (ints (whole b))) := by
  refine v_word_Whole (by simp) ?_
  simp -implicitDefEqProofs [a_word_Whole, q_word_Whole_0, q_word_Whole_1, q_word_Whole_2, q_word_Whole_3, acopy, spl_whole, -List.reduceReplicate]
  intro g g1 n1 n2
  simp -implicitDefEqProofs [n1, n2, -List.reduceReplicate]
end
end Go.Proofs.Ytkmlndihdcplfaa

/- Abstract programs; that they are the program's. -/
namespace Go.Proofs.Ytkmlndihdcplfaa
open Go AVL
set_option linter.unusedVariables false
set_option maxRecDepth 20000

def q_crc_Sealed_0 : List AOper := [
  ⟨(some 2), (.mv (.v .nilS)), none⟩]
def q_crc_Sealed_1 : List AOper := [
  ⟨(some 4), (.mv (.t 0)), none⟩,
  ⟨(some 5), (.call F_crc_Of [(.sc, (.t 4))]), none⟩,
  ⟨(some 6), (.call F_crc_Four [(.sc, (.t 5))]), none⟩,
  ⟨(some 3), (.alloc 171 [(.iarr .u8 4 [0, 0, 0, 0])]), none⟩,
  ⟨none, (.store (.ia .u8 4) 4 (.t 3) (.t 6)), none⟩]
def q_crc_Sealed_2 : List DOp := [
  ⟨⟨(some 8), (.mv (.t 0)), none⟩, true, false, none, []⟩,
  ⟨⟨(some 10), (.slcA 4 (.t 3) none none), none⟩, true, false, none, []⟩,
  ⟨⟨(some 7), (.bslI 5 .u8 []), none⟩, false, false, none, []⟩,
  ⟨⟨(some 9), (.appI 5 .u8 1 (.t 7) (.t 8)), none⟩, false, false, none, []⟩,
  ⟨⟨(some 11), (.appI 5 .u8 1 (.t 9) (.t 10)), none⟩, false, false, none, []⟩,
  ⟨⟨(some 2), (.mv (.t 11)), none⟩, true, false, none, []⟩]
def a_crc_Sealed : AFunc := ⟨[(.tmp 2)], (.seq (.region q_crc_Sealed_0) (.seq (.region q_crc_Sealed_1) (.seq (.regionD q_crc_Sealed_2) .ret)))⟩

def q_crc_Holds_0 : List AOper := [
  ⟨(some 2), (.mv (.v (.bool false))), none⟩]
def q_crc_Holds_1 : List AOper := [
  ⟨(some 4), (.mv (.t 0)), none⟩,
  ⟨(some 5), (.len false (.t 4)), none⟩,
  ⟨(some 6), (.bin .sub (.t 5) (.v (.int .i64 4))), none⟩,
  ⟨(some 3), (.mv (.t 6)), none⟩]
def q_crc_Holds_2 : List AOper := [
  ⟨(some 7), (.mv (.t 3)), none⟩,
  ⟨(some 8), (.bin .lss (.t 7) (.v (.int .i64 0))), none⟩]
def q_crc_Holds_3 : List AOper := [
  ⟨(some 2), (.mv (.v (.bool false))), none⟩]
def q_crc_Holds_4 : List DOp := [
  ⟨⟨(some 9), (.mv (.t 0)), none⟩, true, false, none, []⟩,
  ⟨⟨(some 10), (.mv (.t 3)), none⟩, true, false, none, []⟩,
  ⟨⟨(some 11), (.slc 1 (.t 9) none (some (.t 10))), none⟩, true, false, none, []⟩,
  ⟨⟨(some 14), (.mv (.t 0)), none⟩, true, false, none, []⟩,
  ⟨⟨(some 15), (.mv (.t 3)), none⟩, true, false, none, []⟩,
  ⟨⟨(some 16), (.slc 1 (.t 14) (some (.t 15)) none), none⟩, true, false, none, []⟩,
  ⟨⟨(some 17), (.s2a 4 (.t 16)), none⟩, true, false, none, []⟩,
  ⟨⟨(some 18), (.load (.ia .u8 4) 4 (.t 17)), none⟩, true, false, none, []⟩,
  ⟨⟨(some 12), (.call F_crc_Of [(.sc, (.t 11))]), none⟩, false, true, (some [17, 14]), []⟩,
  ⟨⟨(some 13), (.call F_crc_Four [(.sc, (.t 12))]), none⟩, false, true, (some [17, 14]), []⟩,
  ⟨⟨(some 19), (.eq (.ia 4) false (.t 13) (.t 18)), none⟩, true, false, none, []⟩,
  ⟨⟨(some 2), (.mv (.t 19)), none⟩, true, false, none, []⟩]
def a_crc_Holds : AFunc := ⟨[(.tmp 2)], (.seq (.region q_crc_Holds_0) (.seq (.region q_crc_Holds_1) (.seq (.seq (.region q_crc_Holds_2) (.cond (.t 8) (.seq (.region q_crc_Holds_3) .ret) .skip)) (.seq (.regionD q_crc_Holds_4) .ret))))⟩

def q_crc_Four_0 : List AOper := [
  ⟨(some 2), (.alloc 171 [(.iarr .u8 4 [0, 0, 0, 0])]), none⟩]
def q_crc_Four_1 : List AOper := [
  ⟨(some 3), (.mv (.t 0)), none⟩,
  ⟨(some 4), (.conv .u8 (.t 3)), none⟩,
  ⟨(some 5), (.mv (.t 0)), none⟩,
  ⟨(some 6), (.bin .shr (.t 5) (.v (.int .u64 8))), none⟩,
  ⟨(some 7), (.conv .u8 (.t 6)), none⟩,
  ⟨(some 8), (.mv (.t 0)), none⟩,
  ⟨(some 9), (.bin .shr (.t 8) (.v (.int .u64 16))), none⟩,
  ⟨(some 10), (.conv .u8 (.t 9)), none⟩,
  ⟨(some 11), (.mv (.t 0)), none⟩,
  ⟨(some 12), (.bin .shr (.t 11) (.v (.int .u64 24))), none⟩,
  ⟨(some 13), (.conv .u8 (.t 12)), none⟩,
  ⟨(some 14), (.build (.ia .u8 4) [(.iarr .u8 4 [0, 0, 0, 0])] [(0, (1, (.t 4))), (1, (1, (.t 7))), (2, (1, (.t 10))), (3, (1, (.t 13)))]), none⟩,
  ⟨none, (.store (.ia .u8 4) 4 (.t 2) (.t 14)), none⟩]
def a_crc_Four : AFunc := ⟨[(.cell 2 (.ia .u8 4) 4)], (.seq (.region q_crc_Four_0) (.seq (.region q_crc_Four_1) .ret))⟩

def q_crc_Of_0 : List AOper := [
  ⟨(some 2), (.mv (.v (.int .u32 0))), none⟩]
def q_crc_Of_1 : List AOper := [
  ⟨(some 3), (.mv (.t 0)), none⟩,
  ⟨(some 4), (.call F_crc_More [(.sc, (.v (.int .u32 0))), (.sc, (.t 3))]), none⟩,
  ⟨(some 2), (.mv (.t 4)), none⟩]
def a_crc_Of : AFunc := ⟨[(.tmp 2)], (.seq (.region q_crc_Of_0) (.seq (.region q_crc_Of_1) .ret))⟩

def q_crc_More_0 : List AOper := [
  ⟨(some 4), (.mv (.v (.int .u32 0))), none⟩]
def q_crc_More_1 : List AOper := [
  ⟨(some 8), (.mv (.t 0)), none⟩,
  ⟨(some 9), (.un .xor (.t 8)), none⟩,
  ⟨(some 5), (.mv (.t 9)), none⟩]
def q_crc_More_2 : List AOper := [
  ⟨(some 10), (.mv (.t 1)), none⟩,
  ⟨(some 11), (.len false (.t 10)), none⟩,
  ⟨(some 12), (.mv (.v (.int .i64 0))), none⟩]
def q_crc_More_3 : List AOper := [
  ⟨(some 13), (.bin .lss (.t 12) (.t 11)), none⟩]
def q_crc_More_4 : List AOper := [
  ⟨(some 14), (.idx 1 (.t 10) (.t 12)), none⟩,
  ⟨(some 15), (.load .sc 1 (.t 14)), none⟩,
  ⟨(some 7), (.mv (.t 15)), none⟩]
def q_crc_More_5 : List AOper := [
  ⟨(some 16), (.mv (.t 5)), none⟩,
  ⟨(some 17), (.mv (.t 7)), none⟩,
  ⟨(some 18), (.call F_crc_turn [(.sc, (.t 16)), (.sc, (.t 17))]), none⟩,
  ⟨(some 5), (.mv (.t 18)), none⟩]
def q_crc_More_6 : List AOper := [
  ⟨(some 19), (.bin .add (.t 12) (.v (.int .i64 1))), none⟩,
  ⟨(some 12), (.mv (.t 19)), none⟩]
def q_crc_More_L7 : ACode := (.seq (.region q_crc_More_3) (.seq (.cond (.t 13) .skip (.exit 0)) (.seq (.block 1 (.seq (.region q_crc_More_4) (.region q_crc_More_5))) (.region q_crc_More_6))))
def q_crc_More_7 : List AOper := [
  ⟨(some 20), (.mv (.t 5)), none⟩,
  ⟨(some 21), (.un .xor (.t 20)), none⟩,
  ⟨(some 4), (.mv (.t 21)), none⟩]
def a_crc_More : AFunc := ⟨[(.tmp 4)], (.seq (.region q_crc_More_0) (.seq (.region q_crc_More_1) (.seq (.seq (.region q_crc_More_2) (.block 0 (.loop q_crc_More_L7))) (.seq (.region q_crc_More_7) .ret))))⟩

def q_crc_turn_0 : List AOper := [
  ⟨(some 4), (.mv (.v (.int .u32 0))), none⟩]
def q_crc_turn_1 : List AOper := [
  ⟨(some 5), (.mv (.t 0)), none⟩,
  ⟨(some 6), (.mv (.t 1)), none⟩,
  ⟨(some 7), (.conv .u32 (.t 6)), none⟩,
  ⟨(some 8), (.bin .xor (.t 5) (.t 7)), none⟩,
  ⟨(some 0), (.mv (.t 8)), none⟩]
def q_crc_turn_2 : List AOper := [
  ⟨(some 9), (.mv (.v (.int .i64 0))), none⟩]
def q_crc_turn_3 : List AOper := [
  ⟨(some 10), (.bin .lss (.t 9) (.v (.int .i64 8))), none⟩]
def q_crc_turn_4 : List AOper := [
  ⟨(some 11), (.mv (.t 0)), none⟩,
  ⟨(some 12), (.bin .and (.t 11) (.v (.int .u32 1))), none⟩,
  ⟨(some 13), (.eq .scI false (.t 12) (.v (.int .u32 1))), none⟩]
def q_crc_turn_5 : List AOper := [
  ⟨(some 14), (.mv (.t 0)), none⟩,
  ⟨(some 15), (.bin .shr (.t 14) (.v (.int .u64 1))), none⟩,
  ⟨(some 16), (.bin .xor (.t 15) (.v (.int .u32 3988292384))), none⟩,
  ⟨(some 0), (.mv (.t 16)), none⟩]
def q_crc_turn_6 : List AOper := [
  ⟨(some 17), (.mv (.t 0)), none⟩,
  ⟨(some 18), (.bin .shr (.t 17) (.v (.int .u64 1))), none⟩,
  ⟨(some 0), (.mv (.t 18)), none⟩]
def q_crc_turn_7 : List AOper := [
  ⟨(some 19), (.bin .add (.t 9) (.v (.int .i64 1))), none⟩,
  ⟨(some 9), (.mv (.t 19)), none⟩]
def q_crc_turn_L8 : ACode := (.seq (.region q_crc_turn_3) (.seq (.cond (.t 10) .skip (.exit 0)) (.seq (.block 1 (.seq (.region q_crc_turn_4) (.cond (.t 13) (.region q_crc_turn_5) (.region q_crc_turn_6)))) (.region q_crc_turn_7))))
def q_crc_turn_8 : List AOper := [
  ⟨(some 20), (.mv (.t 0)), none⟩,
  ⟨(some 4), (.mv (.t 20)), none⟩]
def a_crc_turn : AFunc := ⟨[(.tmp 4)], (.seq (.region q_crc_turn_0) (.seq (.region q_crc_turn_1) (.seq (.seq (.region q_crc_turn_2) (.block 0 (.loop q_crc_turn_L8))) (.seq (.region q_crc_turn_8) .ret))))⟩

def q_ref02_Of_0 : List AOper := [
  ⟨(some 2), (.mv (.v (.int .u32 0))), none⟩]
def q_ref02_Of_1 : List AOper := [
  ⟨(some 11), (.mv (.t 0)), none⟩,
  ⟨(some 12), (.call F_ref02_bits [(.sc, (.t 11))]), none⟩,
  ⟨(some 13), (.xx (.appZ 5 .u8 1) [(.t 12), (.v (.int .i64 32))]), none⟩,
  ⟨(some 3), (.mv (.t 13)), none⟩]
def q_ref02_Of_2 : List AOper := [
  ⟨(some 4), (.mv (.v (.int .i64 0))), none⟩]
def q_ref02_Of_3 : List AOper := [
  ⟨(some 14), (.mv (.t 4)), none⟩,
  ⟨(some 15), (.bin .lss (.t 14) (.v (.int .i64 32))), none⟩]
def q_ref02_Of_4 : List AOper := [
  ⟨(some 18), (.mv (.t 3)), none⟩,
  ⟨(some 19), (.mv (.t 4)), none⟩,
  ⟨(some 20), (.mv (.t 3)), none⟩,
  ⟨(some 21), (.mv (.t 4)), none⟩,
  ⟨(some 22), (.idx 1 (.t 20) (.t 21)), none⟩,
  ⟨(some 23), (.load .sc 1 (.t 22)), none⟩,
  ⟨(some 24), (.bin .sub (.v (.int .u8 1)) (.t 23)), none⟩,
  ⟨(some 25), (.idx 1 (.t 18) (.t 19)), none⟩,
  ⟨none, (.store .sc 1 (.t 25) (.t 24)), none⟩]
def q_ref02_Of_5 : List AOper := [
  ⟨(some 16), (.mv (.t 4)), none⟩,
  ⟨(some 17), (.bin .add (.t 16) (.v (.int .i64 1))), none⟩,
  ⟨(some 4), (.mv (.t 17)), none⟩]
def q_ref02_Of_L6 : ACode := (.seq (.seq (.region q_ref02_Of_3) (.cond (.t 15) .skip (.exit 0))) (.seq (.block 1 (.region q_ref02_Of_4)) (.region q_ref02_Of_5)))
def q_ref02_Of_6 : List AOper := [
  ⟨(some 26), (.bslI 5 .u8 [(.v (.int .u8 1)), (.v (.int .u8 0)), (.v (.int .u8 0)), (.v (.int .u8 0)), (.v (.int .u8 0)), (.v (.int .u8 0)), (.v (.int .u8 1)), (.v (.int .u8 0)), (.v (.int .u8 0)), (.v (.int .u8 1)), (.v (.int .u8 1)), (.v (.int .u8 0)), (.v (.int .u8 0)), (.v (.int .u8 0)), (.v (.int .u8 0)), (.v (.int .u8 0)), (.v (.int .u8 1)), (.v (.int .u8 0)), (.v (.int .u8 0)), (.v (.int .u8 0)), (.v (.int .u8 1)), (.v (.int .u8 1)), (.v (.int .u8 1)), (.v (.int .u8 0)), (.v (.int .u8 1)), (.v (.int .u8 1)), (.v (.int .u8 0)), (.v (.int .u8 1)), (.v (.int .u8 1)), (.v (.int .u8 0)), (.v (.int .u8 1)), (.v (.int .u8 1)), (.v (.int .u8 1))]), none⟩,
  ⟨(some 5), (.mv (.t 26)), none⟩]
def q_ref02_Of_7 : List AOper := [
  ⟨(some 6), (.mv (.v (.int .i64 0))), none⟩]
def q_ref02_Of_8 : List AOper := [
  ⟨(some 27), (.mv (.t 6)), none⟩,
  ⟨(some 28), (.bin .add (.t 27) (.v (.int .i64 32))), none⟩,
  ⟨(some 29), (.mv (.t 3)), none⟩,
  ⟨(some 30), (.len false (.t 29)), none⟩,
  ⟨(some 31), (.bin .lss (.t 28) (.t 30)), none⟩]
def q_ref02_Of_9 : List AOper := [
  ⟨(some 34), (.mv (.t 3)), none⟩,
  ⟨(some 35), (.mv (.t 6)), none⟩,
  ⟨(some 36), (.idx 1 (.t 34) (.t 35)), none⟩,
  ⟨(some 37), (.load .sc 1 (.t 36)), none⟩,
  ⟨(some 38), (.eq .scI false (.t 37) (.v (.int .u8 1))), none⟩]
def q_ref02_Of_10 : List AOper := [
  ⟨(some 7), (.mv (.v (.int .i64 0))), none⟩]
def q_ref02_Of_11 : List AOper := [
  ⟨(some 39), (.mv (.t 7)), none⟩,
  ⟨(some 40), (.bin .lss (.t 39) (.v (.int .i64 33))), none⟩]
def q_ref02_Of_12 : List DOp := [
  ⟨⟨(some 43), (.mv (.t 3)), none⟩, true, false, none, []⟩,
  ⟨⟨(some 44), (.mv (.t 6)), none⟩, true, false, none, []⟩,
  ⟨⟨(some 45), (.mv (.t 7)), none⟩, true, false, none, []⟩,
  ⟨⟨(some 46), (.bin .add (.t 44) (.t 45)), none⟩, true, false, none, []⟩,
  ⟨⟨(some 47), (.mv (.t 3)), none⟩, true, false, none, []⟩,
  ⟨⟨(some 48), (.mv (.t 6)), none⟩, true, false, none, []⟩,
  ⟨⟨(some 49), (.mv (.t 7)), none⟩, true, false, none, []⟩,
  ⟨⟨(some 50), (.bin .add (.t 48) (.t 49)), none⟩, true, false, none, []⟩,
  ⟨⟨(some 51), (.idx 1 (.t 47) (.t 50)), none⟩, true, false, none, []⟩,
  ⟨⟨(some 52), (.load .sc 1 (.t 51)), none⟩, true, false, none, []⟩,
  ⟨⟨(some 53), (.mv (.t 5)), none⟩, true, false, none, []⟩,
  ⟨⟨(some 54), (.mv (.t 7)), none⟩, true, false, none, []⟩,
  ⟨⟨(some 55), (.idx 1 (.t 53) (.t 54)), none⟩, true, false, none, []⟩,
  ⟨⟨(some 56), (.load .sc 1 (.t 55)), none⟩, true, false, none, []⟩,
  ⟨⟨(some 57), (.bin .xor (.t 52) (.t 56)), none⟩, true, false, none, []⟩,
  ⟨⟨(some 58), (.idx 1 (.t 43) (.t 46)), none⟩, true, false, none, []⟩,
  ⟨⟨none, (.store .sc 1 (.t 58) (.t 57)), none⟩, false, false, none, []⟩]
def q_ref02_Of_13 : List AOper := [
  ⟨(some 41), (.mv (.t 7)), none⟩,
  ⟨(some 42), (.bin .add (.t 41) (.v (.int .i64 1))), none⟩,
  ⟨(some 7), (.mv (.t 42)), none⟩]
def q_ref02_Of_L14 : ACode := (.seq (.seq (.region q_ref02_Of_11) (.cond (.t 40) .skip (.exit 4))) (.seq (.block 5 (.regionD q_ref02_Of_12)) (.region q_ref02_Of_13)))
def q_ref02_Of_14 : List AOper := [
  ⟨(some 32), (.mv (.t 6)), none⟩,
  ⟨(some 33), (.bin .add (.t 32) (.v (.int .i64 1))), none⟩,
  ⟨(some 6), (.mv (.t 33)), none⟩]
def q_ref02_Of_L15 : ACode := (.seq (.seq (.region q_ref02_Of_8) (.cond (.t 31) .skip (.exit 2))) (.seq (.block 3 (.seq (.region q_ref02_Of_9) (.cond (.t 38) (.seq (.region q_ref02_Of_10) (.block 4 (.loop q_ref02_Of_L14))) .skip))) (.region q_ref02_Of_14)))
def q_ref02_Of_15 : List AOper := [
  ⟨(some 8), (.mv (.v (.int .u32 0))), none⟩]
def q_ref02_Of_16 : List AOper := [
  ⟨(some 59), (.mv (.t 3)), none⟩,
  ⟨(some 60), (.len false (.t 59)), none⟩,
  ⟨(some 61), (.bin .sub (.t 60) (.v (.int .i64 32))), none⟩,
  ⟨(some 9), (.mv (.t 61)), none⟩]
def q_ref02_Of_17 : List AOper := [
  ⟨(some 10), (.mv (.v (.int .i64 0))), none⟩]
def q_ref02_Of_18 : List AOper := [
  ⟨(some 62), (.mv (.t 10)), none⟩,
  ⟨(some 63), (.bin .lss (.t 62) (.v (.int .i64 32))), none⟩]
def q_ref02_Of_19 : List AOper := [
  ⟨(some 66), (.mv (.t 8)), none⟩,
  ⟨(some 67), (.mv (.t 3)), none⟩,
  ⟨(some 68), (.mv (.t 9)), none⟩,
  ⟨(some 69), (.mv (.t 10)), none⟩,
  ⟨(some 70), (.bin .add (.t 68) (.t 69)), none⟩,
  ⟨(some 71), (.idx 1 (.t 67) (.t 70)), none⟩,
  ⟨(some 72), (.load .sc 1 (.t 71)), none⟩,
  ⟨(some 73), (.bin .sub (.v (.int .u8 1)) (.t 72)), none⟩,
  ⟨(some 74), (.conv .u32 (.t 73)), none⟩,
  ⟨(some 75), (.mv (.t 10)), none⟩,
  ⟨(some 76), (.conv .u64 (.t 75)), none⟩,
  ⟨(some 77), (.bin .shl (.t 74) (.t 76)), none⟩,
  ⟨(some 78), (.bin .or (.t 66) (.t 77)), none⟩,
  ⟨(some 8), (.mv (.t 78)), none⟩]
def q_ref02_Of_20 : List AOper := [
  ⟨(some 64), (.mv (.t 10)), none⟩,
  ⟨(some 65), (.bin .add (.t 64) (.v (.int .i64 1))), none⟩,
  ⟨(some 10), (.mv (.t 65)), none⟩]
def q_ref02_Of_L21 : ACode := (.seq (.seq (.region q_ref02_Of_18) (.cond (.t 63) .skip (.exit 6))) (.seq (.block 7 (.region q_ref02_Of_19)) (.region q_ref02_Of_20)))
def q_ref02_Of_21 : List AOper := [
  ⟨(some 79), (.mv (.t 8)), none⟩,
  ⟨(some 2), (.mv (.t 79)), none⟩]
def a_ref02_Of : AFunc := ⟨[(.tmp 2)], (.seq (.region q_ref02_Of_0) (.seq (.region q_ref02_Of_1) (.seq (.seq (.region q_ref02_Of_2) (.block 0 (.loop q_ref02_Of_L6))) (.seq (.region q_ref02_Of_6) (.seq (.seq (.region q_ref02_Of_7) (.block 2 (.loop q_ref02_Of_L15))) (.seq (.region q_ref02_Of_15) (.seq (.region q_ref02_Of_16) (.seq (.seq (.region q_ref02_Of_17) (.block 6 (.loop q_ref02_Of_L21))) (.seq (.region q_ref02_Of_21) .ret)))))))))⟩

def q_ref02_bits_0 : List AOper := [
  ⟨(some 2), (.mv (.v .nilS)), none⟩]
def q_ref02_bits_1 : List AOper := [
  ⟨(some 3), (.mv (.v .nilS)), none⟩]
def q_ref02_bits_2 : List AOper := [
  ⟨(some 4), (.mv (.v (.int .i64 0))), none⟩]
def q_ref02_bits_3 : List AOper := [
  ⟨(some 6), (.mv (.t 4)), none⟩,
  ⟨(some 7), (.mv (.t 0)), none⟩,
  ⟨(some 8), (.len false (.t 7)), none⟩,
  ⟨(some 9), (.bin .lss (.t 6) (.t 8)), none⟩]
def q_ref02_bits_4 : List AOper := [
  ⟨(some 5), (.mv (.v (.int .i64 0))), none⟩]
def q_ref02_bits_5 : List AOper := [
  ⟨(some 12), (.mv (.t 5)), none⟩,
  ⟨(some 13), (.bin .lss (.t 12) (.v (.int .i64 8))), none⟩]
def q_ref02_bits_6 : List AOper := [
  ⟨(some 16), (.mv (.t 3)), none⟩,
  ⟨(some 17), (.mv (.t 0)), none⟩,
  ⟨(some 18), (.mv (.t 4)), none⟩,
  ⟨(some 19), (.idx 1 (.t 17) (.t 18)), none⟩,
  ⟨(some 20), (.load .sc 1 (.t 19)), none⟩,
  ⟨(some 21), (.mv (.t 5)), none⟩,
  ⟨(some 22), (.conv .u64 (.t 21)), none⟩,
  ⟨(some 23), (.bin .shr (.t 20) (.t 22)), none⟩,
  ⟨(some 24), (.bin .and (.t 23) (.v (.int .u8 1))), none⟩,
  ⟨(some 25), (.bslI 5 .u8 [(.t 24)]), none⟩,
  ⟨(some 26), (.appI 5 .u8 1 (.t 16) (.t 25)), none⟩,
  ⟨(some 3), (.mv (.t 26)), none⟩]
def q_ref02_bits_7 : List AOper := [
  ⟨(some 14), (.mv (.t 5)), none⟩,
  ⟨(some 15), (.bin .add (.t 14) (.v (.int .i64 1))), none⟩,
  ⟨(some 5), (.mv (.t 15)), none⟩]
def q_ref02_bits_L8 : ACode := (.seq (.seq (.region q_ref02_bits_5) (.cond (.t 13) .skip (.exit 2))) (.seq (.block 3 (.region q_ref02_bits_6)) (.region q_ref02_bits_7)))
def q_ref02_bits_8 : List AOper := [
  ⟨(some 10), (.mv (.t 4)), none⟩,
  ⟨(some 11), (.bin .add (.t 10) (.v (.int .i64 1))), none⟩,
  ⟨(some 4), (.mv (.t 11)), none⟩]
def q_ref02_bits_L9 : ACode := (.seq (.seq (.region q_ref02_bits_3) (.cond (.t 9) .skip (.exit 0))) (.seq (.block 1 (.seq (.region q_ref02_bits_4) (.block 2 (.loop q_ref02_bits_L8)))) (.region q_ref02_bits_8)))
def q_ref02_bits_9 : List AOper := [
  ⟨(some 27), (.mv (.t 3)), none⟩,
  ⟨(some 2), (.mv (.t 27)), none⟩]
def a_ref02_bits : AFunc := ⟨[(.tmp 2)], (.seq (.region q_ref02_bits_0) (.seq (.region q_ref02_bits_1) (.seq (.seq (.region q_ref02_bits_2) (.block 0 (.loop q_ref02_bits_L9))) (.seq (.region q_ref02_bits_9) .ret))))⟩

def q_ref08_Sealed_0 : List AOper := [
  ⟨(some 2), (.alloc 23 [(.iarr .u8 256 (List.replicate 256 0))]), none⟩]
def q_ref08_Sealed_1 : List AOper := [
  ⟨(some 3), (.mv (.v .nilS)), none⟩]
def q_ref08_Sealed_2 : List AOper := [
  ⟨(some 6), (.mv (.t 3)), none⟩,
  ⟨(some 7), (.mv (.t 0)), none⟩,
  ⟨(some 8), (.appI 5 .u8 1 (.t 6) (.t 7)), none⟩,
  ⟨(some 3), (.mv (.t 8)), none⟩]
def q_ref08_Sealed_3 : List AOper := [
  ⟨(some 9), (.mv (.t 3)), none⟩,
  ⟨(some 10), (.len false (.t 9)), none⟩,
  ⟨(some 11), (.bin .lss (.t 10) (.v (.int .i64 252))), none⟩]
def q_ref08_Sealed_4 : List AOper := [
  ⟨(some 12), (.mv (.t 3)), none⟩,
  ⟨(some 13), (.bslI 5 .u8 [(.v (.int .u8 0))]), none⟩,
  ⟨(some 14), (.appI 5 .u8 1 (.t 12) (.t 13)), none⟩,
  ⟨(some 3), (.mv (.t 14)), none⟩]
def q_ref08_Sealed_L5 : ACode := (.seq (.seq (.region q_ref08_Sealed_3) (.cond (.t 11) .skip (.exit 0))) (.block 1 (.region q_ref08_Sealed_4)))
def q_ref08_Sealed_5 : List AOper := [
  ⟨(some 15), (.mv (.t 3)), none⟩,
  ⟨(some 16), (.mv (.t 3)), none⟩,
  ⟨(some 17), (.call F_ref02_Of [(.sc, (.t 16))]), none⟩,
  ⟨(some 18), (.conv .u64 (.t 17)), none⟩,
  ⟨(some 19), (.call F_ref01_Put [(.sc, (.t 18)), (.sc, (.v (.int .i64 4)))]), none⟩,
  ⟨(some 20), (.appI 5 .u8 1 (.t 15) (.t 19)), none⟩,
  ⟨(some 3), (.mv (.t 20)), none⟩]
def q_ref08_Sealed_6 : List AOper := [
  ⟨(some 4), (.alloc 23 [(.iarr .u8 256 (List.replicate 256 0))]), none⟩]
def q_ref08_Sealed_7 : List AOper := [
  ⟨(some 5), (.mv (.v (.int .i64 0))), none⟩]
def q_ref08_Sealed_8 : List AOper := [
  ⟨(some 21), (.mv (.t 5)), none⟩,
  ⟨(some 22), (.bin .lss (.t 21) (.v (.int .i64 256))), none⟩]
def q_ref08_Sealed_9 : List AOper := [
  ⟨(some 25), (.mv (.t 5)), none⟩,
  ⟨(some 26), (.mv (.t 3)), none⟩,
  ⟨(some 27), (.mv (.t 5)), none⟩,
  ⟨(some 28), (.idx 1 (.t 26) (.t 27)), none⟩,
  ⟨(some 29), (.load .sc 1 (.t 28)), none⟩,
  ⟨(some 30), (.idxA 256 1 true (.t 4) (.t 25)), none⟩,
  ⟨none, (.store .sc 1 (.t 30) (.t 29)), none⟩]
def q_ref08_Sealed_10 : List AOper := [
  ⟨(some 23), (.mv (.t 5)), none⟩,
  ⟨(some 24), (.bin .add (.t 23) (.v (.int .i64 1))), none⟩,
  ⟨(some 5), (.mv (.t 24)), none⟩]
def q_ref08_Sealed_L11 : ACode := (.seq (.seq (.region q_ref08_Sealed_8) (.cond (.t 22) .skip (.exit 2))) (.seq (.block 3 (.region q_ref08_Sealed_9)) (.region q_ref08_Sealed_10)))
def q_ref08_Sealed_11 : List AOper := [
  ⟨(some 31), (.load (.ia .u8 256) 256 (.t 4)), none⟩,
  ⟨none, (.store (.ia .u8 256) 256 (.t 2) (.t 31)), none⟩]
def a_ref08_Sealed : AFunc := ⟨[(.cell 2 (.ia .u8 256) 256)], (.seq (.region q_ref08_Sealed_0) (.seq (.region q_ref08_Sealed_1) (.seq (.region q_ref08_Sealed_2) (.seq (.block 0 (.loop q_ref08_Sealed_L5)) (.seq (.region q_ref08_Sealed_5) (.seq (.region q_ref08_Sealed_6) (.seq (.seq (.region q_ref08_Sealed_7) (.block 2 (.loop q_ref08_Sealed_L11))) (.seq (.region q_ref08_Sealed_11) .ret))))))))⟩


theorem c_crc_Sealed : trF Try.prog Try.f76 = some a_crc_Sealed := by kernel_rfl
theorem g_crc_Sealed : Try.prog.funcs[76]? = some Try.f76 := by kernel_rfl
theorem i_crc_Sealed {args : List AV} {A : Heap} {Ko : AOut → Heap → Prop} (hn : args.length ≤ 12)
    (h : ∀ R : APost, (∀ e env A, fpost a_crc_Sealed.res Ko e env A → R e env A) → X Try.prog R a_crc_Sealed.body .done (env0 args) A) : SimX Try.prog F_crc_Sealed args A Ko :=
  X_intro g_crc_Sealed c_crc_Sealed (by rw [Try.ntmps76]; exact hn) h
@[simp] theorem k_crc_Sealed : callable Try.prog F_crc_Sealed = true := by kernel_rfl
theorem c_crc_Holds : trF Try.prog Try.f79 = some a_crc_Holds := by kernel_rfl
theorem g_crc_Holds : Try.prog.funcs[79]? = some Try.f79 := by kernel_rfl
theorem i_crc_Holds {args : List AV} {A : Heap} {Ko : AOut → Heap → Prop} (hn : args.length ≤ 20)
    (h : ∀ R : APost, (∀ e env A, fpost a_crc_Holds.res Ko e env A → R e env A) → X Try.prog R a_crc_Holds.body .done (env0 args) A) : SimX Try.prog F_crc_Holds args A Ko :=
  X_intro g_crc_Holds c_crc_Holds (by rw [Try.ntmps79]; exact hn) h
@[simp] theorem k_crc_Holds : callable Try.prog F_crc_Holds = true := by kernel_rfl
theorem c_crc_Four : trF Try.prog Try.f129 = some a_crc_Four := by kernel_rfl
theorem g_crc_Four : Try.prog.funcs[129]? = some Try.f129 := by kernel_rfl
theorem i_crc_Four {args : List AV} {A : Heap} {Ko : AOut → Heap → Prop} (hn : args.length ≤ 15)
    (h : ∀ R : APost, (∀ e env A, fpost a_crc_Four.res Ko e env A → R e env A) → X Try.prog R a_crc_Four.body .done (env0 args) A) : SimX Try.prog F_crc_Four args A Ko :=
  X_intro g_crc_Four c_crc_Four (by rw [Try.ntmps129]; exact hn) h
@[simp] theorem k_crc_Four : callable Try.prog F_crc_Four = true := by kernel_rfl
theorem c_crc_Of : trF Try.prog Try.f130 = some a_crc_Of := by kernel_rfl
theorem g_crc_Of : Try.prog.funcs[130]? = some Try.f130 := by kernel_rfl
theorem i_crc_Of {args : List AV} {A : Heap} {Ko : AOut → Heap → Prop} (hn : args.length ≤ 5)
    (h : ∀ R : APost, (∀ e env A, fpost a_crc_Of.res Ko e env A → R e env A) → X Try.prog R a_crc_Of.body .done (env0 args) A) : SimX Try.prog F_crc_Of args A Ko :=
  X_intro g_crc_Of c_crc_Of (by rw [Try.ntmps130]; exact hn) h
@[simp] theorem k_crc_Of : callable Try.prog F_crc_Of = true := by kernel_rfl
theorem c_crc_More : trF Try.prog Try.f139 = some a_crc_More := by kernel_rfl
theorem g_crc_More : Try.prog.funcs[139]? = some Try.f139 := by kernel_rfl
theorem i_crc_More {args : List AV} {A : Heap} {Ko : AOut → Heap → Prop} (hn : args.length ≤ 22)
    (h : ∀ R : APost, (∀ e env A, fpost a_crc_More.res Ko e env A → R e env A) → X Try.prog R a_crc_More.body .done (env0 args) A) : SimX Try.prog F_crc_More args A Ko :=
  X_intro g_crc_More c_crc_More (by rw [Try.ntmps139]; exact hn) h
@[simp] theorem k_crc_More : callable Try.prog F_crc_More = true := by kernel_rfl
theorem c_crc_turn : trF Try.prog Try.f145 = some a_crc_turn := by kernel_rfl
theorem g_crc_turn : Try.prog.funcs[145]? = some Try.f145 := by kernel_rfl
theorem i_crc_turn {args : List AV} {A : Heap} {Ko : AOut → Heap → Prop} (hn : args.length ≤ 21)
    (h : ∀ R : APost, (∀ e env A, fpost a_crc_turn.res Ko e env A → R e env A) → X Try.prog R a_crc_turn.body .done (env0 args) A) : SimX Try.prog F_crc_turn args A Ko :=
  X_intro g_crc_turn c_crc_turn (by rw [Try.ntmps145]; exact hn) h
@[simp] theorem k_crc_turn : callable Try.prog F_crc_turn = true := by kernel_rfl
theorem c_ref02_Of : trF Try.prog Try.f119 = some a_ref02_Of := by kernel_rfl
theorem g_ref02_Of : Try.prog.funcs[119]? = some Try.f119 := by kernel_rfl
theorem i_ref02_Of {args : List AV} {A : Heap} {Ko : AOut → Heap → Prop} (hn : args.length ≤ 80)
    (h : ∀ R : APost, (∀ e env A, fpost a_ref02_Of.res Ko e env A → R e env A) → X Try.prog R a_ref02_Of.body .done (env0 args) A) : SimX Try.prog F_ref02_Of args A Ko :=
  X_intro g_ref02_Of c_ref02_Of (by rw [Try.ntmps119]; exact hn) h
@[simp] theorem k_ref02_Of : callable Try.prog F_ref02_Of = true := by kernel_rfl
theorem c_ref02_bits : trF Try.prog Try.f135 = some a_ref02_bits := by kernel_rfl
theorem g_ref02_bits : Try.prog.funcs[135]? = some Try.f135 := by kernel_rfl
theorem i_ref02_bits {args : List AV} {A : Heap} {Ko : AOut → Heap → Prop} (hn : args.length ≤ 28)
    (h : ∀ R : APost, (∀ e env A, fpost a_ref02_bits.res Ko e env A → R e env A) → X Try.prog R a_ref02_bits.body .done (env0 args) A) : SimX Try.prog F_ref02_bits args A Ko :=
  X_intro g_ref02_bits c_ref02_bits (by rw [Try.ntmps135]; exact hn) h
@[simp] theorem k_ref02_bits : callable Try.prog F_ref02_bits = true := by kernel_rfl
theorem c_ref08_Sealed : trF Try.prog Try.f78 = some a_ref08_Sealed := by kernel_rfl
theorem g_ref08_Sealed : Try.prog.funcs[78]? = some Try.f78 := by kernel_rfl
theorem v_ref08_Sealed {args : List AV} {v : AV} (hn : args.length ≤ 32) (h : X Try.prog (fin a_ref08_Sealed.res v) a_ref08_Sealed.body .done (env0 args) H0) : Gives Try.prog F_ref08_Sealed args v :=
  Gives_intro g_ref08_Sealed c_ref08_Sealed (by rw [Try.ntmps78]; exact hn) h
@[simp] theorem k_ref08_Sealed : callable Try.prog F_ref08_Sealed = true := by kernel_rfl
end Go.Proofs.Ytkmlndihdcplfaa

/- The walks of the checksum functions. -/
namespace Go.Proofs.Ytkmlndihdcplfaa
open Go AVL
set_option linter.unusedVariables false
set_option linter.unusedSimpArgs false

def step1 (r : Nat) : Nat := if r % 2 = 1 then (r / 2) ^^^ 3988292384 else r / 2
def steps : Nat → Nat → Nat
  | 0, r => r
  | n + 1, r => steps n (step1 r)
def turnN (r c : Nat) : Nat := steps 8 (r ^^^ c)
theorem step1_lt {r : Nat} (h : r < 2 ^ 32) : step1 r < 2 ^ 32 := by
  unfold step1
  split
  · exact Nat.xor_lt_two_pow (by omega) (by omega)
  · omega
theorem steps_lt : ∀ (n : Nat) {r : Nat}, r < 2 ^ 32 → steps n r < 2 ^ 32
  | 0, r, h => h
  | n + 1, r, h => steps_lt n (step1_lt h)
theorem turnN_lt {r c : Nat} (hr : r < 2 ^ 32) (hc : c < 256) : turnN r c < 2 ^ 32 := steps_lt 8 (Nat.xor_lt_two_pow hr (by omega))

theorem w_crc_turn (r c : Nat) (hr : r < 2 ^ 32) (hc : c < 256) : Gives Try.prog F_crc_turn [.int .u32 r, .int .u8 c] (.int .u32 (turnN r c)) := by
  refine i_crc_turn (by simp) fun R hR => ?_
  have e1 : IntKind.u32.wrap (c : Int) = c := wrap_u32 (by omega)
  have e2 : bXor .u32 (r : Int) (c : Int) = ((r ^^^ c : Nat) : Int) := bXor_nat rfl hr (by simp [IntKind.bits]; omega)
  simp -implicitDefEqProofs [a_crc_turn, q_crc_turn_0, q_crc_turn_1, q_crc_turn_2, e1, e2]
  refine X_loop (fun (s : Nat × Nat) env A => s.1 ≤ 8 ∧ s.2 < 2 ^ 32 ∧ steps (8 - s.1) s.2 = turnN r c ∧ env 0 = .int .u32 s.2 ∧ env 9 = .int .i64 s.1 ∧ A = H0) (fun s => 8 - s.1) (0, r ^^^ c) ⟨by simp, Nat.xor_lt_two_pow hr (by omega), rfl, by simp, by simp, rfl⟩ ?_
  rintro R' ⟨i, x⟩ env A ⟨h1, h2, h3, h4, h5, rfl⟩ hN hE
  simp only at h1 h2 h3 h4 h5
  have e3 : bAnd .u32 (x : Int) 1 = ((x % 2 : Nat) : Int) := by
    have := bAnd_nat (k := .u32) rfl h2 (b := 1) (by decide)
    rw [Nat.and_one_is_mod] at this; exact this
  have e4 : shrI .u32 (x : Int) 1 = ((x / 2 : Nat) : Int) := shrI_nat (b := 1)
  have e5 : bXor .u32 ((x : Int) / 2) 3988292384 = ((x / 2 ^^^ 3988292384 : Nat) : Int) := bXor_nat (a := x / 2) (b := 3988292384) rfl (by simp [IntKind.bits]; omega) (by decide)
  have e6 : i < 8 → IntKind.i64.wrap ((i : Int) + 1) = ((i + 1 : Nat) : Int) := fun h => by rw [wrap_i64 (by omega)]; simp
  simp -implicitDefEqProofs [q_crc_turn_L8, q_crc_turn_3, q_crc_turn_4, q_crc_turn_5, q_crc_turn_6, q_crc_turn_7, h4, h5, e3, e4, e5]
  refine ⟨fun hi => ?_, fun hi => ?_⟩
  · have hs : 8 - i = (8 - (i + 1)) + 1 := by omega
    rw [hs] at h3
    simp only [steps] at h3
    refine ⟨fun hx => ?_, fun hx => ?_⟩
    · have hx' : step1 x = x / 2 ^^^ 3988292384 := by unfold step1; rw [if_pos (by omega)]
      refine hN (i + 1, step1 x) _ _ ⟨by simp; omega, step1_lt h2, h3, by simp [hx'], by simp [e6 (by omega)], rfl⟩ (by simp; omega)
    · have hx' : step1 x = x / 2 := by unfold step1; rw [if_neg (by omega)]
      refine hN (i + 1, step1 x) _ _ ⟨by simp; omega, step1_lt h2, h3, by simp [hx'], by simp [e6 (by omega)], rfl⟩ (by simp; omega)
  · refine hE _ _ _ (by simp) ?_
    have : i = 8 := by omega
    subst this
    simp only [Nat.sub_self, steps] at h3
    subst h3
    simp -implicitDefEqProofs [q_crc_turn_8, h4]
    exact hR _ _ _ ⟨H0, Sub_refl _, by simp, rfl⟩
end Go.Proofs.Ytkmlndihdcplfaa

/- The walks of the checksum functions, second part. -/
namespace Go.Proofs.Ytkmlndihdcplfaa
open Go AVL
set_option linter.unusedVariables false
set_option linter.unusedSimpArgs false

def notN (s : Nat) : Nat := 4294967295 ^^^ s
def moreN (s : Nat) (l : List Nat) : Nat := notN (l.foldl turnN (notN s))
theorem notN_lt {s : Nat} (h : s < 2 ^ 32) : notN s < 2 ^ 32 := Nat.xor_lt_two_pow (by decide) h
theorem foldl_lt : ∀ (l : List Nat) (r : Nat), Bytes l → r < 2 ^ 32 → l.foldl turnN r < 2 ^ 32
  | [], r, _, hr => hr
  | c :: l, r, hl, hr => foldl_lt l _ (fun x hx => hl x (by simp [hx])) (turnN_lt hr (hl c (by simp)))
theorem moreN_lt {s : Nat} {l : List Nat} (hs : s < 2 ^ 32) (hl : Bytes l) : moreN s l < 2 ^ 32 := notN_lt (foldl_lt l _ hl (notN_lt hs))
theorem bXor_not {s : Nat} (hs : s < 2 ^ 32) : bXor .u32 4294967295 (s : Int) = ((notN s : Nat) : Int) := bXor_nat (a := 4294967295) rfl (by decide) hs

theorem w_crc_More (s : Nat) (l : List Nat) (hs : s < 2 ^ 32) (hl : Bytes l) (hn : l.length < 2 ^ 62) : Gives Try.prog F_crc_More [.int .u32 s, .isl .u8 (ints l)] (.int .u32 (moreN s l)) := by
  refine i_crc_More (by simp) fun R hR => ?_
  have m : IntKind.u32.max = 4294967295 := by decide
  have sg : IntKind.u32.signed = false := rfl
  simp -implicitDefEqProofs [a_crc_More, q_crc_More_0, q_crc_More_1, q_crc_More_2, sg, m, bXor_not hs]
  refine X_loop (fun (s' : Nat × Nat) env A => s'.1 ≤ l.length ∧ s'.2 < 2 ^ 32 ∧ notN ((l.drop s'.1).foldl turnN s'.2) = moreN s l ∧ env 5 = .int .u32 s'.2 ∧ env 10 = .isl .u8 (ints l) ∧ env 11 = .int .i64 l.length ∧ env 12 = .int .i64 s'.1 ∧ A = H0)
    (fun s' => l.length - s'.1) (0, notN s) ⟨by simp, notN_lt hs, rfl, by simp, by simp, by simp, by simp, rfl⟩ ?_
  rintro R' ⟨i, x⟩ env A ⟨h1, h2, h3, h4, h5, h6, h7, rfl⟩ hN hE
  simp only at h1 h2 h3 h4 h7
  simp -implicitDefEqProofs [q_crc_More_L7, q_crc_More_3, q_crc_More_4, h4, h5, h6, h7]
  refine ⟨fun hi => ⟨hi, ?_⟩, fun hi => ?_⟩
  · have hb : (l[i]?.getD 0) < 256 := by rw [List.getElem?_eq_getElem hi]; exact hl _ (List.getElem_mem hi)
    simp -implicitDefEqProofs [q_crc_More_5, h4]
    refine (w_crc_turn x _ h2 hb).call (.cons (.refl _) rfl (.cons (.refl _) rfl .nil)) rfl ?_
    have e6 : IntKind.i64.wrap ((i : Int) + 1) = ((i + 1 : Nat) : Int) := by rw [wrap_i64 (by omega)]; simp
    simp -implicitDefEqProofs [q_crc_More_6, h7]
    refine hN (i + 1, turnN x (l[i]?.getD 0)) _ _ ⟨hi, turnN_lt h2 hb, ?_, by simp, by simp [h5], by simp [h6], by simp [e6], rfl⟩ (by simp; omega)
    rw [List.drop_eq_getElem_cons hi] at h3
    have hg : l[i]?.getD 0 = l[i] := by simp [List.getElem?_eq_getElem hi]
    rw [hg]
    exact h3
  · refine hE _ _ _ (by simp) ?_
    have : i = l.length := by omega
    subst this
    simp only [List.drop_length, List.foldl_nil] at h3
    simp -implicitDefEqProofs [q_crc_More_7, h4, sg, m, bXor_not h2, h3]
    exact hR _ _ _ ⟨H0, Sub_refl _, by simp, rfl⟩

theorem w_crc_Of (l : List Nat) (hl : Bytes l) (hn : l.length < 2 ^ 62) : Gives Try.prog F_crc_Of [.isl .u8 (ints l)] (.int .u32 (moreN 0 l)) := by
  refine i_crc_Of (by simp) fun R hR => ?_
  simp -implicitDefEqProofs [a_crc_Of, q_crc_Of_0, q_crc_Of_1]
  refine (w_crc_More 0 l (by decide) hl hn).call (.cons (.refl _) rfl (.cons (.refl _) rfl .nil)) rfl ?_
  simp -implicitDefEqProofs
  exact hR _ _ _ ⟨H0, Sub_refl _, by simp, rfl⟩

def fourN (s : Nat) : List Nat := [s % 256, s / 256 % 256, s / 65536 % 256, s / 16777216 % 256]
theorem w_crc_Four (s : Nat) (hs : s < 2 ^ 32) : Gives Try.prog F_crc_Four [.int .u32 s] (.iarr .u8 4 (ints (fourN s))) := by
  refine i_crc_Four (by simp) fun R hR => ?_
  have e8 : shrI .u32 (s : Int) 8 = ((s / 256 : Nat) : Int) := shrI_nat (b := 8)
  have e16 : shrI .u32 (s : Int) 16 = ((s / 65536 : Nat) : Int) := shrI_nat (b := 16)
  have e24 : shrI .u32 (s : Int) 24 = ((s / 16777216 : Nat) : Int) := shrI_nat (b := 24)
  simp -implicitDefEqProofs [a_crc_Four, q_crc_Four_0, q_crc_Four_1, e8, e16, e24, wrap_u8m]
  intro g
  refine hR _ _ _ ?_
  simp -implicitDefEqProofs [a_crc_Four, fpost, fourN, ints]

theorem w_crc_Sealed (l : List Nat) (hl : Bytes l) (hn : l.length < 2 ^ 40) : Makes Try.prog F_crc_Sealed [.isl .u8 (ints l)] (l.length + 4) (.irow 5 .u8 (ints (l ++ fourN (moreN 0 l)))) := by
  refine i_crc_Sealed (by simp) fun R hR => ?_
  simp -implicitDefEqProofs [a_crc_Sealed, q_crc_Sealed_0, q_crc_Sealed_1]
  refine (w_crc_Of l hl (by omega)).call (.cons (.refl _) rfl .nil) rfl ?_
  simp -implicitDefEqProofs
  refine (w_crc_Four _ (moreN_lt (by decide) hl)).call (.cons (.refl _) rfl .nil) rfl ?_
  have h4 : (fourN (moreN 0 l)).length = 4 := rfl
  simp -implicitDefEqProofs +contextual [q_crc_Sealed_2, h4]
  intro g g1 _ _
  refine ⟨by omega, fun g2 _ _ _ _ => ⟨by omega, fun g3 _ _ _ _ => ?_⟩⟩
  refine hR _ _ _ ?_
  simp -implicitDefEqProofs [a_crc_Sealed, fpost]
  have h5 : List.take 4 (fourN (moreN 0 l)) = fourN (moreN 0 l) := rfl
  simp only [h5]
  exact set_sub (H0_sub _)

theorem bytes_four (s : Nat) : Bytes (fourN s) := by
  intro x hx
  simp -implicitDefEqProofs [fourN] at hx
  omega
/-- What Holds answers. -/
def holdsN (l : List Nat) : Bool := decide (4 ≤ l.length) && (fourN (moreN 0 (l.take (l.length - 4))) == l.drop (l.length - 4))
theorem w_crc_Holds (l : List Nat) (hl : Bytes l) (hn : l.length < 2 ^ 60) : Gives Try.prog F_crc_Holds [.isl .u8 (ints l)] (.bool (holdsN l)) := by
  refine i_crc_Holds (by simp) fun R hR => ?_
  have e : IntKind.i64.wrap ((l.length : Int) - 4) = (l.length : Int) - 4 := wrap_i64 (by omega)
  simp -implicitDefEqProofs [a_crc_Holds, q_crc_Holds_0, q_crc_Holds_1, q_crc_Holds_2, e]
  refine ⟨fun h => ?_, fun h => ?_⟩
  · simp -implicitDefEqProofs [q_crc_Holds_3]
    have : holdsN l = false := by simp [holdsN]; omega
    exact hR _ _ _ (by simp [a_crc_Holds, fpost, this])
  · have tn : ((l.length : Int) - 4).toNat = l.length - 4 := by omega
    have hl4 : 4 ≤ l.length := by omega
    have t2 : l.length - (l.length - 4) = 4 := by omega
    have t3 : List.take 4 (List.drop (l.length - 4) l) = List.drop (l.length - 4) l := List.take_of_length_le (by simp; omega)
    simp -implicitDefEqProofs [q_crc_Holds_4, tn, hl4, t2, t3, h]
    refine ⟨by omega, ?_⟩
    refine (w_crc_Of _ (bytes_take hl _) (by simp; omega)).call (.cons (.refl _) rfl .nil) rfl ?_
    simp -implicitDefEqProofs [Sub_refl]
    refine (w_crc_Four _ (moreN_lt (by decide) (bytes_take hl _))).call (.cons (.refl _) rfl .nil) rfl ?_
    simp -implicitDefEqProofs [Sub_refl]
    have he : eqI 4 (ints (fourN (moreN 0 (List.take (l.length - 4) l)))) (ints (List.drop (l.length - 4) l)) = holdsN l := by
      rw [eqI_ints (n := 4) rfl (by simp; omega)]
      simp -implicitDefEqProofs [holdsN, hl4]
    rw [he]
    exact hR _ _ _ (by simp [a_crc_Holds, fpost])
end Go.Proofs.Ytkmlndihdcplfaa

/- The plain law behind CrcTurns: the step is linear and loses nothing. -/
namespace Go.Proofs.Ytkmlndihdcplfaa
open Go AVL
set_option linter.unusedVariables false
set_option linter.unusedSimpArgs false
theorem xor_twice (a s : Nat) : a ^^^ (a ^^^ s) = s := by rw [← Nat.xor_assoc, Nat.xor_self, Nat.zero_xor]

theorem xor_half (a b : Nat) : (a ^^^ b) / 2 = a / 2 ^^^ b / 2 := by
  have := Nat.shiftRight_xor_distrib (a := a) (b := b) (i := 1)
  simpa [Nat.shiftRight_eq_div_pow] using this
theorem xor_par (a b : Nat) : (a ^^^ b) % 2 = (a + b) % 2 := by
  have h := Nat.testBit_xor a b 0
  rw [Nat.testBit_zero, Nat.testBit_zero, Nat.testBit_zero] at h
  rcases Nat.mod_two_eq_zero_or_one a with ha | ha <;> rcases Nat.mod_two_eq_zero_or_one b with hb | hb <;> rcases Nat.mod_two_eq_zero_or_one (a ^^^ b) with hc | hc <;> simp [ha, hb, hc] at h <;> omega
theorem step_lin (p a b : Nat) : (if (a ^^^ b) % 2 = 1 then (a ^^^ b) / 2 ^^^ p else (a ^^^ b) / 2) = (if a % 2 = 1 then a / 2 ^^^ p else a / 2) ^^^ (if b % 2 = 1 then b / 2 ^^^ p else b / 2) := by
  rw [xor_half, xor_par]
  rcases Nat.mod_two_eq_zero_or_one a with ha | ha <;> rcases Nat.mod_two_eq_zero_or_one b with hb | hb
  · have : (a + b) % 2 = 0 := by omega
    simp [ha, hb, this]
  · have : (a + b) % 2 = 1 := by omega
    simp [ha, hb, this, Nat.xor_assoc]
  · have : (a + b) % 2 = 1 := by omega
    simp [ha, hb, this, Nat.xor_assoc, Nat.xor_comm p]
  · have : (a + b) % 2 = 0 := by omega
    simp only [ha, hb, this, if_true]
    rw [if_neg (by decide)]
    have e : a / 2 ^^^ p ^^^ (b / 2 ^^^ p) = a / 2 ^^^ (p ^^^ (p ^^^ b / 2)) := by rw [Nat.xor_comm (b / 2) p, Nat.xor_assoc]
    rw [e, xor_twice]
theorem step1_xor (a b : Nat) : step1 (a ^^^ b) = step1 a ^^^ step1 b := by
  rw [step1.eq_1, step1.eq_1, step1.eq_1]; exact step_lin _ a b
theorem step1_even (x : Nat) : step1 (2 * x) = x := by
  rw [step1.eq_1, if_neg (by omega)]; omega
theorem steps_add : ∀ (m n r : Nat), steps (m + n) r = steps n (steps m r)
  | 0, n, r => by rw [Nat.zero_add]; rfl
  | m + 1, n, r => by rw [Nat.add_right_comm]; exact steps_add m n (step1 r)
theorem steps_xor : ∀ (n a b : Nat), steps n (a ^^^ b) = steps n a ^^^ steps n b
  | 0, a, b => rfl
  | n + 1, a, b => by simp only [steps]; rw [step1_xor]; exact steps_xor n _ _
theorem steps_pow : ∀ (n x : Nat), steps n (2 ^ n * x) = x
  | 0, x => by simp [steps]
  | n + 1, x => by
    simp only [steps]
    have : 2 ^ (n + 1) * x = 2 * (2 ^ n * x) := by rw [Nat.pow_succ]; simp [Nat.mul_comm, Nat.mul_left_comm]
    rw [this, step1_even]
    exact steps_pow n x
/-- The register behind bytes. -/
def reg (r : Nat) (l : List Nat) : Nat := l.foldl turnN r
theorem reg_append (r : Nat) (l m : List Nat) : reg r (l ++ m) = reg (reg r l) m := by simp [reg]
theorem moreN_reg (l : List Nat) : moreN 0 l = notN (reg 4294967295 l) := by
  rw [moreN.eq_1]
  congr 1
theorem holds_sealed (l : List Nat) : holdsN (l ++ fourN (moreN 0 l)) = true := by
  have h4 : (fourN (moreN 0 l)).length = 4 := rfl
  simp [holdsN, h4]
/-- One bit more of the mask. -/
theorem mask_step (mask k : Nat) : mask % 2 ^ (k + 1) = if mask / 2 ^ k % 2 = 1 then mask % 2 ^ k ^^^ 2 ^ k else mask % 2 ^ k := by
  apply Nat.eq_of_testBit_eq
  intro i
  have hb : mask.testBit k = decide (mask / 2 ^ k % 2 = 1) := Nat.testBit_eq_decide_div_mod_eq
  split
  · rename_i h
    rw [Nat.testBit_xor, Nat.testBit_mod_two_pow, Nat.testBit_mod_two_pow, Nat.testBit_two_pow]
    by_cases e : i = k
    · subst e; simp [hb, h]
    · have e2 : ¬ k = i := fun h => e h.symm
      have : (i < k + 1) = (i < k) := by apply propext; omega
      simp [e2, this]
  · rename_i h
    rw [Nat.testBit_mod_two_pow, Nat.testBit_mod_two_pow]
    by_cases e : i = k
    · subst e; simp [hb, h]
    · have : (i < k + 1) = (i < k) := by apply propext; omega
      simp [this]
end Go.Proofs.Ytkmlndihdcplfaa

/- The walk of the reference's bits. -/
namespace Go.Proofs.Ytkmlndihdcplfaa
open Go AVL
set_option linter.unusedVariables false
set_option linter.unusedSimpArgs false

def rawb (l : List Nat) (p : Nat) : Nat := l[p / 8]?.getD 0 / 2 ^ (p % 8) % 2
def rawbits (l : List Nat) (n : Nat) : List Nat := (List.range n).map (rawb l)
theorem rawbits_succ (l : List Nat) (n : Nat) : rawbits l (n + 1) = rawbits l n ++ [rawb l n] := by simp [rawbits, List.range_succ]
@[simp] theorem rawbits_length (l : List Nat) (n : Nat) : (rawbits l n).length = n := by simp [rawbits]
/-- A row of bytes that grows. -/
def Row (v : AV) (B : Heap) (xs : List Nat) : Prop := (xs = [] ∧ v = .nilS ∧ B = H0) ∨ ∃ g, v = .own g 0 xs.length ∧ B = H0.set g (.irow 5 .u8 (ints xs))

theorem w_ref02_bits (l : List Nat) (hl : Bytes l) (hn : l.length < 2 ^ 20) : SimX Try.prog F_ref02_bits [.isl .u8 (ints l)] H0 (fun o A' => ∃ v, o = .ret v ∧ Row v A' (rawbits l (8 * l.length))) := by
  refine i_ref02_bits (by simp) fun R hR => ?_
  simp -implicitDefEqProofs [a_ref02_bits, q_ref02_bits_0, q_ref02_bits_1, q_ref02_bits_2]
  refine X_loopS (fun (i : Nat) env B => i ≤ l.length ∧ env 0 = .isl .u8 (ints l) ∧ env 4 = .int .i64 i ∧ Row (env 3) B (rawbits l (8 * i))) (fun i => l.length - i) 0 H0 (Sub_refl _)
    ⟨by simp, by simp, by simp, .inl ⟨rfl, by simp, rfl⟩⟩ ?_
  rintro R' i env B ⟨h1, h2, h3, h4⟩ hN hE
  simp -implicitDefEqProofs [q_ref02_bits_L9, q_ref02_bits_3, h2, h3]
  refine ⟨fun hi => ?_, fun hi => ?_⟩
  · simp -implicitDefEqProofs [q_ref02_bits_4]
    refine X_loopS (fun (k : Nat) env B => k ≤ 8 ∧ env 0 = .isl .u8 (ints l) ∧ env 4 = .int .i64 i ∧ env 5 = .int .i64 k ∧ Row (env 3) B (rawbits l (8 * i + k))) (fun k => 8 - k) 0 B (Sub_refl _)
      ⟨by simp, by simp [h2], by simp [h3], by simp, by simpa using h4⟩ ?_
    rintro R2 k env B_ ⟨k1, k2, k3, k4, k5⟩ kN kE
    simp -implicitDefEqProofs [q_ref02_bits_L8, q_ref02_bits_5, k4]
    refine ⟨fun hk => ?_, fun hk => ?_⟩
    · have hd : (8 * i + k) / 8 = i := by omega
      have hm : (8 * i + k) % 8 = k := by omega
      have hx : l[i] < 256 := hl _ (List.getElem_mem hi)
      have hr : rawb l (8 * i + k) = l[i] / 2 ^ k % 2 := by simp [rawb, hd, hm, List.getElem?_eq_getElem hi]
      have s1 : shrI .u8 ((l[i] : Nat) : Int) (k : Int) = ((l[i] / 2 ^ k : Nat) : Int) := by rw [shrI_nat]; congr 3; simp [IntKind.bits]; omega
      have s2 : bAnd .u8 ((l[i] / 2 ^ k : Nat) : Int) 1 = ((rawb l (8 * i + k) : Nat) : Int) := by
        have := bAnd_nat (k := .u8) rfl (a := l[i] / 2 ^ k) (by have := Nat.div_le_self l[i] (2 ^ k); simp [IntKind.bits]; omega) (b := 1) (by decide)
        rw [Nat.and_one_is_mod] at this; rw [hr]; exact this
      have s3 : IntKind.u64.wrap (k : Int) = k := wrap_u64 (by omega)
      have s4 : IntKind.i64.wrap ((k : Int) + 1) = ((k + 1 : Nat) : Int) := by rw [wrap_i64 (by omega)]; simp
      have hs : rawbits l (8 * i + (k + 1)) = rawbits l (8 * i + k) ++ [rawb l (8 * i + k)] := rawbits_succ l _
      rcases k5 with ⟨e1, e2, rfl⟩ | ⟨g, e2, rfl⟩
      · simp -implicitDefEqProofs +contextual [q_ref02_bits_6, k2, k3, k4, e2, hi, s1, s2, s3, -Int.natCast_ediv, -Int.natCast_emod, -Int.natCast_pow]
        intro g1 g2 _ _
        simp -implicitDefEqProofs [q_ref02_bits_7, k4, s4, -Int.natCast_add]
        refine kN (k + 1) _ _ (H0.set g2 (.irow 5 .u8 (ints (rawbits l (8 * i + (k + 1)))))) ?_ ⟨by omega, by simp [k2], by simp [k3], by simp, .inr ⟨g2, ?_, rfl⟩⟩ (by omega)
        · rw [hs, e1]; exact set_sub (H0_sub _)
        · simp [hs, e1]
      · simp -implicitDefEqProofs +contextual [q_ref02_bits_6, k2, k3, k4, e2, hi, s1, s2, s3, -Int.natCast_ediv, -Int.natCast_emod, -Int.natCast_pow]
        intro g1 _ _
        refine ⟨by omega, fun g2 _ _ _ _ => ?_⟩
        simp -implicitDefEqProofs [q_ref02_bits_7, k4, s4, -Int.natCast_add]
        refine kN (k + 1) _ _ (H0.set g2 (.irow 5 .u8 (ints (rawbits l (8 * i + (k + 1)))))) ?_ ⟨by omega, by simp [k2], by simp [k3], by simp, .inr ⟨g2, ?_, rfl⟩⟩ (by omega)
        · have : List.take (8 * i + k) (rawbits l (8 * i + k)) = rawbits l (8 * i + k) := List.take_of_length_le (by simp)
          rw [hs, this, ← ints_append]; exact set_sub (H0_sub _)
        · simp [hs]
    · refine kE _ _ _ (by simp) ?_
      have hk8 : k = 8 := by omega
      subst hk8
      have s4 : IntKind.i64.wrap ((i : Int) + 1) = ((i + 1 : Nat) : Int) := by rw [wrap_i64 (by omega)]; simp
      simp -implicitDefEqProofs [q_ref02_bits_8, k3, s4, -Int.natCast_add]
      exact hN (i + 1) _ _ B_ (Sub_refl _) ⟨hi, by simp [k2], by simp, by simpa [Nat.mul_add] using k5⟩ (by omega)
  · refine hE _ _ _ (by simp) ?_
    have : i = l.length := by omega
    subst this
    simp -implicitDefEqProofs [q_ref02_bits_9]
    refine hR _ _ _ ?_
    simp [a_ref02_bits, fpost]
    exact ⟨B, Sub_refl _, h4⟩
end Go.Proofs.Ytkmlndihdcplfaa

/- The plain law behind CrcSums: the division's window is the register. -/
namespace Go.Proofs.Ytkmlndihdcplfaa
open Go AVL
set_option linter.unusedVariables false
set_option linter.unusedSimpArgs false

/-- The register, bit by bit. -/
def rb (l : List Nat) : Nat → Nat
  | 0 => 4294967295
  | i + 1 => step1 (rb l i ^^^ rawb l i)
theorem rawb_lt (l : List Nat) (p : Nat) : rawb l p < 2 := Nat.mod_lt _ (by decide)
theorem rb_lt (l : List Nat) : ∀ i, rb l i < 2 ^ 32
  | 0 => by simp [rb]
  | i + 1 => step1_lt (Nat.xor_lt_two_pow (rb_lt l i) (by have := rawb_lt l i; omega))
theorem rb_byte (l : List Nat) (j : Nat) : ∀ t, t ≤ 8 → rb l (8 * j + t) = steps t (rb l (8 * j) ^^^ (l[j]?.getD 0 % 2 ^ t))
  | 0, _ => by simp [steps, Nat.mod_one]
  | t + 1, h => by
    have ih := rb_byte l j t (by omega)
    have hd : (8 * j + t) / 8 = j := by omega
    have hm : (8 * j + t) % 8 = t := by omega
    have e1 : rb l (8 * j + (t + 1)) = step1 (rb l (8 * j + t) ^^^ rawb l (8 * j + t)) := rfl
    have hraw : rawb l (8 * j + t) = l[j]?.getD 0 / 2 ^ t % 2 := by simp [rawb, hd, hm]
    rw [e1, ih, hraw]
    generalize l[j]?.getD 0 = c
    have hp := steps_pow t (c / 2 ^ t % 2)
    have e2 : steps t (rb l (8 * j) ^^^ c % 2 ^ t) ^^^ (c / 2 ^ t % 2) = steps t (rb l (8 * j) ^^^ c % 2 ^ t ^^^ 2 ^ t * (c / 2 ^ t % 2)) := by rw [steps_xor t _ (2 ^ t * _), hp]
    rw [e2]
    have e3 : ∀ x, step1 (steps t x) = steps (t + 1) x := fun x => by rw [steps_add]; rfl
    rw [e3, mask_step, Nat.xor_assoc]
    congr 2
    rcases Nat.mod_two_eq_zero_or_one (c / 2 ^ t) with h0 | h0
    · simp [h0]
    · simp [h0]
theorem rb_reg (l : List Nat) (hl : Bytes l) : ∀ j, j ≤ l.length → rb l (8 * j) = reg 4294967295 (l.take j)
  | 0, _ => rfl
  | j + 1, h => by
    have ih := rb_reg l hl j (by omega)
    have hb := rb_byte l j 8 (Nat.le_refl _)
    have hc : l[j]?.getD 0 = l[j] := by rw [List.getElem?_eq_getElem (by omega)]; rfl
    have hlt : l[j] < 256 := hl _ (List.getElem_mem (by omega))
    rw [show 8 * (j + 1) = 8 * j + 8 by omega, hb, ih, hc, Nat.mod_eq_of_lt (by omega), List.take_add_one, reg_append]
    rw [List.getElem?_eq_getElem (by omega)]
    rfl

def bt (r j : Nat) : Nat := (r.testBit j).toNat
theorem bt_lt (r j : Nat) : bt r j < 2 := by unfold bt; cases r.testBit j <;> decide
theorem bt_xor (a b j : Nat) : bt (a ^^^ b) j = bt a j ^^^ bt b j := by
  unfold bt
  rw [Nat.testBit_xor]
  cases a.testBit j <;> cases b.testBit j <;> rfl
theorem bt_half (a j : Nat) : bt (a / 2) j = bt a (j + 1) := by
  unfold bt; rw [Nat.testBit_add_one]
theorem bt_zero (a : Nat) : bt a 0 = a % 2 := by
  unfold bt
  rw [Nat.testBit_zero]
  rcases Nat.mod_two_eq_zero_or_one a with h | h <;> simp [h]
theorem bt_big {r j : Nat} (h : r < 2 ^ 32) (hj : 32 ≤ j) : bt r j = 0 := by
  unfold bt
  rw [Nat.testBit_lt_two_pow (Nat.lt_of_lt_of_le h (Nat.pow_le_pow_right (by decide) hj))]
  rfl
def poly : List Nat := [1, 0, 0, 0, 0, 0, 1, 0, 0, 1, 1, 0, 0, 0, 0, 0, 1, 0, 0, 0, 1, 1, 1, 0, 1, 1, 0, 1, 1, 0, 1, 1, 1]
theorem poly_bt : ∀ j, j < 32 → poly[j + 1]?.getD 0 = bt 3988292384 j := by decide
/-- One step of the division, seen at a place behind it. -/
theorem div_bit (l : List Nat) (i j : Nat) : bt (rb l (i + 1)) j = bt (rb l i) (j + 1) ^^^ (if (bt (rb l i) 0 ^^^ rawb l i) = 1 then bt 3988292384 j else 0) := by
  have hr := rawb_lt l i
  have e1 : rb l (i + 1) = step1 (rb l i ^^^ rawb l i) := rfl
  have h2 : rawb l i / 2 = 0 := by omega
  have hpar : (rb l i ^^^ rawb l i) % 2 = bt (rb l i) 0 ^^^ rawb l i := by
    rw [← bt_zero, bt_xor]
    congr 1
    rw [bt_zero]; omega
  rw [e1, step1.eq_1, hpar]
  split
  · rw [bt_xor, xor_half, h2, Nat.xor_zero, bt_half]
  · rw [xor_half, h2, Nat.xor_zero, bt_half, Nat.xor_zero]
end Go.Proofs.Ytkmlndihdcplfaa

/- Tables, and calls that return rows. -/
namespace Go.Proofs.Ytkmlndihdcplfaa
open Go AVL
set_option linter.unusedVariables false
set_option linter.unusedSimpArgs false

def tab (M : Nat) (F : Nat → Nat) : List Nat := (List.range M).map F
@[simp] theorem tab_length (M : Nat) (F : Nat → Nat) : (tab M F).length = M := by simp [tab]
theorem tab_get {M : Nat} {F : Nat → Nat} {p : Nat} (h : p < (tab M F).length) : (tab M F)[p] = F p := by simp [tab]
theorem tab_set (M : Nat) (F : Nat → Nat) (p v : Nat) : (tab M F).set p v = tab M (fun q => if q = p then v else F q) := by
  apply List.ext_getElem
  · simp
  · intro q h1 h2
    rw [List.getElem_set, tab_get, tab_get]
    by_cases e : p = q
    · subst e; simp
    · have : ¬ q = p := fun h => e h.symm
      simp [e, this]
theorem tab_ext {M : Nat} {F G : Nat → Nat} (h : ∀ p, p < M → F p = G p) : tab M F = tab M G :=
  List.map_congr_left fun p hp => h p (List.mem_range.1 hp)
theorem rawb_out (l : List Nat) {p : Nat} (h : 8 * l.length ≤ p) : rawb l p = 0 := by
  have : l.length ≤ p / 8 := by omega
  simp [rawb, List.getElem?_eq_none this]
theorem raw_tab (l : List Nat) (z : Nat) : rawbits l (8 * l.length) ++ List.replicate z 0 = tab (8 * l.length + z) (rawb l) := by
  apply List.ext_getElem
  · simp
  · intro p h1 h2
    rw [tab_get]
    by_cases h : p < 8 * l.length
    · rw [List.getElem_append_left (by simpa using h)]
      simp [rawbits]
    · rw [List.getElem_append_right (by simp; omega), rawb_out l (by omega)]
      simp
/-- One bit more. -/
theorem mask_or (r k : Nat) : r % 2 ^ k ||| bt r k * 2 ^ k = r % 2 ^ (k + 1) := by
  apply Nat.eq_of_testBit_eq
  intro i
  rw [Nat.testBit_or, Nat.testBit_mod_two_pow, Nat.testBit_mod_two_pow]
  have hb : (bt r k * 2 ^ k).testBit i = (decide (i = k) && r.testBit k) := by
    unfold bt
    cases hk : r.testBit k with
    | false => simp
    | true =>
      simp only [Bool.toNat_true, Nat.one_mul, Nat.testBit_two_pow, Bool.and_true]
      by_cases e : k = i
      · subst e; simp
      · have : ¬ i = k := fun h => e h.symm
        simp [e, this]
  rw [hb]
  by_cases e : i = k
  · subst e; simp
  · have : (i < k + 1) = (i < k) := by apply propext; omega
    simp [e, this]
theorem call_row {P : Program} {f : FuncId} {args args' : List AV} {xs : List Nat} {A : Heap} {K Kp : AV → Heap → Prop} (h : SimX P f args' H0 (fun o A' => ∃ v, o = .ret v ∧ Row v A' xs)) (hv : VwL A args args')
    (h0 : xs = [] → K .nilS A) (hk : ∀ g, A g = none → K (.own g 0 xs.length) (A.set g (.irow 5 .u8 (ints xs)))) : SimX P f args A (outK K Kp) := by
  refine SimX.view h hv ?_ ?_
  · rintro o B ⟨v, rfl, ⟨h1, rfl, rfl⟩ | ⟨g, rfl, rfl⟩⟩
    · exact ⟨rfl, fun g c hc => by cases hc⟩
    · refine ⟨rfl, fun g' c' hc => ?_⟩
      rw [set_app] at hc
      split at hc
      · injection hc with hc; subst hc; rfl
      · cases hc
  · rintro o B ⟨v, rfl, ⟨h1, rfl, rfl⟩ | ⟨g, rfl, rfl⟩⟩ hd
    · rw [join_H0]; exact h0 h1
    · have := hd g (.irow 5 .u8 (ints xs)) (by simp)
      rw [join_set A this]; exact hk g this
end Go.Proofs.Ytkmlndihdcplfaa

/- The walk of the reference's division. -/
namespace Go.Proofs.Ytkmlndihdcplfaa
open Go AVL
set_option linter.unusedVariables false
set_option linter.unusedSimpArgs false

theorem xor_one (x : Nat) (h : x < 2) : 1 - x = 1 ^^^ x := by
  rcases (by omega : x = 0 ∨ x = 1) with rfl | rfl <;> rfl
theorem xor_lt2 {a b : Nat} (ha : a < 2) (hb : b < 2) : a ^^^ b < 2 := Nat.xor_lt_two_pow (n := 1) ha hb
theorem ones_bt (p : Nat) : bt 4294967295 p = if p < 32 then 1 else 0 := by
  unfold bt
  have : (4294967295 : Nat) = 2 ^ 32 - 1 := rfl
  rw [this, Nat.testBit_two_pow_sub_one]
  by_cases h : p < 32 <;> simp [h]
theorem poly_lt (k : Nat) : poly[k]?.getD 0 < 2 := by
  by_cases h : k < 33
  · revert k; decide
  · have : poly.length ≤ k := by simp [poly]; omega
    simp [List.getElem?_eq_none this]

theorem set_swap {A : Heap} {g h : Nat} {c d : Cont} (e : ¬ g = h) : (A.set h d).set g c = (A.set g c).set h d := by
  funext x
  simp only [set_app]
  by_cases h1 : x = g
  · subst h1; simp [e]
  · simp [h1]

theorem w_ref02_Of (l : List Nat) (hl : Bytes l) (hn : l.length < 2 ^ 20) : Gives Try.prog F_ref02_Of [.isl .u8 (ints l)] (.int .u32 (moreN 0 l)) := by
  refine i_ref02_Of (by simp) fun R hR => ?_
  obtain ⟨M, hM⟩ : ∃ M, M = 8 * l.length + 32 := ⟨_, rfl⟩
  have main : ∀ (g : Nat) (env : AEnv) (A : Heap), (H0.set g (.irow 5 .u8 (ints (tab M (rawb l))))).Sub A → env 3 = .own g 0 M → env 4 = .int .i64 0 →
      X Try.prog R (.loop q_ref02_Of_L6) (.blk 0 (.thn (.seq (.region q_ref02_Of_6) (.seq (.seq (.region q_ref02_Of_7) (.block 2 (.loop q_ref02_Of_L15))) (.seq (.region q_ref02_Of_15) (.seq (.region q_ref02_Of_16) (.seq (.seq (.region q_ref02_Of_17) (.block 6 (.loop q_ref02_Of_L21))) (.seq (.region q_ref02_Of_21) .ret)))))) .done)) env A := by
    intro g env A hA e3 e4
    refine X_loopS (fun (i : Nat) env B => i ≤ 32 ∧ env 3 = .own g 0 M ∧ env 4 = .int .i64 i ∧ B = H0.set g (.irow 5 .u8 (ints (tab M fun p => if p < i then 1 - rawb l p else rawb l p)))) (fun i => 32 - i) 0 _ hA
      ⟨by simp, e3, by simpa using e4, by simp⟩ ?_
    rintro R' i env B ⟨h1, h2, h3, rfl⟩ hN hE
    simp -implicitDefEqProofs [q_ref02_Of_L6, q_ref02_Of_3, h3]
    refine ⟨fun hi => ?_, fun hi => ?_⟩
    · have hiM : i < M := by omega
      have r2 := rawb_lt l i
      have s1 : IntKind.u8.wrap (1 - ((rawb l i : Nat) : Int)) = ((1 - rawb l i : Nat) : Int) := by rw [wrap_u8 (by omega)]; omega
      have s4 : IntKind.i64.wrap ((i : Int) + 1) = ((i + 1 : Nat) : Int) := by rw [wrap_i64 (by omega)]; simp
      simp -implicitDefEqProofs [q_ref02_Of_4, h2, h3, hiM, tab_get, s1]
      simp -implicitDefEqProofs [q_ref02_Of_5, h3, s4, -Int.natCast_add]
      refine hN (i + 1) _ _ _ (Sub_refl _) ⟨by omega, by simp [h2], by simp, ?_⟩ (by omega)
      rw [tab_set]
      congr 3
      refine tab_ext fun p _ => ?_
      by_cases e : p = i
      · subst e; simp
      · have : (p < i + 1) = (p < i) := by apply propext; omega
        simp [e, this]
    · refine hE _ _ _ (by simp) ?_
      have : i = 32 := by omega
      subst this
      simp -implicitDefEqProofs +contextual [q_ref02_Of_6, h2]
      intro g5 hg5 hg5'
      simp -implicitDefEqProofs [q_ref02_Of_7]
      refine X_loopS (fun (s : Nat × (Nat → Nat)) env B => s.1 + 32 ≤ M ∧ env 3 = .own g 0 M ∧ env 5 = .own g5 0 33 ∧ env 6 = .int .i64 s.1 ∧ (∀ p, s.2 p < 2) ∧ (∀ p, s.1 ≤ p → p < M → s.2 p = bt (rb l s.1) (p - s.1) ^^^ rawb l p) ∧
          B = (H0.set g (.irow 5 .u8 (ints (tab M s.2)))).set g5 (.irow 5 .u8 (ints poly))) (fun s => M - s.1) (0, fun p => if p < 32 then 1 - rawb l p else rawb l p) _ (Sub_refl _)
        ⟨by simp; omega, by simp [h2], by simp, by simp, ?_, ?_, rfl⟩ ?_
      · intro p
        have := rawb_lt l p
        simp only
        split <;> omega
      · intro p _ hp
        have r2 := rawb_lt l p
        simp only [Nat.sub_zero, rb, ones_bt]
        split
        · exact xor_one _ r2
        · rw [Nat.zero_xor]
      · rintro R2 ⟨i, G⟩ env B ⟨d1, d2, d3, d4, d5, d6, rfl⟩ dN dE
        simp only at d1 d4 d5 d6
        have t1 : IntKind.i64.wrap ((i : Int) + 32) = ((i + 32 : Nat) : Int) := by rw [wrap_i64 (by omega)]; simp
        simp -implicitDefEqProofs [q_ref02_Of_L15, q_ref02_Of_8, d2, d4, t1, -Int.natCast_add]
        refine ⟨fun hi => ?_, fun hi => ?_⟩
        · have hiM : i < M := by omega
          have hbit := d6 i (Nat.le_refl i) hiM
          rw [Nat.sub_self] at hbit
          have hdv := div_bit l i
          rw [← hbit] at hdv
          have s4 : IntKind.i64.wrap ((i : Int) + 1) = ((i + 1 : Nat) : Int) := by rw [wrap_i64 (by omega)]; simp
          simp -implicitDefEqProofs [q_ref02_Of_9, d2, d4, hg5', hiM, tab_get, -Int.natCast_add]
          refine ⟨fun hb => ?_, fun hb => ?_⟩
          · have hb' : G i = 1 := by omega
            simp -implicitDefEqProofs [q_ref02_Of_10]
            refine X_loopS (fun (k : Nat) env B => k ≤ 33 ∧ env 3 = .own g 0 M ∧ env 5 = .own g5 0 33 ∧ env 6 = .int .i64 i ∧ env 7 = .int .i64 k ∧
                B = (H0.set g (.irow 5 .u8 (ints (tab M fun p => if i ≤ p ∧ p < i + k then G p ^^^ poly[p - i]?.getD 0 else G p)))).set g5 (.irow 5 .u8 (ints poly))) (fun k => 33 - k) 0 _ (Sub_refl _)
              ⟨by simp, by simp [d2], by simp [d3], by simp [d4], by simp, ?_⟩ ?_
            · congr 4
              refine tab_ext fun p _ => ?_
              rw [if_neg (by omega)]
            · rintro R3 k env B ⟨f1, f2, f3, f4, f5, rfl⟩ fN fE
              simp -implicitDefEqProofs [q_ref02_Of_L14, q_ref02_Of_11, f5]
              refine ⟨fun hk => ?_, fun hk => ?_⟩
              · have hk33 : k < 33 := by omega
                have hx : i + k < M := by omega
                have u1 : IntKind.i64.wrap ((i : Int) + (k : Int)) = ((i + k : Nat) : Int) := by rw [wrap_i64 (by omega)]; simp
                have u2 : IntKind.i64.wrap ((k : Int) + 1) = ((k + 1 : Nat) : Int) := by rw [wrap_i64 (by omega)]; simp
                have hpl : k < poly.length := hk33
                have hpg : poly[k]?.getD 0 = poly[k] := by rw [List.getElem?_eq_getElem hpl]; rfl
                have hp2 := poly_lt k
                rw [hpg] at hp2
                have hG2 := d5 (i + k)
                have u3 : bXor .u8 ((G (i + k) : Nat) : Int) ((poly[k] : Nat) : Int) = ((G (i + k) ^^^ poly[k] : Nat) : Int) := bXor_nat rfl (by simp [IntKind.bits]; omega) (by simp [IntKind.bits]; omega)
                simp -implicitDefEqProofs [q_ref02_Of_12, q_ref02_Of_13, f2, f3, f4, f5, u1, u2, u3, hg5', hx, hk33, hpl, tab_get, -Int.natCast_add]
                refine ⟨hk, fN (k + 1) _ _ _ ?_ ⟨by omega, by simp [f2], by simp [f3], by simp [f4], by simp, rfl⟩ (by omega)⟩
                rw [tab_set, set_swap hg5']
                rw [show (tab M fun q => if q = i + k then G (i + k) ^^^ poly[k] else if i ≤ q ∧ q < i + k then G q ^^^ poly[q - i]?.getD 0 else G q) = tab M (fun p => if i ≤ p ∧ p < i + (k + 1) then G p ^^^ poly[p - i]?.getD 0 else G p) from tab_ext fun p _ => by
                  by_cases e : p = i + k
                  · subst e
                    rw [if_pos rfl, if_pos (by omega), Nat.add_sub_cancel_left, hpg]
                  · rw [if_neg e]
                    by_cases e2 : i ≤ p ∧ p < i + k
                    · rw [if_pos e2, if_pos (by omega)]
                    · rw [if_neg e2, if_neg (by omega)]]
                rw [set_set]
                exact Sub_refl _
              · refine fE _ _ _ (by simp) ?_
                have : k = 33 := by omega
                subst this
                simp -implicitDefEqProofs [q_ref02_Of_14, f4, s4, -Int.natCast_add]
                refine dN (i + 1, fun p => if i ≤ p ∧ p < i + 33 then G p ^^^ poly[p - i]?.getD 0 else G p) _ _ _ (Sub_refl _) ⟨by simp only; omega, by simp [f2], by simp [f3], by simp, ?_, ?_, rfl⟩ (by simp only; omega)
                · intro p
                  simp only
                  split
                  · exact xor_lt2 (d5 p) (poly_lt _)
                  · exact d5 p
                · intro p hp hpM
                  simp only at hp ⊢
                  obtain ⟨q, rfl⟩ : ∃ q, p = i + (q + 1) := ⟨p - i - 1, by omega⟩
                  have e1 : i + (q + 1) - (i + 1) = q := by omega
                  have e2 : i + (q + 1) - i = q + 1 := by omega
                  have hG := d6 (i + (q + 1)) (by omega) hpM
                  rw [e2] at hG
                  have hd := hdv q
                  rw [if_pos hb'] at hd
                  rw [e1, e2, hd, hG]
                  by_cases hq : q < 32
                  · rw [if_pos (by omega), poly_bt q hq, Nat.xor_assoc, Nat.xor_assoc, Nat.xor_comm (rawb l (i + (q + 1)))]
                  · rw [if_neg (by omega), bt_big (r := 3988292384) (by decide) (by omega), Nat.xor_zero]
          · have hb' : ¬ G i = 1 := by omega
            simp -implicitDefEqProofs [q_ref02_Of_14, d4, s4, -Int.natCast_add]
            refine dN (i + 1, G) _ _ _ (Sub_refl _) ⟨by simp only; omega, by simp [d2], by simp [d3], by simp, d5, ?_, rfl⟩ (by simp only; omega)
            intro p hp hpM
            simp only at hp ⊢
            obtain ⟨q, rfl⟩ : ∃ q, p = i + (q + 1) := ⟨p - i - 1, by omega⟩
            have e1 : i + (q + 1) - (i + 1) = q := by omega
            have e2 : i + (q + 1) - i = q + 1 := by omega
            have hG := d6 (i + (q + 1)) (by omega) hpM
            rw [e2] at hG
            have hd := hdv q
            rw [if_neg hb', Nat.xor_zero] at hd
            rw [e1, hd, hG]
        · refine dE _ _ _ (by simp) ?_
          have hiN : i = 8 * l.length := by omega
          have hrN : rb l i = reg 4294967295 l := by rw [hiN, rb_reg l hl _ (Nat.le_refl _), List.take_length]
          have w1 : IntKind.i64.wrap ((M : Int) - 32) = ((i : Nat) : Int) := by rw [wrap_i64 (by omega)]; omega
          simp -implicitDefEqProofs [q_ref02_Of_15, q_ref02_Of_16, q_ref02_Of_17, d2, w1]
          refine X_loopS (fun (k : Nat) env B => k ≤ 32 ∧ env 3 = .own g 0 M ∧ env 8 = .int .u32 ((notN (rb l i) % 2 ^ k : Nat) : Int) ∧ env 9 = .int .i64 i ∧ env 10 = .int .i64 k ∧
              B = H0.set g (.irow 5 .u8 (ints (tab M G)))) (fun k => 32 - k) 0 (H0.set g (.irow 5 .u8 (ints (tab M G)))) ?_
            ⟨by simp, by simp [d2], by simp [Nat.mod_one], by simp, by simp, rfl⟩ ?_
          · rw [← set_swap hg5']; exact set_sub (H0_sub _)
          · rintro R3 k env B ⟨f1, f2, f3, f4, f5, rfl⟩ fN fE
            simp -implicitDefEqProofs [q_ref02_Of_L21, q_ref02_Of_18, f5]
            refine ⟨fun hk => ?_, fun hk => ?_⟩
            · have hk32 : k < 32 := by omega
              have hx : i + k < M := by omega
              have hrl := rb_lt l i
              have hG := d6 (i + k) (by omega) hx
              rw [Nat.add_sub_cancel_left, rawb_out l (by omega), Nat.xor_zero] at hG
              have hb2 := bt_lt (rb l i) k
              have hnb : 1 - G (i + k) = bt (notN (rb l i)) k := by
                rw [hG, xor_one _ hb2, notN.eq_1, bt_xor, ones_bt, if_pos hk32]
              have hnlt := bt_lt (notN (rb l i)) k
              have v1 : IntKind.i64.wrap ((i : Int) + (k : Int)) = ((i + k : Nat) : Int) := by rw [wrap_i64 (by omega)]; simp
              have v2 : IntKind.i64.wrap ((k : Int) + 1) = ((k + 1 : Nat) : Int) := by rw [wrap_i64 (by omega)]; simp
              have v3 : IntKind.u8.wrap (1 - ((G (i + k) : Nat) : Int)) = ((bt (notN (rb l i)) k : Nat) : Int) := by
                rw [wrap_u8 (by omega), ← hnb]; omega
              have v4 : IntKind.u32.wrap ((bt (notN (rb l i)) k : Nat) : Int) = ((bt (notN (rb l i)) k : Nat) : Int) := wrap_u32 (by omega)
              have v5 : IntKind.u64.wrap (k : Int) = (k : Int) := wrap_u64 (by omega)
              have hp : 2 ^ k ≤ 2 ^ 31 := Nat.pow_le_pow_right (by decide) (by omega)
              have hmul : bt (notN (rb l i)) k * 2 ^ k < 2 ^ 32 := by
                have : bt (notN (rb l i)) k * 2 ^ k ≤ 1 * 2 ^ k := Nat.mul_le_mul_right _ (by omega)
                omega
              have v6 : shlI .u32 ((bt (notN (rb l i)) k : Nat) : Int) (k : Int) = ((bt (notN (rb l i)) k * 2 ^ k : Nat) : Int) := by
                have hm : min k IntKind.u32.bits = k := by simp [IntKind.bits]; omega
                unfold shlI
                rw [Int.toNat_natCast, hm]
                have : ((bt (notN (rb l i)) k : Nat) : Int) * (2 : Int) ^ k = ((bt (notN (rb l i)) k * 2 ^ k : Nat) : Int) := by norm_cast
                rw [this]
                exact bits_lt (k := .u32) hmul rfl
              have hacc : notN (rb l i) % 2 ^ k < 2 ^ 32 := Nat.lt_of_le_of_lt (Nat.mod_le _ _) (notN_lt hrl)
              have v7 : bOr .u32 ((notN (rb l i) % 2 ^ k : Nat) : Int) ((bt (notN (rb l i)) k * 2 ^ k : Nat) : Int) = ((notN (rb l i) % 2 ^ (k + 1) : Nat) : Int) := by
                rw [bOr_nat rfl hacc hmul, mask_or]
              simp -implicitDefEqProofs [q_ref02_Of_19, q_ref02_Of_20, f2, f3, f4, f5, v1, v2, v3, v4, v5, v6, v7, hx, tab_get, -Int.natCast_add, -Int.natCast_emod, -Int.natCast_mul, -Int.natCast_pow]
              refine fN (k + 1) _ _ _ (Sub_refl _) ⟨by omega, by simp [f2], by simp, by simp [f4], by simp, rfl⟩ (by omega)
            · refine fE _ _ _ (by simp) ?_
              have : k = 32 := by omega
              subst this
              simp -implicitDefEqProofs [q_ref02_Of_21, f3]
              refine hR _ _ _ ?_
              have hfin : notN (rb l i) % 2 ^ 32 = moreN 0 l := by
                rw [Nat.mod_eq_of_lt (notN_lt (rb_lt l i)), moreN_reg, hrN]
              simp only [a_ref02_Of, fpost, aress, upd_app, outOf]
              refine ⟨H0, H0_sub _, ?_, rfl⟩
              have : ((notN (rb l i) : Nat) : Int) % 4294967296 = ((moreN 0 l : Nat) : Int) := by rw [← hfin]; rfl
              simp [this]
  simp -implicitDefEqProofs [a_ref02_Of, q_ref02_Of_0, q_ref02_Of_1]
  refine call_row (w_ref02_bits l hl hn) (.cons (.refl _) rfl .nil) ?_ ?_
  · intro hnil
    have hl0 : l.length = 0 := by have := congrArg List.length hnil; simp at this; omega
    simp -implicitDefEqProofs
    intro g
    have hz : [(0 : Int), 0, 0, 0, 0, 0, 0, 0, 0, 0, 0, 0, 0, 0, 0, 0, 0, 0, 0, 0, 0, 0, 0, 0, 0, 0, 0, 0, 0, 0, 0, 0] = ints (tab M (rawb l)) := by
      rw [hM, ← raw_tab, hnil]; rfl
    rw [hz]
    simp -implicitDefEqProofs [q_ref02_Of_2]
    refine main g _ _ (Sub_refl _) (by simp [hM, hl0]) (by simp)
  · intro g _
    simp -implicitDefEqProofs +contextual
    refine ⟨by omega, fun g2 _ _ => ?_⟩
    have hz : ints (List.take (8 * l.length) (rawbits l (8 * l.length))) ++ [(0 : Int), 0, 0, 0, 0, 0, 0, 0, 0, 0, 0, 0, 0, 0, 0, 0, 0, 0, 0, 0, 0, 0, 0, 0, 0, 0, 0, 0, 0, 0, 0, 0] = ints (tab M (rawb l)) := by
      rw [hM, ← raw_tab, ← ints_append, List.take_of_length_le (by simp)]; rfl
    rw [hz]
    simp -implicitDefEqProofs [q_ref02_Of_2]
    refine main g2 _ _ (Sub_refl _) (by simp [hM]) (by simp)
end Go.Proofs.Ytkmlndihdcplfaa

/- What a slot map's sector is. -/
namespace Go.Proofs.Ytkmlndihdcplfaa
open Go AVL
attribute [-simp] AV.isAgg aappI aapp alen shp good comps
set_option linter.unusedVariables false
set_option linter.unusedSimpArgs false
set_option maxRecDepth 20000

def Slots (l : List Nat) : Prop := ∀ x ∈ l, x ≤ 2
theorem Slots.bytes {l : List Nat} (h : Slots l) : Bytes l := fun x hx => by have := h x hx; omega
theorem Slots.take {l : List Nat} (h : Slots l) (n : Nat) : Slots (l.take n) := fun x hx => h x (List.mem_of_mem_take hx)
theorem Slots.getD {l : List Nat} (h : Slots l) (k : Nat) : l[k]?.getD 0 ≤ 2 := by
  by_cases hk : k < l.length
  · rw [List.getElem?_eq_getElem hk]; exact h _ (List.getElem_mem hk)
  · rw [List.getElem?_eq_none (by omega)]; simp
def pkv (l : List Nat) (j : Nat) : Nat := l[4 * j]?.getD 0 + 4 * l[4 * j + 1]?.getD 0 + 16 * l[4 * j + 2]?.getD 0 + 64 * l[4 * j + 3]?.getD 0
def pk (l : List Nat) : List Nat := tab ((l.length + 3) / 4) (pkv l)
/-- Sealed: so many bytes, noughts up to 252, and their sum. -/
def sealN (b : List Nat) : List Nat := b.take 252 ++ List.replicate (252 - b.length) 0 ++ fourN (moreN 0 (b.take 252 ++ List.replicate (252 - b.length) 0))
theorem sealN_len (b : List Nat) : (sealN b).length = 256 := by simp [sealN, fourN]; omega
theorem sealN_whole {b : List Nat} (h : b.length ≤ 252) : whole (((whole b).take 252) ++ fourN (moreN 0 ((whole b).take 252))) = sealN b := by
  have e : (whole b).take 252 = b.take 252 ++ List.replicate (252 - b.length) 0 := by
    unfold whole
    rw [List.take_append, List.take_take, List.take_replicate]
    congr 2
    simp; omega
  rw [e]
  unfold whole sealN
  have hl : (b.take 252 ++ List.replicate (252 - b.length) 0 ++ fourN (moreN 0 (b.take 252 ++ List.replicate (252 - b.length) 0))).length = 256 := by simp [fourN]; omega
  rw [List.take_of_length_le (by omega), hl]
  simp
theorem sealN_bytes {b : List Nat} (h : Bytes b) : Bytes (sealN b) := fun x hx => by
  simp only [sealN, List.mem_append] at hx
  rcases hx with (hx | hx) | hx
  · exact h x (List.mem_of_mem_take hx)
  · rw [List.eq_of_mem_replicate hx]; decide
  · exact bytes_four _ x hx
theorem sealN_holds {b : List Nat} : holdsN (sealN b) = true := holds_sealed _
end Go.Proofs.Ytkmlndihdcplfaa

/- Records in sectors, plainly. -/
namespace Go.Proofs.Ytkmlndihdcplfaa
open Go AVL
set_option linter.unusedVariables false
set_option linter.unusedSimpArgs false
set_option maxRecDepth 8000

/-- The number in so many bytes from a place on. -/
def nmA (x : List Nat) (i k : Nat) : Nat := leN ((x.drop i).take k)
theorem nmA_lt {x : List Nat} (hx : Bytes x) (i k : Nat) : nmA x i k < 256 ^ k := by
  have h := leN_lt ((x.drop i).take k) (bytes_take (bytes_drop hx i) k)
  have h2 : ((x.drop i).take k).length ≤ k := by simp; omega
  have h3 : 256 ^ ((x.drop i).take k).length ≤ 256 ^ k := Nat.pow_le_pow_right (by decide) h2
  unfold nmA; omega
theorem le_nmA {x : List Nat} (hx : Bytes x) {i k : Nat} (h : i + k ≤ x.length) : le k (nmA x i k) = (x.drop i).take k := by
  have h1 : ((x.drop i).take k).length = k := by simp; omega
  have h2 := le_leN ((x.drop i).take k) (bytes_take (bytes_drop hx i) k)
  rw [h1] at h2
  exact h2
/-- Nothing but noughts. -/
def zeroL (l : List Nat) : Bool := l.all fun b => decide (b = 0)
theorem zeroL_iff {l : List Nat} : zeroL l = true ↔ l = List.replicate l.length 0 := by
  unfold zeroL
  rw [List.all_eq_true]
  constructor
  · intro h
    exact List.eq_replicate_iff.2 ⟨rfl, fun b hb => by simpa using h b hb⟩
  · intro h b hb
    rw [h] at hb
    simpa using List.eq_of_mem_replicate hb
theorem le_one {k : Nat} (h : k < 256) : le 1 k = [k] := by
  simp [le]
  omega
def mkR : List Nat := [82, 73, 78, 71]
/-- A record's bytes, and its sector. -/
def recB (n : Nat) (b : List Nat) : List Nat := mkR ++ (le 8 n ++ ([b.length] ++ b))
def recS (n : Nat) (b : List Nat) : List Nat := sealN (recB n b)
structure RecOK (n : Nat) (b : List Nat) : Prop where
  num : n ≤ 1099511627776
  len : b.length ≤ 224
  byt : Bytes b
theorem recB_len (n : Nat) (b : List Nat) : (recB n b).length = 13 + b.length := by simp [recB, mkR]; omega
theorem recB_bytes {n : Nat} {b : List Nat} (h : b.length < 256) (hb : Bytes b) : Bytes (recB n b) := bytes_append (by unfold Bytes mkR; decide) (bytes_append (le_bytes _ _) (bytes_append (fun x hx => by
  simp only [List.mem_singleton] at hx
  omega) hb))
theorem recS_len (n : Nat) (b : List Nat) : (recS n b).length = 256 := sealN_len _
theorem recS_bytes {n : Nat} {b : List Nat} (h : RecOK n b) : Bytes (recS n b) := sealN_bytes (recB_bytes (by have := h.len; omega) h.byt)
/-- A sector, in its parts. -/
theorem recS_eq {n : Nat} {b : List Nat} (h : b.length ≤ 224) : recS n b = (recB n b ++ List.replicate (239 - b.length) 0) ++ fourN (moreN 0 (recB n b ++ List.replicate (239 - b.length) 0)) := by
  have hl := recB_len n b
  unfold recS sealN
  rw [List.take_of_length_le (by omega), hl, show 252 - (13 + b.length) = 239 - b.length by omega]
/-- What the program asks of a sector. -/
def getK (x : List Nat) : Nat := nmA x 12 1
def getN (x : List Nat) : Nat := nmA x 4 8
def getB (x : List Nat) : List Nat := (x.drop 13).take (getK x)
def getO (x : List Nat) : Bool := holdsN x && (decide (x.take 4 = mkR) && (decide (getN x ≤ 1099511627776) && (decide (getK x ≤ 224) && zeroL ((x.drop (13 + getK x)).take (239 - getK x)))))
theorem getB_ok {x : List Nat} (hx : Bytes x) (hl : x.length = 256) (h : getO x = true) : RecOK (getN x) (getB x) ∧ x = recS (getN x) (getB x) := by
  unfold getO at h
  simp only [Bool.and_eq_true, decide_eq_true_eq] at h
  obtain ⟨h1, h2, h3, h4, h5⟩ := h
  have hbl : (getB x).length = getK x := by unfold getB; simp; omega
  have hok : RecOK (getN x) (getB x) := ⟨h3, by omega, bytes_take (bytes_drop hx _) _⟩
  refine ⟨hok, ?_⟩
  have hkb : getK x < 256 := by have := nmA_lt hx 12 1; unfold getK; omega
  have e8 : le 8 (getN x) = (x.drop 4).take 8 := le_nmA hx (by omega)
  have e1 : [getK x] = (x.drop 12).take 1 := by
    rw [← le_one hkb]; exact le_nmA hx (by omega)
  have hz := zeroL_iff.1 h5
  have hzl : ((x.drop (13 + getK x)).take (239 - getK x)).length = 239 - getK x := by simp; omega
  rw [hzl] at hz
  rw [recS_eq hok.len, hbl]
  obtain ⟨k, hk⟩ : ∃ k, k = getK x := ⟨_, rfl⟩
  have hrec : recB (getN x) (getB x) ++ List.replicate (239 - k) 0 = x.take 252 := by
    unfold recB
    rw [e8, hbl, e1, ← h2, hk, ← hz, ← hk]
    have hgb : getB x = (x.drop 13).take k := by rw [hk]; rfl
    rw [hgb]
    have t := fun a b => List.take_add (l := x) (i := a) (j := b)
    rw [show (252 : Nat) = 4 + 8 + 1 + k + (239 - k) by omega, t, t, t, t]
    simp only [List.append_assoc, Nat.reduceAdd]
  rw [← hk, hrec]
  unfold holdsN at h1
  rw [hl] at h1
  simp only [Bool.and_eq_true, beq_iff_eq] at h1
  have h6 := h1.2
  rw [show 256 - 4 = 252 by rfl] at h6
  rw [h6, List.take_append_drop]
theorem get_rec {n : Nat} {b : List Nat} (h : RecOK n b) : getO (recS n b) = true ∧ getN (recS n b) = n ∧ getB (recS n b) = b ∧ getK (recS n b) = b.length := by
  have hl := h.len
  have hn := h.num
  have hh : holdsN (recS n b) = true := sealN_holds
  obtain ⟨R, hR⟩ : ∃ R, R = fourN (moreN 0 (recB n b ++ List.replicate (239 - b.length) 0)) := ⟨_, rfl⟩
  have e : recS n b = mkR ++ (le 8 n ++ ([b.length] ++ (b ++ (List.replicate (239 - b.length) 0 ++ R)))) := by
    rw [recS_eq hl, ← hR]
    unfold recB
    simp only [List.append_assoc]
  have l4 : mkR.length = 4 := rfl
  have l8 : (le 8 n).length = 8 := le_length 8 n
  have t4 : (recS n b).take 4 = mkR := by rw [e, List.take_append_of_le_length (by omega), List.take_of_length_le (by omega)]
  have d4 : (recS n b).drop 4 = le 8 n ++ ([b.length] ++ (b ++ (List.replicate (239 - b.length) 0 ++ R))) := by rw [e, List.drop_append_of_le_length (by omega), List.drop_of_length_le (by omega), List.nil_append]
  have d12 : (recS n b).drop 12 = [b.length] ++ (b ++ (List.replicate (239 - b.length) 0 ++ R)) := by
    rw [show 12 = 4 + 8 by rfl, ← List.drop_drop, d4, List.drop_append_of_le_length (by omega), List.drop_of_length_le (by omega), List.nil_append]
  have d13 : (recS n b).drop 13 = b ++ (List.replicate (239 - b.length) 0 ++ R) := by
    rw [show 13 = 12 + 1 by rfl, ← List.drop_drop, d12]; rfl
  have hN : getN (recS n b) = n := by
    unfold getN nmA
    rw [d4, List.take_append_of_le_length (by omega), List.take_of_length_le (by omega)]
    exact leN_le 8 _ (by omega)
  have hK : getK (recS n b) = b.length := by
    unfold getK nmA
    rw [d12, ← le_one (show b.length < 256 by omega), List.take_append_of_le_length (by simp), List.take_of_length_le (by simp)]
    exact leN_le 1 _ (by omega)
  have hB : getB (recS n b) = b := by
    unfold getB
    rw [hK, d13, List.take_append_of_le_length (by omega), List.take_of_length_le (by omega)]
  refine ⟨?_, hN, hB, hK⟩
  unfold getO
  rw [hh, t4, hN, hK]
  have hz : zeroL (((recS n b).drop (13 + b.length)).take (239 - b.length)) = true := by
    rw [← List.drop_drop, d13, List.drop_append_of_le_length (by omega), List.drop_of_length_le (by omega), List.nil_append, List.take_append_of_le_length (by simp), List.take_of_length_le (by simp)]
    rw [zeroL_iff]; simp
  rw [hz]
  simp [hn, hl]
theorem recS_inj {n m : Nat} {b c : List Nat} (h : RecOK n b) (k : RecOK m c) (e : recS n b = recS m c) : n = m ∧ b = c := by
  have h1 := get_rec h
  have h2 := get_rec k
  rw [e] at h1
  exact ⟨h1.2.1.symm.trans h2.2.1, h1.2.2.1.symm.trans h2.2.2.1⟩
theorem getO_iff {x : List Nat} (hx : Bytes x) (hl : x.length = 256) : getO x = true ↔ getN x ≤ 1099511627776 ∧ getK x ≤ 224 ∧ recS (getN x) (getB x) = x := by
  constructor
  · intro h
    have h1 := getB_ok hx hl h
    refine ⟨h1.1.num, ?_, h1.2.symm⟩
    unfold getO at h
    simp only [Bool.and_eq_true, decide_eq_true_eq] at h
    exact h.2.2.2.1
  · rintro ⟨h1, h2, h3⟩
    have hbl : (getB x).length = getK x := by unfold getB; simp; omega
    have h4 := get_rec (n := getN x) (b := getB x) ⟨h1, by omega, bytes_take (bytes_drop hx _) _⟩
    rw [h3] at h4
    exact h4.1
/-- A sector of noughts is no record's. -/
theorem getO_z : getO (List.replicate 256 0) = false := by
  have : decide ((List.replicate 256 0).take 4 = mkR) = false := by decide
  unfold getO
  rw [this]
  simp
end Go.Proofs.Ytkmlndihdcplfaa

/- The walks of a slot map's Put and of the reference's sealed sector. -/
namespace Go.Proofs.Ytkmlndihdcplfaa
open Go AVL
attribute [-simp] AV.isAgg aappI aapp alen shp good comps
set_option linter.unusedVariables false
set_option linter.unusedSimpArgs false
set_option maxRecDepth 20000

section
variable {A B C : Heap} {K Kp : AV → Heap → Prop} {P : Program}
theorem le_four (s : Nat) : le 4 s = fourN s := by
  simp [le, fourN]
  omega
theorem fill_step {S : List Nat} {n i : Nat} (hS : S.length = n) (h : i < n) : (S.take i ++ List.replicate (n - i) 0).set i (S[i]'(by omega)) = S.take (i + 1) ++ List.replicate (n - (i + 1)) 0 := by
  have hl : (S.take i).length = i := by simp; omega
  rw [List.set_append_right _ _ (by omega), hl, Nat.sub_self, show n - i = (n - (i + 1)) + 1 by omega, List.replicate_succ, List.set_cons_zero, List.take_succ_eq_append_getElem (by omega), List.append_assoc]; rfl
theorem w_ref08_Sealed {b : List Nat} (hb : Bytes b) (hlen : b.length ≤ 252) : Gives Try.prog F_ref08_Sealed [.isl .u8 (ints b)] (.iarr .u8 256 (ints (sealN b))) := by
  refine v_ref08_Sealed (by simp) ?_
  simp -implicitDefEqProofs [a_ref08_Sealed, q_ref08_Sealed_0, q_ref08_Sealed_1, q_ref08_Sealed_2, -List.reduceReplicate]
  intro g2
  refine (SlS.nil (e := 5) (k := .u8) (Sub_refl _)).appS (ys := ints b) (Sub_refl _) srcI_isl (by simp; omega) fun v C hv hag => ?_
  have hs := hv.scl
  rw [List.nil_append] at hv
  have c2 := hv.sub _ _ set_eq'
  simp -implicitDefEqProofs [-List.reduceReplicate]
  refine X_lp (fun (n : Nat) env E => n ≤ 252 - b.length ∧ env 2 = .ptr g2 0 ∧ SlS 5 .u8 (env 3) (ints (b ++ List.replicate n 0)) (H0.set g2 (.var 23 [.iarr .u8 256 (List.replicate 256 0)])) E) (fun n => 252 - b.length - n) 0
    ⟨by omega, by simp, by simpa using hv⟩ ?_
  clear v hv hag hs C c2
  rintro n env E ⟨hn, e2, hv⟩
  obtain ⟨v, e3⟩ : ∃ v, env 3 = v := ⟨_, rfl⟩
  rw [e3] at hv
  have hs := hv.scl
  by_cases hlt : n < 252 - b.length
  · have hlt' : (b.length : Int) + n < 252 := by omega
    simp -implicitDefEqProofs [q_ref08_Sealed_L5, q_ref08_Sealed_3, q_ref08_Sealed_4, e2, e3, hv.len, hlt', hs.size, hs.shp, hs.agg, hs.good, hs.comps, hs.st, -List.reduceReplicate]
    intro g9 h9
    refine hv.appS (ys := [0]) (sub_none h9) (srcI_row set_eq' rfl) (by simp; omega) fun v2 C2 hv2 hag2 => ?_
    have hs2 := hv2.scl
    simp -implicitDefEqProofs [-List.reduceReplicate]
    refine lp_next (n + 1) ⟨by omega, by simp [e2], ?_⟩ (by omega)
    rw [List.replicate_succ', ← List.append_assoc]
    simpa [ints, -List.reduceReplicate] using hv2
  · have hne : n = 252 - b.length := by omega
    have hlt' : ¬ (b.length : Int) + n < 252 := by omega
    obtain ⟨L, hL⟩ : ∃ L, b ++ List.replicate n 0 = L := ⟨_, rfl⟩
    have hLl : L.length = 252 := by rw [← hL]; simp; omega
    have hLb : Bytes L := fun x hx => by
      rw [← hL] at hx
      rcases List.mem_append.1 hx with hx | hx
      · exact hb x hx
      · rw [List.eq_of_mem_replicate hx]; decide
    have hsl : sealN b = L ++ fourN (moreN 0 L) := by
      have : b.take 252 ++ List.replicate (252 - b.length) 0 = L := by rw [List.take_of_length_le hlen, ← hne]; exact hL
      unfold sealN; rw [this]
    rw [hL] at hv
    have hm := moreN_lt (s := 0) (by decide) hLb
    have wu : IntKind.u64.wrap ((moreN 0 L : Nat) : Int) = ((moreN 0 L : Nat) : Int) := wrap_u64 (by omega)
    simp -implicitDefEqProofs [q_ref08_Sealed_L5, q_ref08_Sealed_3, q_ref08_Sealed_5, e2, e3, hv.len, hLl, hs.size, hs.shp, hs.agg, hs.good, hs.comps, hs.st, -List.reduceReplicate]
    refine (w_ref02_Of L hLb (by omega)).call (.cons hv.vw hs.agg .nil) rfl ?_
    simp -implicitDefEqProofs [wu, -List.reduceReplicate]
    refine (w_ref01_Put 4 (moreN 0 L) (by omega) (by decide)).call (.cons (.refl _) rfl (.cons (.refl _) rfl .nil)) fun v4 C4 h4 => ?_
    have h4s := h4.scl
    simp -implicitDefEqProofs [h4s.agg, -List.reduceReplicate]
    obtain ⟨gq, g1, g2', g3⟩ := h4.pos (by simp)
    subst g1
    refine hv.appS (ys := ints (fourN (moreN 0 L))) h4.sub (srcI_row (by rw [← le_four]; exact g3) (by simp [fourN])) (by simp [hLl, fourN]) fun v5 C5 hv5 hag5 => ?_
    rw [ints_append, ← hsl] at hv5
    obtain ⟨S, hS⟩ : ∃ S, sealN b = S := ⟨_, rfl⟩
    have hSl : S.length = 256 := by rw [← hS]; exact sealN_len b
    rw [hS] at hv5 ⊢
    obtain ⟨x, r1, r2, r3⟩ := hv5.pos (by simp [hSl])
    subst r1
    have c2 := hv5.sub _ _ set_eq'
    simp -implicitDefEqProofs [hSl, q_ref08_Sealed_6, q_ref08_Sealed_7, -List.reduceReplicate]
    intro g4 h4'
    have nx4 := fresh_ne r3 h4'
    have n24 := fresh_ne c2 h4'
    refine X_lp (fun (i : Nat) env E => i ≤ 256 ∧ env 2 = .ptr g2 0 ∧ env 3 = .own x 0 256 ∧ env 4 = .ptr g4 0 ∧ env 5 = .int .i64 i ∧ E = C5.set g4 (.var 23 [.iarr .u8 256 (ints (S.take i ++ List.replicate (256 - i) 0))])) (fun i => 256 - i) 0
      ⟨by omega, by simp [e2], by simp, by simp, by simp, by simp [ints, -List.reduceReplicate]⟩ ?_
    rintro i env E ⟨hi, e2, e3, e4, e5, rfl⟩
    by_cases hil : i < 256
    · have hil' : (i : Int) < 256 := by omega
      have wi : IntKind.i64.wrap ((i : Int) + 1) = (i : Int) + 1 := wrap_i64 (by omega)
      simp -implicitDefEqProofs [q_ref08_Sealed_L11, q_ref08_Sealed_8, q_ref08_Sealed_9, q_ref08_Sealed_10, e2, e3, e4, e5, hil, hil', wi, nx4, r3, hSl, -List.reduceReplicate]
      refine ⟨by omega, lp_next (i + 1) ⟨by omega, by simp [e2], by simp [e3], by simp [e4], by simp, ?_⟩ (by omega)⟩
      rw [fill_step hSl hil]
    · have hie : i = 256 := by omega
      subst hie
      simp -implicitDefEqProofs [q_ref08_Sealed_L11, q_ref08_Sealed_8, q_ref08_Sealed_11, e2, e3, e4, e5, n24, c2, hSl, -List.reduceReplicate]
      rw [List.take_of_length_le (by omega)]
end
end Go.Proofs.Ytkmlndihdcplfaa

/- The walks of a cursor over a sector. -/
namespace Go.Proofs.Ytkmlndihdcplfaa
open Go AVL
set_option linter.unusedVariables false
set_option linter.unusedSimpArgs false
set_option maxRecDepth 8000

section
variable {A B : Heap} {K Kp : AV → Heap → Prop}
/-- A cursor: what of a sector is still to be read. -/
structure CurI (g g1 : Nat) (x : List Nat) (at_ m : Nat) (B : Heap) : Prop where
  cg : B g = some (.var T_word_Cursor [.asl g1 0 256 at_ m, .bool false])
  c1 : B g1 = some (.var T_256_uint8 [.iarr .u8 256 (ints x)])
  le : at_ + m ≤ 256
theorem w_word_From {g1 at_ m : Nat} {x : List Nat} (h1 : B g1 = some (.var T_256_uint8 [.iarr .u8 256 (ints x)])) (hle : at_ + m ≤ 256) (hk : ∀ g B', B g = none → CurI g g1 x at_ m B' → B.Sub B' → K (.ptr g 0) B') : SimX Try.prog F_word_From [.asl g1 0 256 at_ m] B (outK K Kp) := by
  refine j_word_From (by simp) ?_
  simp -implicitDefEqProofs [a_word_From, q_word_From_0, q_word_From_1, outOf]
  intro g hg
  exact hk g _ hg ⟨set_eq', by rw [set_ne' (fun e => by rw [e, hg] at h1; cases h1)]; exact h1, hle⟩ (sub_none hg)
theorem w_Cursor_Bytes {g g1 at_ m n : Nat} {x : List Nat} (hx : Bytes x) (hxl : x.length = 256) (h : CurI g g1 x at_ m B) (hn : n ≤ m)
    (hk : ∀ g' B', CurI g g1 x (at_ + n) (m - n) B' → B g' = none → B' g' = some (.irow T_uint8 .u8 (ints ((x.drop at_).take n))) → (∀ y c, y ≠ g → B y = some c → B' y = some c) → K (.own g' 0 n) B') : SimX Try.prog F_Pword_Cursor_Bytes [.ptr g 0, .int .i64 n] B (outK K Kp) := by
  refine j_Pword_Cursor_Bytes (by simp) ?_
  have cg := h.cg
  have c1 := h.c1
  have hle := h.le
  have n0 : ¬ (n : Int) < 0 := by omega
  have n0' : (0 : Int) ≤ n := by omega
  have nm : ¬ (m : Int) < n := by omega
  have nm' : (n : Int) ≤ m := by omega
  have hbig : (n : Int) ≤ 140737488355328 := by omega
  unfold a_Pword_Cursor_Bytes
  obtain ⟨r4, hr4⟩ : ∃ r, r = q_Pword_Cursor_Bytes_4 := ⟨_, rfl⟩; rw [← hr4]
  obtain ⟨r5, hr5⟩ : ∃ r, r = q_Pword_Cursor_Bytes_5 := ⟨_, rfl⟩; rw [← hr5]
  obtain ⟨r6, hr6⟩ : ∃ r, r = q_Pword_Cursor_Bytes_6 := ⟨_, rfl⟩; rw [← hr6]
  simp -implicitDefEqProofs [q_Pword_Cursor_Bytes_0, q_Pword_Cursor_Bytes_1, cg, n0, nm]
  simp -implicitDefEqProofs [-List.reduceReplicate, hr4, q_Pword_Cursor_Bytes_4, n0', hbig]
  intro g' hg'
  have ng : ¬ g = g' := fun e => by rw [e, hg'] at cg; cases cg
  have n1 : ¬ g1 = g' := fun e => by rw [e, hg'] at c1; cases c1
  simp -implicitDefEqProofs [-List.reduceReplicate, hr5, q_Pword_Cursor_Bytes_5, cg, ng, acopy]
  have hcpy : spl (List.replicate n 0) 0 (ints (((x.drop at_).take m).take n)) = ints ((x.drop at_).take n) := by
    rw [List.take_take, Nat.min_eq_left hn]
    have hl : (ints ((x.drop at_).take n)).length = n := by simp; omega
    unfold spl
    have h2 : (List.replicate n (0 : Int)).drop (0 + (ints ((x.drop at_).take n)).length) = [] := List.drop_of_length_le (by rw [List.length_replicate]; omega)
    rw [h2]; simp
  simp -implicitDefEqProofs [-List.reduceReplicate, c1, n1, hxl]
  rw [hcpy]
  obtain ⟨Y, hY⟩ : ∃ Y, Y = B.set g' (.irow T_uint8 .u8 (ints ((x.drop at_).take n))) := ⟨_, rfl⟩
  have hY' : B.set g' (.irow 5 .u8 (ints ((x.drop at_).take n))) = Y := hY.symm
  try simp only [hY']
  have yg : Y g = some (.var T_word_Cursor [.asl g1 0 256 at_ m, .bool false]) := by rw [hY, set_ne' ng]; exact cg
  have y1 : Y g1 = some (.var T_256_uint8 [.iarr .u8 256 (ints x)]) := by rw [hY, set_ne' n1]; exact c1
  have yn : Y g' = some (.irow T_uint8 .u8 (ints ((x.drop at_).take n))) := by rw [hY, set_eq']
  have hs : B.Sub Y := by rw [hY]; exact sub_none hg'
  clear hY hY'
  have hng1 : ¬ g1 = g := fun e => by rw [e, cg] at c1; cases c1
  simp -implicitDefEqProofs [hr6, q_Pword_Cursor_Bytes_6, q_Pword_Cursor_Bytes_7, yg, n0', nm', outOf]
  refine hk g' _ ⟨set_eq', by rw [set_ne' hng1]; exact y1, by omega⟩ hg' (by rw [set_ne' (fun e => ng e.symm)]; exact yn) fun y c hy hc => by rw [set_ne' hy]; exact hs _ _ hc
theorem w_Cursor_Num {g g1 at_ m n : Nat} {x : List Nat} (hx : Bytes x) (hxl : x.length = 256) (h : CurI g g1 x at_ m B) (hn : n ≤ m) (hn8 : n ≤ 8)
    (hk : ∀ B', CurI g g1 x (at_ + n) (m - n) B' → (∀ y c, y ≠ g → B y = some c → B' y = some c) → K (.int .u64 (leN ((x.drop at_).take n))) B') : SimX Try.prog F_Pword_Cursor_Num [.ptr g 0, .int .i64 n] B (outK K Kp) := by
  refine j_Pword_Cursor_Num (by simp) ?_
  simp -implicitDefEqProofs [a_Pword_Cursor_Num, q_Pword_Cursor_Num_0, q_Pword_Cursor_Num_1]
  refine w_Cursor_Bytes hx hxl h hn fun g' B' hc hg' hr hkp => ?_
  simp -implicitDefEqProofs
  have hl : ((x.drop at_).take n).length = n := by have := h.le; simp; omega
  refine (w_word_Get ((x.drop at_).take n) (bytes_take (bytes_drop hx at_) n) (by omega)).call (.cons (vw_irow hr (by simp [hl])) rfl .nil) rfl ?_
  simp -implicitDefEqProofs [outOf]
  exact hk B' hc hkp
/-- Nothing but noughts. -/
def zeroB (l : List Nat) : Bool := l.all fun b => decide (b = 0)
structure ZerI (l : List Nat) (i : Nat) (env : AEnv) (B : Heap) : Prop where
  le : i ≤ l.length
  eq : zeroB l = zeroB (l.drop i)
  e5 : env 5 = .isl .u8 (ints l)
  e6 : env 6 = .int .i64 l.length
  e7 : env 7 = .int .i64 i
theorem w_word_Zero {l : List Nat} (hl : l.length < 2 ^ 40) : Gives Try.prog F_word_Zero [.isl .u8 (ints l)] (.bool (zeroB l)) := by
  refine v_word_Zero (by simp) ?_
  simp -implicitDefEqProofs [a_word_Zero, q_word_Zero_0, q_word_Zero_1]
  refine X_lp (ZerI l) (fun i => l.length - i) 0 ⟨by omega, by simp, by simp, by simp, by simp⟩ ?_
  rintro i env B ⟨hi, heq, e5, e6, e7⟩
  simp -implicitDefEqProofs [q_word_Zero_L7, q_word_Zero_2, e6, e7]
  refine ⟨fun hlt => ?_, fun hge => ?_⟩
  · have hii : (i : Int) < l.length := by omega
    have wi : IntKind.i64.wrap ((i : Int) + 1) = (i : Int) + 1 := wrap_i64 (by omega)
    rw [List.drop_eq_getElem_cons hlt] at heq
    obtain ⟨b, hb⟩ : ∃ b, b = l[i] := ⟨_, rfl⟩
    rw [← hb] at heq
    have hbd : l[i]?.getD 0 = b := by rw [List.getElem?_eq_getElem hlt, hb]; rfl
    by_cases hz : b = 0
    · have hl0 : l[i] = 0 := by rw [← hb]; exact hz
      have hz2 : zeroB l = zeroB (l.drop (i + 1)) := by rw [heq]; simp [zeroB, hz]
      simp -implicitDefEqProofs [q_word_Zero_3, q_word_Zero_4, q_word_Zero_6, e5, e7, hlt, hii, hbd, hz, hl0, wi]
      exact lp_next (i + 1) ⟨by omega, hz2, by simp [e5], by simp [e6], by simp⟩ (by omega)
    · have hz2 : zeroB l = false := by rw [heq]; simp [zeroB, hz]
      have hl0 : ¬ l[i] = 0 := by rw [← hb]; exact hz
      have hz' : ¬ (b : Int) = 0 := by omega
      simp -implicitDefEqProofs [q_word_Zero_3, q_word_Zero_4, q_word_Zero_5, e5, e7, hlt, hii, hbd, hz, hl0, hz', a_word_Zero, outOf, hz2]
  · have hz2 : zeroB l = true := by rw [heq, List.drop_of_length_le (by omega)]; rfl
    simp -implicitDefEqProofs [q_word_Zero_7, a_word_Zero, outOf, hz2]
theorem w_Cursor_Rest {g g1 at_ m : Nat} {x : List Nat} (hxl : x.length = 256) (h : CurI g g1 x at_ m B) (hk : K (.bool (zeroB ((x.drop at_).take m))) B) : SimX Try.prog F_Pword_Cursor_Rest [.ptr g 0] B (outK K Kp) := by
  refine j_Pword_Cursor_Rest (by simp) ?_
  have cg := h.cg
  simp -implicitDefEqProofs [a_Pword_Cursor_Rest, q_Pword_Cursor_Rest_0, q_Pword_Cursor_Rest_1, cg]
  have hv := vw_arrP (i := at_) (n := m) h.c1 (by simp [hxl])
  rw [ints_drop, ints_take] at hv
  refine (w_word_Zero (l := (x.drop at_).take m) (by simp; omega)).call (.cons hv rfl .nil) rfl ?_
  simp -implicitDefEqProofs [outOf]
  exact hk
end
end Go.Proofs.Ytkmlndihdcplfaa

/- Abstract programs; that they are the program's. -/
namespace Go.Proofs.Ytkmlndihdcplfaa
open Go AVL
set_option linter.unusedVariables false
set_option maxRecDepth 20000

def q_disk_New_0 : List AOper := [
  ⟨(some 2), (.mv (.v .nilP)), none⟩,
  ⟨(some 3), (.mv (.v (.int .i64 0))), none⟩]
def q_disk_New_1 : List AOper := [
  ⟨(some 4), (.mv (.t 0)), none⟩,
  ⟨(some 5), (.bin .lss (.t 4) (.v (.int .i64 1))), none⟩,
  ⟨(some 6), (.mv (.t 5)), none⟩,
  ⟨(some 7), (.mv (.t 0)), (some (6, false))⟩,
  ⟨(some 8), (.bin .gtr (.t 7) (.v (.int .i64 4096))), (some (6, false))⟩,
  ⟨(some 9), (.pick (.t 6) (.v (.bool true)) (.t 8)), none⟩]
def q_disk_New_2 : List AOper := [
  ⟨(some 2), (.mv (.v .nilP)), none⟩,
  ⟨(some 3), (.mv (.v (.int .i64 2))), none⟩]
def q_disk_New_3 : List AOper := [
  ⟨(some 10), (.mv (.t 0)), none⟩,
  ⟨(some 11), (.mk 23 256 256 (.iarr .u8 256 (List.replicate 256 0)) (.t 10) (.t 10)), none⟩,
  ⟨(some 12), (.xx (.mkM .i64) []), none⟩,
  ⟨(some 13), (.build .ag [.nilS, .nilS, .nilM, (.int .i64 0), (.int .i64 0), (.bool false)] [(0, (1, (.t 11))), (2, (1, (.t 12))), (4, (1, (.v (.int .i64 (-1)))))]), none⟩,
  ⟨(some 14), (.box 130 .ag (.t 13)), none⟩,
  ⟨(some 2), (.mv (.t 14)), none⟩,
  ⟨(some 3), (.mv (.v (.int .i64 0))), none⟩]
def a_disk_New : AFunc := ⟨[(.tmp 2), (.tmp 3)], (.seq (.region q_disk_New_0) (.seq (.seq (.region q_disk_New_1) (.cond (.t 9) (.seq (.region q_disk_New_2) .ret) .skip)) (.seq (.region q_disk_New_3) .ret)))⟩

def q_Pdisk_Disk_Fuse_0 : List AOper := [
  ⟨(some 4), (.mv (.t 0)), none⟩,
  ⟨(some 5), (.mv (.t 1)), none⟩,
  ⟨(some 6), (.xx (.p (.mnI true)) [(.t 5), (.v (.int .i64 (-1)))]), none⟩,
  ⟨(some 7), (.xx (.p .nilCk) [(.t 4)]), none⟩,
  ⟨(some 8), (.fadr 4 1 .sc (.t 7)), none⟩,
  ⟨none, (.store .sc 1 (.t 8) (.t 6)), none⟩]
def a_Pdisk_Disk_Fuse : AFunc := ⟨[], (.region q_Pdisk_Disk_Fuse_0)⟩

def q_Pdisk_Disk_Down_0 : List AOper := [
  ⟨(some 2), (.mv (.v (.bool false))), none⟩]
def q_Pdisk_Disk_Down_1 : List AOper := [
  ⟨(some 3), (.mv (.t 0)), none⟩,
  ⟨(some 4), (.xx (.p .nilCk) [(.t 3)]), none⟩,
  ⟨(some 5), (.fadr 5 1 .sc (.t 4)), none⟩,
  ⟨(some 6), (.load .sc 1 (.t 5)), none⟩,
  ⟨(some 2), (.mv (.t 6)), none⟩]
def a_Pdisk_Disk_Down : AFunc := ⟨[(.tmp 2)], (.seq (.region q_Pdisk_Disk_Down_0) (.seq (.region q_Pdisk_Disk_Down_1) .ret))⟩

def q_Pdisk_Disk_Crash_0 : List AOper := [
  ⟨(some 3), (.box 61 .sc (.t 1)), none⟩,
  ⟨(some 4), (.mv (.v (.int .i64 0))), none⟩]
def q_Pdisk_Disk_Crash_1 : List AOper := [
  ⟨(some 5), (.mv (.t 0)), none⟩,
  ⟨(some 6), (.mv (.t 0)), none⟩,
  ⟨(some 7), (.xx (.p .nilCk) [(.t 5)]), none⟩,
  ⟨(some 8), (.fadr 5 1 .sc (.t 7)), none⟩,
  ⟨none, (.store .sc 1 (.t 8) (.v (.bool false))), none⟩,
  ⟨(some 9), (.xx (.p .nilCk) [(.t 6)]), none⟩,
  ⟨(some 10), (.fadr 4 1 .sc (.t 9)), none⟩,
  ⟨none, (.store .sc 1 (.t 10) (.v (.int .i64 (-1)))), none⟩]
def q_Pdisk_Disk_Crash_2 : List AOper := [
  ⟨(some 11), (.mv (.t 0)), none⟩,
  ⟨(some 12), (.xx (.p (.mkF (.func F_Pdisk_Disk_Crash_1) 0)) [(.t 3)]), none⟩,
  ⟨(some 13), (.call F_Pdisk_Disk_settle [(.sc, (.t 11)), (.sc, (.t 12))]), none⟩,
  ⟨(some 4), (.mv (.t 13)), none⟩]
def a_Pdisk_Disk_Crash : AFunc := ⟨[(.tmp 4)], (.seq (.region q_Pdisk_Disk_Crash_0) (.seq (.region q_Pdisk_Disk_Crash_1) (.seq (.region q_Pdisk_Disk_Crash_2) .ret)))⟩

def q_Pdisk_Disk_Write_0 : List AOper := [
  ⟨(some 5), (.box 23 (.ia .u8 256) (.t 2)), none⟩,
  ⟨(some 6), (.mv (.v (.int .i64 0))), none⟩]
def q_Pdisk_Disk_Write_1 : List AOper := [
  ⟨(some 8), (.mv (.t 0)), none⟩,
  ⟨(some 9), (.mv (.t 1)), none⟩,
  ⟨(some 10), (.call F_Pdisk_Disk_inside [(.sc, (.t 8)), (.sc, (.t 9))]), none⟩,
  ⟨(some 11), (.un .not (.t 10)), none⟩]
def q_Pdisk_Disk_Write_2 : List AOper := [
  ⟨(some 6), (.mv (.v (.int .i64 2))), none⟩]
def q_Pdisk_Disk_Write_3 : List AOper := [
  ⟨(some 12), (.mv (.t 0)), none⟩,
  ⟨(some 13), (.call F_Pdisk_Disk_step [(.sc, (.t 12))]), none⟩,
  ⟨(some 7), (.mv (.t 13)), none⟩]
def q_Pdisk_Disk_Write_4 : List AOper := [
  ⟨(some 14), (.mv (.t 7)), none⟩,
  ⟨(some 15), (.eq .scI true (.t 14) (.v (.int .i64 0))), none⟩]
def q_Pdisk_Disk_Write_5 : List AOper := [
  ⟨(some 16), (.mv (.t 7)), none⟩,
  ⟨(some 6), (.mv (.t 16)), none⟩]
def q_Pdisk_Disk_Write_6 : List DOp := [
  ⟨⟨(some 17), (.mv (.t 0)), none⟩, true, false, none, []⟩,
  ⟨⟨(some 18), (.mv (.t 0)), none⟩, true, false, none, []⟩,
  ⟨⟨(some 19), (.xx (.p .nilCk) [(.t 18)]), none⟩, true, false, none, []⟩,
  ⟨⟨(some 20), (.fadr 1 1 .sc (.t 19)), none⟩, true, false, none, []⟩,
  ⟨⟨(some 21), (.load .sc 1 (.t 20)), none⟩, true, false, none, []⟩,
  ⟨⟨(some 22), (.mv (.t 1)), none⟩, true, false, none, []⟩,
  ⟨⟨(some 23), (.load (.ia .u8 256) 256 (.t 5)), none⟩, true, false, none, []⟩,
  ⟨⟨(some 24), (.build .ag [(.int .i64 0), (.iarr .u8 256 (List.replicate 256 0))] [(0, (1, (.t 22))), (1, (256, (.t 23)))]), none⟩, true, false, none, []⟩,
  ⟨⟨(some 25), (.bsl 170 .ag 257 [(.t 24)]), none⟩, false, false, none, []⟩,
  ⟨⟨(some 26), (.app 170 257 264 (.t 21) (.t 25)), none⟩, false, false, none, []⟩,
  ⟨⟨(some 27), (.xx (.p .nilCk) [(.t 17)]), none⟩, true, false, none, []⟩,
  ⟨⟨(some 28), (.fadr 1 1 .sc (.t 27)), none⟩, true, false, none, []⟩,
  ⟨⟨none, (.store .sc 1 (.t 28) (.t 26)), none⟩, false, false, none, []⟩]
def q_Pdisk_Disk_Write_7 : List DOp := [
  ⟨⟨(some 29), (.mv (.t 0)), none⟩, true, false, none, []⟩,
  ⟨⟨(some 30), (.xx (.p .nilCk) [(.t 29)]), none⟩, true, false, none, []⟩,
  ⟨⟨(some 31), (.fadr 2 1 .sc (.t 30)), none⟩, true, false, none, []⟩,
  ⟨⟨(some 32), (.load .sc 1 (.t 31)), none⟩, true, false, none, []⟩,
  ⟨⟨(some 33), (.mv (.t 1)), none⟩, true, false, none, []⟩,
  ⟨⟨(some 34), (.load (.ia .u8 256) 256 (.t 5)), none⟩, true, false, none, []⟩,
  ⟨⟨none, (.xx (.upM .i64) [(.t 32), (.t 33), (.t 34)]), none⟩, false, false, none, []⟩]
def q_Pdisk_Disk_Write_8 : List AOper := [
  ⟨(some 6), (.mv (.v (.int .i64 0))), none⟩]
def a_Pdisk_Disk_Write : AFunc := ⟨[(.tmp 6)], (.seq (.region q_Pdisk_Disk_Write_0) (.seq (.seq (.region q_Pdisk_Disk_Write_1) (.cond (.t 11) (.seq (.region q_Pdisk_Disk_Write_2) .ret) .skip)) (.seq (.seq (.region q_Pdisk_Disk_Write_3) (.seq (.region q_Pdisk_Disk_Write_4) (.cond (.t 15) (.seq (.region q_Pdisk_Disk_Write_5) .ret) .skip))) (.seq (.regionD q_Pdisk_Disk_Write_6) (.seq (.regionD q_Pdisk_Disk_Write_7) (.seq (.region q_Pdisk_Disk_Write_8) .ret))))))⟩

def q_Pdisk_Disk_Flush_0 : List AOper := [
  ⟨(some 2), (.mv (.v (.int .i64 0))), none⟩]
def q_Pdisk_Disk_Flush_1 : List AOper := [
  ⟨(some 4), (.mv (.t 0)), none⟩,
  ⟨(some 5), (.call F_Pdisk_Disk_step [(.sc, (.t 4))]), none⟩,
  ⟨(some 3), (.mv (.t 5)), none⟩]
def q_Pdisk_Disk_Flush_2 : List AOper := [
  ⟨(some 6), (.mv (.t 3)), none⟩,
  ⟨(some 7), (.eq .scI true (.t 6) (.v (.int .i64 0))), none⟩]
def q_Pdisk_Disk_Flush_3 : List AOper := [
  ⟨(some 8), (.mv (.t 3)), none⟩,
  ⟨(some 2), (.mv (.t 8)), none⟩]
def q_Pdisk_Disk_Flush_4 : List AOper := [
  ⟨(some 9), (.mv (.t 0)), none⟩,
  ⟨(some 10), (.call F_Pdisk_Disk_settle [(.sc, (.t 9)), (.sc, (.v (.func (.func F_Pdisk_Disk_Flush_1) [] [])))]), none⟩]
def q_Pdisk_Disk_Flush_5 : List AOper := [
  ⟨(some 2), (.mv (.v (.int .i64 0))), none⟩]
def a_Pdisk_Disk_Flush : AFunc := ⟨[(.tmp 2)], (.seq (.region q_Pdisk_Disk_Flush_0) (.seq (.seq (.region q_Pdisk_Disk_Flush_1) (.seq (.region q_Pdisk_Disk_Flush_2) (.cond (.t 7) (.seq (.region q_Pdisk_Disk_Flush_3) .ret) .skip))) (.seq (.region q_Pdisk_Disk_Flush_4) (.seq (.region q_Pdisk_Disk_Flush_5) .ret))))⟩

def q_Pdisk_Disk_Size_0 : List AOper := [
  ⟨(some 2), (.mv (.v (.int .i64 0))), none⟩]
def q_Pdisk_Disk_Size_1 : List AOper := [
  ⟨(some 3), (.mv (.t 0)), none⟩,
  ⟨(some 4), (.xx (.p .nilCk) [(.t 3)]), none⟩,
  ⟨(some 5), (.fadr 0 1 .sc (.t 4)), none⟩,
  ⟨(some 6), (.load .sc 1 (.t 5)), none⟩,
  ⟨(some 7), (.len false (.t 6)), none⟩,
  ⟨(some 2), (.mv (.t 7)), none⟩]
def a_Pdisk_Disk_Size : AFunc := ⟨[(.tmp 2)], (.seq (.region q_Pdisk_Disk_Size_0) (.seq (.region q_Pdisk_Disk_Size_1) .ret))⟩

def q_Pdisk_Disk_Read_0 : List AOper := [
  ⟨(some 4), (.alloc 23 [(.iarr .u8 256 (List.replicate 256 0))]), none⟩,
  ⟨(some 5), (.mv (.v (.int .i64 0))), none⟩]
def q_Pdisk_Disk_Read_1 : List AOper := [
  ⟨(some 9), (.mv (.t 0)), none⟩,
  ⟨(some 10), (.mv (.t 1)), none⟩,
  ⟨(some 11), (.call F_Pdisk_Disk_inside [(.sc, (.t 9)), (.sc, (.t 10))]), none⟩,
  ⟨(some 12), (.un .not (.t 11)), none⟩,
  ⟨(some 8), (.mv (.t 12)), none⟩]
def q_Pdisk_Disk_Read_2 : List AOper := [
  ⟨(some 13), (.build (.ia .u8 256) [(.iarr .u8 256 (List.replicate 256 0))] []), none⟩,
  ⟨none, (.store (.ia .u8 256) 256 (.t 4) (.t 13)), none⟩,
  ⟨(some 5), (.mv (.v (.int .i64 2))), none⟩]
def q_Pdisk_Disk_Read_3 : List AOper := [
  ⟨(some 15), (.mv (.t 0)), none⟩,
  ⟨(some 16), (.xx (.p .nilCk) [(.t 15)]), none⟩,
  ⟨(some 17), (.fadr 5 1 .sc (.t 16)), none⟩,
  ⟨(some 18), (.load .sc 1 (.t 17)), none⟩,
  ⟨(some 14), (.mv (.t 18)), none⟩]
def q_Pdisk_Disk_Read_4 : List AOper := [
  ⟨(some 19), (.build (.ia .u8 256) [(.iarr .u8 256 (List.replicate 256 0))] []), none⟩,
  ⟨none, (.store (.ia .u8 256) 256 (.t 4) (.t 19)), none⟩,
  ⟨(some 5), (.mv (.v (.int .i64 4))), none⟩]
def q_Pdisk_Disk_Read_5 : List AOper := [
  ⟨(some 21), (.mv (.t 0)), none⟩,
  ⟨(some 22), (.xx (.p .nilCk) [(.t 21)]), none⟩,
  ⟨(some 23), (.fadr 2 1 .sc (.t 22)), none⟩,
  ⟨(some 24), (.load .sc 1 (.t 23)), none⟩,
  ⟨(some 25), (.mv (.t 1)), none⟩,
  ⟨(some 26), (.xx (.lkM .i64 (.iarr .u8 256 (List.replicate 256 0)) true) [(.t 24), (.t 25)]), none⟩,
  ⟨(some 20), (.mv (.t 26)), none⟩,
  ⟨(some 27), (.ext 0 (.t 20)), none⟩,
  ⟨(some 28), (.ext 1 (.t 20)), none⟩,
  ⟨(some 6), (.alloc 23 [(.iarr .u8 256 (List.replicate 256 0))]), none⟩,
  ⟨none, (.store (.ia .u8 256) 256 (.t 6) (.t 27)), none⟩,
  ⟨(some 7), (.mv (.t 28)), none⟩]
def q_Pdisk_Disk_Read_6 : List AOper := [
  ⟨(some 29), (.mv (.t 7)), none⟩]
def q_Pdisk_Disk_Read_7 : List AOper := [
  ⟨(some 30), (.load (.ia .u8 256) 256 (.t 6)), none⟩,
  ⟨none, (.store (.ia .u8 256) 256 (.t 4) (.t 30)), none⟩,
  ⟨(some 5), (.mv (.v (.int .i64 0))), none⟩]
def q_Pdisk_Disk_Read_8 : List AOper := [
  ⟨(some 31), (.mv (.t 0)), none⟩,
  ⟨(some 32), (.xx (.p .nilCk) [(.t 31)]), none⟩,
  ⟨(some 33), (.fadr 0 1 .sc (.t 32)), none⟩,
  ⟨(some 34), (.load .sc 1 (.t 33)), none⟩,
  ⟨(some 35), (.mv (.t 1)), none⟩,
  ⟨(some 36), (.idx 256 (.t 34) (.t 35)), none⟩,
  ⟨(some 37), (.load (.ia .u8 256) 256 (.t 36)), none⟩,
  ⟨none, (.store (.ia .u8 256) 256 (.t 4) (.t 37)), none⟩,
  ⟨(some 5), (.mv (.v (.int .i64 0))), none⟩]
def a_Pdisk_Disk_Read : AFunc := ⟨[(.cell 4 (.ia .u8 256) 256), (.tmp 5)], (.seq (.region q_Pdisk_Disk_Read_0) (.seq (.block 0 (.seq (.region q_Pdisk_Disk_Read_1) (.cond (.t 8) (.seq (.region q_Pdisk_Disk_Read_2) .ret) (.seq (.region q_Pdisk_Disk_Read_3) (.cond (.t 14) (.seq (.region q_Pdisk_Disk_Read_4) .ret) .skip))))) (.seq (.seq (.region q_Pdisk_Disk_Read_5) (.seq (.region q_Pdisk_Disk_Read_6) (.cond (.t 29) (.seq (.region q_Pdisk_Disk_Read_7) .ret) .skip))) (.seq (.region q_Pdisk_Disk_Read_8) .ret))))⟩

def q_Pdisk_Disk_settle_0 : List AOper := [
  ⟨(some 4), (.mv (.v (.int .i64 0))), none⟩]
def q_Pdisk_Disk_settle_1 : List AOper := [
  ⟨(some 5), (.mv (.v (.int .i64 0))), none⟩]
def q_Pdisk_Disk_settle_2 : List AOper := [
  ⟨(some 8), (.mv (.t 0)), none⟩,
  ⟨(some 9), (.xx (.p .nilCk) [(.t 8)]), none⟩,
  ⟨(some 10), (.fadr 1 1 .sc (.t 9)), none⟩,
  ⟨(some 11), (.load .sc 1 (.t 10)), none⟩,
  ⟨(some 12), (.len false (.t 11)), none⟩,
  ⟨(some 13), (.mv (.v (.int .i64 0))), none⟩]
def q_Pdisk_Disk_settle_3 : List AOper := [
  ⟨(some 14), (.bin .lss (.t 13) (.t 12)), none⟩]
def q_Pdisk_Disk_settle_4 : List AOper := [
  ⟨(some 15), (.mv (.t 13)), none⟩,
  ⟨(some 16), (.idx 257 (.t 11) (.t 13)), none⟩,
  ⟨(some 17), (.load .ag 257 (.t 16)), none⟩,
  ⟨(some 7), (.alloc 170 [(.int .i64 0), (.iarr .u8 256 (List.replicate 256 0))]), none⟩,
  ⟨(some 6), (.mv (.t 15)), none⟩,
  ⟨none, (.store .ag 257 (.t 7) (.t 17)), none⟩]
def q_Pdisk_Disk_settle_5 : List AOper := [
  ⟨(some 18), (.mv (.t 1)), none⟩,
  ⟨(some 19), (.mv (.t 6)), none⟩,
  ⟨(some 20), (.callV (.t 18) [(.sc, (.t 19))]), none⟩]
def q_Pdisk_Disk_settle_6 : List DOp := [
  ⟨⟨(some 21), (.mv (.t 0)), none⟩, true, false, none, []⟩,
  ⟨⟨(some 22), (.xx (.p .nilCk) [(.t 21)]), none⟩, true, false, none, []⟩,
  ⟨⟨(some 23), (.fadr 0 1 .sc (.t 22)), none⟩, true, false, none, []⟩,
  ⟨⟨(some 24), (.load .sc 1 (.t 23)), none⟩, true, false, none, []⟩,
  ⟨⟨(some 25), (.fadr 0 1 .sc (.t 7)), none⟩, true, false, none, []⟩,
  ⟨⟨(some 26), (.load .sc 1 (.t 25)), none⟩, true, false, none, []⟩,
  ⟨⟨(some 27), (.fadr 1 256 (.ia .u8 256) (.t 7)), none⟩, true, false, none, []⟩,
  ⟨⟨(some 28), (.load (.ia .u8 256) 256 (.t 27)), none⟩, true, false, none, []⟩,
  ⟨⟨(some 29), (.idx 256 (.t 24) (.t 26)), none⟩, true, false, none, []⟩,
  ⟨⟨none, (.store (.ia .u8 256) 256 (.t 29) (.t 28)), none⟩, false, false, none, []⟩]
def q_Pdisk_Disk_settle_7 : List AOper := [
  ⟨(some 30), (.mv (.t 5)), none⟩,
  ⟨(some 31), (.bin .add (.t 30) (.v (.int .i64 1))), none⟩,
  ⟨(some 5), (.mv (.t 31)), none⟩]
def q_Pdisk_Disk_settle_8 : List AOper := [
  ⟨(some 32), (.bin .add (.t 13) (.v (.int .i64 1))), none⟩,
  ⟨(some 13), (.mv (.t 32)), none⟩]
def q_Pdisk_Disk_settle_L9 : ACode := (.seq (.region q_Pdisk_Disk_settle_3) (.seq (.cond (.t 14) .skip (.exit 0)) (.seq (.block 1 (.seq (.region q_Pdisk_Disk_settle_4) (.seq (.region q_Pdisk_Disk_settle_5) (.cond (.t 20) (.seq (.regionD q_Pdisk_Disk_settle_6) (.region q_Pdisk_Disk_settle_7)) .skip)))) (.region q_Pdisk_Disk_settle_8))))
def q_Pdisk_Disk_settle_9 : List AOper := [
  ⟨(some 33), (.mv (.t 0)), none⟩,
  ⟨(some 34), (.mv (.t 0)), none⟩,
  ⟨(some 35), (.xx (.mkM .i64) []), none⟩,
  ⟨(some 36), (.xx (.p .nilCk) [(.t 33)]), none⟩,
  ⟨(some 37), (.fadr 1 1 .sc (.t 36)), none⟩,
  ⟨none, (.store .sc 1 (.t 37) (.v .nilS)), none⟩,
  ⟨(some 38), (.xx (.p .nilCk) [(.t 34)]), none⟩,
  ⟨(some 39), (.fadr 2 1 .sc (.t 38)), none⟩,
  ⟨none, (.store .sc 1 (.t 39) (.t 35)), none⟩]
def q_Pdisk_Disk_settle_10 : List AOper := [
  ⟨(some 40), (.mv (.t 5)), none⟩,
  ⟨(some 4), (.mv (.t 40)), none⟩]
def a_Pdisk_Disk_settle : AFunc := ⟨[(.tmp 4)], (.seq (.region q_Pdisk_Disk_settle_0) (.seq (.region q_Pdisk_Disk_settle_1) (.seq (.seq (.region q_Pdisk_Disk_settle_2) (.block 0 (.loop q_Pdisk_Disk_settle_L9))) (.seq (.region q_Pdisk_Disk_settle_9) (.seq (.region q_Pdisk_Disk_settle_10) .ret)))))⟩

def q_Pdisk_Disk_Crash_1_0 : List AOper := [
  ⟨(some 3), (.mv (.v (.bool false))), none⟩]
def q_Pdisk_Disk_Crash_1_1 : List AOper := [
  ⟨(some 4), (.mv (.t 0)), none⟩,
  ⟨(some 5), (.load .sc 1 (.t 1)), none⟩,
  ⟨(some 6), (.len false (.t 5)), none⟩,
  ⟨(some 7), (.bin .lss (.t 4) (.t 6)), none⟩,
  ⟨(some 8), (.mv (.t 7)), none⟩,
  ⟨(some 9), (.load .sc 1 (.t 1)), (some (8, true))⟩,
  ⟨(some 10), (.mv (.t 0)), (some (8, true))⟩,
  ⟨(some 11), (.idx 1 (.t 9) (.t 10)), (some (8, true))⟩,
  ⟨(some 12), (.load .sc 1 (.t 11)), (some (8, true))⟩,
  ⟨(some 13), (.pick (.t 8) (.t 12) (.v (.bool false))), none⟩,
  ⟨(some 3), (.mv (.t 13)), none⟩]
def a_Pdisk_Disk_Crash_1 : AFunc := ⟨[(.tmp 3)], (.seq (.region q_Pdisk_Disk_Crash_1_0) (.seq (.region q_Pdisk_Disk_Crash_1_1) .ret))⟩

def q_Pdisk_Disk_Waits_0 : List AOper := [
  ⟨(some 2), (.mv (.v (.int .i64 0))), none⟩]
def q_Pdisk_Disk_Waits_1 : List AOper := [
  ⟨(some 3), (.mv (.t 0)), none⟩,
  ⟨(some 4), (.xx (.p .nilCk) [(.t 3)]), none⟩,
  ⟨(some 5), (.fadr 1 1 .sc (.t 4)), none⟩,
  ⟨(some 6), (.load .sc 1 (.t 5)), none⟩,
  ⟨(some 7), (.len false (.t 6)), none⟩,
  ⟨(some 2), (.mv (.t 7)), none⟩]
def a_Pdisk_Disk_Waits : AFunc := ⟨[(.tmp 2)], (.seq (.region q_Pdisk_Disk_Waits_0) (.seq (.region q_Pdisk_Disk_Waits_1) .ret))⟩

def q_Pdisk_Disk_inside_0 : List AOper := [
  ⟨(some 4), (.mv (.v (.bool false))), none⟩]
def q_Pdisk_Disk_inside_1 : List AOper := [
  ⟨(some 5), (.mv (.t 1)), none⟩,
  ⟨(some 6), (.bin .geq (.t 5) (.v (.int .i64 0))), none⟩,
  ⟨(some 7), (.mv (.t 6)), none⟩,
  ⟨(some 8), (.mv (.t 1)), (some (7, true))⟩,
  ⟨(some 9), (.mv (.t 0)), (some (7, true))⟩,
  ⟨(some 10), (.xx (.p .nilCk) [(.t 9)]), (some (7, true))⟩,
  ⟨(some 11), (.fadr 0 1 .sc (.t 10)), (some (7, true))⟩,
  ⟨(some 12), (.load .sc 1 (.t 11)), (some (7, true))⟩,
  ⟨(some 13), (.len false (.t 12)), (some (7, true))⟩,
  ⟨(some 14), (.bin .lss (.t 8) (.t 13)), (some (7, true))⟩,
  ⟨(some 15), (.pick (.t 7) (.t 14) (.v (.bool false))), none⟩,
  ⟨(some 4), (.mv (.t 15)), none⟩]
def a_Pdisk_Disk_inside : AFunc := ⟨[(.tmp 4)], (.seq (.region q_Pdisk_Disk_inside_0) (.seq (.region q_Pdisk_Disk_inside_1) .ret))⟩

def q_Pdisk_Disk_step_0 : List AOper := [
  ⟨(some 2), (.mv (.v (.int .i64 0))), none⟩]
def q_Pdisk_Disk_step_1 : List AOper := [
  ⟨(some 3), (.mv (.t 0)), none⟩,
  ⟨(some 4), (.xx (.p .nilCk) [(.t 3)]), none⟩,
  ⟨(some 5), (.fadr 5 1 .sc (.t 4)), none⟩,
  ⟨(some 6), (.load .sc 1 (.t 5)), none⟩,
  ⟨(some 7), (.mv (.t 6)), none⟩,
  ⟨(some 8), (.mv (.t 0)), (some (7, false))⟩,
  ⟨(some 9), (.xx (.p .nilCk) [(.t 8)]), (some (7, false))⟩,
  ⟨(some 10), (.fadr 4 1 .sc (.t 9)), (some (7, false))⟩,
  ⟨(some 11), (.load .sc 1 (.t 10)), (some (7, false))⟩,
  ⟨(some 12), (.eq .scI false (.t 11) (.v (.int .i64 0))), (some (7, false))⟩,
  ⟨(some 13), (.pick (.t 7) (.v (.bool true)) (.t 12)), none⟩]
def q_Pdisk_Disk_step_2 : List AOper := [
  ⟨(some 14), (.mv (.t 0)), none⟩,
  ⟨(some 15), (.xx (.p .nilCk) [(.t 14)]), none⟩,
  ⟨(some 16), (.fadr 5 1 .sc (.t 15)), none⟩,
  ⟨none, (.store .sc 1 (.t 16) (.v (.bool true))), none⟩]
def q_Pdisk_Disk_step_3 : List AOper := [
  ⟨(some 2), (.mv (.v (.int .i64 4))), none⟩]
def q_Pdisk_Disk_step_4 : List AOper := [
  ⟨(some 17), (.mv (.t 0)), none⟩,
  ⟨(some 18), (.xx (.p .nilCk) [(.t 17)]), none⟩,
  ⟨(some 19), (.fadr 4 1 .sc (.t 18)), none⟩,
  ⟨(some 20), (.load .sc 1 (.t 19)), none⟩,
  ⟨(some 21), (.bin .gtr (.t 20) (.v (.int .i64 0))), none⟩]
def q_Pdisk_Disk_step_5 : List AOper := [
  ⟨(some 22), (.mv (.t 0)), none⟩,
  ⟨(some 23), (.xx (.p .nilCk) [(.t 22)]), none⟩,
  ⟨(some 24), (.fadr 4 1 .sc (.t 23)), none⟩,
  ⟨(some 25), (.load .sc 1 (.t 24)), none⟩,
  ⟨(some 26), (.bin .sub (.t 25) (.v (.int .i64 1))), none⟩,
  ⟨(some 27), (.xx (.p .nilCk) [(.t 22)]), none⟩,
  ⟨(some 28), (.fadr 4 1 .sc (.t 27)), none⟩,
  ⟨none, (.store .sc 1 (.t 28) (.t 26)), none⟩]
def q_Pdisk_Disk_step_6 : List AOper := [
  ⟨(some 29), (.mv (.t 0)), none⟩,
  ⟨(some 30), (.xx (.p .nilCk) [(.t 29)]), none⟩,
  ⟨(some 31), (.fadr 3 1 .sc (.t 30)), none⟩,
  ⟨(some 32), (.load .sc 1 (.t 31)), none⟩,
  ⟨(some 33), (.bin .add (.t 32) (.v (.int .i64 1))), none⟩,
  ⟨(some 34), (.xx (.p .nilCk) [(.t 29)]), none⟩,
  ⟨(some 35), (.fadr 3 1 .sc (.t 34)), none⟩,
  ⟨none, (.store .sc 1 (.t 35) (.t 33)), none⟩]
def q_Pdisk_Disk_step_7 : List AOper := [
  ⟨(some 2), (.mv (.v (.int .i64 0))), none⟩]
def a_Pdisk_Disk_step : AFunc := ⟨[(.tmp 2)], (.seq (.region q_Pdisk_Disk_step_0) (.seq (.seq (.region q_Pdisk_Disk_step_1) (.cond (.t 13) (.seq (.region q_Pdisk_Disk_step_2) (.seq (.region q_Pdisk_Disk_step_3) .ret)) .skip)) (.seq (.seq (.region q_Pdisk_Disk_step_4) (.cond (.t 21) (.region q_Pdisk_Disk_step_5) .skip)) (.seq (.region q_Pdisk_Disk_step_6) (.seq (.region q_Pdisk_Disk_step_7) .ret)))))⟩

def q_Pdisk_Disk_Flush_1_0 : List AOper := [
  ⟨(some 2), (.mv (.v (.bool false))), none⟩]
def q_Pdisk_Disk_Flush_1_1 : List AOper := [
  ⟨(some 2), (.mv (.v (.bool true))), none⟩]
def a_Pdisk_Disk_Flush_1 : AFunc := ⟨[(.tmp 2)], (.seq (.region q_Pdisk_Disk_Flush_1_0) (.seq (.region q_Pdisk_Disk_Flush_1_1) .ret))⟩

theorem c_disk_New : trF Try.prog Try.f22 = some a_disk_New := by kernel_rfl
theorem g_disk_New : Try.prog.funcs[22]? = some Try.f22 := by kernel_rfl
theorem j_disk_New {args : List AV} {A : Heap} {K Kp : AV → Heap → Prop} (hn : args.length ≤ 15) (h : X Try.prog (inl a_disk_New.res K Kp) a_disk_New.body .done (env0 args) A) : SimX Try.prog F_disk_New args A (outK K Kp) :=
  X_inl g_disk_New c_disk_New (by rw [Try.ntmps22]; exact hn) h
@[simp] theorem k_disk_New : callable Try.prog F_disk_New = true := by kernel_rfl
theorem c_Pdisk_Disk_Fuse : trF Try.prog Try.f35 = some a_Pdisk_Disk_Fuse := by kernel_rfl
theorem g_Pdisk_Disk_Fuse : Try.prog.funcs[35]? = some Try.f35 := by kernel_rfl
theorem j_Pdisk_Disk_Fuse {args : List AV} {A : Heap} {K Kp : AV → Heap → Prop} (hn : args.length ≤ 9) (h : X Try.prog (inl a_Pdisk_Disk_Fuse.res K Kp) a_Pdisk_Disk_Fuse.body .done (env0 args) A) : SimX Try.prog F_Pdisk_Disk_Fuse args A (outK K Kp) :=
  X_inl g_Pdisk_Disk_Fuse c_Pdisk_Disk_Fuse (by rw [Try.ntmps35]; exact hn) h
@[simp] theorem k_Pdisk_Disk_Fuse : callable Try.prog F_Pdisk_Disk_Fuse = true := by kernel_rfl
theorem c_Pdisk_Disk_Down : trF Try.prog Try.f36 = some a_Pdisk_Disk_Down := by kernel_rfl
theorem g_Pdisk_Disk_Down : Try.prog.funcs[36]? = some Try.f36 := by kernel_rfl
theorem j_Pdisk_Disk_Down {args : List AV} {A : Heap} {K Kp : AV → Heap → Prop} (hn : args.length ≤ 7) (h : X Try.prog (inl a_Pdisk_Disk_Down.res K Kp) a_Pdisk_Disk_Down.body .done (env0 args) A) : SimX Try.prog F_Pdisk_Disk_Down args A (outK K Kp) :=
  X_inl g_Pdisk_Disk_Down c_Pdisk_Disk_Down (by rw [Try.ntmps36]; exact hn) h
@[simp] theorem k_Pdisk_Disk_Down : callable Try.prog F_Pdisk_Disk_Down = true := by kernel_rfl
theorem c_Pdisk_Disk_Crash : trF Try.prog Try.f37 = some a_Pdisk_Disk_Crash := by kernel_rfl
theorem g_Pdisk_Disk_Crash : Try.prog.funcs[37]? = some Try.f37 := by kernel_rfl
theorem j_Pdisk_Disk_Crash {args : List AV} {A : Heap} {K Kp : AV → Heap → Prop} (hn : args.length ≤ 14) (h : X Try.prog (inl a_Pdisk_Disk_Crash.res K Kp) a_Pdisk_Disk_Crash.body .done (env0 args) A) : SimX Try.prog F_Pdisk_Disk_Crash args A (outK K Kp) :=
  X_inl g_Pdisk_Disk_Crash c_Pdisk_Disk_Crash (by rw [Try.ntmps37]; exact hn) h
@[simp] theorem k_Pdisk_Disk_Crash : callable Try.prog F_Pdisk_Disk_Crash = true := by kernel_rfl
theorem c_Pdisk_Disk_Write : trF Try.prog Try.f70 = some a_Pdisk_Disk_Write := by kernel_rfl
theorem g_Pdisk_Disk_Write : Try.prog.funcs[70]? = some Try.f70 := by kernel_rfl
theorem j_Pdisk_Disk_Write {args : List AV} {A : Heap} {K Kp : AV → Heap → Prop} (hn : args.length ≤ 35) (h : X Try.prog (inl a_Pdisk_Disk_Write.res K Kp) a_Pdisk_Disk_Write.body .done (env0 args) A) : SimX Try.prog F_Pdisk_Disk_Write args A (outK K Kp) :=
  X_inl g_Pdisk_Disk_Write c_Pdisk_Disk_Write (by rw [Try.ntmps70]; exact hn) h
@[simp] theorem k_Pdisk_Disk_Write : callable Try.prog F_Pdisk_Disk_Write = true := by kernel_rfl
theorem c_Pdisk_Disk_Flush : trF Try.prog Try.f71 = some a_Pdisk_Disk_Flush := by kernel_rfl
theorem g_Pdisk_Disk_Flush : Try.prog.funcs[71]? = some Try.f71 := by kernel_rfl
theorem j_Pdisk_Disk_Flush {args : List AV} {A : Heap} {K Kp : AV → Heap → Prop} (hn : args.length ≤ 11) (h : X Try.prog (inl a_Pdisk_Disk_Flush.res K Kp) a_Pdisk_Disk_Flush.body .done (env0 args) A) : SimX Try.prog F_Pdisk_Disk_Flush args A (outK K Kp) :=
  X_inl g_Pdisk_Disk_Flush c_Pdisk_Disk_Flush (by rw [Try.ntmps71]; exact hn) h
@[simp] theorem k_Pdisk_Disk_Flush : callable Try.prog F_Pdisk_Disk_Flush = true := by kernel_rfl
theorem c_Pdisk_Disk_Size : trF Try.prog Try.f85 = some a_Pdisk_Disk_Size := by kernel_rfl
theorem g_Pdisk_Disk_Size : Try.prog.funcs[85]? = some Try.f85 := by kernel_rfl
theorem j_Pdisk_Disk_Size {args : List AV} {A : Heap} {K Kp : AV → Heap → Prop} (hn : args.length ≤ 8) (h : X Try.prog (inl a_Pdisk_Disk_Size.res K Kp) a_Pdisk_Disk_Size.body .done (env0 args) A) : SimX Try.prog F_Pdisk_Disk_Size args A (outK K Kp) :=
  X_inl g_Pdisk_Disk_Size c_Pdisk_Disk_Size (by rw [Try.ntmps85]; exact hn) h
@[simp] theorem k_Pdisk_Disk_Size : callable Try.prog F_Pdisk_Disk_Size = true := by kernel_rfl
theorem c_Pdisk_Disk_Read : trF Try.prog Try.f89 = some a_Pdisk_Disk_Read := by kernel_rfl
theorem g_Pdisk_Disk_Read : Try.prog.funcs[89]? = some Try.f89 := by kernel_rfl
theorem j_Pdisk_Disk_Read {args : List AV} {A : Heap} {K Kp : AV → Heap → Prop} (hn : args.length ≤ 38) (h : X Try.prog (inl a_Pdisk_Disk_Read.res K Kp) a_Pdisk_Disk_Read.body .done (env0 args) A) : SimX Try.prog F_Pdisk_Disk_Read args A (outK K Kp) :=
  X_inl g_Pdisk_Disk_Read c_Pdisk_Disk_Read (by rw [Try.ntmps89]; exact hn) h
@[simp] theorem k_Pdisk_Disk_Read : callable Try.prog F_Pdisk_Disk_Read = true := by kernel_rfl
theorem c_Pdisk_Disk_settle : trF Try.prog Try.f90 = some a_Pdisk_Disk_settle := by kernel_rfl
theorem g_Pdisk_Disk_settle : Try.prog.funcs[90]? = some Try.f90 := by kernel_rfl
theorem j_Pdisk_Disk_settle {args : List AV} {A : Heap} {K Kp : AV → Heap → Prop} (hn : args.length ≤ 41) (h : X Try.prog (inl a_Pdisk_Disk_settle.res K Kp) a_Pdisk_Disk_settle.body .done (env0 args) A) : SimX Try.prog F_Pdisk_Disk_settle args A (outK K Kp) :=
  X_inl g_Pdisk_Disk_settle c_Pdisk_Disk_settle (by rw [Try.ntmps90]; exact hn) h
@[simp] theorem k_Pdisk_Disk_settle : callable Try.prog F_Pdisk_Disk_settle = true := by kernel_rfl
theorem c_Pdisk_Disk_Crash_1 : trF Try.prog Try.f91 = some a_Pdisk_Disk_Crash_1 := by kernel_rfl
theorem g_Pdisk_Disk_Crash_1 : Try.prog.funcs[91]? = some Try.f91 := by kernel_rfl
theorem j_Pdisk_Disk_Crash_1 {args : List AV} {A : Heap} {K Kp : AV → Heap → Prop} (hn : args.length ≤ 14) (h : X Try.prog (inl a_Pdisk_Disk_Crash_1.res K Kp) a_Pdisk_Disk_Crash_1.body .done (env0 args) A) : SimX Try.prog F_Pdisk_Disk_Crash_1 args A (outK K Kp) :=
  X_inl g_Pdisk_Disk_Crash_1 c_Pdisk_Disk_Crash_1 (by rw [Try.ntmps91]; exact hn) h
@[simp] theorem k_Pdisk_Disk_Crash_1 : callable Try.prog F_Pdisk_Disk_Crash_1 = true := by kernel_rfl
theorem c_Pdisk_Disk_Waits : trF Try.prog Try.f93 = some a_Pdisk_Disk_Waits := by kernel_rfl
theorem g_Pdisk_Disk_Waits : Try.prog.funcs[93]? = some Try.f93 := by kernel_rfl
theorem j_Pdisk_Disk_Waits {args : List AV} {A : Heap} {K Kp : AV → Heap → Prop} (hn : args.length ≤ 8) (h : X Try.prog (inl a_Pdisk_Disk_Waits.res K Kp) a_Pdisk_Disk_Waits.body .done (env0 args) A) : SimX Try.prog F_Pdisk_Disk_Waits args A (outK K Kp) :=
  X_inl g_Pdisk_Disk_Waits c_Pdisk_Disk_Waits (by rw [Try.ntmps93]; exact hn) h
@[simp] theorem k_Pdisk_Disk_Waits : callable Try.prog F_Pdisk_Disk_Waits = true := by kernel_rfl
theorem c_Pdisk_Disk_inside : trF Try.prog Try.f126 = some a_Pdisk_Disk_inside := by kernel_rfl
theorem g_Pdisk_Disk_inside : Try.prog.funcs[126]? = some Try.f126 := by kernel_rfl
theorem j_Pdisk_Disk_inside {args : List AV} {A : Heap} {K Kp : AV → Heap → Prop} (hn : args.length ≤ 16) (h : X Try.prog (inl a_Pdisk_Disk_inside.res K Kp) a_Pdisk_Disk_inside.body .done (env0 args) A) : SimX Try.prog F_Pdisk_Disk_inside args A (outK K Kp) :=
  X_inl g_Pdisk_Disk_inside c_Pdisk_Disk_inside (by rw [Try.ntmps126]; exact hn) h
@[simp] theorem k_Pdisk_Disk_inside : callable Try.prog F_Pdisk_Disk_inside = true := by kernel_rfl
theorem c_Pdisk_Disk_step : trF Try.prog Try.f127 = some a_Pdisk_Disk_step := by kernel_rfl
theorem g_Pdisk_Disk_step : Try.prog.funcs[127]? = some Try.f127 := by kernel_rfl
theorem j_Pdisk_Disk_step {args : List AV} {A : Heap} {K Kp : AV → Heap → Prop} (hn : args.length ≤ 36) (h : X Try.prog (inl a_Pdisk_Disk_step.res K Kp) a_Pdisk_Disk_step.body .done (env0 args) A) : SimX Try.prog F_Pdisk_Disk_step args A (outK K Kp) :=
  X_inl g_Pdisk_Disk_step c_Pdisk_Disk_step (by rw [Try.ntmps127]; exact hn) h
@[simp] theorem k_Pdisk_Disk_step : callable Try.prog F_Pdisk_Disk_step = true := by kernel_rfl
theorem c_Pdisk_Disk_Flush_1 : trF Try.prog Try.f128 = some a_Pdisk_Disk_Flush_1 := by kernel_rfl
theorem g_Pdisk_Disk_Flush_1 : Try.prog.funcs[128]? = some Try.f128 := by kernel_rfl
theorem j_Pdisk_Disk_Flush_1 {args : List AV} {A : Heap} {K Kp : AV → Heap → Prop} (hn : args.length ≤ 3) (h : X Try.prog (inl a_Pdisk_Disk_Flush_1.res K Kp) a_Pdisk_Disk_Flush_1.body .done (env0 args) A) : SimX Try.prog F_Pdisk_Disk_Flush_1 args A (outK K Kp) :=
  X_inl g_Pdisk_Disk_Flush_1 c_Pdisk_Disk_Flush_1 (by rw [Try.ntmps128]; exact hn) h
@[simp] theorem k_Pdisk_Disk_Flush_1 : callable Try.prog F_Pdisk_Disk_Flush_1 = true := by kernel_rfl
end Go.Proofs.Ytkmlndihdcplfaa

/- Sectors that last, writes that wait: a disk, plainly; and how it lies in memory. -/
namespace Go.Proofs.Ytkmlndihdcplfaa
open Go AVL
attribute [-simp] AV.isAgg aappI aapp alen shp good comps
set_option linter.unusedVariables false
set_option linter.unusedSimpArgs false
set_option maxRecDepth 8000

structure Dsk where
  last : List (List Nat)
  wait : List (Nat × List Nat)
  steps : Nat
  fuse : Int
  down : Bool
def z256 : List Nat := List.replicate 256 0
def Dsk.fresh (n : Nat) : Dsk := ⟨List.replicate n z256, [], 0, -1, false⟩
/-- What was written there last, of those that wait. -/
def look (w : List (Nat × List Nat)) (a : Nat) (s : List Nat) : List Nat := w.foldl (fun s p => if p.1 = a then p.2 else s) s
def lookO (w : List (Nat × List Nat)) (a : Nat) : Option (List Nat) := w.foldl (fun o p => if p.1 = a then some p.2 else o) none
theorem look_aux (a : Nat) : ∀ (w : List (Nat × List Nat)) (o : Option (List Nat)) (s : List Nat), w.foldl (fun s p => if p.1 = a then p.2 else s) (o.getD s) = (w.foldl (fun o p => if p.1 = a then some p.2 else o) o).getD s
  | [], o, s => rfl
  | p :: w, o, s => by
    simp only [List.foldl_cons]
    rw [← look_aux a w]
    by_cases h : p.1 = a <;> simp [h]
theorem look_eq (w : List (Nat × List Nat)) (a : Nat) (s : List Nat) : look w a s = (lookO w a).getD s := look_aux a w none s
@[simp] theorem lookO_nil (a : Nat) : lookO [] a = none := rfl
theorem lookO_snoc (w : List (Nat × List Nat)) (p : Nat × List Nat) (a : Nat) : lookO (w ++ [p]) a = if p.1 = a then some p.2 else lookO w a := by simp [lookO]
/-- The writes that are kept, of the first i, have lasted. -/
def stl (keep : Nat → Bool) (w : List (Nat × List Nat)) (L : List (List Nat)) : Nat → List (List Nat)
  | 0 => L
  | i + 1 => match w[i]? with
    | some p => if keep i then (stl keep w L i).set p.1 p.2 else stl keep w L i
    | none => stl keep w L i
def stn (keep : Nat → Bool) : Nat → Nat
  | 0 => 0
  | i + 1 => if keep i then stn keep i + 1 else stn keep i
theorem stn_le (keep : Nat → Bool) : ∀ i, stn keep i ≤ i
  | 0 => Nat.le_refl _
  | i + 1 => by have := stn_le keep i; simp only [stn]; split <;> omega
@[simp] theorem stl_length (keep : Nat → Bool) (w : List (Nat × List Nat)) (L : List (List Nat)) : ∀ i, (stl keep w L i).length = L.length
  | 0 => rfl
  | i + 1 => by
    simp only [stl]
    split
    · split
      · rw [List.length_set, stl_length]
      · exact stl_length keep w L i
    · exact stl_length keep w L i
theorem stl_succ {keep : Nat → Bool} {w : List (Nat × List Nat)} {L : List (List Nat)} {i : Nat} (h : i < w.length) :
    stl keep w L (i + 1) = if keep i then (stl keep w L i).set w[i].1 w[i].2 else stl keep w L i := by
  simp only [stl, List.getElem?_eq_getElem h]
def keeps (keep : List Bool) (i : Nat) : Bool := keep.getD i false
def Dsk.step (D : Dsk) : Dsk := if D.down = true ∨ D.fuse = 0 then { D with down := true } else { D with fuse := if D.fuse > 0 then D.fuse - 1 else D.fuse, steps := D.steps + 1 }
def Dsk.ok (D : Dsk) : Bool := !(D.down || decide (D.fuse = 0))
def Dsk.settle (D : Dsk) (keep : Nat → Bool) : Dsk := { D with last := stl keep D.wait D.last D.wait.length, wait := [] }
def Dsk.setFuse (D : Dsk) (n : Int) : Dsk := { D with fuse := if n < 0 then -1 else n }
def Dsk.write (D : Dsk) (a : Nat) (s : List Nat) : Dsk := if D.ok then { D.step with wait := D.wait ++ [(a, s)] } else D.step
def Dsk.flush (D : Dsk) : Dsk := if D.ok then D.step.settle (fun _ => true) else D.step
def Dsk.crash (D : Dsk) (keep : List Bool) : Dsk := { D.settle (keeps keep) with fuse := -1, down := false }
def Dsk.val (D : Dsk) (a : Nat) : List Nat := look D.wait a (D.last.getD a [])
def Dsk.inside (D : Dsk) (a : Int) : Bool := decide (0 ≤ a) && decide (a < D.last.length)
/-- Bytes of a sector. -/
def Sec (s : List Nat) : Prop := s.length = 256 ∧ ∀ x ∈ s, x < 256
theorem sec_z : Sec z256 := ⟨by simp [z256], fun x hx => by rw [List.eq_of_mem_replicate hx]; decide⟩
structure Dsk.Wf (D : Dsk) : Prop where
  last : ∀ s ∈ D.last, Sec s
  wait : ∀ p ∈ D.wait, p.1 < D.last.length ∧ Sec p.2
  size : D.last.length ≤ 4096
  fuse : D.fuse < 9223372036854775808
theorem Dsk.fresh_wf {n : Nat} (h : n ≤ 4096) : (Dsk.fresh n).Wf := ⟨fun s hs => by rw [List.eq_of_mem_replicate hs]; exact sec_z, fun p hp => (by cases hp), by simpa [Dsk.fresh] using h, by show (-1 : Int) < _; decide⟩
theorem Dsk.step_last (D : Dsk) : D.step.last = D.last := by unfold Dsk.step; split <;> rfl
theorem Dsk.step_wait (D : Dsk) : D.step.wait = D.wait := by unfold Dsk.step; split <;> rfl
theorem Dsk.step_wf {D : Dsk} (h : D.Wf) : D.step.Wf := ⟨by rw [D.step_last]; exact h.last, by rw [D.step_last, D.step_wait]; exact h.wait, by rw [D.step_last]; exact h.size, by
  have := h.fuse
  unfold Dsk.step
  split
  · exact this
  · show (if D.fuse > 0 then D.fuse - 1 else D.fuse) < _
    split <;> omega⟩
theorem sec_set {L : List (List Nat)} (h : ∀ s ∈ L, Sec s) {a : Nat} {s : List Nat} (hs : Sec s) : ∀ x ∈ L.set a s, Sec x := fun x hx => by
  rcases List.mem_or_eq_of_mem_set hx with h1 | h1
  · exact h x h1
  · exact h1 ▸ hs
theorem stl_sec {keep : Nat → Bool} {w : List (Nat × List Nat)} {L : List (List Nat)} (hw : ∀ p ∈ w, Sec p.2) (hL : ∀ s ∈ L, Sec s) : ∀ i, ∀ s ∈ stl keep w L i, Sec s
  | 0 => hL
  | i + 1 => by
    simp only [stl]
    split
    · rename_i p hp
      split
      · exact sec_set (stl_sec hw hL i) (hw p (List.mem_of_getElem? hp))
      · exact stl_sec hw hL i
    · exact stl_sec hw hL i
theorem Dsk.settle_wf {D : Dsk} (h : D.Wf) (keep : Nat → Bool) : (D.settle keep).Wf :=
  ⟨stl_sec (fun p hp => (h.wait p hp).2) h.last _, fun p hp => (by cases hp), by simpa [Dsk.settle] using h.size, h.fuse⟩
theorem Dsk.write_wf {D : Dsk} (h : D.Wf) {a : Nat} {s : List Nat} (ha : a < D.last.length) (hs : Sec s) : (D.write a s).Wf := by
  unfold Dsk.write
  split
  · refine ⟨(Dsk.step_wf h).last, fun p hp => ?_, (Dsk.step_wf h).size, (Dsk.step_wf h).fuse⟩
    rcases List.mem_append.1 hp with h1 | h1
    · have := h.wait p h1
      exact ⟨by show p.1 < D.step.last.length; rw [D.step_last]; exact this.1, this.2⟩
    · simp only [List.mem_singleton] at h1; subst h1
      exact ⟨by show a < D.step.last.length; rw [D.step_last]; exact ha, hs⟩
  · exact Dsk.step_wf h
/-! in memory -/
def secV (s : List Nat) : AV := .iarr .u8 256 (ints s)
def secs (L : List (List Nat)) : List AV := L.map secV
def wrV (p : Nat × List Nat) : AV := .agg [.int .i64 (p.1 : Int), secV p.2]
def wrs (w : List (Nat × List Nat)) : List AV := w.map wrV
@[simp] theorem secs_length (L : List (List Nat)) : (secs L).length = L.length := by simp [secs]
@[simp] theorem wrs_length (w : List (Nat × List Nat)) : (wrs w).length = w.length := by simp [wrs]
theorem secs_getE {L : List (List Nat)} {i : Nat} (h : i < (secs L).length) : (secs L)[i] = secV (L[i]'(by simpa using h)) := by simp [secs]
theorem wrs_getE {w : List (Nat × List Nat)} {i : Nat} (h : i < (wrs w).length) : (wrs w)[i] = wrV (w[i]'(by simpa using h)) := by simp [wrs]
theorem secs_set (L : List (List Nat)) (i : Nat) (s : List Nat) : (secs L).set i (secV s) = secs (L.set i s) := by simp [secs, List.map_set]
theorem wrs_snoc (w : List (Nat × List Nat)) (p : Nat × List Nat) : wrs (w ++ [p]) = wrs w ++ [wrV p] := by simp [wrs]
/-- The map of what waits. -/
def NowOK (m : List (Int × AV)) (w : List (Nat × List Nat)) : Prop := ∀ a : Nat, getM m a = (lookO w a).map secV
theorem NowOK.nil : NowOK [] [] := fun a => rfl
theorem NowOK.put {m : List (Int × AV)} {w : List (Nat × List Nat)} (h : NowOK m w) (a : Nat) (s : List Nat) : NowOK (putM m a (secV s)) (w ++ [(a, s)]) := fun b => by
  rw [getM_putM, lookO_snoc, h b]
  by_cases e : b = a
  · subst e; simp
  · have e1 : ¬ (b : Int) = (a : Int) := by omega
    have e2 : ¬ a = b := fun h => e h.symm
    simp [e1, e2]
def dskC (gl : Nat) (v : AV) (gm : Nat) (D : Dsk) : Cont := .var T_disk_Disk [.own gl 0 D.last.length, v, .map gm, .int .i64 D.steps, .int .i64 D.fuse, .bool D.down]
/-- A disk, atop of A. -/
structure DskIn (A : Heap) (g gl : Nat) (v : AV) (gm : Nat) (D : Dsk) (B : Heap) : Prop where
  wf : D.Wf
  ag : A g = none
  al : A gl = none
  am : A gm = none
  at' : B g = some (dskC gl v gm D)
  row : B gl = some (.row T_256_uint8 256 (secs D.last))
  wait : SlR T_disk_write 257 v (wrs D.wait) A B
  now : ∃ m, B gm = some (.mp .i64 m) ∧ NowOK m D.wait
def DskAt (A : Heap) (g : Nat) (D : Dsk) (B : Heap) : Prop := ∃ gl v gm, DskIn A g gl v gm D B
theorem DskIn.mono {A B C : Heap} {g gl gm : Nat} {v : AV} {D : Dsk} (h : DskIn A g gl v gm D B) (hs : B.Sub C) : DskIn A g gl v gm D C :=
  ⟨h.wf, h.ag, h.al, h.am, hs _ _ h.at', hs _ _ h.row, h.wait.mono hs, let ⟨m, h1, h2⟩ := h.now; ⟨m, hs _ _ h1, h2⟩⟩
theorem DskAt.mono {A B C : Heap} {g : Nat} {D : Dsk} (h : DskAt A g D B) (hs : B.Sub C) : DskAt A g D C := let ⟨gl, v, gm, h⟩ := h; ⟨gl, v, gm, h.mono hs⟩
theorem DskAt.wf {A B : Heap} {g : Nat} {D : Dsk} (h : DskAt A g D B) : D.Wf := let ⟨_, _, _, h⟩ := h; h.wf
theorem DskAt.sub {A B : Heap} {g : Nat} {D : Dsk} (h : DskAt A g D B) : A.Sub B := let ⟨_, _, _, h⟩ := h; h.wait.sub
theorem DskAt.free {A B : Heap} {g : Nat} {D : Dsk} (h : DskAt A g D B) : A g = none := let ⟨_, _, _, h⟩ := h; h.ag
theorem DskAt.base {A A' B : Heap} {g : Nat} {D : Dsk} (h : DskAt A g D B) (hs : A'.Sub A) : DskAt A' g D B :=
  let ⟨gl, v, gm, h⟩ := h
  ⟨gl, v, gm, h.wf, sub_noneL hs h.ag, sub_noneL hs h.al, sub_noneL hs h.am, h.at', h.row, h.wait.base hs, h.now⟩
theorem DskIn.rebase {A B : Heap} {g gl gm x : Nat} {v : AV} {c : Cont} {D : Dsk} (h : DskIn A g gl v gm D B) (hx : B x = none) : DskIn (A.set x c) g gl v gm D (B.set x c) := by
  obtain ⟨m, h1, h2⟩ := h.now
  have n1 := fresh_ne h.at' hx
  have n2 := fresh_ne h.row hx
  have n3 := fresh_ne h1 hx
  exact ⟨h.wf, by simp [n1, h.ag], by simp [n2, h.al], by simp [n3, h.am], by simp [n1, h.at'], by simp [n2, h.row], h.wait.rebase hx, m, by simp [n3, h1], h2⟩
theorem DskAt.rebase {A B : Heap} {g x : Nat} {c : Cont} {D : Dsk} (h : DskAt A g D B) (hx : B x = none) : DskAt (A.set x c) g D (B.set x c) := let ⟨gl, v, gm, h⟩ := h; ⟨gl, v, gm, h.rebase hx⟩
theorem DskAt.poke {A B : Heap} {g x : Nat} {c0 c : Cont} {D : Dsk} (h : DskAt A g D B) (hx : A x = some c0) : DskAt (A.set x c) g D (B.set x c) := by
  obtain ⟨gl, v, gm, h⟩ := h
  obtain ⟨m, h1, h2⟩ := h.now
  have ne : ∀ {y : Nat}, A y = none → y ≠ x := fun hy e => by rw [e, hx] at hy; cases hy
  refine ⟨gl, v, gm, h.wf, by simp [ne h.ag, h.ag], by simp [ne h.al, h.al], by simp [ne h.am, h.am], by simp [ne h.ag, h.at'], by simp [ne h.al, h.row], ⟨set_sub h.wait.sub, h.wait.own.imp id fun ⟨y, e1, e2, e3⟩ => ⟨y, e1, by simp [ne e2, e2], by simp [ne e2, e3]⟩⟩, m, by simp [ne h.am, h1], h2⟩
theorem DskAt.plus {A B B' : Heap} {g : Nat} {D : Dsk} (h : DskAt A g D B) (hs : B.Sub B') : DskAt (A.plus B B') g D B' := by
  obtain ⟨gl, v, gm, h⟩ := h
  obtain ⟨m, h1, h2⟩ := h.now
  refine ⟨gl, v, gm, h.wf, plus_none h.at' h.ag, plus_none h.row h.al, plus_none h1 h.am, hs _ _ h.at', hs _ _ h.row, ⟨plus_sub h.wait.sub hs, h.wait.own.imp id fun ⟨x, e1, e2, e3⟩ => ⟨x, e1, plus_none e3 e2, hs _ _ e3⟩⟩, m, hs _ _ h1, h2⟩
theorem DskAt.del {A B : Heap} {g x : Nat} {c0 : Cont} {D : Dsk} (h : DskAt A g D B) (hx : A x = some c0) : DskAt (A.del x) g D (B.del x) := by
  obtain ⟨gl, v, gm, h⟩ := h
  obtain ⟨m, h1, h2⟩ := h.now
  have ne : ∀ {y : Nat}, A y = none → y ≠ x := fun hy e => by rw [e, hx] at hy; cases hy
  have nn : ∀ {y : Nat}, A y = none → A.del x y = none := fun hy => by rw [del_app]; split; rfl; exact hy
  refine ⟨gl, v, gm, h.wf, nn h.ag, nn h.al, nn h.am, by rw [del_app, if_neg (ne h.ag)]; exact h.at', by rw [del_app, if_neg (ne h.al)]; exact h.row, ⟨fun y c hy => ?_, h.wait.own.imp id fun ⟨y, e1, e2, e3⟩ => ⟨y, e1, nn e2, by rw [del_app, if_neg (ne e2)]; exact e3⟩⟩, m, by rw [del_app, if_neg (ne h.am)]; exact h1, h2⟩
  rw [del_app] at hy ⊢
  split at hy
  · cases hy
  · rename_i e; rw [if_neg e]; exact h.wait.sub _ _ hy
/-- What is new, over a smaller base. -/
theorem DskAt.split {A B B' : Heap} {g : Nat} {D : Dsk} (h : DskAt B g D B') (hA : A.Sub B) : DskAt A g D (A.plus B B') := by
  obtain ⟨gl, v, gm, h⟩ := h
  obtain ⟨m, h1, h2⟩ := h.now
  refine ⟨gl, v, gm, h.wf, sub_noneL hA h.ag, sub_noneL hA h.al, sub_noneL hA h.am, by rw [plus_new h.ag]; exact h.at', by rw [plus_new h.al]; exact h.row, ⟨sub_plus hA, h.wait.own.imp id fun ⟨x, e1, e2, e3⟩ => ⟨x, e1, sub_noneL hA e2, by rw [plus_new e2]; exact e3⟩⟩, m, by rw [plus_new h.am]; exact h1, h2⟩
section
variable {A B : Heap} {g gl gm : Nat} {v : AV} {D : Dsk}
theorem DskIn.gl_g (h : DskIn A g gl v gm D B) : gl ≠ g := by rintro rfl; have := h.at'; rw [h.row] at this; cases this
theorem DskIn.gm_g (h : DskIn A g gl v gm D B) : gm ≠ g := by rintro rfl; obtain ⟨m, h1, _⟩ := h.now; have := h.at'; rw [h1] at this; cases this
theorem DskIn.gm_gl (h : DskIn A g gl v gm D B) : gm ≠ gl := by rintro rfl; obtain ⟨m, h1, _⟩ := h.now; have := h.row; rw [h1] at this; cases this
/-- Only the numbers of it change. -/
theorem DskIn.nums (h : DskIn A g gl v gm D B) (n : Nat) {f : Int} (hf : f < 9223372036854775808) (d : Bool) : DskIn A g gl v gm { D with steps := n, fuse := f, down := d } (B.set g (dskC gl v gm { D with steps := n, fuse := f, down := d })) := by
  obtain ⟨m, h1, h2⟩ := h.now
  refine ⟨⟨h.wf.last, h.wf.wait, h.wf.size, hf⟩, h.ag, h.al, h.am, by simp, by simp [h.gl_g, h.row], ⟨fun x c hx => ?_, ?_⟩, m, by simp [h.gm_g, h1], h2⟩
  · rw [set_app, if_neg (fresh_ne hx h.ag)]; exact h.wait.sub _ _ hx
  · refine h.wait.own.imp id fun ⟨x, e1, e2, e3⟩ => ⟨x, e1, e2, ?_⟩
    have : x ≠ g := by rintro rfl; have := h.at'; rw [e3] at this; cases this
    simp [this, e3]
/-- A sector that lasts is stored. -/
theorem DskIn.store (h : DskIn A g gl v gm D B) (a : Nat) {s : List Nat} (hs : Sec s) : DskIn A g gl v gm { D with last := D.last.set a s } (B.set gl (.row T_256_uint8 256 ((secs D.last).set a (secV s)))) := by
  obtain ⟨m, h1, h2⟩ := h.now
  have hv := h.wait.ne h.row (fun l e => by cases e)
  refine ⟨⟨sec_set h.wf.last hs, by simpa using h.wf.wait, by simpa using h.wf.size, h.wf.fuse⟩, h.ag, h.al, h.am, ?_, by simp [secs_set], h.wait.set h.al hv, m, by simp [h.gm_gl, h1], h2⟩
  have := h.at'
  rw [Heap.set_ne _ _ (Ne.symm h.gl_g), this]
  simp [dskC]
end
end Go.Proofs.Ytkmlndihdcplfaa

/- The walks of a disk's small functions. -/
namespace Go.Proofs.Ytkmlndihdcplfaa
open Go AVL
attribute [-simp] AV.isAgg aappI aapp alen shp good comps
set_option linter.unusedVariables false
set_option linter.unusedSimpArgs false
set_option maxRecDepth 8000

section
variable {A B : Heap} {g gl gm : Nat} {v : AV} {D : Dsk} {K Kp : AV → Heap → Prop}
theorem w_disk_inside (h : DskIn A g gl v gm D B) {a : Int} (hk : K (.bool (D.inside a)) B) : SimX Try.prog F_Pdisk_Disk_inside [.ptr g 0, .int .i64 a] B (outK K Kp) := by
  refine j_Pdisk_Disk_inside (by simp) ?_
  have h1 := h.at'
  unfold dskC at h1
  have hs := h.wait.scl
  unfold Dsk.inside at hk
  by_cases h0 : 0 ≤ a
  · simp [h0] at hk
    simp -implicitDefEqProofs [a_Pdisk_Disk_inside, q_Pdisk_Disk_inside_0, q_Pdisk_Disk_inside_1, h0, h1, hs.size, hs.shp, hs.agg, hs.good, hs.comps, outOf]
    exact hk
  · simp [h0] at hk
    simp -implicitDefEqProofs [a_Pdisk_Disk_inside, q_Pdisk_Disk_inside_0, q_Pdisk_Disk_inside_1, h0, outOf]
    exact hk
theorem w_disk_Fuse (h : DskAt A g D B) {n : Int} (hn : n < 9223372036854775808) (hk : ∀ B', DskAt A g (D.setFuse n) B' → K (.tuple []) B') : SimX Try.prog F_Pdisk_Disk_Fuse [.ptr g 0, .int .i64 n] B (outK K Kp) := by
  obtain ⟨gl, v, gm, h⟩ := h
  refine j_Pdisk_Disk_Fuse (by simp) ?_
  have h1 := h.at'
  unfold dskC at h1
  have hs := h.wait.scl
  simp -implicitDefEqProofs [a_Pdisk_Disk_Fuse, q_Pdisk_Disk_Fuse_0, h1, hs.size, hs.shp, hs.agg, hs.good, hs.comps, outOf, pop]
  refine hk _ ⟨gl, v, gm, ?_⟩
  have e : (if n < -1 then -1 else n) = (if n < 0 then -1 else n) := by split <;> split <;> omega
  have := h.nums D.steps (f := if n < 0 then -1 else n) (by split <;> omega) D.down
  unfold dskC at this
  simpa [Dsk.setFuse, e] using this
/-- Whether there is power. -/
def codeOf (b : Bool) : Int := if b then 0 else 4
theorem w_disk_step (h : DskIn A g gl v gm D B) (hst : D.steps < 2 ^ 62) (hk : ∀ B', DskIn A g gl v gm D.step B' → K (.int .i64 (codeOf D.ok)) B') : SimX Try.prog F_Pdisk_Disk_step [.ptr g 0] B (outK K Kp) := by
  refine j_Pdisk_Disk_step (by simp) ?_
  have h1 := h.at'
  unfold dskC at h1
  have hs := h.wait.scl
  have hfu := h.wf.fuse
  have wst : IntKind.i64.wrap ((D.steps : Int) + 1) = (D.steps : Int) + 1 := wrap_i64 (by omega)
  by_cases hd : D.down = true
  · have hn := h.nums D.steps hfu true
    have e1 : D.ok = false := by simp [Dsk.ok, hd]
    have e2 : D.step = { D with steps := D.steps, fuse := D.fuse, down := true } := by simp [Dsk.step, hd]
    simp -implicitDefEqProofs [a_Pdisk_Disk_step, q_Pdisk_Disk_step_0, q_Pdisk_Disk_step_1, q_Pdisk_Disk_step_2, q_Pdisk_Disk_step_3, h1, hs.size, hs.shp, hs.agg, hs.good, hs.comps, outOf, hd]
    rw [e1, e2] at hk
    exact hk _ hn
  · have hd' : D.down = false := by simpa using hd
    by_cases hf : D.fuse = 0
    · have hn := h.nums D.steps hfu true
      have e1 : D.ok = false := by simp [Dsk.ok, hf]
      have e2 : D.step = { D with steps := D.steps, fuse := D.fuse, down := true } := by simp [Dsk.step, hf]
      rw [e1, e2] at hk
      have := hk _ hn
      unfold dskC at this
      rw [hf] at this h1
      simp -implicitDefEqProofs [a_Pdisk_Disk_step, q_Pdisk_Disk_step_0, q_Pdisk_Disk_step_1, q_Pdisk_Disk_step_2, q_Pdisk_Disk_step_3, h1, hs.size, hs.shp, hs.agg, hs.good, hs.comps, outOf, hd', hf]
      exact this
    · have e1 : D.ok = true := by simp [Dsk.ok, hf, hd']
      by_cases hf0 : 0 < D.fuse
      · have hn := h.nums (D.steps + 1) (f := D.fuse - 1) (by omega) false
        have e2 : D.step = { D with steps := D.steps + 1, fuse := D.fuse - 1, down := false } := by simp [Dsk.step, hf, hd', hf0]
        have wf : IntKind.i64.wrap (D.fuse - 1) = D.fuse - 1 := wrap_i64 (by omega)
        rw [e1, e2] at hk
        have := hk _ hn
        unfold dskC at this
        simp -implicitDefEqProofs [a_Pdisk_Disk_step, q_Pdisk_Disk_step_0, q_Pdisk_Disk_step_1, q_Pdisk_Disk_step_4, q_Pdisk_Disk_step_5, q_Pdisk_Disk_step_6, q_Pdisk_Disk_step_7, h1, hs.size, hs.shp, hs.agg, hs.good, hs.comps, outOf, hd', hf, hf0, wf, wst]
        simpa [codeOf] using this
      · have hn := h.nums (D.steps + 1) hfu false
        have e2 : D.step = { D with steps := D.steps + 1, fuse := D.fuse, down := false } := by simp [Dsk.step, hf, hd', hf0]
        rw [e1, e2] at hk
        have := hk _ hn
        unfold dskC at this
        simp -implicitDefEqProofs [a_Pdisk_Disk_step, q_Pdisk_Disk_step_0, q_Pdisk_Disk_step_1, q_Pdisk_Disk_step_4, q_Pdisk_Disk_step_6, q_Pdisk_Disk_step_7, h1, hs.size, hs.shp, hs.agg, hs.good, hs.comps, outOf, hd', hf, hf0, wst]
        simpa [codeOf] using this
end
end Go.Proofs.Ytkmlndihdcplfaa

/- The walks of a disk's Read, Write, settle, Flush, Crash. -/
namespace Go.Proofs.Ytkmlndihdcplfaa
open Go AVL
attribute [-simp] AV.isAgg aappI aapp alen shp good comps
set_option linter.unusedVariables false
set_option linter.unusedSimpArgs false
set_option maxRecDepth 8000

def zsec : List Int := List.replicate 256 0
theorem ints_z : ints z256 = zsec := by simp [ints, z256, zsec]
def Dsk.rd (D : Dsk) (a : Int) : List Nat × Int := if D.inside a then if D.down then (z256, 4) else (D.val a.toNat, 0) else (z256, 2)
section
variable {A B : Heap} {g gl gm : Nat} {v : AV} {D : Dsk} {K Kp : AV → Heap → Prop}
theorem w_disk_Read (h : DskAt A g D B) {a : Int} (hk : ∀ B', B.Sub B' → K (.tuple [secV (D.rd a).1, .int .i64 (D.rd a).2]) B') : SimX Try.prog F_Pdisk_Disk_Read [.ptr g 0, .int .i64 a] B (outK K Kp) := by
  obtain ⟨gl, v, gm, h⟩ := h
  refine j_Pdisk_Disk_Read (by simp) ?_
  have h1 := h.at'
  unfold dskC at h1
  have hs := h.wait.scl
  obtain ⟨m, hm, hnow⟩ := h.now
  simp -implicitDefEqProofs [a_Pdisk_Disk_Read, q_Pdisk_Disk_Read_0, q_Pdisk_Disk_Read_1, -List.reduceReplicate]
  intro g4 h4
  have n1 := fresh_ne h1 h4
  have n2 := fresh_ne hm h4
  have n3 := fresh_ne h.row h4
  refine w_disk_inside (h.mono (sub_none h4)) ?_
  unfold secV Dsk.rd at hk
  cases hi : D.inside a
  · rw [hi] at hk
    simp [ints_z, zsec, -List.reduceReplicate] at hk
    simp -implicitDefEqProofs [hi, q_Pdisk_Disk_Read_2, outOf, -List.reduceReplicate]
    exact hk _ (sub_none h4)
  · rw [hi] at hk
    simp only [Dsk.inside, Bool.and_eq_true, decide_eq_true_eq] at hi
    cases hd : D.down
    · rw [hd] at hk
      obtain ⟨n, rfl⟩ : ∃ n : Nat, a = n := ⟨a.toNat, by omega⟩
      have hn : n < D.last.length := by omega
      have hni : (n : Int) < D.last.length := by omega
      simp at hk
      have hg := hnow n
      simp -implicitDefEqProofs [hi, hd, h1, n1, q_Pdisk_Disk_Read_3, q_Pdisk_Disk_Read_5, q_Pdisk_Disk_Read_6, hs.size, hs.shp, hs.agg, hs.good, hs.comps, hm, n2, hg, lkV, -List.reduceReplicate]
      unfold Dsk.val at hk
      rw [look_eq] at hk
      cases ho : lookO D.wait n with
      | some s =>
        rw [ho] at hk
        simp at hk
        simp -implicitDefEqProofs [secV, -List.reduceReplicate]
        intro g6 h6 n6 h6'
        simp -implicitDefEqProofs [q_Pdisk_Disk_Read_7, h6, n6, outOf, -List.reduceReplicate]
        exact hk _ (sub_set' (sub_new (sub_none h4) (by simp [h6, h6'])) h4)
      | none =>
        rw [ho] at hk
        simp [hn] at hk
        simp -implicitDefEqProofs [-List.reduceReplicate]
        intro g6 h6 n6 h6'
        have hrow := h.row
        have n6' := fresh_ne hrow h6'
        have n7 := fresh_ne h1 h6'
        simp -implicitDefEqProofs [q_Pdisk_Disk_Read_8, h1, n1, n3, n6, n6', n7, h6, hs.size, hs.shp, hs.agg, hs.good, hs.comps, hrow, hn, hni, secs_getE, secV, outOf, -List.reduceReplicate]
        exact hk _ (sub_set' (sub_new (sub_none h4) (by simp [h6, h6'])) h4)
    · rw [hd] at hk
      simp [ints_z, zsec, -List.reduceReplicate] at hk
      simp -implicitDefEqProofs [hi, hd, h1, n1, q_Pdisk_Disk_Read_3, q_Pdisk_Disk_Read_4, hs.size, hs.shp, hs.agg, hs.good, hs.comps, outOf, -List.reduceReplicate]
      exact hk _ (sub_none h4)
theorem w_disk_Write (h : DskAt A g D B) (hst : D.steps < 2 ^ 62) (hwl : D.wait.length < 2 ^ 32) {a : Int} {s : List Nat} (hs : Sec s)
    (hk : ∀ B', DskAt A g (if D.inside a then D.write a.toNat s else D) B' → K (.int .i64 (if D.inside a then codeOf D.ok else 2)) B') : SimX Try.prog F_Pdisk_Disk_Write [.ptr g 0, .int .i64 a, secV s] B (outK K Kp) := by
  obtain ⟨gl, v, gm, h⟩ := h
  refine j_Pdisk_Disk_Write (by simp) ?_
  simp -implicitDefEqProofs [a_Pdisk_Disk_Write, q_Pdisk_Disk_Write_0, q_Pdisk_Disk_Write_1, secV, -List.reduceReplicate]
  intro g5 h5
  refine w_disk_inside (h.mono (sub_none h5)) ?_
  cases hi : D.inside a
  · rw [hi] at hk
    simp at hk
    simp -implicitDefEqProofs [hi, q_Pdisk_Disk_Write_2, outOf, -List.reduceReplicate]
    exact hk _ (DskAt.mono ⟨gl, v, gm, h⟩ (sub_none h5))
  · rw [hi] at hk
    simp only [Dsk.inside, Bool.and_eq_true, decide_eq_true_eq] at hi
    obtain ⟨n, rfl⟩ : ∃ n : Nat, a = n := ⟨a.toNat, by omega⟩
    have hn : n < D.last.length := by omega
    simp at hk
    simp -implicitDefEqProofs [hi, q_Pdisk_Disk_Write_3, -List.reduceReplicate]
    refine w_disk_step (h.rebase h5) hst fun B1 hB1 => ?_
    obtain ⟨A1, hA1⟩ : ∃ X, A.set g5 (.var 23 [.iarr .u8 256 (ints s)]) = X := ⟨_, rfl⟩
    have hAA : A.Sub A1 := by rw [← hA1]; exact sub_none (sub_noneL h.wait.sub h5)
    have hA5 : A1 g5 = some (.var 23 [.iarr .u8 256 (ints s)]) := by rw [← hA1]; simp
    rw [hA1] at hB1
    clear hA1
    cases hok : D.ok
    · simp -implicitDefEqProofs [codeOf, q_Pdisk_Disk_Write_4, q_Pdisk_Disk_Write_5, outOf, -List.reduceReplicate]
      rw [hok] at hk
      refine hk _ (DskAt.base ⟨gl, v, gm, ?_⟩ hAA)
      simpa [Dsk.write, hok] using hB1
    · obtain ⟨X, x1, x2, x3, x4, x5⟩ := hB1.wait.top
      obtain ⟨m, hm, hnow⟩ := hB1.now
      have h1 := hB1.at'
      have hng := hB1.wait.not_base (x := g5) hA5
      have hag := hB1.ag
      have f5 := hB1.wait.sub _ _ hA5
      have hg5 : g5 ≠ g := by rintro rfl; rw [hA5] at hag; cases hag
      have vg := hB1.wait.ne h1 (fun l e => by cases e)
      have vm := hB1.wait.ne hm (fun l e => by cases e)
      have vl := hB1.wait.ne hB1.row (fun l e => by cases e)
      have xg := x4 _ _ h1 vg
      have xm := x4 _ _ hm vm
      have xl := x4 _ _ hB1.row vl
      have x6 := x4 _ _ f5 hng
      unfold dskC at h1 xg
      have hsc := hB1.wait.scl
      simp -implicitDefEqProofs [codeOf, q_Pdisk_Disk_Write_4, q_Pdisk_Disk_Write_6, h1, f5, hsc.size, hsc.shp, hsc.agg, hsc.good, hsc.comps, -List.reduceReplicate]
      intro g25 h25
      refine x3.app (ys := [wrV (n, s)]) (bytes := 264) (C := B1.set g25 (.row 170 257 [wrV (n, s)])) (by simp) (by simp [wrV, secV]) (sub_none h25) h25 (by simp [D.step_wait]; omega) fun v' C' hC' hv' => ?_
      have c1 := hC'.sub _ _ xg
      have c2 := hC'.sub _ _ xm
      have c3 := hC'.sub _ _ xl
      have c5 := hC'.sub _ _ x6
      have nm : gm ≠ g := hB1.gm_g
      have nl : gl ≠ g := hB1.gl_g
      have nml : gm ≠ gl := hB1.gm_gl
      have hsc' := hC'.scl
      simp -implicitDefEqProofs [c1, hsc.size, hsc'.size, hsc'.st, hsc'.shp, hsc'.agg, hsc'.good, hsc'.comps, q_Pdisk_Disk_Write_7, q_Pdisk_Disk_Write_8, nm, hg5, c5, c2, outOf, -List.reduceReplicate]
      rw [hok] at hk
      refine hk _ ⟨gl, v', gm, ?_⟩
      have hw : D.write n s = { D.step with wait := D.wait ++ [(n, s)] } := by simp [Dsk.write, hok]
      have hwf := D.write_wf h.wf hn hs
      rw [hw] at hwf ⊢
      have hC2 := ((hC'.base (sub_tr hAA x1)).set (c := dskC gl v' gm { D.step with wait := D.wait ++ [(n, s)] }) h.ag (hC'.not_base xg)).set (c := .mp .i64 (putM m n (secV s))) h.am (hC'.not_base xm)
      rw [D.step_wait, ← wrs_snoc] at hC2
      rw [D.step_wait] at hnow
      refine ⟨hwf, h.ag, h.al, h.am, by simp [Ne.symm nm, dskC], by simp [nl, Ne.symm nml, c3], hC2, _, set_eq', hnow.put n s⟩
theorem w_disk_settle (h : DskIn A g gl v gm D B) (hwl : D.wait.length < 2 ^ 32) (keep : Nat → Bool) {fv : AV} {f : FuncId} {cap : List AV} (hf : fv = .func (.func f) [] cap) (hcl : callable Try.prog f = true)
    (hcall : ∀ (i : Nat) (C : Heap) (K Kp : AV → Heap → Prop), i < D.wait.length → A.Sub C → (∀ C', C.Sub C' → K (.bool (keep i)) C') → SimX Try.prog f (.int .i64 i :: cap) C (outK K Kp))
    (hk : ∀ B', DskAt A g (D.settle keep) B' → K (.int .i64 (stn keep D.wait.length)) B') : SimX Try.prog F_Pdisk_Disk_settle [.ptr g 0, fv] B (outK K Kp) := by
  subst hf
  have hwf0 := h.wf
  refine j_Pdisk_Disk_settle (by simp) ?_
  have h1 := h.at'
  unfold dskC at h1
  have hsc := h.wait.scl
  simp -implicitDefEqProofs [a_Pdisk_Disk_settle, q_Pdisk_Disk_settle_0, q_Pdisk_Disk_settle_1, q_Pdisk_Disk_settle_2, h1, hsc.size, hsc.shp, hsc.agg, hsc.good, hsc.comps, h.wait.len, -List.reduceReplicate]
  refine X_lp (fun (i : Nat) env B => i ≤ D.wait.length ∧ env 0 = .ptr g 0 ∧ env 1 = .func (.func f) [] cap ∧ env 5 = .int .i64 (stn keep i) ∧ env 11 = v ∧ env 12 = .int .i64 D.wait.length ∧ env 13 = .int .i64 i ∧ DskIn A g gl v gm { D with last := stl keep D.wait D.last i } B) (fun i => D.wait.length - i) 0
    ⟨by omega, by simp, by simp, by simp [stn], by simp, by simp, by simp, h⟩ ?_
  clear h h1
  rintro i env B ⟨hi, e0, e1, e5, e11, e12, e13, hd⟩
  have h1 := hd.at'
  unfold dskC at h1
  have hsn := stn_le keep i
  by_cases hil : i < D.wait.length
  · have hil' : (i : Int) < D.wait.length := by omega
    have wi : IntKind.i64.wrap ((i : Int) + 1) = (i : Int) + 1 := wrap_i64 (by omega)
    have ws : IntKind.i64.wrap (((stn keep i : Nat) : Int) + 1) = ((stn keep i + 1 : Nat) : Int) := by rw [wrap_i64 (by omega)]; omega
    obtain ⟨gw, rfl, hgA, hgw⟩ := hd.wait.pos (by simpa using Nat.lt_of_le_of_lt (Nat.zero_le _) hil)
    obtain ⟨D', hD'⟩ : ∃ x, { D with last := stl keep D.wait D.last i } = x := ⟨_, rfl⟩
    have dw : D'.wait = D.wait := by rw [← hD']
    have dl : D'.last.length = D.last.length := by rw [← hD']; simp
    rw [hD'] at h1 hd hgw
    rw [hD', dw] at e11
    rw [dw] at hgw
    have hwgt := hd.wf.wait D.wait[i] (by rw [dw]; exact List.getElem_mem hil)
    simp -implicitDefEqProofs [q_Pdisk_Disk_settle_L9, q_Pdisk_Disk_settle_3, q_Pdisk_Disk_settle_4, e0, e1, e5, e11, e12, e13, hil, hil', hgw, wrs_getE, wrV, secV, -List.reduceReplicate]
    intro g7 h7
    have n1 := fresh_ne h1 h7
    have n2 := fresh_ne hgw h7
    have n3 := fresh_ne hd.row h7
    simp -implicitDefEqProofs [q_Pdisk_Disk_settle_5, e1, hcl, -List.reduceReplicate]
    refine hcall i _ _ _ hil (sub_new hd.wait.sub h7) fun C hC => ?_
    have c1 := hC g _ (by rw [Heap.set_ne _ _ n1]; exact h1)
    have c3 := hC gl _ (by rw [Heap.set_ne _ _ n3]; exact hd.row)
    have c7 := hC g7 _ (by simp; rfl)
    have hd2 := (hd.mono (sub_none h7)).mono hC
    have hst := stl_succ (keep := keep) (L := D.last) hil
    cases hkp : keep i
    · rw [hkp] at hst
      simp -implicitDefEqProofs [q_Pdisk_Disk_settle_8, e13, wi, -List.reduceReplicate]
      refine lp_next (i + 1) ⟨by omega, by simp [e0], by simp [e1], by simp [e5, stn, hkp], by simp [e11, dw], by simp [e12], by simp, ?_⟩ (by omega)
      rw [hst]
      simpa [hD', dw] using hd2
    · rw [hkp] at hst
      have hws : D.wait[i].1 < D'.last.length := hwgt.1
      simp -implicitDefEqProofs [q_Pdisk_Disk_settle_6, q_Pdisk_Disk_settle_7, q_Pdisk_Disk_settle_8, e0, e13, e5, wi, ws, c1, c3, c7, hws, secs_getE, secV, -List.reduceReplicate]
      have hd3 := hd2.store D.wait[i].1 hwgt.2
      refine lp_next (i + 1) ⟨by omega, by simp [e0], by simp [e1], by simp [stn, hkp], by simp [e11, dw], by simp [e12], by simp, ?_⟩ (by omega)
      rw [hst]
      subst hD'
      simpa [secV] using hd3
  · have hie : i = D.wait.length := by omega
    subst hie
    simp -implicitDefEqProofs [q_Pdisk_Disk_settle_L9, q_Pdisk_Disk_settle_3, q_Pdisk_Disk_settle_9, q_Pdisk_Disk_settle_10, e0, e1, e5, e11, e12, e13, outOf, -List.reduceReplicate]
    intro gm' hgm'
    have n1 := fresh_ne h1 hgm'
    simp -implicitDefEqProofs [n1, h1, hsc.size, hsc.shp, hsc.agg, hsc.good, hsc.comps, outOf, -List.reduceReplicate]
    refine hk _ ⟨gl, .nilS, gm', ?_⟩
    have hA' := sub_noneL hd.wait.sub hgm'
    have n2 := fresh_ne hd.row hgm'
    exact ⟨Dsk.settle_wf hwf0 keep, hd.ag, hd.al, hA', by simp [dskC, Dsk.settle], by simp [hd.gl_g, n2, hd.row, Dsk.settle], SlR.nil (sub_set' (sub_new hd.wait.sub hgm') hd.ag), [], by simp [Ne.symm n1], NowOK.nil⟩
theorem w_disk_Flush (h : DskAt A g D B) (hst : D.steps < 2 ^ 62) (hwl : D.wait.length < 2 ^ 32) (hk : ∀ B', DskAt A g D.flush B' → K (.int .i64 (codeOf D.ok)) B') : SimX Try.prog F_Pdisk_Disk_Flush [.ptr g 0] B (outK K Kp) := by
  obtain ⟨gl, v, gm, h⟩ := h
  refine j_Pdisk_Disk_Flush (by simp) ?_
  simp -implicitDefEqProofs [a_Pdisk_Disk_Flush, q_Pdisk_Disk_Flush_0, q_Pdisk_Disk_Flush_1]
  refine w_disk_step h hst fun B1 hB1 => ?_
  unfold Dsk.flush at hk
  cases hok : D.ok
  · rw [hok] at hk
    simp -implicitDefEqProofs [codeOf, q_Pdisk_Disk_Flush_2, q_Pdisk_Disk_Flush_3, outOf]
    exact hk _ ⟨_, _, _, hB1⟩
  · rw [hok] at hk
    simp -implicitDefEqProofs [codeOf, q_Pdisk_Disk_Flush_2, q_Pdisk_Disk_Flush_4]
    refine w_disk_settle hB1 (by rw [D.step_wait]; exact hwl) (fun _ => true) rfl k_Pdisk_Disk_Flush_1 (fun i C K Kp _ _ hk => ?_) fun B2 hB2 => ?_
    · refine j_Pdisk_Disk_Flush_1 (by simp) ?_
      simp -implicitDefEqProofs [a_Pdisk_Disk_Flush_1, q_Pdisk_Disk_Flush_1_0, q_Pdisk_Disk_Flush_1_1, outOf]
      exact hk _ (Sub_refl _)
    · simp -implicitDefEqProofs [q_Pdisk_Disk_Flush_5, outOf]
      exact hk _ hB2
def bls (l : List Bool) : List AV := l.map .bool
@[simp] theorem bls_length (l : List Bool) : (bls l).length = l.length := by simp [bls]
theorem bls_getE {l : List Bool} {i : Nat} (h : i < (bls l).length) : (bls l)[i] = .bool (l[i]'(by simpa using h)) := by simp [bls]
/-- Where the list of what is kept lies. -/
def KeepV (A : Heap) (kv : AV) (l : List Bool) : Prop := kv = .dsl 1 (bls l) ∨ ∃ gk, kv = .own gk 0 l.length ∧ A gk = some (.row T_bool 1 (bls l))
theorem w_disk_Crash (h : DskAt A g D B) (hwl : D.wait.length < 2 ^ 32) {kv : AV} {keep : List Bool} (hkv : KeepV A kv keep) (hk : ∀ B', DskAt A g (D.crash keep) B' → K (.int .i64 (stn (keeps keep) D.wait.length)) B') : SimX Try.prog F_Pdisk_Disk_Crash [.ptr g 0, kv] B (outK K Kp) := by
  obtain ⟨gl, v, gm, h⟩ := h
  refine j_Pdisk_Disk_Crash (by simp) ?_
  have hks : kv.isAgg = false ∧ good kv = true ∧ comps kv = [kv] ∧ kv.st = true ∧ shp .sc [kv] = some kv ∧ kv.size = 1 := by
    rcases hkv with rfl | ⟨gk, rfl, _⟩ <;> exact ⟨rfl, rfl, rfl, rfl, rfl, rfl⟩
  obtain ⟨k1, k2, k3, k4, k5, k6⟩ := hks
  have h1 := h.at'
  unfold dskC at h1
  have hsc := h.wait.scl
  simp -implicitDefEqProofs [a_Pdisk_Disk_Crash, q_Pdisk_Disk_Crash_0, q_Pdisk_Disk_Crash_1, k1, k2, k3, k4, k5, k6]
  intro g3 h3
  have n1 := fresh_ne h1 h3
  simp -implicitDefEqProofs [h1, n1, hsc.size, hsc.shp, hsc.agg, hsc.good, hsc.comps, q_Pdisk_Disk_Crash_2, pop]
  have hA3 := sub_noneL h.wait.sub h3
  have hb := ((h.rebase (c := .var 61 [kv]) h3).nums D.steps (f := -1) (by decide) false)
  have hkA : KeepV (A.set g3 (.var 61 [kv])) kv keep := hkv.imp id fun ⟨gk, e1, e2⟩ => ⟨gk, e1, by rw [Heap.set_ne _ _ (fresh_ne e2 hA3)]; exact e2⟩
  have hA33 : (A.set g3 (.var 61 [kv])) g3 = some (.var 61 [kv]) := by simp
  obtain ⟨A3, hA3'⟩ : ∃ X, A.set g3 (.var 61 [kv]) = X := ⟨_, rfl⟩
  have hAA : A.Sub A3 := by rw [← hA3']; exact sub_none hA3
  rw [hA3'] at hb hkA hA33
  refine w_disk_settle hb hwl (keeps keep) rfl k_Pdisk_Disk_Crash_1 (fun i C K Kp hi hs hk => ?_) fun B2 hB2 => ?_
  · refine j_Pdisk_Disk_Crash_1 (by simp) ?_
    have c3 := hs _ _ hA33
    unfold keeps at hk
    by_cases hil : i < keep.length
    · have hil' : (i : Int) < keep.length := by omega
      rw [List.getD_eq_getElem?_getD, List.getElem?_eq_getElem hil] at hk
      rcases hkA with rfl | ⟨gk, rfl, hgk⟩
      · simp -implicitDefEqProofs [a_Pdisk_Disk_Crash_1, q_Pdisk_Disk_Crash_1_0, q_Pdisk_Disk_Crash_1_1, c3, hil, hil', bls_getE, outOf]
        exact hk _ (Sub_refl _)
      · have ck := hs _ _ hgk
        simp -implicitDefEqProofs [a_Pdisk_Disk_Crash_1, q_Pdisk_Disk_Crash_1_0, q_Pdisk_Disk_Crash_1_1, c3, ck, hil, hil', bls_getE, outOf]
        exact hk _ (Sub_refl _)
    · have hil' : ¬ (i : Int) < keep.length := by omega
      rw [List.getD_eq_getElem?_getD, List.getElem?_eq_none (by omega)] at hk
      rcases hkA with rfl | ⟨gk, rfl, hgk⟩
      · simp -implicitDefEqProofs [a_Pdisk_Disk_Crash_1, q_Pdisk_Disk_Crash_1_0, q_Pdisk_Disk_Crash_1_1, c3, hil, hil', outOf]
        exact hk _ (Sub_refl _)
      · simp -implicitDefEqProofs [a_Pdisk_Disk_Crash_1, q_Pdisk_Disk_Crash_1_0, q_Pdisk_Disk_Crash_1_1, c3, hil, hil', outOf]
        exact hk _ (Sub_refl _)
  · simp -implicitDefEqProofs [outOf]
    refine hk _ (hB2.base hAA)
end
end Go.Proofs.Ytkmlndihdcplfaa

/- The walks of a disk's Image, Pending, New, Twin. -/
namespace Go.Proofs.Ytkmlndihdcplfaa
open Go AVL
attribute [-simp] AV.isAgg aappI aapp alen shp good comps
set_option linter.unusedVariables false
set_option linter.unusedSimpArgs false
set_option maxRecDepth 8000

section
variable {A B : Heap} {g gl gm : Nat} {v : AV} {D : Dsk} {K Kp : AV → Heap → Prop}
theorem w_disk_New {n : Int} (hb : ¬ (1 ≤ n ∧ n ≤ 4096) → K (.tuple [.nilP, .int .i64 2]) B) (hk : 1 ≤ n ∧ n ≤ 4096 → ∀ g B', DskAt B g (Dsk.fresh n.toNat) B' → K (.tuple [.ptr g 0, .int .i64 0]) B') : SimX Try.prog F_disk_New [.int .i64 n] B (outK K Kp) := by
  refine j_disk_New (by simp) ?_
  by_cases hn : 1 ≤ n ∧ n ≤ 4096
  · have hk := hk hn
    have c1 : ¬ n < 1 := by omega
    have c2 : ¬ 4096 < n := by omega
    obtain ⟨m, rfl⟩ : ∃ m : Nat, n = m := ⟨n.toNat, by omega⟩
    simp -implicitDefEqProofs [a_disk_New, q_disk_New_0, q_disk_New_1, q_disk_New_3, c1, c2, outOf, -List.reduceReplicate]
    refine ⟨by omega, fun gl hl gm n1 n1' hm g n2 n2' n3 n3' hg => ?_⟩
    refine hk g _ ⟨gl, .nilS, gm, Dsk.fresh_wf (by omega), hg, hl, hm, by simp [dskC, Dsk.fresh], ?_, SlR.nil (sub_new (sub_new (sub_none hl) ?_) ?_), [], by simp [n2, n2'], NowOK.nil⟩
    · simp [n3, n3', n1, n1', Dsk.fresh, secs, secV, ints_z, zsec, -List.reduceReplicate]
    · simp [n1, n1', hm]
    · simp [n2, n2', n3, n3', hg]
  · have hb := hb hn
    by_cases c1 : n < 1
    · simp -implicitDefEqProofs [a_disk_New, q_disk_New_0, q_disk_New_1, q_disk_New_2, c1, outOf]
      exact hb
    · have c2 : 4096 < n := by omega
      simp -implicitDefEqProofs [a_disk_New, q_disk_New_0, q_disk_New_1, q_disk_New_2, c1, c2, outOf]
      exact hb
end
end Go.Proofs.Ytkmlndihdcplfaa
