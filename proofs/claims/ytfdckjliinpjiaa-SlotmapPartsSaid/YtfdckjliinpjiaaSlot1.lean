/- Texts of this claim, in order: Fn Gword Wb Gslot Ma Mb Mc Md Me Mf Mg Mh Za Zb. -/
import Derived.Test.YtfdckjliinpjiaaL3
import Derived.Test.YtfdckjliinpjiaaProg
import Derived.KernelRfl
/- The numbers of functions and types, by name. -/
namespace Go.Proofs.Ytfdckjliinpjiaa
open Go AVL
set_option linter.unusedVariables false
set_option maxRecDepth 20000

abbrev F_law24_ParcelPuts : FuncId := 3
abbrev F_law24_ParcelBack : FuncId := 4
abbrev F_law24_ParcelOne : FuncId := 5
abbrev F_law10_SlotmapDoes : FuncId := 6
abbrev F_law10_SlotmapBack : FuncId := 7
abbrev F_law10_SlotmapParts : FuncId := 8
abbrev F_law13_ChunkCuts : FuncId := 9
abbrev F_law13_ChunkNames : FuncId := 10
abbrev F_law13_ChunkBack : FuncId := 11
abbrev F_law31_TreeRoots : FuncId := 12
abbrev F_law31_TreeBack : FuncId := 13
abbrev F_law31_TreeTells : FuncId := 14
abbrev F_law24_Light : FuncId := 15
abbrev F_law24_works : FuncId := 16
abbrev F_parcel_Put : FuncId := 17
abbrev F_ref24_Put : FuncId := 18
abbrev F_ref01_Same : FuncId := 19
abbrev F_parcel_Same : FuncId := 20
abbrev F_ref24_Same : FuncId := 21
abbrev F_parcel_Get : FuncId := 22
abbrev F_law10_works : FuncId := 23
abbrev F_slotmap_New : FuncId := 24
abbrev F_Pslotmap_Map_Copy : FuncId := 25
abbrev F_ref10_Set : FuncId := 26
abbrev F_Pslotmap_Map_Set : FuncId := 27
abbrev F_ref10_Take : FuncId := 28
abbrev F_Pslotmap_Map_Take : FuncId := 29
abbrev F_law10_ints : FuncId := 30
abbrev F_law10_same : FuncId := 31
abbrev F_Pslotmap_Map_Put : FuncId := 32
abbrev F_slotmap_Read : FuncId := 33
abbrev F_ref10_Put : FuncId := 34
abbrev F_Pslotmap_Map_Len : FuncId := 35
abbrev F_Pslotmap_Map_Count : FuncId := 36
abbrev F_Pslotmap_Map_First : FuncId := 37
abbrev F_Pslotmap_Map_Get : FuncId := 38
abbrev F_law13_works : FuncId := 39
abbrev F_chunk_Split : FuncId := 40
abbrev F_ref13_Split : FuncId := 41
abbrev F_chunk_Check : FuncId := 42
abbrev F_ref13_Check : FuncId := 43
abbrev F_chunk_Count : FuncId := 44
abbrev F_chunk_Part : FuncId := 45
abbrev F_chunk_All : FuncId := 46
abbrev F_chunk_Addresses : FuncId := 47
abbrev F_ref13_Address : FuncId := 48
abbrev F_chunk_Address : FuncId := 49
abbrev F_chunk_Text : FuncId := 50
abbrev F_ref13_Text : FuncId := 51
abbrev F_chunk_Of : FuncId := 52
abbrev F_chunk_Sector : FuncId := 53
abbrev F_chunk_Join : FuncId := 54
abbrev F_ref13_Join : FuncId := 55
abbrev F_law31_light : FuncId := 56
abbrev F_law31_works : FuncId := 57
abbrev F_tree_Root : FuncId := 58
abbrev F_ref31_Root : FuncId := 59
abbrev F_tree_Check : FuncId := 60
abbrev F_tree_Prove : FuncId := 61
abbrev F_ref31_Same : FuncId := 62
abbrev F_ref31_Path : FuncId := 63
abbrev F_tree_Leaf : FuncId := 64
abbrev F_ref03_Sum : FuncId := 65
abbrev F_ref31_LeafText : FuncId := 66
abbrev F_tree_Depth : FuncId := 67
abbrev F_ref31_Rows : FuncId := 68
abbrev F_tree_All : FuncId := 69
abbrev F_tree_Climb : FuncId := 70
abbrev F_tree_Verify : FuncId := 71
abbrev F_law31_texts : FuncId := 72
abbrev F_law31_clash : FuncId := 73
abbrev F_trap_Try_byte : FuncId := 74
abbrev F_parcel_Put_1 : FuncId := 75
abbrev F_parcel_put : FuncId := 76
abbrev F_ref24_wrong : FuncId := 77
abbrev F_ref01_Put : FuncId := 78
abbrev F_ref24_text : FuncId := 79
abbrev F_trap_Try_api_Request : FuncId := 80
abbrev F_Pparcel_eye_get : FuncId := 81
abbrev F_Pslotmap_Map_Last : FuncId := 82
abbrev F_ref10_Of : FuncId := 83
abbrev F_Pslotmap_Map_All : FuncId := 84
abbrev F_law10_all : FuncId := 85
abbrev F_word_Whole : FuncId := 86
abbrev F_crc_Sealed : FuncId := 87
abbrev F_crc_Holds : FuncId := 88
abbrev F_ref08_Sealed : FuncId := 89
abbrev F_chunk_All_1 : FuncId := 90
abbrev F_ref13_Said : FuncId := 91
abbrev F_digest_Of : FuncId := 92
abbrev F_ref13_Words : FuncId := 93
abbrev F_digest_New : FuncId := 94
abbrev F_Pdigest_Hash_Add : FuncId := 95
abbrev F_word_Put : FuncId := 96
abbrev F_Pdigest_Hash_Sum : FuncId := 97
abbrev F_word_Zero : FuncId := 98
abbrev F_ref01_Zero : FuncId := 99
abbrev F_tree_leaves : FuncId := 100
abbrev F_tree_up : FuncId := 101
abbrev F_tree_crown : FuncId := 102
abbrev F_ref31_Check : FuncId := 103
abbrev F_ref31_RootText : FuncId := 104
abbrev F_ref31_top : FuncId := 105
abbrev F_ref31_path : FuncId := 106
abbrev F_ref03_table : FuncId := 107
abbrev F_ref03_padded : FuncId := 108
abbrev F_ref03_mixed : FuncId := 109
abbrev F_ref03_words : FuncId := 110
abbrev F_tree_join : FuncId := 111
abbrev F_ref31_NodeText : FuncId := 112
abbrev F_trap_Catch : FuncId := 113
abbrev F_trap_Try_byte_1 : FuncId := 114
abbrev F_parcel_mark : FuncId := 115
abbrev F_parcel_text : FuncId := 116
abbrev F_trap_Throw : FuncId := 117
abbrev F_trap_Try_api_Request_1 : FuncId := 118
abbrev F_Pparcel_eye_take : FuncId := 119
abbrev F_Pparcel_eye_num : FuncId := 120
abbrev F_Pparcel_eye_text : FuncId := 121
abbrev F_Pparcel_eye_addr : FuncId := 122
abbrev F_Pslotmap_Map_All_1 : FuncId := 123
abbrev F_crc_Four : FuncId := 124
abbrev F_crc_Of : FuncId := 125
abbrev F_ref02_Of : FuncId := 126
abbrev F_digest_mix : FuncId := 127
abbrev F_ref31_behind : FuncId := 128
abbrev F_ref31_width : FuncId := 129
abbrev F_ref03_right : FuncId := 130
abbrev F_trap_Catch_1 : FuncId := 131
abbrev F_trap_caught : FuncId := 132
abbrev F_word_Get : FuncId := 133
abbrev F_crc_More : FuncId := 134
abbrev F_ref02_bits : FuncId := 135
abbrev F_digest_spread : FuncId := 136
abbrev F_digest_rounds : FuncId := 137
abbrev F_digest_spin : FuncId := 138
abbrev F_crc_turn : FuncId := 139
abbrev F_Pruntime_TypeAssertionError_Error : FuncId := 148
abbrev F_Pruntime_TypeAssertionError_RuntimeError : FuncId := 149
abbrev F_Pruntime_PanicNilError_Error : FuncId := 150
abbrev F_Pruntime_PanicNilError_RuntimeError : FuncId := 151
abbrev F_Pinternal_abi_Type_Align : FuncId := 152
abbrev F_internal_runtime_maps_unhashableTypeError_Error : FuncId := 153
abbrev F_internal_runtime_maps_unhashableTypeError_RuntimeError : FuncId := 154
abbrev F_internal_abi_Kind_String : FuncId := 155
abbrev T_fno_c : TypeId := 1
abbrev T_int64 : TypeId := 2
abbrev T_int : TypeId := 3
abbrev T_bool : TypeId := 4
abbrev T_uint8 : TypeId := 5
abbrev T_string : TypeId := 9
abbrev T_uintptr : TypeId := 12
abbrev T_P_runtime_TypeAssertionError : TypeId := 15
abbrev T_P_runtime_PanicNilError : TypeId := 16
abbrev T_P_abi_Type : TypeId := 17
abbrev T_interface : TypeId := 20
abbrev T_int32 : TypeId := 21
abbrev T_L_uint8 : TypeId := 22
abbrev T_32_uint8 : TypeId := 23
abbrev T_L_32_uint8 : TypeId := 24
abbrev T_api_Request : TypeId := 26
abbrev T_fno_api_Request_c_int : TypeId := 27
abbrev T_fno_c_bool : TypeId := 28
abbrev T_api_Code : TypeId := 29
abbrev T_L_uint8_api_Code : TypeId := 30
abbrev T_fno_api_Request_c_o_L_uint8_api_Code_c : TypeId := 31
abbrev T_fno_L_uint8_L_uint8_c_bool : TypeId := 32
abbrev T_fno_api_Request_api_Request_c_bool : TypeId := 33
abbrev T_api_Request_api_Code : TypeId := 34
abbrev T_fno_L_uint8_c_o_api_Request_api_Code_c : TypeId := 35
abbrev T_fno_L_uint8_c_bool : TypeId := 36
abbrev T_L_law10_Op : TypeId := 37
abbrev T_P_slotmap_Map : TypeId := 38
abbrev T_P_slotmap_Map_api_Code : TypeId := 39
abbrev T_fno_int_c_o_P_slotmap_Map_api_Code_c : TypeId := 40
abbrev T_L_int : TypeId := 41
abbrev T_fno_c_P_slotmap_Map : TypeId := 42
abbrev T_law10_Op : TypeId := 44
abbrev T_L_int_api_Code : TypeId := 45
abbrev T_fno_L_int_int_int_c_o_L_int_api_Code_c : TypeId := 46
abbrev T_fno_int_int_c_api_Code : TypeId := 47
abbrev T_L_int_L_int_api_Code : TypeId := 48
abbrev T_fno_L_int_int_c_o_L_int_L_int_api_Code_c : TypeId := 49
abbrev T_fno_int_c_o_L_int_api_Code_c : TypeId := 50
abbrev T_fno_L_int_L_int_c_bool : TypeId := 51
abbrev T_fno_P_slotmap_Map_L_int_c_bool : TypeId := 52
abbrev T_fno_int_L_law10_Op_c_bool : TypeId := 53
abbrev T_256_uint8 : TypeId := 54
abbrev T_fno_c_256_uint8 : TypeId := 55
abbrev T_fno_int_256_uint8_c_o_P_slotmap_Map_api_Code_c : TypeId := 56
abbrev T_fno_L_int_c_256_uint8 : TypeId := 57
abbrev T_fno_c_int : TypeId := 58
abbrev T_fno_L_uint8_256_uint8_int_c_bool : TypeId := 59
abbrev T_fno_int_c_int : TypeId := 60
abbrev T_fno_L_uint8_int_c_bool : TypeId := 61
abbrev T_L_L_uint8 : TypeId := 62
abbrev T_fno_L_uint8_c_L_L_uint8 : TypeId := 63
abbrev T_fno_L_uint8_c_api_Code : TypeId := 64
abbrev T_fno_int_int_c_int : TypeId := 65
abbrev T_fno_funco_int_L_uint8_c_bool_c : TypeId := 66
abbrev T_iter_Seq2_int_L_uint8 : TypeId := 67
abbrev T_fno_L_uint8_c_iter_Seq2_int_L_uint8 : TypeId := 68
abbrev T_fno_L_uint8_int_int_c_bool : TypeId := 69
abbrev T_fno_L_uint8_c_L_32_uint8 : TypeId := 70
abbrev T_fno_L_uint8_c_32_uint8 : TypeId := 71
abbrev T_fno_int_L_32_uint8_c_32_uint8 : TypeId := 72
abbrev T_L_256_uint8 : TypeId := 73
abbrev T_fno_L_uint8_c_256_uint8 : TypeId := 74
abbrev T_fno_int_L_256_uint8_c_o_L_uint8_api_Code_c : TypeId := 75
abbrev T_fno_L_uint8_int_L_256_uint8_c_bool : TypeId := 76
abbrev T_fno_L_L_uint8_c_bool : TypeId := 77
abbrev T_32_uint8_api_Code : TypeId := 78
abbrev T_fno_L_L_uint8_c_o_32_uint8_api_Code_c : TypeId := 79
abbrev T_fno_L_L_uint8_c_api_Code : TypeId := 80
abbrev T_tree_Proof : TypeId := 82
abbrev T_tree_Proof_api_Code : TypeId := 83
abbrev T_fno_L_L_uint8_int_c_o_tree_Proof_api_Code_c : TypeId := 84
abbrev T_fno_L_32_uint8_L_32_uint8_c_bool : TypeId := 85
abbrev T_fno_L_L_uint8_int_c_L_32_uint8 : TypeId := 86
abbrev T_fno_int_L_uint8_c_32_uint8 : TypeId := 87
abbrev T_fno_int_L_uint8_c_L_uint8 : TypeId := 88
abbrev T_fno_L_L_uint8_int_int_c_bool : TypeId := 89
abbrev T_L_tree_Proof : TypeId := 90
abbrev T_L_tree_Proof_api_Code : TypeId := 91
abbrev T_fno_L_L_uint8_c_o_L_tree_Proof_api_Code_c : TypeId := 92
abbrev T_32_uint8_bool : TypeId := 93
abbrev T_fno_tree_Proof_L_uint8_c_o_32_uint8_bool_c : TypeId := 94
abbrev T_fno_32_uint8_tree_Proof_L_uint8_c_bool : TypeId := 95
abbrev T_fno_tree_Proof_L_uint8_c_L_L_uint8 : TypeId := 96
abbrev T_fno_L_L_uint8_tree_Proof_L_uint8_c_bool : TypeId := 97
abbrev T_fno_funco_c_L_uint8_c_o_L_uint8_api_Code_c : TypeId := 98
abbrev T_fno_api_Request_c_L_uint8 : TypeId := 99
abbrev T_fno_c_L_uint8 : TypeId := 100
abbrev T_fno_api_Request_c_api_Code : TypeId := 101
abbrev T_fno_uint64_int_c_L_uint8 : TypeId := 102
abbrev T_uint64 : TypeId := 103
abbrev T_fno_L_uint8_string_c_L_uint8 : TypeId := 104
abbrev T_P_parcel_eye : TypeId := 105
abbrev T_parcel_eye : TypeId := 107
abbrev T_fno_funco_c_api_Request_c_o_api_Request_api_Code_c : TypeId := 108
abbrev T_fno_c_api_Request : TypeId := 109
abbrev T_slotmap_Map : TypeId := 111
abbrev T_fno_L_int_int_c_L_int : TypeId := 112
abbrev T_fno_funco_int_c_bool_c : TypeId := 113
abbrev T_iter_Seq_int : TypeId := 114
abbrev T_fno_int_c_iter_Seq_int : TypeId := 115
abbrev T_fno_P_slotmap_Map_int_c_L_int : TypeId := 116
abbrev T_fno_L_uint8_c_L_uint8 : TypeId := 117
abbrev T_fno_int_L_uint8_c_bool : TypeId := 118
abbrev T_P_digest_Hash : TypeId := 120
abbrev T_fno_c_P_digest_Hash : TypeId := 121
abbrev T_fno_L_uint8_c : TypeId := 122
abbrev T_fno_c_32_uint8 : TypeId := 123
abbrev T_fno_L_L_uint8_c_L_32_uint8 : TypeId := 124
abbrev T_fno_L_32_uint8_c_L_32_uint8 : TypeId := 125
abbrev T_fno_int_32_uint8_c_32_uint8 : TypeId := 126
abbrev T_fno_int_32_uint8_c_L_uint8 : TypeId := 127
abbrev T_fno_L_L_uint8_int_c_32_uint8 : TypeId := 128
abbrev T_fno_L_L_uint8_int_int_c_L_32_uint8 : TypeId := 129
abbrev T_L_uint32 : TypeId := 130
abbrev T_fno_c_L_uint32 : TypeId := 131
abbrev T_uint32 : TypeId := 132
abbrev T_8_uint32 : TypeId := 133
abbrev T_fno_8_uint32_L_uint32_64_uint32_c_8_uint32 : TypeId := 134
abbrev T_64_uint32 : TypeId := 135
abbrev T_fno_L_uint8_int_c_64_uint32 : TypeId := 136
abbrev T_uint : TypeId := 137
abbrev T_fno_32_uint8_32_uint8_c_32_uint8 : TypeId := 138
abbrev T_fno_32_uint8_32_uint8_c_L_uint8 : TypeId := 139
abbrev T_fno_funco_c_c_api_Code : TypeId := 140
abbrev T_2_uint8 : TypeId := 141
abbrev T_fno_c_2_uint8 : TypeId := 142
abbrev T_3_string : TypeId := 143
abbrev T_fno_string_int_c_L_uint8 : TypeId := 144
abbrev T_2_bool : TypeId := 145
abbrev T_fno_api_Code_c : TypeId := 146
abbrev T_fno_int_c_L_uint8 : TypeId := 147
abbrev T_fno_int_c_uint64 : TypeId := 148
abbrev T_fno_int_c_string : TypeId := 149
abbrev T_fno_int_c_bool : TypeId := 150
abbrev T_4_uint8 : TypeId := 151
abbrev T_fno_uint32_c_4_uint8 : TypeId := 152
abbrev T_fno_L_uint8_c_uint32 : TypeId := 153
abbrev T_digest_Hash : TypeId := 155
abbrev T_fno_8_uint32_L_uint8_c_8_uint32 : TypeId := 156
abbrev T_fno_L_uint8_32_uint8_c_L_uint8 : TypeId := 157
abbrev T_fno_uint32_uint_c_uint32 : TypeId := 158
abbrev T_fno_interface_c_api_Code : TypeId := 159
abbrev T_trap_Fault : TypeId := 161
abbrev T_fno_L_uint8_c_uint64 : TypeId := 162
abbrev T_fno_uint32_L_uint8_c_uint32 : TypeId := 163
abbrev T_fno_L_uint8_c_64_uint32 : TypeId := 164
abbrev T_fno_c_64_uint32 : TypeId := 165
abbrev T_fno_uint32_int_c_uint32 : TypeId := 166
abbrev T_fno_uint32_uint8_c_uint32 : TypeId := 167
abbrev T_fno_c_string : TypeId := 168
abbrev T_0_P_runtime_PanicNilError : TypeId := 171
abbrev T_fno_unsafe_Pointer_unsafe_Pointer_c_bool : TypeId := 176
abbrev T_P_uint8 : TypeId := 177
end Go.Proofs.Ytfdckjliinpjiaa

/- Abstract programs; that they are the program's. -/
namespace Go.Proofs.Ytfdckjliinpjiaa
open Go AVL
set_option linter.unusedVariables false
set_option maxRecDepth 20000

def q_word_Get_0 : List AOper := [
  ⟨(some 2), (.mv (.v (.int .u64 0))), none⟩]
def q_word_Get_1 : List AOper := [
  ⟨(some 3), (.mv (.v (.int .u64 0))), none⟩]
def q_word_Get_2 : List AOper := [
  ⟨(some 5), (.mv (.t 0)), none⟩,
  ⟨(some 6), (.len false (.t 5)), none⟩,
  ⟨(some 7), (.xx (.p (.mnI false)) [(.t 6), (.v (.int .i64 8))]), none⟩,
  ⟨(some 8), (.bin .sub (.t 7) (.v (.int .i64 1))), none⟩,
  ⟨(some 4), (.mv (.t 8)), none⟩]
def q_word_Get_3 : List AOper := [
  ⟨(some 9), (.mv (.t 4)), none⟩,
  ⟨(some 10), (.bin .geq (.t 9) (.v (.int .i64 0))), none⟩]
def q_word_Get_4 : List AOper := [
  ⟨(some 13), (.mv (.t 3)), none⟩,
  ⟨(some 14), (.bin .shl (.t 13) (.v (.int .u64 8))), none⟩,
  ⟨(some 15), (.mv (.t 0)), none⟩,
  ⟨(some 16), (.mv (.t 4)), none⟩,
  ⟨(some 17), (.idx 1 (.t 15) (.t 16)), none⟩,
  ⟨(some 18), (.load .sc 1 (.t 17)), none⟩,
  ⟨(some 19), (.conv .u64 (.t 18)), none⟩,
  ⟨(some 20), (.bin .or (.t 14) (.t 19)), none⟩,
  ⟨(some 3), (.mv (.t 20)), none⟩]
def q_word_Get_5 : List AOper := [
  ⟨(some 11), (.mv (.t 4)), none⟩,
  ⟨(some 12), (.bin .sub (.t 11) (.v (.int .i64 1))), none⟩,
  ⟨(some 4), (.mv (.t 12)), none⟩]
def q_word_Get_L6 : ACode := (.seq (.seq (.region q_word_Get_3) (.cond (.t 10) .skip (.exit 0))) (.seq (.block 1 (.region q_word_Get_4)) (.region q_word_Get_5)))
def q_word_Get_6 : List AOper := [
  ⟨(some 21), (.mv (.t 3)), none⟩,
  ⟨(some 2), (.mv (.t 21)), none⟩]
def a_word_Get : AFunc := ⟨[(.tmp 2)], (.seq (.region q_word_Get_0) (.seq (.region q_word_Get_1) (.seq (.seq (.region q_word_Get_2) (.block 0 (.loop q_word_Get_L6))) (.seq (.region q_word_Get_6) .ret))))⟩

def q_word_Put_0 : List AOper := [
  ⟨(some 4), (.mv (.v .nilS)), none⟩]
def q_word_Put_1 : List AOper := [
  ⟨(some 7), (.mv (.t 1)), none⟩,
  ⟨(some 8), (.xx (.p (.mnI true)) [(.t 7), (.v (.int .i64 0))]), none⟩,
  ⟨(some 9), (.mkI 5 .u8 1 (.t 8) (.t 8)), none⟩,
  ⟨(some 5), (.mv (.t 9)), none⟩]
def q_word_Put_2 : List AOper := [
  ⟨(some 10), (.mv (.t 5)), none⟩,
  ⟨(some 11), (.len false (.t 10)), none⟩,
  ⟨(some 12), (.mv (.v (.int .i64 0))), none⟩]
def q_word_Put_3 : List AOper := [
  ⟨(some 13), (.bin .lss (.t 12) (.t 11)), none⟩]
def q_word_Put_4 : List AOper := [
  ⟨(some 14), (.mv (.t 12)), none⟩,
  ⟨(some 6), (.mv (.t 14)), none⟩]
def q_word_Put_5 : List AOper := [
  ⟨(some 15), (.mv (.t 6)), none⟩,
  ⟨(some 16), (.bin .lss (.t 15) (.v (.int .i64 8))), none⟩]
def q_word_Put_6 : List AOper := [
  ⟨(some 17), (.mv (.t 5)), none⟩,
  ⟨(some 18), (.mv (.t 6)), none⟩,
  ⟨(some 19), (.mv (.t 0)), none⟩,
  ⟨(some 20), (.mv (.t 6)), none⟩,
  ⟨(some 21), (.bin .mul (.v (.int .i64 8)) (.t 20)), none⟩,
  ⟨(some 22), (.bin .shr (.t 19) (.t 21)), none⟩,
  ⟨(some 23), (.conv .u8 (.t 22)), none⟩,
  ⟨(some 24), (.idx 1 (.t 17) (.t 18)), none⟩,
  ⟨none, (.store .sc 1 (.t 24) (.t 23)), none⟩]
def q_word_Put_7 : List AOper := [
  ⟨(some 25), (.bin .add (.t 12) (.v (.int .i64 1))), none⟩,
  ⟨(some 12), (.mv (.t 25)), none⟩]
def q_word_Put_L8 : ACode := (.seq (.region q_word_Put_3) (.seq (.cond (.t 13) .skip (.exit 0)) (.seq (.block 1 (.seq (.region q_word_Put_4) (.seq (.region q_word_Put_5) (.cond (.t 16) (.region q_word_Put_6) .skip)))) (.region q_word_Put_7))))
def q_word_Put_8 : List AOper := [
  ⟨(some 26), (.mv (.t 5)), none⟩,
  ⟨(some 4), (.mv (.t 26)), none⟩]
def a_word_Put : AFunc := ⟨[(.tmp 4)], (.seq (.region q_word_Put_0) (.seq (.region q_word_Put_1) (.seq (.seq (.region q_word_Put_2) (.block 0 (.loop q_word_Put_L8))) (.seq (.region q_word_Put_8) .ret))))⟩

def q_word_Zero_0 : List AOper := [
  ⟨(some 2), (.mv (.v (.bool false))), none⟩]
def q_word_Zero_1 : List AOper := [
  ⟨(some 5), (.mv (.t 0)), none⟩,
  ⟨(some 6), (.len false (.t 5)), none⟩,
  ⟨(some 7), (.mv (.v (.int .i64 0))), none⟩]
def q_word_Zero_2 : List AOper := [
  ⟨(some 8), (.bin .lss (.t 7) (.t 6)), none⟩]
def q_word_Zero_3 : List AOper := [
  ⟨(some 9), (.idx 1 (.t 5) (.t 7)), none⟩,
  ⟨(some 10), (.load .sc 1 (.t 9)), none⟩,
  ⟨(some 4), (.mv (.t 10)), none⟩]
def q_word_Zero_4 : List AOper := [
  ⟨(some 11), (.mv (.t 4)), none⟩,
  ⟨(some 12), (.eq .scI true (.t 11) (.v (.int .u8 0))), none⟩]
def q_word_Zero_5 : List AOper := [
  ⟨(some 2), (.mv (.v (.bool false))), none⟩]
def q_word_Zero_6 : List AOper := [
  ⟨(some 13), (.bin .add (.t 7) (.v (.int .i64 1))), none⟩,
  ⟨(some 7), (.mv (.t 13)), none⟩]
def q_word_Zero_L7 : ACode := (.seq (.region q_word_Zero_2) (.seq (.cond (.t 8) .skip (.exit 0)) (.seq (.block 1 (.seq (.region q_word_Zero_3) (.seq (.region q_word_Zero_4) (.cond (.t 12) (.seq (.region q_word_Zero_5) .ret) .skip)))) (.region q_word_Zero_6))))
def q_word_Zero_7 : List AOper := [
  ⟨(some 2), (.mv (.v (.bool true))), none⟩]
def a_word_Zero : AFunc := ⟨[(.tmp 2)], (.seq (.region q_word_Zero_0) (.seq (.seq (.region q_word_Zero_1) (.block 0 (.loop q_word_Zero_L7))) (.seq (.region q_word_Zero_7) .ret)))⟩

def q_word_Whole_0 : List AOper := [
  ⟨(some 2), (.alloc 54 [(.iarr .u8 256 (List.replicate 256 0))]), none⟩]
def q_word_Whole_1 : List AOper := [
  ⟨(some 3), (.alloc 54 [(.iarr .u8 256 (List.replicate 256 0))]), none⟩]
def q_word_Whole_2 : List AOper := [
  ⟨(some 4), (.slcA 256 (.t 3) none none), none⟩,
  ⟨(some 5), (.mv (.t 0)), none⟩,
  ⟨(some 6), (.xx (.cpI .u8) [(.t 4), (.t 5)]), none⟩]
def q_word_Whole_3 : List AOper := [
  ⟨(some 7), (.load (.ia .u8 256) 256 (.t 3)), none⟩,
  ⟨none, (.store (.ia .u8 256) 256 (.t 2) (.t 7)), none⟩]
def a_word_Whole : AFunc := ⟨[(.cell 2 (.ia .u8 256) 256)], (.seq (.region q_word_Whole_0) (.seq (.region q_word_Whole_1) (.seq (.region q_word_Whole_2) (.seq (.region q_word_Whole_3) .ret))))⟩

def q_ref01_Put_0 : List AOper := [
  ⟨(some 4), (.mv (.v .nilS)), none⟩]
def q_ref01_Put_1 : List AOper := [
  ⟨(some 6), (.mv (.t 1)), none⟩,
  ⟨(some 7), (.bin .leq (.t 6) (.v (.int .i64 0))), none⟩]
def q_ref01_Put_2 : List AOper := [
  ⟨(some 4), (.mv (.v .nilS)), none⟩]
def q_ref01_Put_3 : List AOper := [
  ⟨(some 8), (.mv (.t 0)), none⟩,
  ⟨(some 9), (.bin .rem (.t 8) (.v (.int .u64 256))), none⟩,
  ⟨(some 10), (.conv .u8 (.t 9)), none⟩,
  ⟨(some 11), (.bslI 5 .u8 [(.t 10)]), none⟩,
  ⟨(some 5), (.mv (.t 11)), none⟩]
def q_ref01_Put_4 : List AOper := [
  ⟨(some 12), (.mv (.t 5)), none⟩,
  ⟨(some 13), (.mv (.t 0)), none⟩,
  ⟨(some 14), (.bin .quo (.t 13) (.v (.int .u64 256))), none⟩,
  ⟨(some 15), (.mv (.t 1)), none⟩,
  ⟨(some 16), (.bin .sub (.t 15) (.v (.int .i64 1))), none⟩,
  ⟨(some 17), (.call F_ref01_Put [(.sc, (.t 14)), (.sc, (.t 16))]), none⟩,
  ⟨(some 18), (.appI 5 .u8 1 (.t 12) (.t 17)), none⟩,
  ⟨(some 4), (.mv (.t 18)), none⟩]
def a_ref01_Put : AFunc := ⟨[(.tmp 4)], (.seq (.region q_ref01_Put_0) (.seq (.seq (.region q_ref01_Put_1) (.cond (.t 7) (.seq (.region q_ref01_Put_2) .ret) .skip)) (.seq (.region q_ref01_Put_3) (.seq (.region q_ref01_Put_4) .ret))))⟩

def q_ref01_Same_0 : List AOper := [
  ⟨(some 4), (.mv (.v (.bool false))), none⟩]
def q_ref01_Same_1 : List AOper := [
  ⟨(some 5), (.mv (.t 0)), none⟩,
  ⟨(some 6), (.xx .bstr [(.t 5)]), none⟩,
  ⟨(some 7), (.mv (.t 1)), none⟩,
  ⟨(some 8), (.xx .bstr [(.t 7)]), none⟩,
  ⟨(some 9), (.eq .scS false (.t 6) (.t 8)), none⟩,
  ⟨(some 4), (.mv (.t 9)), none⟩]
def a_ref01_Same : AFunc := ⟨[(.tmp 4)], (.seq (.region q_ref01_Same_0) (.seq (.region q_ref01_Same_1) .ret))⟩

def q_ref01_Zero_0 : List AOper := [
  ⟨(some 2), (.mv (.v (.bool false))), none⟩]
def q_ref01_Zero_1 : List AOper := [
  ⟨(some 3), (.mv (.v (.int .i64 0))), none⟩]
def q_ref01_Zero_2 : List AOper := [
  ⟨(some 4), (.mv (.t 3)), none⟩,
  ⟨(some 5), (.mv (.t 0)), none⟩,
  ⟨(some 6), (.len false (.t 5)), none⟩,
  ⟨(some 7), (.bin .lss (.t 4) (.t 6)), none⟩]
def q_ref01_Zero_3 : List AOper := [
  ⟨(some 10), (.mv (.t 0)), none⟩,
  ⟨(some 11), (.mv (.t 3)), none⟩,
  ⟨(some 12), (.idx 1 (.t 10) (.t 11)), none⟩,
  ⟨(some 13), (.load .sc 1 (.t 12)), none⟩,
  ⟨(some 14), (.bin .gtr (.t 13) (.v (.int .u8 0))), none⟩]
def q_ref01_Zero_4 : List AOper := [
  ⟨(some 2), (.mv (.v (.bool false))), none⟩]
def q_ref01_Zero_5 : List AOper := [
  ⟨(some 8), (.mv (.t 3)), none⟩,
  ⟨(some 9), (.bin .add (.t 8) (.v (.int .i64 1))), none⟩,
  ⟨(some 3), (.mv (.t 9)), none⟩]
def q_ref01_Zero_L6 : ACode := (.seq (.seq (.region q_ref01_Zero_2) (.cond (.t 7) .skip (.exit 0))) (.seq (.block 1 (.seq (.region q_ref01_Zero_3) (.cond (.t 14) (.seq (.region q_ref01_Zero_4) .ret) .skip))) (.region q_ref01_Zero_5)))
def q_ref01_Zero_6 : List AOper := [
  ⟨(some 2), (.mv (.v (.bool true))), none⟩]
def a_ref01_Zero : AFunc := ⟨[(.tmp 2)], (.seq (.region q_ref01_Zero_0) (.seq (.seq (.region q_ref01_Zero_1) (.block 0 (.loop q_ref01_Zero_L6))) (.seq (.region q_ref01_Zero_6) .ret)))⟩


theorem c_word_Get : trF Try.prog Try.f133 = some a_word_Get := by kernel_rfl
theorem g_word_Get : Try.prog.funcs[133]? = some Try.f133 := by kernel_rfl
theorem i_word_Get {args : List AV} {A : Heap} {Ko : AOut → Heap → Prop} (hn : args.length ≤ 22)
    (h : ∀ R : APost, (∀ e env A, fpost a_word_Get.res Ko e env A → R e env A) → X Try.prog R a_word_Get.body .done (env0 args) A) : SimX Try.prog F_word_Get args A Ko :=
  X_intro g_word_Get c_word_Get (by rw [Try.ntmps133]; exact hn) h
theorem v_word_Get {args : List AV} {v : AV} (hn : args.length ≤ 22) (h : X Try.prog (fin a_word_Get.res v) a_word_Get.body .done (env0 args) H0) : Gives Try.prog F_word_Get args v :=
  Gives_intro g_word_Get c_word_Get (by rw [Try.ntmps133]; exact hn) h
theorem e_word_Get {args : List AV} {Q : AOut → Prop} (hn : args.length ≤ 22) (h : X Try.prog (finE a_word_Get.res Q) a_word_Get.body .done (env0 args) H0) : Fins Try.prog F_word_Get args Q :=
  Fins_intro g_word_Get c_word_Get (by rw [Try.ntmps133]; exact hn) h
theorem j_word_Get {args : List AV} {A : Heap} {K Kp : AV → Heap → Prop} (hn : args.length ≤ 22) (h : X Try.prog (inl a_word_Get.res K Kp) a_word_Get.body .done (env0 args) A) : SimX Try.prog F_word_Get args A (outK K Kp) :=
  X_inl g_word_Get c_word_Get (by rw [Try.ntmps133]; exact hn) h
theorem d_word_Get {args : List AV} {A : Heap} {Ko : AOut → Heap → Prop} (hn : args.length ≤ 22) (hrf : AVL.Func.hasRF Try.f133 = false)
    (h : ∀ R : APost, (∀ e env A, fpost a_word_Get.res Ko e env A → R e env A) → X Try.prog R a_word_Get.body .done (env0 args) A) : SimD Try.prog F_word_Get args A Ko :=
  X_introD g_word_Get c_word_Get (by rw [Try.ntmps133]; exact hn) hrf h
@[simp] theorem k_word_Get : callable Try.prog F_word_Get = true := by kernel_rfl
theorem c_word_Put : trF Try.prog Try.f96 = some a_word_Put := by kernel_rfl
theorem g_word_Put : Try.prog.funcs[96]? = some Try.f96 := by kernel_rfl
theorem i_word_Put {args : List AV} {A : Heap} {Ko : AOut → Heap → Prop} (hn : args.length ≤ 27)
    (h : ∀ R : APost, (∀ e env A, fpost a_word_Put.res Ko e env A → R e env A) → X Try.prog R a_word_Put.body .done (env0 args) A) : SimX Try.prog F_word_Put args A Ko :=
  X_intro g_word_Put c_word_Put (by rw [Try.ntmps96]; exact hn) h
theorem v_word_Put {args : List AV} {v : AV} (hn : args.length ≤ 27) (h : X Try.prog (fin a_word_Put.res v) a_word_Put.body .done (env0 args) H0) : Gives Try.prog F_word_Put args v :=
  Gives_intro g_word_Put c_word_Put (by rw [Try.ntmps96]; exact hn) h
theorem e_word_Put {args : List AV} {Q : AOut → Prop} (hn : args.length ≤ 27) (h : X Try.prog (finE a_word_Put.res Q) a_word_Put.body .done (env0 args) H0) : Fins Try.prog F_word_Put args Q :=
  Fins_intro g_word_Put c_word_Put (by rw [Try.ntmps96]; exact hn) h
theorem j_word_Put {args : List AV} {A : Heap} {K Kp : AV → Heap → Prop} (hn : args.length ≤ 27) (h : X Try.prog (inl a_word_Put.res K Kp) a_word_Put.body .done (env0 args) A) : SimX Try.prog F_word_Put args A (outK K Kp) :=
  X_inl g_word_Put c_word_Put (by rw [Try.ntmps96]; exact hn) h
theorem d_word_Put {args : List AV} {A : Heap} {Ko : AOut → Heap → Prop} (hn : args.length ≤ 27) (hrf : AVL.Func.hasRF Try.f96 = false)
    (h : ∀ R : APost, (∀ e env A, fpost a_word_Put.res Ko e env A → R e env A) → X Try.prog R a_word_Put.body .done (env0 args) A) : SimD Try.prog F_word_Put args A Ko :=
  X_introD g_word_Put c_word_Put (by rw [Try.ntmps96]; exact hn) hrf h
@[simp] theorem k_word_Put : callable Try.prog F_word_Put = true := by kernel_rfl
theorem c_word_Zero : trF Try.prog Try.f98 = some a_word_Zero := by kernel_rfl
theorem g_word_Zero : Try.prog.funcs[98]? = some Try.f98 := by kernel_rfl
theorem i_word_Zero {args : List AV} {A : Heap} {Ko : AOut → Heap → Prop} (hn : args.length ≤ 14)
    (h : ∀ R : APost, (∀ e env A, fpost a_word_Zero.res Ko e env A → R e env A) → X Try.prog R a_word_Zero.body .done (env0 args) A) : SimX Try.prog F_word_Zero args A Ko :=
  X_intro g_word_Zero c_word_Zero (by rw [Try.ntmps98]; exact hn) h
theorem v_word_Zero {args : List AV} {v : AV} (hn : args.length ≤ 14) (h : X Try.prog (fin a_word_Zero.res v) a_word_Zero.body .done (env0 args) H0) : Gives Try.prog F_word_Zero args v :=
  Gives_intro g_word_Zero c_word_Zero (by rw [Try.ntmps98]; exact hn) h
theorem e_word_Zero {args : List AV} {Q : AOut → Prop} (hn : args.length ≤ 14) (h : X Try.prog (finE a_word_Zero.res Q) a_word_Zero.body .done (env0 args) H0) : Fins Try.prog F_word_Zero args Q :=
  Fins_intro g_word_Zero c_word_Zero (by rw [Try.ntmps98]; exact hn) h
theorem j_word_Zero {args : List AV} {A : Heap} {K Kp : AV → Heap → Prop} (hn : args.length ≤ 14) (h : X Try.prog (inl a_word_Zero.res K Kp) a_word_Zero.body .done (env0 args) A) : SimX Try.prog F_word_Zero args A (outK K Kp) :=
  X_inl g_word_Zero c_word_Zero (by rw [Try.ntmps98]; exact hn) h
theorem d_word_Zero {args : List AV} {A : Heap} {Ko : AOut → Heap → Prop} (hn : args.length ≤ 14) (hrf : AVL.Func.hasRF Try.f98 = false)
    (h : ∀ R : APost, (∀ e env A, fpost a_word_Zero.res Ko e env A → R e env A) → X Try.prog R a_word_Zero.body .done (env0 args) A) : SimD Try.prog F_word_Zero args A Ko :=
  X_introD g_word_Zero c_word_Zero (by rw [Try.ntmps98]; exact hn) hrf h
@[simp] theorem k_word_Zero : callable Try.prog F_word_Zero = true := by kernel_rfl
theorem c_word_Whole : trF Try.prog Try.f86 = some a_word_Whole := by kernel_rfl
theorem g_word_Whole : Try.prog.funcs[86]? = some Try.f86 := by kernel_rfl
theorem i_word_Whole {args : List AV} {A : Heap} {Ko : AOut → Heap → Prop} (hn : args.length ≤ 8)
    (h : ∀ R : APost, (∀ e env A, fpost a_word_Whole.res Ko e env A → R e env A) → X Try.prog R a_word_Whole.body .done (env0 args) A) : SimX Try.prog F_word_Whole args A Ko :=
  X_intro g_word_Whole c_word_Whole (by rw [Try.ntmps86]; exact hn) h
theorem v_word_Whole {args : List AV} {v : AV} (hn : args.length ≤ 8) (h : X Try.prog (fin a_word_Whole.res v) a_word_Whole.body .done (env0 args) H0) : Gives Try.prog F_word_Whole args v :=
  Gives_intro g_word_Whole c_word_Whole (by rw [Try.ntmps86]; exact hn) h
theorem e_word_Whole {args : List AV} {Q : AOut → Prop} (hn : args.length ≤ 8) (h : X Try.prog (finE a_word_Whole.res Q) a_word_Whole.body .done (env0 args) H0) : Fins Try.prog F_word_Whole args Q :=
  Fins_intro g_word_Whole c_word_Whole (by rw [Try.ntmps86]; exact hn) h
theorem j_word_Whole {args : List AV} {A : Heap} {K Kp : AV → Heap → Prop} (hn : args.length ≤ 8) (h : X Try.prog (inl a_word_Whole.res K Kp) a_word_Whole.body .done (env0 args) A) : SimX Try.prog F_word_Whole args A (outK K Kp) :=
  X_inl g_word_Whole c_word_Whole (by rw [Try.ntmps86]; exact hn) h
theorem d_word_Whole {args : List AV} {A : Heap} {Ko : AOut → Heap → Prop} (hn : args.length ≤ 8) (hrf : AVL.Func.hasRF Try.f86 = false)
    (h : ∀ R : APost, (∀ e env A, fpost a_word_Whole.res Ko e env A → R e env A) → X Try.prog R a_word_Whole.body .done (env0 args) A) : SimD Try.prog F_word_Whole args A Ko :=
  X_introD g_word_Whole c_word_Whole (by rw [Try.ntmps86]; exact hn) hrf h
@[simp] theorem k_word_Whole : callable Try.prog F_word_Whole = true := by kernel_rfl
theorem c_ref01_Put : trF Try.prog Try.f78 = some a_ref01_Put := by kernel_rfl
theorem g_ref01_Put : Try.prog.funcs[78]? = some Try.f78 := by kernel_rfl
theorem i_ref01_Put {args : List AV} {A : Heap} {Ko : AOut → Heap → Prop} (hn : args.length ≤ 19)
    (h : ∀ R : APost, (∀ e env A, fpost a_ref01_Put.res Ko e env A → R e env A) → X Try.prog R a_ref01_Put.body .done (env0 args) A) : SimX Try.prog F_ref01_Put args A Ko :=
  X_intro g_ref01_Put c_ref01_Put (by rw [Try.ntmps78]; exact hn) h
theorem v_ref01_Put {args : List AV} {v : AV} (hn : args.length ≤ 19) (h : X Try.prog (fin a_ref01_Put.res v) a_ref01_Put.body .done (env0 args) H0) : Gives Try.prog F_ref01_Put args v :=
  Gives_intro g_ref01_Put c_ref01_Put (by rw [Try.ntmps78]; exact hn) h
theorem e_ref01_Put {args : List AV} {Q : AOut → Prop} (hn : args.length ≤ 19) (h : X Try.prog (finE a_ref01_Put.res Q) a_ref01_Put.body .done (env0 args) H0) : Fins Try.prog F_ref01_Put args Q :=
  Fins_intro g_ref01_Put c_ref01_Put (by rw [Try.ntmps78]; exact hn) h
theorem j_ref01_Put {args : List AV} {A : Heap} {K Kp : AV → Heap → Prop} (hn : args.length ≤ 19) (h : X Try.prog (inl a_ref01_Put.res K Kp) a_ref01_Put.body .done (env0 args) A) : SimX Try.prog F_ref01_Put args A (outK K Kp) :=
  X_inl g_ref01_Put c_ref01_Put (by rw [Try.ntmps78]; exact hn) h
theorem d_ref01_Put {args : List AV} {A : Heap} {Ko : AOut → Heap → Prop} (hn : args.length ≤ 19) (hrf : AVL.Func.hasRF Try.f78 = false)
    (h : ∀ R : APost, (∀ e env A, fpost a_ref01_Put.res Ko e env A → R e env A) → X Try.prog R a_ref01_Put.body .done (env0 args) A) : SimD Try.prog F_ref01_Put args A Ko :=
  X_introD g_ref01_Put c_ref01_Put (by rw [Try.ntmps78]; exact hn) hrf h
@[simp] theorem k_ref01_Put : callable Try.prog F_ref01_Put = true := by kernel_rfl
theorem c_ref01_Same : trF Try.prog Try.f19 = some a_ref01_Same := by kernel_rfl
theorem g_ref01_Same : Try.prog.funcs[19]? = some Try.f19 := by kernel_rfl
theorem i_ref01_Same {args : List AV} {A : Heap} {Ko : AOut → Heap → Prop} (hn : args.length ≤ 10)
    (h : ∀ R : APost, (∀ e env A, fpost a_ref01_Same.res Ko e env A → R e env A) → X Try.prog R a_ref01_Same.body .done (env0 args) A) : SimX Try.prog F_ref01_Same args A Ko :=
  X_intro g_ref01_Same c_ref01_Same (by rw [Try.ntmps19]; exact hn) h
theorem v_ref01_Same {args : List AV} {v : AV} (hn : args.length ≤ 10) (h : X Try.prog (fin a_ref01_Same.res v) a_ref01_Same.body .done (env0 args) H0) : Gives Try.prog F_ref01_Same args v :=
  Gives_intro g_ref01_Same c_ref01_Same (by rw [Try.ntmps19]; exact hn) h
theorem e_ref01_Same {args : List AV} {Q : AOut → Prop} (hn : args.length ≤ 10) (h : X Try.prog (finE a_ref01_Same.res Q) a_ref01_Same.body .done (env0 args) H0) : Fins Try.prog F_ref01_Same args Q :=
  Fins_intro g_ref01_Same c_ref01_Same (by rw [Try.ntmps19]; exact hn) h
theorem j_ref01_Same {args : List AV} {A : Heap} {K Kp : AV → Heap → Prop} (hn : args.length ≤ 10) (h : X Try.prog (inl a_ref01_Same.res K Kp) a_ref01_Same.body .done (env0 args) A) : SimX Try.prog F_ref01_Same args A (outK K Kp) :=
  X_inl g_ref01_Same c_ref01_Same (by rw [Try.ntmps19]; exact hn) h
theorem d_ref01_Same {args : List AV} {A : Heap} {Ko : AOut → Heap → Prop} (hn : args.length ≤ 10) (hrf : AVL.Func.hasRF Try.f19 = false)
    (h : ∀ R : APost, (∀ e env A, fpost a_ref01_Same.res Ko e env A → R e env A) → X Try.prog R a_ref01_Same.body .done (env0 args) A) : SimD Try.prog F_ref01_Same args A Ko :=
  X_introD g_ref01_Same c_ref01_Same (by rw [Try.ntmps19]; exact hn) hrf h
@[simp] theorem k_ref01_Same : callable Try.prog F_ref01_Same = true := by kernel_rfl
theorem c_ref01_Zero : trF Try.prog Try.f99 = some a_ref01_Zero := by kernel_rfl
theorem g_ref01_Zero : Try.prog.funcs[99]? = some Try.f99 := by kernel_rfl
theorem i_ref01_Zero {args : List AV} {A : Heap} {Ko : AOut → Heap → Prop} (hn : args.length ≤ 15)
    (h : ∀ R : APost, (∀ e env A, fpost a_ref01_Zero.res Ko e env A → R e env A) → X Try.prog R a_ref01_Zero.body .done (env0 args) A) : SimX Try.prog F_ref01_Zero args A Ko :=
  X_intro g_ref01_Zero c_ref01_Zero (by rw [Try.ntmps99]; exact hn) h
theorem v_ref01_Zero {args : List AV} {v : AV} (hn : args.length ≤ 15) (h : X Try.prog (fin a_ref01_Zero.res v) a_ref01_Zero.body .done (env0 args) H0) : Gives Try.prog F_ref01_Zero args v :=
  Gives_intro g_ref01_Zero c_ref01_Zero (by rw [Try.ntmps99]; exact hn) h
theorem e_ref01_Zero {args : List AV} {Q : AOut → Prop} (hn : args.length ≤ 15) (h : X Try.prog (finE a_ref01_Zero.res Q) a_ref01_Zero.body .done (env0 args) H0) : Fins Try.prog F_ref01_Zero args Q :=
  Fins_intro g_ref01_Zero c_ref01_Zero (by rw [Try.ntmps99]; exact hn) h
theorem j_ref01_Zero {args : List AV} {A : Heap} {K Kp : AV → Heap → Prop} (hn : args.length ≤ 15) (h : X Try.prog (inl a_ref01_Zero.res K Kp) a_ref01_Zero.body .done (env0 args) A) : SimX Try.prog F_ref01_Zero args A (outK K Kp) :=
  X_inl g_ref01_Zero c_ref01_Zero (by rw [Try.ntmps99]; exact hn) h
theorem d_ref01_Zero {args : List AV} {A : Heap} {Ko : AOut → Heap → Prop} (hn : args.length ≤ 15) (hrf : AVL.Func.hasRF Try.f99 = false)
    (h : ∀ R : APost, (∀ e env A, fpost a_ref01_Zero.res Ko e env A → R e env A) → X Try.prog R a_ref01_Zero.body .done (env0 args) A) : SimD Try.prog F_ref01_Zero args A Ko :=
  X_introD g_ref01_Zero c_ref01_Zero (by rw [Try.ntmps99]; exact hn) hrf h
@[simp] theorem k_ref01_Zero : callable Try.prog F_ref01_Zero = true := by kernel_rfl
end Go.Proofs.Ytfdckjliinpjiaa

/- Words: numbers as bytes; the walks of word.Put, word.Get, the reference's Put and Same. -/
namespace Go.Proofs.Ytfdckjliinpjiaa
open Go AVL
attribute [-simp] AV.isAgg aappI aapp alen
set_option linter.unusedVariables false
set_option linter.unusedSimpArgs false

def Bytes (l : List Nat) : Prop := ∀ x ∈ l, x < 256
theorem bytes_take {l : List Nat} (h : Bytes l) (n : Nat) : Bytes (l.take n) := fun x hx => h x (List.mem_of_mem_take hx)
theorem bytes_drop {l : List Nat} (h : Bytes l) (n : Nat) : Bytes (l.drop n) := fun x hx => h x (List.mem_of_mem_drop hx)
theorem bytes_append {a b : List Nat} (ha : Bytes a) (hb : Bytes b) : Bytes (a ++ b) := fun x hx => (List.mem_append.1 hx).elim (ha x) (hb x)
def leN : List Nat → Nat
  | [] => 0
  | c :: r => c + 256 * leN r
theorem leN_lt : ∀ (l : List Nat), Bytes l → leN l < 256 ^ l.length
  | [], _ => by simp [leN]
  | c :: r, h => by
    have h1 := leN_lt r fun x hx => h x (by simp [hx])
    have h2 := h c (by simp)
    simp only [leN, List.length_cons, Nat.pow_succ]
    omega
theorem leN_lt8 {l : List Nat} (h : Bytes l) (hl : l.length ≤ 8) : leN l < 2 ^ 64 := by
  have h1 := leN_lt l h
  have : 256 ^ l.length ≤ 256 ^ 8 := Nat.pow_le_pow_right (by decide) hl
  omega
theorem strOf_inj {a b : List Nat} (ha : Bytes a) (hb : Bytes b) : (strOf (ints a) = strOf (ints b)) = (a = b) := by
  apply propext
  constructor
  · intro h
    have key : ∀ {x : List Nat}, Bytes x → (strOf (ints x)).data.toList.map UInt8.toNat = x := by
      intro x hx
      simp only [strOf, ints, List.map_map]
      rw [List.map_congr_left (g := id) (fun n hn => by
        have := hx n hn
        simp [UInt8.toNat_ofNat', Nat.mod_eq_of_lt this])]
      simp
    rw [← key ha, ← key hb, h]
  · rintro rfl; rfl
theorem w_ref01_Same (a b : List Nat) (ha : Bytes a) (hb : Bytes b) : Gives Try.prog F_ref01_Same [.isl .u8 (ints a), .isl .u8 (ints b)] (.bool (decide (a = b))) := by
  refine v_ref01_Same (by simp) ?_
  simp -implicitDefEqProofs [a_ref01_Same, q_ref01_Same_0, q_ref01_Same_1, strOf_inj ha hb]
theorem shl8_or (n b : Nat) (hb : b < 256) : n * 256 ||| b = b + 256 * n := by
  have := Nat.two_pow_add_eq_or_of_lt (i := 8) (b := b) (by omega) n
  rw [Nat.mul_comm n 256]; simp only [show (2 : Nat) ^ 8 = 256 from rfl] at this; omega
theorem w_word_Get (l : List Nat) (hl : Bytes l) (h8 : l.length ≤ 8) : Gives Try.prog F_word_Get [.isl .u8 (ints l)] (.int .u64 (leN l)) := by
  refine v_word_Get (by simp) ?_
  simp -implicitDefEqProofs [a_word_Get, q_word_Get_0, q_word_Get_1, q_word_Get_2]
  refine X_lp (fun (k : Nat) env A => k ≤ l.length ∧ env 0 = .isl .u8 (ints l) ∧ env 3 = .int .u64 (leN (l.drop k)) ∧ env 4 = .int .i64 ((k : Int) - 1)) (fun k => k) l.length ⟨Nat.le_refl _, by simp, by simp [leN], ?_⟩ ?_
  · simp
    rw [wrap_i64 (by split <;> omega)]
    split <;> omega
  rintro k env A ⟨h1, h2, h3, h4⟩
  simp -implicitDefEqProofs (disch := first | omega | simp) [q_word_Get_L6, q_word_Get_3, q_word_Get_6, h2, h3, h4]
  refine ⟨fun hk => ?_, fun hk => ?_⟩
  · have hk1 : k - 1 < l.length := by omega
    have eto : ((k : Int) - 1).toNat = k - 1 := by omega
    have hd : l.drop (k - 1) = l[k - 1] :: l.drop k := by
      rw [List.drop_eq_getElem_cons hk1]; congr 2; omega
    have hb := hl _ (List.getElem_mem hk1)
    have hn8 := leN_lt8 (bytes_drop hl (k - 1)) (by simp; omega)
    rw [hd] at hn8
    simp only [leN] at hn8
    have e1 : shlI .u64 ((leN (l.drop k) : Nat) : Int) 8 = ((leN (l.drop k) * 256 : Nat) : Int) := by
      simp only [shlI]
      have : (2 : Int) ^ min (Int.toNat 8) IntKind.u64.bits = 256 := by decide
      rw [this, wrap_u64 (by omega)]; omega
    have e2 : IntKind.u64.wrap ((l[k - 1] : Nat) : Int) = ((l[k - 1] : Nat) : Int) := wrap_u64 (by omega)
    have e3 : bOr .u64 ((leN (l.drop k) * 256 : Nat) : Int) ((l[k - 1] : Nat) : Int) = ((leN (l.drop (k - 1)) : Nat) : Int) := by
      rw [bOr_nat rfl (show leN (l.drop k) * 256 < 2 ^ 64 by omega) (show l[k - 1] < 2 ^ 64 by omega), shl8_or _ _ hb, hd, leN]
    have hs : IntKind.u64.signed = false := rfl
    simp -implicitDefEqProofs (disch := first | omega | simp) [q_word_Get_4, q_word_Get_5, h2, h3, h4, eto, hk1, e1, hs]
    rw [Int.natCast_mul] at e3
    refine ⟨by omega, by omega, lp_next (k - 1) ⟨by omega, by simp [h2], ?_, ?_⟩ (by omega)⟩
    · simp only [upd]
      simp
      rw [e2]; exact e3
    · simp
      rw [wrap_i64 (by omega)]; omega
  · have : k = 0 := by omega
    subst this
    simp
/-- A number's bytes, the lowest first. -/
def le : Nat → Nat → List Nat
  | 0, _ => []
  | m + 1, n => n % 256 :: le m (n / 256)
@[simp] theorem le_length : ∀ m n, (le m n).length = m
  | 0, _ => rfl
  | m + 1, n => by simp [le, le_length m]
theorem le_bytes : ∀ m n, Bytes (le m n)
  | 0, _ => by simp [le, Bytes]
  | m + 1, n => by
    intro x hx
    rcases List.mem_cons.1 hx with rfl | hx
    · exact Nat.mod_lt _ (by decide)
    · exact le_bytes m _ x hx
theorem le_get : ∀ (m n i : Nat) (h : i < (le m n).length), (le m n)[i] = n / 256 ^ i % 256
  | 0, n, i, h => by simp at h
  | m + 1, n, 0, h => by simp [le]
  | m + 1, n, i + 1, h => by
    simp only [le, List.getElem_cons_succ]
    rw [le_get m (n / 256) i (by simpa [le] using h), Nat.div_div_eq_div_mul, Nat.pow_succ, Nat.mul_comm]
theorem leN_le : ∀ (m n : Nat), n < 256 ^ m → leN (le m n) = n
  | 0, n, h => by simp at h; subst h; rfl
  | m + 1, n, h => by
    rw [Nat.pow_succ] at h
    simp only [le, leN, leN_le m (n / 256) (by omega)]
    omega
theorem le_leN : ∀ (l : List Nat), Bytes l → le l.length (leN l) = l
  | [], _ => rfl
  | c :: r, h => by
    have hc := h c (by simp)
    have hr := le_leN r fun x hx => h x (by simp [hx])
    simp only [List.length_cons, le, leN]
    rw [show (c + 256 * leN r) % 256 = c by omega, show (c + 256 * leN r) / 256 = leN r by omega, hr]
theorem fill_set {l : List Nat} {i : Nat} (h : i < l.length) : (l.take i ++ List.replicate (l.length - i) 0).set i l[i] = l.take (i + 1) ++ List.replicate (l.length - (i + 1)) 0 := by
  rw [show l.length - i = (l.length - (i + 1)) + 1 by omega, List.replicate_succ, List.set_append_right _ _ (by simp; omega), List.length_take, show i - min i l.length = 0 by omega]
  simp only [List.set_cons_zero]
  rw [List.take_succ_eq_append_getElem h, List.append_assoc]; rfl
theorem w_word_Put {n m : Nat} (hn : n < 2 ^ 64) (hm : m ≤ 8) : Makes Try.prog F_word_Put [.int .u64 n, .int .i64 m] m (.irow T_uint8 .u8 (ints (le m n))) := by
  refine i_word_Put (by simp) fun R hR => ?_
  simp -implicitDefEqProofs (disch := first | omega | simp) [a_word_Put, q_word_Put_0, q_word_Put_1, q_word_Put_2]
  have hmx : (if (m : Int) < 0 then (0 : Int) else m) = m := by split <;> omega
  rw [hmx]
  refine ⟨by omega, by omega, fun g => ?_⟩
  have h0 : List.replicate (m : Int).toNat (0 : Int) = ints ((le m n).take 0 ++ List.replicate ((le m n).length - 0) 0) := by simp [ints]
  rw [h0]
  refine X_lp (fun (i : Nat) env B => i ≤ m ∧ env 0 = .int .u64 n ∧ env 5 = .own g 0 m ∧ env 11 = .int .i64 m ∧ env 12 = .int .i64 i ∧ B = H0.set g (.irow T_uint8 .u8 (ints ((le m n).take i ++ List.replicate ((le m n).length - i) 0)))) (fun i => m - i) 0
    ⟨by omega, by simp, by simp, by simp, by simp, rfl⟩ ?_
  rintro i env B ⟨hi, e0, e5, e11, e12, rfl⟩
  simp -implicitDefEqProofs (disch := first | omega | simp) [q_word_Put_L8, q_word_Put_3, q_word_Put_4, q_word_Put_5, q_word_Put_7, q_word_Put_8, e0, e5, e11, e12]
  refine ⟨fun hil => ?_, fun hil => ?_⟩
  · have hlt : i < (le m n).length := by simpa using hil
    obtain ⟨q, hq⟩ : ∃ q : Nat, q = n / 256 ^ i := ⟨_, rfl⟩
    have e1 : shrI .u64 (n : Int) (8 * (i : Int)) = (q : Int) := by
      have : (8 * (i : Int)) = ((8 * i : Nat) : Int) := by omega
      rw [this, shrI_nat, show min (8 * i) IntKind.u64.bits = 8 * i from Nat.min_eq_left (by show 8 * i ≤ 64; omega), Nat.pow_mul, hq]
    have e2 : IntKind.u8.wrap (q : Int) = (((le m n)[i] : Nat) : Int) := by
      rw [wrap_u8m, le_get, hq]; omega
    have e3 : IntKind.i64.wrap (8 * (i : Int)) = 8 * (i : Int) := wrap_i64 (by omega)
    have e4 := fill_set hlt
    simp only [le_length] at e4
    have e5' : (i : Int) < 8 := by omega
    have e6 : ¬ (8 : Int) ≤ i := by omega
    simp -implicitDefEqProofs (disch := first | omega | simp) [q_word_Put_6, e0, e5, e11, e12, e1, e2, e3, hil, e5', e6, e4]
    exact ⟨by omega, lp_next (i + 1) ⟨by omega, by simp [e0], by simp [e5], by simp [e11], by simp [wrap_i64 (show -9223372036854775808 ≤ (i : Int) + 1 ∧ (i : Int) + 1 < 9223372036854775808 by omega)], by simp⟩ (by omega)⟩
  · have hie : i = m := by omega
    refine hR _ _ _ ?_
    simp -implicitDefEqProofs [a_word_Put, fpost, outOf]
    rw [hie]
    simp
    rw [List.take_of_length_le (by simp)]
    exact Sub_refl _
theorem w_ref01_Put : ∀ (m n : Nat), n < 2 ^ 64 → m ≤ 8 → MakesS Try.prog F_ref01_Put [.int .u64 n, .int .i64 m] T_uint8 .u8 (ints (le m n))
  | 0, n, hn, hm => by
    refine i_ref01_Put (by simp) fun R hR => ?_
    simp -implicitDefEqProofs [a_ref01_Put, q_ref01_Put_0, q_ref01_Put_1, q_ref01_Put_2]
    refine hR _ _ _ ?_
    simp -implicitDefEqProofs [a_ref01_Put, fpost, outOf, le]
  | m + 1, n, hn, hm => by
    refine i_ref01_Put (by simp) fun R hR => ?_
    have e0 : ¬ ((m : Int) + 1 ≤ 0) := by omega
    have e1 : IntKind.u8.wrap ((n : Int).tmod 256) = ((n % 256 : Nat) : Int) := by rw [wrap_u8m, Int.tmod_eq_emod_of_nonneg (by omega)]; omega
    have e2 : IntKind.i64.wrap (m : Int) = (m : Int) := wrap_i64 (by omega)
    have e3 : IntKind.u64.wrap ((n : Int) / 256) = ((n / 256 : Nat) : Int) := by rw [wrap_u64 (by omega)]; omega
    have ih := w_ref01_Put m (n / 256) (by omega) (by omega)
    simp -implicitDefEqProofs (disch := first | omega | simp) [a_ref01_Put, q_ref01_Put_0, q_ref01_Put_1, q_ref01_Put_3, q_ref01_Put_4, e0, e1, e2, e3]
    intro g
    refine ih.call (.cons (.refl _) rfl (.cons (.refl _) rfl .nil)) fun v B hB => ?_
    have h1 : SlS T_uint8 .u8 (.own g 0 1) (ints [n % 256]) H0 B := (SlS.one (by simp) (by simp)).mono hB.sub
    simp -implicitDefEqProofs
    refine h1.appS (Sub_refl _) (hB.src (Sub_refl _)) (by simp; omega) fun v' C' h' hag => ?_
    simp -implicitDefEqProofs
    refine hR _ _ _ ?_
    simpa -implicitDefEqProofs [fpost, a_ref01_Put, outOf, hag, le] using h'.fin
def il (l : List Nat) : AV := .isl .u8 (ints l)
end Go.Proofs.Ytfdckjliinpjiaa

/- Abstract programs; that they are the program's. -/
namespace Go.Proofs.Ytfdckjliinpjiaa
open Go AVL
set_option linter.unusedVariables false
set_option maxRecDepth 20000

def q_slotmap_New_0 : List AOper := [
  ⟨(some 2), (.mv (.v .nilP)), none⟩,
  ⟨(some 3), (.mv (.v (.int .i64 0))), none⟩]
def q_slotmap_New_1 : List AOper := [
  ⟨(some 4), (.mv (.t 0)), none⟩,
  ⟨(some 5), (.bin .lss (.t 4) (.v (.int .i64 1))), none⟩,
  ⟨(some 6), (.mv (.t 5)), none⟩,
  ⟨(some 7), (.mv (.t 0)), (some (6, false))⟩,
  ⟨(some 8), (.bin .gtr (.t 7) (.v (.int .i64 200))), (some (6, false))⟩,
  ⟨(some 9), (.pick (.t 6) (.v (.bool true)) (.t 8)), none⟩]
def q_slotmap_New_2 : List AOper := [
  ⟨(some 2), (.mv (.v .nilP)), none⟩,
  ⟨(some 3), (.mv (.v (.int .i64 2))), none⟩]
def q_slotmap_New_3 : List AOper := [
  ⟨(some 10), (.mv (.t 0)), none⟩,
  ⟨(some 11), (.mkI 5 .u8 1 (.t 10) (.t 10)), none⟩,
  ⟨(some 12), (.build .ag [.nilS] [(0, (1, (.t 11)))]), none⟩,
  ⟨(some 13), (.box 111 .ag (.t 12)), none⟩,
  ⟨(some 2), (.mv (.t 13)), none⟩,
  ⟨(some 3), (.mv (.v (.int .i64 0))), none⟩]
def a_slotmap_New : AFunc := ⟨[(.tmp 2), (.tmp 3)], (.seq (.region q_slotmap_New_0) (.seq (.seq (.region q_slotmap_New_1) (.cond (.t 9) (.seq (.region q_slotmap_New_2) .ret) .skip)) (.seq (.region q_slotmap_New_3) .ret)))⟩

def q_slotmap_Read_0 : List AOper := [
  ⟨(some 3), (.box 54 (.ia .u8 256) (.t 1)), none⟩,
  ⟨(some 4), (.mv (.v .nilP)), none⟩,
  ⟨(some 5), (.mv (.v (.int .i64 0))), none⟩]
def q_slotmap_Read_1 : List AOper := [
  ⟨(some 10), (.mv (.t 0)), none⟩,
  ⟨(some 11), (.call F_slotmap_New [(.sc, (.t 10))]), none⟩,
  ⟨(some 9), (.mv (.t 11)), none⟩,
  ⟨(some 12), (.ext 0 (.t 9)), none⟩,
  ⟨(some 13), (.ext 1 (.t 9)), none⟩,
  ⟨(some 6), (.mv (.t 12)), none⟩,
  ⟨(some 7), (.mv (.t 13)), none⟩]
def q_slotmap_Read_2 : List AOper := [
  ⟨(some 14), (.mv (.t 7)), none⟩,
  ⟨(some 15), (.eq .scI true (.t 14) (.v (.int .i64 0))), none⟩]
def q_slotmap_Read_3 : List AOper := [
  ⟨(some 16), (.mv (.t 7)), none⟩,
  ⟨(some 4), (.mv (.v .nilP)), none⟩,
  ⟨(some 5), (.mv (.t 16)), none⟩]
def q_slotmap_Read_4 : List AOper := [
  ⟨(some 17), (.slcA 256 (.t 3) none none), none⟩,
  ⟨(some 18), (.call F_crc_Holds [(.sc, (.t 17))]), none⟩,
  ⟨(some 19), (.un .not (.t 18)), none⟩]
def q_slotmap_Read_5 : List AOper := [
  ⟨(some 4), (.mv (.v .nilP)), none⟩,
  ⟨(some 5), (.mv (.v (.int .i64 5))), none⟩]
def q_slotmap_Read_6 : List AOper := [
  ⟨(some 20), (.mv (.t 6)), none⟩,
  ⟨(some 21), (.xx (.p .nilCk) [(.t 20)]), none⟩,
  ⟨(some 22), (.fadr 0 1 .sc (.t 21)), none⟩,
  ⟨(some 23), (.load .sc 1 (.t 22)), none⟩,
  ⟨(some 24), (.len false (.t 23)), none⟩,
  ⟨(some 25), (.mv (.v (.int .i64 0))), none⟩]
def q_slotmap_Read_7 : List AOper := [
  ⟨(some 26), (.bin .lss (.t 25) (.t 24)), none⟩]
def q_slotmap_Read_8 : List AOper := [
  ⟨(some 27), (.mv (.t 25)), none⟩,
  ⟨(some 8), (.mv (.t 27)), none⟩]
def q_slotmap_Read_9 : List DOp := [
  ⟨⟨(some 28), (.mv (.t 6)), none⟩, true, false, none, []⟩,
  ⟨⟨(some 29), (.xx (.p .nilCk) [(.t 28)]), none⟩, true, false, none, []⟩,
  ⟨⟨(some 30), (.fadr 0 1 .sc (.t 29)), none⟩, true, false, none, []⟩,
  ⟨⟨(some 31), (.load .sc 1 (.t 30)), none⟩, true, false, none, []⟩,
  ⟨⟨(some 32), (.mv (.t 8)), none⟩, true, false, none, []⟩,
  ⟨⟨(some 33), (.mv (.t 8)), none⟩, true, false, none, []⟩,
  ⟨⟨(some 34), (.bin .quo (.t 33) (.v (.int .i64 4))), none⟩, true, false, none, []⟩,
  ⟨⟨(some 35), (.idxA 256 1 true (.t 3) (.t 34)), none⟩, true, false, none, []⟩,
  ⟨⟨(some 36), (.load .sc 1 (.t 35)), none⟩, true, false, none, []⟩,
  ⟨⟨(some 37), (.mv (.t 8)), none⟩, true, false, none, []⟩,
  ⟨⟨(some 38), (.bin .rem (.t 37) (.v (.int .i64 4))), none⟩, true, false, none, []⟩,
  ⟨⟨(some 39), (.bin .mul (.v (.int .i64 2)) (.t 38)), none⟩, true, false, none, []⟩,
  ⟨⟨(some 40), (.bin .shr (.t 36) (.t 39)), none⟩, true, false, none, []⟩,
  ⟨⟨(some 41), (.bin .and (.t 40) (.v (.int .u8 3))), none⟩, true, false, none, []⟩,
  ⟨⟨(some 42), (.idx 1 (.t 31) (.t 32)), none⟩, true, false, none, []⟩,
  ⟨⟨none, (.store .sc 1 (.t 42) (.t 41)), none⟩, false, false, none, []⟩]
def q_slotmap_Read_10 : List AOper := [
  ⟨(some 43), (.mv (.t 6)), none⟩,
  ⟨(some 44), (.xx (.p .nilCk) [(.t 43)]), none⟩,
  ⟨(some 45), (.fadr 0 1 .sc (.t 44)), none⟩,
  ⟨(some 46), (.load .sc 1 (.t 45)), none⟩,
  ⟨(some 47), (.mv (.t 8)), none⟩,
  ⟨(some 48), (.idx 1 (.t 46) (.t 47)), none⟩,
  ⟨(some 49), (.load .sc 1 (.t 48)), none⟩,
  ⟨(some 50), (.bin .gtr (.t 49) (.v (.int .u8 2))), none⟩]
def q_slotmap_Read_11 : List AOper := [
  ⟨(some 4), (.mv (.v .nilP)), none⟩,
  ⟨(some 5), (.mv (.v (.int .i64 5))), none⟩]
def q_slotmap_Read_12 : List AOper := [
  ⟨(some 51), (.bin .add (.t 25) (.v (.int .i64 1))), none⟩,
  ⟨(some 25), (.mv (.t 51)), none⟩]
def q_slotmap_Read_L13 : ACode := (.seq (.region q_slotmap_Read_7) (.seq (.cond (.t 26) .skip (.exit 0)) (.seq (.block 1 (.seq (.region q_slotmap_Read_8) (.seq (.regionD q_slotmap_Read_9) (.seq (.region q_slotmap_Read_10) (.cond (.t 50) (.seq (.region q_slotmap_Read_11) .ret) .skip))))) (.region q_slotmap_Read_12))))
def q_slotmap_Read_13 : List DOp := [
  ⟨⟨(some 52), (.mv (.t 6)), none⟩, true, false, none, []⟩,
  ⟨⟨(some 54), (.load (.ia .u8 256) 256 (.t 3)), none⟩, true, false, none, []⟩,
  ⟨⟨(some 53), (.call F_Pslotmap_Map_Put [(.sc, (.t 52))]), none⟩, false, true, (some [3]), []⟩,
  ⟨⟨(some 55), (.eq (.ia 256) true (.t 53) (.t 54)), none⟩, true, false, none, []⟩]
def q_slotmap_Read_14 : List AOper := [
  ⟨(some 4), (.mv (.v .nilP)), none⟩,
  ⟨(some 5), (.mv (.v (.int .i64 5))), none⟩]
def q_slotmap_Read_15 : List AOper := [
  ⟨(some 56), (.mv (.t 6)), none⟩,
  ⟨(some 4), (.mv (.t 56)), none⟩,
  ⟨(some 5), (.mv (.v (.int .i64 0))), none⟩]
def a_slotmap_Read : AFunc := ⟨[(.tmp 4), (.tmp 5)], (.seq (.region q_slotmap_Read_0) (.seq (.region q_slotmap_Read_1) (.seq (.seq (.region q_slotmap_Read_2) (.cond (.t 15) (.seq (.region q_slotmap_Read_3) .ret) .skip)) (.seq (.seq (.region q_slotmap_Read_4) (.cond (.t 19) (.seq (.region q_slotmap_Read_5) .ret) .skip)) (.seq (.seq (.region q_slotmap_Read_6) (.block 0 (.loop q_slotmap_Read_L13))) (.seq (.seq (.regionD q_slotmap_Read_13) (.cond (.t 55) (.seq (.region q_slotmap_Read_14) .ret) .skip)) (.seq (.region q_slotmap_Read_15) .ret)))))))⟩

def q_Pslotmap_Map_Copy_0 : List AOper := [
  ⟨(some 2), (.mv (.v .nilP)), none⟩]
def q_Pslotmap_Map_Copy_1 : List AOper := [
  ⟨(some 3), (.bslI 5 .u8 []), none⟩,
  ⟨(some 4), (.mv (.t 0)), none⟩,
  ⟨(some 5), (.xx (.p .nilCk) [(.t 4)]), none⟩,
  ⟨(some 6), (.fadr 0 1 .sc (.t 5)), none⟩,
  ⟨(some 7), (.load .sc 1 (.t 6)), none⟩,
  ⟨(some 8), (.appI 5 .u8 1 (.t 3) (.t 7)), none⟩,
  ⟨(some 9), (.build .ag [.nilS] [(0, (1, (.t 8)))]), none⟩,
  ⟨(some 10), (.box 111 .ag (.t 9)), none⟩,
  ⟨(some 2), (.mv (.t 10)), none⟩]
def a_Pslotmap_Map_Copy : AFunc := ⟨[(.tmp 2)], (.seq (.region q_Pslotmap_Map_Copy_0) (.seq (.region q_Pslotmap_Map_Copy_1) .ret))⟩

def q_Pslotmap_Map_Set_0 : List AOper := [
  ⟨(some 6), (.mv (.v (.int .i64 0))), none⟩]
def q_Pslotmap_Map_Set_1 : List AOper := [
  ⟨(some 7), (.mv (.t 0)), none⟩,
  ⟨(some 8), (.mv (.t 1)), none⟩,
  ⟨(some 9), (.call F_Pslotmap_Map_Get [(.sc, (.t 7)), (.sc, (.t 8))]), none⟩,
  ⟨(some 10), (.bin .lss (.t 9) (.v (.int .i64 0))), none⟩]
def q_Pslotmap_Map_Set_2 : List AOper := [
  ⟨(some 6), (.mv (.v (.int .i64 2))), none⟩]
def q_Pslotmap_Map_Set_3 : List AOper := [
  ⟨(some 11), (.mv (.t 2)), none⟩,
  ⟨(some 12), (.bin .lss (.t 11) (.v (.int .i64 0))), none⟩,
  ⟨(some 13), (.mv (.t 12)), none⟩,
  ⟨(some 14), (.mv (.t 2)), (some (13, false))⟩,
  ⟨(some 15), (.bin .gtr (.t 14) (.v (.int .i64 2))), (some (13, false))⟩,
  ⟨(some 16), (.pick (.t 13) (.v (.bool true)) (.t 15)), none⟩]
def q_Pslotmap_Map_Set_4 : List AOper := [
  ⟨(some 6), (.mv (.v (.int .i64 1))), none⟩]
def q_Pslotmap_Map_Set_5 : List AOper := [
  ⟨(some 17), (.mv (.t 0)), none⟩,
  ⟨(some 18), (.xx (.p .nilCk) [(.t 17)]), none⟩,
  ⟨(some 19), (.fadr 0 1 .sc (.t 18)), none⟩,
  ⟨(some 20), (.load .sc 1 (.t 19)), none⟩,
  ⟨(some 21), (.mv (.t 1)), none⟩,
  ⟨(some 22), (.mv (.t 2)), none⟩,
  ⟨(some 23), (.conv .u8 (.t 22)), none⟩,
  ⟨(some 24), (.idx 1 (.t 20) (.t 21)), none⟩,
  ⟨none, (.store .sc 1 (.t 24) (.t 23)), none⟩]
def q_Pslotmap_Map_Set_6 : List AOper := [
  ⟨(some 6), (.mv (.v (.int .i64 0))), none⟩]
def a_Pslotmap_Map_Set : AFunc := ⟨[(.tmp 6)], (.seq (.region q_Pslotmap_Map_Set_0) (.seq (.seq (.region q_Pslotmap_Map_Set_1) (.cond (.t 10) (.seq (.region q_Pslotmap_Map_Set_2) .ret) .skip)) (.seq (.seq (.region q_Pslotmap_Map_Set_3) (.cond (.t 16) (.seq (.region q_Pslotmap_Map_Set_4) .ret) .skip)) (.seq (.region q_Pslotmap_Map_Set_5) (.seq (.region q_Pslotmap_Map_Set_6) .ret)))))⟩

def q_Pslotmap_Map_Take_0 : List AOper := [
  ⟨(some 3), (.box 3 .sc (.t 1)), none⟩,
  ⟨(some 4), (.mv (.v .nilS)), none⟩,
  ⟨(some 5), (.mv (.v (.int .i64 0))), none⟩]
def q_Pslotmap_Map_Take_1 : List AOper := [
  ⟨(some 10), (.load .sc 1 (.t 3)), none⟩,
  ⟨(some 11), (.bin .lss (.t 10) (.v (.int .i64 0))), none⟩]
def q_Pslotmap_Map_Take_2 : List AOper := [
  ⟨(some 4), (.mv (.v .nilS)), none⟩,
  ⟨(some 5), (.mv (.v (.int .i64 1))), none⟩]
def q_Pslotmap_Map_Take_3 : List DOp := [
  ⟨⟨(some 12), (.load .sc 1 (.t 3)), none⟩, true, false, none, []⟩,
  ⟨⟨(some 13), (.mv (.t 0)), none⟩, true, false, none, []⟩,
  ⟨⟨(some 14), (.call F_Pslotmap_Map_Count [(.sc, (.t 13)), (.sc, (.v (.int .i64 0)))]), none⟩, false, true, (some [3]), []⟩,
  ⟨⟨(some 15), (.bin .gtr (.t 12) (.t 14)), none⟩, true, false, none, []⟩]
def q_Pslotmap_Map_Take_4 : List AOper := [
  ⟨(some 4), (.mv (.v .nilS)), none⟩,
  ⟨(some 5), (.mv (.v (.int .i64 6))), none⟩]
def q_Pslotmap_Map_Take_5 : List AOper := [
  ⟨(some 6), (.alloc 41 [.nilS]), none⟩]
def q_Pslotmap_Map_Take_6 : List AOper := [
  ⟨(some 16), (.mv (.t 0)), none⟩,
  ⟨(some 17), (.call F_Pslotmap_Map_All [(.sc, (.t 16)), (.sc, (.v (.int .i64 0)))]), none⟩]
def q_Pslotmap_Map_Take_7 : List AOper := [
  ⟨(some 27), (.load .sc 1 (.t 6)), none⟩,
  ⟨(some 28), (.len false (.t 27)), none⟩,
  ⟨(some 29), (.mv (.v (.int .i64 0))), none⟩]
def q_Pslotmap_Map_Take_8 : List AOper := [
  ⟨(some 30), (.bin .lss (.t 29) (.t 28)), none⟩]
def q_Pslotmap_Map_Take_9 : List AOper := [
  ⟨(some 31), (.idx 1 (.t 27) (.t 29)), none⟩,
  ⟨(some 32), (.load .sc 1 (.t 31)), none⟩,
  ⟨(some 9), (.mv (.t 32)), none⟩]
def q_Pslotmap_Map_Take_10 : List AOper := [
  ⟨(some 33), (.mv (.t 0)), none⟩,
  ⟨(some 34), (.xx (.p .nilCk) [(.t 33)]), none⟩,
  ⟨(some 35), (.fadr 0 1 .sc (.t 34)), none⟩,
  ⟨(some 36), (.load .sc 1 (.t 35)), none⟩,
  ⟨(some 37), (.mv (.t 9)), none⟩,
  ⟨(some 38), (.idx 1 (.t 36) (.t 37)), none⟩,
  ⟨none, (.store .sc 1 (.t 38) (.v (.int .u8 1))), none⟩]
def q_Pslotmap_Map_Take_11 : List AOper := [
  ⟨(some 39), (.bin .add (.t 29) (.v (.int .i64 1))), none⟩,
  ⟨(some 29), (.mv (.t 39)), none⟩]
def q_Pslotmap_Map_Take_L12 : ACode := (.seq (.region q_Pslotmap_Map_Take_8) (.seq (.cond (.t 30) .skip (.exit 2)) (.seq (.block 3 (.seq (.region q_Pslotmap_Map_Take_9) (.region q_Pslotmap_Map_Take_10))) (.region q_Pslotmap_Map_Take_11))))
def q_Pslotmap_Map_Take_12 : List AOper := [
  ⟨(some 40), (.load .sc 1 (.t 6)), none⟩,
  ⟨(some 4), (.mv (.t 40)), none⟩,
  ⟨(some 5), (.mv (.v (.int .i64 0))), none⟩]
def ra_Pslotmap_Map_Take_0_0 : List AOper := [
  ⟨(some 7), (.mv (.t 18)), none⟩]
def ra_Pslotmap_Map_Take_0 : ACode := (.region ra_Pslotmap_Map_Take_0_0)
def rb_Pslotmap_Map_Take_0_0 : List AOper := [
  ⟨(some 19), (.load .sc 1 (.t 6)), none⟩,
  ⟨(some 20), (.len false (.t 19)), none⟩,
  ⟨(some 21), (.load .sc 1 (.t 3)), none⟩,
  ⟨(some 22), (.eq .scI false (.t 20) (.t 21)), none⟩]
def rb_Pslotmap_Map_Take_0_1 : List AOper := [
  ⟨(some 23), (.load .sc 1 (.t 6)), none⟩,
  ⟨(some 24), (.mv (.t 7)), none⟩,
  ⟨(some 25), (.bslI 3 .i64 [(.t 24)]), none⟩,
  ⟨(some 26), (.appI 3 .i64 8 (.t 23) (.t 25)), none⟩,
  ⟨none, (.store .sc 1 (.t 6) (.t 26)), none⟩]
def rb_Pslotmap_Map_Take_0 : ACode := (.block 1 (.seq (.seq (.region rb_Pslotmap_Map_Take_0_0) (.cond (.t 22) (.exit 0) .skip)) (.region rb_Pslotmap_Map_Take_0_1)))
noncomputable def a_Pslotmap_Map_Take : AFunc := ⟨[(.tmp 4), (.tmp 5)], (.seq (.region q_Pslotmap_Map_Take_0) (.seq (.seq (.region q_Pslotmap_Map_Take_1) (.cond (.t 11) (.seq (.region q_Pslotmap_Map_Take_2) .ret) .skip)) (.seq (.seq (.regionD q_Pslotmap_Map_Take_3) (.cond (.t 15) (.seq (.region q_Pslotmap_Map_Take_4) .ret) .skip)) (.seq (.region q_Pslotmap_Map_Take_5) (.seq (.seq (.region q_Pslotmap_Map_Take_6) (.block 0 (.rangeF 41 (.t 17) [18] (rfA Try.f29 0) (rfB Try.f29 0)))) (.seq (.seq (.region q_Pslotmap_Map_Take_7) (.block 2 (.loop q_Pslotmap_Map_Take_L12))) (.seq (.region q_Pslotmap_Map_Take_12) .ret)))))))⟩

def q_Pslotmap_Map_Put_0 : List AOper := [
  ⟨(some 2), (.alloc 54 [(.iarr .u8 256 (List.replicate 256 0))]), none⟩]
def q_Pslotmap_Map_Put_1 : List AOper := [
  ⟨(some 7), (.mv (.t 0)), none⟩,
  ⟨(some 8), (.xx (.p .nilCk) [(.t 7)]), none⟩,
  ⟨(some 9), (.fadr 0 1 .sc (.t 8)), none⟩,
  ⟨(some 10), (.load .sc 1 (.t 9)), none⟩,
  ⟨(some 11), (.len false (.t 10)), none⟩,
  ⟨(some 12), (.bin .add (.t 11) (.v (.int .i64 3))), none⟩,
  ⟨(some 13), (.bin .quo (.t 12) (.v (.int .i64 4))), none⟩,
  ⟨(some 14), (.mkI 5 .u8 1 (.t 13) (.t 13)), none⟩,
  ⟨(some 3), (.mv (.t 14)), none⟩]
def q_Pslotmap_Map_Put_2 : List AOper := [
  ⟨(some 15), (.mv (.t 0)), none⟩,
  ⟨(some 16), (.xx (.p .nilCk) [(.t 15)]), none⟩,
  ⟨(some 17), (.fadr 0 1 .sc (.t 16)), none⟩,
  ⟨(some 18), (.load .sc 1 (.t 17)), none⟩,
  ⟨(some 19), (.len false (.t 18)), none⟩,
  ⟨(some 20), (.mv (.v (.int .i64 0))), none⟩]
def q_Pslotmap_Map_Put_3 : List AOper := [
  ⟨(some 21), (.bin .lss (.t 20) (.t 19)), none⟩]
def q_Pslotmap_Map_Put_4 : List AOper := [
  ⟨(some 22), (.mv (.t 20)), none⟩,
  ⟨(some 23), (.idx 1 (.t 18) (.t 20)), none⟩,
  ⟨(some 24), (.load .sc 1 (.t 23)), none⟩,
  ⟨(some 4), (.mv (.t 22)), none⟩,
  ⟨(some 5), (.mv (.t 24)), none⟩]
def q_Pslotmap_Map_Put_5 : List DOp := [
  ⟨⟨(some 25), (.mv (.t 3)), none⟩, true, false, none, []⟩,
  ⟨⟨(some 26), (.mv (.t 4)), none⟩, true, false, none, []⟩,
  ⟨⟨(some 27), (.bin .quo (.t 26) (.v (.int .i64 4))), none⟩, true, false, none, []⟩,
  ⟨⟨(some 28), (.idx 1 (.t 25) (.t 27)), none⟩, true, false, none, []⟩,
  ⟨⟨(some 29), (.load .sc 1 (.t 28)), none⟩, true, false, none, []⟩,
  ⟨⟨(some 30), (.mv (.t 5)), none⟩, true, false, none, []⟩,
  ⟨⟨(some 31), (.mv (.t 4)), none⟩, true, false, none, []⟩,
  ⟨⟨(some 32), (.bin .rem (.t 31) (.v (.int .i64 4))), none⟩, true, false, none, []⟩,
  ⟨⟨(some 33), (.bin .mul (.v (.int .i64 2)) (.t 32)), none⟩, true, false, none, []⟩,
  ⟨⟨(some 34), (.bin .shl (.t 30) (.t 33)), none⟩, true, false, none, []⟩,
  ⟨⟨(some 35), (.bin .or (.t 29) (.t 34)), none⟩, true, false, none, []⟩,
  ⟨⟨(some 36), (.idx 1 (.t 25) (.t 27)), none⟩, true, false, none, []⟩,
  ⟨⟨none, (.store .sc 1 (.t 36) (.t 35)), none⟩, false, false, none, []⟩]
def q_Pslotmap_Map_Put_6 : List AOper := [
  ⟨(some 37), (.bin .add (.t 20) (.v (.int .i64 1))), none⟩,
  ⟨(some 20), (.mv (.t 37)), none⟩]
def q_Pslotmap_Map_Put_L7 : ACode := (.seq (.region q_Pslotmap_Map_Put_3) (.seq (.cond (.t 21) .skip (.exit 0)) (.seq (.block 1 (.seq (.region q_Pslotmap_Map_Put_4) (.regionD q_Pslotmap_Map_Put_5))) (.region q_Pslotmap_Map_Put_6))))
def q_Pslotmap_Map_Put_7 : List AOper := [
  ⟨(some 38), (.mv (.t 3)), none⟩,
  ⟨(some 39), (.call F_word_Whole [(.sc, (.t 38))]), none⟩,
  ⟨(some 6), (.alloc 54 [(.iarr .u8 256 (List.replicate 256 0))]), none⟩,
  ⟨none, (.store (.ia .u8 256) 256 (.t 6) (.t 39)), none⟩]
def q_Pslotmap_Map_Put_8 : List AOper := [
  ⟨(some 40), (.slcA 256 (.t 6) none (some (.v (.int .i64 252)))), none⟩,
  ⟨(some 41), (.call F_crc_Sealed [(.sc, (.t 40))]), none⟩,
  ⟨(some 42), (.call F_word_Whole [(.sc, (.t 41))]), none⟩,
  ⟨none, (.store (.ia .u8 256) 256 (.t 2) (.t 42)), none⟩]
def a_Pslotmap_Map_Put : AFunc := ⟨[(.cell 2 (.ia .u8 256) 256)], (.seq (.region q_Pslotmap_Map_Put_0) (.seq (.region q_Pslotmap_Map_Put_1) (.seq (.seq (.region q_Pslotmap_Map_Put_2) (.block 0 (.loop q_Pslotmap_Map_Put_L7))) (.seq (.region q_Pslotmap_Map_Put_7) (.seq (.region q_Pslotmap_Map_Put_8) .ret)))))⟩

def q_Pslotmap_Map_Len_0 : List AOper := [
  ⟨(some 2), (.mv (.v (.int .i64 0))), none⟩]
def q_Pslotmap_Map_Len_1 : List AOper := [
  ⟨(some 3), (.mv (.t 0)), none⟩,
  ⟨(some 4), (.xx (.p .nilCk) [(.t 3)]), none⟩,
  ⟨(some 5), (.fadr 0 1 .sc (.t 4)), none⟩,
  ⟨(some 6), (.load .sc 1 (.t 5)), none⟩,
  ⟨(some 7), (.len false (.t 6)), none⟩,
  ⟨(some 2), (.mv (.t 7)), none⟩]
def a_Pslotmap_Map_Len : AFunc := ⟨[(.tmp 2)], (.seq (.region q_Pslotmap_Map_Len_0) (.seq (.region q_Pslotmap_Map_Len_1) .ret))⟩

def q_Pslotmap_Map_Count_0 : List AOper := [
  ⟨(some 4), (.mv (.v (.int .i64 0))), none⟩]
def q_Pslotmap_Map_Count_1 : List AOper := [
  ⟨(some 5), (.alloc 3 [(.int .i64 0)]), none⟩,
  ⟨none, (.store .sc 1 (.t 5) (.v (.int .i64 0))), none⟩]
def q_Pslotmap_Map_Count_2 : List AOper := [
  ⟨(some 6), (.mv (.t 0)), none⟩,
  ⟨(some 7), (.mv (.t 1)), none⟩,
  ⟨(some 8), (.call F_Pslotmap_Map_All [(.sc, (.t 6)), (.sc, (.t 7))]), none⟩]
def q_Pslotmap_Map_Count_3 : List AOper := [
  ⟨(some 12), (.load .sc 1 (.t 5)), none⟩,
  ⟨(some 4), (.mv (.t 12)), none⟩]

def ra_Pslotmap_Map_Count_0 : ACode := .skip
def rb_Pslotmap_Map_Count_0_0 : List AOper := [
  ⟨(some 10), (.load .sc 1 (.t 5)), none⟩,
  ⟨(some 11), (.bin .add (.t 10) (.v (.int .i64 1))), none⟩,
  ⟨none, (.store .sc 1 (.t 5) (.t 11)), none⟩]
def rb_Pslotmap_Map_Count_0 : ACode := (.block 1 (.region rb_Pslotmap_Map_Count_0_0))
noncomputable def a_Pslotmap_Map_Count : AFunc := ⟨[(.tmp 4)], (.seq (.region q_Pslotmap_Map_Count_0) (.seq (.region q_Pslotmap_Map_Count_1) (.seq (.seq (.region q_Pslotmap_Map_Count_2) (.block 0 (.rangeF 13 (.t 8) [9] (rfA Try.f36 0) (rfB Try.f36 0)))) (.seq (.region q_Pslotmap_Map_Count_3) .ret))))⟩

def q_Pslotmap_Map_First_0 : List AOper := [
  ⟨(some 4), (.alloc 3 [(.int .i64 0)]), none⟩]
def q_Pslotmap_Map_First_1 : List AOper := [
  ⟨(some 6), (.mv (.t 0)), none⟩,
  ⟨(some 7), (.mv (.t 1)), none⟩,
  ⟨(some 8), (.call F_Pslotmap_Map_All [(.sc, (.t 6)), (.sc, (.t 7))]), none⟩]
def q_Pslotmap_Map_First_2 : List AOper := [
  ⟨none, (.store .sc 1 (.t 4) (.v (.int .i64 (-1)))), none⟩]
def ra_Pslotmap_Map_First_0_0 : List AOper := [
  ⟨(some 5), (.mv (.t 9)), none⟩]
def ra_Pslotmap_Map_First_0 : ACode := (.region ra_Pslotmap_Map_First_0_0)
def rb_Pslotmap_Map_First_0_0 : List AOper := [
  ⟨(some 10), (.mv (.t 5)), none⟩,
  ⟨none, (.store .sc 1 (.t 4) (.t 10)), none⟩]
def rb_Pslotmap_Map_First_0 : ACode := (.block 1 (.seq (.region rb_Pslotmap_Map_First_0_0) .ret))
noncomputable def a_Pslotmap_Map_First : AFunc := ⟨[(.cell 4 .sc 1)], (.seq (.region q_Pslotmap_Map_First_0) (.seq (.seq (.region q_Pslotmap_Map_First_1) (.block 0 (.rangeF 11 (.t 8) [9] (rfA Try.f37 0) (rfB Try.f37 0)))) (.seq (.region q_Pslotmap_Map_First_2) .ret)))⟩

def q_Pslotmap_Map_Get_0 : List AOper := [
  ⟨(some 4), (.mv (.v (.int .i64 0))), none⟩]
def q_Pslotmap_Map_Get_1 : List AOper := [
  ⟨(some 5), (.mv (.t 1)), none⟩,
  ⟨(some 6), (.bin .lss (.t 5) (.v (.int .i64 0))), none⟩,
  ⟨(some 7), (.mv (.t 6)), none⟩,
  ⟨(some 8), (.mv (.t 1)), (some (7, false))⟩,
  ⟨(some 9), (.mv (.t 0)), (some (7, false))⟩,
  ⟨(some 10), (.xx (.p .nilCk) [(.t 9)]), (some (7, false))⟩,
  ⟨(some 11), (.fadr 0 1 .sc (.t 10)), (some (7, false))⟩,
  ⟨(some 12), (.load .sc 1 (.t 11)), (some (7, false))⟩,
  ⟨(some 13), (.len false (.t 12)), (some (7, false))⟩,
  ⟨(some 14), (.bin .geq (.t 8) (.t 13)), (some (7, false))⟩,
  ⟨(some 15), (.pick (.t 7) (.v (.bool true)) (.t 14)), none⟩]
def q_Pslotmap_Map_Get_2 : List AOper := [
  ⟨(some 4), (.mv (.v (.int .i64 (-1)))), none⟩]
def q_Pslotmap_Map_Get_3 : List AOper := [
  ⟨(some 16), (.mv (.t 0)), none⟩,
  ⟨(some 17), (.xx (.p .nilCk) [(.t 16)]), none⟩,
  ⟨(some 18), (.fadr 0 1 .sc (.t 17)), none⟩,
  ⟨(some 19), (.load .sc 1 (.t 18)), none⟩,
  ⟨(some 20), (.mv (.t 1)), none⟩,
  ⟨(some 21), (.idx 1 (.t 19) (.t 20)), none⟩,
  ⟨(some 22), (.load .sc 1 (.t 21)), none⟩,
  ⟨(some 23), (.conv .i64 (.t 22)), none⟩,
  ⟨(some 4), (.mv (.t 23)), none⟩]
def a_Pslotmap_Map_Get : AFunc := ⟨[(.tmp 4)], (.seq (.region q_Pslotmap_Map_Get_0) (.seq (.seq (.region q_Pslotmap_Map_Get_1) (.cond (.t 15) (.seq (.region q_Pslotmap_Map_Get_2) .ret) .skip)) (.seq (.region q_Pslotmap_Map_Get_3) .ret)))⟩

def q_Pslotmap_Map_Last_0 : List AOper := [
  ⟨(some 4), (.mv (.v (.int .i64 0))), none⟩]
def q_Pslotmap_Map_Last_1 : List AOper := [
  ⟨(some 5), (.alloc 3 [(.int .i64 0)]), none⟩,
  ⟨none, (.store .sc 1 (.t 5) (.v (.int .i64 (-1)))), none⟩]
def q_Pslotmap_Map_Last_2 : List AOper := [
  ⟨(some 7), (.mv (.t 0)), none⟩,
  ⟨(some 8), (.mv (.t 1)), none⟩,
  ⟨(some 9), (.call F_Pslotmap_Map_All [(.sc, (.t 7)), (.sc, (.t 8))]), none⟩]
def q_Pslotmap_Map_Last_3 : List AOper := [
  ⟨(some 12), (.load .sc 1 (.t 5)), none⟩,
  ⟨(some 4), (.mv (.t 12)), none⟩]
def ra_Pslotmap_Map_Last_0_0 : List AOper := [
  ⟨(some 6), (.mv (.t 10)), none⟩]
def ra_Pslotmap_Map_Last_0 : ACode := (.region ra_Pslotmap_Map_Last_0_0)
def rb_Pslotmap_Map_Last_0_0 : List AOper := [
  ⟨(some 11), (.mv (.t 6)), none⟩,
  ⟨none, (.store .sc 1 (.t 5) (.t 11)), none⟩]
def rb_Pslotmap_Map_Last_0 : ACode := (.block 1 (.region rb_Pslotmap_Map_Last_0_0))
noncomputable def a_Pslotmap_Map_Last : AFunc := ⟨[(.tmp 4)], (.seq (.region q_Pslotmap_Map_Last_0) (.seq (.region q_Pslotmap_Map_Last_1) (.seq (.seq (.region q_Pslotmap_Map_Last_2) (.block 0 (.rangeF 13 (.t 9) [10] (rfA Try.f82 0) (rfB Try.f82 0)))) (.seq (.region q_Pslotmap_Map_Last_3) .ret))))⟩

def q_Pslotmap_Map_All_0 : List AOper := [
  ⟨(some 2), (.box 38 .sc (.t 0)), none⟩,
  ⟨(some 3), (.box 3 .sc (.t 1)), none⟩,
  ⟨(some 4), (.mv (.v .nilF)), none⟩]
def q_Pslotmap_Map_All_1 : List AOper := [
  ⟨(some 5), (.xx (.p (.mkF (.func F_Pslotmap_Map_All_1) 0)) [(.t 2), (.t 3)]), none⟩,
  ⟨(some 4), (.mv (.t 5)), none⟩]
def a_Pslotmap_Map_All : AFunc := ⟨[(.tmp 4)], (.seq (.region q_Pslotmap_Map_All_0) (.seq (.region q_Pslotmap_Map_All_1) .ret))⟩

def q_Pslotmap_Map_All_1_0 : List AOper := [
  ⟨(some 6), (.load .sc 1 (.t 1)), none⟩,
  ⟨(some 7), (.xx (.p .nilCk) [(.t 6)]), none⟩,
  ⟨(some 8), (.fadr 0 1 .sc (.t 7)), none⟩,
  ⟨(some 9), (.load .sc 1 (.t 8)), none⟩,
  ⟨(some 10), (.len false (.t 9)), none⟩,
  ⟨(some 11), (.mv (.v (.int .i64 0))), none⟩]
def q_Pslotmap_Map_All_1_1 : List AOper := [
  ⟨(some 12), (.bin .lss (.t 11) (.t 10)), none⟩]
def q_Pslotmap_Map_All_1_2 : List AOper := [
  ⟨(some 13), (.mv (.t 11)), none⟩,
  ⟨(some 14), (.idx 1 (.t 9) (.t 11)), none⟩,
  ⟨(some 15), (.load .sc 1 (.t 14)), none⟩,
  ⟨(some 4), (.mv (.t 13)), none⟩,
  ⟨(some 5), (.mv (.t 15)), none⟩]
def q_Pslotmap_Map_All_1_3 : List AOper := [
  ⟨(some 16), (.mv (.t 5)), none⟩,
  ⟨(some 17), (.conv .i64 (.t 16)), none⟩,
  ⟨(some 18), (.load .sc 1 (.t 2)), none⟩,
  ⟨(some 19), (.eq .scI false (.t 17) (.t 18)), none⟩,
  ⟨(some 20), (.mv (.t 19)), none⟩,
  ⟨(some 21), (.mv (.t 0)), (some (20, true))⟩,
  ⟨(some 22), (.mv (.t 4)), (some (20, true))⟩,
  ⟨(some 23), (.callV (.t 21) [(.sc, (.t 22))]), (some (20, true))⟩,
  ⟨(some 24), (.un .not (.t 23)), (some (20, true))⟩,
  ⟨(some 25), (.pick (.t 20) (.t 24) (.v (.bool false))), none⟩]
def q_Pslotmap_Map_All_1_4 : List AOper := [
  ⟨(some 26), (.bin .add (.t 11) (.v (.int .i64 1))), none⟩,
  ⟨(some 11), (.mv (.t 26)), none⟩]
def q_Pslotmap_Map_All_1_L5 : ACode := (.seq (.region q_Pslotmap_Map_All_1_1) (.seq (.cond (.t 12) .skip (.exit 0)) (.seq (.block 1 (.seq (.region q_Pslotmap_Map_All_1_2) (.seq (.region q_Pslotmap_Map_All_1_3) (.cond (.t 25) .ret .skip)))) (.region q_Pslotmap_Map_All_1_4))))
def a_Pslotmap_Map_All_1 : AFunc := ⟨[], (.seq (.region q_Pslotmap_Map_All_1_0) (.block 0 (.loop q_Pslotmap_Map_All_1_L5)))⟩

def q_ref10_Set_0 : List AOper := [
  ⟨(some 6), (.mv (.v .nilS)), none⟩,
  ⟨(some 7), (.mv (.v (.int .i64 0))), none⟩]
def q_ref10_Set_1 : List AOper := [
  ⟨(some 9), (.mv (.t 1)), none⟩,
  ⟨(some 10), (.bin .lss (.t 9) (.v (.int .i64 0))), none⟩,
  ⟨(some 11), (.mv (.t 10)), none⟩,
  ⟨(some 12), (.mv (.t 1)), (some (11, false))⟩,
  ⟨(some 13), (.mv (.t 0)), (some (11, false))⟩,
  ⟨(some 14), (.len false (.t 13)), (some (11, false))⟩,
  ⟨(some 15), (.bin .geq (.t 12) (.t 14)), (some (11, false))⟩,
  ⟨(some 16), (.pick (.t 11) (.v (.bool true)) (.t 15)), none⟩]
def q_ref10_Set_2 : List AOper := [
  ⟨(some 17), (.mv (.t 0)), none⟩,
  ⟨(some 6), (.mv (.t 17)), none⟩,
  ⟨(some 7), (.mv (.v (.int .i64 2))), none⟩]
def q_ref10_Set_3 : List AOper := [
  ⟨(some 18), (.mv (.t 2)), none⟩,
  ⟨(some 19), (.bin .lss (.t 18) (.v (.int .i64 0))), none⟩,
  ⟨(some 20), (.mv (.t 19)), none⟩,
  ⟨(some 21), (.mv (.t 2)), (some (20, false))⟩,
  ⟨(some 22), (.bin .gtr (.t 21) (.v (.int .i64 2))), (some (20, false))⟩,
  ⟨(some 23), (.pick (.t 20) (.v (.bool true)) (.t 22)), none⟩]
def q_ref10_Set_4 : List AOper := [
  ⟨(some 24), (.mv (.t 0)), none⟩,
  ⟨(some 6), (.mv (.t 24)), none⟩,
  ⟨(some 7), (.mv (.v (.int .i64 1))), none⟩]
def q_ref10_Set_5 : List AOper := [
  ⟨(some 8), (.mv (.v .nilS)), none⟩]
def q_ref10_Set_6 : List AOper := [
  ⟨(some 25), (.mv (.t 8)), none⟩,
  ⟨(some 26), (.mv (.t 0)), none⟩,
  ⟨(some 27), (.appI 3 .i64 8 (.t 25) (.t 26)), none⟩,
  ⟨(some 8), (.mv (.t 27)), none⟩]
def q_ref10_Set_7 : List AOper := [
  ⟨(some 28), (.mv (.t 8)), none⟩,
  ⟨(some 29), (.mv (.t 1)), none⟩,
  ⟨(some 30), (.mv (.t 2)), none⟩,
  ⟨(some 31), (.idx 1 (.t 28) (.t 29)), none⟩,
  ⟨none, (.store .sc 1 (.t 31) (.t 30)), none⟩]
def q_ref10_Set_8 : List AOper := [
  ⟨(some 32), (.mv (.t 8)), none⟩,
  ⟨(some 6), (.mv (.t 32)), none⟩,
  ⟨(some 7), (.mv (.v (.int .i64 0))), none⟩]
def a_ref10_Set : AFunc := ⟨[(.tmp 6), (.tmp 7)], (.seq (.region q_ref10_Set_0) (.seq (.seq (.region q_ref10_Set_1) (.cond (.t 16) (.seq (.region q_ref10_Set_2) .ret) .skip)) (.seq (.seq (.region q_ref10_Set_3) (.cond (.t 23) (.seq (.region q_ref10_Set_4) .ret) .skip)) (.seq (.region q_ref10_Set_5) (.seq (.region q_ref10_Set_6) (.seq (.region q_ref10_Set_7) (.seq (.region q_ref10_Set_8) .ret)))))))⟩

def q_ref10_Take_0 : List AOper := [
  ⟨(some 4), (.mv (.v .nilS)), none⟩,
  ⟨(some 5), (.mv (.v .nilS)), none⟩,
  ⟨(some 6), (.mv (.v (.int .i64 0))), none⟩]
def q_ref10_Take_1 : List AOper := [
  ⟨(some 10), (.mv (.t 1)), none⟩,
  ⟨(some 11), (.bin .lss (.t 10) (.v (.int .i64 0))), none⟩]
def q_ref10_Take_2 : List AOper := [
  ⟨(some 12), (.mv (.t 0)), none⟩,
  ⟨(some 4), (.mv (.t 12)), none⟩,
  ⟨(some 5), (.mv (.v .nilS)), none⟩,
  ⟨(some 6), (.mv (.v (.int .i64 1))), none⟩]
def q_ref10_Take_3 : List AOper := [
  ⟨(some 13), (.mv (.t 0)), none⟩,
  ⟨(some 14), (.call F_ref10_Of [(.sc, (.t 13)), (.sc, (.v (.int .i64 0)))]), none⟩,
  ⟨(some 7), (.mv (.t 14)), none⟩]
def q_ref10_Take_4 : List AOper := [
  ⟨(some 15), (.mv (.t 1)), none⟩,
  ⟨(some 16), (.mv (.t 7)), none⟩,
  ⟨(some 17), (.len false (.t 16)), none⟩,
  ⟨(some 18), (.bin .gtr (.t 15) (.t 17)), none⟩]
def q_ref10_Take_5 : List AOper := [
  ⟨(some 19), (.mv (.t 0)), none⟩,
  ⟨(some 4), (.mv (.t 19)), none⟩,
  ⟨(some 5), (.mv (.v .nilS)), none⟩,
  ⟨(some 6), (.mv (.v (.int .i64 6))), none⟩]
def q_ref10_Take_6 : List AOper := [
  ⟨(some 20), (.mv (.t 0)), none⟩,
  ⟨(some 8), (.mv (.t 20)), none⟩]
def q_ref10_Take_7 : List AOper := [
  ⟨(some 9), (.mv (.v (.int .i64 0))), none⟩]
def q_ref10_Take_8 : List AOper := [
  ⟨(some 21), (.mv (.t 9)), none⟩,
  ⟨(some 22), (.mv (.t 1)), none⟩,
  ⟨(some 23), (.bin .lss (.t 21) (.t 22)), none⟩]
def q_ref10_Take_9 : List AOper := [
  ⟨(some 27), (.mv (.t 8)), none⟩,
  ⟨(some 28), (.mv (.t 7)), none⟩,
  ⟨(some 29), (.mv (.t 9)), none⟩,
  ⟨(some 30), (.idx 1 (.t 28) (.t 29)), none⟩,
  ⟨(some 31), (.load .sc 1 (.t 30)), none⟩,
  ⟨(some 32), (.call F_ref10_Set [(.sc, (.t 27)), (.sc, (.t 31)), (.sc, (.v (.int .i64 1)))]), none⟩,
  ⟨(some 26), (.mv (.t 32)), none⟩,
  ⟨(some 33), (.ext 0 (.t 26)), none⟩,
  ⟨(some 34), (.ext 1 (.t 26)), none⟩,
  ⟨(some 8), (.mv (.t 33)), none⟩]
def q_ref10_Take_10 : List AOper := [
  ⟨(some 24), (.mv (.t 9)), none⟩,
  ⟨(some 25), (.bin .add (.t 24) (.v (.int .i64 1))), none⟩,
  ⟨(some 9), (.mv (.t 25)), none⟩]
def q_ref10_Take_L11 : ACode := (.seq (.seq (.region q_ref10_Take_8) (.cond (.t 23) .skip (.exit 0))) (.seq (.block 1 (.region q_ref10_Take_9)) (.region q_ref10_Take_10)))
def q_ref10_Take_11 : List DOp := [
  ⟨⟨(some 35), (.mv (.t 8)), none⟩, true, false, none, []⟩,
  ⟨⟨(some 36), (.mv (.t 7)), none⟩, true, false, none, []⟩,
  ⟨⟨(some 37), (.mv (.t 1)), none⟩, true, false, none, []⟩,
  ⟨⟨(some 38), (.slc 1 (.t 36) none (some (.t 37))), none⟩, true, false, none, []⟩,
  ⟨⟨(some 4), (.mv (.t 35)), none⟩, true, false, none, []⟩,
  ⟨⟨(some 5), (.mv (.t 38)), none⟩, true, false, none, []⟩,
  ⟨⟨(some 6), (.mv (.v (.int .i64 0))), none⟩, true, false, none, []⟩]
def a_ref10_Take : AFunc := ⟨[(.tmp 4), (.tmp 5), (.tmp 6)], (.seq (.region q_ref10_Take_0) (.seq (.seq (.region q_ref10_Take_1) (.cond (.t 11) (.seq (.region q_ref10_Take_2) .ret) .skip)) (.seq (.region q_ref10_Take_3) (.seq (.seq (.region q_ref10_Take_4) (.cond (.t 18) (.seq (.region q_ref10_Take_5) .ret) .skip)) (.seq (.region q_ref10_Take_6) (.seq (.seq (.region q_ref10_Take_7) (.block 0 (.loop q_ref10_Take_L11))) (.seq (.regionD q_ref10_Take_11) .ret)))))))⟩

def q_ref10_Put_0 : List AOper := [
  ⟨(some 2), (.alloc 54 [(.iarr .u8 256 (List.replicate 256 0))]), none⟩]
def q_ref10_Put_1 : List AOper := [
  ⟨(some 3), (.mv (.v .nilS)), none⟩]
def q_ref10_Put_2 : List AOper := [
  ⟨(some 4), (.mv (.v (.int .i64 0))), none⟩]
def q_ref10_Put_3 : List AOper := [
  ⟨(some 7), (.mv (.t 4)), none⟩,
  ⟨(some 8), (.mv (.t 0)), none⟩,
  ⟨(some 9), (.len false (.t 8)), none⟩,
  ⟨(some 10), (.bin .lss (.t 7) (.t 9)), none⟩]
def q_ref10_Put_4 : List AOper := [
  ⟨(some 13), (.mv (.t 4)), none⟩,
  ⟨(some 14), (.bin .rem (.t 13) (.v (.int .i64 4))), none⟩,
  ⟨(some 15), (.eq .scI false (.t 14) (.v (.int .i64 0))), none⟩]
def q_ref10_Put_5 : List AOper := [
  ⟨(some 16), (.mv (.t 3)), none⟩,
  ⟨(some 17), (.bslI 5 .u8 [(.v (.int .u8 0))]), none⟩,
  ⟨(some 18), (.appI 5 .u8 1 (.t 16) (.t 17)), none⟩,
  ⟨(some 3), (.mv (.t 18)), none⟩]
def q_ref10_Put_6 : List AOper := [
  ⟨(some 19), (.mv (.t 0)), none⟩,
  ⟨(some 20), (.mv (.t 4)), none⟩,
  ⟨(some 21), (.idx 1 (.t 19) (.t 20)), none⟩,
  ⟨(some 22), (.load .sc 1 (.t 21)), none⟩,
  ⟨(some 23), (.conv .u8 (.t 22)), none⟩,
  ⟨(some 5), (.mv (.t 23)), none⟩]
def q_ref10_Put_7 : List AOper := [
  ⟨(some 6), (.mv (.v (.int .i64 0))), none⟩]
def q_ref10_Put_8 : List AOper := [
  ⟨(some 24), (.mv (.t 6)), none⟩,
  ⟨(some 25), (.mv (.t 4)), none⟩,
  ⟨(some 26), (.bin .rem (.t 25) (.v (.int .i64 4))), none⟩,
  ⟨(some 27), (.bin .lss (.t 24) (.t 26)), none⟩]
def q_ref10_Put_9 : List AOper := [
  ⟨(some 30), (.mv (.t 5)), none⟩,
  ⟨(some 31), (.bin .mul (.t 30) (.v (.int .u8 4))), none⟩,
  ⟨(some 5), (.mv (.t 31)), none⟩]
def q_ref10_Put_10 : List AOper := [
  ⟨(some 28), (.mv (.t 6)), none⟩,
  ⟨(some 29), (.bin .add (.t 28) (.v (.int .i64 1))), none⟩,
  ⟨(some 6), (.mv (.t 29)), none⟩]
def q_ref10_Put_L11 : ACode := (.seq (.seq (.region q_ref10_Put_8) (.cond (.t 27) .skip (.exit 2))) (.seq (.block 3 (.region q_ref10_Put_9)) (.region q_ref10_Put_10)))
def q_ref10_Put_11 : List AOper := [
  ⟨(some 32), (.mv (.t 3)), none⟩,
  ⟨(some 33), (.mv (.t 4)), none⟩,
  ⟨(some 34), (.bin .quo (.t 33) (.v (.int .i64 4))), none⟩,
  ⟨(some 35), (.mv (.t 3)), none⟩,
  ⟨(some 36), (.mv (.t 4)), none⟩,
  ⟨(some 37), (.bin .quo (.t 36) (.v (.int .i64 4))), none⟩,
  ⟨(some 38), (.idx 1 (.t 35) (.t 37)), none⟩,
  ⟨(some 39), (.load .sc 1 (.t 38)), none⟩,
  ⟨(some 40), (.mv (.t 5)), none⟩,
  ⟨(some 41), (.bin .add (.t 39) (.t 40)), none⟩,
  ⟨(some 42), (.idx 1 (.t 32) (.t 34)), none⟩,
  ⟨none, (.store .sc 1 (.t 42) (.t 41)), none⟩]
def q_ref10_Put_12 : List AOper := [
  ⟨(some 11), (.mv (.t 4)), none⟩,
  ⟨(some 12), (.bin .add (.t 11) (.v (.int .i64 1))), none⟩,
  ⟨(some 4), (.mv (.t 12)), none⟩]
def q_ref10_Put_L13 : ACode := (.seq (.seq (.region q_ref10_Put_3) (.cond (.t 10) .skip (.exit 0))) (.seq (.block 1 (.seq (.seq (.region q_ref10_Put_4) (.cond (.t 15) (.region q_ref10_Put_5) .skip)) (.seq (.region q_ref10_Put_6) (.seq (.seq (.region q_ref10_Put_7) (.block 2 (.loop q_ref10_Put_L11))) (.region q_ref10_Put_11))))) (.region q_ref10_Put_12)))
def q_ref10_Put_13 : List AOper := [
  ⟨(some 43), (.mv (.t 3)), none⟩,
  ⟨(some 44), (.call F_ref08_Sealed [(.sc, (.t 43))]), none⟩,
  ⟨none, (.store (.ia .u8 256) 256 (.t 2) (.t 44)), none⟩]
def a_ref10_Put : AFunc := ⟨[(.cell 2 (.ia .u8 256) 256)], (.seq (.region q_ref10_Put_0) (.seq (.region q_ref10_Put_1) (.seq (.seq (.region q_ref10_Put_2) (.block 0 (.loop q_ref10_Put_L13))) (.seq (.region q_ref10_Put_13) .ret))))⟩

def q_ref10_Of_0 : List AOper := [
  ⟨(some 4), (.mv (.v .nilS)), none⟩]
def q_ref10_Of_1 : List AOper := [
  ⟨(some 5), (.mv (.v .nilS)), none⟩]
def q_ref10_Of_2 : List AOper := [
  ⟨(some 6), (.mv (.v (.int .i64 0))), none⟩]
def q_ref10_Of_3 : List AOper := [
  ⟨(some 7), (.mv (.t 6)), none⟩,
  ⟨(some 8), (.mv (.t 0)), none⟩,
  ⟨(some 9), (.len false (.t 8)), none⟩,
  ⟨(some 10), (.bin .lss (.t 7) (.t 9)), none⟩]
def q_ref10_Of_4 : List AOper := [
  ⟨(some 13), (.mv (.t 0)), none⟩,
  ⟨(some 14), (.mv (.t 6)), none⟩,
  ⟨(some 15), (.idx 1 (.t 13) (.t 14)), none⟩,
  ⟨(some 16), (.load .sc 1 (.t 15)), none⟩,
  ⟨(some 17), (.mv (.t 1)), none⟩,
  ⟨(some 18), (.eq .scI false (.t 16) (.t 17)), none⟩]
def q_ref10_Of_5 : List AOper := [
  ⟨(some 19), (.mv (.t 5)), none⟩,
  ⟨(some 20), (.mv (.t 6)), none⟩,
  ⟨(some 21), (.bslI 3 .i64 [(.t 20)]), none⟩,
  ⟨(some 22), (.appI 3 .i64 8 (.t 19) (.t 21)), none⟩,
  ⟨(some 5), (.mv (.t 22)), none⟩]
def q_ref10_Of_6 : List AOper := [
  ⟨(some 11), (.mv (.t 6)), none⟩,
  ⟨(some 12), (.bin .add (.t 11) (.v (.int .i64 1))), none⟩,
  ⟨(some 6), (.mv (.t 12)), none⟩]
def q_ref10_Of_L7 : ACode := (.seq (.seq (.region q_ref10_Of_3) (.cond (.t 10) .skip (.exit 0))) (.seq (.block 1 (.seq (.region q_ref10_Of_4) (.cond (.t 18) (.region q_ref10_Of_5) .skip))) (.region q_ref10_Of_6)))
def q_ref10_Of_7 : List AOper := [
  ⟨(some 23), (.mv (.t 5)), none⟩,
  ⟨(some 4), (.mv (.t 23)), none⟩]
def a_ref10_Of : AFunc := ⟨[(.tmp 4)], (.seq (.region q_ref10_Of_0) (.seq (.region q_ref10_Of_1) (.seq (.seq (.region q_ref10_Of_2) (.block 0 (.loop q_ref10_Of_L7))) (.seq (.region q_ref10_Of_7) .ret))))⟩

def q_law10_SlotmapDoes_0 : List AOper := [
  ⟨(some 4), (.mv (.v (.bool false))), none⟩]
def q_law10_SlotmapDoes_1 : List AOper := [
  ⟨(some 18), (.mv (.t 1)), none⟩,
  ⟨(some 19), (.len false (.t 18)), none⟩,
  ⟨(some 20), (.bin .gtr (.t 19) (.v (.int .i64 60))), none⟩,
  ⟨(some 21), (.mv (.t 20)), none⟩,
  ⟨(some 22), (.mv (.t 0)), (some (21, false))⟩,
  ⟨(some 23), (.bin .gtr (.t 22) (.v (.int .i64 250))), (some (21, false))⟩,
  ⟨(some 24), (.pick (.t 21) (.v (.bool true)) (.t 23)), none⟩]
def q_law10_SlotmapDoes_2 : List AOper := [
  ⟨(some 25), (.call F_law10_works []), none⟩,
  ⟨(some 4), (.mv (.t 25)), none⟩]
def q_law10_SlotmapDoes_3 : List AOper := [
  ⟨(some 27), (.mv (.t 0)), none⟩,
  ⟨(some 28), (.call F_slotmap_New [(.sc, (.t 27))]), none⟩,
  ⟨(some 26), (.mv (.t 28)), none⟩,
  ⟨(some 29), (.ext 0 (.t 26)), none⟩,
  ⟨(some 30), (.ext 1 (.t 26)), none⟩,
  ⟨(some 5), (.mv (.t 29)), none⟩,
  ⟨(some 6), (.mv (.t 30)), none⟩]
def q_law10_SlotmapDoes_4 : List AOper := [
  ⟨(some 31), (.mv (.t 0)), none⟩,
  ⟨(some 32), (.bin .lss (.t 31) (.v (.int .i64 1))), none⟩,
  ⟨(some 33), (.mv (.t 32)), none⟩,
  ⟨(some 34), (.mv (.t 0)), (some (33, false))⟩,
  ⟨(some 35), (.bin .gtr (.t 34) (.v (.int .i64 200))), (some (33, false))⟩,
  ⟨(some 36), (.pick (.t 33) (.v (.bool true)) (.t 35)), none⟩]
def q_law10_SlotmapDoes_5 : List AOper := [
  ⟨(some 37), (.mv (.t 6)), none⟩,
  ⟨(some 38), (.eq .scI false (.t 37) (.v (.int .i64 2))), none⟩,
  ⟨(some 39), (.mv (.t 38)), none⟩,
  ⟨(some 40), (.mv (.t 5)), (some (39, true))⟩,
  ⟨(some 41), (.xx (.p (.isNil .ptr false)) [(.t 40)]), (some (39, true))⟩,
  ⟨(some 42), (.pick (.t 39) (.t 41) (.v (.bool false))), none⟩,
  ⟨(some 43), (.mv (.t 42)), none⟩,
  ⟨(some 44), (.call F_law10_works []), (some (43, true))⟩,
  ⟨(some 45), (.pick (.t 43) (.t 44) (.v (.bool false))), none⟩,
  ⟨(some 4), (.mv (.t 45)), none⟩]
def q_law10_SlotmapDoes_6 : List AOper := [
  ⟨(some 46), (.mv (.t 5)), none⟩,
  ⟨(some 47), (.xx (.p (.isNil .ptr false)) [(.t 46)]), none⟩,
  ⟨(some 48), (.mv (.t 47)), none⟩,
  ⟨(some 49), (.mv (.t 6)), (some (48, false))⟩,
  ⟨(some 50), (.eq .scI true (.t 49) (.v (.int .i64 0))), (some (48, false))⟩,
  ⟨(some 51), (.pick (.t 48) (.v (.bool true)) (.t 50)), none⟩]
def q_law10_SlotmapDoes_7 : List AOper := [
  ⟨(some 4), (.mv (.v (.bool false))), none⟩]
def q_law10_SlotmapDoes_8 : List AOper := [
  ⟨(some 52), (.mv (.t 0)), none⟩,
  ⟨(some 53), (.mkI 3 .i64 8 (.t 52) (.t 52)), none⟩,
  ⟨(some 7), (.mv (.t 53)), none⟩]
def q_law10_SlotmapDoes_9 : List AOper := [
  ⟨(some 8), (.mv (.v (.int .i64 0))), none⟩]
def q_law10_SlotmapDoes_10 : List AOper := [
  ⟨(some 54), (.mv (.t 8)), none⟩,
  ⟨(some 55), (.mv (.t 1)), none⟩,
  ⟨(some 56), (.len false (.t 55)), none⟩,
  ⟨(some 57), (.bin .lss (.t 54) (.t 56)), none⟩]
def q_law10_SlotmapDoes_11 : List AOper := [
  ⟨(some 60), (.mv (.t 5)), none⟩,
  ⟨(some 61), (.call F_Pslotmap_Map_Copy [(.sc, (.t 60))]), none⟩,
  ⟨(some 9), (.mv (.t 61)), none⟩]
def q_law10_SlotmapDoes_12 : List AOper := [
  ⟨(some 62), (.mv (.t 7)), none⟩,
  ⟨(some 10), (.mv (.t 62)), none⟩]
def q_law10_SlotmapDoes_13 : List AOper := [
  ⟨(some 63), (.mv (.t 1)), none⟩,
  ⟨(some 64), (.mv (.t 8)), none⟩,
  ⟨(some 65), (.idx 3 (.t 63) (.t 64)), none⟩,
  ⟨(some 66), (.fadr 0 1 .sc (.t 65)), none⟩,
  ⟨(some 67), (.load .sc 1 (.t 66)), none⟩,
  ⟨(some 68), (.eq .scI false (.t 67) (.v (.int .i64 0))), none⟩]
def q_law10_SlotmapDoes_14 : List DOp := [
  ⟨⟨(some 70), (.mv (.t 7)), none⟩, true, false, none, []⟩,
  ⟨⟨(some 71), (.mv (.t 1)), none⟩, true, false, none, []⟩,
  ⟨⟨(some 72), (.mv (.t 8)), none⟩, true, false, none, []⟩,
  ⟨⟨(some 73), (.idx 3 (.t 71) (.t 72)), none⟩, true, false, none, []⟩,
  ⟨⟨(some 74), (.fadr 1 1 .sc (.t 73)), none⟩, true, false, none, []⟩,
  ⟨⟨(some 75), (.load .sc 1 (.t 74)), none⟩, true, false, none, []⟩,
  ⟨⟨(some 76), (.mv (.t 1)), none⟩, true, false, none, []⟩,
  ⟨⟨(some 77), (.mv (.t 8)), none⟩, true, false, none, []⟩,
  ⟨⟨(some 78), (.idx 3 (.t 76) (.t 77)), none⟩, true, false, none, []⟩,
  ⟨⟨(some 79), (.fadr 2 1 .sc (.t 78)), none⟩, true, false, none, []⟩,
  ⟨⟨(some 80), (.load .sc 1 (.t 79)), none⟩, true, false, none, []⟩,
  ⟨⟨(some 81), (.call F_ref10_Set [(.sc, (.t 70)), (.sc, (.t 75)), (.sc, (.t 80))]), none⟩, false, false, none, []⟩,
  ⟨⟨(some 69), (.mv (.t 81)), none⟩, true, false, none, []⟩,
  ⟨⟨(some 82), (.ext 0 (.t 69)), none⟩, true, false, none, []⟩,
  ⟨⟨(some 83), (.ext 1 (.t 69)), none⟩, true, false, none, []⟩,
  ⟨⟨(some 11), (.mv (.t 82)), none⟩, true, false, none, []⟩,
  ⟨⟨(some 12), (.mv (.t 83)), none⟩, true, false, none, []⟩]
def q_law10_SlotmapDoes_15 : List DOp := [
  ⟨⟨(some 84), (.mv (.t 5)), none⟩, true, false, none, []⟩,
  ⟨⟨(some 85), (.mv (.t 1)), none⟩, true, false, none, []⟩,
  ⟨⟨(some 86), (.mv (.t 8)), none⟩, true, false, none, []⟩,
  ⟨⟨(some 87), (.idx 3 (.t 85) (.t 86)), none⟩, true, false, none, []⟩,
  ⟨⟨(some 88), (.fadr 1 1 .sc (.t 87)), none⟩, true, false, none, []⟩,
  ⟨⟨(some 89), (.load .sc 1 (.t 88)), none⟩, true, false, none, []⟩,
  ⟨⟨(some 90), (.mv (.t 1)), none⟩, true, false, none, []⟩,
  ⟨⟨(some 91), (.mv (.t 8)), none⟩, true, false, none, []⟩,
  ⟨⟨(some 92), (.idx 3 (.t 90) (.t 91)), none⟩, true, false, none, []⟩,
  ⟨⟨(some 93), (.fadr 2 1 .sc (.t 92)), none⟩, true, false, none, []⟩,
  ⟨⟨(some 94), (.load .sc 1 (.t 93)), none⟩, true, false, none, []⟩,
  ⟨⟨(some 96), (.mv (.t 12)), none⟩, true, false, none, []⟩,
  ⟨⟨(some 95), (.call F_Pslotmap_Map_Set [(.sc, (.t 84)), (.sc, (.t 89)), (.sc, (.t 94))]), none⟩, false, false, none, []⟩,
  ⟨⟨(some 97), (.eq .scI true (.t 95) (.t 96)), none⟩, true, false, none, []⟩]
def q_law10_SlotmapDoes_16 : List AOper := [
  ⟨(some 4), (.mv (.v (.bool false))), none⟩]
def q_law10_SlotmapDoes_17 : List AOper := [
  ⟨(some 98), (.mv (.t 11)), none⟩,
  ⟨(some 7), (.mv (.t 98)), none⟩]
def q_law10_SlotmapDoes_18 : List AOper := [
  ⟨(some 100), (.mv (.t 7)), none⟩,
  ⟨(some 101), (.mv (.t 1)), none⟩,
  ⟨(some 102), (.mv (.t 8)), none⟩,
  ⟨(some 103), (.idx 3 (.t 101) (.t 102)), none⟩,
  ⟨(some 104), (.fadr 1 1 .sc (.t 103)), none⟩,
  ⟨(some 105), (.load .sc 1 (.t 104)), none⟩,
  ⟨(some 106), (.call F_ref10_Take [(.sc, (.t 100)), (.sc, (.t 105))]), none⟩,
  ⟨(some 99), (.mv (.t 106)), none⟩,
  ⟨(some 107), (.ext 0 (.t 99)), none⟩,
  ⟨(some 108), (.ext 1 (.t 99)), none⟩,
  ⟨(some 109), (.ext 2 (.t 99)), none⟩,
  ⟨(some 13), (.mv (.t 107)), none⟩,
  ⟨(some 14), (.mv (.t 108)), none⟩,
  ⟨(some 15), (.mv (.t 109)), none⟩]
def q_law10_SlotmapDoes_19 : List AOper := [
  ⟨(some 111), (.mv (.t 5)), none⟩,
  ⟨(some 112), (.mv (.t 1)), none⟩,
  ⟨(some 113), (.mv (.t 8)), none⟩,
  ⟨(some 114), (.idx 3 (.t 112) (.t 113)), none⟩,
  ⟨(some 115), (.fadr 1 1 .sc (.t 114)), none⟩,
  ⟨(some 116), (.load .sc 1 (.t 115)), none⟩,
  ⟨(some 117), (.call F_Pslotmap_Map_Take [(.sc, (.t 111)), (.sc, (.t 116))]), none⟩,
  ⟨(some 110), (.mv (.t 117)), none⟩,
  ⟨(some 118), (.ext 0 (.t 110)), none⟩,
  ⟨(some 119), (.ext 1 (.t 110)), none⟩,
  ⟨(some 16), (.mv (.t 118)), none⟩,
  ⟨(some 17), (.mv (.t 119)), none⟩]
def q_law10_SlotmapDoes_20 : List AOper := [
  ⟨(some 120), (.mv (.t 15)), none⟩,
  ⟨(some 121), (.mv (.t 17)), none⟩,
  ⟨(some 122), (.eq .scI true (.t 120) (.t 121)), none⟩,
  ⟨(some 123), (.mv (.t 122)), none⟩,
  ⟨(some 124), (.mv (.t 16)), (some (123, false))⟩,
  ⟨(some 125), (.mv (.t 14)), (some (123, false))⟩,
  ⟨(some 126), (.call F_law10_ints [(.sc, (.t 124)), (.sc, (.t 125))]), (some (123, false))⟩,
  ⟨(some 127), (.un .not (.t 126)), (some (123, false))⟩,
  ⟨(some 128), (.pick (.t 123) (.v (.bool true)) (.t 127)), none⟩]
def q_law10_SlotmapDoes_21 : List AOper := [
  ⟨(some 4), (.mv (.v (.bool false))), none⟩]
def q_law10_SlotmapDoes_22 : List AOper := [
  ⟨(some 129), (.mv (.t 13)), none⟩,
  ⟨(some 7), (.mv (.t 129)), none⟩]
def q_law10_SlotmapDoes_23 : List AOper := [
  ⟨(some 130), (.mv (.t 5)), none⟩,
  ⟨(some 131), (.mv (.t 7)), none⟩,
  ⟨(some 132), (.call F_law10_same [(.sc, (.t 130)), (.sc, (.t 131))]), none⟩,
  ⟨(some 133), (.un .not (.t 132)), none⟩,
  ⟨(some 134), (.mv (.t 133)), none⟩,
  ⟨(some 135), (.mv (.t 9)), (some (134, false))⟩,
  ⟨(some 136), (.xx (.p (.isNil .ptr false)) [(.t 135)]), (some (134, false))⟩,
  ⟨(some 137), (.pick (.t 134) (.v (.bool true)) (.t 136)), none⟩,
  ⟨(some 138), (.mv (.t 137)), none⟩,
  ⟨(some 139), (.mv (.t 9)), (some (138, false))⟩,
  ⟨(some 140), (.mv (.t 10)), (some (138, false))⟩,
  ⟨(some 141), (.call F_law10_same [(.sc, (.t 139)), (.sc, (.t 140))]), (some (138, false))⟩,
  ⟨(some 142), (.un .not (.t 141)), (some (138, false))⟩,
  ⟨(some 143), (.pick (.t 138) (.v (.bool true)) (.t 142)), none⟩]
def q_law10_SlotmapDoes_24 : List AOper := [
  ⟨(some 4), (.mv (.v (.bool false))), none⟩]
def q_law10_SlotmapDoes_25 : List AOper := [
  ⟨(some 58), (.mv (.t 8)), none⟩,
  ⟨(some 59), (.bin .add (.t 58) (.v (.int .i64 1))), none⟩,
  ⟨(some 8), (.mv (.t 59)), none⟩]
def q_law10_SlotmapDoes_L26 : ACode := (.seq (.seq (.region q_law10_SlotmapDoes_10) (.cond (.t 57) .skip (.exit 0))) (.seq (.block 1 (.seq (.region q_law10_SlotmapDoes_11) (.seq (.region q_law10_SlotmapDoes_12) (.seq (.seq (.region q_law10_SlotmapDoes_13) (.cond (.t 68) (.seq (.regionD q_law10_SlotmapDoes_14) (.seq (.seq (.regionD q_law10_SlotmapDoes_15) (.cond (.t 97) (.seq (.region q_law10_SlotmapDoes_16) .ret) .skip)) (.region q_law10_SlotmapDoes_17))) (.seq (.region q_law10_SlotmapDoes_18) (.seq (.region q_law10_SlotmapDoes_19) (.seq (.seq (.region q_law10_SlotmapDoes_20) (.cond (.t 128) (.seq (.region q_law10_SlotmapDoes_21) .ret) .skip)) (.region q_law10_SlotmapDoes_22)))))) (.seq (.region q_law10_SlotmapDoes_23) (.cond (.t 143) (.seq (.region q_law10_SlotmapDoes_24) .ret) .skip)))))) (.region q_law10_SlotmapDoes_25)))
def q_law10_SlotmapDoes_26 : List AOper := [
  ⟨(some 144), (.call F_law10_works []), none⟩,
  ⟨(some 4), (.mv (.t 144)), none⟩]
def a_law10_SlotmapDoes : AFunc := ⟨[(.tmp 4)], (.seq (.region q_law10_SlotmapDoes_0) (.seq (.seq (.region q_law10_SlotmapDoes_1) (.cond (.t 24) (.seq (.region q_law10_SlotmapDoes_2) .ret) .skip)) (.seq (.region q_law10_SlotmapDoes_3) (.seq (.seq (.region q_law10_SlotmapDoes_4) (.cond (.t 36) (.seq (.region q_law10_SlotmapDoes_5) .ret) .skip)) (.seq (.seq (.region q_law10_SlotmapDoes_6) (.cond (.t 51) (.seq (.region q_law10_SlotmapDoes_7) .ret) .skip)) (.seq (.region q_law10_SlotmapDoes_8) (.seq (.seq (.region q_law10_SlotmapDoes_9) (.block 0 (.loop q_law10_SlotmapDoes_L26))) (.seq (.region q_law10_SlotmapDoes_26) .ret))))))))⟩

def q_law10_SlotmapBack_0 : List AOper := [
  ⟨(some 4), (.box 54 (.ia .u8 256) (.t 1)), none⟩,
  ⟨(some 6), (.mv (.v (.bool false))), none⟩]
def q_law10_SlotmapBack_1 : List AOper := [
  ⟨(some 16), (.mv (.t 0)), none⟩,
  ⟨(some 17), (.len false (.t 16)), none⟩,
  ⟨(some 18), (.bin .lss (.t 17) (.v (.int .i64 1))), none⟩,
  ⟨(some 19), (.mv (.t 18)), none⟩,
  ⟨(some 20), (.mv (.t 0)), (some (19, false))⟩,
  ⟨(some 21), (.len false (.t 20)), (some (19, false))⟩,
  ⟨(some 22), (.bin .gtr (.t 21) (.v (.int .i64 200))), (some (19, false))⟩,
  ⟨(some 23), (.pick (.t 19) (.v (.bool true)) (.t 22)), none⟩,
  ⟨(some 24), (.mv (.t 23)), none⟩,
  ⟨(some 25), (.mv (.t 2)), (some (24, false))⟩,
  ⟨(some 26), (.bin .gtr (.t 25) (.v (.int .i64 250))), (some (24, false))⟩,
  ⟨(some 27), (.pick (.t 24) (.v (.bool true)) (.t 26)), none⟩]
def q_law10_SlotmapBack_2 : List AOper := [
  ⟨(some 28), (.call F_law10_works []), none⟩,
  ⟨(some 6), (.mv (.t 28)), none⟩]
def q_law10_SlotmapBack_3 : List AOper := [
  ⟨(some 30), (.mv (.t 0)), none⟩,
  ⟨(some 31), (.len false (.t 30)), none⟩,
  ⟨(some 32), (.call F_slotmap_New [(.sc, (.t 31))]), none⟩,
  ⟨(some 29), (.mv (.t 32)), none⟩,
  ⟨(some 33), (.ext 0 (.t 29)), none⟩,
  ⟨(some 34), (.ext 1 (.t 29)), none⟩,
  ⟨(some 7), (.mv (.t 33)), none⟩,
  ⟨(some 8), (.mv (.t 34)), none⟩]
def q_law10_SlotmapBack_4 : List AOper := [
  ⟨(some 35), (.mv (.t 7)), none⟩,
  ⟨(some 36), (.xx (.p (.isNil .ptr false)) [(.t 35)]), none⟩,
  ⟨(some 37), (.mv (.t 36)), none⟩,
  ⟨(some 38), (.mv (.t 8)), (some (37, false))⟩,
  ⟨(some 39), (.eq .scI true (.t 38) (.v (.int .i64 0))), (some (37, false))⟩,
  ⟨(some 40), (.pick (.t 37) (.v (.bool true)) (.t 39)), none⟩]
def q_law10_SlotmapBack_5 : List AOper := [
  ⟨(some 6), (.mv (.v (.bool false))), none⟩]
def q_law10_SlotmapBack_6 : List AOper := [
  ⟨(some 9), (.mv (.v .nilS)), none⟩]
def q_law10_SlotmapBack_7 : List AOper := [
  ⟨(some 10), (.mv (.v (.int .i64 0))), none⟩]
def q_law10_SlotmapBack_8 : List AOper := [
  ⟨(some 41), (.mv (.t 10)), none⟩,
  ⟨(some 42), (.mv (.t 0)), none⟩,
  ⟨(some 43), (.len false (.t 42)), none⟩,
  ⟨(some 44), (.bin .lss (.t 41) (.t 43)), none⟩]
def q_law10_SlotmapBack_9 : List AOper := [
  ⟨(some 47), (.mv (.t 7)), none⟩,
  ⟨(some 48), (.mv (.t 10)), none⟩,
  ⟨(some 49), (.mv (.t 0)), none⟩,
  ⟨(some 50), (.mv (.t 10)), none⟩,
  ⟨(some 51), (.idx 1 (.t 49) (.t 50)), none⟩,
  ⟨(some 52), (.load .sc 1 (.t 51)), none⟩,
  ⟨(some 53), (.conv .i64 (.t 52)), none⟩,
  ⟨(some 54), (.bin .rem (.t 53) (.v (.int .i64 3))), none⟩,
  ⟨(some 55), (.call F_Pslotmap_Map_Set [(.sc, (.t 47)), (.sc, (.t 48)), (.sc, (.t 54))]), none⟩]
def q_law10_SlotmapBack_10 : List AOper := [
  ⟨(some 56), (.mv (.t 9)), none⟩,
  ⟨(some 57), (.mv (.t 0)), none⟩,
  ⟨(some 58), (.mv (.t 10)), none⟩,
  ⟨(some 59), (.idx 1 (.t 57) (.t 58)), none⟩,
  ⟨(some 60), (.load .sc 1 (.t 59)), none⟩,
  ⟨(some 61), (.conv .i64 (.t 60)), none⟩,
  ⟨(some 62), (.bin .rem (.t 61) (.v (.int .i64 3))), none⟩,
  ⟨(some 63), (.bslI 3 .i64 [(.t 62)]), none⟩,
  ⟨(some 64), (.appI 3 .i64 8 (.t 56) (.t 63)), none⟩,
  ⟨(some 9), (.mv (.t 64)), none⟩]
def q_law10_SlotmapBack_11 : List AOper := [
  ⟨(some 45), (.mv (.t 10)), none⟩,
  ⟨(some 46), (.bin .add (.t 45) (.v (.int .i64 1))), none⟩,
  ⟨(some 10), (.mv (.t 46)), none⟩]
def q_law10_SlotmapBack_L12 : ACode := (.seq (.seq (.region q_law10_SlotmapBack_8) (.cond (.t 44) .skip (.exit 0))) (.seq (.block 1 (.seq (.region q_law10_SlotmapBack_9) (.region q_law10_SlotmapBack_10))) (.region q_law10_SlotmapBack_11)))
def q_law10_SlotmapBack_12 : List AOper := [
  ⟨(some 65), (.mv (.t 7)), none⟩,
  ⟨(some 66), (.call F_Pslotmap_Map_Put [(.sc, (.t 65))]), none⟩,
  ⟨(some 11), (.alloc 54 [(.iarr .u8 256 (List.replicate 256 0))]), none⟩,
  ⟨none, (.store (.ia .u8 256) 256 (.t 11) (.t 66)), none⟩]
def q_law10_SlotmapBack_13 : List AOper := [
  ⟨(some 68), (.mv (.t 0)), none⟩,
  ⟨(some 69), (.len false (.t 68)), none⟩,
  ⟨(some 70), (.load (.ia .u8 256) 256 (.t 11)), none⟩,
  ⟨(some 71), (.call F_slotmap_Read [(.sc, (.t 69)), ((.ia .u8 256), (.t 70))]), none⟩,
  ⟨(some 67), (.mv (.t 71)), none⟩,
  ⟨(some 72), (.ext 0 (.t 67)), none⟩,
  ⟨(some 73), (.ext 1 (.t 67)), none⟩,
  ⟨(some 12), (.mv (.t 72)), none⟩,
  ⟨(some 13), (.mv (.t 73)), none⟩]
def q_law10_SlotmapBack_14 : List DOp := [
  ⟨⟨(some 74), (.load (.ia .u8 256) 256 (.t 11)), none⟩, true, false, none, []⟩,
  ⟨⟨(some 75), (.mv (.t 9)), none⟩, true, false, none, []⟩,
  ⟨⟨(some 76), (.call F_ref10_Put [(.sc, (.t 75))]), none⟩, false, true, (some [11]), []⟩,
  ⟨⟨(some 77), (.eq (.ia 256) true (.t 74) (.t 76)), none⟩, true, false, none, []⟩,
  ⟨⟨(some 78), (.mv (.t 77)), none⟩, true, false, none, []⟩,
  ⟨⟨(some 79), (.mv (.t 13)), (some (78, false))⟩, true, false, none, []⟩,
  ⟨⟨(some 80), (.eq .scI true (.t 79) (.v (.int .i64 0))), (some (78, false))⟩, true, false, none, []⟩,
  ⟨⟨(some 81), (.pick (.t 78) (.v (.bool true)) (.t 80)), none⟩, true, false, none, []⟩,
  ⟨⟨(some 82), (.mv (.t 81)), none⟩, true, false, none, []⟩,
  ⟨⟨(some 83), (.mv (.t 12)), (some (82, false))⟩, true, false, none, []⟩,
  ⟨⟨(some 84), (.xx (.p (.isNil .ptr false)) [(.t 83)]), (some (82, false))⟩, true, false, none, []⟩,
  ⟨⟨(some 85), (.pick (.t 82) (.v (.bool true)) (.t 84)), none⟩, true, false, none, []⟩,
  ⟨⟨(some 86), (.mv (.t 85)), none⟩, true, false, none, []⟩,
  ⟨⟨(some 87), (.mv (.t 12)), (some (86, false))⟩, true, false, none, []⟩,
  ⟨⟨(some 88), (.mv (.t 9)), (some (86, false))⟩, true, false, none, []⟩,
  ⟨⟨(some 89), (.call F_law10_same [(.sc, (.t 87)), (.sc, (.t 88))]), (some (86, false))⟩, false, false, none, []⟩,
  ⟨⟨(some 90), (.un .not (.t 89)), (some (86, false))⟩, true, false, none, []⟩,
  ⟨⟨(some 91), (.pick (.t 86) (.v (.bool true)) (.t 90)), none⟩, true, false, none, []⟩]
def q_law10_SlotmapBack_15 : List AOper := [
  ⟨(some 6), (.mv (.v (.bool false))), none⟩]
def q_law10_SlotmapBack_16 : List AOper := [
  ⟨(some 93), (.mv (.t 2)), none⟩,
  ⟨(some 94), (.load (.ia .u8 256) 256 (.t 4)), none⟩,
  ⟨(some 95), (.call F_slotmap_Read [(.sc, (.t 93)), ((.ia .u8 256), (.t 94))]), none⟩,
  ⟨(some 92), (.mv (.t 95)), none⟩,
  ⟨(some 96), (.ext 0 (.t 92)), none⟩,
  ⟨(some 97), (.ext 1 (.t 92)), none⟩,
  ⟨(some 14), (.mv (.t 96)), none⟩,
  ⟨(some 15), (.mv (.t 97)), none⟩]
def q_law10_SlotmapBack_17 : List AOper := [
  ⟨(some 98), (.mv (.t 2)), none⟩,
  ⟨(some 99), (.bin .lss (.t 98) (.v (.int .i64 1))), none⟩,
  ⟨(some 100), (.mv (.t 99)), none⟩,
  ⟨(some 101), (.mv (.t 2)), (some (100, false))⟩,
  ⟨(some 102), (.bin .gtr (.t 101) (.v (.int .i64 200))), (some (100, false))⟩,
  ⟨(some 103), (.pick (.t 100) (.v (.bool true)) (.t 102)), none⟩]
def q_law10_SlotmapBack_18 : List AOper := [
  ⟨(some 104), (.mv (.t 15)), none⟩,
  ⟨(some 105), (.eq .scI false (.t 104) (.v (.int .i64 2))), none⟩,
  ⟨(some 106), (.mv (.t 105)), none⟩,
  ⟨(some 107), (.mv (.t 14)), (some (106, true))⟩,
  ⟨(some 108), (.xx (.p (.isNil .ptr false)) [(.t 107)]), (some (106, true))⟩,
  ⟨(some 109), (.pick (.t 106) (.t 108) (.v (.bool false))), none⟩,
  ⟨(some 110), (.mv (.t 109)), none⟩,
  ⟨(some 111), (.call F_law10_works []), (some (110, true))⟩,
  ⟨(some 112), (.pick (.t 110) (.t 111) (.v (.bool false))), none⟩,
  ⟨(some 6), (.mv (.t 112)), none⟩]
def q_law10_SlotmapBack_19 : List AOper := [
  ⟨(some 113), (.mv (.t 15)), none⟩,
  ⟨(some 114), (.eq .scI true (.t 113) (.v (.int .i64 0))), none⟩]
def q_law10_SlotmapBack_20 : List AOper := [
  ⟨(some 115), (.mv (.t 15)), none⟩,
  ⟨(some 116), (.eq .scI false (.t 115) (.v (.int .i64 5))), none⟩,
  ⟨(some 117), (.mv (.t 116)), none⟩,
  ⟨(some 118), (.mv (.t 14)), (some (117, true))⟩,
  ⟨(some 119), (.xx (.p (.isNil .ptr false)) [(.t 118)]), (some (117, true))⟩,
  ⟨(some 120), (.pick (.t 117) (.t 119) (.v (.bool false))), none⟩,
  ⟨(some 121), (.mv (.t 120)), none⟩,
  ⟨(some 122), (.call F_law10_works []), (some (121, true))⟩,
  ⟨(some 123), (.pick (.t 121) (.t 122) (.v (.bool false))), none⟩,
  ⟨(some 6), (.mv (.t 123)), none⟩]
def q_law10_SlotmapBack_21 : List DOp := [
  ⟨⟨(some 124), (.mv (.t 14)), none⟩, true, false, none, []⟩,
  ⟨⟨(some 125), (.xx (.p (.isNil .ptr true)) [(.t 124)]), none⟩, true, false, none, []⟩,
  ⟨⟨(some 126), (.mv (.t 125)), none⟩, true, false, none, []⟩,
  ⟨⟨(some 127), (.mv (.t 14)), (some (126, true))⟩, true, false, none, []⟩,
  ⟨⟨(some 129), (.mv (.t 2)), (some (126, true))⟩, true, false, none, []⟩,
  ⟨⟨(some 128), (.call F_Pslotmap_Map_Len [(.sc, (.t 127))]), (some (126, true))⟩, false, false, none, []⟩,
  ⟨⟨(some 130), (.eq .scI false (.t 128) (.t 129)), (some (126, true))⟩, true, false, none, []⟩,
  ⟨⟨(some 131), (.pick (.t 126) (.t 130) (.v (.bool false))), none⟩, true, false, none, []⟩,
  ⟨⟨(some 132), (.mv (.t 131)), none⟩, true, false, none, []⟩,
  ⟨⟨(some 133), (.mv (.t 14)), (some (132, true))⟩, true, false, none, []⟩,
  ⟨⟨(some 135), (.load (.ia .u8 256) 256 (.t 4)), (some (132, true))⟩, true, false, none, []⟩,
  ⟨⟨(some 134), (.call F_Pslotmap_Map_Put [(.sc, (.t 133))]), (some (132, true))⟩, false, true, (some [4]), []⟩,
  ⟨⟨(some 136), (.eq (.ia 256) false (.t 134) (.t 135)), (some (132, true))⟩, true, false, none, []⟩,
  ⟨⟨(some 137), (.pick (.t 132) (.t 136) (.v (.bool false))), none⟩, true, false, none, []⟩,
  ⟨⟨(some 138), (.mv (.t 137)), none⟩, true, false, none, []⟩,
  ⟨⟨(some 139), (.call F_law10_works []), (some (138, true))⟩, false, false, none, []⟩,
  ⟨⟨(some 140), (.pick (.t 138) (.t 139) (.v (.bool false))), none⟩, true, false, none, []⟩,
  ⟨⟨(some 6), (.mv (.t 140)), none⟩, true, false, none, []⟩]
def a_law10_SlotmapBack : AFunc := ⟨[(.tmp 6)], (.seq (.region q_law10_SlotmapBack_0) (.seq (.seq (.region q_law10_SlotmapBack_1) (.cond (.t 27) (.seq (.region q_law10_SlotmapBack_2) .ret) .skip)) (.seq (.region q_law10_SlotmapBack_3) (.seq (.seq (.region q_law10_SlotmapBack_4) (.cond (.t 40) (.seq (.region q_law10_SlotmapBack_5) .ret) .skip)) (.seq (.region q_law10_SlotmapBack_6) (.seq (.seq (.region q_law10_SlotmapBack_7) (.block 0 (.loop q_law10_SlotmapBack_L12))) (.seq (.region q_law10_SlotmapBack_12) (.seq (.region q_law10_SlotmapBack_13) (.seq (.seq (.regionD q_law10_SlotmapBack_14) (.cond (.t 91) (.seq (.region q_law10_SlotmapBack_15) .ret) .skip)) (.seq (.region q_law10_SlotmapBack_16) (.seq (.seq (.region q_law10_SlotmapBack_17) (.cond (.t 103) (.seq (.region q_law10_SlotmapBack_18) .ret) .skip)) (.seq (.seq (.region q_law10_SlotmapBack_19) (.cond (.t 114) (.seq (.region q_law10_SlotmapBack_20) .ret) .skip)) (.seq (.regionD q_law10_SlotmapBack_21) .ret)))))))))))))⟩

def q_law10_SlotmapParts_0 : List AOper := [
  ⟨(some 4), (.mv (.v (.bool false))), none⟩]
def q_law10_SlotmapParts_1 : List AOper := [
  ⟨(some 14), (.mv (.t 0)), none⟩,
  ⟨(some 15), (.len false (.t 14)), none⟩,
  ⟨(some 16), (.bin .lss (.t 15) (.v (.int .i64 1))), none⟩,
  ⟨(some 17), (.mv (.t 16)), none⟩,
  ⟨(some 18), (.mv (.t 0)), (some (17, false))⟩,
  ⟨(some 19), (.len false (.t 18)), (some (17, false))⟩,
  ⟨(some 20), (.bin .gtr (.t 19) (.v (.int .i64 200))), (some (17, false))⟩,
  ⟨(some 21), (.pick (.t 17) (.v (.bool true)) (.t 20)), none⟩]
def q_law10_SlotmapParts_2 : List AOper := [
  ⟨(some 22), (.call F_law10_works []), none⟩,
  ⟨(some 4), (.mv (.t 22)), none⟩]
def q_law10_SlotmapParts_3 : List AOper := [
  ⟨(some 24), (.mv (.t 0)), none⟩,
  ⟨(some 25), (.len false (.t 24)), none⟩,
  ⟨(some 26), (.call F_slotmap_New [(.sc, (.t 25))]), none⟩,
  ⟨(some 23), (.mv (.t 26)), none⟩,
  ⟨(some 27), (.ext 0 (.t 23)), none⟩,
  ⟨(some 28), (.ext 1 (.t 23)), none⟩,
  ⟨(some 5), (.mv (.t 27)), none⟩,
  ⟨(some 6), (.mv (.t 28)), none⟩]
def q_law10_SlotmapParts_4 : List AOper := [
  ⟨(some 29), (.mv (.t 5)), none⟩,
  ⟨(some 30), (.xx (.p (.isNil .ptr false)) [(.t 29)]), none⟩,
  ⟨(some 31), (.mv (.t 30)), none⟩,
  ⟨(some 32), (.mv (.t 6)), (some (31, false))⟩,
  ⟨(some 33), (.eq .scI true (.t 32) (.v (.int .i64 0))), (some (31, false))⟩,
  ⟨(some 34), (.pick (.t 31) (.v (.bool true)) (.t 33)), none⟩]
def q_law10_SlotmapParts_5 : List AOper := [
  ⟨(some 4), (.mv (.v (.bool false))), none⟩]
def q_law10_SlotmapParts_6 : List AOper := [
  ⟨(some 7), (.mv (.v .nilS)), none⟩]
def q_law10_SlotmapParts_7 : List AOper := [
  ⟨(some 8), (.mv (.v (.int .i64 0))), none⟩]
def q_law10_SlotmapParts_8 : List AOper := [
  ⟨(some 35), (.mv (.t 8)), none⟩,
  ⟨(some 36), (.mv (.t 0)), none⟩,
  ⟨(some 37), (.len false (.t 36)), none⟩,
  ⟨(some 38), (.bin .lss (.t 35) (.t 37)), none⟩]
def q_law10_SlotmapParts_9 : List AOper := [
  ⟨(some 41), (.mv (.t 5)), none⟩,
  ⟨(some 42), (.mv (.t 8)), none⟩,
  ⟨(some 43), (.mv (.t 0)), none⟩,
  ⟨(some 44), (.mv (.t 8)), none⟩,
  ⟨(some 45), (.idx 1 (.t 43) (.t 44)), none⟩,
  ⟨(some 46), (.load .sc 1 (.t 45)), none⟩,
  ⟨(some 47), (.conv .i64 (.t 46)), none⟩,
  ⟨(some 48), (.bin .rem (.t 47) (.v (.int .i64 3))), none⟩,
  ⟨(some 49), (.call F_Pslotmap_Map_Set [(.sc, (.t 41)), (.sc, (.t 42)), (.sc, (.t 48))]), none⟩]
def q_law10_SlotmapParts_10 : List AOper := [
  ⟨(some 50), (.mv (.t 7)), none⟩,
  ⟨(some 51), (.mv (.t 0)), none⟩,
  ⟨(some 52), (.mv (.t 8)), none⟩,
  ⟨(some 53), (.idx 1 (.t 51) (.t 52)), none⟩,
  ⟨(some 54), (.load .sc 1 (.t 53)), none⟩,
  ⟨(some 55), (.conv .i64 (.t 54)), none⟩,
  ⟨(some 56), (.bin .rem (.t 55) (.v (.int .i64 3))), none⟩,
  ⟨(some 57), (.bslI 3 .i64 [(.t 56)]), none⟩,
  ⟨(some 58), (.appI 3 .i64 8 (.t 50) (.t 57)), none⟩,
  ⟨(some 7), (.mv (.t 58)), none⟩]
def q_law10_SlotmapParts_11 : List AOper := [
  ⟨(some 39), (.mv (.t 8)), none⟩,
  ⟨(some 40), (.bin .add (.t 39) (.v (.int .i64 1))), none⟩,
  ⟨(some 8), (.mv (.t 40)), none⟩]
def q_law10_SlotmapParts_L12 : ACode := (.seq (.seq (.region q_law10_SlotmapParts_8) (.cond (.t 38) .skip (.exit 0))) (.seq (.block 1 (.seq (.region q_law10_SlotmapParts_9) (.region q_law10_SlotmapParts_10))) (.region q_law10_SlotmapParts_11)))
def q_law10_SlotmapParts_12 : List AOper := [
  ⟨(some 59), (.mv (.t 5)), none⟩,
  ⟨(some 60), (.call F_Pslotmap_Map_Count [(.sc, (.t 59)), (.sc, (.v (.int .i64 0)))]), none⟩,
  ⟨(some 61), (.mv (.t 5)), none⟩,
  ⟨(some 62), (.call F_Pslotmap_Map_Count [(.sc, (.t 61)), (.sc, (.v (.int .i64 1)))]), none⟩,
  ⟨(some 63), (.bin .add (.t 60) (.t 62)), none⟩,
  ⟨(some 64), (.mv (.t 5)), none⟩,
  ⟨(some 65), (.call F_Pslotmap_Map_Count [(.sc, (.t 64)), (.sc, (.v (.int .i64 2)))]), none⟩,
  ⟨(some 66), (.bin .add (.t 63) (.t 65)), none⟩,
  ⟨(some 67), (.mv (.t 0)), none⟩,
  ⟨(some 68), (.len false (.t 67)), none⟩,
  ⟨(some 69), (.eq .scI true (.t 66) (.t 68)), none⟩,
  ⟨(some 70), (.mv (.t 69)), none⟩,
  ⟨(some 71), (.mv (.t 5)), (some (70, false))⟩,
  ⟨(some 72), (.call F_Pslotmap_Map_Count [(.sc, (.t 71)), (.sc, (.v (.int .i64 3)))]), (some (70, false))⟩,
  ⟨(some 73), (.eq .scI true (.t 72) (.v (.int .i64 0))), (some (70, false))⟩,
  ⟨(some 74), (.pick (.t 70) (.v (.bool true)) (.t 73)), none⟩,
  ⟨(some 75), (.mv (.t 74)), none⟩,
  ⟨(some 76), (.mv (.t 5)), (some (75, false))⟩,
  ⟨(some 77), (.call F_Pslotmap_Map_First [(.sc, (.t 76)), (.sc, (.v (.int .i64 (-1))))]), (some (75, false))⟩,
  ⟨(some 78), (.eq .scI true (.t 77) (.v (.int .i64 (-1)))), (some (75, false))⟩,
  ⟨(some 79), (.pick (.t 75) (.v (.bool true)) (.t 78)), none⟩]
def q_law10_SlotmapParts_13 : List AOper := [
  ⟨(some 4), (.mv (.v (.bool false))), none⟩]
def q_law10_SlotmapParts_14 : List AOper := [
  ⟨(some 81), (.mv (.t 5)), none⟩,
  ⟨(some 82), (.mv (.t 1)), none⟩,
  ⟨(some 83), (.call F_Pslotmap_Map_Take [(.sc, (.t 81)), (.sc, (.t 82))]), none⟩,
  ⟨(some 80), (.mv (.t 83)), none⟩,
  ⟨(some 84), (.ext 0 (.t 80)), none⟩,
  ⟨(some 85), (.ext 1 (.t 80)), none⟩,
  ⟨(some 9), (.mv (.t 84)), none⟩,
  ⟨(some 10), (.mv (.t 85)), none⟩]
def q_law10_SlotmapParts_15 : List AOper := [
  ⟨(some 86), (.mv (.t 10)), none⟩,
  ⟨(some 87), (.eq .scI true (.t 86) (.v (.int .i64 0))), none⟩]
def q_law10_SlotmapParts_16 : List AOper := [
  ⟨(some 88), (.mv (.t 9)), none⟩,
  ⟨(some 89), (.len false (.t 88)), none⟩,
  ⟨(some 90), (.eq .scI false (.t 89) (.v (.int .i64 0))), none⟩,
  ⟨(some 91), (.mv (.t 90)), none⟩,
  ⟨(some 92), (.mv (.t 5)), (some (91, true))⟩,
  ⟨(some 93), (.mv (.t 7)), (some (91, true))⟩,
  ⟨(some 94), (.call F_law10_same [(.sc, (.t 92)), (.sc, (.t 93))]), (some (91, true))⟩,
  ⟨(some 95), (.pick (.t 91) (.t 94) (.v (.bool false))), none⟩,
  ⟨(some 96), (.mv (.t 95)), none⟩,
  ⟨(some 97), (.call F_law10_works []), (some (96, true))⟩,
  ⟨(some 98), (.pick (.t 96) (.t 97) (.v (.bool false))), none⟩,
  ⟨(some 4), (.mv (.t 98)), none⟩]
def q_law10_SlotmapParts_17 : List AOper := [
  ⟨(some 11), (.mv (.v (.int .i64 0))), none⟩]
def q_law10_SlotmapParts_18 : List AOper := [
  ⟨(some 12), (.mv (.v (.int .i64 0))), none⟩]
def q_law10_SlotmapParts_19 : List AOper := [
  ⟨(some 99), (.mv (.t 12)), none⟩,
  ⟨(some 100), (.mv (.t 7)), none⟩,
  ⟨(some 101), (.len false (.t 100)), none⟩,
  ⟨(some 102), (.bin .lss (.t 99) (.t 101)), none⟩]
def q_law10_SlotmapParts_20 : List AOper := [
  ⟨(some 105), (.mv (.t 7)), none⟩,
  ⟨(some 106), (.mv (.t 12)), none⟩,
  ⟨(some 107), (.idx 1 (.t 105) (.t 106)), none⟩,
  ⟨(some 108), (.load .sc 1 (.t 107)), none⟩,
  ⟨(some 109), (.eq .scI false (.t 108) (.v (.int .i64 0))), none⟩,
  ⟨(some 110), (.mv (.t 109)), none⟩,
  ⟨(some 111), (.mv (.t 11)), (some (110, true))⟩,
  ⟨(some 112), (.mv (.t 9)), (some (110, true))⟩,
  ⟨(some 113), (.len false (.t 112)), (some (110, true))⟩,
  ⟨(some 114), (.bin .lss (.t 111) (.t 113)), (some (110, true))⟩,
  ⟨(some 115), (.pick (.t 110) (.t 114) (.v (.bool false))), none⟩,
  ⟨(some 13), (.mv (.t 115)), none⟩]
def q_law10_SlotmapParts_21 : List AOper := [
  ⟨(some 116), (.mv (.t 13)), none⟩,
  ⟨(some 117), (.mv (.t 116)), none⟩,
  ⟨(some 118), (.mv (.t 9)), (some (117, true))⟩,
  ⟨(some 119), (.mv (.t 11)), (some (117, true))⟩,
  ⟨(some 120), (.idx 1 (.t 118) (.t 119)), (some (117, true))⟩,
  ⟨(some 121), (.load .sc 1 (.t 120)), (some (117, true))⟩,
  ⟨(some 122), (.mv (.t 12)), (some (117, true))⟩,
  ⟨(some 123), (.eq .scI true (.t 121) (.t 122)), (some (117, true))⟩,
  ⟨(some 124), (.pick (.t 117) (.t 123) (.v (.bool false))), none⟩]
def q_law10_SlotmapParts_22 : List AOper := [
  ⟨(some 4), (.mv (.v (.bool false))), none⟩]
def q_law10_SlotmapParts_23 : List AOper := [
  ⟨(some 125), (.mv (.t 13)), none⟩]
def q_law10_SlotmapParts_24 : List AOper := [
  ⟨(some 126), (.mv (.t 11)), none⟩,
  ⟨(some 127), (.bin .add (.t 126) (.v (.int .i64 1))), none⟩,
  ⟨(some 11), (.mv (.t 127)), none⟩]
def q_law10_SlotmapParts_25 : List DOp := [
  ⟨⟨(some 128), (.mv (.t 13)), none⟩, true, false, none, []⟩,
  ⟨⟨(some 129), (.mv (.t 128)), none⟩, true, false, none, []⟩,
  ⟨⟨(some 130), (.mv (.t 5)), (some (129, true))⟩, true, false, none, []⟩,
  ⟨⟨(some 131), (.mv (.t 12)), (some (129, true))⟩, true, false, none, []⟩,
  ⟨⟨(some 132), (.call F_Pslotmap_Map_Get [(.sc, (.t 130)), (.sc, (.t 131))]), (some (129, true))⟩, false, false, none, []⟩,
  ⟨⟨(some 133), (.eq .scI true (.t 132) (.v (.int .i64 1))), (some (129, true))⟩, true, false, none, []⟩,
  ⟨⟨(some 134), (.pick (.t 129) (.t 133) (.v (.bool false))), none⟩, true, false, none, []⟩,
  ⟨⟨(some 135), (.mv (.t 134)), none⟩, true, false, none, []⟩,
  ⟨⟨(some 136), (.mv (.t 13)), (some (135, false))⟩, true, false, none, []⟩,
  ⟨⟨(some 137), (.un .not (.t 136)), (some (135, false))⟩, true, false, none, []⟩,
  ⟨⟨(some 138), (.mv (.t 137)), (some (135, false))⟩, true, false, none, []⟩,
  ⟨⟨(some 139), (.mv (.t 5)), (some (138, true))⟩, true, false, none, []⟩,
  ⟨⟨(some 140), (.mv (.t 12)), (some (138, true))⟩, true, false, none, []⟩,
  ⟨⟨(some 142), (.mv (.t 7)), (some (138, true))⟩, true, false, none, []⟩,
  ⟨⟨(some 143), (.mv (.t 12)), (some (138, true))⟩, true, false, none, []⟩,
  ⟨⟨(some 144), (.idx 1 (.t 142) (.t 143)), (some (138, true))⟩, true, false, none, []⟩,
  ⟨⟨(some 145), (.load .sc 1 (.t 144)), (some (138, true))⟩, true, false, none, []⟩,
  ⟨⟨(some 141), (.call F_Pslotmap_Map_Get [(.sc, (.t 139)), (.sc, (.t 140))]), (some (138, true))⟩, false, true, (some [144, 142]), []⟩,
  ⟨⟨(some 146), (.eq .scI true (.t 141) (.t 145)), (some (138, true))⟩, true, false, none, []⟩,
  ⟨⟨(some 147), (.pick (.t 138) (.t 146) (.v (.bool false))), (some (135, false))⟩, true, false, none, []⟩,
  ⟨⟨(some 148), (.pick (.t 135) (.v (.bool true)) (.t 147)), none⟩, true, false, none, []⟩]
def q_law10_SlotmapParts_26 : List AOper := [
  ⟨(some 4), (.mv (.v (.bool false))), none⟩]
def q_law10_SlotmapParts_27 : List AOper := [
  ⟨(some 103), (.mv (.t 12)), none⟩,
  ⟨(some 104), (.bin .add (.t 103) (.v (.int .i64 1))), none⟩,
  ⟨(some 12), (.mv (.t 104)), none⟩]
def q_law10_SlotmapParts_L28 : ACode := (.seq (.seq (.region q_law10_SlotmapParts_19) (.cond (.t 102) .skip (.exit 2))) (.seq (.block 3 (.seq (.region q_law10_SlotmapParts_20) (.seq (.seq (.region q_law10_SlotmapParts_21) (.cond (.t 124) (.seq (.region q_law10_SlotmapParts_22) .ret) .skip)) (.seq (.seq (.region q_law10_SlotmapParts_23) (.cond (.t 125) (.region q_law10_SlotmapParts_24) .skip)) (.seq (.regionD q_law10_SlotmapParts_25) (.cond (.t 148) (.seq (.region q_law10_SlotmapParts_26) .ret) .skip)))))) (.region q_law10_SlotmapParts_27)))
def q_law10_SlotmapParts_28 : List AOper := [
  ⟨(some 149), (.mv (.t 11)), none⟩,
  ⟨(some 150), (.mv (.t 9)), none⟩,
  ⟨(some 151), (.len false (.t 150)), none⟩,
  ⟨(some 152), (.eq .scI false (.t 149) (.t 151)), none⟩,
  ⟨(some 153), (.mv (.t 152)), none⟩,
  ⟨(some 154), (.mv (.t 9)), (some (153, true))⟩,
  ⟨(some 155), (.len false (.t 154)), (some (153, true))⟩,
  ⟨(some 156), (.mv (.t 1)), (some (153, true))⟩,
  ⟨(some 157), (.eq .scI false (.t 155) (.t 156)), (some (153, true))⟩,
  ⟨(some 158), (.pick (.t 153) (.t 157) (.v (.bool false))), none⟩,
  ⟨(some 159), (.mv (.t 158)), none⟩,
  ⟨(some 160), (.call F_law10_works []), (some (159, true))⟩,
  ⟨(some 161), (.pick (.t 159) (.t 160) (.v (.bool false))), none⟩,
  ⟨(some 4), (.mv (.t 161)), none⟩]
def a_law10_SlotmapParts : AFunc := ⟨[(.tmp 4)], (.seq (.region q_law10_SlotmapParts_0) (.seq (.seq (.region q_law10_SlotmapParts_1) (.cond (.t 21) (.seq (.region q_law10_SlotmapParts_2) .ret) .skip)) (.seq (.region q_law10_SlotmapParts_3) (.seq (.seq (.region q_law10_SlotmapParts_4) (.cond (.t 34) (.seq (.region q_law10_SlotmapParts_5) .ret) .skip)) (.seq (.region q_law10_SlotmapParts_6) (.seq (.seq (.region q_law10_SlotmapParts_7) (.block 0 (.loop q_law10_SlotmapParts_L12))) (.seq (.seq (.region q_law10_SlotmapParts_12) (.cond (.t 79) (.seq (.region q_law10_SlotmapParts_13) .ret) .skip)) (.seq (.region q_law10_SlotmapParts_14) (.seq (.seq (.region q_law10_SlotmapParts_15) (.cond (.t 87) (.seq (.region q_law10_SlotmapParts_16) .ret) .skip)) (.seq (.region q_law10_SlotmapParts_17) (.seq (.seq (.region q_law10_SlotmapParts_18) (.block 2 (.loop q_law10_SlotmapParts_L28))) (.seq (.region q_law10_SlotmapParts_28) .ret))))))))))))⟩

def q_law10_works_0 : List AOper := [
  ⟨(some 0), (.mv (.v (.bool false))), none⟩]
def q_law10_works_1 : List AOper := [
  ⟨(some 17), (.call F_slotmap_New [(.sc, (.v (.int .i64 9)))]), none⟩,
  ⟨(some 16), (.mv (.t 17)), none⟩,
  ⟨(some 18), (.ext 0 (.t 16)), none⟩,
  ⟨(some 19), (.ext 1 (.t 16)), none⟩,
  ⟨(some 1), (.mv (.t 18)), none⟩,
  ⟨(some 2), (.mv (.t 19)), none⟩]
def q_law10_works_2 : List AOper := [
  ⟨(some 21), (.call F_slotmap_New [(.sc, (.v (.int .i64 0)))]), none⟩,
  ⟨(some 20), (.mv (.t 21)), none⟩,
  ⟨(some 22), (.ext 0 (.t 20)), none⟩,
  ⟨(some 23), (.ext 1 (.t 20)), none⟩,
  ⟨(some 3), (.mv (.t 22)), none⟩,
  ⟨(some 4), (.mv (.t 23)), none⟩]
def q_law10_works_3 : List AOper := [
  ⟨(some 24), (.mv (.t 1)), none⟩,
  ⟨(some 25), (.xx (.p (.isNil .ptr false)) [(.t 24)]), none⟩]
def q_law10_works_4 : List AOper := [
  ⟨(some 0), (.mv (.v (.bool false))), none⟩]
def q_law10_works_5 : List AOper := [
  ⟨(some 27), (.mv (.t 1)), none⟩,
  ⟨(some 28), (.call F_Pslotmap_Map_Take [(.sc, (.t 27)), (.sc, (.v (.int .i64 3)))]), none⟩,
  ⟨(some 26), (.mv (.t 28)), none⟩,
  ⟨(some 29), (.ext 0 (.t 26)), none⟩,
  ⟨(some 30), (.ext 1 (.t 26)), none⟩,
  ⟨(some 5), (.mv (.t 29)), none⟩,
  ⟨(some 6), (.mv (.t 30)), none⟩]
def q_law10_works_6 : List AOper := [
  ⟨(some 32), (.mv (.t 1)), none⟩,
  ⟨(some 33), (.call F_Pslotmap_Map_Take [(.sc, (.t 32)), (.sc, (.v (.int .i64 7)))]), none⟩,
  ⟨(some 31), (.mv (.t 33)), none⟩,
  ⟨(some 34), (.ext 0 (.t 31)), none⟩,
  ⟨(some 35), (.ext 1 (.t 31)), none⟩,
  ⟨(some 7), (.mv (.t 34)), none⟩,
  ⟨(some 8), (.mv (.t 35)), none⟩]
def q_law10_works_7 : List AOper := [
  ⟨(some 36), (.mv (.t 1)), none⟩,
  ⟨(some 37), (.call F_Pslotmap_Map_Set [(.sc, (.t 36)), (.sc, (.v (.int .i64 1))), (.sc, (.v (.int .i64 2)))]), none⟩,
  ⟨(some 9), (.mv (.t 37)), none⟩]
def q_law10_works_8 : List AOper := [
  ⟨(some 38), (.mv (.t 1)), none⟩,
  ⟨(some 39), (.call F_Pslotmap_Map_Set [(.sc, (.t 38)), (.sc, (.v (.int .i64 9))), (.sc, (.v (.int .i64 0)))]), none⟩,
  ⟨(some 10), (.mv (.t 39)), none⟩]
def q_law10_works_9 : List AOper := [
  ⟨(some 41), (.mv (.t 1)), none⟩,
  ⟨(some 42), (.call F_Pslotmap_Map_Put [(.sc, (.t 41))]), none⟩,
  ⟨(some 43), (.call F_slotmap_Read [(.sc, (.v (.int .i64 9))), ((.ia .u8 256), (.t 42))]), none⟩,
  ⟨(some 40), (.mv (.t 43)), none⟩,
  ⟨(some 44), (.ext 0 (.t 40)), none⟩,
  ⟨(some 45), (.ext 1 (.t 40)), none⟩,
  ⟨(some 11), (.mv (.t 44)), none⟩,
  ⟨(some 12), (.mv (.t 45)), none⟩]
def q_law10_works_10 : List AOper := [
  ⟨(some 47), (.build (.ia .u8 256) [(.iarr .u8 256 (List.replicate 256 0))] []), none⟩,
  ⟨(some 48), (.call F_slotmap_Read [(.sc, (.v (.int .i64 9))), ((.ia .u8 256), (.t 47))]), none⟩,
  ⟨(some 46), (.mv (.t 48)), none⟩,
  ⟨(some 49), (.ext 0 (.t 46)), none⟩,
  ⟨(some 50), (.ext 1 (.t 46)), none⟩,
  ⟨(some 13), (.mv (.t 49)), none⟩,
  ⟨(some 14), (.mv (.t 50)), none⟩]
def q_law10_works_11 : List AOper := [
  ⟨(some 51), (.mv (.t 11)), none⟩,
  ⟨(some 52), (.xx (.p (.isNil .ptr false)) [(.t 51)]), none⟩]
def q_law10_works_12 : List AOper := [
  ⟨(some 0), (.mv (.v (.bool false))), none⟩]
def q_law10_works_13 : List AOper := [
  ⟨(some 53), (.mv (.t 1)), none⟩,
  ⟨(some 54), (.call F_Pslotmap_Map_Copy [(.sc, (.t 53))]), none⟩,
  ⟨(some 15), (.mv (.t 54)), none⟩]
def q_law10_works_14 : List AOper := [
  ⟨(some 55), (.mv (.t 1)), none⟩,
  ⟨(some 56), (.call F_Pslotmap_Map_Set [(.sc, (.t 55)), (.sc, (.v (.int .i64 0))), (.sc, (.v (.int .i64 0)))]), none⟩]
def q_law10_works_15 : List AOper := [
  ⟨(some 57), (.mv (.t 2)), none⟩,
  ⟨(some 58), (.eq .scI false (.t 57) (.v (.int .i64 0))), none⟩,
  ⟨(some 59), (.mv (.t 58)), none⟩,
  ⟨(some 60), (.mv (.t 4)), (some (59, true))⟩,
  ⟨(some 61), (.eq .scI false (.t 60) (.v (.int .i64 2))), (some (59, true))⟩,
  ⟨(some 62), (.pick (.t 59) (.t 61) (.v (.bool false))), none⟩,
  ⟨(some 63), (.mv (.t 62)), none⟩,
  ⟨(some 64), (.mv (.t 6)), (some (63, true))⟩,
  ⟨(some 65), (.eq .scI false (.t 64) (.v (.int .i64 0))), (some (63, true))⟩,
  ⟨(some 66), (.pick (.t 63) (.t 65) (.v (.bool false))), none⟩,
  ⟨(some 67), (.mv (.t 66)), none⟩,
  ⟨(some 68), (.mv (.t 5)), (some (67, true))⟩,
  ⟨(some 69), (.len false (.t 68)), (some (67, true))⟩,
  ⟨(some 70), (.eq .scI false (.t 69) (.v (.int .i64 3))), (some (67, true))⟩,
  ⟨(some 71), (.pick (.t 67) (.t 70) (.v (.bool false))), none⟩,
  ⟨(some 72), (.mv (.t 71)), none⟩,
  ⟨(some 73), (.mv (.t 5)), (some (72, true))⟩,
  ⟨(some 74), (.idx 1 (.t 73) (.v (.int .i64 2))), (some (72, true))⟩,
  ⟨(some 75), (.load .sc 1 (.t 74)), (some (72, true))⟩,
  ⟨(some 76), (.eq .scI false (.t 75) (.v (.int .i64 2))), (some (72, true))⟩,
  ⟨(some 77), (.pick (.t 72) (.t 76) (.v (.bool false))), none⟩,
  ⟨(some 78), (.mv (.t 77)), none⟩,
  ⟨(some 79), (.mv (.t 8)), (some (78, true))⟩,
  ⟨(some 80), (.eq .scI false (.t 79) (.v (.int .i64 6))), (some (78, true))⟩,
  ⟨(some 81), (.pick (.t 78) (.t 80) (.v (.bool false))), none⟩,
  ⟨(some 82), (.mv (.t 81)), none⟩,
  ⟨(some 83), (.mv (.t 9)), (some (82, true))⟩,
  ⟨(some 84), (.eq .scI false (.t 83) (.v (.int .i64 0))), (some (82, true))⟩,
  ⟨(some 85), (.pick (.t 82) (.t 84) (.v (.bool false))), none⟩,
  ⟨(some 86), (.mv (.t 85)), none⟩,
  ⟨(some 87), (.mv (.t 10)), (some (86, true))⟩,
  ⟨(some 88), (.eq .scI false (.t 87) (.v (.int .i64 2))), (some (86, true))⟩,
  ⟨(some 89), (.pick (.t 86) (.t 88) (.v (.bool false))), none⟩,
  ⟨(some 90), (.mv (.t 89)), none⟩,
  ⟨(some 91), (.mv (.t 12)), (some (90, true))⟩,
  ⟨(some 92), (.eq .scI false (.t 91) (.v (.int .i64 0))), (some (90, true))⟩,
  ⟨(some 93), (.pick (.t 90) (.t 92) (.v (.bool false))), none⟩,
  ⟨(some 94), (.mv (.t 93)), none⟩,
  ⟨(some 95), (.mv (.t 11)), (some (94, true))⟩,
  ⟨(some 96), (.call F_Pslotmap_Map_Get [(.sc, (.t 95)), (.sc, (.v (.int .i64 1)))]), (some (94, true))⟩,
  ⟨(some 97), (.eq .scI false (.t 96) (.v (.int .i64 2))), (some (94, true))⟩,
  ⟨(some 98), (.pick (.t 94) (.t 97) (.v (.bool false))), none⟩,
  ⟨(some 99), (.mv (.t 98)), none⟩,
  ⟨(some 100), (.mv (.t 11)), (some (99, true))⟩,
  ⟨(some 101), (.call F_Pslotmap_Map_First [(.sc, (.t 100)), (.sc, (.v (.int .i64 0)))]), (some (99, true))⟩,
  ⟨(some 102), (.eq .scI false (.t 101) (.v (.int .i64 3))), (some (99, true))⟩,
  ⟨(some 103), (.pick (.t 99) (.t 102) (.v (.bool false))), none⟩,
  ⟨(some 104), (.mv (.t 103)), none⟩,
  ⟨(some 105), (.mv (.t 11)), (some (104, true))⟩,
  ⟨(some 106), (.call F_Pslotmap_Map_Last [(.sc, (.t 105)), (.sc, (.v (.int .i64 1)))]), (some (104, true))⟩,
  ⟨(some 107), (.eq .scI false (.t 106) (.v (.int .i64 2))), (some (104, true))⟩,
  ⟨(some 108), (.pick (.t 104) (.t 107) (.v (.bool false))), none⟩,
  ⟨(some 109), (.mv (.t 108)), none⟩,
  ⟨(some 110), (.mv (.t 11)), (some (109, true))⟩,
  ⟨(some 111), (.call F_Pslotmap_Map_Count [(.sc, (.t 110)), (.sc, (.v (.int .i64 1)))]), (some (109, true))⟩,
  ⟨(some 112), (.eq .scI false (.t 111) (.v (.int .i64 2))), (some (109, true))⟩,
  ⟨(some 113), (.pick (.t 109) (.t 112) (.v (.bool false))), none⟩,
  ⟨(some 114), (.mv (.t 113)), none⟩,
  ⟨(some 115), (.mv (.t 14)), (some (114, true))⟩,
  ⟨(some 116), (.eq .scI false (.t 115) (.v (.int .i64 5))), (some (114, true))⟩,
  ⟨(some 117), (.pick (.t 114) (.t 116) (.v (.bool false))), none⟩,
  ⟨(some 118), (.mv (.t 117)), none⟩,
  ⟨(some 119), (.mv (.t 15)), (some (118, true))⟩,
  ⟨(some 120), (.xx (.p (.isNil .ptr true)) [(.t 119)]), (some (118, true))⟩,
  ⟨(some 121), (.pick (.t 118) (.t 120) (.v (.bool false))), none⟩,
  ⟨(some 122), (.mv (.t 121)), none⟩,
  ⟨(some 123), (.mv (.t 15)), (some (122, true))⟩,
  ⟨(some 124), (.call F_Pslotmap_Map_Get [(.sc, (.t 123)), (.sc, (.v (.int .i64 0)))]), (some (122, true))⟩,
  ⟨(some 125), (.eq .scI false (.t 124) (.v (.int .i64 1))), (some (122, true))⟩,
  ⟨(some 126), (.pick (.t 122) (.t 125) (.v (.bool false))), none⟩,
  ⟨(some 127), (.mv (.t 126)), none⟩,
  ⟨(some 128), (.mv (.t 1)), (some (127, true))⟩,
  ⟨(some 129), (.call F_Pslotmap_Map_Get [(.sc, (.t 128)), (.sc, (.v (.int .i64 (-1))))]), (some (127, true))⟩,
  ⟨(some 130), (.eq .scI false (.t 129) (.v (.int .i64 (-1)))), (some (127, true))⟩,
  ⟨(some 131), (.pick (.t 127) (.t 130) (.v (.bool false))), none⟩,
  ⟨(some 132), (.mv (.t 131)), none⟩,
  ⟨(some 133), (.mv (.t 1)), (some (132, true))⟩,
  ⟨(some 134), (.call F_Pslotmap_Map_Len [(.sc, (.t 133))]), (some (132, true))⟩,
  ⟨(some 135), (.eq .scI false (.t 134) (.v (.int .i64 9))), (some (132, true))⟩,
  ⟨(some 136), (.pick (.t 132) (.t 135) (.v (.bool false))), none⟩,
  ⟨(some 0), (.mv (.t 136)), none⟩]
def a_law10_works : AFunc := ⟨[(.tmp 0)], (.seq (.region q_law10_works_0) (.seq (.region q_law10_works_1) (.seq (.region q_law10_works_2) (.seq (.seq (.region q_law10_works_3) (.cond (.t 25) (.seq (.region q_law10_works_4) .ret) .skip)) (.seq (.region q_law10_works_5) (.seq (.region q_law10_works_6) (.seq (.region q_law10_works_7) (.seq (.region q_law10_works_8) (.seq (.region q_law10_works_9) (.seq (.region q_law10_works_10) (.seq (.seq (.region q_law10_works_11) (.cond (.t 52) (.seq (.region q_law10_works_12) .ret) .skip)) (.seq (.region q_law10_works_13) (.seq (.region q_law10_works_14) (.seq (.region q_law10_works_15) .ret))))))))))))))⟩

def q_law10_ints_0 : List AOper := [
  ⟨(some 4), (.mv (.v (.bool false))), none⟩]
def q_law10_ints_1 : List AOper := [
  ⟨(some 6), (.mv (.t 0)), none⟩,
  ⟨(some 7), (.len false (.t 6)), none⟩,
  ⟨(some 8), (.mv (.t 1)), none⟩,
  ⟨(some 9), (.len false (.t 8)), none⟩,
  ⟨(some 10), (.eq .scI true (.t 7) (.t 9)), none⟩]
def q_law10_ints_2 : List AOper := [
  ⟨(some 4), (.mv (.v (.bool false))), none⟩]
def q_law10_ints_3 : List AOper := [
  ⟨(some 5), (.mv (.v (.int .i64 0))), none⟩]
def q_law10_ints_4 : List AOper := [
  ⟨(some 11), (.mv (.t 5)), none⟩,
  ⟨(some 12), (.mv (.t 0)), none⟩,
  ⟨(some 13), (.len false (.t 12)), none⟩,
  ⟨(some 14), (.bin .lss (.t 11) (.t 13)), none⟩]
def q_law10_ints_5 : List DOp := [
  ⟨⟨(some 17), (.mv (.t 0)), none⟩, true, false, none, []⟩,
  ⟨⟨(some 18), (.mv (.t 5)), none⟩, true, false, none, []⟩,
  ⟨⟨(some 19), (.idx 1 (.t 17) (.t 18)), none⟩, true, false, none, []⟩,
  ⟨⟨(some 20), (.load .sc 1 (.t 19)), none⟩, true, false, none, []⟩,
  ⟨⟨(some 21), (.mv (.t 1)), none⟩, true, false, none, []⟩,
  ⟨⟨(some 22), (.mv (.t 5)), none⟩, true, false, none, []⟩,
  ⟨⟨(some 23), (.idx 1 (.t 21) (.t 22)), none⟩, true, false, none, []⟩,
  ⟨⟨(some 24), (.load .sc 1 (.t 23)), none⟩, true, false, none, []⟩,
  ⟨⟨(some 25), (.eq .scI true (.t 20) (.t 24)), none⟩, true, false, none, []⟩]
def q_law10_ints_6 : List AOper := [
  ⟨(some 4), (.mv (.v (.bool false))), none⟩]
def q_law10_ints_7 : List AOper := [
  ⟨(some 15), (.mv (.t 5)), none⟩,
  ⟨(some 16), (.bin .add (.t 15) (.v (.int .i64 1))), none⟩,
  ⟨(some 5), (.mv (.t 16)), none⟩]
def q_law10_ints_L8 : ACode := (.seq (.seq (.region q_law10_ints_4) (.cond (.t 14) .skip (.exit 0))) (.seq (.block 1 (.seq (.regionD q_law10_ints_5) (.cond (.t 25) (.seq (.region q_law10_ints_6) .ret) .skip))) (.region q_law10_ints_7)))
def q_law10_ints_8 : List AOper := [
  ⟨(some 4), (.mv (.v (.bool true))), none⟩]
def a_law10_ints : AFunc := ⟨[(.tmp 4)], (.seq (.region q_law10_ints_0) (.seq (.seq (.region q_law10_ints_1) (.cond (.t 10) (.seq (.region q_law10_ints_2) .ret) .skip)) (.seq (.seq (.region q_law10_ints_3) (.block 0 (.loop q_law10_ints_L8))) (.seq (.region q_law10_ints_8) .ret))))⟩

def q_law10_same_0 : List AOper := [
  ⟨(some 4), (.mv (.v (.bool false))), none⟩]
def q_law10_same_1 : List AOper := [
  ⟨(some 11), (.mv (.t 0)), none⟩,
  ⟨(some 12), (.call F_Pslotmap_Map_Len [(.sc, (.t 11))]), none⟩,
  ⟨(some 13), (.mv (.t 1)), none⟩,
  ⟨(some 14), (.len false (.t 13)), none⟩,
  ⟨(some 15), (.eq .scI true (.t 12) (.t 14)), none⟩]
def q_law10_same_2 : List AOper := [
  ⟨(some 4), (.mv (.v (.bool false))), none⟩]
def q_law10_same_3 : List AOper := [
  ⟨(some 5), (.mv (.v (.int .i64 0))), none⟩]
def q_law10_same_4 : List AOper := [
  ⟨(some 16), (.mv (.t 5)), none⟩,
  ⟨(some 17), (.mv (.t 1)), none⟩,
  ⟨(some 18), (.len false (.t 17)), none⟩,
  ⟨(some 19), (.bin .lss (.t 16) (.t 18)), none⟩]
def q_law10_same_5 : List DOp := [
  ⟨⟨(some 22), (.mv (.t 0)), none⟩, true, false, none, []⟩,
  ⟨⟨(some 23), (.mv (.t 5)), none⟩, true, false, none, []⟩,
  ⟨⟨(some 25), (.mv (.t 1)), none⟩, true, false, none, []⟩,
  ⟨⟨(some 26), (.mv (.t 5)), none⟩, true, false, none, []⟩,
  ⟨⟨(some 27), (.idx 1 (.t 25) (.t 26)), none⟩, true, false, none, []⟩,
  ⟨⟨(some 28), (.load .sc 1 (.t 27)), none⟩, true, false, none, []⟩,
  ⟨⟨(some 24), (.call F_Pslotmap_Map_Get [(.sc, (.t 22)), (.sc, (.t 23))]), none⟩, false, true, (some [27, 25]), []⟩,
  ⟨⟨(some 29), (.eq .scI true (.t 24) (.t 28)), none⟩, true, false, none, []⟩]
def q_law10_same_6 : List AOper := [
  ⟨(some 4), (.mv (.v (.bool false))), none⟩]
def q_law10_same_7 : List AOper := [
  ⟨(some 20), (.mv (.t 5)), none⟩,
  ⟨(some 21), (.bin .add (.t 20) (.v (.int .i64 1))), none⟩,
  ⟨(some 5), (.mv (.t 21)), none⟩]
def q_law10_same_L8 : ACode := (.seq (.seq (.region q_law10_same_4) (.cond (.t 19) .skip (.exit 0))) (.seq (.block 1 (.seq (.regionD q_law10_same_5) (.cond (.t 29) (.seq (.region q_law10_same_6) .ret) .skip))) (.region q_law10_same_7)))
def q_law10_same_8 : List AOper := [
  ⟨(some 6), (.mv (.v (.int .i64 0))), none⟩]
def q_law10_same_9 : List AOper := [
  ⟨(some 30), (.mv (.t 6)), none⟩,
  ⟨(some 31), (.bin .lss (.t 30) (.v (.int .i64 3))), none⟩]
def q_law10_same_10 : List AOper := [
  ⟨(some 34), (.mv (.t 0)), none⟩,
  ⟨(some 35), (.mv (.t 6)), none⟩,
  ⟨(some 36), (.call F_law10_all [(.sc, (.t 34)), (.sc, (.t 35))]), none⟩,
  ⟨(some 37), (.mv (.t 1)), none⟩,
  ⟨(some 38), (.mv (.t 6)), none⟩,
  ⟨(some 39), (.call F_ref10_Of [(.sc, (.t 37)), (.sc, (.t 38))]), none⟩,
  ⟨(some 7), (.mv (.t 36)), none⟩,
  ⟨(some 8), (.mv (.t 39)), none⟩]
def q_law10_same_11 : List AOper := [
  ⟨(some 9), (.mv (.v (.int .i64 (-1)))), none⟩,
  ⟨(some 10), (.mv (.v (.int .i64 (-1)))), none⟩]
def q_law10_same_12 : List AOper := [
  ⟨(some 40), (.mv (.t 8)), none⟩,
  ⟨(some 41), (.len false (.t 40)), none⟩,
  ⟨(some 42), (.bin .gtr (.t 41) (.v (.int .i64 0))), none⟩]
def q_law10_same_13 : List DOp := [
  ⟨⟨(some 43), (.mv (.t 8)), none⟩, true, false, none, []⟩,
  ⟨⟨(some 44), (.idx 1 (.t 43) (.v (.int .i64 0))), none⟩, true, false, none, []⟩,
  ⟨⟨(some 45), (.load .sc 1 (.t 44)), none⟩, true, false, none, []⟩,
  ⟨⟨(some 46), (.mv (.t 8)), none⟩, true, false, none, []⟩,
  ⟨⟨(some 47), (.mv (.t 8)), none⟩, true, false, none, []⟩,
  ⟨⟨(some 48), (.len false (.t 47)), none⟩, true, false, none, []⟩,
  ⟨⟨(some 49), (.bin .sub (.t 48) (.v (.int .i64 1))), none⟩, true, false, none, []⟩,
  ⟨⟨(some 50), (.idx 1 (.t 46) (.t 49)), none⟩, true, false, none, []⟩,
  ⟨⟨(some 51), (.load .sc 1 (.t 50)), none⟩, true, false, none, []⟩,
  ⟨⟨(some 9), (.mv (.t 45)), none⟩, true, false, none, []⟩,
  ⟨⟨(some 10), (.mv (.t 51)), none⟩, true, false, none, []⟩]
def q_law10_same_14 : List AOper := [
  ⟨(some 52), (.mv (.t 7)), none⟩,
  ⟨(some 53), (.mv (.t 8)), none⟩,
  ⟨(some 54), (.call F_law10_ints [(.sc, (.t 52)), (.sc, (.t 53))]), none⟩,
  ⟨(some 55), (.un .not (.t 54)), none⟩,
  ⟨(some 56), (.mv (.t 55)), none⟩,
  ⟨(some 57), (.mv (.t 0)), (some (56, false))⟩,
  ⟨(some 58), (.mv (.t 6)), (some (56, false))⟩,
  ⟨(some 59), (.call F_Pslotmap_Map_Count [(.sc, (.t 57)), (.sc, (.t 58))]), (some (56, false))⟩,
  ⟨(some 60), (.mv (.t 8)), (some (56, false))⟩,
  ⟨(some 61), (.len false (.t 60)), (some (56, false))⟩,
  ⟨(some 62), (.eq .scI true (.t 59) (.t 61)), (some (56, false))⟩,
  ⟨(some 63), (.pick (.t 56) (.v (.bool true)) (.t 62)), none⟩,
  ⟨(some 64), (.mv (.t 63)), none⟩,
  ⟨(some 65), (.mv (.t 0)), (some (64, false))⟩,
  ⟨(some 66), (.mv (.t 6)), (some (64, false))⟩,
  ⟨(some 67), (.call F_Pslotmap_Map_First [(.sc, (.t 65)), (.sc, (.t 66))]), (some (64, false))⟩,
  ⟨(some 68), (.mv (.t 9)), (some (64, false))⟩,
  ⟨(some 69), (.eq .scI true (.t 67) (.t 68)), (some (64, false))⟩,
  ⟨(some 70), (.pick (.t 64) (.v (.bool true)) (.t 69)), none⟩,
  ⟨(some 71), (.mv (.t 70)), none⟩,
  ⟨(some 72), (.mv (.t 0)), (some (71, false))⟩,
  ⟨(some 73), (.mv (.t 6)), (some (71, false))⟩,
  ⟨(some 74), (.call F_Pslotmap_Map_Last [(.sc, (.t 72)), (.sc, (.t 73))]), (some (71, false))⟩,
  ⟨(some 75), (.mv (.t 10)), (some (71, false))⟩,
  ⟨(some 76), (.eq .scI true (.t 74) (.t 75)), (some (71, false))⟩,
  ⟨(some 77), (.pick (.t 71) (.v (.bool true)) (.t 76)), none⟩]
def q_law10_same_15 : List AOper := [
  ⟨(some 4), (.mv (.v (.bool false))), none⟩]
def q_law10_same_16 : List AOper := [
  ⟨(some 32), (.mv (.t 6)), none⟩,
  ⟨(some 33), (.bin .add (.t 32) (.v (.int .i64 1))), none⟩,
  ⟨(some 6), (.mv (.t 33)), none⟩]
def q_law10_same_L17 : ACode := (.seq (.seq (.region q_law10_same_9) (.cond (.t 31) .skip (.exit 2))) (.seq (.block 3 (.seq (.region q_law10_same_10) (.seq (.region q_law10_same_11) (.seq (.seq (.region q_law10_same_12) (.cond (.t 42) (.regionD q_law10_same_13) .skip)) (.seq (.region q_law10_same_14) (.cond (.t 77) (.seq (.region q_law10_same_15) .ret) .skip)))))) (.region q_law10_same_16)))
def q_law10_same_17 : List AOper := [
  ⟨(some 4), (.mv (.v (.bool true))), none⟩]
def a_law10_same : AFunc := ⟨[(.tmp 4)], (.seq (.region q_law10_same_0) (.seq (.seq (.region q_law10_same_1) (.cond (.t 15) (.seq (.region q_law10_same_2) .ret) .skip)) (.seq (.seq (.region q_law10_same_3) (.block 0 (.loop q_law10_same_L8))) (.seq (.seq (.region q_law10_same_8) (.block 2 (.loop q_law10_same_L17))) (.seq (.region q_law10_same_17) .ret)))))⟩

def q_law10_all_0 : List AOper := [
  ⟨(some 4), (.mv (.v .nilS)), none⟩]
def q_law10_all_1 : List AOper := [
  ⟨(some 5), (.alloc 41 [.nilS]), none⟩]
def q_law10_all_2 : List AOper := [
  ⟨(some 7), (.mv (.t 0)), none⟩,
  ⟨(some 8), (.mv (.t 1)), none⟩,
  ⟨(some 9), (.call F_Pslotmap_Map_All [(.sc, (.t 7)), (.sc, (.t 8))]), none⟩]
def q_law10_all_3 : List AOper := [
  ⟨(some 15), (.load .sc 1 (.t 5)), none⟩,
  ⟨(some 4), (.mv (.t 15)), none⟩]
def ra_law10_all_0_0 : List AOper := [
  ⟨(some 6), (.mv (.t 10)), none⟩]
def ra_law10_all_0 : ACode := (.region ra_law10_all_0_0)
def rb_law10_all_0_0 : List AOper := [
  ⟨(some 11), (.load .sc 1 (.t 5)), none⟩,
  ⟨(some 12), (.mv (.t 6)), none⟩,
  ⟨(some 13), (.bslI 3 .i64 [(.t 12)]), none⟩,
  ⟨(some 14), (.appI 3 .i64 8 (.t 11) (.t 13)), none⟩,
  ⟨none, (.store .sc 1 (.t 5) (.t 14)), none⟩]
def rb_law10_all_0 : ACode := (.block 1 (.region rb_law10_all_0_0))
noncomputable def a_law10_all : AFunc := ⟨[(.tmp 4)], (.seq (.region q_law10_all_0) (.seq (.region q_law10_all_1) (.seq (.seq (.region q_law10_all_2) (.block 0 (.rangeF 16 (.t 9) [10] (rfA Try.f85 0) (rfB Try.f85 0)))) (.seq (.region q_law10_all_3) .ret))))⟩

def q_ref08_Sealed_0 : List AOper := [
  ⟨(some 2), (.alloc 54 [(.iarr .u8 256 (List.replicate 256 0))]), none⟩]
def q_ref08_Sealed_1 : List AOper := [
  ⟨(some 3), (.mv (.v .nilS)), none⟩]
def q_ref08_Sealed_2 : List AOper := [
  ⟨(some 6), (.mv (.t 3)), none⟩,
  ⟨(some 7), (.mv (.t 0)), none⟩,
  ⟨(some 8), (.appI 5 .u8 1 (.t 6) (.t 7)), none⟩,
  ⟨(some 3), (.mv (.t 8)), none⟩]
def q_ref08_Sealed_3 : List AOper := [
  ⟨(some 9), (.mv (.t 3)), none⟩,
  ⟨(some 10), (.len false (.t 9)), none⟩,
  ⟨(some 11), (.bin .lss (.t 10) (.v (.int .i64 252))), none⟩]
def q_ref08_Sealed_4 : List AOper := [
  ⟨(some 12), (.mv (.t 3)), none⟩,
  ⟨(some 13), (.bslI 5 .u8 [(.v (.int .u8 0))]), none⟩,
  ⟨(some 14), (.appI 5 .u8 1 (.t 12) (.t 13)), none⟩,
  ⟨(some 3), (.mv (.t 14)), none⟩]
def q_ref08_Sealed_L5 : ACode := (.seq (.seq (.region q_ref08_Sealed_3) (.cond (.t 11) .skip (.exit 0))) (.block 1 (.region q_ref08_Sealed_4)))
def q_ref08_Sealed_5 : List AOper := [
  ⟨(some 15), (.mv (.t 3)), none⟩,
  ⟨(some 16), (.mv (.t 3)), none⟩,
  ⟨(some 17), (.call F_ref02_Of [(.sc, (.t 16))]), none⟩,
  ⟨(some 18), (.conv .u64 (.t 17)), none⟩,
  ⟨(some 19), (.call F_ref01_Put [(.sc, (.t 18)), (.sc, (.v (.int .i64 4)))]), none⟩,
  ⟨(some 20), (.appI 5 .u8 1 (.t 15) (.t 19)), none⟩,
  ⟨(some 3), (.mv (.t 20)), none⟩]
def q_ref08_Sealed_6 : List AOper := [
  ⟨(some 4), (.alloc 54 [(.iarr .u8 256 (List.replicate 256 0))]), none⟩]
def q_ref08_Sealed_7 : List AOper := [
  ⟨(some 5), (.mv (.v (.int .i64 0))), none⟩]
def q_ref08_Sealed_8 : List AOper := [
  ⟨(some 21), (.mv (.t 5)), none⟩,
  ⟨(some 22), (.bin .lss (.t 21) (.v (.int .i64 256))), none⟩]
def q_ref08_Sealed_9 : List AOper := [
  ⟨(some 25), (.mv (.t 5)), none⟩,
  ⟨(some 26), (.mv (.t 3)), none⟩,
  ⟨(some 27), (.mv (.t 5)), none⟩,
  ⟨(some 28), (.idx 1 (.t 26) (.t 27)), none⟩,
  ⟨(some 29), (.load .sc 1 (.t 28)), none⟩,
  ⟨(some 30), (.idxA 256 1 true (.t 4) (.t 25)), none⟩,
  ⟨none, (.store .sc 1 (.t 30) (.t 29)), none⟩]
def q_ref08_Sealed_10 : List AOper := [
  ⟨(some 23), (.mv (.t 5)), none⟩,
  ⟨(some 24), (.bin .add (.t 23) (.v (.int .i64 1))), none⟩,
  ⟨(some 5), (.mv (.t 24)), none⟩]
def q_ref08_Sealed_L11 : ACode := (.seq (.seq (.region q_ref08_Sealed_8) (.cond (.t 22) .skip (.exit 2))) (.seq (.block 3 (.region q_ref08_Sealed_9)) (.region q_ref08_Sealed_10)))
def q_ref08_Sealed_11 : List AOper := [
  ⟨(some 31), (.load (.ia .u8 256) 256 (.t 4)), none⟩,
  ⟨none, (.store (.ia .u8 256) 256 (.t 2) (.t 31)), none⟩]
def a_ref08_Sealed : AFunc := ⟨[(.cell 2 (.ia .u8 256) 256)], (.seq (.region q_ref08_Sealed_0) (.seq (.region q_ref08_Sealed_1) (.seq (.region q_ref08_Sealed_2) (.seq (.block 0 (.loop q_ref08_Sealed_L5)) (.seq (.region q_ref08_Sealed_5) (.seq (.region q_ref08_Sealed_6) (.seq (.seq (.region q_ref08_Sealed_7) (.block 2 (.loop q_ref08_Sealed_L11))) (.seq (.region q_ref08_Sealed_11) .ret))))))))⟩

def q_crc_Sealed_0 : List AOper := [
  ⟨(some 2), (.mv (.v .nilS)), none⟩]
def q_crc_Sealed_1 : List AOper := [
  ⟨(some 4), (.mv (.t 0)), none⟩,
  ⟨(some 5), (.call F_crc_Of [(.sc, (.t 4))]), none⟩,
  ⟨(some 6), (.call F_crc_Four [(.sc, (.t 5))]), none⟩,
  ⟨(some 3), (.alloc 151 [(.iarr .u8 4 [0, 0, 0, 0])]), none⟩,
  ⟨none, (.store (.ia .u8 4) 4 (.t 3) (.t 6)), none⟩]
def q_crc_Sealed_2 : List DOp := [
  ⟨⟨(some 8), (.mv (.t 0)), none⟩, true, false, none, []⟩,
  ⟨⟨(some 10), (.slcA 4 (.t 3) none none), none⟩, true, false, none, []⟩,
  ⟨⟨(some 7), (.bslI 5 .u8 []), none⟩, false, false, none, []⟩,
  ⟨⟨(some 9), (.appI 5 .u8 1 (.t 7) (.t 8)), none⟩, false, false, none, []⟩,
  ⟨⟨(some 11), (.appI 5 .u8 1 (.t 9) (.t 10)), none⟩, false, false, none, []⟩,
  ⟨⟨(some 2), (.mv (.t 11)), none⟩, true, false, none, []⟩]
def a_crc_Sealed : AFunc := ⟨[(.tmp 2)], (.seq (.region q_crc_Sealed_0) (.seq (.region q_crc_Sealed_1) (.seq (.regionD q_crc_Sealed_2) .ret)))⟩

def q_crc_Holds_0 : List AOper := [
  ⟨(some 2), (.mv (.v (.bool false))), none⟩]
def q_crc_Holds_1 : List AOper := [
  ⟨(some 4), (.mv (.t 0)), none⟩,
  ⟨(some 5), (.len false (.t 4)), none⟩,
  ⟨(some 6), (.bin .sub (.t 5) (.v (.int .i64 4))), none⟩,
  ⟨(some 3), (.mv (.t 6)), none⟩]
def q_crc_Holds_2 : List AOper := [
  ⟨(some 7), (.mv (.t 3)), none⟩,
  ⟨(some 8), (.bin .lss (.t 7) (.v (.int .i64 0))), none⟩]
def q_crc_Holds_3 : List AOper := [
  ⟨(some 2), (.mv (.v (.bool false))), none⟩]
def q_crc_Holds_4 : List DOp := [
  ⟨⟨(some 9), (.mv (.t 0)), none⟩, true, false, none, []⟩,
  ⟨⟨(some 10), (.mv (.t 3)), none⟩, true, false, none, []⟩,
  ⟨⟨(some 11), (.slc 1 (.t 9) none (some (.t 10))), none⟩, true, false, none, []⟩,
  ⟨⟨(some 14), (.mv (.t 0)), none⟩, true, false, none, []⟩,
  ⟨⟨(some 15), (.mv (.t 3)), none⟩, true, false, none, []⟩,
  ⟨⟨(some 16), (.slc 1 (.t 14) (some (.t 15)) none), none⟩, true, false, none, []⟩,
  ⟨⟨(some 17), (.s2a 4 (.t 16)), none⟩, true, false, none, []⟩,
  ⟨⟨(some 18), (.load (.ia .u8 4) 4 (.t 17)), none⟩, true, false, none, []⟩,
  ⟨⟨(some 12), (.call F_crc_Of [(.sc, (.t 11))]), none⟩, false, true, (some [17, 14]), []⟩,
  ⟨⟨(some 13), (.call F_crc_Four [(.sc, (.t 12))]), none⟩, false, true, (some [17, 14]), []⟩,
  ⟨⟨(some 19), (.eq (.ia 4) false (.t 13) (.t 18)), none⟩, true, false, none, []⟩,
  ⟨⟨(some 2), (.mv (.t 19)), none⟩, true, false, none, []⟩]
def a_crc_Holds : AFunc := ⟨[(.tmp 2)], (.seq (.region q_crc_Holds_0) (.seq (.region q_crc_Holds_1) (.seq (.seq (.region q_crc_Holds_2) (.cond (.t 8) (.seq (.region q_crc_Holds_3) .ret) .skip)) (.seq (.regionD q_crc_Holds_4) .ret))))⟩

def q_crc_Four_0 : List AOper := [
  ⟨(some 2), (.alloc 151 [(.iarr .u8 4 [0, 0, 0, 0])]), none⟩]
def q_crc_Four_1 : List AOper := [
  ⟨(some 3), (.mv (.t 0)), none⟩,
  ⟨(some 4), (.conv .u8 (.t 3)), none⟩,
  ⟨(some 5), (.mv (.t 0)), none⟩,
  ⟨(some 6), (.bin .shr (.t 5) (.v (.int .u64 8))), none⟩,
  ⟨(some 7), (.conv .u8 (.t 6)), none⟩,
  ⟨(some 8), (.mv (.t 0)), none⟩,
  ⟨(some 9), (.bin .shr (.t 8) (.v (.int .u64 16))), none⟩,
  ⟨(some 10), (.conv .u8 (.t 9)), none⟩,
  ⟨(some 11), (.mv (.t 0)), none⟩,
  ⟨(some 12), (.bin .shr (.t 11) (.v (.int .u64 24))), none⟩,
  ⟨(some 13), (.conv .u8 (.t 12)), none⟩,
  ⟨(some 14), (.build (.ia .u8 4) [(.iarr .u8 4 [0, 0, 0, 0])] [(0, (1, (.t 4))), (1, (1, (.t 7))), (2, (1, (.t 10))), (3, (1, (.t 13)))]), none⟩,
  ⟨none, (.store (.ia .u8 4) 4 (.t 2) (.t 14)), none⟩]
def a_crc_Four : AFunc := ⟨[(.cell 2 (.ia .u8 4) 4)], (.seq (.region q_crc_Four_0) (.seq (.region q_crc_Four_1) .ret))⟩

def q_crc_Of_0 : List AOper := [
  ⟨(some 2), (.mv (.v (.int .u32 0))), none⟩]
def q_crc_Of_1 : List AOper := [
  ⟨(some 3), (.mv (.t 0)), none⟩,
  ⟨(some 4), (.call F_crc_More [(.sc, (.v (.int .u32 0))), (.sc, (.t 3))]), none⟩,
  ⟨(some 2), (.mv (.t 4)), none⟩]
def a_crc_Of : AFunc := ⟨[(.tmp 2)], (.seq (.region q_crc_Of_0) (.seq (.region q_crc_Of_1) .ret))⟩

def q_crc_More_0 : List AOper := [
  ⟨(some 4), (.mv (.v (.int .u32 0))), none⟩]
def q_crc_More_1 : List AOper := [
  ⟨(some 8), (.mv (.t 0)), none⟩,
  ⟨(some 9), (.un .xor (.t 8)), none⟩,
  ⟨(some 5), (.mv (.t 9)), none⟩]
def q_crc_More_2 : List AOper := [
  ⟨(some 10), (.mv (.t 1)), none⟩,
  ⟨(some 11), (.len false (.t 10)), none⟩,
  ⟨(some 12), (.mv (.v (.int .i64 0))), none⟩]
def q_crc_More_3 : List AOper := [
  ⟨(some 13), (.bin .lss (.t 12) (.t 11)), none⟩]
def q_crc_More_4 : List AOper := [
  ⟨(some 14), (.idx 1 (.t 10) (.t 12)), none⟩,
  ⟨(some 15), (.load .sc 1 (.t 14)), none⟩,
  ⟨(some 7), (.mv (.t 15)), none⟩]
def q_crc_More_5 : List AOper := [
  ⟨(some 16), (.mv (.t 5)), none⟩,
  ⟨(some 17), (.mv (.t 7)), none⟩,
  ⟨(some 18), (.call F_crc_turn [(.sc, (.t 16)), (.sc, (.t 17))]), none⟩,
  ⟨(some 5), (.mv (.t 18)), none⟩]
def q_crc_More_6 : List AOper := [
  ⟨(some 19), (.bin .add (.t 12) (.v (.int .i64 1))), none⟩,
  ⟨(some 12), (.mv (.t 19)), none⟩]
def q_crc_More_L7 : ACode := (.seq (.region q_crc_More_3) (.seq (.cond (.t 13) .skip (.exit 0)) (.seq (.block 1 (.seq (.region q_crc_More_4) (.region q_crc_More_5))) (.region q_crc_More_6))))
def q_crc_More_7 : List AOper := [
  ⟨(some 20), (.mv (.t 5)), none⟩,
  ⟨(some 21), (.un .xor (.t 20)), none⟩,
  ⟨(some 4), (.mv (.t 21)), none⟩]
def a_crc_More : AFunc := ⟨[(.tmp 4)], (.seq (.region q_crc_More_0) (.seq (.region q_crc_More_1) (.seq (.seq (.region q_crc_More_2) (.block 0 (.loop q_crc_More_L7))) (.seq (.region q_crc_More_7) .ret))))⟩

def q_crc_turn_0 : List AOper := [
  ⟨(some 4), (.mv (.v (.int .u32 0))), none⟩]
def q_crc_turn_1 : List AOper := [
  ⟨(some 5), (.mv (.t 0)), none⟩,
  ⟨(some 6), (.mv (.t 1)), none⟩,
  ⟨(some 7), (.conv .u32 (.t 6)), none⟩,
  ⟨(some 8), (.bin .xor (.t 5) (.t 7)), none⟩,
  ⟨(some 0), (.mv (.t 8)), none⟩]
def q_crc_turn_2 : List AOper := [
  ⟨(some 9), (.mv (.v (.int .i64 0))), none⟩]
def q_crc_turn_3 : List AOper := [
  ⟨(some 10), (.bin .lss (.t 9) (.v (.int .i64 8))), none⟩]
def q_crc_turn_4 : List AOper := [
  ⟨(some 11), (.mv (.t 0)), none⟩,
  ⟨(some 12), (.bin .and (.t 11) (.v (.int .u32 1))), none⟩,
  ⟨(some 13), (.eq .scI false (.t 12) (.v (.int .u32 1))), none⟩]
def q_crc_turn_5 : List AOper := [
  ⟨(some 14), (.mv (.t 0)), none⟩,
  ⟨(some 15), (.bin .shr (.t 14) (.v (.int .u64 1))), none⟩,
  ⟨(some 16), (.bin .xor (.t 15) (.v (.int .u32 3988292384))), none⟩,
  ⟨(some 0), (.mv (.t 16)), none⟩]
def q_crc_turn_6 : List AOper := [
  ⟨(some 17), (.mv (.t 0)), none⟩,
  ⟨(some 18), (.bin .shr (.t 17) (.v (.int .u64 1))), none⟩,
  ⟨(some 0), (.mv (.t 18)), none⟩]
def q_crc_turn_7 : List AOper := [
  ⟨(some 19), (.bin .add (.t 9) (.v (.int .i64 1))), none⟩,
  ⟨(some 9), (.mv (.t 19)), none⟩]
def q_crc_turn_L8 : ACode := (.seq (.region q_crc_turn_3) (.seq (.cond (.t 10) .skip (.exit 0)) (.seq (.block 1 (.seq (.region q_crc_turn_4) (.cond (.t 13) (.region q_crc_turn_5) (.region q_crc_turn_6)))) (.region q_crc_turn_7))))
def q_crc_turn_8 : List AOper := [
  ⟨(some 20), (.mv (.t 0)), none⟩,
  ⟨(some 4), (.mv (.t 20)), none⟩]
def a_crc_turn : AFunc := ⟨[(.tmp 4)], (.seq (.region q_crc_turn_0) (.seq (.region q_crc_turn_1) (.seq (.seq (.region q_crc_turn_2) (.block 0 (.loop q_crc_turn_L8))) (.seq (.region q_crc_turn_8) .ret))))⟩

def q_ref02_Of_0 : List AOper := [
  ⟨(some 2), (.mv (.v (.int .u32 0))), none⟩]
def q_ref02_Of_1 : List AOper := [
  ⟨(some 11), (.mv (.t 0)), none⟩,
  ⟨(some 12), (.call F_ref02_bits [(.sc, (.t 11))]), none⟩,
  ⟨(some 13), (.xx (.appZ 5 .u8 1) [(.t 12), (.v (.int .i64 32))]), none⟩,
  ⟨(some 3), (.mv (.t 13)), none⟩]
def q_ref02_Of_2 : List AOper := [
  ⟨(some 4), (.mv (.v (.int .i64 0))), none⟩]
def q_ref02_Of_3 : List AOper := [
  ⟨(some 14), (.mv (.t 4)), none⟩,
  ⟨(some 15), (.bin .lss (.t 14) (.v (.int .i64 32))), none⟩]
def q_ref02_Of_4 : List AOper := [
  ⟨(some 18), (.mv (.t 3)), none⟩,
  ⟨(some 19), (.mv (.t 4)), none⟩,
  ⟨(some 20), (.mv (.t 3)), none⟩,
  ⟨(some 21), (.mv (.t 4)), none⟩,
  ⟨(some 22), (.idx 1 (.t 20) (.t 21)), none⟩,
  ⟨(some 23), (.load .sc 1 (.t 22)), none⟩,
  ⟨(some 24), (.bin .sub (.v (.int .u8 1)) (.t 23)), none⟩,
  ⟨(some 25), (.idx 1 (.t 18) (.t 19)), none⟩,
  ⟨none, (.store .sc 1 (.t 25) (.t 24)), none⟩]
def q_ref02_Of_5 : List AOper := [
  ⟨(some 16), (.mv (.t 4)), none⟩,
  ⟨(some 17), (.bin .add (.t 16) (.v (.int .i64 1))), none⟩,
  ⟨(some 4), (.mv (.t 17)), none⟩]
def q_ref02_Of_L6 : ACode := (.seq (.seq (.region q_ref02_Of_3) (.cond (.t 15) .skip (.exit 0))) (.seq (.block 1 (.region q_ref02_Of_4)) (.region q_ref02_Of_5)))
def q_ref02_Of_6 : List AOper := [
  ⟨(some 26), (.bslI 5 .u8 [(.v (.int .u8 1)), (.v (.int .u8 0)), (.v (.int .u8 0)), (.v (.int .u8 0)), (.v (.int .u8 0)), (.v (.int .u8 0)), (.v (.int .u8 1)), (.v (.int .u8 0)), (.v (.int .u8 0)), (.v (.int .u8 1)), (.v (.int .u8 1)), (.v (.int .u8 0)), (.v (.int .u8 0)), (.v (.int .u8 0)), (.v (.int .u8 0)), (.v (.int .u8 0)), (.v (.int .u8 1)), (.v (.int .u8 0)), (.v (.int .u8 0)), (.v (.int .u8 0)), (.v (.int .u8 1)), (.v (.int .u8 1)), (.v (.int .u8 1)), (.v (.int .u8 0)), (.v (.int .u8 1)), (.v (.int .u8 1)), (.v (.int .u8 0)), (.v (.int .u8 1)), (.v (.int .u8 1)), (.v (.int .u8 0)), (.v (.int .u8 1)), (.v (.int .u8 1)), (.v (.int .u8 1))]), none⟩,
  ⟨(some 5), (.mv (.t 26)), none⟩]
def q_ref02_Of_7 : List AOper := [
  ⟨(some 6), (.mv (.v (.int .i64 0))), none⟩]
def q_ref02_Of_8 : List AOper := [
  ⟨(some 27), (.mv (.t 6)), none⟩,
  ⟨(some 28), (.bin .add (.t 27) (.v (.int .i64 32))), none⟩,
  ⟨(some 29), (.mv (.t 3)), none⟩,
  ⟨(some 30), (.len false (.t 29)), none⟩,
  ⟨(some 31), (.bin .lss (.t 28) (.t 30)), none⟩]
def q_ref02_Of_9 : List AOper := [
  ⟨(some 34), (.mv (.t 3)), none⟩,
  ⟨(some 35), (.mv (.t 6)), none⟩,
  ⟨(some 36), (.idx 1 (.t 34) (.t 35)), none⟩,
  ⟨(some 37), (.load .sc 1 (.t 36)), none⟩,
  ⟨(some 38), (.eq .scI false (.t 37) (.v (.int .u8 1))), none⟩]
def q_ref02_Of_10 : List AOper := [
  ⟨(some 7), (.mv (.v (.int .i64 0))), none⟩]
def q_ref02_Of_11 : List AOper := [
  ⟨(some 39), (.mv (.t 7)), none⟩,
  ⟨(some 40), (.bin .lss (.t 39) (.v (.int .i64 33))), none⟩]
def q_ref02_Of_12 : List DOp := [
  ⟨⟨(some 43), (.mv (.t 3)), none⟩, true, false, none, []⟩,
  ⟨⟨(some 44), (.mv (.t 6)), none⟩, true, false, none, []⟩,
  ⟨⟨(some 45), (.mv (.t 7)), none⟩, true, false, none, []⟩,
  ⟨⟨(some 46), (.bin .add (.t 44) (.t 45)), none⟩, true, false, none, []⟩,
  ⟨⟨(some 47), (.mv (.t 3)), none⟩, true, false, none, []⟩,
  ⟨⟨(some 48), (.mv (.t 6)), none⟩, true, false, none, []⟩,
  ⟨⟨(some 49), (.mv (.t 7)), none⟩, true, false, none, []⟩,
  ⟨⟨(some 50), (.bin .add (.t 48) (.t 49)), none⟩, true, false, none, []⟩,
  ⟨⟨(some 51), (.idx 1 (.t 47) (.t 50)), none⟩, true, false, none, []⟩,
  ⟨⟨(some 52), (.load .sc 1 (.t 51)), none⟩, true, false, none, []⟩,
  ⟨⟨(some 53), (.mv (.t 5)), none⟩, true, false, none, []⟩,
  ⟨⟨(some 54), (.mv (.t 7)), none⟩, true, false, none, []⟩,
  ⟨⟨(some 55), (.idx 1 (.t 53) (.t 54)), none⟩, true, false, none, []⟩,
  ⟨⟨(some 56), (.load .sc 1 (.t 55)), none⟩, true, false, none, []⟩,
  ⟨⟨(some 57), (.bin .xor (.t 52) (.t 56)), none⟩, true, false, none, []⟩,
  ⟨⟨(some 58), (.idx 1 (.t 43) (.t 46)), none⟩, true, false, none, []⟩,
  ⟨⟨none, (.store .sc 1 (.t 58) (.t 57)), none⟩, false, false, none, []⟩]
def q_ref02_Of_13 : List AOper := [
  ⟨(some 41), (.mv (.t 7)), none⟩,
  ⟨(some 42), (.bin .add (.t 41) (.v (.int .i64 1))), none⟩,
  ⟨(some 7), (.mv (.t 42)), none⟩]
def q_ref02_Of_L14 : ACode := (.seq (.seq (.region q_ref02_Of_11) (.cond (.t 40) .skip (.exit 4))) (.seq (.block 5 (.regionD q_ref02_Of_12)) (.region q_ref02_Of_13)))
def q_ref02_Of_14 : List AOper := [
  ⟨(some 32), (.mv (.t 6)), none⟩,
  ⟨(some 33), (.bin .add (.t 32) (.v (.int .i64 1))), none⟩,
  ⟨(some 6), (.mv (.t 33)), none⟩]
def q_ref02_Of_L15 : ACode := (.seq (.seq (.region q_ref02_Of_8) (.cond (.t 31) .skip (.exit 2))) (.seq (.block 3 (.seq (.region q_ref02_Of_9) (.cond (.t 38) (.seq (.region q_ref02_Of_10) (.block 4 (.loop q_ref02_Of_L14))) .skip))) (.region q_ref02_Of_14)))
def q_ref02_Of_15 : List AOper := [
  ⟨(some 8), (.mv (.v (.int .u32 0))), none⟩]
def q_ref02_Of_16 : List AOper := [
  ⟨(some 59), (.mv (.t 3)), none⟩,
  ⟨(some 60), (.len false (.t 59)), none⟩,
  ⟨(some 61), (.bin .sub (.t 60) (.v (.int .i64 32))), none⟩,
  ⟨(some 9), (.mv (.t 61)), none⟩]
def q_ref02_Of_17 : List AOper := [
  ⟨(some 10), (.mv (.v (.int .i64 0))), none⟩]
def q_ref02_Of_18 : List AOper := [
  ⟨(some 62), (.mv (.t 10)), none⟩,
  ⟨(some 63), (.bin .lss (.t 62) (.v (.int .i64 32))), none⟩]
def q_ref02_Of_19 : List AOper := [
  ⟨(some 66), (.mv (.t 8)), none⟩,
  ⟨(some 67), (.mv (.t 3)), none⟩,
  ⟨(some 68), (.mv (.t 9)), none⟩,
  ⟨(some 69), (.mv (.t 10)), none⟩,
  ⟨(some 70), (.bin .add (.t 68) (.t 69)), none⟩,
  ⟨(some 71), (.idx 1 (.t 67) (.t 70)), none⟩,
  ⟨(some 72), (.load .sc 1 (.t 71)), none⟩,
  ⟨(some 73), (.bin .sub (.v (.int .u8 1)) (.t 72)), none⟩,
  ⟨(some 74), (.conv .u32 (.t 73)), none⟩,
  ⟨(some 75), (.mv (.t 10)), none⟩,
  ⟨(some 76), (.conv .u64 (.t 75)), none⟩,
  ⟨(some 77), (.bin .shl (.t 74) (.t 76)), none⟩,
  ⟨(some 78), (.bin .or (.t 66) (.t 77)), none⟩,
  ⟨(some 8), (.mv (.t 78)), none⟩]
def q_ref02_Of_20 : List AOper := [
  ⟨(some 64), (.mv (.t 10)), none⟩,
  ⟨(some 65), (.bin .add (.t 64) (.v (.int .i64 1))), none⟩,
  ⟨(some 10), (.mv (.t 65)), none⟩]
def q_ref02_Of_L21 : ACode := (.seq (.seq (.region q_ref02_Of_18) (.cond (.t 63) .skip (.exit 6))) (.seq (.block 7 (.region q_ref02_Of_19)) (.region q_ref02_Of_20)))
def q_ref02_Of_21 : List AOper := [
  ⟨(some 79), (.mv (.t 8)), none⟩,
  ⟨(some 2), (.mv (.t 79)), none⟩]
def a_ref02_Of : AFunc := ⟨[(.tmp 2)], (.seq (.region q_ref02_Of_0) (.seq (.region q_ref02_Of_1) (.seq (.seq (.region q_ref02_Of_2) (.block 0 (.loop q_ref02_Of_L6))) (.seq (.region q_ref02_Of_6) (.seq (.seq (.region q_ref02_Of_7) (.block 2 (.loop q_ref02_Of_L15))) (.seq (.region q_ref02_Of_15) (.seq (.region q_ref02_Of_16) (.seq (.seq (.region q_ref02_Of_17) (.block 6 (.loop q_ref02_Of_L21))) (.seq (.region q_ref02_Of_21) .ret)))))))))⟩

def q_ref02_bits_0 : List AOper := [
  ⟨(some 2), (.mv (.v .nilS)), none⟩]
def q_ref02_bits_1 : List AOper := [
  ⟨(some 3), (.mv (.v .nilS)), none⟩]
def q_ref02_bits_2 : List AOper := [
  ⟨(some 4), (.mv (.v (.int .i64 0))), none⟩]
def q_ref02_bits_3 : List AOper := [
  ⟨(some 6), (.mv (.t 4)), none⟩,
  ⟨(some 7), (.mv (.t 0)), none⟩,
  ⟨(some 8), (.len false (.t 7)), none⟩,
  ⟨(some 9), (.bin .lss (.t 6) (.t 8)), none⟩]
def q_ref02_bits_4 : List AOper := [
  ⟨(some 5), (.mv (.v (.int .i64 0))), none⟩]
def q_ref02_bits_5 : List AOper := [
  ⟨(some 12), (.mv (.t 5)), none⟩,
  ⟨(some 13), (.bin .lss (.t 12) (.v (.int .i64 8))), none⟩]
def q_ref02_bits_6 : List AOper := [
  ⟨(some 16), (.mv (.t 3)), none⟩,
  ⟨(some 17), (.mv (.t 0)), none⟩,
  ⟨(some 18), (.mv (.t 4)), none⟩,
  ⟨(some 19), (.idx 1 (.t 17) (.t 18)), none⟩,
  ⟨(some 20), (.load .sc 1 (.t 19)), none⟩,
  ⟨(some 21), (.mv (.t 5)), none⟩,
  ⟨(some 22), (.conv .u64 (.t 21)), none⟩,
  ⟨(some 23), (.bin .shr (.t 20) (.t 22)), none⟩,
  ⟨(some 24), (.bin .and (.t 23) (.v (.int .u8 1))), none⟩,
  ⟨(some 25), (.bslI 5 .u8 [(.t 24)]), none⟩,
  ⟨(some 26), (.appI 5 .u8 1 (.t 16) (.t 25)), none⟩,
  ⟨(some 3), (.mv (.t 26)), none⟩]
def q_ref02_bits_7 : List AOper := [
  ⟨(some 14), (.mv (.t 5)), none⟩,
  ⟨(some 15), (.bin .add (.t 14) (.v (.int .i64 1))), none⟩,
  ⟨(some 5), (.mv (.t 15)), none⟩]
def q_ref02_bits_L8 : ACode := (.seq (.seq (.region q_ref02_bits_5) (.cond (.t 13) .skip (.exit 2))) (.seq (.block 3 (.region q_ref02_bits_6)) (.region q_ref02_bits_7)))
def q_ref02_bits_8 : List AOper := [
  ⟨(some 10), (.mv (.t 4)), none⟩,
  ⟨(some 11), (.bin .add (.t 10) (.v (.int .i64 1))), none⟩,
  ⟨(some 4), (.mv (.t 11)), none⟩]
def q_ref02_bits_L9 : ACode := (.seq (.seq (.region q_ref02_bits_3) (.cond (.t 9) .skip (.exit 0))) (.seq (.block 1 (.seq (.region q_ref02_bits_4) (.block 2 (.loop q_ref02_bits_L8)))) (.region q_ref02_bits_8)))
def q_ref02_bits_9 : List AOper := [
  ⟨(some 27), (.mv (.t 3)), none⟩,
  ⟨(some 2), (.mv (.t 27)), none⟩]
def a_ref02_bits : AFunc := ⟨[(.tmp 2)], (.seq (.region q_ref02_bits_0) (.seq (.region q_ref02_bits_1) (.seq (.seq (.region q_ref02_bits_2) (.block 0 (.loop q_ref02_bits_L9))) (.seq (.region q_ref02_bits_9) .ret))))⟩


theorem c_slotmap_New : trF Try.prog Try.f24 = some a_slotmap_New := by kernel_rfl
theorem g_slotmap_New : Try.prog.funcs[24]? = some Try.f24 := by kernel_rfl
theorem i_slotmap_New {args : List AV} {A : Heap} {Ko : AOut → Heap → Prop} (hn : args.length ≤ 14)
    (h : ∀ R : APost, (∀ e env A, fpost a_slotmap_New.res Ko e env A → R e env A) → X Try.prog R a_slotmap_New.body .done (env0 args) A) : SimX Try.prog F_slotmap_New args A Ko :=
  X_intro g_slotmap_New c_slotmap_New (by rw [Try.ntmps24]; exact hn) h
theorem v_slotmap_New {args : List AV} {v : AV} (hn : args.length ≤ 14) (h : X Try.prog (fin a_slotmap_New.res v) a_slotmap_New.body .done (env0 args) H0) : Gives Try.prog F_slotmap_New args v :=
  Gives_intro g_slotmap_New c_slotmap_New (by rw [Try.ntmps24]; exact hn) h
theorem e_slotmap_New {args : List AV} {Q : AOut → Prop} (hn : args.length ≤ 14) (h : X Try.prog (finE a_slotmap_New.res Q) a_slotmap_New.body .done (env0 args) H0) : Fins Try.prog F_slotmap_New args Q :=
  Fins_intro g_slotmap_New c_slotmap_New (by rw [Try.ntmps24]; exact hn) h
theorem j_slotmap_New {args : List AV} {A : Heap} {K Kp : AV → Heap → Prop} (hn : args.length ≤ 14) (h : X Try.prog (inl a_slotmap_New.res K Kp) a_slotmap_New.body .done (env0 args) A) : SimX Try.prog F_slotmap_New args A (outK K Kp) :=
  X_inl g_slotmap_New c_slotmap_New (by rw [Try.ntmps24]; exact hn) h
theorem d_slotmap_New {args : List AV} {A : Heap} {Ko : AOut → Heap → Prop} (hn : args.length ≤ 14) (hrf : AVL.Func.hasRF Try.f24 = false)
    (h : ∀ R : APost, (∀ e env A, fpost a_slotmap_New.res Ko e env A → R e env A) → X Try.prog R a_slotmap_New.body .done (env0 args) A) : SimD Try.prog F_slotmap_New args A Ko :=
  X_introD g_slotmap_New c_slotmap_New (by rw [Try.ntmps24]; exact hn) hrf h
@[simp] theorem k_slotmap_New : callable Try.prog F_slotmap_New = true := by kernel_rfl
theorem c_slotmap_Read : trF Try.prog Try.f33 = some a_slotmap_Read := by kernel_rfl
theorem g_slotmap_Read : Try.prog.funcs[33]? = some Try.f33 := by kernel_rfl
theorem i_slotmap_Read {args : List AV} {A : Heap} {Ko : AOut → Heap → Prop} (hn : args.length ≤ 57)
    (h : ∀ R : APost, (∀ e env A, fpost a_slotmap_Read.res Ko e env A → R e env A) → X Try.prog R a_slotmap_Read.body .done (env0 args) A) : SimX Try.prog F_slotmap_Read args A Ko :=
  X_intro g_slotmap_Read c_slotmap_Read (by rw [Try.ntmps33]; exact hn) h
theorem v_slotmap_Read {args : List AV} {v : AV} (hn : args.length ≤ 57) (h : X Try.prog (fin a_slotmap_Read.res v) a_slotmap_Read.body .done (env0 args) H0) : Gives Try.prog F_slotmap_Read args v :=
  Gives_intro g_slotmap_Read c_slotmap_Read (by rw [Try.ntmps33]; exact hn) h
theorem e_slotmap_Read {args : List AV} {Q : AOut → Prop} (hn : args.length ≤ 57) (h : X Try.prog (finE a_slotmap_Read.res Q) a_slotmap_Read.body .done (env0 args) H0) : Fins Try.prog F_slotmap_Read args Q :=
  Fins_intro g_slotmap_Read c_slotmap_Read (by rw [Try.ntmps33]; exact hn) h
theorem j_slotmap_Read {args : List AV} {A : Heap} {K Kp : AV → Heap → Prop} (hn : args.length ≤ 57) (h : X Try.prog (inl a_slotmap_Read.res K Kp) a_slotmap_Read.body .done (env0 args) A) : SimX Try.prog F_slotmap_Read args A (outK K Kp) :=
  X_inl g_slotmap_Read c_slotmap_Read (by rw [Try.ntmps33]; exact hn) h
theorem d_slotmap_Read {args : List AV} {A : Heap} {Ko : AOut → Heap → Prop} (hn : args.length ≤ 57) (hrf : AVL.Func.hasRF Try.f33 = false)
    (h : ∀ R : APost, (∀ e env A, fpost a_slotmap_Read.res Ko e env A → R e env A) → X Try.prog R a_slotmap_Read.body .done (env0 args) A) : SimD Try.prog F_slotmap_Read args A Ko :=
  X_introD g_slotmap_Read c_slotmap_Read (by rw [Try.ntmps33]; exact hn) hrf h
@[simp] theorem k_slotmap_Read : callable Try.prog F_slotmap_Read = true := by kernel_rfl
theorem c_Pslotmap_Map_Copy : trF Try.prog Try.f25 = some a_Pslotmap_Map_Copy := by kernel_rfl
theorem g_Pslotmap_Map_Copy : Try.prog.funcs[25]? = some Try.f25 := by kernel_rfl
theorem i_Pslotmap_Map_Copy {args : List AV} {A : Heap} {Ko : AOut → Heap → Prop} (hn : args.length ≤ 11)
    (h : ∀ R : APost, (∀ e env A, fpost a_Pslotmap_Map_Copy.res Ko e env A → R e env A) → X Try.prog R a_Pslotmap_Map_Copy.body .done (env0 args) A) : SimX Try.prog F_Pslotmap_Map_Copy args A Ko :=
  X_intro g_Pslotmap_Map_Copy c_Pslotmap_Map_Copy (by rw [Try.ntmps25]; exact hn) h
theorem v_Pslotmap_Map_Copy {args : List AV} {v : AV} (hn : args.length ≤ 11) (h : X Try.prog (fin a_Pslotmap_Map_Copy.res v) a_Pslotmap_Map_Copy.body .done (env0 args) H0) : Gives Try.prog F_Pslotmap_Map_Copy args v :=
  Gives_intro g_Pslotmap_Map_Copy c_Pslotmap_Map_Copy (by rw [Try.ntmps25]; exact hn) h
theorem e_Pslotmap_Map_Copy {args : List AV} {Q : AOut → Prop} (hn : args.length ≤ 11) (h : X Try.prog (finE a_Pslotmap_Map_Copy.res Q) a_Pslotmap_Map_Copy.body .done (env0 args) H0) : Fins Try.prog F_Pslotmap_Map_Copy args Q :=
  Fins_intro g_Pslotmap_Map_Copy c_Pslotmap_Map_Copy (by rw [Try.ntmps25]; exact hn) h
theorem j_Pslotmap_Map_Copy {args : List AV} {A : Heap} {K Kp : AV → Heap → Prop} (hn : args.length ≤ 11) (h : X Try.prog (inl a_Pslotmap_Map_Copy.res K Kp) a_Pslotmap_Map_Copy.body .done (env0 args) A) : SimX Try.prog F_Pslotmap_Map_Copy args A (outK K Kp) :=
  X_inl g_Pslotmap_Map_Copy c_Pslotmap_Map_Copy (by rw [Try.ntmps25]; exact hn) h
theorem d_Pslotmap_Map_Copy {args : List AV} {A : Heap} {Ko : AOut → Heap → Prop} (hn : args.length ≤ 11) (hrf : AVL.Func.hasRF Try.f25 = false)
    (h : ∀ R : APost, (∀ e env A, fpost a_Pslotmap_Map_Copy.res Ko e env A → R e env A) → X Try.prog R a_Pslotmap_Map_Copy.body .done (env0 args) A) : SimD Try.prog F_Pslotmap_Map_Copy args A Ko :=
  X_introD g_Pslotmap_Map_Copy c_Pslotmap_Map_Copy (by rw [Try.ntmps25]; exact hn) hrf h
@[simp] theorem k_Pslotmap_Map_Copy : callable Try.prog F_Pslotmap_Map_Copy = true := by kernel_rfl
theorem c_Pslotmap_Map_Set : trF Try.prog Try.f27 = some a_Pslotmap_Map_Set := by kernel_rfl
theorem g_Pslotmap_Map_Set : Try.prog.funcs[27]? = some Try.f27 := by kernel_rfl
theorem i_Pslotmap_Map_Set {args : List AV} {A : Heap} {Ko : AOut → Heap → Prop} (hn : args.length ≤ 25)
    (h : ∀ R : APost, (∀ e env A, fpost a_Pslotmap_Map_Set.res Ko e env A → R e env A) → X Try.prog R a_Pslotmap_Map_Set.body .done (env0 args) A) : SimX Try.prog F_Pslotmap_Map_Set args A Ko :=
  X_intro g_Pslotmap_Map_Set c_Pslotmap_Map_Set (by rw [Try.ntmps27]; exact hn) h
theorem v_Pslotmap_Map_Set {args : List AV} {v : AV} (hn : args.length ≤ 25) (h : X Try.prog (fin a_Pslotmap_Map_Set.res v) a_Pslotmap_Map_Set.body .done (env0 args) H0) : Gives Try.prog F_Pslotmap_Map_Set args v :=
  Gives_intro g_Pslotmap_Map_Set c_Pslotmap_Map_Set (by rw [Try.ntmps27]; exact hn) h
theorem e_Pslotmap_Map_Set {args : List AV} {Q : AOut → Prop} (hn : args.length ≤ 25) (h : X Try.prog (finE a_Pslotmap_Map_Set.res Q) a_Pslotmap_Map_Set.body .done (env0 args) H0) : Fins Try.prog F_Pslotmap_Map_Set args Q :=
  Fins_intro g_Pslotmap_Map_Set c_Pslotmap_Map_Set (by rw [Try.ntmps27]; exact hn) h
theorem j_Pslotmap_Map_Set {args : List AV} {A : Heap} {K Kp : AV → Heap → Prop} (hn : args.length ≤ 25) (h : X Try.prog (inl a_Pslotmap_Map_Set.res K Kp) a_Pslotmap_Map_Set.body .done (env0 args) A) : SimX Try.prog F_Pslotmap_Map_Set args A (outK K Kp) :=
  X_inl g_Pslotmap_Map_Set c_Pslotmap_Map_Set (by rw [Try.ntmps27]; exact hn) h
theorem d_Pslotmap_Map_Set {args : List AV} {A : Heap} {Ko : AOut → Heap → Prop} (hn : args.length ≤ 25) (hrf : AVL.Func.hasRF Try.f27 = false)
    (h : ∀ R : APost, (∀ e env A, fpost a_Pslotmap_Map_Set.res Ko e env A → R e env A) → X Try.prog R a_Pslotmap_Map_Set.body .done (env0 args) A) : SimD Try.prog F_Pslotmap_Map_Set args A Ko :=
  X_introD g_Pslotmap_Map_Set c_Pslotmap_Map_Set (by rw [Try.ntmps27]; exact hn) hrf h
@[simp] theorem k_Pslotmap_Map_Set : callable Try.prog F_Pslotmap_Map_Set = true := by kernel_rfl
theorem c_Pslotmap_Map_Take : trF Try.prog Try.f29 = some a_Pslotmap_Map_Take := by kernel_rfl
theorem g_Pslotmap_Map_Take : Try.prog.funcs[29]? = some Try.f29 := by kernel_rfl
theorem i_Pslotmap_Map_Take {args : List AV} {A : Heap} {Ko : AOut → Heap → Prop} (hn : args.length ≤ 41)
    (h : ∀ R : APost, (∀ e env A, fpost a_Pslotmap_Map_Take.res Ko e env A → R e env A) → X Try.prog R a_Pslotmap_Map_Take.body .done (env0 args) A) : SimX Try.prog F_Pslotmap_Map_Take args A Ko :=
  X_intro g_Pslotmap_Map_Take c_Pslotmap_Map_Take (by rw [Try.ntmps29]; exact hn) h
theorem v_Pslotmap_Map_Take {args : List AV} {v : AV} (hn : args.length ≤ 41) (h : X Try.prog (fin a_Pslotmap_Map_Take.res v) a_Pslotmap_Map_Take.body .done (env0 args) H0) : Gives Try.prog F_Pslotmap_Map_Take args v :=
  Gives_intro g_Pslotmap_Map_Take c_Pslotmap_Map_Take (by rw [Try.ntmps29]; exact hn) h
theorem e_Pslotmap_Map_Take {args : List AV} {Q : AOut → Prop} (hn : args.length ≤ 41) (h : X Try.prog (finE a_Pslotmap_Map_Take.res Q) a_Pslotmap_Map_Take.body .done (env0 args) H0) : Fins Try.prog F_Pslotmap_Map_Take args Q :=
  Fins_intro g_Pslotmap_Map_Take c_Pslotmap_Map_Take (by rw [Try.ntmps29]; exact hn) h
theorem j_Pslotmap_Map_Take {args : List AV} {A : Heap} {K Kp : AV → Heap → Prop} (hn : args.length ≤ 41) (h : X Try.prog (inl a_Pslotmap_Map_Take.res K Kp) a_Pslotmap_Map_Take.body .done (env0 args) A) : SimX Try.prog F_Pslotmap_Map_Take args A (outK K Kp) :=
  X_inl g_Pslotmap_Map_Take c_Pslotmap_Map_Take (by rw [Try.ntmps29]; exact hn) h
theorem d_Pslotmap_Map_Take {args : List AV} {A : Heap} {Ko : AOut → Heap → Prop} (hn : args.length ≤ 41) (hrf : AVL.Func.hasRF Try.f29 = false)
    (h : ∀ R : APost, (∀ e env A, fpost a_Pslotmap_Map_Take.res Ko e env A → R e env A) → X Try.prog R a_Pslotmap_Map_Take.body .done (env0 args) A) : SimD Try.prog F_Pslotmap_Map_Take args A Ko :=
  X_introD g_Pslotmap_Map_Take c_Pslotmap_Map_Take (by rw [Try.ntmps29]; exact hn) hrf h
@[simp] theorem k_Pslotmap_Map_Take : callable Try.prog F_Pslotmap_Map_Take = true := by kernel_rfl
theorem rd_Pslotmap_Map_Take_0 {g : Nat} {en vs : List AV} {A : Heap} {K Kp : AV → Heap → Prop} (hA : A g = some (.lp en [18] (rfA Try.f29 0) (rfB Try.f29 0) .ready)) (hn : en.length = 41) (hv : vs.length = 1)
    (h : X Try.prog (rdA Try.prog g en [18] (rfA Try.f29 0) (rfB Try.f29 0) rb_Pslotmap_Map_Take_0 K) ra_Pslotmap_Map_Take_0 .done (roundEnv en [18] vs) A) : SimR Try.prog g vs A (outK K Kp) :=
  X_round (n := 41) hA (by kernel_rfl) (by kernel_rfl) hn (by decide) hv (by kernel_rfl) (by kernel_rfl) h
theorem c_Pslotmap_Map_Put : trF Try.prog Try.f32 = some a_Pslotmap_Map_Put := by kernel_rfl
theorem g_Pslotmap_Map_Put : Try.prog.funcs[32]? = some Try.f32 := by kernel_rfl
theorem i_Pslotmap_Map_Put {args : List AV} {A : Heap} {Ko : AOut → Heap → Prop} (hn : args.length ≤ 43)
    (h : ∀ R : APost, (∀ e env A, fpost a_Pslotmap_Map_Put.res Ko e env A → R e env A) → X Try.prog R a_Pslotmap_Map_Put.body .done (env0 args) A) : SimX Try.prog F_Pslotmap_Map_Put args A Ko :=
  X_intro g_Pslotmap_Map_Put c_Pslotmap_Map_Put (by rw [Try.ntmps32]; exact hn) h
theorem v_Pslotmap_Map_Put {args : List AV} {v : AV} (hn : args.length ≤ 43) (h : X Try.prog (fin a_Pslotmap_Map_Put.res v) a_Pslotmap_Map_Put.body .done (env0 args) H0) : Gives Try.prog F_Pslotmap_Map_Put args v :=
  Gives_intro g_Pslotmap_Map_Put c_Pslotmap_Map_Put (by rw [Try.ntmps32]; exact hn) h
theorem e_Pslotmap_Map_Put {args : List AV} {Q : AOut → Prop} (hn : args.length ≤ 43) (h : X Try.prog (finE a_Pslotmap_Map_Put.res Q) a_Pslotmap_Map_Put.body .done (env0 args) H0) : Fins Try.prog F_Pslotmap_Map_Put args Q :=
  Fins_intro g_Pslotmap_Map_Put c_Pslotmap_Map_Put (by rw [Try.ntmps32]; exact hn) h
theorem j_Pslotmap_Map_Put {args : List AV} {A : Heap} {K Kp : AV → Heap → Prop} (hn : args.length ≤ 43) (h : X Try.prog (inl a_Pslotmap_Map_Put.res K Kp) a_Pslotmap_Map_Put.body .done (env0 args) A) : SimX Try.prog F_Pslotmap_Map_Put args A (outK K Kp) :=
  X_inl g_Pslotmap_Map_Put c_Pslotmap_Map_Put (by rw [Try.ntmps32]; exact hn) h
theorem d_Pslotmap_Map_Put {args : List AV} {A : Heap} {Ko : AOut → Heap → Prop} (hn : args.length ≤ 43) (hrf : AVL.Func.hasRF Try.f32 = false)
    (h : ∀ R : APost, (∀ e env A, fpost a_Pslotmap_Map_Put.res Ko e env A → R e env A) → X Try.prog R a_Pslotmap_Map_Put.body .done (env0 args) A) : SimD Try.prog F_Pslotmap_Map_Put args A Ko :=
  X_introD g_Pslotmap_Map_Put c_Pslotmap_Map_Put (by rw [Try.ntmps32]; exact hn) hrf h
@[simp] theorem k_Pslotmap_Map_Put : callable Try.prog F_Pslotmap_Map_Put = true := by kernel_rfl
theorem c_Pslotmap_Map_Len : trF Try.prog Try.f35 = some a_Pslotmap_Map_Len := by kernel_rfl
theorem g_Pslotmap_Map_Len : Try.prog.funcs[35]? = some Try.f35 := by kernel_rfl
theorem i_Pslotmap_Map_Len {args : List AV} {A : Heap} {Ko : AOut → Heap → Prop} (hn : args.length ≤ 8)
    (h : ∀ R : APost, (∀ e env A, fpost a_Pslotmap_Map_Len.res Ko e env A → R e env A) → X Try.prog R a_Pslotmap_Map_Len.body .done (env0 args) A) : SimX Try.prog F_Pslotmap_Map_Len args A Ko :=
  X_intro g_Pslotmap_Map_Len c_Pslotmap_Map_Len (by rw [Try.ntmps35]; exact hn) h
theorem v_Pslotmap_Map_Len {args : List AV} {v : AV} (hn : args.length ≤ 8) (h : X Try.prog (fin a_Pslotmap_Map_Len.res v) a_Pslotmap_Map_Len.body .done (env0 args) H0) : Gives Try.prog F_Pslotmap_Map_Len args v :=
  Gives_intro g_Pslotmap_Map_Len c_Pslotmap_Map_Len (by rw [Try.ntmps35]; exact hn) h
theorem e_Pslotmap_Map_Len {args : List AV} {Q : AOut → Prop} (hn : args.length ≤ 8) (h : X Try.prog (finE a_Pslotmap_Map_Len.res Q) a_Pslotmap_Map_Len.body .done (env0 args) H0) : Fins Try.prog F_Pslotmap_Map_Len args Q :=
  Fins_intro g_Pslotmap_Map_Len c_Pslotmap_Map_Len (by rw [Try.ntmps35]; exact hn) h
theorem j_Pslotmap_Map_Len {args : List AV} {A : Heap} {K Kp : AV → Heap → Prop} (hn : args.length ≤ 8) (h : X Try.prog (inl a_Pslotmap_Map_Len.res K Kp) a_Pslotmap_Map_Len.body .done (env0 args) A) : SimX Try.prog F_Pslotmap_Map_Len args A (outK K Kp) :=
  X_inl g_Pslotmap_Map_Len c_Pslotmap_Map_Len (by rw [Try.ntmps35]; exact hn) h
theorem d_Pslotmap_Map_Len {args : List AV} {A : Heap} {Ko : AOut → Heap → Prop} (hn : args.length ≤ 8) (hrf : AVL.Func.hasRF Try.f35 = false)
    (h : ∀ R : APost, (∀ e env A, fpost a_Pslotmap_Map_Len.res Ko e env A → R e env A) → X Try.prog R a_Pslotmap_Map_Len.body .done (env0 args) A) : SimD Try.prog F_Pslotmap_Map_Len args A Ko :=
  X_introD g_Pslotmap_Map_Len c_Pslotmap_Map_Len (by rw [Try.ntmps35]; exact hn) hrf h
@[simp] theorem k_Pslotmap_Map_Len : callable Try.prog F_Pslotmap_Map_Len = true := by kernel_rfl
theorem c_Pslotmap_Map_Count : trF Try.prog Try.f36 = some a_Pslotmap_Map_Count := by kernel_rfl
theorem g_Pslotmap_Map_Count : Try.prog.funcs[36]? = some Try.f36 := by kernel_rfl
theorem i_Pslotmap_Map_Count {args : List AV} {A : Heap} {Ko : AOut → Heap → Prop} (hn : args.length ≤ 13)
    (h : ∀ R : APost, (∀ e env A, fpost a_Pslotmap_Map_Count.res Ko e env A → R e env A) → X Try.prog R a_Pslotmap_Map_Count.body .done (env0 args) A) : SimX Try.prog F_Pslotmap_Map_Count args A Ko :=
  X_intro g_Pslotmap_Map_Count c_Pslotmap_Map_Count (by rw [Try.ntmps36]; exact hn) h
theorem v_Pslotmap_Map_Count {args : List AV} {v : AV} (hn : args.length ≤ 13) (h : X Try.prog (fin a_Pslotmap_Map_Count.res v) a_Pslotmap_Map_Count.body .done (env0 args) H0) : Gives Try.prog F_Pslotmap_Map_Count args v :=
  Gives_intro g_Pslotmap_Map_Count c_Pslotmap_Map_Count (by rw [Try.ntmps36]; exact hn) h
theorem e_Pslotmap_Map_Count {args : List AV} {Q : AOut → Prop} (hn : args.length ≤ 13) (h : X Try.prog (finE a_Pslotmap_Map_Count.res Q) a_Pslotmap_Map_Count.body .done (env0 args) H0) : Fins Try.prog F_Pslotmap_Map_Count args Q :=
  Fins_intro g_Pslotmap_Map_Count c_Pslotmap_Map_Count (by rw [Try.ntmps36]; exact hn) h
theorem j_Pslotmap_Map_Count {args : List AV} {A : Heap} {K Kp : AV → Heap → Prop} (hn : args.length ≤ 13) (h : X Try.prog (inl a_Pslotmap_Map_Count.res K Kp) a_Pslotmap_Map_Count.body .done (env0 args) A) : SimX Try.prog F_Pslotmap_Map_Count args A (outK K Kp) :=
  X_inl g_Pslotmap_Map_Count c_Pslotmap_Map_Count (by rw [Try.ntmps36]; exact hn) h
theorem d_Pslotmap_Map_Count {args : List AV} {A : Heap} {Ko : AOut → Heap → Prop} (hn : args.length ≤ 13) (hrf : AVL.Func.hasRF Try.f36 = false)
    (h : ∀ R : APost, (∀ e env A, fpost a_Pslotmap_Map_Count.res Ko e env A → R e env A) → X Try.prog R a_Pslotmap_Map_Count.body .done (env0 args) A) : SimD Try.prog F_Pslotmap_Map_Count args A Ko :=
  X_introD g_Pslotmap_Map_Count c_Pslotmap_Map_Count (by rw [Try.ntmps36]; exact hn) hrf h
@[simp] theorem k_Pslotmap_Map_Count : callable Try.prog F_Pslotmap_Map_Count = true := by kernel_rfl
theorem rd_Pslotmap_Map_Count_0 {g : Nat} {en vs : List AV} {A : Heap} {K Kp : AV → Heap → Prop} (hA : A g = some (.lp en [9] (rfA Try.f36 0) (rfB Try.f36 0) .ready)) (hn : en.length = 13) (hv : vs.length = 1)
    (h : X Try.prog (rdA Try.prog g en [9] (rfA Try.f36 0) (rfB Try.f36 0) rb_Pslotmap_Map_Count_0 K) ra_Pslotmap_Map_Count_0 .done (roundEnv en [9] vs) A) : SimR Try.prog g vs A (outK K Kp) :=
  X_round (n := 13) hA (by kernel_rfl) (by kernel_rfl) hn (by decide) hv (by kernel_rfl) (by kernel_rfl) h
theorem c_Pslotmap_Map_First : trF Try.prog Try.f37 = some a_Pslotmap_Map_First := by kernel_rfl
theorem g_Pslotmap_Map_First : Try.prog.funcs[37]? = some Try.f37 := by kernel_rfl
theorem i_Pslotmap_Map_First {args : List AV} {A : Heap} {Ko : AOut → Heap → Prop} (hn : args.length ≤ 11)
    (h : ∀ R : APost, (∀ e env A, fpost a_Pslotmap_Map_First.res Ko e env A → R e env A) → X Try.prog R a_Pslotmap_Map_First.body .done (env0 args) A) : SimX Try.prog F_Pslotmap_Map_First args A Ko :=
  X_intro g_Pslotmap_Map_First c_Pslotmap_Map_First (by rw [Try.ntmps37]; exact hn) h
theorem v_Pslotmap_Map_First {args : List AV} {v : AV} (hn : args.length ≤ 11) (h : X Try.prog (fin a_Pslotmap_Map_First.res v) a_Pslotmap_Map_First.body .done (env0 args) H0) : Gives Try.prog F_Pslotmap_Map_First args v :=
  Gives_intro g_Pslotmap_Map_First c_Pslotmap_Map_First (by rw [Try.ntmps37]; exact hn) h
theorem e_Pslotmap_Map_First {args : List AV} {Q : AOut → Prop} (hn : args.length ≤ 11) (h : X Try.prog (finE a_Pslotmap_Map_First.res Q) a_Pslotmap_Map_First.body .done (env0 args) H0) : Fins Try.prog F_Pslotmap_Map_First args Q :=
  Fins_intro g_Pslotmap_Map_First c_Pslotmap_Map_First (by rw [Try.ntmps37]; exact hn) h
theorem j_Pslotmap_Map_First {args : List AV} {A : Heap} {K Kp : AV → Heap → Prop} (hn : args.length ≤ 11) (h : X Try.prog (inl a_Pslotmap_Map_First.res K Kp) a_Pslotmap_Map_First.body .done (env0 args) A) : SimX Try.prog F_Pslotmap_Map_First args A (outK K Kp) :=
  X_inl g_Pslotmap_Map_First c_Pslotmap_Map_First (by rw [Try.ntmps37]; exact hn) h
theorem d_Pslotmap_Map_First {args : List AV} {A : Heap} {Ko : AOut → Heap → Prop} (hn : args.length ≤ 11) (hrf : AVL.Func.hasRF Try.f37 = false)
    (h : ∀ R : APost, (∀ e env A, fpost a_Pslotmap_Map_First.res Ko e env A → R e env A) → X Try.prog R a_Pslotmap_Map_First.body .done (env0 args) A) : SimD Try.prog F_Pslotmap_Map_First args A Ko :=
  X_introD g_Pslotmap_Map_First c_Pslotmap_Map_First (by rw [Try.ntmps37]; exact hn) hrf h
@[simp] theorem k_Pslotmap_Map_First : callable Try.prog F_Pslotmap_Map_First = true := by kernel_rfl
theorem rd_Pslotmap_Map_First_0 {g : Nat} {en vs : List AV} {A : Heap} {K Kp : AV → Heap → Prop} (hA : A g = some (.lp en [9] (rfA Try.f37 0) (rfB Try.f37 0) .ready)) (hn : en.length = 11) (hv : vs.length = 1)
    (h : X Try.prog (rdA Try.prog g en [9] (rfA Try.f37 0) (rfB Try.f37 0) rb_Pslotmap_Map_First_0 K) ra_Pslotmap_Map_First_0 .done (roundEnv en [9] vs) A) : SimR Try.prog g vs A (outK K Kp) :=
  X_round (n := 11) hA (by kernel_rfl) (by kernel_rfl) hn (by decide) hv (by kernel_rfl) (by kernel_rfl) h
theorem c_Pslotmap_Map_Get : trF Try.prog Try.f38 = some a_Pslotmap_Map_Get := by kernel_rfl
theorem g_Pslotmap_Map_Get : Try.prog.funcs[38]? = some Try.f38 := by kernel_rfl
theorem i_Pslotmap_Map_Get {args : List AV} {A : Heap} {Ko : AOut → Heap → Prop} (hn : args.length ≤ 24)
    (h : ∀ R : APost, (∀ e env A, fpost a_Pslotmap_Map_Get.res Ko e env A → R e env A) → X Try.prog R a_Pslotmap_Map_Get.body .done (env0 args) A) : SimX Try.prog F_Pslotmap_Map_Get args A Ko :=
  X_intro g_Pslotmap_Map_Get c_Pslotmap_Map_Get (by rw [Try.ntmps38]; exact hn) h
theorem v_Pslotmap_Map_Get {args : List AV} {v : AV} (hn : args.length ≤ 24) (h : X Try.prog (fin a_Pslotmap_Map_Get.res v) a_Pslotmap_Map_Get.body .done (env0 args) H0) : Gives Try.prog F_Pslotmap_Map_Get args v :=
  Gives_intro g_Pslotmap_Map_Get c_Pslotmap_Map_Get (by rw [Try.ntmps38]; exact hn) h
theorem e_Pslotmap_Map_Get {args : List AV} {Q : AOut → Prop} (hn : args.length ≤ 24) (h : X Try.prog (finE a_Pslotmap_Map_Get.res Q) a_Pslotmap_Map_Get.body .done (env0 args) H0) : Fins Try.prog F_Pslotmap_Map_Get args Q :=
  Fins_intro g_Pslotmap_Map_Get c_Pslotmap_Map_Get (by rw [Try.ntmps38]; exact hn) h
theorem j_Pslotmap_Map_Get {args : List AV} {A : Heap} {K Kp : AV → Heap → Prop} (hn : args.length ≤ 24) (h : X Try.prog (inl a_Pslotmap_Map_Get.res K Kp) a_Pslotmap_Map_Get.body .done (env0 args) A) : SimX Try.prog F_Pslotmap_Map_Get args A (outK K Kp) :=
  X_inl g_Pslotmap_Map_Get c_Pslotmap_Map_Get (by rw [Try.ntmps38]; exact hn) h
theorem d_Pslotmap_Map_Get {args : List AV} {A : Heap} {Ko : AOut → Heap → Prop} (hn : args.length ≤ 24) (hrf : AVL.Func.hasRF Try.f38 = false)
    (h : ∀ R : APost, (∀ e env A, fpost a_Pslotmap_Map_Get.res Ko e env A → R e env A) → X Try.prog R a_Pslotmap_Map_Get.body .done (env0 args) A) : SimD Try.prog F_Pslotmap_Map_Get args A Ko :=
  X_introD g_Pslotmap_Map_Get c_Pslotmap_Map_Get (by rw [Try.ntmps38]; exact hn) hrf h
@[simp] theorem k_Pslotmap_Map_Get : callable Try.prog F_Pslotmap_Map_Get = true := by kernel_rfl
theorem c_Pslotmap_Map_Last : trF Try.prog Try.f82 = some a_Pslotmap_Map_Last := by kernel_rfl
theorem g_Pslotmap_Map_Last : Try.prog.funcs[82]? = some Try.f82 := by kernel_rfl
theorem i_Pslotmap_Map_Last {args : List AV} {A : Heap} {Ko : AOut → Heap → Prop} (hn : args.length ≤ 13)
    (h : ∀ R : APost, (∀ e env A, fpost a_Pslotmap_Map_Last.res Ko e env A → R e env A) → X Try.prog R a_Pslotmap_Map_Last.body .done (env0 args) A) : SimX Try.prog F_Pslotmap_Map_Last args A Ko :=
  X_intro g_Pslotmap_Map_Last c_Pslotmap_Map_Last (by rw [Try.ntmps82]; exact hn) h
theorem v_Pslotmap_Map_Last {args : List AV} {v : AV} (hn : args.length ≤ 13) (h : X Try.prog (fin a_Pslotmap_Map_Last.res v) a_Pslotmap_Map_Last.body .done (env0 args) H0) : Gives Try.prog F_Pslotmap_Map_Last args v :=
  Gives_intro g_Pslotmap_Map_Last c_Pslotmap_Map_Last (by rw [Try.ntmps82]; exact hn) h
theorem e_Pslotmap_Map_Last {args : List AV} {Q : AOut → Prop} (hn : args.length ≤ 13) (h : X Try.prog (finE a_Pslotmap_Map_Last.res Q) a_Pslotmap_Map_Last.body .done (env0 args) H0) : Fins Try.prog F_Pslotmap_Map_Last args Q :=
  Fins_intro g_Pslotmap_Map_Last c_Pslotmap_Map_Last (by rw [Try.ntmps82]; exact hn) h
theorem j_Pslotmap_Map_Last {args : List AV} {A : Heap} {K Kp : AV → Heap → Prop} (hn : args.length ≤ 13) (h : X Try.prog (inl a_Pslotmap_Map_Last.res K Kp) a_Pslotmap_Map_Last.body .done (env0 args) A) : SimX Try.prog F_Pslotmap_Map_Last args A (outK K Kp) :=
  X_inl g_Pslotmap_Map_Last c_Pslotmap_Map_Last (by rw [Try.ntmps82]; exact hn) h
theorem d_Pslotmap_Map_Last {args : List AV} {A : Heap} {Ko : AOut → Heap → Prop} (hn : args.length ≤ 13) (hrf : AVL.Func.hasRF Try.f82 = false)
    (h : ∀ R : APost, (∀ e env A, fpost a_Pslotmap_Map_Last.res Ko e env A → R e env A) → X Try.prog R a_Pslotmap_Map_Last.body .done (env0 args) A) : SimD Try.prog F_Pslotmap_Map_Last args A Ko :=
  X_introD g_Pslotmap_Map_Last c_Pslotmap_Map_Last (by rw [Try.ntmps82]; exact hn) hrf h
@[simp] theorem k_Pslotmap_Map_Last : callable Try.prog F_Pslotmap_Map_Last = true := by kernel_rfl
theorem rd_Pslotmap_Map_Last_0 {g : Nat} {en vs : List AV} {A : Heap} {K Kp : AV → Heap → Prop} (hA : A g = some (.lp en [10] (rfA Try.f82 0) (rfB Try.f82 0) .ready)) (hn : en.length = 13) (hv : vs.length = 1)
    (h : X Try.prog (rdA Try.prog g en [10] (rfA Try.f82 0) (rfB Try.f82 0) rb_Pslotmap_Map_Last_0 K) ra_Pslotmap_Map_Last_0 .done (roundEnv en [10] vs) A) : SimR Try.prog g vs A (outK K Kp) :=
  X_round (n := 13) hA (by kernel_rfl) (by kernel_rfl) hn (by decide) hv (by kernel_rfl) (by kernel_rfl) h
theorem c_Pslotmap_Map_All : trF Try.prog Try.f84 = some a_Pslotmap_Map_All := by kernel_rfl
theorem g_Pslotmap_Map_All : Try.prog.funcs[84]? = some Try.f84 := by kernel_rfl
theorem i_Pslotmap_Map_All {args : List AV} {A : Heap} {Ko : AOut → Heap → Prop} (hn : args.length ≤ 6)
    (h : ∀ R : APost, (∀ e env A, fpost a_Pslotmap_Map_All.res Ko e env A → R e env A) → X Try.prog R a_Pslotmap_Map_All.body .done (env0 args) A) : SimX Try.prog F_Pslotmap_Map_All args A Ko :=
  X_intro g_Pslotmap_Map_All c_Pslotmap_Map_All (by rw [Try.ntmps84]; exact hn) h
theorem v_Pslotmap_Map_All {args : List AV} {v : AV} (hn : args.length ≤ 6) (h : X Try.prog (fin a_Pslotmap_Map_All.res v) a_Pslotmap_Map_All.body .done (env0 args) H0) : Gives Try.prog F_Pslotmap_Map_All args v :=
  Gives_intro g_Pslotmap_Map_All c_Pslotmap_Map_All (by rw [Try.ntmps84]; exact hn) h
theorem e_Pslotmap_Map_All {args : List AV} {Q : AOut → Prop} (hn : args.length ≤ 6) (h : X Try.prog (finE a_Pslotmap_Map_All.res Q) a_Pslotmap_Map_All.body .done (env0 args) H0) : Fins Try.prog F_Pslotmap_Map_All args Q :=
  Fins_intro g_Pslotmap_Map_All c_Pslotmap_Map_All (by rw [Try.ntmps84]; exact hn) h
theorem j_Pslotmap_Map_All {args : List AV} {A : Heap} {K Kp : AV → Heap → Prop} (hn : args.length ≤ 6) (h : X Try.prog (inl a_Pslotmap_Map_All.res K Kp) a_Pslotmap_Map_All.body .done (env0 args) A) : SimX Try.prog F_Pslotmap_Map_All args A (outK K Kp) :=
  X_inl g_Pslotmap_Map_All c_Pslotmap_Map_All (by rw [Try.ntmps84]; exact hn) h
theorem d_Pslotmap_Map_All {args : List AV} {A : Heap} {Ko : AOut → Heap → Prop} (hn : args.length ≤ 6) (hrf : AVL.Func.hasRF Try.f84 = false)
    (h : ∀ R : APost, (∀ e env A, fpost a_Pslotmap_Map_All.res Ko e env A → R e env A) → X Try.prog R a_Pslotmap_Map_All.body .done (env0 args) A) : SimD Try.prog F_Pslotmap_Map_All args A Ko :=
  X_introD g_Pslotmap_Map_All c_Pslotmap_Map_All (by rw [Try.ntmps84]; exact hn) hrf h
@[simp] theorem k_Pslotmap_Map_All : callable Try.prog F_Pslotmap_Map_All = true := by kernel_rfl
theorem c_Pslotmap_Map_All_1 : trF Try.prog Try.f123 = some a_Pslotmap_Map_All_1 := by kernel_rfl
theorem g_Pslotmap_Map_All_1 : Try.prog.funcs[123]? = some Try.f123 := by kernel_rfl
theorem i_Pslotmap_Map_All_1 {args : List AV} {A : Heap} {Ko : AOut → Heap → Prop} (hn : args.length ≤ 27)
    (h : ∀ R : APost, (∀ e env A, fpost a_Pslotmap_Map_All_1.res Ko e env A → R e env A) → X Try.prog R a_Pslotmap_Map_All_1.body .done (env0 args) A) : SimX Try.prog F_Pslotmap_Map_All_1 args A Ko :=
  X_intro g_Pslotmap_Map_All_1 c_Pslotmap_Map_All_1 (by rw [Try.ntmps123]; exact hn) h
theorem v_Pslotmap_Map_All_1 {args : List AV} {v : AV} (hn : args.length ≤ 27) (h : X Try.prog (fin a_Pslotmap_Map_All_1.res v) a_Pslotmap_Map_All_1.body .done (env0 args) H0) : Gives Try.prog F_Pslotmap_Map_All_1 args v :=
  Gives_intro g_Pslotmap_Map_All_1 c_Pslotmap_Map_All_1 (by rw [Try.ntmps123]; exact hn) h
theorem e_Pslotmap_Map_All_1 {args : List AV} {Q : AOut → Prop} (hn : args.length ≤ 27) (h : X Try.prog (finE a_Pslotmap_Map_All_1.res Q) a_Pslotmap_Map_All_1.body .done (env0 args) H0) : Fins Try.prog F_Pslotmap_Map_All_1 args Q :=
  Fins_intro g_Pslotmap_Map_All_1 c_Pslotmap_Map_All_1 (by rw [Try.ntmps123]; exact hn) h
theorem j_Pslotmap_Map_All_1 {args : List AV} {A : Heap} {K Kp : AV → Heap → Prop} (hn : args.length ≤ 27) (h : X Try.prog (inl a_Pslotmap_Map_All_1.res K Kp) a_Pslotmap_Map_All_1.body .done (env0 args) A) : SimX Try.prog F_Pslotmap_Map_All_1 args A (outK K Kp) :=
  X_inl g_Pslotmap_Map_All_1 c_Pslotmap_Map_All_1 (by rw [Try.ntmps123]; exact hn) h
theorem d_Pslotmap_Map_All_1 {args : List AV} {A : Heap} {Ko : AOut → Heap → Prop} (hn : args.length ≤ 27) (hrf : AVL.Func.hasRF Try.f123 = false)
    (h : ∀ R : APost, (∀ e env A, fpost a_Pslotmap_Map_All_1.res Ko e env A → R e env A) → X Try.prog R a_Pslotmap_Map_All_1.body .done (env0 args) A) : SimD Try.prog F_Pslotmap_Map_All_1 args A Ko :=
  X_introD g_Pslotmap_Map_All_1 c_Pslotmap_Map_All_1 (by rw [Try.ntmps123]; exact hn) hrf h
@[simp] theorem k_Pslotmap_Map_All_1 : callable Try.prog F_Pslotmap_Map_All_1 = true := by kernel_rfl
theorem c_ref10_Set : trF Try.prog Try.f26 = some a_ref10_Set := by kernel_rfl
theorem g_ref10_Set : Try.prog.funcs[26]? = some Try.f26 := by kernel_rfl
theorem i_ref10_Set {args : List AV} {A : Heap} {Ko : AOut → Heap → Prop} (hn : args.length ≤ 33)
    (h : ∀ R : APost, (∀ e env A, fpost a_ref10_Set.res Ko e env A → R e env A) → X Try.prog R a_ref10_Set.body .done (env0 args) A) : SimX Try.prog F_ref10_Set args A Ko :=
  X_intro g_ref10_Set c_ref10_Set (by rw [Try.ntmps26]; exact hn) h
theorem v_ref10_Set {args : List AV} {v : AV} (hn : args.length ≤ 33) (h : X Try.prog (fin a_ref10_Set.res v) a_ref10_Set.body .done (env0 args) H0) : Gives Try.prog F_ref10_Set args v :=
  Gives_intro g_ref10_Set c_ref10_Set (by rw [Try.ntmps26]; exact hn) h
theorem e_ref10_Set {args : List AV} {Q : AOut → Prop} (hn : args.length ≤ 33) (h : X Try.prog (finE a_ref10_Set.res Q) a_ref10_Set.body .done (env0 args) H0) : Fins Try.prog F_ref10_Set args Q :=
  Fins_intro g_ref10_Set c_ref10_Set (by rw [Try.ntmps26]; exact hn) h
theorem j_ref10_Set {args : List AV} {A : Heap} {K Kp : AV → Heap → Prop} (hn : args.length ≤ 33) (h : X Try.prog (inl a_ref10_Set.res K Kp) a_ref10_Set.body .done (env0 args) A) : SimX Try.prog F_ref10_Set args A (outK K Kp) :=
  X_inl g_ref10_Set c_ref10_Set (by rw [Try.ntmps26]; exact hn) h
theorem d_ref10_Set {args : List AV} {A : Heap} {Ko : AOut → Heap → Prop} (hn : args.length ≤ 33) (hrf : AVL.Func.hasRF Try.f26 = false)
    (h : ∀ R : APost, (∀ e env A, fpost a_ref10_Set.res Ko e env A → R e env A) → X Try.prog R a_ref10_Set.body .done (env0 args) A) : SimD Try.prog F_ref10_Set args A Ko :=
  X_introD g_ref10_Set c_ref10_Set (by rw [Try.ntmps26]; exact hn) hrf h
@[simp] theorem k_ref10_Set : callable Try.prog F_ref10_Set = true := by kernel_rfl
theorem c_ref10_Take : trF Try.prog Try.f28 = some a_ref10_Take := by kernel_rfl
theorem g_ref10_Take : Try.prog.funcs[28]? = some Try.f28 := by kernel_rfl
theorem i_ref10_Take {args : List AV} {A : Heap} {Ko : AOut → Heap → Prop} (hn : args.length ≤ 39)
    (h : ∀ R : APost, (∀ e env A, fpost a_ref10_Take.res Ko e env A → R e env A) → X Try.prog R a_ref10_Take.body .done (env0 args) A) : SimX Try.prog F_ref10_Take args A Ko :=
  X_intro g_ref10_Take c_ref10_Take (by rw [Try.ntmps28]; exact hn) h
theorem v_ref10_Take {args : List AV} {v : AV} (hn : args.length ≤ 39) (h : X Try.prog (fin a_ref10_Take.res v) a_ref10_Take.body .done (env0 args) H0) : Gives Try.prog F_ref10_Take args v :=
  Gives_intro g_ref10_Take c_ref10_Take (by rw [Try.ntmps28]; exact hn) h
theorem e_ref10_Take {args : List AV} {Q : AOut → Prop} (hn : args.length ≤ 39) (h : X Try.prog (finE a_ref10_Take.res Q) a_ref10_Take.body .done (env0 args) H0) : Fins Try.prog F_ref10_Take args Q :=
  Fins_intro g_ref10_Take c_ref10_Take (by rw [Try.ntmps28]; exact hn) h
theorem j_ref10_Take {args : List AV} {A : Heap} {K Kp : AV → Heap → Prop} (hn : args.length ≤ 39) (h : X Try.prog (inl a_ref10_Take.res K Kp) a_ref10_Take.body .done (env0 args) A) : SimX Try.prog F_ref10_Take args A (outK K Kp) :=
  X_inl g_ref10_Take c_ref10_Take (by rw [Try.ntmps28]; exact hn) h
theorem d_ref10_Take {args : List AV} {A : Heap} {Ko : AOut → Heap → Prop} (hn : args.length ≤ 39) (hrf : AVL.Func.hasRF Try.f28 = false)
    (h : ∀ R : APost, (∀ e env A, fpost a_ref10_Take.res Ko e env A → R e env A) → X Try.prog R a_ref10_Take.body .done (env0 args) A) : SimD Try.prog F_ref10_Take args A Ko :=
  X_introD g_ref10_Take c_ref10_Take (by rw [Try.ntmps28]; exact hn) hrf h
@[simp] theorem k_ref10_Take : callable Try.prog F_ref10_Take = true := by kernel_rfl
theorem c_ref10_Put : trF Try.prog Try.f34 = some a_ref10_Put := by kernel_rfl
theorem g_ref10_Put : Try.prog.funcs[34]? = some Try.f34 := by kernel_rfl
theorem i_ref10_Put {args : List AV} {A : Heap} {Ko : AOut → Heap → Prop} (hn : args.length ≤ 45)
    (h : ∀ R : APost, (∀ e env A, fpost a_ref10_Put.res Ko e env A → R e env A) → X Try.prog R a_ref10_Put.body .done (env0 args) A) : SimX Try.prog F_ref10_Put args A Ko :=
  X_intro g_ref10_Put c_ref10_Put (by rw [Try.ntmps34]; exact hn) h
theorem v_ref10_Put {args : List AV} {v : AV} (hn : args.length ≤ 45) (h : X Try.prog (fin a_ref10_Put.res v) a_ref10_Put.body .done (env0 args) H0) : Gives Try.prog F_ref10_Put args v :=
  Gives_intro g_ref10_Put c_ref10_Put (by rw [Try.ntmps34]; exact hn) h
theorem e_ref10_Put {args : List AV} {Q : AOut → Prop} (hn : args.length ≤ 45) (h : X Try.prog (finE a_ref10_Put.res Q) a_ref10_Put.body .done (env0 args) H0) : Fins Try.prog F_ref10_Put args Q :=
  Fins_intro g_ref10_Put c_ref10_Put (by rw [Try.ntmps34]; exact hn) h
theorem j_ref10_Put {args : List AV} {A : Heap} {K Kp : AV → Heap → Prop} (hn : args.length ≤ 45) (h : X Try.prog (inl a_ref10_Put.res K Kp) a_ref10_Put.body .done (env0 args) A) : SimX Try.prog F_ref10_Put args A (outK K Kp) :=
  X_inl g_ref10_Put c_ref10_Put (by rw [Try.ntmps34]; exact hn) h
theorem d_ref10_Put {args : List AV} {A : Heap} {Ko : AOut → Heap → Prop} (hn : args.length ≤ 45) (hrf : AVL.Func.hasRF Try.f34 = false)
    (h : ∀ R : APost, (∀ e env A, fpost a_ref10_Put.res Ko e env A → R e env A) → X Try.prog R a_ref10_Put.body .done (env0 args) A) : SimD Try.prog F_ref10_Put args A Ko :=
  X_introD g_ref10_Put c_ref10_Put (by rw [Try.ntmps34]; exact hn) hrf h
@[simp] theorem k_ref10_Put : callable Try.prog F_ref10_Put = true := by kernel_rfl
theorem c_ref10_Of : trF Try.prog Try.f83 = some a_ref10_Of := by kernel_rfl
theorem g_ref10_Of : Try.prog.funcs[83]? = some Try.f83 := by kernel_rfl
theorem i_ref10_Of {args : List AV} {A : Heap} {Ko : AOut → Heap → Prop} (hn : args.length ≤ 24)
    (h : ∀ R : APost, (∀ e env A, fpost a_ref10_Of.res Ko e env A → R e env A) → X Try.prog R a_ref10_Of.body .done (env0 args) A) : SimX Try.prog F_ref10_Of args A Ko :=
  X_intro g_ref10_Of c_ref10_Of (by rw [Try.ntmps83]; exact hn) h
theorem v_ref10_Of {args : List AV} {v : AV} (hn : args.length ≤ 24) (h : X Try.prog (fin a_ref10_Of.res v) a_ref10_Of.body .done (env0 args) H0) : Gives Try.prog F_ref10_Of args v :=
  Gives_intro g_ref10_Of c_ref10_Of (by rw [Try.ntmps83]; exact hn) h
theorem e_ref10_Of {args : List AV} {Q : AOut → Prop} (hn : args.length ≤ 24) (h : X Try.prog (finE a_ref10_Of.res Q) a_ref10_Of.body .done (env0 args) H0) : Fins Try.prog F_ref10_Of args Q :=
  Fins_intro g_ref10_Of c_ref10_Of (by rw [Try.ntmps83]; exact hn) h
theorem j_ref10_Of {args : List AV} {A : Heap} {K Kp : AV → Heap → Prop} (hn : args.length ≤ 24) (h : X Try.prog (inl a_ref10_Of.res K Kp) a_ref10_Of.body .done (env0 args) A) : SimX Try.prog F_ref10_Of args A (outK K Kp) :=
  X_inl g_ref10_Of c_ref10_Of (by rw [Try.ntmps83]; exact hn) h
theorem d_ref10_Of {args : List AV} {A : Heap} {Ko : AOut → Heap → Prop} (hn : args.length ≤ 24) (hrf : AVL.Func.hasRF Try.f83 = false)
    (h : ∀ R : APost, (∀ e env A, fpost a_ref10_Of.res Ko e env A → R e env A) → X Try.prog R a_ref10_Of.body .done (env0 args) A) : SimD Try.prog F_ref10_Of args A Ko :=
  X_introD g_ref10_Of c_ref10_Of (by rw [Try.ntmps83]; exact hn) hrf h
@[simp] theorem k_ref10_Of : callable Try.prog F_ref10_Of = true := by kernel_rfl
theorem c_law10_SlotmapDoes : trF Try.prog Try.f6 = some a_law10_SlotmapDoes := by kernel_rfl
theorem g_law10_SlotmapDoes : Try.prog.funcs[6]? = some Try.f6 := by kernel_rfl
theorem i_law10_SlotmapDoes {args : List AV} {A : Heap} {Ko : AOut → Heap → Prop} (hn : args.length ≤ 145)
    (h : ∀ R : APost, (∀ e env A, fpost a_law10_SlotmapDoes.res Ko e env A → R e env A) → X Try.prog R a_law10_SlotmapDoes.body .done (env0 args) A) : SimX Try.prog F_law10_SlotmapDoes args A Ko :=
  X_intro g_law10_SlotmapDoes c_law10_SlotmapDoes (by rw [Try.ntmps6]; exact hn) h
theorem v_law10_SlotmapDoes {args : List AV} {v : AV} (hn : args.length ≤ 145) (h : X Try.prog (fin a_law10_SlotmapDoes.res v) a_law10_SlotmapDoes.body .done (env0 args) H0) : Gives Try.prog F_law10_SlotmapDoes args v :=
  Gives_intro g_law10_SlotmapDoes c_law10_SlotmapDoes (by rw [Try.ntmps6]; exact hn) h
theorem e_law10_SlotmapDoes {args : List AV} {Q : AOut → Prop} (hn : args.length ≤ 145) (h : X Try.prog (finE a_law10_SlotmapDoes.res Q) a_law10_SlotmapDoes.body .done (env0 args) H0) : Fins Try.prog F_law10_SlotmapDoes args Q :=
  Fins_intro g_law10_SlotmapDoes c_law10_SlotmapDoes (by rw [Try.ntmps6]; exact hn) h
theorem j_law10_SlotmapDoes {args : List AV} {A : Heap} {K Kp : AV → Heap → Prop} (hn : args.length ≤ 145) (h : X Try.prog (inl a_law10_SlotmapDoes.res K Kp) a_law10_SlotmapDoes.body .done (env0 args) A) : SimX Try.prog F_law10_SlotmapDoes args A (outK K Kp) :=
  X_inl g_law10_SlotmapDoes c_law10_SlotmapDoes (by rw [Try.ntmps6]; exact hn) h
theorem d_law10_SlotmapDoes {args : List AV} {A : Heap} {Ko : AOut → Heap → Prop} (hn : args.length ≤ 145) (hrf : AVL.Func.hasRF Try.f6 = false)
    (h : ∀ R : APost, (∀ e env A, fpost a_law10_SlotmapDoes.res Ko e env A → R e env A) → X Try.prog R a_law10_SlotmapDoes.body .done (env0 args) A) : SimD Try.prog F_law10_SlotmapDoes args A Ko :=
  X_introD g_law10_SlotmapDoes c_law10_SlotmapDoes (by rw [Try.ntmps6]; exact hn) hrf h
@[simp] theorem k_law10_SlotmapDoes : callable Try.prog F_law10_SlotmapDoes = true := by kernel_rfl
theorem c_law10_SlotmapBack : trF Try.prog Try.f7 = some a_law10_SlotmapBack := by kernel_rfl
theorem g_law10_SlotmapBack : Try.prog.funcs[7]? = some Try.f7 := by kernel_rfl
theorem i_law10_SlotmapBack {args : List AV} {A : Heap} {Ko : AOut → Heap → Prop} (hn : args.length ≤ 141)
    (h : ∀ R : APost, (∀ e env A, fpost a_law10_SlotmapBack.res Ko e env A → R e env A) → X Try.prog R a_law10_SlotmapBack.body .done (env0 args) A) : SimX Try.prog F_law10_SlotmapBack args A Ko :=
  X_intro g_law10_SlotmapBack c_law10_SlotmapBack (by rw [Try.ntmps7]; exact hn) h
theorem v_law10_SlotmapBack {args : List AV} {v : AV} (hn : args.length ≤ 141) (h : X Try.prog (fin a_law10_SlotmapBack.res v) a_law10_SlotmapBack.body .done (env0 args) H0) : Gives Try.prog F_law10_SlotmapBack args v :=
  Gives_intro g_law10_SlotmapBack c_law10_SlotmapBack (by rw [Try.ntmps7]; exact hn) h
theorem e_law10_SlotmapBack {args : List AV} {Q : AOut → Prop} (hn : args.length ≤ 141) (h : X Try.prog (finE a_law10_SlotmapBack.res Q) a_law10_SlotmapBack.body .done (env0 args) H0) : Fins Try.prog F_law10_SlotmapBack args Q :=
  Fins_intro g_law10_SlotmapBack c_law10_SlotmapBack (by rw [Try.ntmps7]; exact hn) h
theorem j_law10_SlotmapBack {args : List AV} {A : Heap} {K Kp : AV → Heap → Prop} (hn : args.length ≤ 141) (h : X Try.prog (inl a_law10_SlotmapBack.res K Kp) a_law10_SlotmapBack.body .done (env0 args) A) : SimX Try.prog F_law10_SlotmapBack args A (outK K Kp) :=
  X_inl g_law10_SlotmapBack c_law10_SlotmapBack (by rw [Try.ntmps7]; exact hn) h
theorem d_law10_SlotmapBack {args : List AV} {A : Heap} {Ko : AOut → Heap → Prop} (hn : args.length ≤ 141) (hrf : AVL.Func.hasRF Try.f7 = false)
    (h : ∀ R : APost, (∀ e env A, fpost a_law10_SlotmapBack.res Ko e env A → R e env A) → X Try.prog R a_law10_SlotmapBack.body .done (env0 args) A) : SimD Try.prog F_law10_SlotmapBack args A Ko :=
  X_introD g_law10_SlotmapBack c_law10_SlotmapBack (by rw [Try.ntmps7]; exact hn) hrf h
@[simp] theorem k_law10_SlotmapBack : callable Try.prog F_law10_SlotmapBack = true := by kernel_rfl
theorem c_law10_SlotmapParts : trF Try.prog Try.f8 = some a_law10_SlotmapParts := by kernel_rfl
theorem g_law10_SlotmapParts : Try.prog.funcs[8]? = some Try.f8 := by kernel_rfl
theorem i_law10_SlotmapParts {args : List AV} {A : Heap} {Ko : AOut → Heap → Prop} (hn : args.length ≤ 162)
    (h : ∀ R : APost, (∀ e env A, fpost a_law10_SlotmapParts.res Ko e env A → R e env A) → X Try.prog R a_law10_SlotmapParts.body .done (env0 args) A) : SimX Try.prog F_law10_SlotmapParts args A Ko :=
  X_intro g_law10_SlotmapParts c_law10_SlotmapParts (by rw [Try.ntmps8]; exact hn) h
theorem v_law10_SlotmapParts {args : List AV} {v : AV} (hn : args.length ≤ 162) (h : X Try.prog (fin a_law10_SlotmapParts.res v) a_law10_SlotmapParts.body .done (env0 args) H0) : Gives Try.prog F_law10_SlotmapParts args v :=
  Gives_intro g_law10_SlotmapParts c_law10_SlotmapParts (by rw [Try.ntmps8]; exact hn) h
theorem e_law10_SlotmapParts {args : List AV} {Q : AOut → Prop} (hn : args.length ≤ 162) (h : X Try.prog (finE a_law10_SlotmapParts.res Q) a_law10_SlotmapParts.body .done (env0 args) H0) : Fins Try.prog F_law10_SlotmapParts args Q :=
  Fins_intro g_law10_SlotmapParts c_law10_SlotmapParts (by rw [Try.ntmps8]; exact hn) h
theorem j_law10_SlotmapParts {args : List AV} {A : Heap} {K Kp : AV → Heap → Prop} (hn : args.length ≤ 162) (h : X Try.prog (inl a_law10_SlotmapParts.res K Kp) a_law10_SlotmapParts.body .done (env0 args) A) : SimX Try.prog F_law10_SlotmapParts args A (outK K Kp) :=
  X_inl g_law10_SlotmapParts c_law10_SlotmapParts (by rw [Try.ntmps8]; exact hn) h
theorem d_law10_SlotmapParts {args : List AV} {A : Heap} {Ko : AOut → Heap → Prop} (hn : args.length ≤ 162) (hrf : AVL.Func.hasRF Try.f8 = false)
    (h : ∀ R : APost, (∀ e env A, fpost a_law10_SlotmapParts.res Ko e env A → R e env A) → X Try.prog R a_law10_SlotmapParts.body .done (env0 args) A) : SimD Try.prog F_law10_SlotmapParts args A Ko :=
  X_introD g_law10_SlotmapParts c_law10_SlotmapParts (by rw [Try.ntmps8]; exact hn) hrf h
@[simp] theorem k_law10_SlotmapParts : callable Try.prog F_law10_SlotmapParts = true := by kernel_rfl
theorem c_law10_works : trF Try.prog Try.f23 = some a_law10_works := by kernel_rfl
theorem g_law10_works : Try.prog.funcs[23]? = some Try.f23 := by kernel_rfl
theorem i_law10_works {args : List AV} {A : Heap} {Ko : AOut → Heap → Prop} (hn : args.length ≤ 137)
    (h : ∀ R : APost, (∀ e env A, fpost a_law10_works.res Ko e env A → R e env A) → X Try.prog R a_law10_works.body .done (env0 args) A) : SimX Try.prog F_law10_works args A Ko :=
  X_intro g_law10_works c_law10_works (by rw [Try.ntmps23]; exact hn) h
theorem v_law10_works {args : List AV} {v : AV} (hn : args.length ≤ 137) (h : X Try.prog (fin a_law10_works.res v) a_law10_works.body .done (env0 args) H0) : Gives Try.prog F_law10_works args v :=
  Gives_intro g_law10_works c_law10_works (by rw [Try.ntmps23]; exact hn) h
theorem e_law10_works {args : List AV} {Q : AOut → Prop} (hn : args.length ≤ 137) (h : X Try.prog (finE a_law10_works.res Q) a_law10_works.body .done (env0 args) H0) : Fins Try.prog F_law10_works args Q :=
  Fins_intro g_law10_works c_law10_works (by rw [Try.ntmps23]; exact hn) h
theorem j_law10_works {args : List AV} {A : Heap} {K Kp : AV → Heap → Prop} (hn : args.length ≤ 137) (h : X Try.prog (inl a_law10_works.res K Kp) a_law10_works.body .done (env0 args) A) : SimX Try.prog F_law10_works args A (outK K Kp) :=
  X_inl g_law10_works c_law10_works (by rw [Try.ntmps23]; exact hn) h
theorem d_law10_works {args : List AV} {A : Heap} {Ko : AOut → Heap → Prop} (hn : args.length ≤ 137) (hrf : AVL.Func.hasRF Try.f23 = false)
    (h : ∀ R : APost, (∀ e env A, fpost a_law10_works.res Ko e env A → R e env A) → X Try.prog R a_law10_works.body .done (env0 args) A) : SimD Try.prog F_law10_works args A Ko :=
  X_introD g_law10_works c_law10_works (by rw [Try.ntmps23]; exact hn) hrf h
@[simp] theorem k_law10_works : callable Try.prog F_law10_works = true := by kernel_rfl
theorem c_law10_ints : trF Try.prog Try.f30 = some a_law10_ints := by kernel_rfl
theorem g_law10_ints : Try.prog.funcs[30]? = some Try.f30 := by kernel_rfl
theorem i_law10_ints {args : List AV} {A : Heap} {Ko : AOut → Heap → Prop} (hn : args.length ≤ 26)
    (h : ∀ R : APost, (∀ e env A, fpost a_law10_ints.res Ko e env A → R e env A) → X Try.prog R a_law10_ints.body .done (env0 args) A) : SimX Try.prog F_law10_ints args A Ko :=
  X_intro g_law10_ints c_law10_ints (by rw [Try.ntmps30]; exact hn) h
theorem v_law10_ints {args : List AV} {v : AV} (hn : args.length ≤ 26) (h : X Try.prog (fin a_law10_ints.res v) a_law10_ints.body .done (env0 args) H0) : Gives Try.prog F_law10_ints args v :=
  Gives_intro g_law10_ints c_law10_ints (by rw [Try.ntmps30]; exact hn) h
theorem e_law10_ints {args : List AV} {Q : AOut → Prop} (hn : args.length ≤ 26) (h : X Try.prog (finE a_law10_ints.res Q) a_law10_ints.body .done (env0 args) H0) : Fins Try.prog F_law10_ints args Q :=
  Fins_intro g_law10_ints c_law10_ints (by rw [Try.ntmps30]; exact hn) h
theorem j_law10_ints {args : List AV} {A : Heap} {K Kp : AV → Heap → Prop} (hn : args.length ≤ 26) (h : X Try.prog (inl a_law10_ints.res K Kp) a_law10_ints.body .done (env0 args) A) : SimX Try.prog F_law10_ints args A (outK K Kp) :=
  X_inl g_law10_ints c_law10_ints (by rw [Try.ntmps30]; exact hn) h
theorem d_law10_ints {args : List AV} {A : Heap} {Ko : AOut → Heap → Prop} (hn : args.length ≤ 26) (hrf : AVL.Func.hasRF Try.f30 = false)
    (h : ∀ R : APost, (∀ e env A, fpost a_law10_ints.res Ko e env A → R e env A) → X Try.prog R a_law10_ints.body .done (env0 args) A) : SimD Try.prog F_law10_ints args A Ko :=
  X_introD g_law10_ints c_law10_ints (by rw [Try.ntmps30]; exact hn) hrf h
@[simp] theorem k_law10_ints : callable Try.prog F_law10_ints = true := by kernel_rfl
theorem c_law10_same : trF Try.prog Try.f31 = some a_law10_same := by kernel_rfl
theorem g_law10_same : Try.prog.funcs[31]? = some Try.f31 := by kernel_rfl
theorem i_law10_same {args : List AV} {A : Heap} {Ko : AOut → Heap → Prop} (hn : args.length ≤ 78)
    (h : ∀ R : APost, (∀ e env A, fpost a_law10_same.res Ko e env A → R e env A) → X Try.prog R a_law10_same.body .done (env0 args) A) : SimX Try.prog F_law10_same args A Ko :=
  X_intro g_law10_same c_law10_same (by rw [Try.ntmps31]; exact hn) h
theorem v_law10_same {args : List AV} {v : AV} (hn : args.length ≤ 78) (h : X Try.prog (fin a_law10_same.res v) a_law10_same.body .done (env0 args) H0) : Gives Try.prog F_law10_same args v :=
  Gives_intro g_law10_same c_law10_same (by rw [Try.ntmps31]; exact hn) h
theorem e_law10_same {args : List AV} {Q : AOut → Prop} (hn : args.length ≤ 78) (h : X Try.prog (finE a_law10_same.res Q) a_law10_same.body .done (env0 args) H0) : Fins Try.prog F_law10_same args Q :=
  Fins_intro g_law10_same c_law10_same (by rw [Try.ntmps31]; exact hn) h
theorem j_law10_same {args : List AV} {A : Heap} {K Kp : AV → Heap → Prop} (hn : args.length ≤ 78) (h : X Try.prog (inl a_law10_same.res K Kp) a_law10_same.body .done (env0 args) A) : SimX Try.prog F_law10_same args A (outK K Kp) :=
  X_inl g_law10_same c_law10_same (by rw [Try.ntmps31]; exact hn) h
theorem d_law10_same {args : List AV} {A : Heap} {Ko : AOut → Heap → Prop} (hn : args.length ≤ 78) (hrf : AVL.Func.hasRF Try.f31 = false)
    (h : ∀ R : APost, (∀ e env A, fpost a_law10_same.res Ko e env A → R e env A) → X Try.prog R a_law10_same.body .done (env0 args) A) : SimD Try.prog F_law10_same args A Ko :=
  X_introD g_law10_same c_law10_same (by rw [Try.ntmps31]; exact hn) hrf h
@[simp] theorem k_law10_same : callable Try.prog F_law10_same = true := by kernel_rfl
theorem c_law10_all : trF Try.prog Try.f85 = some a_law10_all := by kernel_rfl
theorem g_law10_all : Try.prog.funcs[85]? = some Try.f85 := by kernel_rfl
theorem i_law10_all {args : List AV} {A : Heap} {Ko : AOut → Heap → Prop} (hn : args.length ≤ 16)
    (h : ∀ R : APost, (∀ e env A, fpost a_law10_all.res Ko e env A → R e env A) → X Try.prog R a_law10_all.body .done (env0 args) A) : SimX Try.prog F_law10_all args A Ko :=
  X_intro g_law10_all c_law10_all (by rw [Try.ntmps85]; exact hn) h
theorem v_law10_all {args : List AV} {v : AV} (hn : args.length ≤ 16) (h : X Try.prog (fin a_law10_all.res v) a_law10_all.body .done (env0 args) H0) : Gives Try.prog F_law10_all args v :=
  Gives_intro g_law10_all c_law10_all (by rw [Try.ntmps85]; exact hn) h
theorem e_law10_all {args : List AV} {Q : AOut → Prop} (hn : args.length ≤ 16) (h : X Try.prog (finE a_law10_all.res Q) a_law10_all.body .done (env0 args) H0) : Fins Try.prog F_law10_all args Q :=
  Fins_intro g_law10_all c_law10_all (by rw [Try.ntmps85]; exact hn) h
theorem j_law10_all {args : List AV} {A : Heap} {K Kp : AV → Heap → Prop} (hn : args.length ≤ 16) (h : X Try.prog (inl a_law10_all.res K Kp) a_law10_all.body .done (env0 args) A) : SimX Try.prog F_law10_all args A (outK K Kp) :=
  X_inl g_law10_all c_law10_all (by rw [Try.ntmps85]; exact hn) h
theorem d_law10_all {args : List AV} {A : Heap} {Ko : AOut → Heap → Prop} (hn : args.length ≤ 16) (hrf : AVL.Func.hasRF Try.f85 = false)
    (h : ∀ R : APost, (∀ e env A, fpost a_law10_all.res Ko e env A → R e env A) → X Try.prog R a_law10_all.body .done (env0 args) A) : SimD Try.prog F_law10_all args A Ko :=
  X_introD g_law10_all c_law10_all (by rw [Try.ntmps85]; exact hn) hrf h
@[simp] theorem k_law10_all : callable Try.prog F_law10_all = true := by kernel_rfl
theorem rd_law10_all_0 {g : Nat} {en vs : List AV} {A : Heap} {K Kp : AV → Heap → Prop} (hA : A g = some (.lp en [10] (rfA Try.f85 0) (rfB Try.f85 0) .ready)) (hn : en.length = 16) (hv : vs.length = 1)
    (h : X Try.prog (rdA Try.prog g en [10] (rfA Try.f85 0) (rfB Try.f85 0) rb_law10_all_0 K) ra_law10_all_0 .done (roundEnv en [10] vs) A) : SimR Try.prog g vs A (outK K Kp) :=
  X_round (n := 16) hA (by kernel_rfl) (by kernel_rfl) hn (by decide) hv (by kernel_rfl) (by kernel_rfl) h
theorem c_ref08_Sealed : trF Try.prog Try.f89 = some a_ref08_Sealed := by kernel_rfl
theorem g_ref08_Sealed : Try.prog.funcs[89]? = some Try.f89 := by kernel_rfl
theorem i_ref08_Sealed {args : List AV} {A : Heap} {Ko : AOut → Heap → Prop} (hn : args.length ≤ 32)
    (h : ∀ R : APost, (∀ e env A, fpost a_ref08_Sealed.res Ko e env A → R e env A) → X Try.prog R a_ref08_Sealed.body .done (env0 args) A) : SimX Try.prog F_ref08_Sealed args A Ko :=
  X_intro g_ref08_Sealed c_ref08_Sealed (by rw [Try.ntmps89]; exact hn) h
theorem v_ref08_Sealed {args : List AV} {v : AV} (hn : args.length ≤ 32) (h : X Try.prog (fin a_ref08_Sealed.res v) a_ref08_Sealed.body .done (env0 args) H0) : Gives Try.prog F_ref08_Sealed args v :=
  Gives_intro g_ref08_Sealed c_ref08_Sealed (by rw [Try.ntmps89]; exact hn) h
theorem e_ref08_Sealed {args : List AV} {Q : AOut → Prop} (hn : args.length ≤ 32) (h : X Try.prog (finE a_ref08_Sealed.res Q) a_ref08_Sealed.body .done (env0 args) H0) : Fins Try.prog F_ref08_Sealed args Q :=
  Fins_intro g_ref08_Sealed c_ref08_Sealed (by rw [Try.ntmps89]; exact hn) h
theorem j_ref08_Sealed {args : List AV} {A : Heap} {K Kp : AV → Heap → Prop} (hn : args.length ≤ 32) (h : X Try.prog (inl a_ref08_Sealed.res K Kp) a_ref08_Sealed.body .done (env0 args) A) : SimX Try.prog F_ref08_Sealed args A (outK K Kp) :=
  X_inl g_ref08_Sealed c_ref08_Sealed (by rw [Try.ntmps89]; exact hn) h
theorem d_ref08_Sealed {args : List AV} {A : Heap} {Ko : AOut → Heap → Prop} (hn : args.length ≤ 32) (hrf : AVL.Func.hasRF Try.f89 = false)
    (h : ∀ R : APost, (∀ e env A, fpost a_ref08_Sealed.res Ko e env A → R e env A) → X Try.prog R a_ref08_Sealed.body .done (env0 args) A) : SimD Try.prog F_ref08_Sealed args A Ko :=
  X_introD g_ref08_Sealed c_ref08_Sealed (by rw [Try.ntmps89]; exact hn) hrf h
@[simp] theorem k_ref08_Sealed : callable Try.prog F_ref08_Sealed = true := by kernel_rfl
theorem c_crc_Sealed : trF Try.prog Try.f87 = some a_crc_Sealed := by kernel_rfl
theorem g_crc_Sealed : Try.prog.funcs[87]? = some Try.f87 := by kernel_rfl
theorem i_crc_Sealed {args : List AV} {A : Heap} {Ko : AOut → Heap → Prop} (hn : args.length ≤ 12)
    (h : ∀ R : APost, (∀ e env A, fpost a_crc_Sealed.res Ko e env A → R e env A) → X Try.prog R a_crc_Sealed.body .done (env0 args) A) : SimX Try.prog F_crc_Sealed args A Ko :=
  X_intro g_crc_Sealed c_crc_Sealed (by rw [Try.ntmps87]; exact hn) h
theorem v_crc_Sealed {args : List AV} {v : AV} (hn : args.length ≤ 12) (h : X Try.prog (fin a_crc_Sealed.res v) a_crc_Sealed.body .done (env0 args) H0) : Gives Try.prog F_crc_Sealed args v :=
  Gives_intro g_crc_Sealed c_crc_Sealed (by rw [Try.ntmps87]; exact hn) h
theorem e_crc_Sealed {args : List AV} {Q : AOut → Prop} (hn : args.length ≤ 12) (h : X Try.prog (finE a_crc_Sealed.res Q) a_crc_Sealed.body .done (env0 args) H0) : Fins Try.prog F_crc_Sealed args Q :=
  Fins_intro g_crc_Sealed c_crc_Sealed (by rw [Try.ntmps87]; exact hn) h
theorem j_crc_Sealed {args : List AV} {A : Heap} {K Kp : AV → Heap → Prop} (hn : args.length ≤ 12) (h : X Try.prog (inl a_crc_Sealed.res K Kp) a_crc_Sealed.body .done (env0 args) A) : SimX Try.prog F_crc_Sealed args A (outK K Kp) :=
  X_inl g_crc_Sealed c_crc_Sealed (by rw [Try.ntmps87]; exact hn) h
theorem d_crc_Sealed {args : List AV} {A : Heap} {Ko : AOut → Heap → Prop} (hn : args.length ≤ 12) (hrf : AVL.Func.hasRF Try.f87 = false)
    (h : ∀ R : APost, (∀ e env A, fpost a_crc_Sealed.res Ko e env A → R e env A) → X Try.prog R a_crc_Sealed.body .done (env0 args) A) : SimD Try.prog F_crc_Sealed args A Ko :=
  X_introD g_crc_Sealed c_crc_Sealed (by rw [Try.ntmps87]; exact hn) hrf h
@[simp] theorem k_crc_Sealed : callable Try.prog F_crc_Sealed = true := by kernel_rfl
theorem c_crc_Holds : trF Try.prog Try.f88 = some a_crc_Holds := by kernel_rfl
theorem g_crc_Holds : Try.prog.funcs[88]? = some Try.f88 := by kernel_rfl
theorem i_crc_Holds {args : List AV} {A : Heap} {Ko : AOut → Heap → Prop} (hn : args.length ≤ 20)
    (h : ∀ R : APost, (∀ e env A, fpost a_crc_Holds.res Ko e env A → R e env A) → X Try.prog R a_crc_Holds.body .done (env0 args) A) : SimX Try.prog F_crc_Holds args A Ko :=
  X_intro g_crc_Holds c_crc_Holds (by rw [Try.ntmps88]; exact hn) h
theorem v_crc_Holds {args : List AV} {v : AV} (hn : args.length ≤ 20) (h : X Try.prog (fin a_crc_Holds.res v) a_crc_Holds.body .done (env0 args) H0) : Gives Try.prog F_crc_Holds args v :=
  Gives_intro g_crc_Holds c_crc_Holds (by rw [Try.ntmps88]; exact hn) h
theorem e_crc_Holds {args : List AV} {Q : AOut → Prop} (hn : args.length ≤ 20) (h : X Try.prog (finE a_crc_Holds.res Q) a_crc_Holds.body .done (env0 args) H0) : Fins Try.prog F_crc_Holds args Q :=
  Fins_intro g_crc_Holds c_crc_Holds (by rw [Try.ntmps88]; exact hn) h
theorem j_crc_Holds {args : List AV} {A : Heap} {K Kp : AV → Heap → Prop} (hn : args.length ≤ 20) (h : X Try.prog (inl a_crc_Holds.res K Kp) a_crc_Holds.body .done (env0 args) A) : SimX Try.prog F_crc_Holds args A (outK K Kp) :=
  X_inl g_crc_Holds c_crc_Holds (by rw [Try.ntmps88]; exact hn) h
theorem d_crc_Holds {args : List AV} {A : Heap} {Ko : AOut → Heap → Prop} (hn : args.length ≤ 20) (hrf : AVL.Func.hasRF Try.f88 = false)
    (h : ∀ R : APost, (∀ e env A, fpost a_crc_Holds.res Ko e env A → R e env A) → X Try.prog R a_crc_Holds.body .done (env0 args) A) : SimD Try.prog F_crc_Holds args A Ko :=
  X_introD g_crc_Holds c_crc_Holds (by rw [Try.ntmps88]; exact hn) hrf h
@[simp] theorem k_crc_Holds : callable Try.prog F_crc_Holds = true := by kernel_rfl
theorem c_crc_Four : trF Try.prog Try.f124 = some a_crc_Four := by kernel_rfl
theorem g_crc_Four : Try.prog.funcs[124]? = some Try.f124 := by kernel_rfl
theorem i_crc_Four {args : List AV} {A : Heap} {Ko : AOut → Heap → Prop} (hn : args.length ≤ 15)
    (h : ∀ R : APost, (∀ e env A, fpost a_crc_Four.res Ko e env A → R e env A) → X Try.prog R a_crc_Four.body .done (env0 args) A) : SimX Try.prog F_crc_Four args A Ko :=
  X_intro g_crc_Four c_crc_Four (by rw [Try.ntmps124]; exact hn) h
theorem v_crc_Four {args : List AV} {v : AV} (hn : args.length ≤ 15) (h : X Try.prog (fin a_crc_Four.res v) a_crc_Four.body .done (env0 args) H0) : Gives Try.prog F_crc_Four args v :=
  Gives_intro g_crc_Four c_crc_Four (by rw [Try.ntmps124]; exact hn) h
theorem e_crc_Four {args : List AV} {Q : AOut → Prop} (hn : args.length ≤ 15) (h : X Try.prog (finE a_crc_Four.res Q) a_crc_Four.body .done (env0 args) H0) : Fins Try.prog F_crc_Four args Q :=
  Fins_intro g_crc_Four c_crc_Four (by rw [Try.ntmps124]; exact hn) h
theorem j_crc_Four {args : List AV} {A : Heap} {K Kp : AV → Heap → Prop} (hn : args.length ≤ 15) (h : X Try.prog (inl a_crc_Four.res K Kp) a_crc_Four.body .done (env0 args) A) : SimX Try.prog F_crc_Four args A (outK K Kp) :=
  X_inl g_crc_Four c_crc_Four (by rw [Try.ntmps124]; exact hn) h
theorem d_crc_Four {args : List AV} {A : Heap} {Ko : AOut → Heap → Prop} (hn : args.length ≤ 15) (hrf : AVL.Func.hasRF Try.f124 = false)
    (h : ∀ R : APost, (∀ e env A, fpost a_crc_Four.res Ko e env A → R e env A) → X Try.prog R a_crc_Four.body .done (env0 args) A) : SimD Try.prog F_crc_Four args A Ko :=
  X_introD g_crc_Four c_crc_Four (by rw [Try.ntmps124]; exact hn) hrf h
@[simp] theorem k_crc_Four : callable Try.prog F_crc_Four = true := by kernel_rfl
theorem c_crc_Of : trF Try.prog Try.f125 = some a_crc_Of := by kernel_rfl
theorem g_crc_Of : Try.prog.funcs[125]? = some Try.f125 := by kernel_rfl
theorem i_crc_Of {args : List AV} {A : Heap} {Ko : AOut → Heap → Prop} (hn : args.length ≤ 5)
    (h : ∀ R : APost, (∀ e env A, fpost a_crc_Of.res Ko e env A → R e env A) → X Try.prog R a_crc_Of.body .done (env0 args) A) : SimX Try.prog F_crc_Of args A Ko :=
  X_intro g_crc_Of c_crc_Of (by rw [Try.ntmps125]; exact hn) h
theorem v_crc_Of {args : List AV} {v : AV} (hn : args.length ≤ 5) (h : X Try.prog (fin a_crc_Of.res v) a_crc_Of.body .done (env0 args) H0) : Gives Try.prog F_crc_Of args v :=
  Gives_intro g_crc_Of c_crc_Of (by rw [Try.ntmps125]; exact hn) h
theorem e_crc_Of {args : List AV} {Q : AOut → Prop} (hn : args.length ≤ 5) (h : X Try.prog (finE a_crc_Of.res Q) a_crc_Of.body .done (env0 args) H0) : Fins Try.prog F_crc_Of args Q :=
  Fins_intro g_crc_Of c_crc_Of (by rw [Try.ntmps125]; exact hn) h
theorem j_crc_Of {args : List AV} {A : Heap} {K Kp : AV → Heap → Prop} (hn : args.length ≤ 5) (h : X Try.prog (inl a_crc_Of.res K Kp) a_crc_Of.body .done (env0 args) A) : SimX Try.prog F_crc_Of args A (outK K Kp) :=
  X_inl g_crc_Of c_crc_Of (by rw [Try.ntmps125]; exact hn) h
theorem d_crc_Of {args : List AV} {A : Heap} {Ko : AOut → Heap → Prop} (hn : args.length ≤ 5) (hrf : AVL.Func.hasRF Try.f125 = false)
    (h : ∀ R : APost, (∀ e env A, fpost a_crc_Of.res Ko e env A → R e env A) → X Try.prog R a_crc_Of.body .done (env0 args) A) : SimD Try.prog F_crc_Of args A Ko :=
  X_introD g_crc_Of c_crc_Of (by rw [Try.ntmps125]; exact hn) hrf h
@[simp] theorem k_crc_Of : callable Try.prog F_crc_Of = true := by kernel_rfl
theorem c_crc_More : trF Try.prog Try.f134 = some a_crc_More := by kernel_rfl
theorem g_crc_More : Try.prog.funcs[134]? = some Try.f134 := by kernel_rfl
theorem i_crc_More {args : List AV} {A : Heap} {Ko : AOut → Heap → Prop} (hn : args.length ≤ 22)
    (h : ∀ R : APost, (∀ e env A, fpost a_crc_More.res Ko e env A → R e env A) → X Try.prog R a_crc_More.body .done (env0 args) A) : SimX Try.prog F_crc_More args A Ko :=
  X_intro g_crc_More c_crc_More (by rw [Try.ntmps134]; exact hn) h
theorem v_crc_More {args : List AV} {v : AV} (hn : args.length ≤ 22) (h : X Try.prog (fin a_crc_More.res v) a_crc_More.body .done (env0 args) H0) : Gives Try.prog F_crc_More args v :=
  Gives_intro g_crc_More c_crc_More (by rw [Try.ntmps134]; exact hn) h
theorem e_crc_More {args : List AV} {Q : AOut → Prop} (hn : args.length ≤ 22) (h : X Try.prog (finE a_crc_More.res Q) a_crc_More.body .done (env0 args) H0) : Fins Try.prog F_crc_More args Q :=
  Fins_intro g_crc_More c_crc_More (by rw [Try.ntmps134]; exact hn) h
theorem j_crc_More {args : List AV} {A : Heap} {K Kp : AV → Heap → Prop} (hn : args.length ≤ 22) (h : X Try.prog (inl a_crc_More.res K Kp) a_crc_More.body .done (env0 args) A) : SimX Try.prog F_crc_More args A (outK K Kp) :=
  X_inl g_crc_More c_crc_More (by rw [Try.ntmps134]; exact hn) h
theorem d_crc_More {args : List AV} {A : Heap} {Ko : AOut → Heap → Prop} (hn : args.length ≤ 22) (hrf : AVL.Func.hasRF Try.f134 = false)
    (h : ∀ R : APost, (∀ e env A, fpost a_crc_More.res Ko e env A → R e env A) → X Try.prog R a_crc_More.body .done (env0 args) A) : SimD Try.prog F_crc_More args A Ko :=
  X_introD g_crc_More c_crc_More (by rw [Try.ntmps134]; exact hn) hrf h
@[simp] theorem k_crc_More : callable Try.prog F_crc_More = true := by kernel_rfl
theorem c_crc_turn : trF Try.prog Try.f139 = some a_crc_turn := by kernel_rfl
theorem g_crc_turn : Try.prog.funcs[139]? = some Try.f139 := by kernel_rfl
theorem i_crc_turn {args : List AV} {A : Heap} {Ko : AOut → Heap → Prop} (hn : args.length ≤ 21)
    (h : ∀ R : APost, (∀ e env A, fpost a_crc_turn.res Ko e env A → R e env A) → X Try.prog R a_crc_turn.body .done (env0 args) A) : SimX Try.prog F_crc_turn args A Ko :=
  X_intro g_crc_turn c_crc_turn (by rw [Try.ntmps139]; exact hn) h
theorem v_crc_turn {args : List AV} {v : AV} (hn : args.length ≤ 21) (h : X Try.prog (fin a_crc_turn.res v) a_crc_turn.body .done (env0 args) H0) : Gives Try.prog F_crc_turn args v :=
  Gives_intro g_crc_turn c_crc_turn (by rw [Try.ntmps139]; exact hn) h
theorem e_crc_turn {args : List AV} {Q : AOut → Prop} (hn : args.length ≤ 21) (h : X Try.prog (finE a_crc_turn.res Q) a_crc_turn.body .done (env0 args) H0) : Fins Try.prog F_crc_turn args Q :=
  Fins_intro g_crc_turn c_crc_turn (by rw [Try.ntmps139]; exact hn) h
theorem j_crc_turn {args : List AV} {A : Heap} {K Kp : AV → Heap → Prop} (hn : args.length ≤ 21) (h : X Try.prog (inl a_crc_turn.res K Kp) a_crc_turn.body .done (env0 args) A) : SimX Try.prog F_crc_turn args A (outK K Kp) :=
  X_inl g_crc_turn c_crc_turn (by rw [Try.ntmps139]; exact hn) h
theorem d_crc_turn {args : List AV} {A : Heap} {Ko : AOut → Heap → Prop} (hn : args.length ≤ 21) (hrf : AVL.Func.hasRF Try.f139 = false)
    (h : ∀ R : APost, (∀ e env A, fpost a_crc_turn.res Ko e env A → R e env A) → X Try.prog R a_crc_turn.body .done (env0 args) A) : SimD Try.prog F_crc_turn args A Ko :=
  X_introD g_crc_turn c_crc_turn (by rw [Try.ntmps139]; exact hn) hrf h
@[simp] theorem k_crc_turn : callable Try.prog F_crc_turn = true := by kernel_rfl
theorem c_ref02_Of : trF Try.prog Try.f126 = some a_ref02_Of := by kernel_rfl
theorem g_ref02_Of : Try.prog.funcs[126]? = some Try.f126 := by kernel_rfl
theorem i_ref02_Of {args : List AV} {A : Heap} {Ko : AOut → Heap → Prop} (hn : args.length ≤ 80)
    (h : ∀ R : APost, (∀ e env A, fpost a_ref02_Of.res Ko e env A → R e env A) → X Try.prog R a_ref02_Of.body .done (env0 args) A) : SimX Try.prog F_ref02_Of args A Ko :=
  X_intro g_ref02_Of c_ref02_Of (by rw [Try.ntmps126]; exact hn) h
theorem v_ref02_Of {args : List AV} {v : AV} (hn : args.length ≤ 80) (h : X Try.prog (fin a_ref02_Of.res v) a_ref02_Of.body .done (env0 args) H0) : Gives Try.prog F_ref02_Of args v :=
  Gives_intro g_ref02_Of c_ref02_Of (by rw [Try.ntmps126]; exact hn) h
theorem e_ref02_Of {args : List AV} {Q : AOut → Prop} (hn : args.length ≤ 80) (h : X Try.prog (finE a_ref02_Of.res Q) a_ref02_Of.body .done (env0 args) H0) : Fins Try.prog F_ref02_Of args Q :=
  Fins_intro g_ref02_Of c_ref02_Of (by rw [Try.ntmps126]; exact hn) h
theorem j_ref02_Of {args : List AV} {A : Heap} {K Kp : AV → Heap → Prop} (hn : args.length ≤ 80) (h : X Try.prog (inl a_ref02_Of.res K Kp) a_ref02_Of.body .done (env0 args) A) : SimX Try.prog F_ref02_Of args A (outK K Kp) :=
  X_inl g_ref02_Of c_ref02_Of (by rw [Try.ntmps126]; exact hn) h
theorem d_ref02_Of {args : List AV} {A : Heap} {Ko : AOut → Heap → Prop} (hn : args.length ≤ 80) (hrf : AVL.Func.hasRF Try.f126 = false)
    (h : ∀ R : APost, (∀ e env A, fpost a_ref02_Of.res Ko e env A → R e env A) → X Try.prog R a_ref02_Of.body .done (env0 args) A) : SimD Try.prog F_ref02_Of args A Ko :=
  X_introD g_ref02_Of c_ref02_Of (by rw [Try.ntmps126]; exact hn) hrf h
@[simp] theorem k_ref02_Of : callable Try.prog F_ref02_Of = true := by kernel_rfl
theorem c_ref02_bits : trF Try.prog Try.f135 = some a_ref02_bits := by kernel_rfl
theorem g_ref02_bits : Try.prog.funcs[135]? = some Try.f135 := by kernel_rfl
theorem i_ref02_bits {args : List AV} {A : Heap} {Ko : AOut → Heap → Prop} (hn : args.length ≤ 28)
    (h : ∀ R : APost, (∀ e env A, fpost a_ref02_bits.res Ko e env A → R e env A) → X Try.prog R a_ref02_bits.body .done (env0 args) A) : SimX Try.prog F_ref02_bits args A Ko :=
  X_intro g_ref02_bits c_ref02_bits (by rw [Try.ntmps135]; exact hn) h
theorem v_ref02_bits {args : List AV} {v : AV} (hn : args.length ≤ 28) (h : X Try.prog (fin a_ref02_bits.res v) a_ref02_bits.body .done (env0 args) H0) : Gives Try.prog F_ref02_bits args v :=
  Gives_intro g_ref02_bits c_ref02_bits (by rw [Try.ntmps135]; exact hn) h
theorem e_ref02_bits {args : List AV} {Q : AOut → Prop} (hn : args.length ≤ 28) (h : X Try.prog (finE a_ref02_bits.res Q) a_ref02_bits.body .done (env0 args) H0) : Fins Try.prog F_ref02_bits args Q :=
  Fins_intro g_ref02_bits c_ref02_bits (by rw [Try.ntmps135]; exact hn) h
theorem j_ref02_bits {args : List AV} {A : Heap} {K Kp : AV → Heap → Prop} (hn : args.length ≤ 28) (h : X Try.prog (inl a_ref02_bits.res K Kp) a_ref02_bits.body .done (env0 args) A) : SimX Try.prog F_ref02_bits args A (outK K Kp) :=
  X_inl g_ref02_bits c_ref02_bits (by rw [Try.ntmps135]; exact hn) h
theorem d_ref02_bits {args : List AV} {A : Heap} {Ko : AOut → Heap → Prop} (hn : args.length ≤ 28) (hrf : AVL.Func.hasRF Try.f135 = false)
    (h : ∀ R : APost, (∀ e env A, fpost a_ref02_bits.res Ko e env A → R e env A) → X Try.prog R a_ref02_bits.body .done (env0 args) A) : SimD Try.prog F_ref02_bits args A Ko :=
  X_introD g_ref02_bits c_ref02_bits (by rw [Try.ntmps135]; exact hn) hrf h
@[simp] theorem k_ref02_bits : callable Try.prog F_ref02_bits = true := by kernel_rfl
end Go.Proofs.Ytfdckjliinpjiaa

/- The walk of a slot map's iterator. -/
namespace Go.Proofs.Ytfdckjliinpjiaa
open Go AVL
attribute [-simp] AV.isAgg aappI aapp alen shp good comps
set_option linter.unusedVariables false
set_option linter.unusedSimpArgs false
set_option maxRecDepth 20000

section
variable {A B C : Heap} {K Kp : AV → Heap → Prop}
/-- What the iterator's closure looks at. -/
structure AllAt (g gs b1 b2 gy : Nat) (l : List Nat) (what : Int) (C : Heap) : Prop where
  c1 : C b1 = some (.var 38 [.ptr g 0])
  c2 : C b2 = some (.var 3 [.int .i64 what])
  cg : C g = some (.var T_slotmap_Map [.own gs 0 l.length])
  cs : C gs = some (.irow T_uint8 .u8 (ints l))
  cy : ∃ en ps asg body, C gy = some (.lp en ps asg body .ready)
theorem w_All_1 {g gs b1 b2 gy : Nat} {l : List Nat} {what : Int} (hl : Bytes l) (hlen : l.length < 2 ^ 62) (I : Nat → Heap → Prop) (J : Heap → Prop) (hi : ∀ i C, I i C → AllAt g gs b1 b2 gy l what C) (h0 : I 0 A)
    (hs : ∀ i C (h : i < l.length), I i C → (l[i] : Int) ≠ what → I (i + 1) C)
    (hr : ∀ i C (h : i < l.length), I i C → (l[i] : Int) = what → SimR Try.prog gy [.int .i64 i] C (outK (fun v C' => (v = .bool true ∧ I (i + 1) C') ∨ (v = .bool false ∧ J C')) Kp))
    (hk : ∀ C, I l.length C → K (.tuple []) C) (hj : ∀ C, J C → K (.tuple []) C) :
    SimX Try.prog F_Pslotmap_Map_All_1 [.func (.yield gy) [] [], .ptr b1 0, .ptr b2 0] A (outK K Kp) := by
  refine j_Pslotmap_Map_All_1 (by simp) ?_
  obtain ⟨a1, a2, a3, a4, a5⟩ := hi 0 A h0
  simp -implicitDefEqProofs [a_Pslotmap_Map_All_1, q_Pslotmap_Map_All_1_0, a1, a2, a3, a4]
  refine X_lp (fun (i : Nat) env C => i ≤ l.length ∧ I i C ∧ env 0 = .func (.yield gy) [] [] ∧ env 2 = .ptr b2 0 ∧ env 9 = .own gs 0 l.length ∧ env 10 = .int .i64 l.length ∧ env 11 = .int .i64 i) (fun i => l.length - i) 0
    ⟨by omega, h0, by simp, by simp, by simp, by simp, by simp⟩ ?_
  rintro i env C ⟨hle, hI, e0, e2, e9, e10, e11⟩
  obtain ⟨c1, c2, c3, c4, c5⟩ := hi i C hI
  by_cases hil : i < l.length
  · have hil' : (i : Int) < l.length := by omega
    have wi : IntKind.i64.wrap ((i : Int) + 1) = (i : Int) + 1 := wrap_i64 (by omega)
    have hb := hl _ (List.getElem_mem hil)
    have wb : IntKind.i64.wrap ((l[i] : Nat) : Int) = ((l[i] : Nat) : Int) := wrap_i64 (by omega)
    by_cases hw : (l[i] : Int) = what
    · simp -implicitDefEqProofs [q_Pslotmap_Map_All_1_L5, q_Pslotmap_Map_All_1_1, q_Pslotmap_Map_All_1_2, q_Pslotmap_Map_All_1_3, e0, e2, e9, e10, e11, hil, hil', c2, c4, wb, hw, show IntKind.i64.wrap what = what by rw [← hw]; exact wb]
      refine ⟨c5, (hr i C hil hI hw).mono fun o C' ho => ?_⟩
      cases o with
      | pan v => simpa -implicitDefEqProofs using ho
      | ret v =>
        rcases ho with ⟨rfl, hI'⟩ | ⟨rfl, hJ⟩
        · simp -implicitDefEqProofs [q_Pslotmap_Map_All_1_4, e11, wi]
          exact lp_next (i + 1) ⟨by omega, hI', by simp [e0], by simp [e2], by simp [e9], by simp [e10], by simp⟩ (by omega)
        · simp -implicitDefEqProofs [outOf]
          exact hj C' hJ
    · simp -implicitDefEqProofs [q_Pslotmap_Map_All_1_L5, q_Pslotmap_Map_All_1_1, q_Pslotmap_Map_All_1_2, q_Pslotmap_Map_All_1_3, q_Pslotmap_Map_All_1_4, e0, e2, e9, e10, e11, hil, hil', c2, c4, wb, hw, wi]
      exact lp_next (i + 1) ⟨by omega, hs i C hil hI hw, by simp [e0], by simp [e2], by simp [e9], by simp [e10], by simp⟩ (by omega)
  · have hie : i = l.length := by omega
    subst hie
    simp -implicitDefEqProofs [q_Pslotmap_Map_All_1_L5, q_Pslotmap_Map_All_1_1, e0, e2, e9, e10, e11, outOf]
    exact hk C hI
end
end Go.Proofs.Ytfdckjliinpjiaa

/- The walks of a slot map's small functions. -/
namespace Go.Proofs.Ytfdckjliinpjiaa
open Go AVL
attribute [-simp] AV.isAgg aappI aapp alen shp good comps
set_option linter.unusedVariables false
set_option linter.unusedSimpArgs false
set_option maxRecDepth 20000

section
variable {A B C : Heap} {K Kp : AV → Heap → Prop} {P : Program}
@[simp] theorem rdA_normal {g : Nat} {en : List AV} {ps : List Nat} {asg body : Code} {bA : ACode} {env : AEnv} : rdA P g en ps asg body bA K .normal env B = (B g = some (.lp en ps asg body .ready) ∧ X P (rdB g en ps asg body K) bA .done env (B.set g (.lp en ps asg body .busy))) := rfl
@[simp] theorem rdB_normal {g : Nat} {en : List AV} {ps : List Nat} {asg body : Code} {env : AEnv} : rdB g en ps asg body K .normal env B = (B g = some (.lp en ps asg body .busy) ∧ K (.bool true) (B.set g (.lp en ps asg body .ready))) := rfl
@[simp] theorem rdB_ret {g : Nat} {en : List AV} {ps : List Nat} {asg body : Code} {env : AEnv} : rdB g en ps asg body K .ret env B = (B g = some (.lp en ps asg body .busy) ∧ K (.bool false) (B.set g (.lp en ps asg body (.done .ret)))) := rfl
@[simp] theorem rdB_exit {g id : Nat} {en : List AV} {ps : List Nat} {asg body : Code} {env : AEnv} : rdB g en ps asg body K (.exit id) env B = (B g = some (.lp en ps asg body .busy) ∧ K (.bool false) (B.set g (.lp en ps asg body (.done (.exit id))))) := rfl
/-- A map whose slots are l. -/
structure MapIn (g gs : Nat) (l : List Nat) (B : Heap) : Prop where
  cg : B g = some (.var T_slotmap_Map [.own gs 0 l.length])
  cs : B gs = some (.irow T_uint8 .u8 (ints l))
theorem MapIn.mono {g gs : Nat} {l : List Nat} (h : MapIn g gs l B) (hs : B.Sub C) : MapIn g gs l C := ⟨hs _ _ h.cg, hs _ _ h.cs⟩
/-- The slots, of the first so many, that are something. -/
def idx (l : List Nat) (what : Int) (k : Nat) : List Nat := (List.range k).filter fun i => decide (((l.getD i 0 : Nat) : Int) = what)
theorem idx_yes {l : List Nat} {what : Int} {k : Nat} (h : k < l.length) (hw : (l[k] : Int) = what) : idx l what (k + 1) = idx l what k ++ [k] := by
  simp [idx, List.range_succ, List.filter_append, List.getD_eq_getElem?_getD, h, hw]
theorem idx_no {l : List Nat} {what : Int} {k : Nat} (h : k < l.length) (hw : (l[k] : Int) ≠ what) : idx l what (k + 1) = idx l what k := by
  simp [idx, List.range_succ, List.filter_append, List.getD_eq_getElem?_getD, h, hw]
theorem idx_len (l : List Nat) (what : Int) (k : Nat) : (idx l what k).length ≤ k := by
  have := List.length_filter_le (fun i => decide (((l.getD i 0 : Nat) : Int) = what)) (List.range k)
  simpa [idx] using this
theorem w_Map_Len {g gs : Nat} {l : List Nat} (hm : MapIn g gs l A) (hk : K (.int .i64 l.length) A) : SimX Try.prog F_Pslotmap_Map_Len [.ptr g 0] A (outK K Kp) := by
  refine j_Pslotmap_Map_Len (by simp) ?_
  simp -implicitDefEqProofs [a_Pslotmap_Map_Len, q_Pslotmap_Map_Len_0, q_Pslotmap_Map_Len_1, hm.cg, outOf]
  exact hk
theorem w_Map_All {g : Nat} {what : Int} (hk : ∀ b1 b2, A b1 = none → A b2 = none → b1 ≠ b2 → K (.func (.func F_Pslotmap_Map_All_1) [] [.ptr b1 0, .ptr b2 0]) ((A.set b1 (.var 38 [.ptr g 0])).set b2 (.var 3 [.int .i64 what]))) :
    SimX Try.prog F_Pslotmap_Map_All [.ptr g 0, .int .i64 what] A (outK K Kp) := by
  refine j_Pslotmap_Map_All (by simp) ?_
  simp -implicitDefEqProofs [a_Pslotmap_Map_All, q_Pslotmap_Map_All_0, q_Pslotmap_Map_All_1, outOf]
  intro b1 h1 b2 n1 n2 h2
  exact hk b1 b2 h1 h2 n2
theorem w_Map_Count {g gs : Nat} {l : List Nat} {what : Int} (hm : MapIn g gs l A) (hl : Bytes l) (hlen : l.length < 2 ^ 62) (hk : ∀ B, A.Sub B → K (.int .i64 (idx l what l.length).length) B) :
    SimX Try.prog F_Pslotmap_Map_Count [.ptr g 0, .int .i64 what] A (outK K Kp) := by
  refine j_Pslotmap_Map_Count (by simp) ?_
  simp -implicitDefEqProofs [a_Pslotmap_Map_Count, q_Pslotmap_Map_Count_0, q_Pslotmap_Map_Count_1, q_Pslotmap_Map_Count_2]
  intro g5 h5
  refine w_Map_All fun b1 b2 h1 h2 n12 => ?_
  simp -implicitDefEqProofs
  intro gy y1 y2 y3 y4 y5 y6 hgy
  obtain ⟨X, hX⟩ : ∃ X, ((A.set g5 (.var 3 [.int .i64 0])).set b1 (.var 38 [.ptr g 0])).set b2 (.var 3 [.int .i64 what]) = X := ⟨_, rfl⟩
  simp only [set_none] at h1 h2
  have x5 : X g5 = some (.var 3 [.int .i64 0]) := by rw [← hX]; simp [h1, h2]
  have x1 : X b1 = some (.var 38 [.ptr g 0]) := by rw [← hX]; simp [n12, Ne.symm n12]
  have x2 : X b2 = some (.var 3 [.int .i64 what]) := by rw [← hX]; simp
  have sX : A.Sub X := by rw [← hX]; exact sub_new (sub_new (sub_none h5) (by simp [h1])) (by simp [h1, h2, n12, Ne.symm n12])
  rw [hX]
  clear hX
  have key : ∀ (en : List AV) (Q Qp : AV → Heap → Prop), en.length = 13 → en.getD 5 .undef = .ptr g5 0 → (∀ C, A.Sub C → C g5 = some (.var 3 [.int .i64 (idx l what l.length).length]) → C gy = some (.lp en [9] (rfA Try.f36 0) (rfB Try.f36 0) .ready) → Q (.tuple []) C) →
      SimX Try.prog F_Pslotmap_Map_All_1 [.func (.yield gy) [] [], .ptr b1 0, .ptr b2 0] (X.set gy (.lp en [9] (rfA Try.f36 0) (rfB Try.f36 0) .ready)) (outK Q Qp) := by
    intro en Q Qp hn h5' hQ
    refine w_All_1 (g := g) (gs := gs) (what := what) hl hlen (fun i C => A.Sub C ∧ C b1 = some (.var 38 [.ptr g 0]) ∧ C b2 = some (.var 3 [.int .i64 what]) ∧ C g5 = some (.var 3 [.int .i64 (idx l what i).length]) ∧ C gy = some (.lp en [9] (rfA Try.f36 0) (rfB Try.f36 0) .ready)) (fun _ => False)
      (fun i C h => ⟨h.2.1, h.2.2.1, h.1 _ _ hm.cg, h.1 _ _ hm.cs, _, _, _, _, h.2.2.2.2⟩) ?_ ?_ ?_ (fun C h => hQ C h.1 h.2.2.2.1 h.2.2.2.2) (fun C h => h.elim)
    · exact ⟨sub_set' sX hgy, by simp [y3, y4, x1], by simp [y1, y2, x2], by simp [y5, y6, x5, idx], by simp⟩
    · rintro i C hi ⟨c0, c1, c2, c3, c4⟩ hw
      exact ⟨c0, c1, c2, by rw [idx_no hi hw]; exact c3, c4⟩
    · rintro i C hi ⟨c0, c1, c2, c3, c4⟩ hw
      have hil := idx_len l what i
      have e5 : en[5]?.getD AV.undef = .ptr g5 0 := by simpa using h5'
      have wi : IntKind.i64.wrap (((idx l what i).length : Int) + 1) = ((idx l what i).length : Int) + 1 := wrap_i64 (by omega)
      refine rd_Pslotmap_Map_Count_0 c4 hn rfl ?_
      simp -implicitDefEqProofs [ra_Pslotmap_Map_Count_0, rb_Pslotmap_Map_Count_0, rb_Pslotmap_Map_Count_0_0, c4, roundEnv, e5, c3, wi, y5, y6]
      exact ⟨sub_set' (sub_set' (sub_set' c0 hgy) h5) hgy, by simp [y3, y4, h1, c1], by simp [y1, y2, h2, c2], by rw [idx_yes hi hw]; simp⟩
  refine key _ _ _ (by simp) (by simp) fun C hs k5 ky => ?_
  have k5' : (C.del gy) g5 = some (.var 3 [.int .i64 (idx l what l.length).length]) := by rw [del_app, if_neg (fun e => by simp [e] at y5)]; exact k5
  simp -implicitDefEqProofs [ky, q_Pslotmap_Map_Count_3, k5', outOf]
  exact hk _ (sub_del hs hgy)
end
end Go.Proofs.Ytfdckjliinpjiaa

/- The walks of a slot map's First and Last. -/
namespace Go.Proofs.Ytfdckjliinpjiaa
open Go AVL
attribute [-simp] AV.isAgg aappI aapp alen shp good comps
set_option linter.unusedVariables false
set_option linter.unusedSimpArgs false
set_option maxRecDepth 20000

section
variable {A B C : Heap} {K Kp : AV → Heap → Prop} {P : Program}
theorem idx_more (l : List Nat) (what : Int) (k : Nat) : ∀ m, ∃ r, idx l what (k + m) = idx l what k ++ r
  | 0 => ⟨[], by simp⟩
  | m + 1 => by
    obtain ⟨r, h⟩ := idx_more l what k m
    refine ⟨r ++ ([k + m].filter fun i => decide (((l.getD i 0 : Nat) : Int) = what)), ?_⟩
    unfold idx at h ⊢
    rw [← Nat.add_assoc, List.range_succ, List.filter_append, h, List.append_assoc]
def firstI (l : List Nat) (what : Int) : Int := match (idx l what l.length).head? with
  | some i => i
  | none => -1
def lastI (l : List Nat) (what : Int) : Int := match (idx l what l.length).getLast? with
  | some i => i
  | none => -1
theorem first_at {l : List Nat} {what : Int} {i : Nat} (h : i < l.length) (hw : (l[i] : Int) = what) (he : idx l what i = []) : firstI l what = i := by
  obtain ⟨r, hr⟩ := idx_more l what (i + 1) (l.length - (i + 1))
  rw [show i + 1 + (l.length - (i + 1)) = l.length by omega, idx_yes h hw, he] at hr
  simp [firstI, hr]
theorem w_Map_First {g gs : Nat} {l : List Nat} {what : Int} (hm : MapIn g gs l A) (hl : Bytes l) (hlen : l.length < 2 ^ 62) (hk : ∀ B, A.Sub B → K (.int .i64 (firstI l what)) B) :
    SimX Try.prog F_Pslotmap_Map_First [.ptr g 0, .int .i64 what] A (outK K Kp) := by
  refine j_Pslotmap_Map_First (by simp) ?_
  simp -implicitDefEqProofs [a_Pslotmap_Map_First, q_Pslotmap_Map_First_0, q_Pslotmap_Map_First_1]
  intro g5 h5
  refine w_Map_All fun b1 b2 h1 h2 n12 => ?_
  simp -implicitDefEqProofs
  intro gy y1 y2 y3 y4 y5 y6 hgy
  obtain ⟨X, hX⟩ : ∃ X, ((A.set g5 (.var 3 [.int .i64 0])).set b1 (.var 38 [.ptr g 0])).set b2 (.var 3 [.int .i64 what]) = X := ⟨_, rfl⟩
  simp only [set_none] at h1 h2
  have x5 : X g5 = some (.var 3 [.int .i64 0]) := by rw [← hX]; simp [h1, h2]
  have x1 : X b1 = some (.var 38 [.ptr g 0]) := by rw [← hX]; simp [n12, Ne.symm n12]
  have x2 : X b2 = some (.var 3 [.int .i64 what]) := by rw [← hX]; simp
  have sX : A.Sub X := by rw [← hX]; exact sub_new (sub_new (sub_none h5) (by simp [h1])) (by simp [h1, h2, n12, Ne.symm n12])
  rw [hX]
  clear hX
  have key : ∀ (en : List AV) (Q Qp : AV → Heap → Prop), en.length = 11 → en[4]?.getD AV.undef = .ptr g5 0 →
      (∀ C, A.Sub C → C g5 = some (.var 3 [.int .i64 0]) → idx l what l.length = [] → C gy = some (.lp en [9] (rfA Try.f37 0) (rfB Try.f37 0) .ready) → Q (.tuple []) C) →
      (∀ C, A.Sub C → C g5 = some (.var 3 [.int .i64 (firstI l what)]) → C gy = some (.lp en [9] (rfA Try.f37 0) (rfB Try.f37 0) (.done .ret)) → Q (.tuple []) C) →
      SimX Try.prog F_Pslotmap_Map_All_1 [.func (.yield gy) [] [], .ptr b1 0, .ptr b2 0] (X.set gy (.lp en [9] (rfA Try.f37 0) (rfB Try.f37 0) .ready)) (outK Q Qp) := by
    intro en Q Qp hn e5 hQ hQ2
    refine w_All_1 (g := g) (gs := gs) (what := what) hl hlen (fun i C => A.Sub C ∧ C b1 = some (.var 38 [.ptr g 0]) ∧ C b2 = some (.var 3 [.int .i64 what]) ∧ C g5 = some (.var 3 [.int .i64 0]) ∧ idx l what i = [] ∧ C gy = some (.lp en [9] (rfA Try.f37 0) (rfB Try.f37 0) .ready))
      (fun C => A.Sub C ∧ C g5 = some (.var 3 [.int .i64 (firstI l what)]) ∧ C gy = some (.lp en [9] (rfA Try.f37 0) (rfB Try.f37 0) (.done .ret)))
      (fun i C h => ⟨h.2.1, h.2.2.1, h.1 _ _ hm.cg, h.1 _ _ hm.cs, _, _, _, _, h.2.2.2.2.2⟩) ?_ ?_ ?_ (fun C h => hQ C h.1 h.2.2.2.1 h.2.2.2.2.1 h.2.2.2.2.2) (fun C h => hQ2 C h.1 h.2.1 h.2.2)
    · exact ⟨sub_set' sX hgy, by simp [y3, y4, x1], by simp [y1, y2, x2], by simp [y5, y6, x5], rfl, by simp⟩
    · rintro i C hi ⟨c0, c1, c2, c3, c5, c4⟩ hw
      exact ⟨c0, c1, c2, c3, by rw [idx_no hi hw]; exact c5, c4⟩
    · rintro i C hi ⟨c0, c1, c2, c3, c5, c4⟩ hw
      refine rd_Pslotmap_Map_First_0 c4 hn rfl ?_
      simp -implicitDefEqProofs [ra_Pslotmap_Map_First_0, ra_Pslotmap_Map_First_0_0, rb_Pslotmap_Map_First_0, rb_Pslotmap_Map_First_0_0, c4, roundEnv, e5, c3, y5, y6]
      exact ⟨sub_set' (sub_set' (sub_set' c0 hgy) h5) hgy, (first_at hi hw c5).symm⟩
  refine key _ _ _ (by simp) (by simp) (fun C hs k5 he ky => ?_) fun C hs k5 ky => ?_
  · have k5' : (C.del gy) g5 = some (.var 3 [.int .i64 0]) := by rw [del_app, if_neg (fun e => by simp [e] at y5)]; exact k5
    simp -implicitDefEqProofs [ky, q_Pslotmap_Map_First_2, k5', outOf]
    have hf : firstI l what = -1 := by simp [firstI, he]
    have := hk _ (sub_set' (c := .var 3 [.int .i64 (-1)]) (sub_del hs hgy) h5)
    rw [hf] at this
    exact this
  · have k5' : (C.del gy) g5 = some (.var 3 [.int .i64 (firstI l what)]) := by rw [del_app, if_neg (fun e => by simp [e] at y5)]; exact k5
    simp -implicitDefEqProofs [ky, k5', outOf]
    exact hk _ (sub_del hs hgy)
theorem last_yes {l : List Nat} {what : Int} {k : Nat} (h : k < l.length) (hw : (l[k] : Int) = what) : (idx l what (k + 1)).getLast? = some k := by rw [idx_yes h hw]; simp
def lastN (l : List Nat) (what : Int) (k : Nat) : Int := match (idx l what k).getLast? with
  | some i => i
  | none => -1
theorem lastN_yes {l : List Nat} {what : Int} {k : Nat} (h : k < l.length) (hw : (l[k] : Int) = what) : lastN l what (k + 1) = k := by simp [lastN, last_yes h hw]
theorem lastN_no {l : List Nat} {what : Int} {k : Nat} (h : k < l.length) (hw : (l[k] : Int) ≠ what) : lastN l what (k + 1) = lastN l what k := by simp [lastN, idx_no h hw]
theorem w_Map_Last {g gs : Nat} {l : List Nat} {what : Int} (hm : MapIn g gs l A) (hl : Bytes l) (hlen : l.length < 2 ^ 62) (hk : ∀ B, A.Sub B → K (.int .i64 (lastI l what)) B) :
    SimX Try.prog F_Pslotmap_Map_Last [.ptr g 0, .int .i64 what] A (outK K Kp) := by
  refine j_Pslotmap_Map_Last (by simp) ?_
  simp -implicitDefEqProofs [a_Pslotmap_Map_Last, q_Pslotmap_Map_Last_0, q_Pslotmap_Map_Last_1, q_Pslotmap_Map_Last_2]
  intro g5 h5
  refine w_Map_All fun b1 b2 h1 h2 n12 => ?_
  simp -implicitDefEqProofs
  intro gy y1 y2 y3 y4 y5 y6 hgy
  obtain ⟨X, hX⟩ : ∃ X, ((A.set g5 (.var 3 [.int .i64 (-1)])).set b1 (.var 38 [.ptr g 0])).set b2 (.var 3 [.int .i64 what]) = X := ⟨_, rfl⟩
  simp only [set_none] at h1 h2
  have x5 : X g5 = some (.var 3 [.int .i64 (-1)]) := by rw [← hX]; simp [h1, h2]
  have x1 : X b1 = some (.var 38 [.ptr g 0]) := by rw [← hX]; simp [n12, Ne.symm n12]
  have x2 : X b2 = some (.var 3 [.int .i64 what]) := by rw [← hX]; simp
  have sX : A.Sub X := by rw [← hX]; exact sub_new (sub_new (sub_none h5) (by simp [h1])) (by simp [h1, h2, n12, Ne.symm n12])
  rw [hX]
  clear hX
  have key : ∀ (en : List AV) (Q Qp : AV → Heap → Prop), en.length = 13 → en[5]?.getD AV.undef = .ptr g5 0 →
      (∀ C, A.Sub C → C g5 = some (.var 3 [.int .i64 (lastN l what l.length)]) → C gy = some (.lp en [10] (rfA Try.f82 0) (rfB Try.f82 0) .ready) → Q (.tuple []) C) →
      SimX Try.prog F_Pslotmap_Map_All_1 [.func (.yield gy) [] [], .ptr b1 0, .ptr b2 0] (X.set gy (.lp en [10] (rfA Try.f82 0) (rfB Try.f82 0) .ready)) (outK Q Qp) := by
    intro en Q Qp hn e5 hQ
    refine w_All_1 (g := g) (gs := gs) (what := what) hl hlen (fun i C => A.Sub C ∧ C b1 = some (.var 38 [.ptr g 0]) ∧ C b2 = some (.var 3 [.int .i64 what]) ∧ C g5 = some (.var 3 [.int .i64 (lastN l what i)]) ∧ C gy = some (.lp en [10] (rfA Try.f82 0) (rfB Try.f82 0) .ready))
      (fun _ => False)
      (fun i C h => ⟨h.2.1, h.2.2.1, h.1 _ _ hm.cg, h.1 _ _ hm.cs, _, _, _, _, h.2.2.2.2⟩) ?_ ?_ ?_ (fun C h => hQ C h.1 h.2.2.2.1 h.2.2.2.2) (fun C h => h.elim)
    · exact ⟨sub_set' sX hgy, by simp [y3, y4, x1], by simp [y1, y2, x2], by simp [y5, y6, x5, lastN, idx], by simp⟩
    · rintro i C hi ⟨c0, c1, c2, c3, c4⟩ hw
      exact ⟨c0, c1, c2, by rw [lastN_no hi hw]; exact c3, c4⟩
    · rintro i C hi ⟨c0, c1, c2, c3, c4⟩ hw
      refine rd_Pslotmap_Map_Last_0 c4 hn rfl ?_
      simp -implicitDefEqProofs [ra_Pslotmap_Map_Last_0, ra_Pslotmap_Map_Last_0_0, rb_Pslotmap_Map_Last_0, rb_Pslotmap_Map_Last_0_0, c4, roundEnv, e5, c3, y5, y6]
      exact ⟨sub_set' (sub_set' (sub_set' c0 hgy) h5) hgy, by simp [y3, y4, h1, c1], by simp [y1, y2, h2, c2], (lastN_yes hi hw).symm⟩
  refine key _ _ _ (by simp) (by simp) fun C hs k5 ky => ?_
  have k5' : (C.del gy) g5 = some (.var 3 [.int .i64 (lastN l what l.length)]) := by rw [del_app, if_neg (fun e => by simp [e] at y5)]; exact k5
  simp -implicitDefEqProofs [ky, q_Pslotmap_Map_Last_3, k5', outOf]
  exact hk _ (sub_del hs hgy)
end
end Go.Proofs.Ytfdckjliinpjiaa

/- The walks of a slot map's Get and Set. -/
namespace Go.Proofs.Ytfdckjliinpjiaa
open Go AVL
attribute [-simp] AV.isAgg aappI aapp alen shp good comps
set_option linter.unusedVariables false
set_option linter.unusedSimpArgs false
set_option maxRecDepth 20000

section
variable {A B C : Heap} {K Kp : AV → Heap → Prop} {P : Program}
def getV (l : List Nat) (i : Int) : Int := if 0 ≤ i ∧ i < l.length then ((l.getD i.toNat 0 : Nat) : Int) else -1
def setE (l : List Nat) (i what : Int) : Int := if i < 0 ∨ (l.length : Int) ≤ i then 2 else if what < 0 ∨ 2 < what then 1 else 0
def setL (l : List Nat) (i what : Int) : List Nat := if setE l i what = 0 then l.set i.toNat what.toNat else l
@[simp] theorem setL_length (l : List Nat) (i what : Int) : (setL l i what).length = l.length := by unfold setL; split <;> simp
theorem w_Map_Get {g gs : Nat} {l : List Nat} {i : Int} (hm : MapIn g gs l A) (hl : Bytes l) (hk : K (.int .i64 (getV l i)) A) : SimX Try.prog F_Pslotmap_Map_Get [.ptr g 0, .int .i64 i] A (outK K Kp) := by
  refine j_Pslotmap_Map_Get (by simp) ?_
  by_cases h0 : i < 0
  · have hn : ¬ 0 ≤ i := by omega
    have hv : getV l i = -1 := by unfold getV; rw [if_neg (by omega)]
    rw [hv] at hk
    simp -implicitDefEqProofs [a_Pslotmap_Map_Get, q_Pslotmap_Map_Get_0, q_Pslotmap_Map_Get_1, q_Pslotmap_Map_Get_2, h0, hn, outOf]
    exact hk
  have hn : 0 ≤ i := by omega
  by_cases h1 : (l.length : Int) ≤ i
  · have hn1 : ¬ i < l.length := by omega
    have hv : getV l i = -1 := by unfold getV; rw [if_neg (by omega)]
    rw [hv] at hk
    simp -implicitDefEqProofs [a_Pslotmap_Map_Get, q_Pslotmap_Map_Get_0, q_Pslotmap_Map_Get_1, q_Pslotmap_Map_Get_2, h0, hn, h1, hn1, hm.cg, outOf]
    exact hk
  have hn1 : i < l.length := by omega
  obtain ⟨j, rfl⟩ : ∃ j : Nat, i = j := ⟨i.toNat, by omega⟩
  have hj : j < l.length := by omega
  have hb := hl _ (List.getElem_mem hj)
  have wb : IntKind.i64.wrap ((l[j] : Nat) : Int) = ((l[j] : Nat) : Int) := wrap_i64 (by omega)
  have hv : getV l j = l[j] := by
    unfold getV
    rw [if_pos (by omega)]
    simp [List.getD_eq_getElem?_getD, hj]
  rw [hv] at hk
  simp -implicitDefEqProofs [a_Pslotmap_Map_Get, q_Pslotmap_Map_Get_0, q_Pslotmap_Map_Get_1, q_Pslotmap_Map_Get_3, h0, hn, h1, hn1, hj, hm.cg, hm.cs, wb, outOf]
  exact hk
theorem getV_neg {l : List Nat} {i : Int} : getV l i < 0 ↔ (i < 0 ∨ (l.length : Int) ≤ i) := by
  unfold getV
  split <;> omega
theorem w_Map_Set {g gs : Nat} {l : List Nat} {i what : Int} (hm : MapIn g gs l A) (hl : Bytes l) (hk : K (.int .i64 (setE l i what)) (A.set gs (.irow T_uint8 .u8 (ints (setL l i what))))) : SimX Try.prog F_Pslotmap_Map_Set [.ptr g 0, .int .i64 i, .int .i64 what] A (outK K Kp) := by
  refine j_Pslotmap_Map_Set (by simp) ?_
  simp -implicitDefEqProofs [a_Pslotmap_Map_Set, q_Pslotmap_Map_Set_0, q_Pslotmap_Map_Set_1]
  refine w_Map_Get hm hl ?_
  by_cases h0 : i < 0 ∨ (l.length : Int) ≤ i
  · have hg := getV_neg.2 h0
    have he : setE l i what = 2 := by unfold setE; rw [if_pos h0]
    have hs : setL l i what = l := by unfold setL; rw [he]; rfl
    rw [he, hs, set_same hm.cs] at hk
    simp -implicitDefEqProofs [hg, q_Pslotmap_Map_Set_2, outOf]
    exact hk
  have hg : ¬ getV l i < 0 := fun h => h0 (getV_neg.1 h)
  have hg' : 0 ≤ getV l i := by omega
  by_cases h1 : what < 0 ∨ 2 < what
  · have he : setE l i what = 1 := by unfold setE; rw [if_neg h0, if_pos h1]
    have hs : setL l i what = l := by unfold setL; rw [he]; rfl
    rw [he, hs, set_same hm.cs] at hk
    by_cases h2 : what < 0
    · have h2' : ¬ 0 ≤ what := by omega
      simp -implicitDefEqProofs [hg, hg', q_Pslotmap_Map_Set_3, q_Pslotmap_Map_Set_4, h2, h2', outOf]
      exact hk
    · have h2' : 0 ≤ what := by omega
      have h3 : 2 < what := by omega
      have h3' : ¬ what ≤ 2 := by omega
      simp -implicitDefEqProofs [hg, hg', q_Pslotmap_Map_Set_3, q_Pslotmap_Map_Set_4, h2, h2', h3, h3', outOf]
      exact hk
  have he : setE l i what = 0 := by unfold setE; rw [if_neg h0, if_neg h1]
  obtain ⟨j, rfl⟩ : ∃ j : Nat, i = j := ⟨i.toNat, by omega⟩
  obtain ⟨w, rfl⟩ : ∃ w : Nat, what = w := ⟨what.toNat, by omega⟩
  have hs : setL l j w = l.set j w := by unfold setL; rw [if_pos he]; simp
  have hj : j < l.length := by omega
  have hj' : (j : Int) < l.length := by omega
  have ww : IntKind.u8.wrap ((w : Nat) : Int) = (w : Int) := wrap_u8 (by omega)
  have h2 : ¬ ((w : Nat) : Int) < 0 := by omega
  have h3 : ¬ (2 : Int) < (w : Int) := by omega
  have h3' : (w : Int) ≤ 2 := by omega
  have h3n : ¬ 2 < w := by omega
  rw [he, hs] at hk
  simp -implicitDefEqProofs [hg, hg', q_Pslotmap_Map_Set_3, q_Pslotmap_Map_Set_5, q_Pslotmap_Map_Set_6, h2, h3, h3', h3n, hj, hj', hm.cg, hm.cs, ww, outOf]
  exact hk
end
end Go.Proofs.Ytfdckjliinpjiaa

/- The walks of a slot map's New and Copy. -/
namespace Go.Proofs.Ytfdckjliinpjiaa
open Go AVL
attribute [-simp] AV.isAgg aappI aapp alen shp good comps
set_option linter.unusedVariables false
set_option linter.unusedSimpArgs false
set_option maxRecDepth 20000

section
variable {A B C : Heap} {K Kp : AV → Heap → Prop} {P : Program}
/-- A map atop of a base. -/
structure MapAt (A : Heap) (g gs : Nat) (l : List Nat) (B : Heap) : Prop where
  sub : A.Sub B
  ng : A g = none
  ns : A gs = none
  ne : g ≠ gs
  m : MapIn g gs l B
theorem MapAt.mono {g gs : Nat} {l : List Nat} (h : MapAt A g gs l B) (hs : B.Sub C) : MapAt A g gs l C := ⟨sub_tr h.sub hs, h.ng, h.ns, h.ne, h.m.mono hs⟩
theorem w_slotmap_New {n : Int} (h1 : n < 1 ∨ 200 < n → K (.tuple [.nilP, .int .i64 2]) A) (h2 : 1 ≤ n → n ≤ 200 → ∀ g gs B, MapAt A g gs (List.replicate n.toNat 0) B → K (.tuple [.ptr g 0, .int .i64 0]) B) :
    SimX Try.prog F_slotmap_New [.int .i64 n] A (outK K Kp) := by
  refine j_slotmap_New (by simp) ?_
  by_cases ha : n < 1
  · simp -implicitDefEqProofs [a_slotmap_New, q_slotmap_New_0, q_slotmap_New_1, q_slotmap_New_2, ha, outOf]
    exact h1 (.inl ha)
  by_cases hb : 200 < n
  · simp -implicitDefEqProofs [a_slotmap_New, q_slotmap_New_0, q_slotmap_New_1, q_slotmap_New_2, ha, hb, outOf]
    exact h1 (.inr hb)
  simp -implicitDefEqProofs [a_slotmap_New, q_slotmap_New_0, q_slotmap_New_1, q_slotmap_New_3, ha, hb, outOf]
  refine ⟨by omega, by omega, fun gs hgs g n1 n2 hg => h2 (by omega) (by omega) g gs _ ⟨?_, hg, hgs, n1, ⟨?_, ?_⟩⟩⟩
  · exact sub_set' (sub_none hgs) hg
  · simp
  · simp [n1, n2, ints]
theorem w_Map_Copy {g gs : Nat} {l : List Nat} (hm : MapIn g gs l A) (hlen : l.length ≤ 1000) (hpos : 0 < l.length) (hk : ∀ g2 gs2 B, MapAt A g2 gs2 l B → K (.ptr g2 0) B) :
    SimX Try.prog F_Pslotmap_Map_Copy [.ptr g 0] A (outK K Kp) := by
  refine j_Pslotmap_Map_Copy (by simp) ?_
  simp -implicitDefEqProofs [a_Pslotmap_Map_Copy, q_Pslotmap_Map_Copy_0, q_Pslotmap_Map_Copy_1, hm.cg, hm.cs, outOf]
  intro g3 h3
  have n3 := fresh_ne hm.cg h3
  have n4 := fresh_ne hm.cs h3
  simp -implicitDefEqProofs [n3, hm.cg]
  refine (SlS.one (e := T_uint8) (k := .u8) (l := []) (n := 0) h3 rfl).appO (ys := ints l) (Sub_refl _) (srcI_row (e := T_uint8) (l := ints l) (by rw [Heap.set_ne _ _ n4]; exact hm.cs) (by simp)) (by simp; omega) fun gd C hd => ?_
  simp -implicitDefEqProofs [outOf]
  intro g2 h2
  obtain ⟨d1, d2, _, _⟩ := hd.at
  have n5 := fresh_ne d2 h2
  refine hk g2 gd _ ⟨sub_tr hd.sub (sub_none h2), sub_noneL hd.sub h2, d1, Ne.symm n5, ⟨set_eq', ?_⟩⟩
  rw [Heap.set_ne _ _ n5]; simpa using d2
end
end Go.Proofs.Ytfdckjliinpjiaa

/- The walk of a slot map's Take. -/
namespace Go.Proofs.Ytfdckjliinpjiaa
open Go AVL
attribute [-simp] AV.isAgg aappI aapp alen shp good comps
set_option linter.unusedVariables false
set_option linter.unusedSimpArgs false
set_option maxRecDepth 20000

section
variable {A B C : Heap} {K Kp : AV → Heap → Prop} {P : Program}
def tk (l : List Nat) (T : List Nat) : List Nat := T.foldl (fun l i => l.set i 1) l
theorem tk_len (T : List Nat) : ∀ l : List Nat, (tk l T).length = l.length := by
  induction T with
  | nil => intro l; rfl
  | cons a r ih => intro l; show (tk (l.set a 1) r).length = _; rw [ih]; simp
theorem tk_snoc (l T : List Nat) (i : Nat) : tk l (T ++ [i]) = (tk l T).set i 1 := by simp [tk, List.foldl_append]
theorem take_loop {g gs g6 x : Nat} {l T : List Nat} {D : Heap} {env : AEnv} {n : Nat} (hn : n = T.length) (hT : ∀ i ∈ T, i < l.length) (hlen : l.length ≤ 1000) (hTl : T.length ≤ 1000) (hm : MapIn g gs l D) (k6 : D g6 = some (.var 41 [.own x 0 n])) (kx : D x = some (.irow 3 .i64 (ints T)))
    (e0 : env 0 = .ptr g 0) (e6 : env 6 = .ptr g6 0) (e27 : env 27 = .own x 0 n) (e28 : env 28 = .int .i64 T.length) (e29 : env 29 = .int .i64 0) (hk : K (.tuple [.own x 0 n, .int .i64 0]) (D.set gs (.irow T_uint8 .u8 (ints (tk l T))))) :
    AVL.X Try.prog (inl [ARes.tmp 4, ARes.tmp 5] K Kp) (.loop q_Pslotmap_Map_Take_L12) (.blk 2 (.thn (.seq (.region q_Pslotmap_Map_Take_12) .ret) .done)) env D := by
  subst hn
  have nx : gs ≠ x := by rintro rfl; have := hm.cs; rw [kx] at this; cases this
  have n6 : gs ≠ g6 := by rintro rfl; have := hm.cs; rw [k6] at this; cases this
  have ng : gs ≠ g := by rintro rfl; have h1 := hm.cs; have h2 := hm.cg; rw [h1] at h2; cases h2
  refine X_lp (fun (j : Nat) env E => j ≤ T.length ∧ E = D.set gs (.irow T_uint8 .u8 (ints (tk l (T.take j)))) ∧ env 0 = .ptr g 0 ∧ env 6 = .ptr g6 0 ∧ env 27 = .own x 0 T.length ∧ env 28 = .int .i64 T.length ∧ env 29 = .int .i64 j) (fun j => T.length - j) 0
    ⟨by omega, by simpa [tk] using (set_same hm.cs).symm, e0, e6, e27, e28, by simp [e29]⟩ ?_
  clear e0 e6 e27 e28 e29
  rintro j env E ⟨hj, rfl, e0, e6, e27, e28, e29⟩
  by_cases hjl : j < T.length
  · have hjl' : (j : Int) < T.length := by omega
    have wi : IntKind.i64.wrap ((j : Int) + 1) = (j : Int) + 1 := wrap_i64 (by omega)
    have hTj := hT _ (List.getElem_mem hjl)
    have hTj' : (T[j] : Int) < l.length := by omega
    have hs : tk l (T.take (j + 1)) = (tk l (T.take j)).set T[j] 1 := by rw [List.take_succ_eq_append_getElem hjl, tk_snoc]
    simp -implicitDefEqProofs [q_Pslotmap_Map_Take_L12, q_Pslotmap_Map_Take_8, q_Pslotmap_Map_Take_9, q_Pslotmap_Map_Take_10, q_Pslotmap_Map_Take_11, e0, e6, e27, e28, e29, hjl, hjl', nx, n6, ng, Ne.symm nx, Ne.symm n6, Ne.symm ng, kx, hm.cg, tk_len, hTj, hTj', wi]
    refine lp_next (j + 1) ⟨by omega, ?_, by simp [e0], by simp [e6], by simp [e27], by simp [e28], by simp⟩ (by omega)
    rw [hs]; simp [ints, List.map_set]
  · have hje : j = T.length := by omega
    subst hje
    rw [List.take_length]
    simp -implicitDefEqProofs [q_Pslotmap_Map_Take_L12, q_Pslotmap_Map_Take_8, q_Pslotmap_Map_Take_12, e0, e6, e27, e28, e29, n6, Ne.symm n6, k6, outOf]
    exact hk
theorem take_loop0 {g6 : Nat} {D : Heap} {env : AEnv} (k6 : D g6 = some (.var 41 [.nilS])) (e6 : env 6 = .ptr g6 0) (e28 : env 28 = .int .i64 0) (e29 : env 29 = .int .i64 0) (hk : K (.tuple [.nilS, .int .i64 0]) D) :
    AVL.X Try.prog (inl [ARes.tmp 4, ARes.tmp 5] K Kp) (.loop q_Pslotmap_Map_Take_L12) (.blk 2 (.thn (.seq (.region q_Pslotmap_Map_Take_12) .ret) .done)) env D := by
  refine X_lp (fun (j : Nat) env E => E = D ∧ env 6 = .ptr g6 0 ∧ env 28 = .int .i64 0 ∧ env 29 = .int .i64 0) (fun j => j) 0 ⟨rfl, e6, e28, e29⟩ ?_
  clear e6 e28 e29
  rintro j env E ⟨rfl, e6, e28, e29⟩
  simp -implicitDefEqProofs [q_Pslotmap_Map_Take_L12, q_Pslotmap_Map_Take_8, q_Pslotmap_Map_Take_12, e6, e28, e29, k6, outOf]
  exact hk
theorem w_Map_Take {g gs : Nat} {l : List Nat} {n : Int} (hm : MapIn g gs l A) (hl : Bytes l) (hlen : l.length ≤ 1000) (k1 : n < 0 → ∀ B, A.Sub B → K (.tuple [.nilS, .int .i64 1]) B)
    (k2 : 0 ≤ n → (idx l 0 l.length).length < n → ∀ B, A.Sub B → K (.tuple [.nilS, .int .i64 6]) B)
    (k3 : 0 ≤ n → n ≤ (idx l 0 l.length).length → ∀ v E, E gs = some (.irow T_uint8 .u8 (ints (tk l ((idx l 0 l.length).take n.toNat)))) → SlS 3 .i64 v (ints ((idx l 0 l.length).take n.toNat)) (A.del gs) E → K (.tuple [v, .int .i64 0]) E) :
    SimX Try.prog F_Pslotmap_Map_Take [.ptr g 0, .int .i64 n] A (outK K Kp) := by
  refine j_Pslotmap_Map_Take (by simp) ?_
  by_cases hn : n < 0
  · simp -implicitDefEqProofs [a_Pslotmap_Map_Take, q_Pslotmap_Map_Take_0, q_Pslotmap_Map_Take_1, q_Pslotmap_Map_Take_2, hn, outOf]
    exact fun x hx => k1 hn _ (sub_none hx)
  simp -implicitDefEqProofs [a_Pslotmap_Map_Take, q_Pslotmap_Map_Take_0, q_Pslotmap_Map_Take_1, q_Pslotmap_Map_Take_3, hn]
  intro g3 h3
  refine w_Map_Count (hm.mono (sub_none h3)) hl (by omega) fun B hB => ?_
  have b3 := hB g3 _ set_eq'
  have sB := sub_tr (sub_none h3) hB
  by_cases hc : ((idx l 0 l.length).length : Int) < n
  · simp -implicitDefEqProofs [b3, hc, q_Pslotmap_Map_Take_4, outOf]
    exact k2 (by omega) hc B sB
  simp -implicitDefEqProofs [b3, hc, q_Pslotmap_Map_Take_5, q_Pslotmap_Map_Take_6]
  obtain ⟨N, rfl⟩ : ∃ N : Nat, n = N := ⟨n.toNat, by omega⟩
  have hN : N ≤ (idx l 0 l.length).length := by omega
  intro g6 h6
  have n36 := fresh_ne b3 h6
  refine w_Map_All fun b1 b2 h1 h2 n12 => ?_
  simp -implicitDefEqProofs
  intro gy y1 y2 y3 y4 y5 y6 hgy
  obtain ⟨X, hX⟩ : ∃ X, ((B.set g6 (.var 41 [.nilS])).set b1 (.var 38 [.ptr g 0])).set b2 (.var 3 [.int .i64 0]) = X := ⟨_, rfl⟩
  simp only [set_none] at h1 h2
  have x6 : X g6 = some (.var 41 [.nilS]) := by rw [← hX]; simp [h1, h2]
  have x1 : X b1 = some (.var 38 [.ptr g 0]) := by rw [← hX]; simp [n12, Ne.symm n12]
  have x2 : X b2 = some (.var 3 [.int .i64 0]) := by rw [← hX]; simp
  have sX : B.Sub X := by rw [← hX]; exact sub_new (sub_new (sub_none h6) (by simp [h1])) (by simp [h1, h2, n12, Ne.symm n12])
  rw [hX]
  clear hX
  have key : ∀ (en : List AV) (Q Qp : AV → Heap → Prop), en.length = 41 → en[6]?.getD AV.undef = .ptr g6 0 → en[3]?.getD AV.undef = .ptr g3 0 →
      (∀ C v, C g6 = some (.var 41 [v]) → SlS 3 .i64 v (ints ((idx l 0 l.length).take N)) B C → (C gy = some (.lp en [18] (rfA Try.f29 0) (rfB Try.f29 0) .ready) ∨ C gy = some (.lp en [18] (rfA Try.f29 0) (rfB Try.f29 0) (.done (.exit 0)))) → Q (.tuple []) C) →
      SimX Try.prog F_Pslotmap_Map_All_1 [.func (.yield gy) [] [], .ptr b1 0, .ptr b2 0] (X.set gy (.lp en [18] (rfA Try.f29 0) (rfB Try.f29 0) .ready)) (outK Q Qp) := by
    intro en Q Qp hn e6 e3 hQ
    refine w_All_1 (g := g) (gs := gs) (what := 0) hl (by omega) (fun i C => C b1 = some (.var 38 [.ptr g 0]) ∧ C b2 = some (.var 3 [.int .i64 0]) ∧ (idx l 0 i).length ≤ N ∧ C gy = some (.lp en [18] (rfA Try.f29 0) (rfB Try.f29 0) .ready) ∧ ∃ v, C g6 = some (.var 41 [v]) ∧ SlS 3 .i64 v (ints (idx l 0 i)) B C)
      (fun C => ∃ v, C g6 = some (.var 41 [v]) ∧ SlS 3 .i64 v (ints ((idx l 0 l.length).take N)) B C ∧ C gy = some (.lp en [18] (rfA Try.f29 0) (rfB Try.f29 0) (.done (.exit 0))))
      (fun i C h => ⟨h.1, h.2.1, by obtain ⟨_, _, _, _, v, _, hv⟩ := h; exact hv.sub _ _ (sB _ _ hm.cg), by obtain ⟨_, _, _, _, v, _, hv⟩ := h; exact hv.sub _ _ (sB _ _ hm.cs), _, _, _, _, h.2.2.2.1⟩) ?_ ?_ ?_ (fun C h => ?_) (fun C ⟨v, q1, q2, q3⟩ => hQ C v q1 q2 (.inr q3))
    · exact ⟨by simp [y3, y4, x1], by simp [y1, y2, x2], by simp [idx], by simp, .nilS, by simp [y5, y6, x6], by simpa [idx, ints] using SlS.nil (sub_set' sX hgy)⟩
    · rintro i C hi ⟨c1, c2, c5, c4, v, c6, hv⟩ hw
      exact ⟨c1, c2, by rw [idx_no hi hw]; exact c5, c4, v, c6, by rw [idx_no hi hw]; exact hv⟩
    · rintro i C hi ⟨c1, c2, c5, c4, v, c6, hv⟩ hw
      have hil := idx_len l 0 i
      have hs := hv.scl
      have c3 := hv.sub _ _ b3
      have ny3 : ¬ g3 = gy := fun e => by subst e; rw [b3] at hgy; cases hgy
      refine rd_Pslotmap_Map_Take_0 c4 hn rfl ?_
      by_cases hlen2 : (idx l 0 i).length = N
      · simp -implicitDefEqProofs [ra_Pslotmap_Map_Take_0, ra_Pslotmap_Map_Take_0_0, rb_Pslotmap_Map_Take_0, rb_Pslotmap_Map_Take_0_0, c4, roundEnv, e6, e3, c6, c3, y5, y6, ny3, Ne.symm ny3, hs.size, hs.shp, hs.agg, hs.good, hs.comps, hs.st, hv.len, hlen2]
        obtain ⟨r, hr⟩ := idx_more l 0 i (l.length - i)
        rw [show i + (l.length - i) = l.length by omega] at hr
        have ht : (idx l 0 l.length).take N = idx l 0 i := by rw [hr, ← hlen2, List.take_left']; rfl
        rw [ht]
        exact hv.set hgy (hv.ne c4 (by intro l; simp))
      · have hlen3 : ¬ ((idx l 0 i).length : Int) = N := by omega
        simp -implicitDefEqProofs [ra_Pslotmap_Map_Take_0, ra_Pslotmap_Map_Take_0_0, rb_Pslotmap_Map_Take_0, rb_Pslotmap_Map_Take_0_0, rb_Pslotmap_Map_Take_0_1, c4, roundEnv, e6, e3, c6, c3, y5, y6, ny3, Ne.symm ny3, hs.size, hs.shp, hs.agg, hs.good, hs.comps, hs.st, hv.len, hlen2, hlen3]
        intro g9 n9 n9' h9
        obtain ⟨D, hD⟩ : ∃ D, C.set gy (.lp en [18] (rfA Try.f29 0) (rfB Try.f29 0) .busy) = D := ⟨_, rfl⟩
        have hvD : SlS 3 .i64 v (ints (idx l 0 i)) B D := by rw [← hD]; exact hv.set hgy (hv.ne c4 (by intro l; simp))
        have d1 : D b1 = some (.var 38 [.ptr g 0]) := by rw [← hD]; simp [y3, y4, c1]
        have d2 : D b2 = some (.var 3 [.int .i64 0]) := by rw [← hD]; simp [y1, y2, c2]
        have d6 : D g6 = some (.var 41 [v]) := by rw [← hD]; simp [y5, y6, c6]
        have dy : D gy = some (.lp en [18] (rfA Try.f29 0) (rfB Try.f29 0) .busy) := by rw [← hD]; simp
        have d9 : D g9 = none := by rw [← hD]; simp [n9, h9]
        rw [hD]
        clear hD
        obtain ⟨Q', q1, q2, q3, q4, q5⟩ := hvD.top
        refine q3.appS (ys := [(i : Int)]) (sub_none d9) (srcI_row set_eq' rfl) (by simp; omega) fun v2 C2 hv2 hag2 => ?_
        have z1 := hv2.sub _ _ (q4 _ _ d1 (hvD.ne d1 (by intro l; simp)))
        have z2 := hv2.sub _ _ (q4 _ _ d2 (hvD.ne d2 (by intro l; simp)))
        have z6 := hv2.sub _ _ (q4 _ _ d6 (hvD.ne d6 (by intro l; simp)))
        have zy := hv2.sub _ _ (q4 _ _ dy (hvD.ne dy (by intro l; simp)))
        have w6 := hv2.not_base (q4 _ _ d6 (hvD.ne d6 (by intro l; simp)))
        have wy := hv2.not_base (q4 _ _ dy (hvD.ne dy (by intro l; simp)))
        have hs2 := hv2.scl
        simp -implicitDefEqProofs [z6, zy, y5, y6, e6, hs2.size, hs2.shp, hs2.agg, hs2.good, hs2.comps, hs2.st, hs.size, hs.shp, hs.agg, hs.good, hs.comps, hs.st]
        have hv3 : SlS 3 .i64 v2 (ints (idx l 0 (i + 1))) B C2 := by
          rw [idx_yes hi hw]; simpa [ints] using hv2.base q1
        exact ⟨by simp [y3, y4, h1, z1], by simp [y1, y2, h2, z2], by rw [idx_yes hi hw]; simp; omega, (hv3.set h6 w6).set hgy wy⟩
    · obtain ⟨c1, c2, c5, c4, v, c6, hv⟩ := h
      refine hQ C v c6 ?_ (.inl c4)
      rw [List.take_of_length_le c5]; exact hv
  refine key _ _ _ (by simp) (by simp) (by simp) fun C v c6 hv hy => ?_
  have k6 : (C.del gy) g6 = some (.var 41 [v]) := by rw [del_app, if_neg (fun e => by simp [e] at y5)]; exact c6
  have hvD : SlS 3 .i64 v (ints ((idx l 0 l.length).take N)) B (C.del gy) := by
    exact ⟨sub_del hv.sub hgy, hv.own.imp id fun ⟨x, q1, q2, q3⟩ => ⟨x, q1, q2, by
      rw [del_app, if_neg]; exact q3
      rintro rfl
      rcases hy with hy | hy <;> (rw [hy] at q3; cases q3)⟩⟩
  have hs := hv.scl
  have hmD : MapIn g gs l (C.del gy) := (hm.mono sB).mono hvD.sub
  have hT : ∀ i ∈ (idx l 0 l.length).take N, i < l.length := fun i hi => by
    have := List.mem_of_mem_take hi
    simp [idx] at this; exact this.1
  have hTl : ((idx l 0 l.length).take N).length ≤ 1000 := by have := idx_len l 0 l.length; simp; omega
  have fin : K (.tuple [v, .int .i64 0]) ((C.del gy).set gs (.irow T_uint8 .u8 (ints (tk l ((idx l 0 l.length).take N))))) := by
    refine k3 (by omega) (by omega) v _ (by simp) ?_
    simp only [Int.toNat_natCast]
    exact ((hvD.base sB).base del_sub).set (by rw [del_app, if_pos rfl]) (hvD.ne hmD.cs (by intro l; simp))
  rcases hy with hy | hy
  · simp -implicitDefEqProofs [hy, q_Pslotmap_Map_Take_7, k6, hs.size, hs.shp, hs.agg, hs.good, hs.comps, hs.st, hv.len]
    rcases hvD.own with ⟨rfl, hnil⟩ | ⟨x, rfl, _, hx⟩
    · have hT0 : (idx l 0 l.length).take N = [] := by simpa [ints] using hnil
      rw [hT0, show tk l [] = l from rfl, set_same hmD.cs] at fin
      have hl0 : ((idx l 0 l.length).take N).length = 0 := by rw [hT0]; rfl
      exact take_loop0 k6 (by simp) (by simpa using hl0) (by simp) fin
    · exact take_loop (T := (idx l 0 l.length).take N) (by simp) hT hlen hTl hmD k6 hx (by simp) (by simp) (by simp) (by simp) (by simp) fin
  · simp -implicitDefEqProofs [hy, q_Pslotmap_Map_Take_7, k6, hs.size, hs.shp, hs.agg, hs.good, hs.comps, hs.st, hv.len]
    rcases hvD.own with ⟨rfl, hnil⟩ | ⟨x, rfl, _, hx⟩
    · have hT0 : (idx l 0 l.length).take N = [] := by simpa [ints] using hnil
      rw [hT0, show tk l [] = l from rfl, set_same hmD.cs] at fin
      have hl0 : ((idx l 0 l.length).take N).length = 0 := by rw [hT0]; rfl
      exact take_loop0 k6 (by simp) (by simpa using hl0) (by simp) fin
    · exact take_loop (T := (idx l 0 l.length).take N) (by simp) hT hlen hTl hmD k6 hx (by simp) (by simp) (by simp) (by simp) (by simp) fin
end
end Go.Proofs.Ytfdckjliinpjiaa

/- The walk of the law's all. -/
namespace Go.Proofs.Ytfdckjliinpjiaa
open Go AVL
attribute [-simp] AV.isAgg aappI aapp alen shp good comps
set_option linter.unusedVariables false
set_option linter.unusedSimpArgs false
set_option maxRecDepth 20000

section
variable {A B C : Heap} {K Kp : AV → Heap → Prop} {P : Program}
theorem w_law10_all {g gs : Nat} {l : List Nat} {what : Int} (hm : MapIn g gs l B) (hl : Bytes l) (hlen : l.length ≤ 1000) (hk : ∀ v E, SlS 3 .i64 v (ints (idx l what l.length)) B E → K v E) :
    SimX Try.prog F_law10_all [.ptr g 0, .int .i64 what] B (outK K Kp) := by
  refine j_law10_all (by simp) ?_
  simp -implicitDefEqProofs [a_law10_all, q_law10_all_0, q_law10_all_1, q_law10_all_2]
  intro g6 h6
  refine w_Map_All fun b1 b2 h1 h2 n12 => ?_
  simp -implicitDefEqProofs
  intro gy y1 y2 y3 y4 y5 y6 hgy
  obtain ⟨X, hX⟩ : ∃ X, ((B.set g6 (.var 41 [.nilS])).set b1 (.var 38 [.ptr g 0])).set b2 (.var 3 [.int .i64 what]) = X := ⟨_, rfl⟩
  simp only [set_none] at h1 h2
  have x6 : X g6 = some (.var 41 [.nilS]) := by rw [← hX]; simp [h1, h2]
  have x1 : X b1 = some (.var 38 [.ptr g 0]) := by rw [← hX]; simp [n12, Ne.symm n12]
  have x2 : X b2 = some (.var 3 [.int .i64 what]) := by rw [← hX]; simp
  have sX : B.Sub X := by rw [← hX]; exact sub_new (sub_new (sub_none h6) (by simp [h1])) (by simp [h1, h2, n12, Ne.symm n12])
  rw [hX]
  clear hX
  have key : ∀ (en : List AV) (Q Qp : AV → Heap → Prop), en.length = 16 → en[5]?.getD AV.undef = .ptr g6 0 →
      (∀ C v, C g6 = some (.var 41 [v]) → SlS 3 .i64 v (ints (idx l what l.length)) B C → C gy = some (.lp en [10] (rfA Try.f85 0) (rfB Try.f85 0) .ready) → Q (.tuple []) C) →
      SimX Try.prog F_Pslotmap_Map_All_1 [.func (.yield gy) [] [], .ptr b1 0, .ptr b2 0] (X.set gy (.lp en [10] (rfA Try.f85 0) (rfB Try.f85 0) .ready)) (outK Q Qp) := by
    intro en Q Qp hn e6 hQ
    refine w_All_1 (g := g) (gs := gs) (what := what) hl (by omega) (fun i C => C b1 = some (.var 38 [.ptr g 0]) ∧ C b2 = some (.var 3 [.int .i64 what]) ∧ C gy = some (.lp en [10] (rfA Try.f85 0) (rfB Try.f85 0) .ready) ∧ ∃ v, C g6 = some (.var 41 [v]) ∧ SlS 3 .i64 v (ints (idx l what i)) B C)
      (fun C => False)
      (fun i C h => ⟨h.1, h.2.1, by obtain ⟨_, _, _, v, _, hv⟩ := h; exact hv.sub _ _ hm.cg, by obtain ⟨_, _, _, v, _, hv⟩ := h; exact hv.sub _ _ hm.cs, _, _, _, _, h.2.2.1⟩) ?_ ?_ ?_ (fun C ⟨_, _, c4, v, c6, hv⟩ => hQ C v c6 hv c4) (fun C h => h.elim)
    · exact ⟨by simp [y3, y4, x1], by simp [y1, y2, x2], by simp, .nilS, by simp [y5, y6, x6], by simpa [idx, ints] using SlS.nil (sub_set' sX hgy)⟩
    · rintro i C hi ⟨c1, c2, c4, v, c6, hv⟩ hw
      exact ⟨c1, c2, c4, v, c6, by rw [idx_no hi hw]; exact hv⟩
    · rintro i C hi ⟨c1, c2, c4, v, c6, hv⟩ hw
      have hil := idx_len l what i
      have hs := hv.scl
      refine rd_law10_all_0 c4 hn rfl ?_
      simp -implicitDefEqProofs [ra_law10_all_0, ra_law10_all_0_0, rb_law10_all_0, rb_law10_all_0_0, c4, roundEnv, e6, c6, y5, y6, hs.size, hs.shp, hs.agg, hs.good, hs.comps, hs.st]
      intro g9 n9 n9' h9
      obtain ⟨D, hD⟩ : ∃ D, C.set gy (.lp en [10] (rfA Try.f85 0) (rfB Try.f85 0) .busy) = D := ⟨_, rfl⟩
      have hvD : SlS 3 .i64 v (ints (idx l what i)) B D := by rw [← hD]; exact hv.set hgy (hv.ne c4 (by intro l; simp))
      have d1 : D b1 = some (.var 38 [.ptr g 0]) := by rw [← hD]; simp [y3, y4, c1]
      have d2 : D b2 = some (.var 3 [.int .i64 what]) := by rw [← hD]; simp [y1, y2, c2]
      have d6 : D g6 = some (.var 41 [v]) := by rw [← hD]; simp [y5, y6, c6]
      have dy : D gy = some (.lp en [10] (rfA Try.f85 0) (rfB Try.f85 0) .busy) := by rw [← hD]; simp
      have d9 : D g9 = none := by rw [← hD]; simp [n9, h9]
      rw [hD]
      clear hD
      obtain ⟨Q', q1, q2, q3, q4, q5⟩ := hvD.top
      refine q3.appS (ys := [(i : Int)]) (sub_none d9) (srcI_row set_eq' rfl) (by simp; omega) fun v2 C2 hv2 hag2 => ?_
      have z1 := hv2.sub _ _ (q4 _ _ d1 (hvD.ne d1 (by intro l; simp)))
      have z2 := hv2.sub _ _ (q4 _ _ d2 (hvD.ne d2 (by intro l; simp)))
      have z6 := hv2.sub _ _ (q4 _ _ d6 (hvD.ne d6 (by intro l; simp)))
      have zy := hv2.sub _ _ (q4 _ _ dy (hvD.ne dy (by intro l; simp)))
      have w6 := hv2.not_base (q4 _ _ d6 (hvD.ne d6 (by intro l; simp)))
      have wy := hv2.not_base (q4 _ _ dy (hvD.ne dy (by intro l; simp)))
      have hs2 := hv2.scl
      simp -implicitDefEqProofs [z6, zy, y5, y6, e6, hs2.size, hs2.shp, hs2.agg, hs2.good, hs2.comps, hs2.st, hs.size, hs.shp, hs.agg, hs.good, hs.comps, hs.st]
      have hv3 : SlS 3 .i64 v2 (ints (idx l what (i + 1))) B C2 := by
        rw [idx_yes hi hw]; simpa [ints] using hv2.base q1
      exact ⟨by simp [y3, y4, h1, z1], by simp [y1, y2, h2, z2], (hv3.set h6 w6).set hgy wy⟩
  refine key _ _ _ (by simp) (by simp) fun C v c6 hv hy => ?_
  have k6 : (C.del gy) g6 = some (.var 41 [v]) := by rw [del_app, if_neg (fun e => by simp [e] at y5)]; exact c6
  have hvD : SlS 3 .i64 v (ints (idx l what l.length)) B (C.del gy) :=
    ⟨sub_del hv.sub hgy, hv.own.imp id fun ⟨x, q1, q2, q3⟩ => ⟨x, q1, q2, by
      rw [del_app, if_neg]; exact q3
      rintro rfl; rw [hy] at q3; cases q3⟩⟩
  have hs := hv.scl
  simp -implicitDefEqProofs [hy, q_law10_all_3, k6, hs.size, hs.shp, hs.agg, hs.good, hs.comps, hs.st, outOf]
  exact hk v _ hvD
end
end Go.Proofs.Ytfdckjliinpjiaa

/- The walk of word.Whole. -/
namespace Go.Proofs.Ytfdckjliinpjiaa
open Go AVL
attribute [-simp] AV.isAgg aappI aapp alen shp good comps
set_option linter.unusedVariables false
set_option linter.unusedSimpArgs false
set_option maxRecDepth 20000

section
variable {A B C : Heap} {K Kp : AV → Heap → Prop} {P : Program}
/-- Bytes as a sector. -/
def whole (b : List Nat) : List Nat := b.take 256 ++ List.replicate (256 - b.length) 0
theorem whole_len (b : List Nat) : (whole b).length = 256 := by simp [whole]; omega
theorem whole_bytes {b : List Nat} (h : Bytes b) : Bytes (whole b) := fun x hx => by
  rcases List.mem_append.1 hx with hx | hx
  · exact h x (List.mem_of_mem_take hx)
  · rw [List.eq_of_mem_replicate hx]; decide
theorem spl_whole (b : List Nat) : spl (List.replicate 256 0) 0 (ints (b.take 256)) = ints (whole b) := by
  have h : 256 - min 256 b.length = 256 - b.length := by omega
  simp -implicitDefEqProofs [spl, whole, ints, h, -List.reduceReplicate]
theorem w_word_Whole {b : List Nat} (hb : Bytes b) : Gives Try.prog F_word_Whole [.isl .u8 (ints b)] (.iarr .u8 256 (ints (whole b))) := by
  refine v_word_Whole (by simp) ?_
  simp -implicitDefEqProofs [a_word_Whole, q_word_Whole_0, q_word_Whole_1, q_word_Whole_2, q_word_Whole_3, acopy, spl_whole, -List.reduceReplicate]
  intro g g1 n1 n2
  simp -implicitDefEqProofs [n1, n2, -List.reduceReplicate]
end
end Go.Proofs.Ytfdckjliinpjiaa

/- The walks of the checksum functions. -/
namespace Go.Proofs.Ytfdckjliinpjiaa
open Go AVL
set_option linter.unusedVariables false
set_option linter.unusedSimpArgs false

def step1 (r : Nat) : Nat := if r % 2 = 1 then (r / 2) ^^^ 3988292384 else r / 2
def steps : Nat → Nat → Nat
  | 0, r => r
  | n + 1, r => steps n (step1 r)
def turnN (r c : Nat) : Nat := steps 8 (r ^^^ c)
theorem step1_lt {r : Nat} (h : r < 2 ^ 32) : step1 r < 2 ^ 32 := by
  unfold step1
  split
  · exact Nat.xor_lt_two_pow (by omega) (by omega)
  · omega
theorem steps_lt : ∀ (n : Nat) {r : Nat}, r < 2 ^ 32 → steps n r < 2 ^ 32
  | 0, r, h => h
  | n + 1, r, h => steps_lt n (step1_lt h)
theorem turnN_lt {r c : Nat} (hr : r < 2 ^ 32) (hc : c < 256) : turnN r c < 2 ^ 32 := steps_lt 8 (Nat.xor_lt_two_pow hr (by omega))

theorem w_crc_turn (r c : Nat) (hr : r < 2 ^ 32) (hc : c < 256) : Gives Try.prog F_crc_turn [.int .u32 r, .int .u8 c] (.int .u32 (turnN r c)) := by
  refine i_crc_turn (by simp) fun R hR => ?_
  have e1 : IntKind.u32.wrap (c : Int) = c := wrap_u32 (by omega)
  have e2 : bXor .u32 (r : Int) (c : Int) = ((r ^^^ c : Nat) : Int) := bXor_nat rfl hr (by simp [IntKind.bits]; omega)
  simp -implicitDefEqProofs [a_crc_turn, q_crc_turn_0, q_crc_turn_1, q_crc_turn_2, e1, e2]
  refine X_loop (fun (s : Nat × Nat) env A => s.1 ≤ 8 ∧ s.2 < 2 ^ 32 ∧ steps (8 - s.1) s.2 = turnN r c ∧ env 0 = .int .u32 s.2 ∧ env 9 = .int .i64 s.1 ∧ A = H0) (fun s => 8 - s.1) (0, r ^^^ c) ⟨by simp, Nat.xor_lt_two_pow hr (by omega), rfl, by simp, by simp, rfl⟩ ?_
  rintro R' ⟨i, x⟩ env A ⟨h1, h2, h3, h4, h5, rfl⟩ hN hE
  simp only at h1 h2 h3 h4 h5
  have e3 : bAnd .u32 (x : Int) 1 = ((x % 2 : Nat) : Int) := by
    have := bAnd_nat (k := .u32) rfl h2 (b := 1) (by decide)
    rw [Nat.and_one_is_mod] at this; exact this
  have e4 : shrI .u32 (x : Int) 1 = ((x / 2 : Nat) : Int) := shrI_nat (b := 1)
  have e5 : bXor .u32 ((x : Int) / 2) 3988292384 = ((x / 2 ^^^ 3988292384 : Nat) : Int) := bXor_nat (a := x / 2) (b := 3988292384) rfl (by simp [IntKind.bits]; omega) (by decide)
  have e6 : i < 8 → IntKind.i64.wrap ((i : Int) + 1) = ((i + 1 : Nat) : Int) := fun h => by rw [wrap_i64 (by omega)]; simp
  simp -implicitDefEqProofs [q_crc_turn_L8, q_crc_turn_3, q_crc_turn_4, q_crc_turn_5, q_crc_turn_6, q_crc_turn_7, h4, h5, e3, e4, e5]
  refine ⟨fun hi => ?_, fun hi => ?_⟩
  · have hs : 8 - i = (8 - (i + 1)) + 1 := by omega
    rw [hs] at h3
    simp only [steps] at h3
    refine ⟨fun hx => ?_, fun hx => ?_⟩
    · have hx' : step1 x = x / 2 ^^^ 3988292384 := by unfold step1; rw [if_pos (by omega)]
      refine hN (i + 1, step1 x) _ _ ⟨by simp; omega, step1_lt h2, h3, by simp [hx'], by simp [e6 (by omega)], rfl⟩ (by simp; omega)
    · have hx' : step1 x = x / 2 := by unfold step1; rw [if_neg (by omega)]
      refine hN (i + 1, step1 x) _ _ ⟨by simp; omega, step1_lt h2, h3, by simp [hx'], by simp [e6 (by omega)], rfl⟩ (by simp; omega)
  · refine hE _ _ _ (by simp) ?_
    have : i = 8 := by omega
    subst this
    simp only [Nat.sub_self, steps] at h3
    subst h3
    simp -implicitDefEqProofs [q_crc_turn_8, h4]
    exact hR _ _ _ ⟨H0, Sub_refl _, by simp, rfl⟩
end Go.Proofs.Ytfdckjliinpjiaa

/- The walks of the checksum functions, second part. -/
namespace Go.Proofs.Ytfdckjliinpjiaa
open Go AVL
set_option linter.unusedVariables false
set_option linter.unusedSimpArgs false

def notN (s : Nat) : Nat := 4294967295 ^^^ s
def moreN (s : Nat) (l : List Nat) : Nat := notN (l.foldl turnN (notN s))
theorem notN_lt {s : Nat} (h : s < 2 ^ 32) : notN s < 2 ^ 32 := Nat.xor_lt_two_pow (by decide) h
theorem foldl_lt : ∀ (l : List Nat) (r : Nat), Bytes l → r < 2 ^ 32 → l.foldl turnN r < 2 ^ 32
  | [], r, _, hr => hr
  | c :: l, r, hl, hr => foldl_lt l _ (fun x hx => hl x (by simp [hx])) (turnN_lt hr (hl c (by simp)))
theorem moreN_lt {s : Nat} {l : List Nat} (hs : s < 2 ^ 32) (hl : Bytes l) : moreN s l < 2 ^ 32 := notN_lt (foldl_lt l _ hl (notN_lt hs))
theorem bXor_not {s : Nat} (hs : s < 2 ^ 32) : bXor .u32 4294967295 (s : Int) = ((notN s : Nat) : Int) := bXor_nat (a := 4294967295) rfl (by decide) hs

theorem w_crc_More (s : Nat) (l : List Nat) (hs : s < 2 ^ 32) (hl : Bytes l) (hn : l.length < 2 ^ 62) : Gives Try.prog F_crc_More [.int .u32 s, .isl .u8 (ints l)] (.int .u32 (moreN s l)) := by
  refine i_crc_More (by simp) fun R hR => ?_
  have m : IntKind.u32.max = 4294967295 := by decide
  have sg : IntKind.u32.signed = false := rfl
  simp -implicitDefEqProofs [a_crc_More, q_crc_More_0, q_crc_More_1, q_crc_More_2, sg, m, bXor_not hs]
  refine X_loop (fun (s' : Nat × Nat) env A => s'.1 ≤ l.length ∧ s'.2 < 2 ^ 32 ∧ notN ((l.drop s'.1).foldl turnN s'.2) = moreN s l ∧ env 5 = .int .u32 s'.2 ∧ env 10 = .isl .u8 (ints l) ∧ env 11 = .int .i64 l.length ∧ env 12 = .int .i64 s'.1 ∧ A = H0)
    (fun s' => l.length - s'.1) (0, notN s) ⟨by simp, notN_lt hs, rfl, by simp, by simp, by simp, by simp, rfl⟩ ?_
  rintro R' ⟨i, x⟩ env A ⟨h1, h2, h3, h4, h5, h6, h7, rfl⟩ hN hE
  simp only at h1 h2 h3 h4 h7
  simp -implicitDefEqProofs [q_crc_More_L7, q_crc_More_3, q_crc_More_4, h4, h5, h6, h7]
  refine ⟨fun hi => ⟨hi, ?_⟩, fun hi => ?_⟩
  · have hb : (l[i]?.getD 0) < 256 := by rw [List.getElem?_eq_getElem hi]; exact hl _ (List.getElem_mem hi)
    simp -implicitDefEqProofs [q_crc_More_5, h4]
    refine (w_crc_turn x _ h2 hb).call (.cons (.refl _) rfl (.cons (.refl _) rfl .nil)) rfl ?_
    have e6 : IntKind.i64.wrap ((i : Int) + 1) = ((i + 1 : Nat) : Int) := by rw [wrap_i64 (by omega)]; simp
    simp -implicitDefEqProofs [q_crc_More_6, h7]
    refine hN (i + 1, turnN x (l[i]?.getD 0)) _ _ ⟨hi, turnN_lt h2 hb, ?_, by simp, by simp [h5], by simp [h6], by simp [e6], rfl⟩ (by simp; omega)
    rw [List.drop_eq_getElem_cons hi] at h3
    have hg : l[i]?.getD 0 = l[i] := by simp [List.getElem?_eq_getElem hi]
    rw [hg]
    exact h3
  · refine hE _ _ _ (by simp) ?_
    have : i = l.length := by omega
    subst this
    simp only [List.drop_length, List.foldl_nil] at h3
    simp -implicitDefEqProofs [q_crc_More_7, h4, sg, m, bXor_not h2, h3]
    exact hR _ _ _ ⟨H0, Sub_refl _, by simp, rfl⟩

theorem w_crc_Of (l : List Nat) (hl : Bytes l) (hn : l.length < 2 ^ 62) : Gives Try.prog F_crc_Of [.isl .u8 (ints l)] (.int .u32 (moreN 0 l)) := by
  refine i_crc_Of (by simp) fun R hR => ?_
  simp -implicitDefEqProofs [a_crc_Of, q_crc_Of_0, q_crc_Of_1]
  refine (w_crc_More 0 l (by decide) hl hn).call (.cons (.refl _) rfl (.cons (.refl _) rfl .nil)) rfl ?_
  simp -implicitDefEqProofs
  exact hR _ _ _ ⟨H0, Sub_refl _, by simp, rfl⟩

def fourN (s : Nat) : List Nat := [s % 256, s / 256 % 256, s / 65536 % 256, s / 16777216 % 256]
theorem w_crc_Four (s : Nat) (hs : s < 2 ^ 32) : Gives Try.prog F_crc_Four [.int .u32 s] (.iarr .u8 4 (ints (fourN s))) := by
  refine i_crc_Four (by simp) fun R hR => ?_
  have e8 : shrI .u32 (s : Int) 8 = ((s / 256 : Nat) : Int) := shrI_nat (b := 8)
  have e16 : shrI .u32 (s : Int) 16 = ((s / 65536 : Nat) : Int) := shrI_nat (b := 16)
  have e24 : shrI .u32 (s : Int) 24 = ((s / 16777216 : Nat) : Int) := shrI_nat (b := 24)
  simp -implicitDefEqProofs [a_crc_Four, q_crc_Four_0, q_crc_Four_1, e8, e16, e24, wrap_u8m]
  intro g
  refine hR _ _ _ ?_
  simp -implicitDefEqProofs [a_crc_Four, fpost, fourN, ints]

theorem w_crc_Sealed (l : List Nat) (hl : Bytes l) (hn : l.length < 2 ^ 40) : Makes Try.prog F_crc_Sealed [.isl .u8 (ints l)] (l.length + 4) (.irow 5 .u8 (ints (l ++ fourN (moreN 0 l)))) := by
  refine i_crc_Sealed (by simp) fun R hR => ?_
  simp -implicitDefEqProofs [a_crc_Sealed, q_crc_Sealed_0, q_crc_Sealed_1]
  refine (w_crc_Of l hl (by omega)).call (.cons (.refl _) rfl .nil) rfl ?_
  simp -implicitDefEqProofs
  refine (w_crc_Four _ (moreN_lt (by decide) hl)).call (.cons (.refl _) rfl .nil) rfl ?_
  have h4 : (fourN (moreN 0 l)).length = 4 := rfl
  simp -implicitDefEqProofs +contextual [q_crc_Sealed_2, h4]
  intro g g1 _ _
  refine ⟨by omega, fun g2 _ _ _ _ => ⟨by omega, fun g3 _ _ _ _ => ?_⟩⟩
  refine hR _ _ _ ?_
  simp -implicitDefEqProofs [a_crc_Sealed, fpost]
  have h5 : List.take 4 (fourN (moreN 0 l)) = fourN (moreN 0 l) := rfl
  simp only [h5]
  exact set_sub (H0_sub _)

theorem bytes_four (s : Nat) : Bytes (fourN s) := by
  intro x hx
  simp -implicitDefEqProofs [fourN] at hx
  omega
/-- What Holds answers. -/
def holdsN (l : List Nat) : Bool := decide (4 ≤ l.length) && (fourN (moreN 0 (l.take (l.length - 4))) == l.drop (l.length - 4))
theorem w_crc_Holds (l : List Nat) (hl : Bytes l) (hn : l.length < 2 ^ 60) : Gives Try.prog F_crc_Holds [.isl .u8 (ints l)] (.bool (holdsN l)) := by
  refine i_crc_Holds (by simp) fun R hR => ?_
  have e : IntKind.i64.wrap ((l.length : Int) - 4) = (l.length : Int) - 4 := wrap_i64 (by omega)
  simp -implicitDefEqProofs [a_crc_Holds, q_crc_Holds_0, q_crc_Holds_1, q_crc_Holds_2, e]
  refine ⟨fun h => ?_, fun h => ?_⟩
  · simp -implicitDefEqProofs [q_crc_Holds_3]
    have : holdsN l = false := by simp [holdsN]; omega
    exact hR _ _ _ (by simp [a_crc_Holds, fpost, this])
  · have tn : ((l.length : Int) - 4).toNat = l.length - 4 := by omega
    have hl4 : 4 ≤ l.length := by omega
    have t2 : l.length - (l.length - 4) = 4 := by omega
    have t3 : List.take 4 (List.drop (l.length - 4) l) = List.drop (l.length - 4) l := List.take_of_length_le (by simp; omega)
    simp -implicitDefEqProofs [q_crc_Holds_4, tn, hl4, t2, t3, h]
    refine ⟨by omega, ?_⟩
    refine (w_crc_Of _ (bytes_take hl _) (by simp; omega)).call (.cons (.refl _) rfl .nil) rfl ?_
    simp -implicitDefEqProofs [Sub_refl]
    refine (w_crc_Four _ (moreN_lt (by decide) (bytes_take hl _))).call (.cons (.refl _) rfl .nil) rfl ?_
    simp -implicitDefEqProofs [Sub_refl]
    have he : eqI 4 (ints (fourN (moreN 0 (List.take (l.length - 4) l)))) (ints (List.drop (l.length - 4) l)) = holdsN l := by
      rw [eqI_ints (n := 4) rfl (by simp; omega)]
      simp -implicitDefEqProofs [holdsN, hl4]
    rw [he]
    exact hR _ _ _ (by simp [a_crc_Holds, fpost])
end Go.Proofs.Ytfdckjliinpjiaa
