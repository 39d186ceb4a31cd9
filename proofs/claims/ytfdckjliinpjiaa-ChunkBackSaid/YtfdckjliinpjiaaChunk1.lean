/- Texts of this claim, in order: Fn Gword Wb Gchunk Ha Gdig Dh Db. -/
import Derived.Test.YtfdckjliinpjiaaL3
import Derived.Test.YtfdckjliinpjiaaProg
import Derived.KernelRfl
/- The numbers of functions and types, by name. -/
namespace Go.Proofs.Ytfdckjliinpjiaa
open Go AVL
set_option linter.unusedVariables false
set_option maxRecDepth 20000

abbrev F_law24_ParcelPuts : FuncId := 3
abbrev F_law24_ParcelBack : FuncId := 4
abbrev F_law24_ParcelOne : FuncId := 5
abbrev F_law10_SlotmapDoes : FuncId := 6
abbrev F_law10_SlotmapBack : FuncId := 7
abbrev F_law10_SlotmapParts : FuncId := 8
abbrev F_law13_ChunkCuts : FuncId := 9
abbrev F_law13_ChunkNames : FuncId := 10
abbrev F_law13_ChunkBack : FuncId := 11
abbrev F_law31_TreeRoots : FuncId := 12
abbrev F_law31_TreeBack : FuncId := 13
abbrev F_law31_TreeTells : FuncId := 14
abbrev F_law24_Light : FuncId := 15
abbrev F_law24_works : FuncId := 16
abbrev F_parcel_Put : FuncId := 17
abbrev F_ref24_Put : FuncId := 18
abbrev F_ref01_Same : FuncId := 19
abbrev F_parcel_Same : FuncId := 20
abbrev F_ref24_Same : FuncId := 21
abbrev F_parcel_Get : FuncId := 22
abbrev F_law10_works : FuncId := 23
abbrev F_slotmap_New : FuncId := 24
abbrev F_Pslotmap_Map_Copy : FuncId := 25
abbrev F_ref10_Set : FuncId := 26
abbrev F_Pslotmap_Map_Set : FuncId := 27
abbrev F_ref10_Take : FuncId := 28
abbrev F_Pslotmap_Map_Take : FuncId := 29
abbrev F_law10_ints : FuncId := 30
abbrev F_law10_same : FuncId := 31
abbrev F_Pslotmap_Map_Put : FuncId := 32
abbrev F_slotmap_Read : FuncId := 33
abbrev F_ref10_Put : FuncId := 34
abbrev F_Pslotmap_Map_Len : FuncId := 35
abbrev F_Pslotmap_Map_Count : FuncId := 36
abbrev F_Pslotmap_Map_First : FuncId := 37
abbrev F_Pslotmap_Map_Get : FuncId := 38
abbrev F_law13_works : FuncId := 39
abbrev F_chunk_Split : FuncId := 40
abbrev F_ref13_Split : FuncId := 41
abbrev F_chunk_Check : FuncId := 42
abbrev F_ref13_Check : FuncId := 43
abbrev F_chunk_Count : FuncId := 44
abbrev F_chunk_Part : FuncId := 45
abbrev F_chunk_All : FuncId := 46
abbrev F_chunk_Addresses : FuncId := 47
abbrev F_ref13_Address : FuncId := 48
abbrev F_chunk_Address : FuncId := 49
abbrev F_chunk_Text : FuncId := 50
abbrev F_ref13_Text : FuncId := 51
abbrev F_chunk_Of : FuncId := 52
abbrev F_chunk_Sector : FuncId := 53
abbrev F_chunk_Join : FuncId := 54
abbrev F_ref13_Join : FuncId := 55
abbrev F_law31_light : FuncId := 56
abbrev F_law31_works : FuncId := 57
abbrev F_tree_Root : FuncId := 58
abbrev F_ref31_Root : FuncId := 59
abbrev F_tree_Check : FuncId := 60
abbrev F_tree_Prove : FuncId := 61
abbrev F_ref31_Same : FuncId := 62
abbrev F_ref31_Path : FuncId := 63
abbrev F_tree_Leaf : FuncId := 64
abbrev F_ref03_Sum : FuncId := 65
abbrev F_ref31_LeafText : FuncId := 66
abbrev F_tree_Depth : FuncId := 67
abbrev F_ref31_Rows : FuncId := 68
abbrev F_tree_All : FuncId := 69
abbrev F_tree_Climb : FuncId := 70
abbrev F_tree_Verify : FuncId := 71
abbrev F_law31_texts : FuncId := 72
abbrev F_law31_clash : FuncId := 73
abbrev F_trap_Try_byte : FuncId := 74
abbrev F_parcel_Put_1 : FuncId := 75
abbrev F_parcel_put : FuncId := 76
abbrev F_ref24_wrong : FuncId := 77
abbrev F_ref01_Put : FuncId := 78
abbrev F_ref24_text : FuncId := 79
abbrev F_trap_Try_api_Request : FuncId := 80
abbrev F_Pparcel_eye_get : FuncId := 81
abbrev F_Pslotmap_Map_Last : FuncId := 82
abbrev F_ref10_Of : FuncId := 83
abbrev F_Pslotmap_Map_All : FuncId := 84
abbrev F_law10_all : FuncId := 85
abbrev F_word_Whole : FuncId := 86
abbrev F_crc_Sealed : FuncId := 87
abbrev F_crc_Holds : FuncId := 88
abbrev F_ref08_Sealed : FuncId := 89
abbrev F_chunk_All_1 : FuncId := 90
abbrev F_ref13_Said : FuncId := 91
abbrev F_digest_Of : FuncId := 92
abbrev F_ref13_Words : FuncId := 93
abbrev F_digest_New : FuncId := 94
abbrev F_Pdigest_Hash_Add : FuncId := 95
abbrev F_word_Put : FuncId := 96
abbrev F_Pdigest_Hash_Sum : FuncId := 97
abbrev F_word_Zero : FuncId := 98
abbrev F_ref01_Zero : FuncId := 99
abbrev F_tree_leaves : FuncId := 100
abbrev F_tree_up : FuncId := 101
abbrev F_tree_crown : FuncId := 102
abbrev F_ref31_Check : FuncId := 103
abbrev F_ref31_RootText : FuncId := 104
abbrev F_ref31_top : FuncId := 105
abbrev F_ref31_path : FuncId := 106
abbrev F_ref03_table : FuncId := 107
abbrev F_ref03_padded : FuncId := 108
abbrev F_ref03_mixed : FuncId := 109
abbrev F_ref03_words : FuncId := 110
abbrev F_tree_join : FuncId := 111
abbrev F_ref31_NodeText : FuncId := 112
abbrev F_trap_Catch : FuncId := 113
abbrev F_trap_Try_byte_1 : FuncId := 114
abbrev F_parcel_mark : FuncId := 115
abbrev F_parcel_text : FuncId := 116
abbrev F_trap_Throw : FuncId := 117
abbrev F_trap_Try_api_Request_1 : FuncId := 118
abbrev F_Pparcel_eye_take : FuncId := 119
abbrev F_Pparcel_eye_num : FuncId := 120
abbrev F_Pparcel_eye_text : FuncId := 121
abbrev F_Pparcel_eye_addr : FuncId := 122
abbrev F_Pslotmap_Map_All_1 : FuncId := 123
abbrev F_crc_Four : FuncId := 124
abbrev F_crc_Of : FuncId := 125
abbrev F_ref02_Of : FuncId := 126
abbrev F_digest_mix : FuncId := 127
abbrev F_ref31_behind : FuncId := 128
abbrev F_ref31_width : FuncId := 129
abbrev F_ref03_right : FuncId := 130
abbrev F_trap_Catch_1 : FuncId := 131
abbrev F_trap_caught : FuncId := 132
abbrev F_word_Get : FuncId := 133
abbrev F_crc_More : FuncId := 134
abbrev F_ref02_bits : FuncId := 135
abbrev F_digest_spread : FuncId := 136
abbrev F_digest_rounds : FuncId := 137
abbrev F_digest_spin : FuncId := 138
abbrev F_crc_turn : FuncId := 139
abbrev F_Pruntime_TypeAssertionError_Error : FuncId := 148
abbrev F_Pruntime_TypeAssertionError_RuntimeError : FuncId := 149
abbrev F_Pruntime_PanicNilError_Error : FuncId := 150
abbrev F_Pruntime_PanicNilError_RuntimeError : FuncId := 151
abbrev F_Pinternal_abi_Type_Align : FuncId := 152
abbrev F_internal_runtime_maps_unhashableTypeError_Error : FuncId := 153
abbrev F_internal_runtime_maps_unhashableTypeError_RuntimeError : FuncId := 154
abbrev F_internal_abi_Kind_String : FuncId := 155
abbrev T_fno_c : TypeId := 1
abbrev T_int64 : TypeId := 2
abbrev T_int : TypeId := 3
abbrev T_bool : TypeId := 4
abbrev T_uint8 : TypeId := 5
abbrev T_string : TypeId := 9
abbrev T_uintptr : TypeId := 12
abbrev T_P_runtime_TypeAssertionError : TypeId := 15
abbrev T_P_runtime_PanicNilError : TypeId := 16
abbrev T_P_abi_Type : TypeId := 17
abbrev T_interface : TypeId := 20
abbrev T_int32 : TypeId := 21
abbrev T_L_uint8 : TypeId := 22
abbrev T_32_uint8 : TypeId := 23
abbrev T_L_32_uint8 : TypeId := 24
abbrev T_api_Request : TypeId := 26
abbrev T_fno_api_Request_c_int : TypeId := 27
abbrev T_fno_c_bool : TypeId := 28
abbrev T_api_Code : TypeId := 29
abbrev T_L_uint8_api_Code : TypeId := 30
abbrev T_fno_api_Request_c_o_L_uint8_api_Code_c : TypeId := 31
abbrev T_fno_L_uint8_L_uint8_c_bool : TypeId := 32
abbrev T_fno_api_Request_api_Request_c_bool : TypeId := 33
abbrev T_api_Request_api_Code : TypeId := 34
abbrev T_fno_L_uint8_c_o_api_Request_api_Code_c : TypeId := 35
abbrev T_fno_L_uint8_c_bool : TypeId := 36
abbrev T_L_law10_Op : TypeId := 37
abbrev T_P_slotmap_Map : TypeId := 38
abbrev T_P_slotmap_Map_api_Code : TypeId := 39
abbrev T_fno_int_c_o_P_slotmap_Map_api_Code_c : TypeId := 40
abbrev T_L_int : TypeId := 41
abbrev T_fno_c_P_slotmap_Map : TypeId := 42
abbrev T_law10_Op : TypeId := 44
abbrev T_L_int_api_Code : TypeId := 45
abbrev T_fno_L_int_int_int_c_o_L_int_api_Code_c : TypeId := 46
abbrev T_fno_int_int_c_api_Code : TypeId := 47
abbrev T_L_int_L_int_api_Code : TypeId := 48
abbrev T_fno_L_int_int_c_o_L_int_L_int_api_Code_c : TypeId := 49
abbrev T_fno_int_c_o_L_int_api_Code_c : TypeId := 50
abbrev T_fno_L_int_L_int_c_bool : TypeId := 51
abbrev T_fno_P_slotmap_Map_L_int_c_bool : TypeId := 52
abbrev T_fno_int_L_law10_Op_c_bool : TypeId := 53
abbrev T_256_uint8 : TypeId := 54
abbrev T_fno_c_256_uint8 : TypeId := 55
abbrev T_fno_int_256_uint8_c_o_P_slotmap_Map_api_Code_c : TypeId := 56
abbrev T_fno_L_int_c_256_uint8 : TypeId := 57
abbrev T_fno_c_int : TypeId := 58
abbrev T_fno_L_uint8_256_uint8_int_c_bool : TypeId := 59
abbrev T_fno_int_c_int : TypeId := 60
abbrev T_fno_L_uint8_int_c_bool : TypeId := 61
abbrev T_L_L_uint8 : TypeId := 62
abbrev T_fno_L_uint8_c_L_L_uint8 : TypeId := 63
abbrev T_fno_L_uint8_c_api_Code : TypeId := 64
abbrev T_fno_int_int_c_int : TypeId := 65
abbrev T_fno_funco_int_L_uint8_c_bool_c : TypeId := 66
abbrev T_iter_Seq2_int_L_uint8 : TypeId := 67
abbrev T_fno_L_uint8_c_iter_Seq2_int_L_uint8 : TypeId := 68
abbrev T_fno_L_uint8_int_int_c_bool : TypeId := 69
abbrev T_fno_L_uint8_c_L_32_uint8 : TypeId := 70
abbrev T_fno_L_uint8_c_32_uint8 : TypeId := 71
abbrev T_fno_int_L_32_uint8_c_32_uint8 : TypeId := 72
abbrev T_L_256_uint8 : TypeId := 73
abbrev T_fno_L_uint8_c_256_uint8 : TypeId := 74
abbrev T_fno_int_L_256_uint8_c_o_L_uint8_api_Code_c : TypeId := 75
abbrev T_fno_L_uint8_int_L_256_uint8_c_bool : TypeId := 76
abbrev T_fno_L_L_uint8_c_bool : TypeId := 77
abbrev T_32_uint8_api_Code : TypeId := 78
abbrev T_fno_L_L_uint8_c_o_32_uint8_api_Code_c : TypeId := 79
abbrev T_fno_L_L_uint8_c_api_Code : TypeId := 80
abbrev T_tree_Proof : TypeId := 82
abbrev T_tree_Proof_api_Code : TypeId := 83
abbrev T_fno_L_L_uint8_int_c_o_tree_Proof_api_Code_c : TypeId := 84
abbrev T_fno_L_32_uint8_L_32_uint8_c_bool : TypeId := 85
abbrev T_fno_L_L_uint8_int_c_L_32_uint8 : TypeId := 86
abbrev T_fno_int_L_uint8_c_32_uint8 : TypeId := 87
abbrev T_fno_int_L_uint8_c_L_uint8 : TypeId := 88
abbrev T_fno_L_L_uint8_int_int_c_bool : TypeId := 89
abbrev T_L_tree_Proof : TypeId := 90
abbrev T_L_tree_Proof_api_Code : TypeId := 91
abbrev T_fno_L_L_uint8_c_o_L_tree_Proof_api_Code_c : TypeId := 92
abbrev T_32_uint8_bool : TypeId := 93
abbrev T_fno_tree_Proof_L_uint8_c_o_32_uint8_bool_c : TypeId := 94
abbrev T_fno_32_uint8_tree_Proof_L_uint8_c_bool : TypeId := 95
abbrev T_fno_tree_Proof_L_uint8_c_L_L_uint8 : TypeId := 96
abbrev T_fno_L_L_uint8_tree_Proof_L_uint8_c_bool : TypeId := 97
abbrev T_fno_funco_c_L_uint8_c_o_L_uint8_api_Code_c : TypeId := 98
abbrev T_fno_api_Request_c_L_uint8 : TypeId := 99
abbrev T_fno_c_L_uint8 : TypeId := 100
abbrev T_fno_api_Request_c_api_Code : TypeId := 101
abbrev T_fno_uint64_int_c_L_uint8 : TypeId := 102
abbrev T_uint64 : TypeId := 103
abbrev T_fno_L_uint8_string_c_L_uint8 : TypeId := 104
abbrev T_P_parcel_eye : TypeId := 105
abbrev T_parcel_eye : TypeId := 107
abbrev T_fno_funco_c_api_Request_c_o_api_Request_api_Code_c : TypeId := 108
abbrev T_fno_c_api_Request : TypeId := 109
abbrev T_slotmap_Map : TypeId := 111
abbrev T_fno_L_int_int_c_L_int : TypeId := 112
abbrev T_fno_funco_int_c_bool_c : TypeId := 113
abbrev T_iter_Seq_int : TypeId := 114
abbrev T_fno_int_c_iter_Seq_int : TypeId := 115
abbrev T_fno_P_slotmap_Map_int_c_L_int : TypeId := 116
abbrev T_fno_L_uint8_c_L_uint8 : TypeId := 117
abbrev T_fno_int_L_uint8_c_bool : TypeId := 118
abbrev T_P_digest_Hash : TypeId := 120
abbrev T_fno_c_P_digest_Hash : TypeId := 121
abbrev T_fno_L_uint8_c : TypeId := 122
abbrev T_fno_c_32_uint8 : TypeId := 123
abbrev T_fno_L_L_uint8_c_L_32_uint8 : TypeId := 124
abbrev T_fno_L_32_uint8_c_L_32_uint8 : TypeId := 125
abbrev T_fno_int_32_uint8_c_32_uint8 : TypeId := 126
abbrev T_fno_int_32_uint8_c_L_uint8 : TypeId := 127
abbrev T_fno_L_L_uint8_int_c_32_uint8 : TypeId := 128
abbrev T_fno_L_L_uint8_int_int_c_L_32_uint8 : TypeId := 129
abbrev T_L_uint32 : TypeId := 130
abbrev T_fno_c_L_uint32 : TypeId := 131
abbrev T_uint32 : TypeId := 132
abbrev T_8_uint32 : TypeId := 133
abbrev T_fno_8_uint32_L_uint32_64_uint32_c_8_uint32 : TypeId := 134
abbrev T_64_uint32 : TypeId := 135
abbrev T_fno_L_uint8_int_c_64_uint32 : TypeId := 136
abbrev T_uint : TypeId := 137
abbrev T_fno_32_uint8_32_uint8_c_32_uint8 : TypeId := 138
abbrev T_fno_32_uint8_32_uint8_c_L_uint8 : TypeId := 139
abbrev T_fno_funco_c_c_api_Code : TypeId := 140
abbrev T_2_uint8 : TypeId := 141
abbrev T_fno_c_2_uint8 : TypeId := 142
abbrev T_3_string : TypeId := 143
abbrev T_fno_string_int_c_L_uint8 : TypeId := 144
abbrev T_2_bool : TypeId := 145
abbrev T_fno_api_Code_c : TypeId := 146
abbrev T_fno_int_c_L_uint8 : TypeId := 147
abbrev T_fno_int_c_uint64 : TypeId := 148
abbrev T_fno_int_c_string : TypeId := 149
abbrev T_fno_int_c_bool : TypeId := 150
abbrev T_4_uint8 : TypeId := 151
abbrev T_fno_uint32_c_4_uint8 : TypeId := 152
abbrev T_fno_L_uint8_c_uint32 : TypeId := 153
abbrev T_digest_Hash : TypeId := 155
abbrev T_fno_8_uint32_L_uint8_c_8_uint32 : TypeId := 156
abbrev T_fno_L_uint8_32_uint8_c_L_uint8 : TypeId := 157
abbrev T_fno_uint32_uint_c_uint32 : TypeId := 158
abbrev T_fno_interface_c_api_Code : TypeId := 159
abbrev T_trap_Fault : TypeId := 161
abbrev T_fno_L_uint8_c_uint64 : TypeId := 162
abbrev T_fno_uint32_L_uint8_c_uint32 : TypeId := 163
abbrev T_fno_L_uint8_c_64_uint32 : TypeId := 164
abbrev T_fno_c_64_uint32 : TypeId := 165
abbrev T_fno_uint32_int_c_uint32 : TypeId := 166
abbrev T_fno_uint32_uint8_c_uint32 : TypeId := 167
abbrev T_fno_c_string : TypeId := 168
abbrev T_0_P_runtime_PanicNilError : TypeId := 171
abbrev T_fno_unsafe_Pointer_unsafe_Pointer_c_bool : TypeId := 176
abbrev T_P_uint8 : TypeId := 177
end Go.Proofs.Ytfdckjliinpjiaa

/- Abstract programs; that they are the program's. -/
namespace Go.Proofs.Ytfdckjliinpjiaa
open Go AVL
set_option linter.unusedVariables false
set_option maxRecDepth 20000

def q_word_Get_0 : List AOper := [
  ⟨(some 2), (.mv (.v (.int .u64 0))), none⟩]
def q_word_Get_1 : List AOper := [
  ⟨(some 3), (.mv (.v (.int .u64 0))), none⟩]
def q_word_Get_2 : List AOper := [
  ⟨(some 5), (.mv (.t 0)), none⟩,
  ⟨(some 6), (.len false (.t 5)), none⟩,
  ⟨(some 7), (.xx (.p (.mnI false)) [(.t 6), (.v (.int .i64 8))]), none⟩,
  ⟨(some 8), (.bin .sub (.t 7) (.v (.int .i64 1))), none⟩,
  ⟨(some 4), (.mv (.t 8)), none⟩]
def q_word_Get_3 : List AOper := [
  ⟨(some 9), (.mv (.t 4)), none⟩,
  ⟨(some 10), (.bin .geq (.t 9) (.v (.int .i64 0))), none⟩]
def q_word_Get_4 : List AOper := [
  ⟨(some 13), (.mv (.t 3)), none⟩,
  ⟨(some 14), (.bin .shl (.t 13) (.v (.int .u64 8))), none⟩,
  ⟨(some 15), (.mv (.t 0)), none⟩,
  ⟨(some 16), (.mv (.t 4)), none⟩,
  ⟨(some 17), (.idx 1 (.t 15) (.t 16)), none⟩,
  ⟨(some 18), (.load .sc 1 (.t 17)), none⟩,
  ⟨(some 19), (.conv .u64 (.t 18)), none⟩,
  ⟨(some 20), (.bin .or (.t 14) (.t 19)), none⟩,
  ⟨(some 3), (.mv (.t 20)), none⟩]
def q_word_Get_5 : List AOper := [
  ⟨(some 11), (.mv (.t 4)), none⟩,
  ⟨(some 12), (.bin .sub (.t 11) (.v (.int .i64 1))), none⟩,
  ⟨(some 4), (.mv (.t 12)), none⟩]
def q_word_Get_L6 : ACode := (.seq (.seq (.region q_word_Get_3) (.cond (.t 10) .skip (.exit 0))) (.seq (.block 1 (.region q_word_Get_4)) (.region q_word_Get_5)))
def q_word_Get_6 : List AOper := [
  ⟨(some 21), (.mv (.t 3)), none⟩,
  ⟨(some 2), (.mv (.t 21)), none⟩]
def a_word_Get : AFunc := ⟨[(.tmp 2)], (.seq (.region q_word_Get_0) (.seq (.region q_word_Get_1) (.seq (.seq (.region q_word_Get_2) (.block 0 (.loop q_word_Get_L6))) (.seq (.region q_word_Get_6) .ret))))⟩

def q_word_Put_0 : List AOper := [
  ⟨(some 4), (.mv (.v .nilS)), none⟩]
def q_word_Put_1 : List AOper := [
  ⟨(some 7), (.mv (.t 1)), none⟩,
  ⟨(some 8), (.xx (.p (.mnI true)) [(.t 7), (.v (.int .i64 0))]), none⟩,
  ⟨(some 9), (.mkI 5 .u8 1 (.t 8) (.t 8)), none⟩,
  ⟨(some 5), (.mv (.t 9)), none⟩]
def q_word_Put_2 : List AOper := [
  ⟨(some 10), (.mv (.t 5)), none⟩,
  ⟨(some 11), (.len false (.t 10)), none⟩,
  ⟨(some 12), (.mv (.v (.int .i64 0))), none⟩]
def q_word_Put_3 : List AOper := [
  ⟨(some 13), (.bin .lss (.t 12) (.t 11)), none⟩]
def q_word_Put_4 : List AOper := [
  ⟨(some 14), (.mv (.t 12)), none⟩,
  ⟨(some 6), (.mv (.t 14)), none⟩]
def q_word_Put_5 : List AOper := [
  ⟨(some 15), (.mv (.t 6)), none⟩,
  ⟨(some 16), (.bin .lss (.t 15) (.v (.int .i64 8))), none⟩]
def q_word_Put_6 : List AOper := [
  ⟨(some 17), (.mv (.t 5)), none⟩,
  ⟨(some 18), (.mv (.t 6)), none⟩,
  ⟨(some 19), (.mv (.t 0)), none⟩,
  ⟨(some 20), (.mv (.t 6)), none⟩,
  ⟨(some 21), (.bin .mul (.v (.int .i64 8)) (.t 20)), none⟩,
  ⟨(some 22), (.bin .shr (.t 19) (.t 21)), none⟩,
  ⟨(some 23), (.conv .u8 (.t 22)), none⟩,
  ⟨(some 24), (.idx 1 (.t 17) (.t 18)), none⟩,
  ⟨none, (.store .sc 1 (.t 24) (.t 23)), none⟩]
def q_word_Put_7 : List AOper := [
  ⟨(some 25), (.bin .add (.t 12) (.v (.int .i64 1))), none⟩,
  ⟨(some 12), (.mv (.t 25)), none⟩]
def q_word_Put_L8 : ACode := (.seq (.region q_word_Put_3) (.seq (.cond (.t 13) .skip (.exit 0)) (.seq (.block 1 (.seq (.region q_word_Put_4) (.seq (.region q_word_Put_5) (.cond (.t 16) (.region q_word_Put_6) .skip)))) (.region q_word_Put_7))))
def q_word_Put_8 : List AOper := [
  ⟨(some 26), (.mv (.t 5)), none⟩,
  ⟨(some 4), (.mv (.t 26)), none⟩]
def a_word_Put : AFunc := ⟨[(.tmp 4)], (.seq (.region q_word_Put_0) (.seq (.region q_word_Put_1) (.seq (.seq (.region q_word_Put_2) (.block 0 (.loop q_word_Put_L8))) (.seq (.region q_word_Put_8) .ret))))⟩

def q_word_Zero_0 : List AOper := [
  ⟨(some 2), (.mv (.v (.bool false))), none⟩]
def q_word_Zero_1 : List AOper := [
  ⟨(some 5), (.mv (.t 0)), none⟩,
  ⟨(some 6), (.len false (.t 5)), none⟩,
  ⟨(some 7), (.mv (.v (.int .i64 0))), none⟩]
def q_word_Zero_2 : List AOper := [
  ⟨(some 8), (.bin .lss (.t 7) (.t 6)), none⟩]
def q_word_Zero_3 : List AOper := [
  ⟨(some 9), (.idx 1 (.t 5) (.t 7)), none⟩,
  ⟨(some 10), (.load .sc 1 (.t 9)), none⟩,
  ⟨(some 4), (.mv (.t 10)), none⟩]
def q_word_Zero_4 : List AOper := [
  ⟨(some 11), (.mv (.t 4)), none⟩,
  ⟨(some 12), (.eq .scI true (.t 11) (.v (.int .u8 0))), none⟩]
def q_word_Zero_5 : List AOper := [
  ⟨(some 2), (.mv (.v (.bool false))), none⟩]
def q_word_Zero_6 : List AOper := [
  ⟨(some 13), (.bin .add (.t 7) (.v (.int .i64 1))), none⟩,
  ⟨(some 7), (.mv (.t 13)), none⟩]
def q_word_Zero_L7 : ACode := (.seq (.region q_word_Zero_2) (.seq (.cond (.t 8) .skip (.exit 0)) (.seq (.block 1 (.seq (.region q_word_Zero_3) (.seq (.region q_word_Zero_4) (.cond (.t 12) (.seq (.region q_word_Zero_5) .ret) .skip)))) (.region q_word_Zero_6))))
def q_word_Zero_7 : List AOper := [
  ⟨(some 2), (.mv (.v (.bool true))), none⟩]
def a_word_Zero : AFunc := ⟨[(.tmp 2)], (.seq (.region q_word_Zero_0) (.seq (.seq (.region q_word_Zero_1) (.block 0 (.loop q_word_Zero_L7))) (.seq (.region q_word_Zero_7) .ret)))⟩

def q_word_Whole_0 : List AOper := [
  ⟨(some 2), (.alloc 54 [(.iarr .u8 256 (List.replicate 256 0))]), none⟩]
def q_word_Whole_1 : List AOper := [
  ⟨(some 3), (.alloc 54 [(.iarr .u8 256 (List.replicate 256 0))]), none⟩]
def q_word_Whole_2 : List AOper := [
  ⟨(some 4), (.slcA 256 (.t 3) none none), none⟩,
  ⟨(some 5), (.mv (.t 0)), none⟩,
  ⟨(some 6), (.xx (.cpI .u8) [(.t 4), (.t 5)]), none⟩]
def q_word_Whole_3 : List AOper := [
  ⟨(some 7), (.load (.ia .u8 256) 256 (.t 3)), none⟩,
  ⟨none, (.store (.ia .u8 256) 256 (.t 2) (.t 7)), none⟩]
def a_word_Whole : AFunc := ⟨[(.cell 2 (.ia .u8 256) 256)], (.seq (.region q_word_Whole_0) (.seq (.region q_word_Whole_1) (.seq (.region q_word_Whole_2) (.seq (.region q_word_Whole_3) .ret))))⟩

def q_ref01_Put_0 : List AOper := [
  ⟨(some 4), (.mv (.v .nilS)), none⟩]
def q_ref01_Put_1 : List AOper := [
  ⟨(some 6), (.mv (.t 1)), none⟩,
  ⟨(some 7), (.bin .leq (.t 6) (.v (.int .i64 0))), none⟩]
def q_ref01_Put_2 : List AOper := [
  ⟨(some 4), (.mv (.v .nilS)), none⟩]
def q_ref01_Put_3 : List AOper := [
  ⟨(some 8), (.mv (.t 0)), none⟩,
  ⟨(some 9), (.bin .rem (.t 8) (.v (.int .u64 256))), none⟩,
  ⟨(some 10), (.conv .u8 (.t 9)), none⟩,
  ⟨(some 11), (.bslI 5 .u8 [(.t 10)]), none⟩,
  ⟨(some 5), (.mv (.t 11)), none⟩]
def q_ref01_Put_4 : List AOper := [
  ⟨(some 12), (.mv (.t 5)), none⟩,
  ⟨(some 13), (.mv (.t 0)), none⟩,
  ⟨(some 14), (.bin .quo (.t 13) (.v (.int .u64 256))), none⟩,
  ⟨(some 15), (.mv (.t 1)), none⟩,
  ⟨(some 16), (.bin .sub (.t 15) (.v (.int .i64 1))), none⟩,
  ⟨(some 17), (.call F_ref01_Put [(.sc, (.t 14)), (.sc, (.t 16))]), none⟩,
  ⟨(some 18), (.appI 5 .u8 1 (.t 12) (.t 17)), none⟩,
  ⟨(some 4), (.mv (.t 18)), none⟩]
def a_ref01_Put : AFunc := ⟨[(.tmp 4)], (.seq (.region q_ref01_Put_0) (.seq (.seq (.region q_ref01_Put_1) (.cond (.t 7) (.seq (.region q_ref01_Put_2) .ret) .skip)) (.seq (.region q_ref01_Put_3) (.seq (.region q_ref01_Put_4) .ret))))⟩

def q_ref01_Same_0 : List AOper := [
  ⟨(some 4), (.mv (.v (.bool false))), none⟩]
def q_ref01_Same_1 : List AOper := [
  ⟨(some 5), (.mv (.t 0)), none⟩,
  ⟨(some 6), (.xx .bstr [(.t 5)]), none⟩,
  ⟨(some 7), (.mv (.t 1)), none⟩,
  ⟨(some 8), (.xx .bstr [(.t 7)]), none⟩,
  ⟨(some 9), (.eq .scS false (.t 6) (.t 8)), none⟩,
  ⟨(some 4), (.mv (.t 9)), none⟩]
def a_ref01_Same : AFunc := ⟨[(.tmp 4)], (.seq (.region q_ref01_Same_0) (.seq (.region q_ref01_Same_1) .ret))⟩

def q_ref01_Zero_0 : List AOper := [
  ⟨(some 2), (.mv (.v (.bool false))), none⟩]
def q_ref01_Zero_1 : List AOper := [
  ⟨(some 3), (.mv (.v (.int .i64 0))), none⟩]
def q_ref01_Zero_2 : List AOper := [
  ⟨(some 4), (.mv (.t 3)), none⟩,
  ⟨(some 5), (.mv (.t 0)), none⟩,
  ⟨(some 6), (.len false (.t 5)), none⟩,
  ⟨(some 7), (.bin .lss (.t 4) (.t 6)), none⟩]
def q_ref01_Zero_3 : List AOper := [
  ⟨(some 10), (.mv (.t 0)), none⟩,
  ⟨(some 11), (.mv (.t 3)), none⟩,
  ⟨(some 12), (.idx 1 (.t 10) (.t 11)), none⟩,
  ⟨(some 13), (.load .sc 1 (.t 12)), none⟩,
  ⟨(some 14), (.bin .gtr (.t 13) (.v (.int .u8 0))), none⟩]
def q_ref01_Zero_4 : List AOper := [
  ⟨(some 2), (.mv (.v (.bool false))), none⟩]
def q_ref01_Zero_5 : List AOper := [
  ⟨(some 8), (.mv (.t 3)), none⟩,
  ⟨(some 9), (.bin .add (.t 8) (.v (.int .i64 1))), none⟩,
  ⟨(some 3), (.mv (.t 9)), none⟩]
def q_ref01_Zero_L6 : ACode := (.seq (.seq (.region q_ref01_Zero_2) (.cond (.t 7) .skip (.exit 0))) (.seq (.block 1 (.seq (.region q_ref01_Zero_3) (.cond (.t 14) (.seq (.region q_ref01_Zero_4) .ret) .skip))) (.region q_ref01_Zero_5)))
def q_ref01_Zero_6 : List AOper := [
  ⟨(some 2), (.mv (.v (.bool true))), none⟩]
def a_ref01_Zero : AFunc := ⟨[(.tmp 2)], (.seq (.region q_ref01_Zero_0) (.seq (.seq (.region q_ref01_Zero_1) (.block 0 (.loop q_ref01_Zero_L6))) (.seq (.region q_ref01_Zero_6) .ret)))⟩


theorem c_word_Get : trF Try.prog Try.f133 = some a_word_Get := by kernel_rfl
theorem g_word_Get : Try.prog.funcs[133]? = some Try.f133 := by kernel_rfl
theorem i_word_Get {args : List AV} {A : Heap} {Ko : AOut → Heap → Prop} (hn : args.length ≤ 22)
    (h : ∀ R : APost, (∀ e env A, fpost a_word_Get.res Ko e env A → R e env A) → X Try.prog R a_word_Get.body .done (env0 args) A) : SimX Try.prog F_word_Get args A Ko :=
  X_intro g_word_Get c_word_Get (by rw [Try.ntmps133]; exact hn) h
theorem v_word_Get {args : List AV} {v : AV} (hn : args.length ≤ 22) (h : X Try.prog (fin a_word_Get.res v) a_word_Get.body .done (env0 args) H0) : Gives Try.prog F_word_Get args v :=
  Gives_intro g_word_Get c_word_Get (by rw [Try.ntmps133]; exact hn) h
theorem e_word_Get {args : List AV} {Q : AOut → Prop} (hn : args.length ≤ 22) (h : X Try.prog (finE a_word_Get.res Q) a_word_Get.body .done (env0 args) H0) : Fins Try.prog F_word_Get args Q :=
  Fins_intro g_word_Get c_word_Get (by rw [Try.ntmps133]; exact hn) h
theorem j_word_Get {args : List AV} {A : Heap} {K Kp : AV → Heap → Prop} (hn : args.length ≤ 22) (h : X Try.prog (inl a_word_Get.res K Kp) a_word_Get.body .done (env0 args) A) : SimX Try.prog F_word_Get args A (outK K Kp) :=
  X_inl g_word_Get c_word_Get (by rw [Try.ntmps133]; exact hn) h
theorem d_word_Get {args : List AV} {A : Heap} {Ko : AOut → Heap → Prop} (hn : args.length ≤ 22) (hrf : AVL.Func.hasRF Try.f133 = false)
    (h : ∀ R : APost, (∀ e env A, fpost a_word_Get.res Ko e env A → R e env A) → X Try.prog R a_word_Get.body .done (env0 args) A) : SimD Try.prog F_word_Get args A Ko :=
  X_introD g_word_Get c_word_Get (by rw [Try.ntmps133]; exact hn) hrf h
@[simp] theorem k_word_Get : callable Try.prog F_word_Get = true := by kernel_rfl
theorem c_word_Put : trF Try.prog Try.f96 = some a_word_Put := by kernel_rfl
theorem g_word_Put : Try.prog.funcs[96]? = some Try.f96 := by kernel_rfl
theorem i_word_Put {args : List AV} {A : Heap} {Ko : AOut → Heap → Prop} (hn : args.length ≤ 27)
    (h : ∀ R : APost, (∀ e env A, fpost a_word_Put.res Ko e env A → R e env A) → X Try.prog R a_word_Put.body .done (env0 args) A) : SimX Try.prog F_word_Put args A Ko :=
  X_intro g_word_Put c_word_Put (by rw [Try.ntmps96]; exact hn) h
theorem v_word_Put {args : List AV} {v : AV} (hn : args.length ≤ 27) (h : X Try.prog (fin a_word_Put.res v) a_word_Put.body .done (env0 args) H0) : Gives Try.prog F_word_Put args v :=
  Gives_intro g_word_Put c_word_Put (by rw [Try.ntmps96]; exact hn) h
theorem e_word_Put {args : List AV} {Q : AOut → Prop} (hn : args.length ≤ 27) (h : X Try.prog (finE a_word_Put.res Q) a_word_Put.body .done (env0 args) H0) : Fins Try.prog F_word_Put args Q :=
  Fins_intro g_word_Put c_word_Put (by rw [Try.ntmps96]; exact hn) h
theorem j_word_Put {args : List AV} {A : Heap} {K Kp : AV → Heap → Prop} (hn : args.length ≤ 27) (h : X Try.prog (inl a_word_Put.res K Kp) a_word_Put.body .done (env0 args) A) : SimX Try.prog F_word_Put args A (outK K Kp) :=
  X_inl g_word_Put c_word_Put (by rw [Try.ntmps96]; exact hn) h
theorem d_word_Put {args : List AV} {A : Heap} {Ko : AOut → Heap → Prop} (hn : args.length ≤ 27) (hrf : AVL.Func.hasRF Try.f96 = false)
    (h : ∀ R : APost, (∀ e env A, fpost a_word_Put.res Ko e env A → R e env A) → X Try.prog R a_word_Put.body .done (env0 args) A) : SimD Try.prog F_word_Put args A Ko :=
  X_introD g_word_Put c_word_Put (by rw [Try.ntmps96]; exact hn) hrf h
@[simp] theorem k_word_Put : callable Try.prog F_word_Put = true := by kernel_rfl
theorem c_word_Zero : trF Try.prog Try.f98 = some a_word_Zero := by kernel_rfl
theorem g_word_Zero : Try.prog.funcs[98]? = some Try.f98 := by kernel_rfl
theorem i_word_Zero {args : List AV} {A : Heap} {Ko : AOut → Heap → Prop} (hn : args.length ≤ 14)
    (h : ∀ R : APost, (∀ e env A, fpost a_word_Zero.res Ko e env A → R e env A) → X Try.prog R a_word_Zero.body .done (env0 args) A) : SimX Try.prog F_word_Zero args A Ko :=
  X_intro g_word_Zero c_word_Zero (by rw [Try.ntmps98]; exact hn) h
theorem v_word_Zero {args : List AV} {v : AV} (hn : args.length ≤ 14) (h : X Try.prog (fin a_word_Zero.res v) a_word_Zero.body .done (env0 args) H0) : Gives Try.prog F_word_Zero args v :=
  Gives_intro g_word_Zero c_word_Zero (by rw [Try.ntmps98]; exact hn) h
theorem e_word_Zero {args : List AV} {Q : AOut → Prop} (hn : args.length ≤ 14) (h : X Try.prog (finE a_word_Zero.res Q) a_word_Zero.body .done (env0 args) H0) : Fins Try.prog F_word_Zero args Q :=
  Fins_intro g_word_Zero c_word_Zero (by rw [Try.ntmps98]; exact hn) h
theorem j_word_Zero {args : List AV} {A : Heap} {K Kp : AV → Heap → Prop} (hn : args.length ≤ 14) (h : X Try.prog (inl a_word_Zero.res K Kp) a_word_Zero.body .done (env0 args) A) : SimX Try.prog F_word_Zero args A (outK K Kp) :=
  X_inl g_word_Zero c_word_Zero (by rw [Try.ntmps98]; exact hn) h
theorem d_word_Zero {args : List AV} {A : Heap} {Ko : AOut → Heap → Prop} (hn : args.length ≤ 14) (hrf : AVL.Func.hasRF Try.f98 = false)
    (h : ∀ R : APost, (∀ e env A, fpost a_word_Zero.res Ko e env A → R e env A) → X Try.prog R a_word_Zero.body .done (env0 args) A) : SimD Try.prog F_word_Zero args A Ko :=
  X_introD g_word_Zero c_word_Zero (by rw [Try.ntmps98]; exact hn) hrf h
@[simp] theorem k_word_Zero : callable Try.prog F_word_Zero = true := by kernel_rfl
theorem c_word_Whole : trF Try.prog Try.f86 = some a_word_Whole := by kernel_rfl
theorem g_word_Whole : Try.prog.funcs[86]? = some Try.f86 := by kernel_rfl
theorem i_word_Whole {args : List AV} {A : Heap} {Ko : AOut → Heap → Prop} (hn : args.length ≤ 8)
    (h : ∀ R : APost, (∀ e env A, fpost a_word_Whole.res Ko e env A → R e env A) → X Try.prog R a_word_Whole.body .done (env0 args) A) : SimX Try.prog F_word_Whole args A Ko :=
  X_intro g_word_Whole c_word_Whole (by rw [Try.ntmps86]; exact hn) h
theorem v_word_Whole {args : List AV} {v : AV} (hn : args.length ≤ 8) (h : X Try.prog (fin a_word_Whole.res v) a_word_Whole.body .done (env0 args) H0) : Gives Try.prog F_word_Whole args v :=
  Gives_intro g_word_Whole c_word_Whole (by rw [Try.ntmps86]; exact hn) h
theorem e_word_Whole {args : List AV} {Q : AOut → Prop} (hn : args.length ≤ 8) (h : X Try.prog (finE a_word_Whole.res Q) a_word_Whole.body .done (env0 args) H0) : Fins Try.prog F_word_Whole args Q :=
  Fins_intro g_word_Whole c_word_Whole (by rw [Try.ntmps86]; exact hn) h
theorem j_word_Whole {args : List AV} {A : Heap} {K Kp : AV → Heap → Prop} (hn : args.length ≤ 8) (h : X Try.prog (inl a_word_Whole.res K Kp) a_word_Whole.body .done (env0 args) A) : SimX Try.prog F_word_Whole args A (outK K Kp) :=
  X_inl g_word_Whole c_word_Whole (by rw [Try.ntmps86]; exact hn) h
theorem d_word_Whole {args : List AV} {A : Heap} {Ko : AOut → Heap → Prop} (hn : args.length ≤ 8) (hrf : AVL.Func.hasRF Try.f86 = false)
    (h : ∀ R : APost, (∀ e env A, fpost a_word_Whole.res Ko e env A → R e env A) → X Try.prog R a_word_Whole.body .done (env0 args) A) : SimD Try.prog F_word_Whole args A Ko :=
  X_introD g_word_Whole c_word_Whole (by rw [Try.ntmps86]; exact hn) hrf h
@[simp] theorem k_word_Whole : callable Try.prog F_word_Whole = true := by kernel_rfl
theorem c_ref01_Put : trF Try.prog Try.f78 = some a_ref01_Put := by kernel_rfl
theorem g_ref01_Put : Try.prog.funcs[78]? = some Try.f78 := by kernel_rfl
theorem i_ref01_Put {args : List AV} {A : Heap} {Ko : AOut → Heap → Prop} (hn : args.length ≤ 19)
    (h : ∀ R : APost, (∀ e env A, fpost a_ref01_Put.res Ko e env A → R e env A) → X Try.prog R a_ref01_Put.body .done (env0 args) A) : SimX Try.prog F_ref01_Put args A Ko :=
  X_intro g_ref01_Put c_ref01_Put (by rw [Try.ntmps78]; exact hn) h
theorem v_ref01_Put {args : List AV} {v : AV} (hn : args.length ≤ 19) (h : X Try.prog (fin a_ref01_Put.res v) a_ref01_Put.body .done (env0 args) H0) : Gives Try.prog F_ref01_Put args v :=
  Gives_intro g_ref01_Put c_ref01_Put (by rw [Try.ntmps78]; exact hn) h
theorem e_ref01_Put {args : List AV} {Q : AOut → Prop} (hn : args.length ≤ 19) (h : X Try.prog (finE a_ref01_Put.res Q) a_ref01_Put.body .done (env0 args) H0) : Fins Try.prog F_ref01_Put args Q :=
  Fins_intro g_ref01_Put c_ref01_Put (by rw [Try.ntmps78]; exact hn) h
theorem j_ref01_Put {args : List AV} {A : Heap} {K Kp : AV → Heap → Prop} (hn : args.length ≤ 19) (h : X Try.prog (inl a_ref01_Put.res K Kp) a_ref01_Put.body .done (env0 args) A) : SimX Try.prog F_ref01_Put args A (outK K Kp) :=
  X_inl g_ref01_Put c_ref01_Put (by rw [Try.ntmps78]; exact hn) h
theorem d_ref01_Put {args : List AV} {A : Heap} {Ko : AOut → Heap → Prop} (hn : args.length ≤ 19) (hrf : AVL.Func.hasRF Try.f78 = false)
    (h : ∀ R : APost, (∀ e env A, fpost a_ref01_Put.res Ko e env A → R e env A) → X Try.prog R a_ref01_Put.body .done (env0 args) A) : SimD Try.prog F_ref01_Put args A Ko :=
  X_introD g_ref01_Put c_ref01_Put (by rw [Try.ntmps78]; exact hn) hrf h
@[simp] theorem k_ref01_Put : callable Try.prog F_ref01_Put = true := by kernel_rfl
theorem c_ref01_Same : trF Try.prog Try.f19 = some a_ref01_Same := by kernel_rfl
theorem g_ref01_Same : Try.prog.funcs[19]? = some Try.f19 := by kernel_rfl
theorem i_ref01_Same {args : List AV} {A : Heap} {Ko : AOut → Heap → Prop} (hn : args.length ≤ 10)
    (h : ∀ R : APost, (∀ e env A, fpost a_ref01_Same.res Ko e env A → R e env A) → X Try.prog R a_ref01_Same.body .done (env0 args) A) : SimX Try.prog F_ref01_Same args A Ko :=
  X_intro g_ref01_Same c_ref01_Same (by rw [Try.ntmps19]; exact hn) h
theorem v_ref01_Same {args : List AV} {v : AV} (hn : args.length ≤ 10) (h : X Try.prog (fin a_ref01_Same.res v) a_ref01_Same.body .done (env0 args) H0) : Gives Try.prog F_ref01_Same args v :=
  Gives_intro g_ref01_Same c_ref01_Same (by rw [Try.ntmps19]; exact hn) h
theorem e_ref01_Same {args : List AV} {Q : AOut → Prop} (hn : args.length ≤ 10) (h : X Try.prog (finE a_ref01_Same.res Q) a_ref01_Same.body .done (env0 args) H0) : Fins Try.prog F_ref01_Same args Q :=
  Fins_intro g_ref01_Same c_ref01_Same (by rw [Try.ntmps19]; exact hn) h
theorem j_ref01_Same {args : List AV} {A : Heap} {K Kp : AV → Heap → Prop} (hn : args.length ≤ 10) (h : X Try.prog (inl a_ref01_Same.res K Kp) a_ref01_Same.body .done (env0 args) A) : SimX Try.prog F_ref01_Same args A (outK K Kp) :=
  X_inl g_ref01_Same c_ref01_Same (by rw [Try.ntmps19]; exact hn) h
theorem d_ref01_Same {args : List AV} {A : Heap} {Ko : AOut → Heap → Prop} (hn : args.length ≤ 10) (hrf : AVL.Func.hasRF Try.f19 = false)
    (h : ∀ R : APost, (∀ e env A, fpost a_ref01_Same.res Ko e env A → R e env A) → X Try.prog R a_ref01_Same.body .done (env0 args) A) : SimD Try.prog F_ref01_Same args A Ko :=
  X_introD g_ref01_Same c_ref01_Same (by rw [Try.ntmps19]; exact hn) hrf h
@[simp] theorem k_ref01_Same : callable Try.prog F_ref01_Same = true := by kernel_rfl
theorem c_ref01_Zero : trF Try.prog Try.f99 = some a_ref01_Zero := by kernel_rfl
theorem g_ref01_Zero : Try.prog.funcs[99]? = some Try.f99 := by kernel_rfl
theorem i_ref01_Zero {args : List AV} {A : Heap} {Ko : AOut → Heap → Prop} (hn : args.length ≤ 15)
    (h : ∀ R : APost, (∀ e env A, fpost a_ref01_Zero.res Ko e env A → R e env A) → X Try.prog R a_ref01_Zero.body .done (env0 args) A) : SimX Try.prog F_ref01_Zero args A Ko :=
  X_intro g_ref01_Zero c_ref01_Zero (by rw [Try.ntmps99]; exact hn) h
theorem v_ref01_Zero {args : List AV} {v : AV} (hn : args.length ≤ 15) (h : X Try.prog (fin a_ref01_Zero.res v) a_ref01_Zero.body .done (env0 args) H0) : Gives Try.prog F_ref01_Zero args v :=
  Gives_intro g_ref01_Zero c_ref01_Zero (by rw [Try.ntmps99]; exact hn) h
theorem e_ref01_Zero {args : List AV} {Q : AOut → Prop} (hn : args.length ≤ 15) (h : X Try.prog (finE a_ref01_Zero.res Q) a_ref01_Zero.body .done (env0 args) H0) : Fins Try.prog F_ref01_Zero args Q :=
  Fins_intro g_ref01_Zero c_ref01_Zero (by rw [Try.ntmps99]; exact hn) h
theorem j_ref01_Zero {args : List AV} {A : Heap} {K Kp : AV → Heap → Prop} (hn : args.length ≤ 15) (h : X Try.prog (inl a_ref01_Zero.res K Kp) a_ref01_Zero.body .done (env0 args) A) : SimX Try.prog F_ref01_Zero args A (outK K Kp) :=
  X_inl g_ref01_Zero c_ref01_Zero (by rw [Try.ntmps99]; exact hn) h
theorem d_ref01_Zero {args : List AV} {A : Heap} {Ko : AOut → Heap → Prop} (hn : args.length ≤ 15) (hrf : AVL.Func.hasRF Try.f99 = false)
    (h : ∀ R : APost, (∀ e env A, fpost a_ref01_Zero.res Ko e env A → R e env A) → X Try.prog R a_ref01_Zero.body .done (env0 args) A) : SimD Try.prog F_ref01_Zero args A Ko :=
  X_introD g_ref01_Zero c_ref01_Zero (by rw [Try.ntmps99]; exact hn) hrf h
@[simp] theorem k_ref01_Zero : callable Try.prog F_ref01_Zero = true := by kernel_rfl
end Go.Proofs.Ytfdckjliinpjiaa

/- Words: numbers as bytes; the walks of word.Put, word.Get, the reference's Put and Same. -/
namespace Go.Proofs.Ytfdckjliinpjiaa
open Go AVL
attribute [-simp] AV.isAgg aappI aapp alen
set_option linter.unusedVariables false
set_option linter.unusedSimpArgs false

def Bytes (l : List Nat) : Prop := ∀ x ∈ l, x < 256
theorem bytes_take {l : List Nat} (h : Bytes l) (n : Nat) : Bytes (l.take n) := fun x hx => h x (List.mem_of_mem_take hx)
theorem bytes_drop {l : List Nat} (h : Bytes l) (n : Nat) : Bytes (l.drop n) := fun x hx => h x (List.mem_of_mem_drop hx)
theorem bytes_append {a b : List Nat} (ha : Bytes a) (hb : Bytes b) : Bytes (a ++ b) := fun x hx => (List.mem_append.1 hx).elim (ha x) (hb x)
def leN : List Nat → Nat
  | [] => 0
  | c :: r => c + 256 * leN r
theorem leN_lt : ∀ (l : List Nat), Bytes l → leN l < 256 ^ l.length
  | [], _ => by simp [leN]
  | c :: r, h => by
    have h1 := leN_lt r fun x hx => h x (by simp [hx])
    have h2 := h c (by simp)
    simp only [leN, List.length_cons, Nat.pow_succ]
    omega
theorem leN_lt8 {l : List Nat} (h : Bytes l) (hl : l.length ≤ 8) : leN l < 2 ^ 64 := by
  have h1 := leN_lt l h
  have : 256 ^ l.length ≤ 256 ^ 8 := Nat.pow_le_pow_right (by decide) hl
  omega
theorem strOf_inj {a b : List Nat} (ha : Bytes a) (hb : Bytes b) : (strOf (ints a) = strOf (ints b)) = (a = b) := by
  apply propext
  constructor
  · intro h
    have key : ∀ {x : List Nat}, Bytes x → (strOf (ints x)).data.toList.map UInt8.toNat = x := by
      intro x hx
      simp only [strOf, ints, List.map_map]
      rw [List.map_congr_left (g := id) (fun n hn => by
        have := hx n hn
        simp [UInt8.toNat_ofNat', Nat.mod_eq_of_lt this])]
      simp
    rw [← key ha, ← key hb, h]
  · rintro rfl; rfl
theorem w_ref01_Same (a b : List Nat) (ha : Bytes a) (hb : Bytes b) : Gives Try.prog F_ref01_Same [.isl .u8 (ints a), .isl .u8 (ints b)] (.bool (decide (a = b))) := by
  refine v_ref01_Same (by simp) ?_
  simp -implicitDefEqProofs [a_ref01_Same, q_ref01_Same_0, q_ref01_Same_1, strOf_inj ha hb]
theorem shl8_or (n b : Nat) (hb : b < 256) : n * 256 ||| b = b + 256 * n := by
  have := Nat.two_pow_add_eq_or_of_lt (i := 8) (b := b) (by omega) n
  rw [Nat.mul_comm n 256]; simp only [show (2 : Nat) ^ 8 = 256 from rfl] at this; omega
theorem w_word_Get (l : List Nat) (hl : Bytes l) (h8 : l.length ≤ 8) : Gives Try.prog F_word_Get [.isl .u8 (ints l)] (.int .u64 (leN l)) := by
  refine v_word_Get (by simp) ?_
  simp -implicitDefEqProofs [a_word_Get, q_word_Get_0, q_word_Get_1, q_word_Get_2]
  refine X_lp (fun (k : Nat) env A => k ≤ l.length ∧ env 0 = .isl .u8 (ints l) ∧ env 3 = .int .u64 (leN (l.drop k)) ∧ env 4 = .int .i64 ((k : Int) - 1)) (fun k => k) l.length ⟨Nat.le_refl _, by simp, by simp [leN], ?_⟩ ?_
  · simp
    rw [wrap_i64 (by split <;> omega)]
    split <;> omega
  rintro k env A ⟨h1, h2, h3, h4⟩
  simp -implicitDefEqProofs (disch := first | omega | simp) [q_word_Get_L6, q_word_Get_3, q_word_Get_6, h2, h3, h4]
  refine ⟨fun hk => ?_, fun hk => ?_⟩
  · have hk1 : k - 1 < l.length := by omega
    have eto : ((k : Int) - 1).toNat = k - 1 := by omega
    have hd : l.drop (k - 1) = l[k - 1] :: l.drop k := by
      rw [List.drop_eq_getElem_cons hk1]; congr 2; omega
    have hb := hl _ (List.getElem_mem hk1)
    have hn8 := leN_lt8 (bytes_drop hl (k - 1)) (by simp; omega)
    rw [hd] at hn8
    simp only [leN] at hn8
    have e1 : shlI .u64 ((leN (l.drop k) : Nat) : Int) 8 = ((leN (l.drop k) * 256 : Nat) : Int) := by
      simp only [shlI]
      have : (2 : Int) ^ min (Int.toNat 8) IntKind.u64.bits = 256 := by decide
      rw [this, wrap_u64 (by omega)]; omega
    have e2 : IntKind.u64.wrap ((l[k - 1] : Nat) : Int) = ((l[k - 1] : Nat) : Int) := wrap_u64 (by omega)
    have e3 : bOr .u64 ((leN (l.drop k) * 256 : Nat) : Int) ((l[k - 1] : Nat) : Int) = ((leN (l.drop (k - 1)) : Nat) : Int) := by
      rw [bOr_nat rfl (show leN (l.drop k) * 256 < 2 ^ 64 by omega) (show l[k - 1] < 2 ^ 64 by omega), shl8_or _ _ hb, hd, leN]
    have hs : IntKind.u64.signed = false := rfl
    simp -implicitDefEqProofs (disch := first | omega | simp) [q_word_Get_4, q_word_Get_5, h2, h3, h4, eto, hk1, e1, hs]
    rw [Int.natCast_mul] at e3
    refine ⟨by omega, by omega, lp_next (k - 1) ⟨by omega, by simp [h2], ?_, ?_⟩ (by omega)⟩
    · simp only [upd]
      simp
      rw [e2]; exact e3
    · simp
      rw [wrap_i64 (by omega)]; omega
  · have : k = 0 := by omega
    subst this
    simp
/-- A number's bytes, the lowest first. -/
def le : Nat → Nat → List Nat
  | 0, _ => []
  | m + 1, n => n % 256 :: le m (n / 256)
@[simp] theorem le_length : ∀ m n, (le m n).length = m
  | 0, _ => rfl
  | m + 1, n => by simp [le, le_length m]
theorem le_bytes : ∀ m n, Bytes (le m n)
  | 0, _ => by simp [le, Bytes]
  | m + 1, n => by
    intro x hx
    rcases List.mem_cons.1 hx with rfl | hx
    · exact Nat.mod_lt _ (by decide)
    · exact le_bytes m _ x hx
theorem le_get : ∀ (m n i : Nat) (h : i < (le m n).length), (le m n)[i] = n / 256 ^ i % 256
  | 0, n, i, h => by simp at h
  | m + 1, n, 0, h => by simp [le]
  | m + 1, n, i + 1, h => by
    simp only [le, List.getElem_cons_succ]
    rw [le_get m (n / 256) i (by simpa [le] using h), Nat.div_div_eq_div_mul, Nat.pow_succ, Nat.mul_comm]
theorem leN_le : ∀ (m n : Nat), n < 256 ^ m → leN (le m n) = n
  | 0, n, h => by simp at h; subst h; rfl
  | m + 1, n, h => by
    rw [Nat.pow_succ] at h
    simp only [le, leN, leN_le m (n / 256) (by omega)]
    omega
theorem le_leN : ∀ (l : List Nat), Bytes l → le l.length (leN l) = l
  | [], _ => rfl
  | c :: r, h => by
    have hc := h c (by simp)
    have hr := le_leN r fun x hx => h x (by simp [hx])
    simp only [List.length_cons, le, leN]
    rw [show (c + 256 * leN r) % 256 = c by omega, show (c + 256 * leN r) / 256 = leN r by omega, hr]
theorem fill_set {l : List Nat} {i : Nat} (h : i < l.length) : (l.take i ++ List.replicate (l.length - i) 0).set i l[i] = l.take (i + 1) ++ List.replicate (l.length - (i + 1)) 0 := by
  rw [show l.length - i = (l.length - (i + 1)) + 1 by omega, List.replicate_succ, List.set_append_right _ _ (by simp; omega), List.length_take, show i - min i l.length = 0 by omega]
  simp only [List.set_cons_zero]
  rw [List.take_succ_eq_append_getElem h, List.append_assoc]; rfl
theorem w_word_Put {n m : Nat} (hn : n < 2 ^ 64) (hm : m ≤ 8) : Makes Try.prog F_word_Put [.int .u64 n, .int .i64 m] m (.irow T_uint8 .u8 (ints (le m n))) := by
  refine i_word_Put (by simp) fun R hR => ?_
  simp -implicitDefEqProofs (disch := first | omega | simp) [a_word_Put, q_word_Put_0, q_word_Put_1, q_word_Put_2]
  have hmx : (if (m : Int) < 0 then (0 : Int) else m) = m := by split <;> omega
  rw [hmx]
  refine ⟨by omega, by omega, fun g => ?_⟩
  have h0 : List.replicate (m : Int).toNat (0 : Int) = ints ((le m n).take 0 ++ List.replicate ((le m n).length - 0) 0) := by simp [ints]
  rw [h0]
  refine X_lp (fun (i : Nat) env B => i ≤ m ∧ env 0 = .int .u64 n ∧ env 5 = .own g 0 m ∧ env 11 = .int .i64 m ∧ env 12 = .int .i64 i ∧ B = H0.set g (.irow T_uint8 .u8 (ints ((le m n).take i ++ List.replicate ((le m n).length - i) 0)))) (fun i => m - i) 0
    ⟨by omega, by simp, by simp, by simp, by simp, rfl⟩ ?_
  rintro i env B ⟨hi, e0, e5, e11, e12, rfl⟩
  simp -implicitDefEqProofs (disch := first | omega | simp) [q_word_Put_L8, q_word_Put_3, q_word_Put_4, q_word_Put_5, q_word_Put_7, q_word_Put_8, e0, e5, e11, e12]
  refine ⟨fun hil => ?_, fun hil => ?_⟩
  · have hlt : i < (le m n).length := by simpa using hil
    obtain ⟨q, hq⟩ : ∃ q : Nat, q = n / 256 ^ i := ⟨_, rfl⟩
    have e1 : shrI .u64 (n : Int) (8 * (i : Int)) = (q : Int) := by
      have : (8 * (i : Int)) = ((8 * i : Nat) : Int) := by omega
      rw [this, shrI_nat, show min (8 * i) IntKind.u64.bits = 8 * i from Nat.min_eq_left (by show 8 * i ≤ 64; omega), Nat.pow_mul, hq]
    have e2 : IntKind.u8.wrap (q : Int) = (((le m n)[i] : Nat) : Int) := by
      rw [wrap_u8m, le_get, hq]; omega
    have e3 : IntKind.i64.wrap (8 * (i : Int)) = 8 * (i : Int) := wrap_i64 (by omega)
    have e4 := fill_set hlt
    simp only [le_length] at e4
    have e5' : (i : Int) < 8 := by omega
    have e6 : ¬ (8 : Int) ≤ i := by omega
    simp -implicitDefEqProofs (disch := first | omega | simp) [q_word_Put_6, e0, e5, e11, e12, e1, e2, e3, hil, e5', e6, e4]
    exact ⟨by omega, lp_next (i + 1) ⟨by omega, by simp [e0], by simp [e5], by simp [e11], by simp [wrap_i64 (show -9223372036854775808 ≤ (i : Int) + 1 ∧ (i : Int) + 1 < 9223372036854775808 by omega)], by simp⟩ (by omega)⟩
  · have hie : i = m := by omega
    refine hR _ _ _ ?_
    simp -implicitDefEqProofs [a_word_Put, fpost, outOf]
    rw [hie]
    simp
    rw [List.take_of_length_le (by simp)]
    exact Sub_refl _
theorem w_ref01_Put : ∀ (m n : Nat), n < 2 ^ 64 → m ≤ 8 → MakesS Try.prog F_ref01_Put [.int .u64 n, .int .i64 m] T_uint8 .u8 (ints (le m n))
  | 0, n, hn, hm => by
    refine i_ref01_Put (by simp) fun R hR => ?_
    simp -implicitDefEqProofs [a_ref01_Put, q_ref01_Put_0, q_ref01_Put_1, q_ref01_Put_2]
    refine hR _ _ _ ?_
    simp -implicitDefEqProofs [a_ref01_Put, fpost, outOf, le]
  | m + 1, n, hn, hm => by
    refine i_ref01_Put (by simp) fun R hR => ?_
    have e0 : ¬ ((m : Int) + 1 ≤ 0) := by omega
    have e1 : IntKind.u8.wrap ((n : Int).tmod 256) = ((n % 256 : Nat) : Int) := by rw [wrap_u8m, Int.tmod_eq_emod_of_nonneg (by omega)]; omega
    have e2 : IntKind.i64.wrap (m : Int) = (m : Int) := wrap_i64 (by omega)
    have e3 : IntKind.u64.wrap ((n : Int) / 256) = ((n / 256 : Nat) : Int) := by rw [wrap_u64 (by omega)]; omega
    have ih := w_ref01_Put m (n / 256) (by omega) (by omega)
    simp -implicitDefEqProofs (disch := first | omega | simp) [a_ref01_Put, q_ref01_Put_0, q_ref01_Put_1, q_ref01_Put_3, q_ref01_Put_4, e0, e1, e2, e3]
    intro g
    refine ih.call (.cons (.refl _) rfl (.cons (.refl _) rfl .nil)) fun v B hB => ?_
    have h1 : SlS T_uint8 .u8 (.own g 0 1) (ints [n % 256]) H0 B := (SlS.one (by simp) (by simp)).mono hB.sub
    simp -implicitDefEqProofs
    refine h1.appS (Sub_refl _) (hB.src (Sub_refl _)) (by simp; omega) fun v' C' h' hag => ?_
    simp -implicitDefEqProofs
    refine hR _ _ _ ?_
    simpa -implicitDefEqProofs [fpost, a_ref01_Put, outOf, hag, le] using h'.fin
def il (l : List Nat) : AV := .isl .u8 (ints l)
end Go.Proofs.Ytfdckjliinpjiaa

/- Abstract programs; that they are the program's. -/
namespace Go.Proofs.Ytfdckjliinpjiaa
open Go AVL
set_option linter.unusedVariables false
set_option maxRecDepth 20000

def q_chunk_Split_0 : List AOper := [
  ⟨(some 2), (.mv (.v .nilS)), none⟩]
def q_chunk_Split_1 : List AOper := [
  ⟨(some 3), (.alloc 62 [.nilS]), none⟩]
def q_chunk_Split_2 : List AOper := [
  ⟨(some 6), (.mv (.t 0)), none⟩,
  ⟨(some 7), (.call F_chunk_All [(.sc, (.t 6))]), none⟩]
def q_chunk_Split_3 : List AOper := [
  ⟨(some 14), (.load .sc 1 (.t 3)), none⟩,
  ⟨(some 2), (.mv (.t 14)), none⟩]
def ra_chunk_Split_0_0 : List AOper := [
  ⟨(some 5), (.mv (.t 9)), none⟩]
def ra_chunk_Split_0 : ACode := (.region ra_chunk_Split_0_0)
def rb_chunk_Split_0_0 : List AOper := [
  ⟨(some 10), (.load .sc 1 (.t 3)), none⟩,
  ⟨(some 11), (.mv (.t 5)), none⟩,
  ⟨(some 12), (.bsl 22 .sc 1 [(.t 11)]), none⟩,
  ⟨(some 13), (.app 22 1 24 (.t 10) (.t 12)), none⟩,
  ⟨none, (.store .sc 1 (.t 3) (.t 13)), none⟩]
def rb_chunk_Split_0 : ACode := (.block 1 (.region rb_chunk_Split_0_0))
noncomputable def a_chunk_Split : AFunc := ⟨[(.tmp 2)], (.seq (.region q_chunk_Split_0) (.seq (.region q_chunk_Split_1) (.seq (.seq (.region q_chunk_Split_2) (.block 0 (.rangeF 15 (.t 7) [8, 9] (rfA Try.f40 0) (rfB Try.f40 0)))) (.seq (.region q_chunk_Split_3) .ret))))⟩

def q_chunk_Check_0 : List AOper := [
  ⟨(some 2), (.mv (.v (.int .i64 0))), none⟩]
def q_chunk_Check_1 : List AOper := [
  ⟨(some 4), (.mv (.t 0)), none⟩,
  ⟨(some 5), (.len false (.t 4)), none⟩,
  ⟨(some 6), (.eq .scI false (.t 5) (.v (.int .i64 0))), none⟩,
  ⟨(some 3), (.mv (.t 6)), none⟩]
def q_chunk_Check_2 : List AOper := [
  ⟨(some 2), (.mv (.v (.int .i64 1))), none⟩]
def q_chunk_Check_3 : List AOper := [
  ⟨(some 8), (.mv (.t 0)), none⟩,
  ⟨(some 9), (.len false (.t 8)), none⟩,
  ⟨(some 10), (.bin .gtr (.t 9) (.v (.int .i64 2048))), none⟩,
  ⟨(some 7), (.mv (.t 10)), none⟩]
def q_chunk_Check_4 : List AOper := [
  ⟨(some 2), (.mv (.v (.int .i64 15))), none⟩]
def q_chunk_Check_5 : List AOper := [
  ⟨(some 2), (.mv (.v (.int .i64 0))), none⟩]
def a_chunk_Check : AFunc := ⟨[(.tmp 2)], (.seq (.region q_chunk_Check_0) (.seq (.block 0 (.seq (.region q_chunk_Check_1) (.cond (.t 3) (.seq (.region q_chunk_Check_2) .ret) (.seq (.region q_chunk_Check_3) (.cond (.t 7) (.seq (.region q_chunk_Check_4) .ret) .skip))))) (.seq (.region q_chunk_Check_5) .ret)))⟩

def q_chunk_Count_0 : List AOper := [
  ⟨(some 2), (.mv (.v (.int .i64 0))), none⟩]
def q_chunk_Count_1 : List AOper := [
  ⟨(some 3), (.mv (.t 0)), none⟩,
  ⟨(some 4), (.bin .lss (.t 3) (.v (.int .i64 1))), none⟩]
def q_chunk_Count_2 : List AOper := [
  ⟨(some 2), (.mv (.v (.int .i64 0))), none⟩]
def q_chunk_Count_3 : List AOper := [
  ⟨(some 5), (.mv (.t 0)), none⟩,
  ⟨(some 6), (.bin .sub (.t 5) (.v (.int .i64 1))), none⟩,
  ⟨(some 7), (.bin .quo (.t 6) (.v (.int .i64 256))), none⟩,
  ⟨(some 8), (.bin .add (.t 7) (.v (.int .i64 1))), none⟩,
  ⟨(some 2), (.mv (.t 8)), none⟩]
def a_chunk_Count : AFunc := ⟨[(.tmp 2)], (.seq (.region q_chunk_Count_0) (.seq (.seq (.region q_chunk_Count_1) (.cond (.t 4) (.seq (.region q_chunk_Count_2) .ret) .skip)) (.seq (.region q_chunk_Count_3) .ret)))⟩

def q_chunk_Part_0 : List AOper := [
  ⟨(some 4), (.mv (.v (.int .i64 0))), none⟩]
def q_chunk_Part_1 : List AOper := [
  ⟨(some 5), (.mv (.t 1)), none⟩,
  ⟨(some 6), (.bin .lss (.t 5) (.v (.int .i64 0))), none⟩,
  ⟨(some 7), (.mv (.t 6)), none⟩,
  ⟨(some 8), (.mv (.t 1)), (some (7, false))⟩,
  ⟨(some 9), (.mv (.t 0)), (some (7, false))⟩,
  ⟨(some 10), (.call F_chunk_Count [(.sc, (.t 9))]), (some (7, false))⟩,
  ⟨(some 11), (.bin .geq (.t 8) (.t 10)), (some (7, false))⟩,
  ⟨(some 12), (.pick (.t 7) (.v (.bool true)) (.t 11)), none⟩]
def q_chunk_Part_2 : List AOper := [
  ⟨(some 4), (.mv (.v (.int .i64 0))), none⟩]
def q_chunk_Part_3 : List AOper := [
  ⟨(some 13), (.mv (.t 0)), none⟩,
  ⟨(some 14), (.mv (.t 1)), none⟩,
  ⟨(some 15), (.bin .mul (.t 14) (.v (.int .i64 256))), none⟩,
  ⟨(some 16), (.bin .sub (.t 13) (.t 15)), none⟩,
  ⟨(some 17), (.xx (.p (.mnI false)) [(.t 16), (.v (.int .i64 256))]), none⟩,
  ⟨(some 4), (.mv (.t 17)), none⟩]
def a_chunk_Part : AFunc := ⟨[(.tmp 4)], (.seq (.region q_chunk_Part_0) (.seq (.seq (.region q_chunk_Part_1) (.cond (.t 12) (.seq (.region q_chunk_Part_2) .ret) .skip)) (.seq (.region q_chunk_Part_3) .ret)))⟩

def q_chunk_All_0 : List AOper := [
  ⟨(some 1), (.box 22 .sc (.t 0)), none⟩,
  ⟨(some 2), (.mv (.v .nilF)), none⟩]
def q_chunk_All_1 : List AOper := [
  ⟨(some 3), (.xx (.p (.mkF (.func F_chunk_All_1) 0)) [(.t 1)]), none⟩,
  ⟨(some 2), (.mv (.t 3)), none⟩]
def a_chunk_All : AFunc := ⟨[(.tmp 2)], (.seq (.region q_chunk_All_0) (.seq (.region q_chunk_All_1) .ret))⟩

def q_chunk_Addresses_0 : List AOper := [
  ⟨(some 2), (.mv (.v .nilS)), none⟩]
def q_chunk_Addresses_1 : List AOper := [
  ⟨(some 3), (.alloc 24 [.nilS]), none⟩]
def q_chunk_Addresses_2 : List AOper := [
  ⟨(some 6), (.mv (.t 0)), none⟩,
  ⟨(some 7), (.call F_chunk_All [(.sc, (.t 6))]), none⟩]
def q_chunk_Addresses_3 : List AOper := [
  ⟨(some 15), (.load .sc 1 (.t 3)), none⟩,
  ⟨(some 2), (.mv (.t 15)), none⟩]
def ra_chunk_Addresses_0_0 : List AOper := [
  ⟨(some 5), (.mv (.t 9)), none⟩]
def ra_chunk_Addresses_0 : ACode := (.region ra_chunk_Addresses_0_0)
def rb_chunk_Addresses_0_0 : List DOp := [
  ⟨⟨(some 10), (.load .sc 1 (.t 3)), none⟩, true, false, none, []⟩,
  ⟨⟨(some 11), (.mv (.t 5)), none⟩, true, false, none, []⟩,
  ⟨⟨(some 12), (.call F_chunk_Address [(.sc, (.t 11))]), none⟩, false, true, (some [3]), []⟩,
  ⟨⟨(some 13), (.bsl 23 (.ia .u8 32) 32 [(.t 12)]), none⟩, false, false, none, []⟩,
  ⟨⟨(some 14), (.app 23 32 32 (.t 10) (.t 13)), none⟩, false, false, none, []⟩,
  ⟨⟨none, (.store .sc 1 (.t 3) (.t 14)), none⟩, false, false, none, []⟩]
def rb_chunk_Addresses_0 : ACode := (.block 1 (.regionD rb_chunk_Addresses_0_0))
noncomputable def a_chunk_Addresses : AFunc := ⟨[(.tmp 2)], (.seq (.region q_chunk_Addresses_0) (.seq (.region q_chunk_Addresses_1) (.seq (.seq (.region q_chunk_Addresses_2) (.block 0 (.rangeF 16 (.t 7) [8, 9] (rfA Try.f47 0) (rfB Try.f47 0)))) (.seq (.region q_chunk_Addresses_3) .ret))))⟩

def q_chunk_Address_0 : List AOper := [
  ⟨(some 2), (.alloc 23 [(.iarr .u8 32 (List.replicate 32 0))]), none⟩]
def q_chunk_Address_1 : List AOper := [
  ⟨(some 3), (.bslI 5 .u8 [(.v (.int .u8 99)), (.v (.int .u8 104)), (.v (.int .u8 117)), (.v (.int .u8 110)), (.v (.int .u8 107))]), none⟩,
  ⟨(some 4), (.xx .sealB [(.t 3)]), none⟩,
  ⟨(some 5), (.mv (.t 0)), none⟩,
  ⟨(some 6), (.bsl 22 .sc 1 [(.t 4), (.t 5)]), none⟩,
  ⟨(some 7), (.call F_digest_Of [(.sc, (.t 6))]), none⟩,
  ⟨none, (.store (.ia .u8 32) 32 (.t 2) (.t 7)), none⟩]
def a_chunk_Address : AFunc := ⟨[(.cell 2 (.ia .u8 32) 32)], (.seq (.region q_chunk_Address_0) (.seq (.region q_chunk_Address_1) .ret))⟩

def q_chunk_Text_0 : List AOper := [
  ⟨(some 2), (.alloc 23 [(.iarr .u8 32 (List.replicate 32 0))]), none⟩]
def q_chunk_Text_1 : List AOper := [
  ⟨(some 3), (.mv (.t 0)), none⟩,
  ⟨(some 4), (.len false (.t 3)), none⟩,
  ⟨(some 5), (.mv (.t 0)), none⟩,
  ⟨(some 6), (.call F_chunk_Addresses [(.sc, (.t 5))]), none⟩,
  ⟨(some 7), (.call F_chunk_Of [(.sc, (.t 4)), (.sc, (.t 6))]), none⟩,
  ⟨none, (.store (.ia .u8 32) 32 (.t 2) (.t 7)), none⟩]
def a_chunk_Text : AFunc := ⟨[(.cell 2 (.ia .u8 32) 32)], (.seq (.region q_chunk_Text_0) (.seq (.region q_chunk_Text_1) .ret))⟩

def q_chunk_Of_0 : List AOper := [
  ⟨(some 4), (.alloc 23 [(.iarr .u8 32 (List.replicate 32 0))]), none⟩]
def q_chunk_Of_1 : List AOper := [
  ⟨(some 8), (.call F_digest_New []), none⟩,
  ⟨(some 5), (.mv (.t 8)), none⟩]
def q_chunk_Of_2 : List AOper := [
  ⟨(some 9), (.mv (.t 5)), none⟩,
  ⟨(some 10), (.bslI 5 .u8 [(.v (.int .u8 116)), (.v (.int .u8 101)), (.v (.int .u8 120)), (.v (.int .u8 116))]), none⟩,
  ⟨(some 11), (.xx .sealB [(.t 10)]), none⟩,
  ⟨(some 12), (.call F_Pdigest_Hash_Add [(.sc, (.t 9)), (.sc, (.t 11))]), none⟩]
def q_chunk_Of_3 : List AOper := [
  ⟨(some 13), (.mv (.t 5)), none⟩,
  ⟨(some 14), (.mv (.t 0)), none⟩,
  ⟨(some 15), (.conv .u64 (.t 14)), none⟩,
  ⟨(some 16), (.call F_word_Put [(.sc, (.t 15)), (.sc, (.v (.int .i64 4)))]), none⟩,
  ⟨(some 17), (.call F_Pdigest_Hash_Add [(.sc, (.t 13)), (.sc, (.t 16))]), none⟩]
def q_chunk_Of_4 : List AOper := [
  ⟨(some 18), (.mv (.t 1)), none⟩,
  ⟨(some 19), (.len false (.t 18)), none⟩,
  ⟨(some 20), (.mv (.v (.int .i64 0))), none⟩]
def q_chunk_Of_5 : List AOper := [
  ⟨(some 21), (.bin .lss (.t 20) (.t 19)), none⟩]
def q_chunk_Of_6 : List AOper := [
  ⟨(some 22), (.idx 32 (.t 18) (.t 20)), none⟩,
  ⟨(some 23), (.load (.ia .u8 32) 32 (.t 22)), none⟩,
  ⟨(some 7), (.alloc 23 [(.iarr .u8 32 (List.replicate 32 0))]), none⟩,
  ⟨none, (.store (.ia .u8 32) 32 (.t 7) (.t 23)), none⟩]
def q_chunk_Of_7 : List AOper := [
  ⟨(some 24), (.mv (.t 5)), none⟩,
  ⟨(some 25), (.slcA 32 (.t 7) none none), none⟩,
  ⟨(some 26), (.call F_Pdigest_Hash_Add [(.sc, (.t 24)), (.sc, (.t 25))]), none⟩]
def q_chunk_Of_8 : List AOper := [
  ⟨(some 27), (.bin .add (.t 20) (.v (.int .i64 1))), none⟩,
  ⟨(some 20), (.mv (.t 27)), none⟩]
def q_chunk_Of_L9 : ACode := (.seq (.region q_chunk_Of_5) (.seq (.cond (.t 21) .skip (.exit 0)) (.seq (.block 1 (.seq (.region q_chunk_Of_6) (.region q_chunk_Of_7))) (.region q_chunk_Of_8))))
def q_chunk_Of_9 : List AOper := [
  ⟨(some 28), (.mv (.t 5)), none⟩,
  ⟨(some 29), (.call F_Pdigest_Hash_Sum [(.sc, (.t 28))]), none⟩,
  ⟨none, (.store (.ia .u8 32) 32 (.t 4) (.t 29)), none⟩]
def a_chunk_Of : AFunc := ⟨[(.cell 4 (.ia .u8 32) 32)], (.seq (.region q_chunk_Of_0) (.seq (.region q_chunk_Of_1) (.seq (.region q_chunk_Of_2) (.seq (.region q_chunk_Of_3) (.seq (.seq (.region q_chunk_Of_4) (.block 0 (.loop q_chunk_Of_L9))) (.seq (.region q_chunk_Of_9) .ret))))))⟩

def q_chunk_Sector_0 : List AOper := [
  ⟨(some 2), (.alloc 54 [(.iarr .u8 256 (List.replicate 256 0))]), none⟩]
def q_chunk_Sector_1 : List AOper := [
  ⟨(some 3), (.mv (.t 0)), none⟩,
  ⟨(some 4), (.call F_word_Whole [(.sc, (.t 3))]), none⟩,
  ⟨none, (.store (.ia .u8 256) 256 (.t 2) (.t 4)), none⟩]
def a_chunk_Sector : AFunc := ⟨[(.cell 2 (.ia .u8 256) 256)], (.seq (.region q_chunk_Sector_0) (.seq (.region q_chunk_Sector_1) .ret))⟩

def q_chunk_Join_0 : List AOper := [
  ⟨(some 4), (.mv (.v .nilS)), none⟩,
  ⟨(some 5), (.mv (.v (.int .i64 0))), none⟩]
def q_chunk_Join_1 : List AOper := [
  ⟨(some 10), (.mv (.t 0)), none⟩,
  ⟨(some 11), (.bin .lss (.t 10) (.v (.int .i64 1))), none⟩,
  ⟨(some 12), (.mv (.t 11)), none⟩,
  ⟨(some 13), (.mv (.t 0)), (some (12, false))⟩,
  ⟨(some 14), (.bin .gtr (.t 13) (.v (.int .i64 2048))), (some (12, false))⟩,
  ⟨(some 15), (.pick (.t 12) (.v (.bool true)) (.t 14)), none⟩]
def q_chunk_Join_2 : List AOper := [
  ⟨(some 4), (.mv (.v .nilS)), none⟩,
  ⟨(some 5), (.mv (.v (.int .i64 15))), none⟩]
def q_chunk_Join_3 : List AOper := [
  ⟨(some 16), (.mv (.t 1)), none⟩,
  ⟨(some 17), (.len false (.t 16)), none⟩,
  ⟨(some 18), (.mv (.t 0)), none⟩,
  ⟨(some 19), (.call F_chunk_Count [(.sc, (.t 18))]), none⟩,
  ⟨(some 20), (.eq .scI true (.t 17) (.t 19)), none⟩]
def q_chunk_Join_4 : List AOper := [
  ⟨(some 4), (.mv (.v .nilS)), none⟩,
  ⟨(some 5), (.mv (.v (.int .i64 1))), none⟩]
def q_chunk_Join_5 : List AOper := [
  ⟨(some 6), (.mv (.v .nilS)), none⟩]
def q_chunk_Join_6 : List AOper := [
  ⟨(some 21), (.mv (.t 1)), none⟩,
  ⟨(some 22), (.len false (.t 21)), none⟩,
  ⟨(some 23), (.mv (.v (.int .i64 0))), none⟩]
def q_chunk_Join_7 : List AOper := [
  ⟨(some 24), (.bin .lss (.t 23) (.t 22)), none⟩]
def q_chunk_Join_8 : List AOper := [
  ⟨(some 25), (.mv (.t 23)), none⟩,
  ⟨(some 26), (.idx 256 (.t 21) (.t 23)), none⟩,
  ⟨(some 27), (.load (.ia .u8 256) 256 (.t 26)), none⟩,
  ⟨(some 8), (.alloc 54 [(.iarr .u8 256 (List.replicate 256 0))]), none⟩,
  ⟨(some 7), (.mv (.t 25)), none⟩,
  ⟨none, (.store (.ia .u8 256) 256 (.t 8) (.t 27)), none⟩]
def q_chunk_Join_9 : List AOper := [
  ⟨(some 28), (.mv (.t 0)), none⟩,
  ⟨(some 29), (.mv (.t 7)), none⟩,
  ⟨(some 30), (.call F_chunk_Part [(.sc, (.t 28)), (.sc, (.t 29))]), none⟩,
  ⟨(some 9), (.mv (.t 30)), none⟩]
def q_chunk_Join_10 : List AOper := [
  ⟨(some 31), (.mv (.t 9)), none⟩,
  ⟨(some 32), (.slcA 256 (.t 8) (some (.t 31)) none), none⟩,
  ⟨(some 33), (.call F_word_Zero [(.sc, (.t 32))]), none⟩,
  ⟨(some 34), (.un .not (.t 33)), none⟩]
def q_chunk_Join_11 : List AOper := [
  ⟨(some 4), (.mv (.v .nilS)), none⟩,
  ⟨(some 5), (.mv (.v (.int .i64 5))), none⟩]
def q_chunk_Join_12 : List AOper := [
  ⟨(some 35), (.mv (.t 6)), none⟩,
  ⟨(some 36), (.mv (.t 9)), none⟩,
  ⟨(some 37), (.slcA 256 (.t 8) none (some (.t 36))), none⟩,
  ⟨(some 38), (.appI 5 .u8 1 (.t 35) (.t 37)), none⟩,
  ⟨(some 6), (.mv (.t 38)), none⟩]
def q_chunk_Join_13 : List AOper := [
  ⟨(some 39), (.bin .add (.t 23) (.v (.int .i64 1))), none⟩,
  ⟨(some 23), (.mv (.t 39)), none⟩]
def q_chunk_Join_L14 : ACode := (.seq (.region q_chunk_Join_7) (.seq (.cond (.t 24) .skip (.exit 0)) (.seq (.block 1 (.seq (.region q_chunk_Join_8) (.seq (.region q_chunk_Join_9) (.seq (.seq (.region q_chunk_Join_10) (.cond (.t 34) (.seq (.region q_chunk_Join_11) .ret) .skip)) (.region q_chunk_Join_12))))) (.region q_chunk_Join_13))))
def q_chunk_Join_14 : List AOper := [
  ⟨(some 40), (.mv (.t 6)), none⟩,
  ⟨(some 4), (.mv (.t 40)), none⟩,
  ⟨(some 5), (.mv (.v (.int .i64 0))), none⟩]
def a_chunk_Join : AFunc := ⟨[(.tmp 4), (.tmp 5)], (.seq (.region q_chunk_Join_0) (.seq (.seq (.region q_chunk_Join_1) (.cond (.t 15) (.seq (.region q_chunk_Join_2) .ret) .skip)) (.seq (.seq (.region q_chunk_Join_3) (.cond (.t 20) (.seq (.region q_chunk_Join_4) .ret) .skip)) (.seq (.region q_chunk_Join_5) (.seq (.seq (.region q_chunk_Join_6) (.block 0 (.loop q_chunk_Join_L14))) (.seq (.region q_chunk_Join_14) .ret))))))⟩

def q_chunk_All_1_0 : List AOper := [
  ⟨(some 3), (.mv (.v (.int .i64 0))), none⟩]
def q_chunk_All_1_1 : List AOper := [
  ⟨(some 5), (.load .sc 1 (.t 1)), none⟩,
  ⟨(some 6), (.len false (.t 5)), none⟩,
  ⟨(some 7), (.bin .gtr (.t 6) (.v (.int .i64 0))), none⟩]
def q_chunk_All_1_2 : List AOper := [
  ⟨(some 10), (.load .sc 1 (.t 1)), none⟩,
  ⟨(some 11), (.len false (.t 10)), none⟩,
  ⟨(some 12), (.xx (.p (.mnI false)) [(.t 11), (.v (.int .i64 256))]), none⟩,
  ⟨(some 4), (.mv (.t 12)), none⟩]
def q_chunk_All_1_3 : List AOper := [
  ⟨(some 13), (.mv (.t 0)), none⟩,
  ⟨(some 14), (.mv (.t 3)), none⟩,
  ⟨(some 15), (.bslI 5 .u8 []), none⟩,
  ⟨(some 16), (.load .sc 1 (.t 1)), none⟩,
  ⟨(some 17), (.mv (.t 4)), none⟩,
  ⟨(some 18), (.slc 1 (.t 16) none (some (.t 17))), none⟩,
  ⟨(some 19), (.appI 5 .u8 1 (.t 15) (.t 18)), none⟩,
  ⟨(some 20), (.callV (.t 13) [(.sc, (.t 14)), (.sc, (.t 19))]), none⟩,
  ⟨(some 21), (.un .not (.t 20)), none⟩]
def q_chunk_All_1_4 : List AOper := [
  ⟨(some 22), (.load .sc 1 (.t 1)), none⟩,
  ⟨(some 23), (.mv (.t 4)), none⟩,
  ⟨(some 24), (.slc 1 (.t 22) (some (.t 23)) none), none⟩,
  ⟨none, (.store .sc 1 (.t 1) (.t 24)), none⟩]
def q_chunk_All_1_5 : List AOper := [
  ⟨(some 8), (.mv (.t 3)), none⟩,
  ⟨(some 9), (.bin .add (.t 8) (.v (.int .i64 1))), none⟩,
  ⟨(some 3), (.mv (.t 9)), none⟩]
def q_chunk_All_1_L6 : ACode := (.seq (.seq (.region q_chunk_All_1_1) (.cond (.t 7) .skip (.exit 0))) (.seq (.block 1 (.seq (.region q_chunk_All_1_2) (.seq (.seq (.region q_chunk_All_1_3) (.cond (.t 21) .ret .skip)) (.region q_chunk_All_1_4)))) (.region q_chunk_All_1_5)))
def a_chunk_All_1 : AFunc := ⟨[], (.seq (.region q_chunk_All_1_0) (.block 0 (.loop q_chunk_All_1_L6)))⟩

def q_ref13_Split_0 : List AOper := [
  ⟨(some 2), (.mv (.v .nilS)), none⟩]
def q_ref13_Split_1 : List AOper := [
  ⟨(some 4), (.mv (.t 0)), none⟩,
  ⟨(some 5), (.len false (.t 4)), none⟩,
  ⟨(some 6), (.eq .scI false (.t 5) (.v (.int .i64 0))), none⟩]
def q_ref13_Split_2 : List AOper := [
  ⟨(some 2), (.mv (.v .nilS)), none⟩]
def q_ref13_Split_3 : List AOper := [
  ⟨(some 7), (.mv (.t 0)), none⟩,
  ⟨(some 8), (.len false (.t 7)), none⟩,
  ⟨(some 9), (.bin .leq (.t 8) (.v (.int .i64 256))), none⟩]
def q_ref13_Split_4 : List AOper := [
  ⟨(some 10), (.mv (.t 0)), none⟩,
  ⟨(some 11), (.bsl 22 .sc 1 [(.t 10)]), none⟩,
  ⟨(some 2), (.mv (.t 11)), none⟩]
def q_ref13_Split_5 : List AOper := [
  ⟨(some 12), (.mv (.t 0)), none⟩,
  ⟨(some 13), (.slc 1 (.t 12) none (some (.v (.int .i64 256)))), none⟩,
  ⟨(some 14), (.bsl 22 .sc 1 [(.t 13)]), none⟩,
  ⟨(some 3), (.mv (.t 14)), none⟩]
def q_ref13_Split_6 : List AOper := [
  ⟨(some 15), (.mv (.t 3)), none⟩,
  ⟨(some 16), (.mv (.t 0)), none⟩,
  ⟨(some 17), (.slc 1 (.t 16) (some (.v (.int .i64 256))) none), none⟩,
  ⟨(some 18), (.call F_ref13_Split [(.sc, (.t 17))]), none⟩,
  ⟨(some 19), (.app 22 1 24 (.t 15) (.t 18)), none⟩,
  ⟨(some 2), (.mv (.t 19)), none⟩]
def a_ref13_Split : AFunc := ⟨[(.tmp 2)], (.seq (.region q_ref13_Split_0) (.seq (.seq (.region q_ref13_Split_1) (.cond (.t 6) (.seq (.region q_ref13_Split_2) .ret) .skip)) (.seq (.seq (.region q_ref13_Split_3) (.cond (.t 9) (.seq (.region q_ref13_Split_4) .ret) .skip)) (.seq (.region q_ref13_Split_5) (.seq (.region q_ref13_Split_6) .ret)))))⟩

def q_ref13_Check_0 : List AOper := [
  ⟨(some 2), (.mv (.v (.int .i64 0))), none⟩]
def q_ref13_Check_1 : List AOper := [
  ⟨(some 3), (.mv (.t 0)), none⟩,
  ⟨(some 4), (.len false (.t 3)), none⟩,
  ⟨(some 5), (.eq .scI false (.t 4) (.v (.int .i64 0))), none⟩]
def q_ref13_Check_2 : List AOper := [
  ⟨(some 2), (.mv (.v (.int .i64 1))), none⟩]
def q_ref13_Check_3 : List AOper := [
  ⟨(some 6), (.mv (.t 0)), none⟩,
  ⟨(some 7), (.len false (.t 6)), none⟩,
  ⟨(some 8), (.bin .gtr (.t 7) (.v (.int .i64 2048))), none⟩]
def q_ref13_Check_4 : List AOper := [
  ⟨(some 2), (.mv (.v (.int .i64 15))), none⟩]
def q_ref13_Check_5 : List AOper := [
  ⟨(some 2), (.mv (.v (.int .i64 0))), none⟩]
def a_ref13_Check : AFunc := ⟨[(.tmp 2)], (.seq (.region q_ref13_Check_0) (.seq (.seq (.region q_ref13_Check_1) (.cond (.t 5) (.seq (.region q_ref13_Check_2) .ret) .skip)) (.seq (.seq (.region q_ref13_Check_3) (.cond (.t 8) (.seq (.region q_ref13_Check_4) .ret) .skip)) (.seq (.region q_ref13_Check_5) .ret))))⟩

def q_ref13_Address_0 : List AOper := [
  ⟨(some 2), (.alloc 23 [(.iarr .u8 32 (List.replicate 32 0))]), none⟩]
def q_ref13_Address_1 : List AOper := [
  ⟨(some 3), (.mv (.t 0)), none⟩,
  ⟨(some 4), (.call F_ref13_Said [(.sc, (.t 3))]), none⟩,
  ⟨(some 5), (.call F_ref03_Sum [(.sc, (.t 4))]), none⟩,
  ⟨none, (.store (.ia .u8 32) 32 (.t 2) (.t 5)), none⟩]
def a_ref13_Address : AFunc := ⟨[(.cell 2 (.ia .u8 32) 32)], (.seq (.region q_ref13_Address_0) (.seq (.region q_ref13_Address_1) .ret))⟩

def q_ref13_Text_0 : List AOper := [
  ⟨(some 2), (.alloc 23 [(.iarr .u8 32 (List.replicate 32 0))]), none⟩]
def q_ref13_Text_1 : List AOper := [
  ⟨(some 3), (.mv (.t 0)), none⟩,
  ⟨(some 4), (.call F_ref13_Words [(.sc, (.t 3))]), none⟩,
  ⟨(some 5), (.call F_ref03_Sum [(.sc, (.t 4))]), none⟩,
  ⟨none, (.store (.ia .u8 32) 32 (.t 2) (.t 5)), none⟩]
def a_ref13_Text : AFunc := ⟨[(.cell 2 (.ia .u8 32) 32)], (.seq (.region q_ref13_Text_0) (.seq (.region q_ref13_Text_1) .ret))⟩

def q_ref13_Join_0 : List AOper := [
  ⟨(some 4), (.mv (.v .nilS)), none⟩,
  ⟨(some 5), (.mv (.v (.int .i64 0))), none⟩]
def q_ref13_Join_1 : List AOper := [
  ⟨(some 9), (.mv (.t 0)), none⟩,
  ⟨(some 10), (.bin .lss (.t 9) (.v (.int .i64 1))), none⟩,
  ⟨(some 11), (.mv (.t 10)), none⟩,
  ⟨(some 12), (.mv (.t 0)), (some (11, false))⟩,
  ⟨(some 13), (.bin .gtr (.t 12) (.v (.int .i64 2048))), (some (11, false))⟩,
  ⟨(some 14), (.pick (.t 11) (.v (.bool true)) (.t 13)), none⟩]
def q_ref13_Join_2 : List AOper := [
  ⟨(some 4), (.mv (.v .nilS)), none⟩,
  ⟨(some 5), (.mv (.v (.int .i64 15))), none⟩]
def q_ref13_Join_3 : List AOper := [
  ⟨(some 15), (.mv (.t 1)), none⟩,
  ⟨(some 16), (.len false (.t 15)), none⟩,
  ⟨(some 17), (.mv (.t 0)), none⟩,
  ⟨(some 18), (.bin .add (.t 17) (.v (.int .i64 255))), none⟩,
  ⟨(some 19), (.bin .quo (.t 18) (.v (.int .i64 256))), none⟩,
  ⟨(some 20), (.eq .scI true (.t 16) (.t 19)), none⟩]
def q_ref13_Join_4 : List AOper := [
  ⟨(some 4), (.mv (.v .nilS)), none⟩,
  ⟨(some 5), (.mv (.v (.int .i64 1))), none⟩]
def q_ref13_Join_5 : List AOper := [
  ⟨(some 6), (.mv (.v .nilS)), none⟩]
def q_ref13_Join_6 : List AOper := [
  ⟨(some 7), (.mv (.v (.int .i64 0))), none⟩]
def q_ref13_Join_7 : List AOper := [
  ⟨(some 21), (.mv (.t 7)), none⟩,
  ⟨(some 22), (.mv (.t 1)), none⟩,
  ⟨(some 23), (.len false (.t 22)), none⟩,
  ⟨(some 24), (.bin .lss (.t 21) (.t 23)), none⟩]
def q_ref13_Join_8 : List AOper := [
  ⟨(some 8), (.mv (.v (.int .i64 0))), none⟩]
def q_ref13_Join_9 : List AOper := [
  ⟨(some 27), (.mv (.t 8)), none⟩,
  ⟨(some 28), (.bin .lss (.t 27) (.v (.int .i64 256))), none⟩]
def q_ref13_Join_10 : List AOper := [
  ⟨(some 31), (.mv (.t 6)), none⟩,
  ⟨(some 32), (.mv (.t 1)), none⟩,
  ⟨(some 33), (.mv (.t 7)), none⟩,
  ⟨(some 34), (.mv (.t 8)), none⟩,
  ⟨(some 35), (.idx 256 (.t 32) (.t 33)), none⟩,
  ⟨(some 36), (.idxA 256 1 true (.t 35) (.t 34)), none⟩,
  ⟨(some 37), (.load .sc 1 (.t 36)), none⟩,
  ⟨(some 38), (.bslI 5 .u8 [(.t 37)]), none⟩,
  ⟨(some 39), (.appI 5 .u8 1 (.t 31) (.t 38)), none⟩,
  ⟨(some 6), (.mv (.t 39)), none⟩]
def q_ref13_Join_11 : List AOper := [
  ⟨(some 29), (.mv (.t 8)), none⟩,
  ⟨(some 30), (.bin .add (.t 29) (.v (.int .i64 1))), none⟩,
  ⟨(some 8), (.mv (.t 30)), none⟩]
def q_ref13_Join_L12 : ACode := (.seq (.seq (.region q_ref13_Join_9) (.cond (.t 28) .skip (.exit 2))) (.seq (.block 3 (.region q_ref13_Join_10)) (.region q_ref13_Join_11)))
def q_ref13_Join_12 : List AOper := [
  ⟨(some 25), (.mv (.t 7)), none⟩,
  ⟨(some 26), (.bin .add (.t 25) (.v (.int .i64 1))), none⟩,
  ⟨(some 7), (.mv (.t 26)), none⟩]
def q_ref13_Join_L13 : ACode := (.seq (.seq (.region q_ref13_Join_7) (.cond (.t 24) .skip (.exit 0))) (.seq (.block 1 (.seq (.region q_ref13_Join_8) (.block 2 (.loop q_ref13_Join_L12)))) (.region q_ref13_Join_12)))
def q_ref13_Join_13 : List AOper := [
  ⟨(some 40), (.mv (.t 6)), none⟩,
  ⟨(some 41), (.mv (.t 0)), none⟩,
  ⟨(some 42), (.slc 1 (.t 40) (some (.t 41)) none), none⟩,
  ⟨(some 43), (.call F_ref01_Zero [(.sc, (.t 42))]), none⟩,
  ⟨(some 44), (.un .not (.t 43)), none⟩]
def q_ref13_Join_14 : List AOper := [
  ⟨(some 4), (.mv (.v .nilS)), none⟩,
  ⟨(some 5), (.mv (.v (.int .i64 5))), none⟩]
def q_ref13_Join_15 : List AOper := [
  ⟨(some 45), (.mv (.t 6)), none⟩,
  ⟨(some 46), (.mv (.t 0)), none⟩,
  ⟨(some 47), (.slc 1 (.t 45) none (some (.t 46))), none⟩,
  ⟨(some 4), (.mv (.t 47)), none⟩,
  ⟨(some 5), (.mv (.v (.int .i64 0))), none⟩]
def a_ref13_Join : AFunc := ⟨[(.tmp 4), (.tmp 5)], (.seq (.region q_ref13_Join_0) (.seq (.seq (.region q_ref13_Join_1) (.cond (.t 14) (.seq (.region q_ref13_Join_2) .ret) .skip)) (.seq (.seq (.region q_ref13_Join_3) (.cond (.t 20) (.seq (.region q_ref13_Join_4) .ret) .skip)) (.seq (.region q_ref13_Join_5) (.seq (.seq (.region q_ref13_Join_6) (.block 0 (.loop q_ref13_Join_L13))) (.seq (.seq (.region q_ref13_Join_13) (.cond (.t 44) (.seq (.region q_ref13_Join_14) .ret) .skip)) (.seq (.region q_ref13_Join_15) .ret)))))))⟩

def q_ref13_Said_0 : List AOper := [
  ⟨(some 2), (.mv (.v .nilS)), none⟩]
def q_ref13_Said_1 : List AOper := [
  ⟨(some 4), (.bslI 5 .u8 [(.v (.int .u8 99)), (.v (.int .u8 104)), (.v (.int .u8 117)), (.v (.int .u8 110)), (.v (.int .u8 107))]), none⟩,
  ⟨(some 5), (.xx .sealB [(.t 4)]), none⟩,
  ⟨(some 3), (.mv (.t 5)), none⟩]
def q_ref13_Said_2 : List AOper := [
  ⟨(some 6), (.mv (.t 3)), none⟩,
  ⟨(some 7), (.mv (.t 0)), none⟩,
  ⟨(some 8), (.appI 5 .u8 1 (.t 6) (.t 7)), none⟩,
  ⟨(some 2), (.mv (.t 8)), none⟩]
def a_ref13_Said : AFunc := ⟨[(.tmp 2)], (.seq (.region q_ref13_Said_0) (.seq (.region q_ref13_Said_1) (.seq (.region q_ref13_Said_2) .ret)))⟩

def q_ref13_Words_0 : List AOper := [
  ⟨(some 2), (.mv (.v .nilS)), none⟩]
def q_ref13_Words_1 : List AOper := [
  ⟨(some 8), (.bslI 5 .u8 [(.v (.int .u8 116)), (.v (.int .u8 101)), (.v (.int .u8 120)), (.v (.int .u8 116))]), none⟩,
  ⟨(some 9), (.xx .sealB [(.t 8)]), none⟩,
  ⟨(some 3), (.mv (.t 9)), none⟩]
def q_ref13_Words_2 : List AOper := [
  ⟨(some 10), (.mv (.t 3)), none⟩,
  ⟨(some 11), (.mv (.t 0)), none⟩,
  ⟨(some 12), (.len false (.t 11)), none⟩,
  ⟨(some 13), (.conv .u64 (.t 12)), none⟩,
  ⟨(some 14), (.call F_ref01_Put [(.sc, (.t 13)), (.sc, (.v (.int .i64 4)))]), none⟩,
  ⟨(some 15), (.appI 5 .u8 1 (.t 10) (.t 14)), none⟩,
  ⟨(some 3), (.mv (.t 15)), none⟩]
def q_ref13_Words_3 : List AOper := [
  ⟨(some 16), (.mv (.t 0)), none⟩,
  ⟨(some 17), (.call F_ref13_Split [(.sc, (.t 16))]), none⟩,
  ⟨(some 4), (.mv (.t 17)), none⟩]
def q_ref13_Words_4 : List AOper := [
  ⟨(some 5), (.mv (.v (.int .i64 0))), none⟩]
def q_ref13_Words_5 : List AOper := [
  ⟨(some 18), (.mv (.t 5)), none⟩,
  ⟨(some 19), (.mv (.t 4)), none⟩,
  ⟨(some 20), (.len false (.t 19)), none⟩,
  ⟨(some 21), (.bin .lss (.t 18) (.t 20)), none⟩]
def q_ref13_Words_6 : List AOper := [
  ⟨(some 24), (.mv (.t 4)), none⟩,
  ⟨(some 25), (.mv (.t 5)), none⟩,
  ⟨(some 26), (.idx 1 (.t 24) (.t 25)), none⟩,
  ⟨(some 27), (.load .sc 1 (.t 26)), none⟩,
  ⟨(some 28), (.call F_ref13_Address [(.sc, (.t 27))]), none⟩,
  ⟨(some 6), (.alloc 23 [(.iarr .u8 32 (List.replicate 32 0))]), none⟩,
  ⟨none, (.store (.ia .u8 32) 32 (.t 6) (.t 28)), none⟩]
def q_ref13_Words_7 : List AOper := [
  ⟨(some 7), (.mv (.v (.int .i64 0))), none⟩]
def q_ref13_Words_8 : List AOper := [
  ⟨(some 29), (.mv (.t 7)), none⟩,
  ⟨(some 30), (.bin .lss (.t 29) (.v (.int .i64 32))), none⟩]
def q_ref13_Words_9 : List AOper := [
  ⟨(some 33), (.mv (.t 3)), none⟩,
  ⟨(some 34), (.mv (.t 7)), none⟩,
  ⟨(some 35), (.idxA 32 1 true (.t 6) (.t 34)), none⟩,
  ⟨(some 36), (.load .sc 1 (.t 35)), none⟩,
  ⟨(some 37), (.bslI 5 .u8 [(.t 36)]), none⟩,
  ⟨(some 38), (.appI 5 .u8 1 (.t 33) (.t 37)), none⟩,
  ⟨(some 3), (.mv (.t 38)), none⟩]
def q_ref13_Words_10 : List AOper := [
  ⟨(some 31), (.mv (.t 7)), none⟩,
  ⟨(some 32), (.bin .add (.t 31) (.v (.int .i64 1))), none⟩,
  ⟨(some 7), (.mv (.t 32)), none⟩]
def q_ref13_Words_L11 : ACode := (.seq (.seq (.region q_ref13_Words_8) (.cond (.t 30) .skip (.exit 2))) (.seq (.block 3 (.region q_ref13_Words_9)) (.region q_ref13_Words_10)))
def q_ref13_Words_11 : List AOper := [
  ⟨(some 22), (.mv (.t 5)), none⟩,
  ⟨(some 23), (.bin .add (.t 22) (.v (.int .i64 1))), none⟩,
  ⟨(some 5), (.mv (.t 23)), none⟩]
def q_ref13_Words_L12 : ACode := (.seq (.seq (.region q_ref13_Words_5) (.cond (.t 21) .skip (.exit 0))) (.seq (.block 1 (.seq (.region q_ref13_Words_6) (.seq (.region q_ref13_Words_7) (.block 2 (.loop q_ref13_Words_L11))))) (.region q_ref13_Words_11)))
def q_ref13_Words_12 : List AOper := [
  ⟨(some 39), (.mv (.t 3)), none⟩,
  ⟨(some 2), (.mv (.t 39)), none⟩]
def a_ref13_Words : AFunc := ⟨[(.tmp 2)], (.seq (.region q_ref13_Words_0) (.seq (.region q_ref13_Words_1) (.seq (.region q_ref13_Words_2) (.seq (.region q_ref13_Words_3) (.seq (.seq (.region q_ref13_Words_4) (.block 0 (.loop q_ref13_Words_L12))) (.seq (.region q_ref13_Words_12) .ret))))))⟩

def q_law13_ChunkCuts_0 : List AOper := [
  ⟨(some 6), (.alloc 4 [(.bool false)]), none⟩]
def q_law13_ChunkCuts_1 : List AOper := [
  ⟨(some 16), (.mv (.t 0)), none⟩,
  ⟨(some 17), (.len false (.t 16)), none⟩,
  ⟨(some 18), (.bin .gtr (.t 17) (.v (.int .i64 3000))), none⟩]
def q_law13_ChunkCuts_2 : List AOper := [
  ⟨(some 19), (.call F_law13_works []), none⟩,
  ⟨none, (.store .sc 1 (.t 6) (.t 19)), none⟩]
def q_law13_ChunkCuts_3 : List AOper := [
  ⟨(some 20), (.mv (.t 0)), none⟩,
  ⟨(some 21), (.call F_chunk_Split [(.sc, (.t 20))]), none⟩,
  ⟨(some 22), (.mv (.t 0)), none⟩,
  ⟨(some 23), (.call F_ref13_Split [(.sc, (.t 22))]), none⟩,
  ⟨(some 8), (.alloc 62 [.nilS]), none⟩,
  ⟨(some 7), (.mv (.t 21)), none⟩,
  ⟨none, (.store .sc 1 (.t 8) (.t 23)), none⟩]
def q_law13_ChunkCuts_4 : List DOp := [
  ⟨⟨(some 24), (.mv (.t 0)), none⟩, true, false, none, []⟩,
  ⟨⟨(some 26), (.mv (.t 0)), none⟩, true, false, none, []⟩,
  ⟨⟨(some 25), (.call F_chunk_Check [(.sc, (.t 24))]), none⟩, false, false, none, []⟩,
  ⟨⟨(some 27), (.call F_ref13_Check [(.sc, (.t 26))]), none⟩, false, false, none, []⟩,
  ⟨⟨(some 28), (.eq .scI true (.t 25) (.t 27)), none⟩, true, false, none, []⟩,
  ⟨⟨(some 29), (.mv (.t 28)), none⟩, true, false, none, []⟩,
  ⟨⟨(some 30), (.mv (.t 7)), (some (29, false))⟩, true, false, none, []⟩,
  ⟨⟨(some 31), (.len false (.t 30)), (some (29, false))⟩, true, false, none, []⟩,
  ⟨⟨(some 32), (.load .sc 1 (.t 8)), (some (29, false))⟩, true, false, none, []⟩,
  ⟨⟨(some 33), (.len false (.t 32)), (some (29, false))⟩, true, false, none, []⟩,
  ⟨⟨(some 34), (.eq .scI true (.t 31) (.t 33)), (some (29, false))⟩, true, false, none, []⟩,
  ⟨⟨(some 35), (.pick (.t 29) (.v (.bool true)) (.t 34)), none⟩, true, false, none, []⟩,
  ⟨⟨(some 36), (.mv (.t 35)), none⟩, true, false, none, []⟩,
  ⟨⟨(some 37), (.mv (.t 0)), (some (36, false))⟩, true, false, none, []⟩,
  ⟨⟨(some 38), (.len false (.t 37)), (some (36, false))⟩, true, false, none, []⟩,
  ⟨⟨(some 40), (.load .sc 1 (.t 8)), (some (36, false))⟩, true, false, none, []⟩,
  ⟨⟨(some 41), (.len false (.t 40)), (some (36, false))⟩, true, false, none, []⟩,
  ⟨⟨(some 39), (.call F_chunk_Count [(.sc, (.t 38))]), (some (36, false))⟩, false, true, (some [8]), []⟩,
  ⟨⟨(some 42), (.eq .scI true (.t 39) (.t 41)), (some (36, false))⟩, true, false, none, []⟩,
  ⟨⟨(some 43), (.pick (.t 36) (.v (.bool true)) (.t 42)), none⟩, true, false, none, []⟩]
def q_law13_ChunkCuts_5 : List AOper := [
  ⟨none, (.store .sc 1 (.t 6) (.v (.bool false))), none⟩]
def q_law13_ChunkCuts_6 : List AOper := [
  ⟨(some 9), (.mv (.v (.int .i64 0))), none⟩]
def q_law13_ChunkCuts_7 : List AOper := [
  ⟨(some 44), (.mv (.t 9)), none⟩,
  ⟨(some 45), (.load .sc 1 (.t 8)), none⟩,
  ⟨(some 46), (.len false (.t 45)), none⟩,
  ⟨(some 47), (.bin .lss (.t 44) (.t 46)), none⟩]
def q_law13_ChunkCuts_8 : List DOp := [
  ⟨⟨(some 50), (.mv (.t 7)), none⟩, true, false, none, []⟩,
  ⟨⟨(some 51), (.mv (.t 9)), none⟩, true, false, none, []⟩,
  ⟨⟨(some 52), (.idx 1 (.t 50) (.t 51)), none⟩, true, false, none, []⟩,
  ⟨⟨(some 53), (.load .sc 1 (.t 52)), none⟩, true, false, none, []⟩,
  ⟨⟨(some 54), (.load .sc 1 (.t 8)), none⟩, true, false, none, []⟩,
  ⟨⟨(some 55), (.mv (.t 9)), none⟩, true, false, none, []⟩,
  ⟨⟨(some 56), (.idx 1 (.t 54) (.t 55)), none⟩, true, false, none, []⟩,
  ⟨⟨(some 57), (.load .sc 1 (.t 56)), none⟩, true, false, none, []⟩,
  ⟨⟨(some 58), (.call F_ref01_Same [(.sc, (.t 53)), (.sc, (.t 57))]), none⟩, false, false, none, []⟩,
  ⟨⟨(some 59), (.un .not (.t 58)), none⟩, true, false, none, []⟩,
  ⟨⟨(some 60), (.mv (.t 59)), none⟩, true, false, none, []⟩,
  ⟨⟨(some 61), (.mv (.t 0)), (some (60, false))⟩, true, false, none, []⟩,
  ⟨⟨(some 62), (.len false (.t 61)), (some (60, false))⟩, true, false, none, []⟩,
  ⟨⟨(some 63), (.mv (.t 9)), (some (60, false))⟩, true, false, none, []⟩,
  ⟨⟨(some 65), (.load .sc 1 (.t 8)), (some (60, false))⟩, true, false, none, []⟩,
  ⟨⟨(some 66), (.mv (.t 9)), (some (60, false))⟩, true, false, none, []⟩,
  ⟨⟨(some 67), (.idx 1 (.t 65) (.t 66)), (some (60, false))⟩, true, false, none, []⟩,
  ⟨⟨(some 68), (.load .sc 1 (.t 67)), (some (60, false))⟩, true, false, none, []⟩,
  ⟨⟨(some 69), (.len false (.t 68)), (some (60, false))⟩, true, false, none, []⟩,
  ⟨⟨(some 64), (.call F_chunk_Part [(.sc, (.t 62)), (.sc, (.t 63))]), (some (60, false))⟩, false, true, (some [67, 65, 8]), []⟩,
  ⟨⟨(some 70), (.eq .scI true (.t 64) (.t 69)), (some (60, false))⟩, true, false, none, []⟩,
  ⟨⟨(some 71), (.pick (.t 60) (.v (.bool true)) (.t 70)), none⟩, true, false, none, []⟩]
def q_law13_ChunkCuts_9 : List AOper := [
  ⟨none, (.store .sc 1 (.t 6) (.v (.bool false))), none⟩]
def q_law13_ChunkCuts_10 : List AOper := [
  ⟨(some 48), (.mv (.t 9)), none⟩,
  ⟨(some 49), (.bin .add (.t 48) (.v (.int .i64 1))), none⟩,
  ⟨(some 9), (.mv (.t 49)), none⟩]
def q_law13_ChunkCuts_L11 : ACode := (.seq (.seq (.region q_law13_ChunkCuts_7) (.cond (.t 47) .skip (.exit 0))) (.seq (.block 1 (.seq (.regionD q_law13_ChunkCuts_8) (.cond (.t 71) (.seq (.region q_law13_ChunkCuts_9) .ret) .skip))) (.region q_law13_ChunkCuts_10)))
def q_law13_ChunkCuts_11 : List AOper := [
  ⟨(some 10), (.alloc 3 [(.int .i64 0)]), none⟩,
  ⟨none, (.store .sc 1 (.t 10) (.v (.int .i64 0))), none⟩]
def q_law13_ChunkCuts_12 : List AOper := [
  ⟨(some 72), (.mv (.t 0)), none⟩,
  ⟨(some 73), (.call F_chunk_All [(.sc, (.t 72))]), none⟩,
  ⟨(some 11), (.mv (.t 73)), none⟩]
def q_law13_ChunkCuts_13 : List AOper := [
  ⟨(some 74), (.mv (.t 11)), none⟩,
  ⟨(some 75), (.xx (.p (.isNil .fn false)) [(.t 74)]), none⟩]
def q_law13_ChunkCuts_14 : List AOper := [
  ⟨none, (.store .sc 1 (.t 6) (.v (.bool false))), none⟩]
def q_law13_ChunkCuts_15 : List AOper := [
  ⟨(some 76), (.mv (.t 11)), none⟩]
def q_law13_ChunkCuts_16 : List AOper := [
  ⟨(some 99), (.mv (.t 1)), none⟩,
  ⟨(some 100), (.bin .gtr (.t 99) (.v (.int .i64 3000))), none⟩,
  ⟨(some 101), (.mv (.t 100)), none⟩,
  ⟨(some 102), (.mv (.t 1)), (some (101, false))⟩,
  ⟨(some 103), (.bin .lss (.t 102) (.v (.int .i64 (-3000)))), (some (101, false))⟩,
  ⟨(some 104), (.pick (.t 101) (.v (.bool true)) (.t 103)), none⟩]
def q_law13_ChunkCuts_17 : List AOper := [
  ⟨(some 105), (.load .sc 1 (.t 10)), none⟩,
  ⟨(some 106), (.load .sc 1 (.t 8)), none⟩,
  ⟨(some 107), (.len false (.t 106)), none⟩,
  ⟨(some 108), (.eq .scI false (.t 105) (.t 107)), none⟩,
  ⟨(some 109), (.mv (.t 108)), none⟩,
  ⟨(some 110), (.call F_law13_works []), (some (109, true))⟩,
  ⟨(some 111), (.pick (.t 109) (.t 110) (.v (.bool false))), none⟩,
  ⟨none, (.store .sc 1 (.t 6) (.t 111)), none⟩]
def q_law13_ChunkCuts_18 : List AOper := [
  ⟨(some 112), (.mv (.t 1)), none⟩,
  ⟨(some 113), (.xx (.p (.mnI true)) [(.t 112), (.v (.int .i64 0))]), none⟩,
  ⟨(some 114), (.mkI 5 .u8 1 (.t 113) (.t 113)), none⟩,
  ⟨(some 115), (.call F_ref13_Split [(.sc, (.t 114))]), none⟩,
  ⟨(some 14), (.mv (.t 115)), none⟩]
def q_law13_ChunkCuts_19 : List AOper := [
  ⟨(some 15), (.mv (.v (.int .i64 0))), none⟩]
def q_law13_ChunkCuts_20 : List AOper := [
  ⟨(some 116), (.mv (.t 2)), none⟩,
  ⟨(some 117), (.bin .geq (.t 116) (.v (.int .i64 0))), none⟩,
  ⟨(some 118), (.mv (.t 117)), none⟩,
  ⟨(some 119), (.mv (.t 2)), (some (118, true))⟩,
  ⟨(some 120), (.mv (.t 14)), (some (118, true))⟩,
  ⟨(some 121), (.len false (.t 120)), (some (118, true))⟩,
  ⟨(some 122), (.bin .lss (.t 119) (.t 121)), (some (118, true))⟩,
  ⟨(some 123), (.pick (.t 118) (.t 122) (.v (.bool false))), none⟩]
def q_law13_ChunkCuts_21 : List AOper := [
  ⟨(some 124), (.mv (.t 14)), none⟩,
  ⟨(some 125), (.mv (.t 2)), none⟩,
  ⟨(some 126), (.idx 1 (.t 124) (.t 125)), none⟩,
  ⟨(some 127), (.load .sc 1 (.t 126)), none⟩,
  ⟨(some 128), (.len false (.t 127)), none⟩,
  ⟨(some 15), (.mv (.t 128)), none⟩]
def q_law13_ChunkCuts_22 : List AOper := [
  ⟨(some 129), (.load .sc 1 (.t 10)), none⟩,
  ⟨(some 130), (.load .sc 1 (.t 8)), none⟩,
  ⟨(some 131), (.len false (.t 130)), none⟩,
  ⟨(some 132), (.eq .scI false (.t 129) (.t 131)), none⟩,
  ⟨(some 133), (.mv (.t 132)), none⟩,
  ⟨(some 134), (.mv (.t 1)), (some (133, true))⟩,
  ⟨(some 135), (.call F_chunk_Count [(.sc, (.t 134))]), (some (133, true))⟩,
  ⟨(some 136), (.mv (.t 14)), (some (133, true))⟩,
  ⟨(some 137), (.len false (.t 136)), (some (133, true))⟩,
  ⟨(some 138), (.eq .scI false (.t 135) (.t 137)), (some (133, true))⟩,
  ⟨(some 139), (.pick (.t 133) (.t 138) (.v (.bool false))), none⟩,
  ⟨(some 140), (.mv (.t 139)), none⟩,
  ⟨(some 141), (.mv (.t 1)), (some (140, true))⟩,
  ⟨(some 142), (.mv (.t 2)), (some (140, true))⟩,
  ⟨(some 143), (.call F_chunk_Part [(.sc, (.t 141)), (.sc, (.t 142))]), (some (140, true))⟩,
  ⟨(some 144), (.mv (.t 15)), (some (140, true))⟩,
  ⟨(some 145), (.eq .scI false (.t 143) (.t 144)), (some (140, true))⟩,
  ⟨(some 146), (.pick (.t 140) (.t 145) (.v (.bool false))), none⟩,
  ⟨(some 147), (.mv (.t 146)), none⟩,
  ⟨(some 148), (.call F_law13_works []), (some (147, true))⟩,
  ⟨(some 149), (.pick (.t 147) (.t 148) (.v (.bool false))), none⟩,
  ⟨none, (.store .sc 1 (.t 6) (.t 149)), none⟩]
def ra_law13_ChunkCuts_0_0 : List AOper := [
  ⟨(some 12), (.mv (.t 77)), none⟩]
def ra_law13_ChunkCuts_0_1 : List AOper := [
  ⟨(some 13), (.mv (.t 78)), none⟩]
def ra_law13_ChunkCuts_0 : ACode := (.seq (.region ra_law13_ChunkCuts_0_0) (.region ra_law13_ChunkCuts_0_1))
def rb_law13_ChunkCuts_0_0 : List AOper := [
  ⟨(some 79), (.mv (.t 12)), none⟩,
  ⟨(some 80), (.load .sc 1 (.t 10)), none⟩,
  ⟨(some 81), (.eq .scI true (.t 79) (.t 80)), none⟩,
  ⟨(some 82), (.mv (.t 81)), none⟩,
  ⟨(some 83), (.load .sc 1 (.t 10)), (some (82, false))⟩,
  ⟨(some 84), (.load .sc 1 (.t 8)), (some (82, false))⟩,
  ⟨(some 85), (.len false (.t 84)), (some (82, false))⟩,
  ⟨(some 86), (.bin .geq (.t 83) (.t 85)), (some (82, false))⟩,
  ⟨(some 87), (.pick (.t 82) (.v (.bool true)) (.t 86)), none⟩,
  ⟨(some 88), (.mv (.t 87)), none⟩,
  ⟨(some 89), (.mv (.t 13)), (some (88, false))⟩,
  ⟨(some 90), (.load .sc 1 (.t 8)), (some (88, false))⟩,
  ⟨(some 91), (.load .sc 1 (.t 10)), (some (88, false))⟩,
  ⟨(some 92), (.idx 1 (.t 90) (.t 91)), (some (88, false))⟩,
  ⟨(some 93), (.load .sc 1 (.t 92)), (some (88, false))⟩,
  ⟨(some 94), (.call F_ref01_Same [(.sc, (.t 89)), (.sc, (.t 93))]), (some (88, false))⟩,
  ⟨(some 95), (.un .not (.t 94)), (some (88, false))⟩,
  ⟨(some 96), (.pick (.t 88) (.v (.bool true)) (.t 95)), none⟩]
def rb_law13_ChunkCuts_0_1 : List AOper := [
  ⟨none, (.store .sc 1 (.t 6) (.v (.bool false))), none⟩]
def rb_law13_ChunkCuts_0_2 : List AOper := [
  ⟨(some 97), (.load .sc 1 (.t 10)), none⟩,
  ⟨(some 98), (.bin .add (.t 97) (.v (.int .i64 1))), none⟩,
  ⟨none, (.store .sc 1 (.t 10) (.t 98)), none⟩]
def rb_law13_ChunkCuts_0 : ACode := (.block 3 (.seq (.seq (.region rb_law13_ChunkCuts_0_0) (.cond (.t 96) (.seq (.region rb_law13_ChunkCuts_0_1) .ret) .skip)) (.region rb_law13_ChunkCuts_0_2)))
noncomputable def a_law13_ChunkCuts : AFunc := ⟨[(.cell 6 .sc 1)], (.seq (.region q_law13_ChunkCuts_0) (.seq (.seq (.region q_law13_ChunkCuts_1) (.cond (.t 18) (.seq (.region q_law13_ChunkCuts_2) .ret) .skip)) (.seq (.region q_law13_ChunkCuts_3) (.seq (.seq (.regionD q_law13_ChunkCuts_4) (.cond (.t 43) (.seq (.region q_law13_ChunkCuts_5) .ret) .skip)) (.seq (.seq (.region q_law13_ChunkCuts_6) (.block 0 (.loop q_law13_ChunkCuts_L11))) (.seq (.region q_law13_ChunkCuts_11) (.seq (.region q_law13_ChunkCuts_12) (.seq (.seq (.region q_law13_ChunkCuts_13) (.cond (.t 75) (.seq (.region q_law13_ChunkCuts_14) .ret) .skip)) (.seq (.seq (.region q_law13_ChunkCuts_15) (.block 2 (.rangeF 150 (.t 76) [77, 78] (rfA Try.f9 0) (rfB Try.f9 0)))) (.seq (.seq (.region q_law13_ChunkCuts_16) (.cond (.t 104) (.seq (.region q_law13_ChunkCuts_17) .ret) .skip)) (.seq (.region q_law13_ChunkCuts_18) (.seq (.region q_law13_ChunkCuts_19) (.seq (.seq (.region q_law13_ChunkCuts_20) (.cond (.t 123) (.region q_law13_ChunkCuts_21) .skip)) (.seq (.region q_law13_ChunkCuts_22) .ret))))))))))))))⟩

def q_law13_ChunkNames_0 : List AOper := [
  ⟨(some 2), (.mv (.v (.bool false))), none⟩]
def q_law13_ChunkNames_1 : List AOper := [
  ⟨(some 6), (.mv (.t 0)), none⟩,
  ⟨(some 7), (.len false (.t 6)), none⟩,
  ⟨(some 8), (.bin .gtr (.t 7) (.v (.int .i64 2048))), none⟩]
def q_law13_ChunkNames_2 : List AOper := [
  ⟨(some 9), (.call F_law13_works []), none⟩,
  ⟨(some 2), (.mv (.t 9)), none⟩]
def q_law13_ChunkNames_3 : List AOper := [
  ⟨(some 10), (.mv (.t 0)), none⟩,
  ⟨(some 11), (.call F_chunk_Addresses [(.sc, (.t 10))]), none⟩,
  ⟨(some 12), (.mv (.t 0)), none⟩,
  ⟨(some 13), (.call F_ref13_Split [(.sc, (.t 12))]), none⟩,
  ⟨(some 3), (.mv (.t 11)), none⟩,
  ⟨(some 4), (.mv (.t 13)), none⟩]
def q_law13_ChunkNames_4 : List AOper := [
  ⟨(some 14), (.mv (.t 3)), none⟩,
  ⟨(some 15), (.len false (.t 14)), none⟩,
  ⟨(some 16), (.mv (.t 4)), none⟩,
  ⟨(some 17), (.len false (.t 16)), none⟩,
  ⟨(some 18), (.eq .scI true (.t 15) (.t 17)), none⟩]
def q_law13_ChunkNames_5 : List AOper := [
  ⟨(some 2), (.mv (.v (.bool false))), none⟩]
def q_law13_ChunkNames_6 : List AOper := [
  ⟨(some 5), (.mv (.v (.int .i64 0))), none⟩]
def q_law13_ChunkNames_7 : List AOper := [
  ⟨(some 19), (.mv (.t 5)), none⟩,
  ⟨(some 20), (.mv (.t 4)), none⟩,
  ⟨(some 21), (.len false (.t 20)), none⟩,
  ⟨(some 22), (.bin .lss (.t 19) (.t 21)), none⟩]
def q_law13_ChunkNames_8 : List DOp := [
  ⟨⟨(some 25), (.mv (.t 3)), none⟩, true, false, none, []⟩,
  ⟨⟨(some 26), (.mv (.t 5)), none⟩, true, false, none, []⟩,
  ⟨⟨(some 27), (.idx 32 (.t 25) (.t 26)), none⟩, true, false, none, []⟩,
  ⟨⟨(some 28), (.load (.ia .u8 32) 32 (.t 27)), none⟩, true, false, none, []⟩,
  ⟨⟨(some 29), (.mv (.t 4)), none⟩, true, false, none, []⟩,
  ⟨⟨(some 30), (.mv (.t 5)), none⟩, true, false, none, []⟩,
  ⟨⟨(some 31), (.idx 1 (.t 29) (.t 30)), none⟩, true, false, none, []⟩,
  ⟨⟨(some 32), (.load .sc 1 (.t 31)), none⟩, true, false, none, []⟩,
  ⟨⟨(some 33), (.call F_ref13_Address [(.sc, (.t 32))]), none⟩, false, true, (some [27, 25]), []⟩,
  ⟨⟨(some 34), (.eq (.ia 32) true (.t 28) (.t 33)), none⟩, true, false, none, []⟩,
  ⟨⟨(some 35), (.mv (.t 34)), none⟩, true, false, none, []⟩,
  ⟨⟨(some 36), (.mv (.t 4)), (some (35, false))⟩, true, false, none, []⟩,
  ⟨⟨(some 37), (.mv (.t 5)), (some (35, false))⟩, true, false, none, []⟩,
  ⟨⟨(some 38), (.idx 1 (.t 36) (.t 37)), (some (35, false))⟩, true, false, none, []⟩,
  ⟨⟨(some 39), (.load .sc 1 (.t 38)), (some (35, false))⟩, true, false, none, []⟩,
  ⟨⟨(some 41), (.mv (.t 3)), (some (35, false))⟩, true, false, none, []⟩,
  ⟨⟨(some 42), (.mv (.t 5)), (some (35, false))⟩, true, false, none, []⟩,
  ⟨⟨(some 43), (.idx 32 (.t 41) (.t 42)), (some (35, false))⟩, true, false, none, []⟩,
  ⟨⟨(some 44), (.load (.ia .u8 32) 32 (.t 43)), (some (35, false))⟩, true, false, none, []⟩,
  ⟨⟨(some 40), (.call F_chunk_Address [(.sc, (.t 39))]), (some (35, false))⟩, false, true, (some [43, 41]), []⟩,
  ⟨⟨(some 45), (.eq (.ia 32) true (.t 40) (.t 44)), (some (35, false))⟩, true, false, none, []⟩,
  ⟨⟨(some 46), (.pick (.t 35) (.v (.bool true)) (.t 45)), none⟩, true, false, none, []⟩]
def q_law13_ChunkNames_9 : List AOper := [
  ⟨(some 2), (.mv (.v (.bool false))), none⟩]
def q_law13_ChunkNames_10 : List AOper := [
  ⟨(some 23), (.mv (.t 5)), none⟩,
  ⟨(some 24), (.bin .add (.t 23) (.v (.int .i64 1))), none⟩,
  ⟨(some 5), (.mv (.t 24)), none⟩]
def q_law13_ChunkNames_L11 : ACode := (.seq (.seq (.region q_law13_ChunkNames_7) (.cond (.t 22) .skip (.exit 0))) (.seq (.block 1 (.seq (.regionD q_law13_ChunkNames_8) (.cond (.t 46) (.seq (.region q_law13_ChunkNames_9) .ret) .skip))) (.region q_law13_ChunkNames_10)))
def q_law13_ChunkNames_11 : List AOper := [
  ⟨(some 47), (.mv (.t 0)), none⟩,
  ⟨(some 48), (.call F_chunk_Text [(.sc, (.t 47))]), none⟩,
  ⟨(some 49), (.mv (.t 0)), none⟩,
  ⟨(some 50), (.call F_ref13_Text [(.sc, (.t 49))]), none⟩,
  ⟨(some 51), (.eq (.ia 32) false (.t 48) (.t 50)), none⟩,
  ⟨(some 52), (.mv (.t 51)), none⟩,
  ⟨(some 53), (.mv (.t 0)), (some (52, true))⟩,
  ⟨(some 54), (.len false (.t 53)), (some (52, true))⟩,
  ⟨(some 55), (.mv (.t 3)), (some (52, true))⟩,
  ⟨(some 56), (.call F_chunk_Of [(.sc, (.t 54)), (.sc, (.t 55))]), (some (52, true))⟩,
  ⟨(some 57), (.mv (.t 0)), (some (52, true))⟩,
  ⟨(some 58), (.call F_chunk_Text [(.sc, (.t 57))]), (some (52, true))⟩,
  ⟨(some 59), (.eq (.ia 32) false (.t 56) (.t 58)), (some (52, true))⟩,
  ⟨(some 60), (.pick (.t 52) (.t 59) (.v (.bool false))), none⟩,
  ⟨(some 61), (.mv (.t 60)), none⟩,
  ⟨(some 62), (.call F_law13_works []), (some (61, true))⟩,
  ⟨(some 63), (.pick (.t 61) (.t 62) (.v (.bool false))), none⟩,
  ⟨(some 2), (.mv (.t 63)), none⟩]
def a_law13_ChunkNames : AFunc := ⟨[(.tmp 2)], (.seq (.region q_law13_ChunkNames_0) (.seq (.seq (.region q_law13_ChunkNames_1) (.cond (.t 8) (.seq (.region q_law13_ChunkNames_2) .ret) .skip)) (.seq (.region q_law13_ChunkNames_3) (.seq (.seq (.region q_law13_ChunkNames_4) (.cond (.t 18) (.seq (.region q_law13_ChunkNames_5) .ret) .skip)) (.seq (.seq (.region q_law13_ChunkNames_6) (.block 0 (.loop q_law13_ChunkNames_L11))) (.seq (.region q_law13_ChunkNames_11) .ret))))))⟩

def q_law13_ChunkBack_0 : List AOper := [
  ⟨(some 6), (.mv (.v (.bool false))), none⟩]
def q_law13_ChunkBack_1 : List AOper := [
  ⟨(some 16), (.mv (.t 0)), none⟩,
  ⟨(some 17), (.len false (.t 16)), none⟩,
  ⟨(some 18), (.bin .gtr (.t 17) (.v (.int .i64 3000))), none⟩,
  ⟨(some 19), (.mv (.t 18)), none⟩,
  ⟨(some 20), (.mv (.t 2)), (some (19, false))⟩,
  ⟨(some 21), (.len false (.t 20)), (some (19, false))⟩,
  ⟨(some 22), (.bin .gtr (.t 21) (.v (.int .i64 10))), (some (19, false))⟩,
  ⟨(some 23), (.pick (.t 19) (.v (.bool true)) (.t 22)), none⟩]
def q_law13_ChunkBack_2 : List AOper := [
  ⟨(some 24), (.call F_law13_works []), none⟩,
  ⟨(some 6), (.mv (.t 24)), none⟩]
def q_law13_ChunkBack_3 : List AOper := [
  ⟨(some 7), (.mv (.v .nilS)), none⟩]
def q_law13_ChunkBack_4 : List AOper := [
  ⟨(some 25), (.mv (.t 0)), none⟩,
  ⟨(some 26), (.call F_ref13_Split [(.sc, (.t 25))]), none⟩,
  ⟨(some 8), (.mv (.t 26)), none⟩]
def q_law13_ChunkBack_5 : List AOper := [
  ⟨(some 9), (.mv (.v (.int .i64 0))), none⟩]
def q_law13_ChunkBack_6 : List AOper := [
  ⟨(some 27), (.mv (.t 9)), none⟩,
  ⟨(some 28), (.mv (.t 8)), none⟩,
  ⟨(some 29), (.len false (.t 28)), none⟩,
  ⟨(some 30), (.bin .lss (.t 27) (.t 29)), none⟩]
def q_law13_ChunkBack_7 : List AOper := [
  ⟨(some 33), (.mv (.t 7)), none⟩,
  ⟨(some 34), (.mv (.t 8)), none⟩,
  ⟨(some 35), (.mv (.t 9)), none⟩,
  ⟨(some 36), (.idx 1 (.t 34) (.t 35)), none⟩,
  ⟨(some 37), (.load .sc 1 (.t 36)), none⟩,
  ⟨(some 38), (.call F_chunk_Sector [(.sc, (.t 37))]), none⟩,
  ⟨(some 39), (.bsl 54 (.ia .u8 256) 256 [(.t 38)]), none⟩,
  ⟨(some 40), (.app 54 256 256 (.t 33) (.t 39)), none⟩,
  ⟨(some 7), (.mv (.t 40)), none⟩]
def q_law13_ChunkBack_8 : List AOper := [
  ⟨(some 31), (.mv (.t 9)), none⟩,
  ⟨(some 32), (.bin .add (.t 31) (.v (.int .i64 1))), none⟩,
  ⟨(some 9), (.mv (.t 32)), none⟩]
def q_law13_ChunkBack_L9 : ACode := (.seq (.seq (.region q_law13_ChunkBack_6) (.cond (.t 30) .skip (.exit 0))) (.seq (.block 1 (.region q_law13_ChunkBack_7)) (.region q_law13_ChunkBack_8)))
def q_law13_ChunkBack_9 : List AOper := [
  ⟨(some 42), (.mv (.t 0)), none⟩,
  ⟨(some 43), (.len false (.t 42)), none⟩,
  ⟨(some 44), (.mv (.t 7)), none⟩,
  ⟨(some 45), (.call F_chunk_Join [(.sc, (.t 43)), (.sc, (.t 44))]), none⟩,
  ⟨(some 41), (.mv (.t 45)), none⟩,
  ⟨(some 46), (.ext 0 (.t 41)), none⟩,
  ⟨(some 47), (.ext 1 (.t 41)), none⟩,
  ⟨(some 10), (.mv (.t 46)), none⟩,
  ⟨(some 11), (.mv (.t 47)), none⟩]
def q_law13_ChunkBack_10 : List AOper := [
  ⟨(some 48), (.mv (.t 0)), none⟩,
  ⟨(some 49), (.call F_ref13_Check [(.sc, (.t 48))]), none⟩,
  ⟨(some 50), (.eq .scI false (.t 49) (.v (.int .i64 0))), none⟩,
  ⟨(some 51), (.mv (.t 50)), none⟩,
  ⟨(some 52), (.mv (.t 11)), (some (51, true))⟩,
  ⟨(some 53), (.eq .scI true (.t 52) (.v (.int .i64 0))), (some (51, true))⟩,
  ⟨(some 54), (.mv (.t 53)), (some (51, true))⟩,
  ⟨(some 55), (.mv (.t 10)), (some (54, false))⟩,
  ⟨(some 56), (.mv (.t 0)), (some (54, false))⟩,
  ⟨(some 57), (.call F_ref01_Same [(.sc, (.t 55)), (.sc, (.t 56))]), (some (54, false))⟩,
  ⟨(some 58), (.un .not (.t 57)), (some (54, false))⟩,
  ⟨(some 59), (.pick (.t 54) (.v (.bool true)) (.t 58)), (some (51, true))⟩,
  ⟨(some 60), (.pick (.t 51) (.t 59) (.v (.bool false))), none⟩]
def q_law13_ChunkBack_11 : List AOper := [
  ⟨(some 6), (.mv (.v (.bool false))), none⟩]
def q_law13_ChunkBack_12 : List AOper := [
  ⟨(some 62), (.mv (.t 1)), none⟩,
  ⟨(some 63), (.mv (.t 2)), none⟩,
  ⟨(some 64), (.call F_chunk_Join [(.sc, (.t 62)), (.sc, (.t 63))]), none⟩,
  ⟨(some 61), (.mv (.t 64)), none⟩,
  ⟨(some 65), (.ext 0 (.t 61)), none⟩,
  ⟨(some 66), (.ext 1 (.t 61)), none⟩,
  ⟨(some 12), (.mv (.t 65)), none⟩,
  ⟨(some 13), (.mv (.t 66)), none⟩]
def q_law13_ChunkBack_13 : List AOper := [
  ⟨(some 68), (.mv (.t 1)), none⟩,
  ⟨(some 69), (.mv (.t 2)), none⟩,
  ⟨(some 70), (.call F_ref13_Join [(.sc, (.t 68)), (.sc, (.t 69))]), none⟩,
  ⟨(some 67), (.mv (.t 70)), none⟩,
  ⟨(some 71), (.ext 0 (.t 67)), none⟩,
  ⟨(some 72), (.ext 1 (.t 67)), none⟩,
  ⟨(some 14), (.mv (.t 71)), none⟩,
  ⟨(some 15), (.mv (.t 72)), none⟩]
def q_law13_ChunkBack_14 : List AOper := [
  ⟨(some 73), (.mv (.t 12)), none⟩,
  ⟨(some 74), (.mv (.t 14)), none⟩,
  ⟨(some 75), (.call F_ref01_Same [(.sc, (.t 73)), (.sc, (.t 74))]), none⟩,
  ⟨(some 76), (.mv (.t 75)), none⟩,
  ⟨(some 77), (.mv (.t 13)), (some (76, true))⟩,
  ⟨(some 78), (.mv (.t 15)), (some (76, true))⟩,
  ⟨(some 79), (.eq .scI false (.t 77) (.t 78)), (some (76, true))⟩,
  ⟨(some 80), (.pick (.t 76) (.t 79) (.v (.bool false))), none⟩,
  ⟨(some 81), (.mv (.t 80)), none⟩,
  ⟨(some 82), (.call F_law13_works []), (some (81, true))⟩,
  ⟨(some 83), (.pick (.t 81) (.t 82) (.v (.bool false))), none⟩,
  ⟨(some 6), (.mv (.t 83)), none⟩]
def a_law13_ChunkBack : AFunc := ⟨[(.tmp 6)], (.seq (.region q_law13_ChunkBack_0) (.seq (.seq (.region q_law13_ChunkBack_1) (.cond (.t 23) (.seq (.region q_law13_ChunkBack_2) .ret) .skip)) (.seq (.region q_law13_ChunkBack_3) (.seq (.region q_law13_ChunkBack_4) (.seq (.seq (.region q_law13_ChunkBack_5) (.block 0 (.loop q_law13_ChunkBack_L9))) (.seq (.region q_law13_ChunkBack_9) (.seq (.seq (.region q_law13_ChunkBack_10) (.cond (.t 60) (.seq (.region q_law13_ChunkBack_11) .ret) .skip)) (.seq (.region q_law13_ChunkBack_12) (.seq (.region q_law13_ChunkBack_13) (.seq (.region q_law13_ChunkBack_14) .ret))))))))))⟩

def q_law13_works_0 : List AOper := [
  ⟨(some 0), (.mv (.v (.bool false))), none⟩]
def q_law13_works_1 : List AOper := [
  ⟨(some 10), (.mkI 5 .u8 1 (.v (.int .i64 300)) (.v (.int .i64 300))), none⟩,
  ⟨(some 1), (.mv (.t 10)), none⟩]
def q_law13_works_2 : List AOper := [
  ⟨(some 11), (.mv (.t 1)), none⟩,
  ⟨(some 12), (.idx 1 (.t 11) (.v (.int .i64 299))), none⟩,
  ⟨none, (.store .sc 1 (.t 12) (.v (.int .u8 7))), none⟩]
def q_law13_works_3 : List AOper := [
  ⟨(some 13), (.mv (.t 1)), none⟩,
  ⟨(some 14), (.call F_chunk_Split [(.sc, (.t 13))]), none⟩,
  ⟨(some 2), (.mv (.t 14)), none⟩]
def q_law13_works_4 : List AOper := [
  ⟨(some 15), (.mv (.t 2)), none⟩,
  ⟨(some 16), (.len false (.t 15)), none⟩,
  ⟨(some 17), (.eq .scI true (.t 16) (.v (.int .i64 2))), none⟩]
def q_law13_works_5 : List AOper := [
  ⟨(some 0), (.mv (.v (.bool false))), none⟩]
def q_law13_works_6 : List DOp := [
  ⟨⟨(some 18), (.mv (.t 2)), none⟩, true, false, none, []⟩,
  ⟨⟨(some 19), (.idx 1 (.t 18) (.v (.int .i64 0))), none⟩, true, false, none, []⟩,
  ⟨⟨(some 20), (.load .sc 1 (.t 19)), none⟩, true, false, none, []⟩,
  ⟨⟨(some 22), (.mv (.t 2)), none⟩, true, false, none, []⟩,
  ⟨⟨(some 23), (.idx 1 (.t 22) (.v (.int .i64 1))), none⟩, true, false, none, []⟩,
  ⟨⟨(some 24), (.load .sc 1 (.t 23)), none⟩, true, false, none, []⟩,
  ⟨⟨(some 21), (.call F_chunk_Sector [(.sc, (.t 20))]), none⟩, false, true, (some [23, 22]), []⟩,
  ⟨⟨(some 25), (.call F_chunk_Sector [(.sc, (.t 24))]), none⟩, false, false, none, []⟩,
  ⟨⟨(some 26), (.bsl 54 (.ia .u8 256) 256 [(.t 21), (.t 25)]), none⟩, false, false, none, []⟩,
  ⟨⟨(some 3), (.mv (.t 26)), none⟩, true, false, none, []⟩]
def q_law13_works_7 : List AOper := [
  ⟨(some 28), (.mv (.t 3)), none⟩,
  ⟨(some 29), (.call F_chunk_Join [(.sc, (.v (.int .i64 300))), (.sc, (.t 28))]), none⟩,
  ⟨(some 27), (.mv (.t 29)), none⟩,
  ⟨(some 30), (.ext 0 (.t 27)), none⟩,
  ⟨(some 31), (.ext 1 (.t 27)), none⟩,
  ⟨(some 4), (.mv (.t 30)), none⟩,
  ⟨(some 5), (.mv (.t 31)), none⟩]
def q_law13_works_8 : List AOper := [
  ⟨(some 33), (.mv (.t 3)), none⟩,
  ⟨(some 34), (.call F_chunk_Join [(.sc, (.v (.int .i64 299))), (.sc, (.t 33))]), none⟩,
  ⟨(some 32), (.mv (.t 34)), none⟩,
  ⟨(some 35), (.ext 0 (.t 32)), none⟩,
  ⟨(some 36), (.ext 1 (.t 32)), none⟩,
  ⟨(some 6), (.mv (.t 35)), none⟩,
  ⟨(some 7), (.mv (.t 36)), none⟩]
def q_law13_works_9 : List AOper := [
  ⟨(some 38), (.mv (.t 3)), none⟩,
  ⟨(some 39), (.call F_chunk_Join [(.sc, (.v (.int .i64 256))), (.sc, (.t 38))]), none⟩,
  ⟨(some 37), (.mv (.t 39)), none⟩,
  ⟨(some 40), (.ext 0 (.t 37)), none⟩,
  ⟨(some 41), (.ext 1 (.t 37)), none⟩,
  ⟨(some 8), (.mv (.t 40)), none⟩,
  ⟨(some 9), (.mv (.t 41)), none⟩]
def q_law13_works_10 : List DOp := [
  ⟨⟨(some 42), (.mv (.t 2)), none⟩, true, false, none, []⟩,
  ⟨⟨(some 43), (.idx 1 (.t 42) (.v (.int .i64 1))), none⟩, true, false, none, []⟩,
  ⟨⟨(some 44), (.load .sc 1 (.t 43)), none⟩, true, false, none, []⟩,
  ⟨⟨(some 45), (.len false (.t 44)), none⟩, true, false, none, []⟩,
  ⟨⟨(some 46), (.eq .scI false (.t 45) (.v (.int .i64 44))), none⟩, true, false, none, []⟩,
  ⟨⟨(some 47), (.mv (.t 46)), none⟩, true, false, none, []⟩,
  ⟨⟨(some 48), (.mv (.t 5)), (some (47, true))⟩, true, false, none, []⟩,
  ⟨⟨(some 49), (.eq .scI false (.t 48) (.v (.int .i64 0))), (some (47, true))⟩, true, false, none, []⟩,
  ⟨⟨(some 50), (.pick (.t 47) (.t 49) (.v (.bool false))), none⟩, true, false, none, []⟩,
  ⟨⟨(some 51), (.mv (.t 50)), none⟩, true, false, none, []⟩,
  ⟨⟨(some 52), (.mv (.t 4)), (some (51, true))⟩, true, false, none, []⟩,
  ⟨⟨(some 53), (.mv (.t 1)), (some (51, true))⟩, true, false, none, []⟩,
  ⟨⟨(some 54), (.call F_ref01_Same [(.sc, (.t 52)), (.sc, (.t 53))]), (some (51, true))⟩, false, false, none, []⟩,
  ⟨⟨(some 55), (.pick (.t 51) (.t 54) (.v (.bool false))), none⟩, true, false, none, []⟩,
  ⟨⟨(some 56), (.mv (.t 55)), none⟩, true, false, none, []⟩,
  ⟨⟨(some 57), (.mv (.t 7)), (some (56, true))⟩, true, false, none, []⟩,
  ⟨⟨(some 58), (.eq .scI false (.t 57) (.v (.int .i64 5))), (some (56, true))⟩, true, false, none, []⟩,
  ⟨⟨(some 59), (.pick (.t 56) (.t 58) (.v (.bool false))), none⟩, true, false, none, []⟩,
  ⟨⟨(some 60), (.mv (.t 59)), none⟩, true, false, none, []⟩,
  ⟨⟨(some 61), (.mv (.t 9)), (some (60, true))⟩, true, false, none, []⟩,
  ⟨⟨(some 62), (.eq .scI false (.t 61) (.v (.int .i64 1))), (some (60, true))⟩, true, false, none, []⟩,
  ⟨⟨(some 63), (.pick (.t 60) (.t 62) (.v (.bool false))), none⟩, true, false, none, []⟩,
  ⟨⟨(some 64), (.mv (.t 63)), none⟩, true, false, none, []⟩,
  ⟨⟨(some 65), (.call F_chunk_Check [(.sc, (.v .nilS))]), (some (64, true))⟩, false, false, none, []⟩,
  ⟨⟨(some 66), (.eq .scI false (.t 65) (.v (.int .i64 1))), (some (64, true))⟩, true, false, none, []⟩,
  ⟨⟨(some 67), (.pick (.t 64) (.t 66) (.v (.bool false))), none⟩, true, false, none, []⟩,
  ⟨⟨(some 68), (.mv (.t 67)), none⟩, true, false, none, []⟩,
  ⟨⟨(some 69), (.call F_chunk_Count [(.sc, (.v (.int .i64 257)))]), (some (68, true))⟩, false, false, none, []⟩,
  ⟨⟨(some 70), (.eq .scI false (.t 69) (.v (.int .i64 2))), (some (68, true))⟩, true, false, none, []⟩,
  ⟨⟨(some 71), (.pick (.t 68) (.t 70) (.v (.bool false))), none⟩, true, false, none, []⟩,
  ⟨⟨(some 72), (.mv (.t 71)), none⟩, true, false, none, []⟩,
  ⟨⟨(some 73), (.call F_chunk_Count [(.sc, (.v (.int .i64 0)))]), (some (72, true))⟩, false, false, none, []⟩,
  ⟨⟨(some 74), (.eq .scI false (.t 73) (.v (.int .i64 0))), (some (72, true))⟩, true, false, none, []⟩,
  ⟨⟨(some 75), (.pick (.t 72) (.t 74) (.v (.bool false))), none⟩, true, false, none, []⟩,
  ⟨⟨(some 76), (.mv (.t 75)), none⟩, true, false, none, []⟩,
  ⟨⟨(some 77), (.call F_chunk_Part [(.sc, (.v (.int .i64 300))), (.sc, (.v (.int .i64 1)))]), (some (76, true))⟩, false, false, none, []⟩,
  ⟨⟨(some 78), (.eq .scI false (.t 77) (.v (.int .i64 44))), (some (76, true))⟩, true, false, none, []⟩,
  ⟨⟨(some 79), (.pick (.t 76) (.t 78) (.v (.bool false))), none⟩, true, false, none, []⟩,
  ⟨⟨(some 80), (.mv (.t 79)), none⟩, true, false, none, []⟩,
  ⟨⟨(some 81), (.call F_chunk_Part [(.sc, (.v (.int .i64 300))), (.sc, (.v (.int .i64 2)))]), (some (80, true))⟩, false, false, none, []⟩,
  ⟨⟨(some 82), (.eq .scI false (.t 81) (.v (.int .i64 0))), (some (80, true))⟩, true, false, none, []⟩,
  ⟨⟨(some 83), (.pick (.t 80) (.t 82) (.v (.bool false))), none⟩, true, false, none, []⟩,
  ⟨⟨(some 84), (.mv (.t 83)), none⟩, true, false, none, []⟩,
  ⟨⟨(some 85), (.mv (.t 1)), (some (84, true))⟩, true, false, none, []⟩,
  ⟨⟨(some 87), (.mv (.t 1)), (some (84, true))⟩, true, false, none, []⟩,
  ⟨⟨(some 86), (.call F_chunk_Text [(.sc, (.t 85))]), (some (84, true))⟩, false, false, none, []⟩,
  ⟨⟨(some 88), (.call F_chunk_Addresses [(.sc, (.t 87))]), (some (84, true))⟩, false, false, none, []⟩,
  ⟨⟨(some 89), (.call F_chunk_Of [(.sc, (.v (.int .i64 300))), (.sc, (.t 88))]), (some (84, true))⟩, false, false, none, []⟩,
  ⟨⟨(some 90), (.eq (.ia 32) false (.t 86) (.t 89)), (some (84, true))⟩, true, false, none, []⟩,
  ⟨⟨(some 91), (.pick (.t 84) (.t 90) (.v (.bool false))), none⟩, true, false, none, []⟩,
  ⟨⟨(some 92), (.mv (.t 91)), none⟩, true, false, none, []⟩,
  ⟨⟨(some 93), (.mv (.t 2)), (some (92, true))⟩, true, false, none, []⟩,
  ⟨⟨(some 94), (.idx 1 (.t 93) (.v (.int .i64 0))), (some (92, true))⟩, true, false, none, []⟩,
  ⟨⟨(some 95), (.load .sc 1 (.t 94)), (some (92, true))⟩, true, false, none, []⟩,
  ⟨⟨(some 97), (.mv (.t 2)), (some (92, true))⟩, true, false, none, []⟩,
  ⟨⟨(some 98), (.idx 1 (.t 97) (.v (.int .i64 1))), (some (92, true))⟩, true, false, none, []⟩,
  ⟨⟨(some 99), (.load .sc 1 (.t 98)), (some (92, true))⟩, true, false, none, []⟩,
  ⟨⟨(some 96), (.call F_chunk_Address [(.sc, (.t 95))]), (some (92, true))⟩, false, true, (some [98, 97]), []⟩,
  ⟨⟨(some 100), (.call F_chunk_Address [(.sc, (.t 99))]), (some (92, true))⟩, false, false, none, []⟩,
  ⟨⟨(some 101), (.eq (.ia 32) true (.t 96) (.t 100)), (some (92, true))⟩, true, false, none, []⟩,
  ⟨⟨(some 102), (.pick (.t 92) (.t 101) (.v (.bool false))), none⟩, true, false, none, []⟩,
  ⟨⟨(some 0), (.mv (.t 102)), none⟩, true, false, none, []⟩]
def a_law13_works : AFunc := ⟨[(.tmp 0)], (.seq (.region q_law13_works_0) (.seq (.region q_law13_works_1) (.seq (.region q_law13_works_2) (.seq (.region q_law13_works_3) (.seq (.seq (.region q_law13_works_4) (.cond (.t 17) (.seq (.region q_law13_works_5) .ret) .skip)) (.seq (.regionD q_law13_works_6) (.seq (.region q_law13_works_7) (.seq (.region q_law13_works_8) (.seq (.region q_law13_works_9) (.seq (.regionD q_law13_works_10) .ret))))))))))⟩


theorem c_chunk_Split : trF Try.prog Try.f40 = some a_chunk_Split := by kernel_rfl
theorem g_chunk_Split : Try.prog.funcs[40]? = some Try.f40 := by kernel_rfl
theorem i_chunk_Split {args : List AV} {A : Heap} {Ko : AOut → Heap → Prop} (hn : args.length ≤ 15)
    (h : ∀ R : APost, (∀ e env A, fpost a_chunk_Split.res Ko e env A → R e env A) → X Try.prog R a_chunk_Split.body .done (env0 args) A) : SimX Try.prog F_chunk_Split args A Ko :=
  X_intro g_chunk_Split c_chunk_Split (by rw [Try.ntmps40]; exact hn) h
theorem v_chunk_Split {args : List AV} {v : AV} (hn : args.length ≤ 15) (h : X Try.prog (fin a_chunk_Split.res v) a_chunk_Split.body .done (env0 args) H0) : Gives Try.prog F_chunk_Split args v :=
  Gives_intro g_chunk_Split c_chunk_Split (by rw [Try.ntmps40]; exact hn) h
theorem e_chunk_Split {args : List AV} {Q : AOut → Prop} (hn : args.length ≤ 15) (h : X Try.prog (finE a_chunk_Split.res Q) a_chunk_Split.body .done (env0 args) H0) : Fins Try.prog F_chunk_Split args Q :=
  Fins_intro g_chunk_Split c_chunk_Split (by rw [Try.ntmps40]; exact hn) h
theorem j_chunk_Split {args : List AV} {A : Heap} {K Kp : AV → Heap → Prop} (hn : args.length ≤ 15) (h : X Try.prog (inl a_chunk_Split.res K Kp) a_chunk_Split.body .done (env0 args) A) : SimX Try.prog F_chunk_Split args A (outK K Kp) :=
  X_inl g_chunk_Split c_chunk_Split (by rw [Try.ntmps40]; exact hn) h
theorem d_chunk_Split {args : List AV} {A : Heap} {Ko : AOut → Heap → Prop} (hn : args.length ≤ 15) (hrf : AVL.Func.hasRF Try.f40 = false)
    (h : ∀ R : APost, (∀ e env A, fpost a_chunk_Split.res Ko e env A → R e env A) → X Try.prog R a_chunk_Split.body .done (env0 args) A) : SimD Try.prog F_chunk_Split args A Ko :=
  X_introD g_chunk_Split c_chunk_Split (by rw [Try.ntmps40]; exact hn) hrf h
@[simp] theorem k_chunk_Split : callable Try.prog F_chunk_Split = true := by kernel_rfl
theorem rd_chunk_Split_0 {g : Nat} {en vs : List AV} {A : Heap} {K Kp : AV → Heap → Prop} (hA : A g = some (.lp en [8, 9] (rfA Try.f40 0) (rfB Try.f40 0) .ready)) (hn : en.length = 15) (hv : vs.length = 2)
    (h : X Try.prog (rdA Try.prog g en [8, 9] (rfA Try.f40 0) (rfB Try.f40 0) rb_chunk_Split_0 K) ra_chunk_Split_0 .done (roundEnv en [8, 9] vs) A) : SimR Try.prog g vs A (outK K Kp) :=
  X_round (n := 15) hA (by kernel_rfl) (by kernel_rfl) hn (by decide) hv (by kernel_rfl) (by kernel_rfl) h
theorem c_chunk_Check : trF Try.prog Try.f42 = some a_chunk_Check := by kernel_rfl
theorem g_chunk_Check : Try.prog.funcs[42]? = some Try.f42 := by kernel_rfl
theorem i_chunk_Check {args : List AV} {A : Heap} {Ko : AOut → Heap → Prop} (hn : args.length ≤ 11)
    (h : ∀ R : APost, (∀ e env A, fpost a_chunk_Check.res Ko e env A → R e env A) → X Try.prog R a_chunk_Check.body .done (env0 args) A) : SimX Try.prog F_chunk_Check args A Ko :=
  X_intro g_chunk_Check c_chunk_Check (by rw [Try.ntmps42]; exact hn) h
theorem v_chunk_Check {args : List AV} {v : AV} (hn : args.length ≤ 11) (h : X Try.prog (fin a_chunk_Check.res v) a_chunk_Check.body .done (env0 args) H0) : Gives Try.prog F_chunk_Check args v :=
  Gives_intro g_chunk_Check c_chunk_Check (by rw [Try.ntmps42]; exact hn) h
theorem e_chunk_Check {args : List AV} {Q : AOut → Prop} (hn : args.length ≤ 11) (h : X Try.prog (finE a_chunk_Check.res Q) a_chunk_Check.body .done (env0 args) H0) : Fins Try.prog F_chunk_Check args Q :=
  Fins_intro g_chunk_Check c_chunk_Check (by rw [Try.ntmps42]; exact hn) h
theorem j_chunk_Check {args : List AV} {A : Heap} {K Kp : AV → Heap → Prop} (hn : args.length ≤ 11) (h : X Try.prog (inl a_chunk_Check.res K Kp) a_chunk_Check.body .done (env0 args) A) : SimX Try.prog F_chunk_Check args A (outK K Kp) :=
  X_inl g_chunk_Check c_chunk_Check (by rw [Try.ntmps42]; exact hn) h
theorem d_chunk_Check {args : List AV} {A : Heap} {Ko : AOut → Heap → Prop} (hn : args.length ≤ 11) (hrf : AVL.Func.hasRF Try.f42 = false)
    (h : ∀ R : APost, (∀ e env A, fpost a_chunk_Check.res Ko e env A → R e env A) → X Try.prog R a_chunk_Check.body .done (env0 args) A) : SimD Try.prog F_chunk_Check args A Ko :=
  X_introD g_chunk_Check c_chunk_Check (by rw [Try.ntmps42]; exact hn) hrf h
@[simp] theorem k_chunk_Check : callable Try.prog F_chunk_Check = true := by kernel_rfl
theorem c_chunk_Count : trF Try.prog Try.f44 = some a_chunk_Count := by kernel_rfl
theorem g_chunk_Count : Try.prog.funcs[44]? = some Try.f44 := by kernel_rfl
theorem i_chunk_Count {args : List AV} {A : Heap} {Ko : AOut → Heap → Prop} (hn : args.length ≤ 9)
    (h : ∀ R : APost, (∀ e env A, fpost a_chunk_Count.res Ko e env A → R e env A) → X Try.prog R a_chunk_Count.body .done (env0 args) A) : SimX Try.prog F_chunk_Count args A Ko :=
  X_intro g_chunk_Count c_chunk_Count (by rw [Try.ntmps44]; exact hn) h
theorem v_chunk_Count {args : List AV} {v : AV} (hn : args.length ≤ 9) (h : X Try.prog (fin a_chunk_Count.res v) a_chunk_Count.body .done (env0 args) H0) : Gives Try.prog F_chunk_Count args v :=
  Gives_intro g_chunk_Count c_chunk_Count (by rw [Try.ntmps44]; exact hn) h
theorem e_chunk_Count {args : List AV} {Q : AOut → Prop} (hn : args.length ≤ 9) (h : X Try.prog (finE a_chunk_Count.res Q) a_chunk_Count.body .done (env0 args) H0) : Fins Try.prog F_chunk_Count args Q :=
  Fins_intro g_chunk_Count c_chunk_Count (by rw [Try.ntmps44]; exact hn) h
theorem j_chunk_Count {args : List AV} {A : Heap} {K Kp : AV → Heap → Prop} (hn : args.length ≤ 9) (h : X Try.prog (inl a_chunk_Count.res K Kp) a_chunk_Count.body .done (env0 args) A) : SimX Try.prog F_chunk_Count args A (outK K Kp) :=
  X_inl g_chunk_Count c_chunk_Count (by rw [Try.ntmps44]; exact hn) h
theorem d_chunk_Count {args : List AV} {A : Heap} {Ko : AOut → Heap → Prop} (hn : args.length ≤ 9) (hrf : AVL.Func.hasRF Try.f44 = false)
    (h : ∀ R : APost, (∀ e env A, fpost a_chunk_Count.res Ko e env A → R e env A) → X Try.prog R a_chunk_Count.body .done (env0 args) A) : SimD Try.prog F_chunk_Count args A Ko :=
  X_introD g_chunk_Count c_chunk_Count (by rw [Try.ntmps44]; exact hn) hrf h
@[simp] theorem k_chunk_Count : callable Try.prog F_chunk_Count = true := by kernel_rfl
theorem c_chunk_Part : trF Try.prog Try.f45 = some a_chunk_Part := by kernel_rfl
theorem g_chunk_Part : Try.prog.funcs[45]? = some Try.f45 := by kernel_rfl
theorem i_chunk_Part {args : List AV} {A : Heap} {Ko : AOut → Heap → Prop} (hn : args.length ≤ 18)
    (h : ∀ R : APost, (∀ e env A, fpost a_chunk_Part.res Ko e env A → R e env A) → X Try.prog R a_chunk_Part.body .done (env0 args) A) : SimX Try.prog F_chunk_Part args A Ko :=
  X_intro g_chunk_Part c_chunk_Part (by rw [Try.ntmps45]; exact hn) h
theorem v_chunk_Part {args : List AV} {v : AV} (hn : args.length ≤ 18) (h : X Try.prog (fin a_chunk_Part.res v) a_chunk_Part.body .done (env0 args) H0) : Gives Try.prog F_chunk_Part args v :=
  Gives_intro g_chunk_Part c_chunk_Part (by rw [Try.ntmps45]; exact hn) h
theorem e_chunk_Part {args : List AV} {Q : AOut → Prop} (hn : args.length ≤ 18) (h : X Try.prog (finE a_chunk_Part.res Q) a_chunk_Part.body .done (env0 args) H0) : Fins Try.prog F_chunk_Part args Q :=
  Fins_intro g_chunk_Part c_chunk_Part (by rw [Try.ntmps45]; exact hn) h
theorem j_chunk_Part {args : List AV} {A : Heap} {K Kp : AV → Heap → Prop} (hn : args.length ≤ 18) (h : X Try.prog (inl a_chunk_Part.res K Kp) a_chunk_Part.body .done (env0 args) A) : SimX Try.prog F_chunk_Part args A (outK K Kp) :=
  X_inl g_chunk_Part c_chunk_Part (by rw [Try.ntmps45]; exact hn) h
theorem d_chunk_Part {args : List AV} {A : Heap} {Ko : AOut → Heap → Prop} (hn : args.length ≤ 18) (hrf : AVL.Func.hasRF Try.f45 = false)
    (h : ∀ R : APost, (∀ e env A, fpost a_chunk_Part.res Ko e env A → R e env A) → X Try.prog R a_chunk_Part.body .done (env0 args) A) : SimD Try.prog F_chunk_Part args A Ko :=
  X_introD g_chunk_Part c_chunk_Part (by rw [Try.ntmps45]; exact hn) hrf h
@[simp] theorem k_chunk_Part : callable Try.prog F_chunk_Part = true := by kernel_rfl
theorem c_chunk_All : trF Try.prog Try.f46 = some a_chunk_All := by kernel_rfl
theorem g_chunk_All : Try.prog.funcs[46]? = some Try.f46 := by kernel_rfl
theorem i_chunk_All {args : List AV} {A : Heap} {Ko : AOut → Heap → Prop} (hn : args.length ≤ 4)
    (h : ∀ R : APost, (∀ e env A, fpost a_chunk_All.res Ko e env A → R e env A) → X Try.prog R a_chunk_All.body .done (env0 args) A) : SimX Try.prog F_chunk_All args A Ko :=
  X_intro g_chunk_All c_chunk_All (by rw [Try.ntmps46]; exact hn) h
theorem v_chunk_All {args : List AV} {v : AV} (hn : args.length ≤ 4) (h : X Try.prog (fin a_chunk_All.res v) a_chunk_All.body .done (env0 args) H0) : Gives Try.prog F_chunk_All args v :=
  Gives_intro g_chunk_All c_chunk_All (by rw [Try.ntmps46]; exact hn) h
theorem e_chunk_All {args : List AV} {Q : AOut → Prop} (hn : args.length ≤ 4) (h : X Try.prog (finE a_chunk_All.res Q) a_chunk_All.body .done (env0 args) H0) : Fins Try.prog F_chunk_All args Q :=
  Fins_intro g_chunk_All c_chunk_All (by rw [Try.ntmps46]; exact hn) h
theorem j_chunk_All {args : List AV} {A : Heap} {K Kp : AV → Heap → Prop} (hn : args.length ≤ 4) (h : X Try.prog (inl a_chunk_All.res K Kp) a_chunk_All.body .done (env0 args) A) : SimX Try.prog F_chunk_All args A (outK K Kp) :=
  X_inl g_chunk_All c_chunk_All (by rw [Try.ntmps46]; exact hn) h
theorem d_chunk_All {args : List AV} {A : Heap} {Ko : AOut → Heap → Prop} (hn : args.length ≤ 4) (hrf : AVL.Func.hasRF Try.f46 = false)
    (h : ∀ R : APost, (∀ e env A, fpost a_chunk_All.res Ko e env A → R e env A) → X Try.prog R a_chunk_All.body .done (env0 args) A) : SimD Try.prog F_chunk_All args A Ko :=
  X_introD g_chunk_All c_chunk_All (by rw [Try.ntmps46]; exact hn) hrf h
@[simp] theorem k_chunk_All : callable Try.prog F_chunk_All = true := by kernel_rfl
theorem c_chunk_Addresses : trF Try.prog Try.f47 = some a_chunk_Addresses := by kernel_rfl
theorem g_chunk_Addresses : Try.prog.funcs[47]? = some Try.f47 := by kernel_rfl
theorem i_chunk_Addresses {args : List AV} {A : Heap} {Ko : AOut → Heap → Prop} (hn : args.length ≤ 16)
    (h : ∀ R : APost, (∀ e env A, fpost a_chunk_Addresses.res Ko e env A → R e env A) → X Try.prog R a_chunk_Addresses.body .done (env0 args) A) : SimX Try.prog F_chunk_Addresses args A Ko :=
  X_intro g_chunk_Addresses c_chunk_Addresses (by rw [Try.ntmps47]; exact hn) h
theorem v_chunk_Addresses {args : List AV} {v : AV} (hn : args.length ≤ 16) (h : X Try.prog (fin a_chunk_Addresses.res v) a_chunk_Addresses.body .done (env0 args) H0) : Gives Try.prog F_chunk_Addresses args v :=
  Gives_intro g_chunk_Addresses c_chunk_Addresses (by rw [Try.ntmps47]; exact hn) h
theorem e_chunk_Addresses {args : List AV} {Q : AOut → Prop} (hn : args.length ≤ 16) (h : X Try.prog (finE a_chunk_Addresses.res Q) a_chunk_Addresses.body .done (env0 args) H0) : Fins Try.prog F_chunk_Addresses args Q :=
  Fins_intro g_chunk_Addresses c_chunk_Addresses (by rw [Try.ntmps47]; exact hn) h
theorem j_chunk_Addresses {args : List AV} {A : Heap} {K Kp : AV → Heap → Prop} (hn : args.length ≤ 16) (h : X Try.prog (inl a_chunk_Addresses.res K Kp) a_chunk_Addresses.body .done (env0 args) A) : SimX Try.prog F_chunk_Addresses args A (outK K Kp) :=
  X_inl g_chunk_Addresses c_chunk_Addresses (by rw [Try.ntmps47]; exact hn) h
theorem d_chunk_Addresses {args : List AV} {A : Heap} {Ko : AOut → Heap → Prop} (hn : args.length ≤ 16) (hrf : AVL.Func.hasRF Try.f47 = false)
    (h : ∀ R : APost, (∀ e env A, fpost a_chunk_Addresses.res Ko e env A → R e env A) → X Try.prog R a_chunk_Addresses.body .done (env0 args) A) : SimD Try.prog F_chunk_Addresses args A Ko :=
  X_introD g_chunk_Addresses c_chunk_Addresses (by rw [Try.ntmps47]; exact hn) hrf h
@[simp] theorem k_chunk_Addresses : callable Try.prog F_chunk_Addresses = true := by kernel_rfl
theorem rd_chunk_Addresses_0 {g : Nat} {en vs : List AV} {A : Heap} {K Kp : AV → Heap → Prop} (hA : A g = some (.lp en [8, 9] (rfA Try.f47 0) (rfB Try.f47 0) .ready)) (hn : en.length = 16) (hv : vs.length = 2)
    (h : X Try.prog (rdA Try.prog g en [8, 9] (rfA Try.f47 0) (rfB Try.f47 0) rb_chunk_Addresses_0 K) ra_chunk_Addresses_0 .done (roundEnv en [8, 9] vs) A) : SimR Try.prog g vs A (outK K Kp) :=
  X_round (n := 16) hA (by kernel_rfl) (by kernel_rfl) hn (by decide) hv (by kernel_rfl) (by kernel_rfl) h
theorem c_chunk_Address : trF Try.prog Try.f49 = some a_chunk_Address := by kernel_rfl
theorem g_chunk_Address : Try.prog.funcs[49]? = some Try.f49 := by kernel_rfl
theorem i_chunk_Address {args : List AV} {A : Heap} {Ko : AOut → Heap → Prop} (hn : args.length ≤ 8)
    (h : ∀ R : APost, (∀ e env A, fpost a_chunk_Address.res Ko e env A → R e env A) → X Try.prog R a_chunk_Address.body .done (env0 args) A) : SimX Try.prog F_chunk_Address args A Ko :=
  X_intro g_chunk_Address c_chunk_Address (by rw [Try.ntmps49]; exact hn) h
theorem v_chunk_Address {args : List AV} {v : AV} (hn : args.length ≤ 8) (h : X Try.prog (fin a_chunk_Address.res v) a_chunk_Address.body .done (env0 args) H0) : Gives Try.prog F_chunk_Address args v :=
  Gives_intro g_chunk_Address c_chunk_Address (by rw [Try.ntmps49]; exact hn) h
theorem e_chunk_Address {args : List AV} {Q : AOut → Prop} (hn : args.length ≤ 8) (h : X Try.prog (finE a_chunk_Address.res Q) a_chunk_Address.body .done (env0 args) H0) : Fins Try.prog F_chunk_Address args Q :=
  Fins_intro g_chunk_Address c_chunk_Address (by rw [Try.ntmps49]; exact hn) h
theorem j_chunk_Address {args : List AV} {A : Heap} {K Kp : AV → Heap → Prop} (hn : args.length ≤ 8) (h : X Try.prog (inl a_chunk_Address.res K Kp) a_chunk_Address.body .done (env0 args) A) : SimX Try.prog F_chunk_Address args A (outK K Kp) :=
  X_inl g_chunk_Address c_chunk_Address (by rw [Try.ntmps49]; exact hn) h
theorem d_chunk_Address {args : List AV} {A : Heap} {Ko : AOut → Heap → Prop} (hn : args.length ≤ 8) (hrf : AVL.Func.hasRF Try.f49 = false)
    (h : ∀ R : APost, (∀ e env A, fpost a_chunk_Address.res Ko e env A → R e env A) → X Try.prog R a_chunk_Address.body .done (env0 args) A) : SimD Try.prog F_chunk_Address args A Ko :=
  X_introD g_chunk_Address c_chunk_Address (by rw [Try.ntmps49]; exact hn) hrf h
@[simp] theorem k_chunk_Address : callable Try.prog F_chunk_Address = true := by kernel_rfl
theorem c_chunk_Text : trF Try.prog Try.f50 = some a_chunk_Text := by kernel_rfl
theorem g_chunk_Text : Try.prog.funcs[50]? = some Try.f50 := by kernel_rfl
theorem i_chunk_Text {args : List AV} {A : Heap} {Ko : AOut → Heap → Prop} (hn : args.length ≤ 8)
    (h : ∀ R : APost, (∀ e env A, fpost a_chunk_Text.res Ko e env A → R e env A) → X Try.prog R a_chunk_Text.body .done (env0 args) A) : SimX Try.prog F_chunk_Text args A Ko :=
  X_intro g_chunk_Text c_chunk_Text (by rw [Try.ntmps50]; exact hn) h
theorem v_chunk_Text {args : List AV} {v : AV} (hn : args.length ≤ 8) (h : X Try.prog (fin a_chunk_Text.res v) a_chunk_Text.body .done (env0 args) H0) : Gives Try.prog F_chunk_Text args v :=
  Gives_intro g_chunk_Text c_chunk_Text (by rw [Try.ntmps50]; exact hn) h
theorem e_chunk_Text {args : List AV} {Q : AOut → Prop} (hn : args.length ≤ 8) (h : X Try.prog (finE a_chunk_Text.res Q) a_chunk_Text.body .done (env0 args) H0) : Fins Try.prog F_chunk_Text args Q :=
  Fins_intro g_chunk_Text c_chunk_Text (by rw [Try.ntmps50]; exact hn) h
theorem j_chunk_Text {args : List AV} {A : Heap} {K Kp : AV → Heap → Prop} (hn : args.length ≤ 8) (h : X Try.prog (inl a_chunk_Text.res K Kp) a_chunk_Text.body .done (env0 args) A) : SimX Try.prog F_chunk_Text args A (outK K Kp) :=
  X_inl g_chunk_Text c_chunk_Text (by rw [Try.ntmps50]; exact hn) h
theorem d_chunk_Text {args : List AV} {A : Heap} {Ko : AOut → Heap → Prop} (hn : args.length ≤ 8) (hrf : AVL.Func.hasRF Try.f50 = false)
    (h : ∀ R : APost, (∀ e env A, fpost a_chunk_Text.res Ko e env A → R e env A) → X Try.prog R a_chunk_Text.body .done (env0 args) A) : SimD Try.prog F_chunk_Text args A Ko :=
  X_introD g_chunk_Text c_chunk_Text (by rw [Try.ntmps50]; exact hn) hrf h
@[simp] theorem k_chunk_Text : callable Try.prog F_chunk_Text = true := by kernel_rfl
theorem c_chunk_Of : trF Try.prog Try.f52 = some a_chunk_Of := by kernel_rfl
theorem g_chunk_Of : Try.prog.funcs[52]? = some Try.f52 := by kernel_rfl
theorem i_chunk_Of {args : List AV} {A : Heap} {Ko : AOut → Heap → Prop} (hn : args.length ≤ 30)
    (h : ∀ R : APost, (∀ e env A, fpost a_chunk_Of.res Ko e env A → R e env A) → X Try.prog R a_chunk_Of.body .done (env0 args) A) : SimX Try.prog F_chunk_Of args A Ko :=
  X_intro g_chunk_Of c_chunk_Of (by rw [Try.ntmps52]; exact hn) h
theorem v_chunk_Of {args : List AV} {v : AV} (hn : args.length ≤ 30) (h : X Try.prog (fin a_chunk_Of.res v) a_chunk_Of.body .done (env0 args) H0) : Gives Try.prog F_chunk_Of args v :=
  Gives_intro g_chunk_Of c_chunk_Of (by rw [Try.ntmps52]; exact hn) h
theorem e_chunk_Of {args : List AV} {Q : AOut → Prop} (hn : args.length ≤ 30) (h : X Try.prog (finE a_chunk_Of.res Q) a_chunk_Of.body .done (env0 args) H0) : Fins Try.prog F_chunk_Of args Q :=
  Fins_intro g_chunk_Of c_chunk_Of (by rw [Try.ntmps52]; exact hn) h
theorem j_chunk_Of {args : List AV} {A : Heap} {K Kp : AV → Heap → Prop} (hn : args.length ≤ 30) (h : X Try.prog (inl a_chunk_Of.res K Kp) a_chunk_Of.body .done (env0 args) A) : SimX Try.prog F_chunk_Of args A (outK K Kp) :=
  X_inl g_chunk_Of c_chunk_Of (by rw [Try.ntmps52]; exact hn) h
theorem d_chunk_Of {args : List AV} {A : Heap} {Ko : AOut → Heap → Prop} (hn : args.length ≤ 30) (hrf : AVL.Func.hasRF Try.f52 = false)
    (h : ∀ R : APost, (∀ e env A, fpost a_chunk_Of.res Ko e env A → R e env A) → X Try.prog R a_chunk_Of.body .done (env0 args) A) : SimD Try.prog F_chunk_Of args A Ko :=
  X_introD g_chunk_Of c_chunk_Of (by rw [Try.ntmps52]; exact hn) hrf h
@[simp] theorem k_chunk_Of : callable Try.prog F_chunk_Of = true := by kernel_rfl
theorem c_chunk_Sector : trF Try.prog Try.f53 = some a_chunk_Sector := by kernel_rfl
theorem g_chunk_Sector : Try.prog.funcs[53]? = some Try.f53 := by kernel_rfl
theorem i_chunk_Sector {args : List AV} {A : Heap} {Ko : AOut → Heap → Prop} (hn : args.length ≤ 5)
    (h : ∀ R : APost, (∀ e env A, fpost a_chunk_Sector.res Ko e env A → R e env A) → X Try.prog R a_chunk_Sector.body .done (env0 args) A) : SimX Try.prog F_chunk_Sector args A Ko :=
  X_intro g_chunk_Sector c_chunk_Sector (by rw [Try.ntmps53]; exact hn) h
theorem v_chunk_Sector {args : List AV} {v : AV} (hn : args.length ≤ 5) (h : X Try.prog (fin a_chunk_Sector.res v) a_chunk_Sector.body .done (env0 args) H0) : Gives Try.prog F_chunk_Sector args v :=
  Gives_intro g_chunk_Sector c_chunk_Sector (by rw [Try.ntmps53]; exact hn) h
theorem e_chunk_Sector {args : List AV} {Q : AOut → Prop} (hn : args.length ≤ 5) (h : X Try.prog (finE a_chunk_Sector.res Q) a_chunk_Sector.body .done (env0 args) H0) : Fins Try.prog F_chunk_Sector args Q :=
  Fins_intro g_chunk_Sector c_chunk_Sector (by rw [Try.ntmps53]; exact hn) h
theorem j_chunk_Sector {args : List AV} {A : Heap} {K Kp : AV → Heap → Prop} (hn : args.length ≤ 5) (h : X Try.prog (inl a_chunk_Sector.res K Kp) a_chunk_Sector.body .done (env0 args) A) : SimX Try.prog F_chunk_Sector args A (outK K Kp) :=
  X_inl g_chunk_Sector c_chunk_Sector (by rw [Try.ntmps53]; exact hn) h
theorem d_chunk_Sector {args : List AV} {A : Heap} {Ko : AOut → Heap → Prop} (hn : args.length ≤ 5) (hrf : AVL.Func.hasRF Try.f53 = false)
    (h : ∀ R : APost, (∀ e env A, fpost a_chunk_Sector.res Ko e env A → R e env A) → X Try.prog R a_chunk_Sector.body .done (env0 args) A) : SimD Try.prog F_chunk_Sector args A Ko :=
  X_introD g_chunk_Sector c_chunk_Sector (by rw [Try.ntmps53]; exact hn) hrf h
@[simp] theorem k_chunk_Sector : callable Try.prog F_chunk_Sector = true := by kernel_rfl
theorem c_chunk_Join : trF Try.prog Try.f54 = some a_chunk_Join := by kernel_rfl
theorem g_chunk_Join : Try.prog.funcs[54]? = some Try.f54 := by kernel_rfl
theorem i_chunk_Join {args : List AV} {A : Heap} {Ko : AOut → Heap → Prop} (hn : args.length ≤ 41)
    (h : ∀ R : APost, (∀ e env A, fpost a_chunk_Join.res Ko e env A → R e env A) → X Try.prog R a_chunk_Join.body .done (env0 args) A) : SimX Try.prog F_chunk_Join args A Ko :=
  X_intro g_chunk_Join c_chunk_Join (by rw [Try.ntmps54]; exact hn) h
theorem v_chunk_Join {args : List AV} {v : AV} (hn : args.length ≤ 41) (h : X Try.prog (fin a_chunk_Join.res v) a_chunk_Join.body .done (env0 args) H0) : Gives Try.prog F_chunk_Join args v :=
  Gives_intro g_chunk_Join c_chunk_Join (by rw [Try.ntmps54]; exact hn) h
theorem e_chunk_Join {args : List AV} {Q : AOut → Prop} (hn : args.length ≤ 41) (h : X Try.prog (finE a_chunk_Join.res Q) a_chunk_Join.body .done (env0 args) H0) : Fins Try.prog F_chunk_Join args Q :=
  Fins_intro g_chunk_Join c_chunk_Join (by rw [Try.ntmps54]; exact hn) h
theorem j_chunk_Join {args : List AV} {A : Heap} {K Kp : AV → Heap → Prop} (hn : args.length ≤ 41) (h : X Try.prog (inl a_chunk_Join.res K Kp) a_chunk_Join.body .done (env0 args) A) : SimX Try.prog F_chunk_Join args A (outK K Kp) :=
  X_inl g_chunk_Join c_chunk_Join (by rw [Try.ntmps54]; exact hn) h
theorem d_chunk_Join {args : List AV} {A : Heap} {Ko : AOut → Heap → Prop} (hn : args.length ≤ 41) (hrf : AVL.Func.hasRF Try.f54 = false)
    (h : ∀ R : APost, (∀ e env A, fpost a_chunk_Join.res Ko e env A → R e env A) → X Try.prog R a_chunk_Join.body .done (env0 args) A) : SimD Try.prog F_chunk_Join args A Ko :=
  X_introD g_chunk_Join c_chunk_Join (by rw [Try.ntmps54]; exact hn) hrf h
@[simp] theorem k_chunk_Join : callable Try.prog F_chunk_Join = true := by kernel_rfl
theorem c_chunk_All_1 : trF Try.prog Try.f90 = some a_chunk_All_1 := by kernel_rfl
theorem g_chunk_All_1 : Try.prog.funcs[90]? = some Try.f90 := by kernel_rfl
theorem i_chunk_All_1 {args : List AV} {A : Heap} {Ko : AOut → Heap → Prop} (hn : args.length ≤ 25)
    (h : ∀ R : APost, (∀ e env A, fpost a_chunk_All_1.res Ko e env A → R e env A) → X Try.prog R a_chunk_All_1.body .done (env0 args) A) : SimX Try.prog F_chunk_All_1 args A Ko :=
  X_intro g_chunk_All_1 c_chunk_All_1 (by rw [Try.ntmps90]; exact hn) h
theorem v_chunk_All_1 {args : List AV} {v : AV} (hn : args.length ≤ 25) (h : X Try.prog (fin a_chunk_All_1.res v) a_chunk_All_1.body .done (env0 args) H0) : Gives Try.prog F_chunk_All_1 args v :=
  Gives_intro g_chunk_All_1 c_chunk_All_1 (by rw [Try.ntmps90]; exact hn) h
theorem e_chunk_All_1 {args : List AV} {Q : AOut → Prop} (hn : args.length ≤ 25) (h : X Try.prog (finE a_chunk_All_1.res Q) a_chunk_All_1.body .done (env0 args) H0) : Fins Try.prog F_chunk_All_1 args Q :=
  Fins_intro g_chunk_All_1 c_chunk_All_1 (by rw [Try.ntmps90]; exact hn) h
theorem j_chunk_All_1 {args : List AV} {A : Heap} {K Kp : AV → Heap → Prop} (hn : args.length ≤ 25) (h : X Try.prog (inl a_chunk_All_1.res K Kp) a_chunk_All_1.body .done (env0 args) A) : SimX Try.prog F_chunk_All_1 args A (outK K Kp) :=
  X_inl g_chunk_All_1 c_chunk_All_1 (by rw [Try.ntmps90]; exact hn) h
theorem d_chunk_All_1 {args : List AV} {A : Heap} {Ko : AOut → Heap → Prop} (hn : args.length ≤ 25) (hrf : AVL.Func.hasRF Try.f90 = false)
    (h : ∀ R : APost, (∀ e env A, fpost a_chunk_All_1.res Ko e env A → R e env A) → X Try.prog R a_chunk_All_1.body .done (env0 args) A) : SimD Try.prog F_chunk_All_1 args A Ko :=
  X_introD g_chunk_All_1 c_chunk_All_1 (by rw [Try.ntmps90]; exact hn) hrf h
@[simp] theorem k_chunk_All_1 : callable Try.prog F_chunk_All_1 = true := by kernel_rfl
theorem c_ref13_Split : trF Try.prog Try.f41 = some a_ref13_Split := by kernel_rfl
theorem g_ref13_Split : Try.prog.funcs[41]? = some Try.f41 := by kernel_rfl
theorem i_ref13_Split {args : List AV} {A : Heap} {Ko : AOut → Heap → Prop} (hn : args.length ≤ 20)
    (h : ∀ R : APost, (∀ e env A, fpost a_ref13_Split.res Ko e env A → R e env A) → X Try.prog R a_ref13_Split.body .done (env0 args) A) : SimX Try.prog F_ref13_Split args A Ko :=
  X_intro g_ref13_Split c_ref13_Split (by rw [Try.ntmps41]; exact hn) h
theorem v_ref13_Split {args : List AV} {v : AV} (hn : args.length ≤ 20) (h : X Try.prog (fin a_ref13_Split.res v) a_ref13_Split.body .done (env0 args) H0) : Gives Try.prog F_ref13_Split args v :=
  Gives_intro g_ref13_Split c_ref13_Split (by rw [Try.ntmps41]; exact hn) h
theorem e_ref13_Split {args : List AV} {Q : AOut → Prop} (hn : args.length ≤ 20) (h : X Try.prog (finE a_ref13_Split.res Q) a_ref13_Split.body .done (env0 args) H0) : Fins Try.prog F_ref13_Split args Q :=
  Fins_intro g_ref13_Split c_ref13_Split (by rw [Try.ntmps41]; exact hn) h
theorem j_ref13_Split {args : List AV} {A : Heap} {K Kp : AV → Heap → Prop} (hn : args.length ≤ 20) (h : X Try.prog (inl a_ref13_Split.res K Kp) a_ref13_Split.body .done (env0 args) A) : SimX Try.prog F_ref13_Split args A (outK K Kp) :=
  X_inl g_ref13_Split c_ref13_Split (by rw [Try.ntmps41]; exact hn) h
theorem d_ref13_Split {args : List AV} {A : Heap} {Ko : AOut → Heap → Prop} (hn : args.length ≤ 20) (hrf : AVL.Func.hasRF Try.f41 = false)
    (h : ∀ R : APost, (∀ e env A, fpost a_ref13_Split.res Ko e env A → R e env A) → X Try.prog R a_ref13_Split.body .done (env0 args) A) : SimD Try.prog F_ref13_Split args A Ko :=
  X_introD g_ref13_Split c_ref13_Split (by rw [Try.ntmps41]; exact hn) hrf h
@[simp] theorem k_ref13_Split : callable Try.prog F_ref13_Split = true := by kernel_rfl
theorem c_ref13_Check : trF Try.prog Try.f43 = some a_ref13_Check := by kernel_rfl
theorem g_ref13_Check : Try.prog.funcs[43]? = some Try.f43 := by kernel_rfl
theorem i_ref13_Check {args : List AV} {A : Heap} {Ko : AOut → Heap → Prop} (hn : args.length ≤ 9)
    (h : ∀ R : APost, (∀ e env A, fpost a_ref13_Check.res Ko e env A → R e env A) → X Try.prog R a_ref13_Check.body .done (env0 args) A) : SimX Try.prog F_ref13_Check args A Ko :=
  X_intro g_ref13_Check c_ref13_Check (by rw [Try.ntmps43]; exact hn) h
theorem v_ref13_Check {args : List AV} {v : AV} (hn : args.length ≤ 9) (h : X Try.prog (fin a_ref13_Check.res v) a_ref13_Check.body .done (env0 args) H0) : Gives Try.prog F_ref13_Check args v :=
  Gives_intro g_ref13_Check c_ref13_Check (by rw [Try.ntmps43]; exact hn) h
theorem e_ref13_Check {args : List AV} {Q : AOut → Prop} (hn : args.length ≤ 9) (h : X Try.prog (finE a_ref13_Check.res Q) a_ref13_Check.body .done (env0 args) H0) : Fins Try.prog F_ref13_Check args Q :=
  Fins_intro g_ref13_Check c_ref13_Check (by rw [Try.ntmps43]; exact hn) h
theorem j_ref13_Check {args : List AV} {A : Heap} {K Kp : AV → Heap → Prop} (hn : args.length ≤ 9) (h : X Try.prog (inl a_ref13_Check.res K Kp) a_ref13_Check.body .done (env0 args) A) : SimX Try.prog F_ref13_Check args A (outK K Kp) :=
  X_inl g_ref13_Check c_ref13_Check (by rw [Try.ntmps43]; exact hn) h
theorem d_ref13_Check {args : List AV} {A : Heap} {Ko : AOut → Heap → Prop} (hn : args.length ≤ 9) (hrf : AVL.Func.hasRF Try.f43 = false)
    (h : ∀ R : APost, (∀ e env A, fpost a_ref13_Check.res Ko e env A → R e env A) → X Try.prog R a_ref13_Check.body .done (env0 args) A) : SimD Try.prog F_ref13_Check args A Ko :=
  X_introD g_ref13_Check c_ref13_Check (by rw [Try.ntmps43]; exact hn) hrf h
@[simp] theorem k_ref13_Check : callable Try.prog F_ref13_Check = true := by kernel_rfl
theorem c_ref13_Address : trF Try.prog Try.f48 = some a_ref13_Address := by kernel_rfl
theorem g_ref13_Address : Try.prog.funcs[48]? = some Try.f48 := by kernel_rfl
theorem i_ref13_Address {args : List AV} {A : Heap} {Ko : AOut → Heap → Prop} (hn : args.length ≤ 6)
    (h : ∀ R : APost, (∀ e env A, fpost a_ref13_Address.res Ko e env A → R e env A) → X Try.prog R a_ref13_Address.body .done (env0 args) A) : SimX Try.prog F_ref13_Address args A Ko :=
  X_intro g_ref13_Address c_ref13_Address (by rw [Try.ntmps48]; exact hn) h
theorem v_ref13_Address {args : List AV} {v : AV} (hn : args.length ≤ 6) (h : X Try.prog (fin a_ref13_Address.res v) a_ref13_Address.body .done (env0 args) H0) : Gives Try.prog F_ref13_Address args v :=
  Gives_intro g_ref13_Address c_ref13_Address (by rw [Try.ntmps48]; exact hn) h
theorem e_ref13_Address {args : List AV} {Q : AOut → Prop} (hn : args.length ≤ 6) (h : X Try.prog (finE a_ref13_Address.res Q) a_ref13_Address.body .done (env0 args) H0) : Fins Try.prog F_ref13_Address args Q :=
  Fins_intro g_ref13_Address c_ref13_Address (by rw [Try.ntmps48]; exact hn) h
theorem j_ref13_Address {args : List AV} {A : Heap} {K Kp : AV → Heap → Prop} (hn : args.length ≤ 6) (h : X Try.prog (inl a_ref13_Address.res K Kp) a_ref13_Address.body .done (env0 args) A) : SimX Try.prog F_ref13_Address args A (outK K Kp) :=
  X_inl g_ref13_Address c_ref13_Address (by rw [Try.ntmps48]; exact hn) h
theorem d_ref13_Address {args : List AV} {A : Heap} {Ko : AOut → Heap → Prop} (hn : args.length ≤ 6) (hrf : AVL.Func.hasRF Try.f48 = false)
    (h : ∀ R : APost, (∀ e env A, fpost a_ref13_Address.res Ko e env A → R e env A) → X Try.prog R a_ref13_Address.body .done (env0 args) A) : SimD Try.prog F_ref13_Address args A Ko :=
  X_introD g_ref13_Address c_ref13_Address (by rw [Try.ntmps48]; exact hn) hrf h
@[simp] theorem k_ref13_Address : callable Try.prog F_ref13_Address = true := by kernel_rfl
theorem c_ref13_Text : trF Try.prog Try.f51 = some a_ref13_Text := by kernel_rfl
theorem g_ref13_Text : Try.prog.funcs[51]? = some Try.f51 := by kernel_rfl
theorem i_ref13_Text {args : List AV} {A : Heap} {Ko : AOut → Heap → Prop} (hn : args.length ≤ 6)
    (h : ∀ R : APost, (∀ e env A, fpost a_ref13_Text.res Ko e env A → R e env A) → X Try.prog R a_ref13_Text.body .done (env0 args) A) : SimX Try.prog F_ref13_Text args A Ko :=
  X_intro g_ref13_Text c_ref13_Text (by rw [Try.ntmps51]; exact hn) h
theorem v_ref13_Text {args : List AV} {v : AV} (hn : args.length ≤ 6) (h : X Try.prog (fin a_ref13_Text.res v) a_ref13_Text.body .done (env0 args) H0) : Gives Try.prog F_ref13_Text args v :=
  Gives_intro g_ref13_Text c_ref13_Text (by rw [Try.ntmps51]; exact hn) h
theorem e_ref13_Text {args : List AV} {Q : AOut → Prop} (hn : args.length ≤ 6) (h : X Try.prog (finE a_ref13_Text.res Q) a_ref13_Text.body .done (env0 args) H0) : Fins Try.prog F_ref13_Text args Q :=
  Fins_intro g_ref13_Text c_ref13_Text (by rw [Try.ntmps51]; exact hn) h
theorem j_ref13_Text {args : List AV} {A : Heap} {K Kp : AV → Heap → Prop} (hn : args.length ≤ 6) (h : X Try.prog (inl a_ref13_Text.res K Kp) a_ref13_Text.body .done (env0 args) A) : SimX Try.prog F_ref13_Text args A (outK K Kp) :=
  X_inl g_ref13_Text c_ref13_Text (by rw [Try.ntmps51]; exact hn) h
theorem d_ref13_Text {args : List AV} {A : Heap} {Ko : AOut → Heap → Prop} (hn : args.length ≤ 6) (hrf : AVL.Func.hasRF Try.f51 = false)
    (h : ∀ R : APost, (∀ e env A, fpost a_ref13_Text.res Ko e env A → R e env A) → X Try.prog R a_ref13_Text.body .done (env0 args) A) : SimD Try.prog F_ref13_Text args A Ko :=
  X_introD g_ref13_Text c_ref13_Text (by rw [Try.ntmps51]; exact hn) hrf h
@[simp] theorem k_ref13_Text : callable Try.prog F_ref13_Text = true := by kernel_rfl
theorem c_ref13_Join : trF Try.prog Try.f55 = some a_ref13_Join := by kernel_rfl
theorem g_ref13_Join : Try.prog.funcs[55]? = some Try.f55 := by kernel_rfl
theorem i_ref13_Join {args : List AV} {A : Heap} {Ko : AOut → Heap → Prop} (hn : args.length ≤ 48)
    (h : ∀ R : APost, (∀ e env A, fpost a_ref13_Join.res Ko e env A → R e env A) → X Try.prog R a_ref13_Join.body .done (env0 args) A) : SimX Try.prog F_ref13_Join args A Ko :=
  X_intro g_ref13_Join c_ref13_Join (by rw [Try.ntmps55]; exact hn) h
theorem v_ref13_Join {args : List AV} {v : AV} (hn : args.length ≤ 48) (h : X Try.prog (fin a_ref13_Join.res v) a_ref13_Join.body .done (env0 args) H0) : Gives Try.prog F_ref13_Join args v :=
  Gives_intro g_ref13_Join c_ref13_Join (by rw [Try.ntmps55]; exact hn) h
theorem e_ref13_Join {args : List AV} {Q : AOut → Prop} (hn : args.length ≤ 48) (h : X Try.prog (finE a_ref13_Join.res Q) a_ref13_Join.body .done (env0 args) H0) : Fins Try.prog F_ref13_Join args Q :=
  Fins_intro g_ref13_Join c_ref13_Join (by rw [Try.ntmps55]; exact hn) h
theorem j_ref13_Join {args : List AV} {A : Heap} {K Kp : AV → Heap → Prop} (hn : args.length ≤ 48) (h : X Try.prog (inl a_ref13_Join.res K Kp) a_ref13_Join.body .done (env0 args) A) : SimX Try.prog F_ref13_Join args A (outK K Kp) :=
  X_inl g_ref13_Join c_ref13_Join (by rw [Try.ntmps55]; exact hn) h
theorem d_ref13_Join {args : List AV} {A : Heap} {Ko : AOut → Heap → Prop} (hn : args.length ≤ 48) (hrf : AVL.Func.hasRF Try.f55 = false)
    (h : ∀ R : APost, (∀ e env A, fpost a_ref13_Join.res Ko e env A → R e env A) → X Try.prog R a_ref13_Join.body .done (env0 args) A) : SimD Try.prog F_ref13_Join args A Ko :=
  X_introD g_ref13_Join c_ref13_Join (by rw [Try.ntmps55]; exact hn) hrf h
@[simp] theorem k_ref13_Join : callable Try.prog F_ref13_Join = true := by kernel_rfl
theorem c_ref13_Said : trF Try.prog Try.f91 = some a_ref13_Said := by kernel_rfl
theorem g_ref13_Said : Try.prog.funcs[91]? = some Try.f91 := by kernel_rfl
theorem i_ref13_Said {args : List AV} {A : Heap} {Ko : AOut → Heap → Prop} (hn : args.length ≤ 9)
    (h : ∀ R : APost, (∀ e env A, fpost a_ref13_Said.res Ko e env A → R e env A) → X Try.prog R a_ref13_Said.body .done (env0 args) A) : SimX Try.prog F_ref13_Said args A Ko :=
  X_intro g_ref13_Said c_ref13_Said (by rw [Try.ntmps91]; exact hn) h
theorem v_ref13_Said {args : List AV} {v : AV} (hn : args.length ≤ 9) (h : X Try.prog (fin a_ref13_Said.res v) a_ref13_Said.body .done (env0 args) H0) : Gives Try.prog F_ref13_Said args v :=
  Gives_intro g_ref13_Said c_ref13_Said (by rw [Try.ntmps91]; exact hn) h
theorem e_ref13_Said {args : List AV} {Q : AOut → Prop} (hn : args.length ≤ 9) (h : X Try.prog (finE a_ref13_Said.res Q) a_ref13_Said.body .done (env0 args) H0) : Fins Try.prog F_ref13_Said args Q :=
  Fins_intro g_ref13_Said c_ref13_Said (by rw [Try.ntmps91]; exact hn) h
theorem j_ref13_Said {args : List AV} {A : Heap} {K Kp : AV → Heap → Prop} (hn : args.length ≤ 9) (h : X Try.prog (inl a_ref13_Said.res K Kp) a_ref13_Said.body .done (env0 args) A) : SimX Try.prog F_ref13_Said args A (outK K Kp) :=
  X_inl g_ref13_Said c_ref13_Said (by rw [Try.ntmps91]; exact hn) h
theorem d_ref13_Said {args : List AV} {A : Heap} {Ko : AOut → Heap → Prop} (hn : args.length ≤ 9) (hrf : AVL.Func.hasRF Try.f91 = false)
    (h : ∀ R : APost, (∀ e env A, fpost a_ref13_Said.res Ko e env A → R e env A) → X Try.prog R a_ref13_Said.body .done (env0 args) A) : SimD Try.prog F_ref13_Said args A Ko :=
  X_introD g_ref13_Said c_ref13_Said (by rw [Try.ntmps91]; exact hn) hrf h
@[simp] theorem k_ref13_Said : callable Try.prog F_ref13_Said = true := by kernel_rfl
theorem c_ref13_Words : trF Try.prog Try.f93 = some a_ref13_Words := by kernel_rfl
theorem g_ref13_Words : Try.prog.funcs[93]? = some Try.f93 := by kernel_rfl
theorem i_ref13_Words {args : List AV} {A : Heap} {Ko : AOut → Heap → Prop} (hn : args.length ≤ 40)
    (h : ∀ R : APost, (∀ e env A, fpost a_ref13_Words.res Ko e env A → R e env A) → X Try.prog R a_ref13_Words.body .done (env0 args) A) : SimX Try.prog F_ref13_Words args A Ko :=
  X_intro g_ref13_Words c_ref13_Words (by rw [Try.ntmps93]; exact hn) h
theorem v_ref13_Words {args : List AV} {v : AV} (hn : args.length ≤ 40) (h : X Try.prog (fin a_ref13_Words.res v) a_ref13_Words.body .done (env0 args) H0) : Gives Try.prog F_ref13_Words args v :=
  Gives_intro g_ref13_Words c_ref13_Words (by rw [Try.ntmps93]; exact hn) h
theorem e_ref13_Words {args : List AV} {Q : AOut → Prop} (hn : args.length ≤ 40) (h : X Try.prog (finE a_ref13_Words.res Q) a_ref13_Words.body .done (env0 args) H0) : Fins Try.prog F_ref13_Words args Q :=
  Fins_intro g_ref13_Words c_ref13_Words (by rw [Try.ntmps93]; exact hn) h
theorem j_ref13_Words {args : List AV} {A : Heap} {K Kp : AV → Heap → Prop} (hn : args.length ≤ 40) (h : X Try.prog (inl a_ref13_Words.res K Kp) a_ref13_Words.body .done (env0 args) A) : SimX Try.prog F_ref13_Words args A (outK K Kp) :=
  X_inl g_ref13_Words c_ref13_Words (by rw [Try.ntmps93]; exact hn) h
theorem d_ref13_Words {args : List AV} {A : Heap} {Ko : AOut → Heap → Prop} (hn : args.length ≤ 40) (hrf : AVL.Func.hasRF Try.f93 = false)
    (h : ∀ R : APost, (∀ e env A, fpost a_ref13_Words.res Ko e env A → R e env A) → X Try.prog R a_ref13_Words.body .done (env0 args) A) : SimD Try.prog F_ref13_Words args A Ko :=
  X_introD g_ref13_Words c_ref13_Words (by rw [Try.ntmps93]; exact hn) hrf h
@[simp] theorem k_ref13_Words : callable Try.prog F_ref13_Words = true := by kernel_rfl
theorem c_law13_ChunkCuts : trF Try.prog Try.f9 = some a_law13_ChunkCuts := by kernel_rfl
theorem g_law13_ChunkCuts : Try.prog.funcs[9]? = some Try.f9 := by kernel_rfl
theorem i_law13_ChunkCuts {args : List AV} {A : Heap} {Ko : AOut → Heap → Prop} (hn : args.length ≤ 150)
    (h : ∀ R : APost, (∀ e env A, fpost a_law13_ChunkCuts.res Ko e env A → R e env A) → X Try.prog R a_law13_ChunkCuts.body .done (env0 args) A) : SimX Try.prog F_law13_ChunkCuts args A Ko :=
  X_intro g_law13_ChunkCuts c_law13_ChunkCuts (by rw [Try.ntmps9]; exact hn) h
theorem v_law13_ChunkCuts {args : List AV} {v : AV} (hn : args.length ≤ 150) (h : X Try.prog (fin a_law13_ChunkCuts.res v) a_law13_ChunkCuts.body .done (env0 args) H0) : Gives Try.prog F_law13_ChunkCuts args v :=
  Gives_intro g_law13_ChunkCuts c_law13_ChunkCuts (by rw [Try.ntmps9]; exact hn) h
theorem e_law13_ChunkCuts {args : List AV} {Q : AOut → Prop} (hn : args.length ≤ 150) (h : X Try.prog (finE a_law13_ChunkCuts.res Q) a_law13_ChunkCuts.body .done (env0 args) H0) : Fins Try.prog F_law13_ChunkCuts args Q :=
  Fins_intro g_law13_ChunkCuts c_law13_ChunkCuts (by rw [Try.ntmps9]; exact hn) h
theorem j_law13_ChunkCuts {args : List AV} {A : Heap} {K Kp : AV → Heap → Prop} (hn : args.length ≤ 150) (h : X Try.prog (inl a_law13_ChunkCuts.res K Kp) a_law13_ChunkCuts.body .done (env0 args) A) : SimX Try.prog F_law13_ChunkCuts args A (outK K Kp) :=
  X_inl g_law13_ChunkCuts c_law13_ChunkCuts (by rw [Try.ntmps9]; exact hn) h
theorem d_law13_ChunkCuts {args : List AV} {A : Heap} {Ko : AOut → Heap → Prop} (hn : args.length ≤ 150) (hrf : AVL.Func.hasRF Try.f9 = false)
    (h : ∀ R : APost, (∀ e env A, fpost a_law13_ChunkCuts.res Ko e env A → R e env A) → X Try.prog R a_law13_ChunkCuts.body .done (env0 args) A) : SimD Try.prog F_law13_ChunkCuts args A Ko :=
  X_introD g_law13_ChunkCuts c_law13_ChunkCuts (by rw [Try.ntmps9]; exact hn) hrf h
@[simp] theorem k_law13_ChunkCuts : callable Try.prog F_law13_ChunkCuts = true := by kernel_rfl
theorem rd_law13_ChunkCuts_0 {g : Nat} {en vs : List AV} {A : Heap} {K Kp : AV → Heap → Prop} (hA : A g = some (.lp en [77, 78] (rfA Try.f9 0) (rfB Try.f9 0) .ready)) (hn : en.length = 150) (hv : vs.length = 2)
    (h : X Try.prog (rdA Try.prog g en [77, 78] (rfA Try.f9 0) (rfB Try.f9 0) rb_law13_ChunkCuts_0 K) ra_law13_ChunkCuts_0 .done (roundEnv en [77, 78] vs) A) : SimR Try.prog g vs A (outK K Kp) :=
  X_round (n := 150) hA (by kernel_rfl) (by kernel_rfl) hn (by decide) hv (by kernel_rfl) (by kernel_rfl) h
theorem c_law13_ChunkNames : trF Try.prog Try.f10 = some a_law13_ChunkNames := by kernel_rfl
theorem g_law13_ChunkNames : Try.prog.funcs[10]? = some Try.f10 := by kernel_rfl
theorem i_law13_ChunkNames {args : List AV} {A : Heap} {Ko : AOut → Heap → Prop} (hn : args.length ≤ 64)
    (h : ∀ R : APost, (∀ e env A, fpost a_law13_ChunkNames.res Ko e env A → R e env A) → X Try.prog R a_law13_ChunkNames.body .done (env0 args) A) : SimX Try.prog F_law13_ChunkNames args A Ko :=
  X_intro g_law13_ChunkNames c_law13_ChunkNames (by rw [Try.ntmps10]; exact hn) h
theorem v_law13_ChunkNames {args : List AV} {v : AV} (hn : args.length ≤ 64) (h : X Try.prog (fin a_law13_ChunkNames.res v) a_law13_ChunkNames.body .done (env0 args) H0) : Gives Try.prog F_law13_ChunkNames args v :=
  Gives_intro g_law13_ChunkNames c_law13_ChunkNames (by rw [Try.ntmps10]; exact hn) h
theorem e_law13_ChunkNames {args : List AV} {Q : AOut → Prop} (hn : args.length ≤ 64) (h : X Try.prog (finE a_law13_ChunkNames.res Q) a_law13_ChunkNames.body .done (env0 args) H0) : Fins Try.prog F_law13_ChunkNames args Q :=
  Fins_intro g_law13_ChunkNames c_law13_ChunkNames (by rw [Try.ntmps10]; exact hn) h
theorem j_law13_ChunkNames {args : List AV} {A : Heap} {K Kp : AV → Heap → Prop} (hn : args.length ≤ 64) (h : X Try.prog (inl a_law13_ChunkNames.res K Kp) a_law13_ChunkNames.body .done (env0 args) A) : SimX Try.prog F_law13_ChunkNames args A (outK K Kp) :=
  X_inl g_law13_ChunkNames c_law13_ChunkNames (by rw [Try.ntmps10]; exact hn) h
theorem d_law13_ChunkNames {args : List AV} {A : Heap} {Ko : AOut → Heap → Prop} (hn : args.length ≤ 64) (hrf : AVL.Func.hasRF Try.f10 = false)
    (h : ∀ R : APost, (∀ e env A, fpost a_law13_ChunkNames.res Ko e env A → R e env A) → X Try.prog R a_law13_ChunkNames.body .done (env0 args) A) : SimD Try.prog F_law13_ChunkNames args A Ko :=
  X_introD g_law13_ChunkNames c_law13_ChunkNames (by rw [Try.ntmps10]; exact hn) hrf h
@[simp] theorem k_law13_ChunkNames : callable Try.prog F_law13_ChunkNames = true := by kernel_rfl
theorem c_law13_ChunkBack : trF Try.prog Try.f11 = some a_law13_ChunkBack := by kernel_rfl
theorem g_law13_ChunkBack : Try.prog.funcs[11]? = some Try.f11 := by kernel_rfl
theorem i_law13_ChunkBack {args : List AV} {A : Heap} {Ko : AOut → Heap → Prop} (hn : args.length ≤ 84)
    (h : ∀ R : APost, (∀ e env A, fpost a_law13_ChunkBack.res Ko e env A → R e env A) → X Try.prog R a_law13_ChunkBack.body .done (env0 args) A) : SimX Try.prog F_law13_ChunkBack args A Ko :=
  X_intro g_law13_ChunkBack c_law13_ChunkBack (by rw [Try.ntmps11]; exact hn) h
theorem v_law13_ChunkBack {args : List AV} {v : AV} (hn : args.length ≤ 84) (h : X Try.prog (fin a_law13_ChunkBack.res v) a_law13_ChunkBack.body .done (env0 args) H0) : Gives Try.prog F_law13_ChunkBack args v :=
  Gives_intro g_law13_ChunkBack c_law13_ChunkBack (by rw [Try.ntmps11]; exact hn) h
theorem e_law13_ChunkBack {args : List AV} {Q : AOut → Prop} (hn : args.length ≤ 84) (h : X Try.prog (finE a_law13_ChunkBack.res Q) a_law13_ChunkBack.body .done (env0 args) H0) : Fins Try.prog F_law13_ChunkBack args Q :=
  Fins_intro g_law13_ChunkBack c_law13_ChunkBack (by rw [Try.ntmps11]; exact hn) h
theorem j_law13_ChunkBack {args : List AV} {A : Heap} {K Kp : AV → Heap → Prop} (hn : args.length ≤ 84) (h : X Try.prog (inl a_law13_ChunkBack.res K Kp) a_law13_ChunkBack.body .done (env0 args) A) : SimX Try.prog F_law13_ChunkBack args A (outK K Kp) :=
  X_inl g_law13_ChunkBack c_law13_ChunkBack (by rw [Try.ntmps11]; exact hn) h
theorem d_law13_ChunkBack {args : List AV} {A : Heap} {Ko : AOut → Heap → Prop} (hn : args.length ≤ 84) (hrf : AVL.Func.hasRF Try.f11 = false)
    (h : ∀ R : APost, (∀ e env A, fpost a_law13_ChunkBack.res Ko e env A → R e env A) → X Try.prog R a_law13_ChunkBack.body .done (env0 args) A) : SimD Try.prog F_law13_ChunkBack args A Ko :=
  X_introD g_law13_ChunkBack c_law13_ChunkBack (by rw [Try.ntmps11]; exact hn) hrf h
@[simp] theorem k_law13_ChunkBack : callable Try.prog F_law13_ChunkBack = true := by kernel_rfl
theorem c_law13_works : trF Try.prog Try.f39 = some a_law13_works := by kernel_rfl
theorem g_law13_works : Try.prog.funcs[39]? = some Try.f39 := by kernel_rfl
theorem i_law13_works {args : List AV} {A : Heap} {Ko : AOut → Heap → Prop} (hn : args.length ≤ 103)
    (h : ∀ R : APost, (∀ e env A, fpost a_law13_works.res Ko e env A → R e env A) → X Try.prog R a_law13_works.body .done (env0 args) A) : SimX Try.prog F_law13_works args A Ko :=
  X_intro g_law13_works c_law13_works (by rw [Try.ntmps39]; exact hn) h
theorem v_law13_works {args : List AV} {v : AV} (hn : args.length ≤ 103) (h : X Try.prog (fin a_law13_works.res v) a_law13_works.body .done (env0 args) H0) : Gives Try.prog F_law13_works args v :=
  Gives_intro g_law13_works c_law13_works (by rw [Try.ntmps39]; exact hn) h
theorem e_law13_works {args : List AV} {Q : AOut → Prop} (hn : args.length ≤ 103) (h : X Try.prog (finE a_law13_works.res Q) a_law13_works.body .done (env0 args) H0) : Fins Try.prog F_law13_works args Q :=
  Fins_intro g_law13_works c_law13_works (by rw [Try.ntmps39]; exact hn) h
theorem j_law13_works {args : List AV} {A : Heap} {K Kp : AV → Heap → Prop} (hn : args.length ≤ 103) (h : X Try.prog (inl a_law13_works.res K Kp) a_law13_works.body .done (env0 args) A) : SimX Try.prog F_law13_works args A (outK K Kp) :=
  X_inl g_law13_works c_law13_works (by rw [Try.ntmps39]; exact hn) h
theorem d_law13_works {args : List AV} {A : Heap} {Ko : AOut → Heap → Prop} (hn : args.length ≤ 103) (hrf : AVL.Func.hasRF Try.f39 = false)
    (h : ∀ R : APost, (∀ e env A, fpost a_law13_works.res Ko e env A → R e env A) → X Try.prog R a_law13_works.body .done (env0 args) A) : SimD Try.prog F_law13_works args A Ko :=
  X_introD g_law13_works c_law13_works (by rw [Try.ntmps39]; exact hn) hrf h
@[simp] theorem k_law13_works : callable Try.prog F_law13_works = true := by kernel_rfl
end Go.Proofs.Ytfdckjliinpjiaa

/- The walk of the chunks' iterator. -/
namespace Go.Proofs.Ytfdckjliinpjiaa
open Go AVL
attribute [-simp] AV.isAgg aappI aapp alen shp good comps
set_option linter.unusedVariables false
set_option linter.unusedSimpArgs false
set_option maxRecDepth 20000

section
variable {A B C : Heap} {K Kp : AV → Heap → Prop} {P : Program}
/-- The chunks of bytes. -/
def ck (b : List Nat) (i : Nat) : List Nat := (b.drop (256 * i)).take 256
def nck (b : List Nat) : Nat := (b.length + 255) / 256
def cks (b : List Nat) : List (List Nat) := (List.range (nck b)).map (ck b)
@[simp] theorem cks_len (b : List Nat) : (cks b).length = nck b := by simp [cks]
theorem ck_len (b : List Nat) (i : Nat) : (ck b i).length = min 256 (b.length - 256 * i) := by simp [ck]
theorem ck_bytes {b : List Nat} (h : Bytes b) (i : Nat) : Bytes (ck b i) := fun x hx => h x (List.mem_of_mem_drop (List.mem_of_mem_take hx))
def bxC (b : List Nat) (i : Nat) : Cont := .var T_L_uint8 [.isl .u8 (ints (b.drop (256 * i)))]
theorem w_chunk_All {b : List Nat} (hk : ∀ bx, A bx = none → K (.func (.func F_chunk_All_1) [] [.ptr bx 0]) (A.set bx (bxC b 0))) : SimX Try.prog F_chunk_All [.isl .u8 (ints b)] A (outK K Kp) := by
  refine j_chunk_All (by simp) ?_
  simp -implicitDefEqProofs [a_chunk_All, q_chunk_All_0, q_chunk_All_1, outOf]
  intro bx hbx
  have := hk bx hbx
  simpa [bxC] using this
theorem w_chunk_All_1 {b : List Nat} {bx gy : Nat} (hb : Bytes b) (hlen : b.length < 2 ^ 40) (I : Nat → Heap → Prop) (J : Heap → Prop)
    (hi : ∀ i C, I i C → C bx = some (bxC b i) ∧ ∃ en ps asg body, C gy = some (.lp en ps asg body .ready)) (h0 : I 0 A)
    (hr : ∀ i C gc, i < nck b → I i C → C gc = none → SimR Try.prog gy [.int .i64 i, .own gc 0 (ck b i).length] (C.set gc (.irow T_uint8 .u8 (ints (ck b i)))) (outK (fun v C' => (v = .bool true ∧ C' bx = some (bxC b i) ∧ I (i + 1) (C'.set bx (bxC b (i + 1)))) ∨ (v = .bool false ∧ J C')) Kp))
    (hk : ∀ C, I (nck b) C → K (.tuple []) C) (hj : ∀ C, J C → K (.tuple []) C) : SimX Try.prog F_chunk_All_1 [.func (.yield gy) [] [], .ptr bx 0] A (outK K Kp) := by
  refine j_chunk_All_1 (by simp) ?_
  simp -implicitDefEqProofs [a_chunk_All_1, q_chunk_All_1_0]
  refine X_lp (fun (i : Nat) env C => i ≤ nck b ∧ I i C ∧ env 0 = .func (.yield gy) [] [] ∧ env 1 = .ptr bx 0 ∧ env 3 = .int .i64 i) (fun i => nck b - i) 0 ⟨by omega, h0, by simp, by simp, by simp⟩ ?_
  rintro i env C ⟨hle, hI, e0, e1, e3⟩
  obtain ⟨c1, c2⟩ := hi i C hI
  rw [bxC] at c1
  have hdl : (b.drop (256 * i)).length = b.length - 256 * i := by simp
  by_cases hil : i < nck b
  · have hlt : 256 * i < b.length := by unfold nck at hil; omega
    have wi : IntKind.i64.wrap ((i : Int) + 1) = (i : Int) + 1 := wrap_i64 (by unfold nck at hil; omega)
    obtain ⟨D, hD⟩ : ∃ D, b.drop (256 * i) = D := ⟨_, rfl⟩
    rw [hD] at hdl c1
    have hDl : 0 < D.length := by omega
    have hDl' : (0 : Int) < D.length := by omega
    have hDe : ¬ D = [] := by rintro rfl; simp at hDl
    have hck : ck b i = D.take 256 := by rw [← hD]; rfl
    obtain ⟨N, hN⟩ : ∃ N, min D.length 256 = N := ⟨_, rfl⟩
    have hmn : (if (256 : Int) < D.length then 256 else (D.length : Int)) = (N : Int) := by split <;> omega
    have htake : D.take 256 = D.take N := by rw [← hN, List.take_eq_take_min, Nat.min_comm]
    have hnl : N ≤ D.length := by omega
    simp -implicitDefEqProofs [q_chunk_All_1_L6, q_chunk_All_1_1, q_chunk_All_1_2, q_chunk_All_1_3, e0, e1, e3, c1, hDl, hDl', hDe, hmn]
    intro g hg
    have nbx : bx ≠ g := fresh_ne c1 hg
    have hN' : N ≤ D.length := hnl
    simp -implicitDefEqProofs [nbx, Ne.symm nbx, c1, hmn, hnl, aappI, srcI]
    refine ⟨by omega, fun gc n1 n2 hgc => ?_⟩
    rw [del_none hg]
    obtain ⟨en, ps, asg, body, c2⟩ := c2
    have ngy : gy ≠ gc := fresh_ne c2 hgc
    refine ⟨⟨en, ps, asg, body, by rw [Heap.set_ne _ _ ngy]; exact c2⟩, ?_⟩
    have hR := hr i C gc hil hI hgc
    have hlN : (D.take N).length = N := by simp; omega
    rw [hck, htake, hlN] at hR
    refine hR.mono fun o C' ho => ?_
    cases o with
    | pan v => simpa -implicitDefEqProofs using ho
    | ret v =>
      rcases ho with ⟨rfl, hbx, hI'⟩ | ⟨rfl, hJ⟩
      · rw [bxC, hD] at hbx
        have hnext : (D.drop N) = b.drop (256 * (i + 1)) := by
          rw [← hD, List.drop_drop]
          by_cases h : D.length ≤ 256
          · rw [List.drop_eq_nil_of_le (by omega), List.drop_eq_nil_of_le (by omega)]
          · congr 1; omega
        have hne : ((D.drop N).length : Int) = D.length - N := by simp; omega
        simp -implicitDefEqProofs [q_chunk_All_1_4, q_chunk_All_1_5, e1, e3, hbx, wi, hnl]
        have ht : (D.drop N).take (D.length - N) = b.drop (256 * (i + 1)) := by rw [List.take_of_length_le (by simp), hnext]
        rw [ht]
        exact lp_next (i + 1) ⟨by omega, hI', by simp [e0], by simp [e1], by simp⟩ (by omega)
      · simp -implicitDefEqProofs [outOf]
        exact hj C' hJ
  · have hie : i = nck b := by omega
    subst hie
    have hz : (b.drop (256 * nck b)) = [] := List.drop_eq_nil_of_le (by unfold nck; omega)
    rw [hz] at c1
    simp -implicitDefEqProofs [q_chunk_All_1_L6, q_chunk_All_1_1, e0, e1, e3, c1, outOf]
    exact hk C hI
end
end Go.Proofs.Ytfdckjliinpjiaa

/- Abstract programs; that they are the program's. -/
namespace Go.Proofs.Ytfdckjliinpjiaa
open Go AVL
set_option linter.unusedVariables false
set_option maxRecDepth 20000

def q_digest_Of_0 : List AOper := [
  ⟨(some 2), (.alloc 23 [(.iarr .u8 32 (List.replicate 32 0))]), none⟩]
def q_digest_Of_1 : List AOper := [
  ⟨(some 6), (.call F_digest_New []), none⟩,
  ⟨(some 3), (.mv (.t 6)), none⟩]
def q_digest_Of_2 : List AOper := [
  ⟨(some 7), (.mv (.t 0)), none⟩,
  ⟨(some 8), (.len false (.t 7)), none⟩,
  ⟨(some 9), (.mv (.v (.int .i64 0))), none⟩]
def q_digest_Of_3 : List AOper := [
  ⟨(some 10), (.bin .lss (.t 9) (.t 8)), none⟩]
def q_digest_Of_4 : List AOper := [
  ⟨(some 11), (.idx 1 (.t 7) (.t 9)), none⟩,
  ⟨(some 12), (.load .sc 1 (.t 11)), none⟩,
  ⟨(some 5), (.mv (.t 12)), none⟩]
def q_digest_Of_5 : List AOper := [
  ⟨(some 13), (.mv (.t 3)), none⟩,
  ⟨(some 14), (.mv (.t 5)), none⟩,
  ⟨(some 15), (.call F_Pdigest_Hash_Add [(.sc, (.t 13)), (.sc, (.t 14))]), none⟩]
def q_digest_Of_6 : List AOper := [
  ⟨(some 16), (.bin .add (.t 9) (.v (.int .i64 1))), none⟩,
  ⟨(some 9), (.mv (.t 16)), none⟩]
def q_digest_Of_L7 : ACode := (.seq (.region q_digest_Of_3) (.seq (.cond (.t 10) .skip (.exit 0)) (.seq (.block 1 (.seq (.region q_digest_Of_4) (.region q_digest_Of_5))) (.region q_digest_Of_6))))
def q_digest_Of_7 : List AOper := [
  ⟨(some 17), (.mv (.t 3)), none⟩,
  ⟨(some 18), (.call F_Pdigest_Hash_Sum [(.sc, (.t 17))]), none⟩,
  ⟨none, (.store (.ia .u8 32) 32 (.t 2) (.t 18)), none⟩]
def a_digest_Of : AFunc := ⟨[(.cell 2 (.ia .u8 32) 32)], (.seq (.region q_digest_Of_0) (.seq (.region q_digest_Of_1) (.seq (.seq (.region q_digest_Of_2) (.block 0 (.loop q_digest_Of_L7))) (.seq (.region q_digest_Of_7) .ret))))⟩

def q_digest_New_0 : List AOper := [
  ⟨(some 0), (.mv (.v .nilP)), none⟩]
def q_digest_New_1 : List AOper := [
  ⟨(some 1), (.build (.ia .u32 8) [(.iarr .u32 8 [0, 0, 0, 0, 0, 0, 0, 0])] [(0, (1, (.v (.int .u32 1779033703)))), (1, (1, (.v (.int .u32 3144134277)))), (2, (1, (.v (.int .u32 1013904242)))), (3, (1, (.v (.int .u32 2773480762)))), (4, (1, (.v (.int .u32 1359893119)))), (5, (1, (.v (.int .u32 2600822924)))), (6, (1, (.v (.int .u32 528734635)))), (7, (1, (.v (.int .u32 1541459225))))]), none⟩,
  ⟨(some 2), (.build .ag [(.iarr .u32 8 [0, 0, 0, 0, 0, 0, 0, 0]), .nilS, (.int .u64 0)] [(0, (8, (.t 1)))]), none⟩,
  ⟨(some 3), (.box 155 .ag (.t 2)), none⟩,
  ⟨(some 0), (.mv (.t 3)), none⟩]
def a_digest_New : AFunc := ⟨[(.tmp 0)], (.seq (.region q_digest_New_0) (.seq (.region q_digest_New_1) .ret))⟩

def q_digest_mix_0 : List AOper := [
  ⟨(some 2), (.box 133 (.ia .u32 8) (.t 0)), none⟩,
  ⟨(some 4), (.alloc 133 [(.iarr .u32 8 [0, 0, 0, 0, 0, 0, 0, 0])]), none⟩]
def q_digest_mix_1 : List DOp := [
  ⟨⟨(some 14), (.mv (.t 1)), none⟩, true, false, none, []⟩,
  ⟨⟨(some 17), (.load (.ia .u32 8) 8 (.t 2)), none⟩, true, false, none, []⟩,
  ⟨⟨(some 15), (.call F_digest_spread [(.sc, (.t 14))]), none⟩, false, true, (some [2]), []⟩,
  ⟨⟨(some 16), (.call F_digest_rounds []), none⟩, false, true, (some [2]), []⟩,
  ⟨⟨(some 5), (.alloc 135 [(.iarr .u32 64 (List.replicate 64 0))]), none⟩, false, false, none, []⟩,
  ⟨⟨(some 6), (.alloc 135 [(.iarr .u32 64 (List.replicate 64 0))]), none⟩, false, false, none, []⟩,
  ⟨⟨(some 7), (.alloc 133 [(.iarr .u32 8 [0, 0, 0, 0, 0, 0, 0, 0])]), none⟩, false, false, none, []⟩,
  ⟨⟨none, (.store (.ia .u32 64) 64 (.t 5) (.t 15)), none⟩, false, true, (some [2]), []⟩,
  ⟨⟨none, (.store (.ia .u32 64) 64 (.t 6) (.t 16)), none⟩, false, true, (some [2]), []⟩,
  ⟨⟨none, (.store (.ia .u32 8) 8 (.t 7) (.t 17)), none⟩, false, false, none, []⟩]
def q_digest_mix_2 : List AOper := [
  ⟨(some 18), (.mv (.v (.int .i64 0))), none⟩]
def q_digest_mix_3 : List AOper := [
  ⟨(some 19), (.bin .lss (.t 18) (.v (.int .i64 64))), none⟩]
def q_digest_mix_4 : List AOper := [
  ⟨(some 20), (.mv (.t 18)), none⟩,
  ⟨(some 8), (.mv (.t 20)), none⟩]
def q_digest_mix_5 : List DOp := [
  ⟨⟨(some 21), (.idxA 8 1 true (.t 7) (.v (.int .i64 4))), none⟩, true, false, none, []⟩,
  ⟨⟨(some 22), (.load .sc 1 (.t 21)), none⟩, true, false, none, []⟩,
  ⟨⟨(some 23), (.idxA 8 1 true (.t 7) (.v (.int .i64 0))), none⟩, true, false, none, []⟩,
  ⟨⟨(some 24), (.load .sc 1 (.t 23)), none⟩, true, false, none, []⟩,
  ⟨⟨(some 9), (.mv (.t 22)), none⟩, true, false, none, []⟩,
  ⟨⟨(some 10), (.mv (.t 24)), none⟩, true, false, none, []⟩]
def q_digest_mix_6 : List DOp := [
  ⟨⟨(some 25), (.idxA 8 1 true (.t 7) (.v (.int .i64 7))), none⟩, true, false, none, []⟩,
  ⟨⟨(some 26), (.load .sc 1 (.t 25)), none⟩, true, false, none, []⟩,
  ⟨⟨(some 27), (.mv (.t 9)), none⟩, true, false, none, []⟩,
  ⟨⟨(some 29), (.mv (.t 9)), none⟩, true, false, none, []⟩,
  ⟨⟨(some 32), (.mv (.t 9)), none⟩, true, false, none, []⟩,
  ⟨⟨(some 36), (.mv (.t 9)), none⟩, true, false, none, []⟩,
  ⟨⟨(some 37), (.idxA 8 1 true (.t 7) (.v (.int .i64 5))), none⟩, true, false, none, []⟩,
  ⟨⟨(some 38), (.load .sc 1 (.t 37)), none⟩, true, false, none, []⟩,
  ⟨⟨(some 39), (.bin .and (.t 36) (.t 38)), none⟩, true, false, none, []⟩,
  ⟨⟨(some 40), (.mv (.t 9)), none⟩, true, false, none, []⟩,
  ⟨⟨(some 41), (.un .xor (.t 40)), none⟩, true, false, none, []⟩,
  ⟨⟨(some 42), (.idxA 8 1 true (.t 7) (.v (.int .i64 6))), none⟩, true, false, none, []⟩,
  ⟨⟨(some 43), (.load .sc 1 (.t 42)), none⟩, true, false, none, []⟩,
  ⟨⟨(some 44), (.bin .and (.t 41) (.t 43)), none⟩, true, false, none, []⟩,
  ⟨⟨(some 45), (.bin .xor (.t 39) (.t 44)), none⟩, true, false, none, []⟩,
  ⟨⟨(some 47), (.mv (.t 8)), none⟩, true, false, none, []⟩,
  ⟨⟨(some 48), (.idxA 64 1 true (.t 6) (.t 47)), none⟩, true, false, none, []⟩,
  ⟨⟨(some 49), (.load .sc 1 (.t 48)), none⟩, true, false, none, []⟩,
  ⟨⟨(some 51), (.mv (.t 8)), none⟩, true, false, none, []⟩,
  ⟨⟨(some 52), (.idxA 64 1 true (.t 5) (.t 51)), none⟩, true, false, none, []⟩,
  ⟨⟨(some 53), (.load .sc 1 (.t 52)), none⟩, true, false, none, []⟩,
  ⟨⟨(some 28), (.call F_digest_spin [(.sc, (.t 27)), (.sc, (.v (.int .i64 6)))]), none⟩, false, true, (some [52, 48, 42, 37, 25]), []⟩,
  ⟨⟨(some 30), (.call F_digest_spin [(.sc, (.t 29)), (.sc, (.v (.int .i64 11)))]), none⟩, false, true, (some [52, 48, 42, 37, 25]), []⟩,
  ⟨⟨(some 31), (.bin .xor (.t 28) (.t 30)), none⟩, true, false, none, []⟩,
  ⟨⟨(some 33), (.call F_digest_spin [(.sc, (.t 32)), (.sc, (.v (.int .i64 25)))]), none⟩, false, true, (some [52, 48, 42, 37, 25]), []⟩,
  ⟨⟨(some 34), (.bin .xor (.t 31) (.t 33)), none⟩, true, false, none, []⟩,
  ⟨⟨(some 35), (.bin .add (.t 26) (.t 34)), none⟩, true, false, none, []⟩,
  ⟨⟨(some 46), (.bin .add (.t 35) (.t 45)), none⟩, true, false, none, []⟩,
  ⟨⟨(some 50), (.bin .add (.t 46) (.t 49)), none⟩, true, false, none, []⟩,
  ⟨⟨(some 54), (.bin .add (.t 50) (.t 53)), none⟩, true, false, none, []⟩,
  ⟨⟨(some 11), (.mv (.t 54)), none⟩, true, false, none, []⟩]
def q_digest_mix_7 : List DOp := [
  ⟨⟨(some 55), (.mv (.t 10)), none⟩, true, false, none, []⟩,
  ⟨⟨(some 57), (.mv (.t 10)), none⟩, true, false, none, []⟩,
  ⟨⟨(some 60), (.mv (.t 10)), none⟩, true, false, none, []⟩,
  ⟨⟨(some 63), (.mv (.t 10)), none⟩, true, false, none, []⟩,
  ⟨⟨(some 64), (.idxA 8 1 true (.t 7) (.v (.int .i64 1))), none⟩, true, false, none, []⟩,
  ⟨⟨(some 65), (.load .sc 1 (.t 64)), none⟩, true, false, none, []⟩,
  ⟨⟨(some 66), (.bin .and (.t 63) (.t 65)), none⟩, true, false, none, []⟩,
  ⟨⟨(some 67), (.mv (.t 10)), none⟩, true, false, none, []⟩,
  ⟨⟨(some 68), (.idxA 8 1 true (.t 7) (.v (.int .i64 2))), none⟩, true, false, none, []⟩,
  ⟨⟨(some 69), (.load .sc 1 (.t 68)), none⟩, true, false, none, []⟩,
  ⟨⟨(some 70), (.bin .and (.t 67) (.t 69)), none⟩, true, false, none, []⟩,
  ⟨⟨(some 71), (.bin .xor (.t 66) (.t 70)), none⟩, true, false, none, []⟩,
  ⟨⟨(some 72), (.idxA 8 1 true (.t 7) (.v (.int .i64 1))), none⟩, true, false, none, []⟩,
  ⟨⟨(some 73), (.load .sc 1 (.t 72)), none⟩, true, false, none, []⟩,
  ⟨⟨(some 74), (.idxA 8 1 true (.t 7) (.v (.int .i64 2))), none⟩, true, false, none, []⟩,
  ⟨⟨(some 75), (.load .sc 1 (.t 74)), none⟩, true, false, none, []⟩,
  ⟨⟨(some 76), (.bin .and (.t 73) (.t 75)), none⟩, true, false, none, []⟩,
  ⟨⟨(some 77), (.bin .xor (.t 71) (.t 76)), none⟩, true, false, none, []⟩,
  ⟨⟨(some 56), (.call F_digest_spin [(.sc, (.t 55)), (.sc, (.v (.int .i64 2)))]), none⟩, false, true, (some [74, 72, 68, 64]), []⟩,
  ⟨⟨(some 58), (.call F_digest_spin [(.sc, (.t 57)), (.sc, (.v (.int .i64 13)))]), none⟩, false, true, (some [74, 72, 68, 64]), []⟩,
  ⟨⟨(some 59), (.bin .xor (.t 56) (.t 58)), none⟩, true, false, none, []⟩,
  ⟨⟨(some 61), (.call F_digest_spin [(.sc, (.t 60)), (.sc, (.v (.int .i64 22)))]), none⟩, false, true, (some [74, 72, 68, 64]), []⟩,
  ⟨⟨(some 62), (.bin .xor (.t 59) (.t 61)), none⟩, true, false, none, []⟩,
  ⟨⟨(some 78), (.bin .add (.t 62) (.t 77)), none⟩, true, false, none, []⟩,
  ⟨⟨(some 12), (.mv (.t 78)), none⟩, true, false, none, []⟩]
def q_digest_mix_8 : List AOper := [
  ⟨(some 79), (.mv (.t 11)), none⟩,
  ⟨(some 80), (.mv (.t 12)), none⟩,
  ⟨(some 81), (.bin .add (.t 79) (.t 80)), none⟩,
  ⟨(some 82), (.idxA 8 1 true (.t 7) (.v (.int .i64 0))), none⟩,
  ⟨(some 83), (.load .sc 1 (.t 82)), none⟩,
  ⟨(some 84), (.idxA 8 1 true (.t 7) (.v (.int .i64 1))), none⟩,
  ⟨(some 85), (.load .sc 1 (.t 84)), none⟩,
  ⟨(some 86), (.idxA 8 1 true (.t 7) (.v (.int .i64 2))), none⟩,
  ⟨(some 87), (.load .sc 1 (.t 86)), none⟩,
  ⟨(some 88), (.idxA 8 1 true (.t 7) (.v (.int .i64 3))), none⟩,
  ⟨(some 89), (.load .sc 1 (.t 88)), none⟩,
  ⟨(some 90), (.mv (.t 11)), none⟩,
  ⟨(some 91), (.bin .add (.t 89) (.t 90)), none⟩,
  ⟨(some 92), (.idxA 8 1 true (.t 7) (.v (.int .i64 4))), none⟩,
  ⟨(some 93), (.load .sc 1 (.t 92)), none⟩,
  ⟨(some 94), (.idxA 8 1 true (.t 7) (.v (.int .i64 5))), none⟩,
  ⟨(some 95), (.load .sc 1 (.t 94)), none⟩,
  ⟨(some 96), (.idxA 8 1 true (.t 7) (.v (.int .i64 6))), none⟩,
  ⟨(some 97), (.load .sc 1 (.t 96)), none⟩,
  ⟨(some 98), (.build (.ia .u32 8) [(.iarr .u32 8 [0, 0, 0, 0, 0, 0, 0, 0])] [(0, (1, (.t 81))), (1, (1, (.t 83))), (2, (1, (.t 85))), (3, (1, (.t 87))), (4, (1, (.t 91))), (5, (1, (.t 93))), (6, (1, (.t 95))), (7, (1, (.t 97)))]), none⟩,
  ⟨none, (.store (.ia .u32 8) 8 (.t 7) (.t 98)), none⟩]
def q_digest_mix_9 : List AOper := [
  ⟨(some 99), (.bin .add (.t 18) (.v (.int .i64 1))), none⟩,
  ⟨(some 18), (.mv (.t 99)), none⟩]
def q_digest_mix_L10 : ACode := (.seq (.region q_digest_mix_3) (.seq (.cond (.t 19) .skip (.exit 0)) (.seq (.block 1 (.seq (.region q_digest_mix_4) (.seq (.regionD q_digest_mix_5) (.seq (.regionD q_digest_mix_6) (.seq (.regionD q_digest_mix_7) (.region q_digest_mix_8)))))) (.region q_digest_mix_9))))
def q_digest_mix_10 : List AOper := [
  ⟨(some 100), (.mv (.v (.int .i64 0))), none⟩]
def q_digest_mix_11 : List AOper := [
  ⟨(some 101), (.bin .lss (.t 100) (.v (.int .i64 8))), none⟩]
def q_digest_mix_12 : List AOper := [
  ⟨(some 102), (.mv (.t 100)), none⟩,
  ⟨(some 13), (.mv (.t 102)), none⟩]
def q_digest_mix_13 : List DOp := [
  ⟨⟨(some 103), (.mv (.t 13)), none⟩, true, false, none, []⟩,
  ⟨⟨(some 104), (.idxA 8 1 true (.t 2) (.t 103)), none⟩, true, false, none, []⟩,
  ⟨⟨(some 105), (.load .sc 1 (.t 104)), none⟩, true, false, none, []⟩,
  ⟨⟨(some 106), (.mv (.t 13)), none⟩, true, false, none, []⟩,
  ⟨⟨(some 107), (.idxA 8 1 true (.t 7) (.t 106)), none⟩, true, false, none, []⟩,
  ⟨⟨(some 108), (.load .sc 1 (.t 107)), none⟩, true, false, none, []⟩,
  ⟨⟨(some 109), (.bin .add (.t 105) (.t 108)), none⟩, true, false, none, []⟩,
  ⟨⟨(some 110), (.idxA 8 1 true (.t 2) (.t 103)), none⟩, true, false, none, []⟩,
  ⟨⟨none, (.store .sc 1 (.t 110) (.t 109)), none⟩, false, false, none, []⟩]
def q_digest_mix_14 : List AOper := [
  ⟨(some 111), (.bin .add (.t 100) (.v (.int .i64 1))), none⟩,
  ⟨(some 100), (.mv (.t 111)), none⟩]
def q_digest_mix_L15 : ACode := (.seq (.region q_digest_mix_11) (.seq (.cond (.t 101) .skip (.exit 2)) (.seq (.block 3 (.seq (.region q_digest_mix_12) (.regionD q_digest_mix_13))) (.region q_digest_mix_14))))
def q_digest_mix_15 : List AOper := [
  ⟨(some 112), (.load (.ia .u32 8) 8 (.t 2)), none⟩,
  ⟨none, (.store (.ia .u32 8) 8 (.t 4) (.t 112)), none⟩]
def a_digest_mix : AFunc := ⟨[(.cell 4 (.ia .u32 8) 8)], (.seq (.region q_digest_mix_0) (.seq (.regionD q_digest_mix_1) (.seq (.seq (.region q_digest_mix_2) (.block 0 (.loop q_digest_mix_L10))) (.seq (.seq (.region q_digest_mix_10) (.block 2 (.loop q_digest_mix_L15))) (.seq (.region q_digest_mix_15) .ret)))))⟩

def q_digest_spread_0 : List AOper := [
  ⟨(some 2), (.alloc 135 [(.iarr .u32 64 (List.replicate 64 0))]), none⟩]
def q_digest_spread_1 : List AOper := [
  ⟨(some 3), (.alloc 135 [(.iarr .u32 64 (List.replicate 64 0))]), none⟩]
def q_digest_spread_2 : List AOper := [
  ⟨(some 8), (.mv (.v (.int .i64 0))), none⟩]
def q_digest_spread_3 : List AOper := [
  ⟨(some 9), (.bin .lss (.t 8) (.v (.int .i64 16))), none⟩]
def q_digest_spread_4 : List AOper := [
  ⟨(some 10), (.mv (.t 8)), none⟩,
  ⟨(some 4), (.mv (.t 10)), none⟩]
def q_digest_spread_5 : List DOp := [
  ⟨⟨(some 11), (.mv (.t 4)), none⟩, true, false, none, []⟩,
  ⟨⟨(some 12), (.mv (.t 0)), none⟩, true, false, none, []⟩,
  ⟨⟨(some 13), (.mv (.t 4)), none⟩, true, false, none, []⟩,
  ⟨⟨(some 14), (.bin .mul (.v (.int .i64 4)) (.t 13)), none⟩, true, false, none, []⟩,
  ⟨⟨(some 15), (.idx 1 (.t 12) (.t 14)), none⟩, true, false, none, []⟩,
  ⟨⟨(some 16), (.load .sc 1 (.t 15)), none⟩, true, false, none, []⟩,
  ⟨⟨(some 17), (.conv .u32 (.t 16)), none⟩, true, false, none, []⟩,
  ⟨⟨(some 18), (.bin .shl (.t 17) (.v (.int .u64 24))), none⟩, true, false, none, []⟩,
  ⟨⟨(some 19), (.mv (.t 0)), none⟩, true, false, none, []⟩,
  ⟨⟨(some 20), (.mv (.t 4)), none⟩, true, false, none, []⟩,
  ⟨⟨(some 21), (.bin .mul (.v (.int .i64 4)) (.t 20)), none⟩, true, false, none, []⟩,
  ⟨⟨(some 22), (.bin .add (.t 21) (.v (.int .i64 1))), none⟩, true, false, none, []⟩,
  ⟨⟨(some 23), (.idx 1 (.t 19) (.t 22)), none⟩, true, false, none, []⟩,
  ⟨⟨(some 24), (.load .sc 1 (.t 23)), none⟩, true, false, none, []⟩,
  ⟨⟨(some 25), (.conv .u32 (.t 24)), none⟩, true, false, none, []⟩,
  ⟨⟨(some 26), (.bin .shl (.t 25) (.v (.int .u64 16))), none⟩, true, false, none, []⟩,
  ⟨⟨(some 27), (.bin .or (.t 18) (.t 26)), none⟩, true, false, none, []⟩,
  ⟨⟨(some 28), (.mv (.t 0)), none⟩, true, false, none, []⟩,
  ⟨⟨(some 29), (.mv (.t 4)), none⟩, true, false, none, []⟩,
  ⟨⟨(some 30), (.bin .mul (.v (.int .i64 4)) (.t 29)), none⟩, true, false, none, []⟩,
  ⟨⟨(some 31), (.bin .add (.t 30) (.v (.int .i64 2))), none⟩, true, false, none, []⟩,
  ⟨⟨(some 32), (.idx 1 (.t 28) (.t 31)), none⟩, true, false, none, []⟩,
  ⟨⟨(some 33), (.load .sc 1 (.t 32)), none⟩, true, false, none, []⟩,
  ⟨⟨(some 34), (.conv .u32 (.t 33)), none⟩, true, false, none, []⟩,
  ⟨⟨(some 35), (.bin .shl (.t 34) (.v (.int .u64 8))), none⟩, true, false, none, []⟩,
  ⟨⟨(some 36), (.bin .or (.t 27) (.t 35)), none⟩, true, false, none, []⟩,
  ⟨⟨(some 37), (.mv (.t 0)), none⟩, true, false, none, []⟩,
  ⟨⟨(some 38), (.mv (.t 4)), none⟩, true, false, none, []⟩,
  ⟨⟨(some 39), (.bin .mul (.v (.int .i64 4)) (.t 38)), none⟩, true, false, none, []⟩,
  ⟨⟨(some 40), (.bin .add (.t 39) (.v (.int .i64 3))), none⟩, true, false, none, []⟩,
  ⟨⟨(some 41), (.idx 1 (.t 37) (.t 40)), none⟩, true, false, none, []⟩,
  ⟨⟨(some 42), (.load .sc 1 (.t 41)), none⟩, true, false, none, []⟩,
  ⟨⟨(some 43), (.conv .u32 (.t 42)), none⟩, true, false, none, []⟩,
  ⟨⟨(some 44), (.bin .or (.t 36) (.t 43)), none⟩, true, false, none, []⟩,
  ⟨⟨(some 45), (.idxA 64 1 true (.t 3) (.t 11)), none⟩, true, false, none, []⟩,
  ⟨⟨none, (.store .sc 1 (.t 45) (.t 44)), none⟩, false, false, none, []⟩]
def q_digest_spread_6 : List AOper := [
  ⟨(some 46), (.bin .add (.t 8) (.v (.int .i64 1))), none⟩,
  ⟨(some 8), (.mv (.t 46)), none⟩]
def q_digest_spread_L7 : ACode := (.seq (.region q_digest_spread_3) (.seq (.cond (.t 9) .skip (.exit 0)) (.seq (.block 1 (.seq (.region q_digest_spread_4) (.regionD q_digest_spread_5))) (.region q_digest_spread_6))))
def q_digest_spread_7 : List AOper := [
  ⟨(some 5), (.mv (.v (.int .i64 16))), none⟩]
def q_digest_spread_8 : List AOper := [
  ⟨(some 47), (.mv (.t 5)), none⟩,
  ⟨(some 48), (.bin .lss (.t 47) (.v (.int .i64 64))), none⟩]
def q_digest_spread_9 : List DOp := [
  ⟨⟨(some 51), (.mv (.t 5)), none⟩, true, false, none, []⟩,
  ⟨⟨(some 52), (.bin .sub (.t 51) (.v (.int .i64 15))), none⟩, true, false, none, []⟩,
  ⟨⟨(some 53), (.idxA 64 1 true (.t 3) (.t 52)), none⟩, true, false, none, []⟩,
  ⟨⟨(some 54), (.load .sc 1 (.t 53)), none⟩, true, false, none, []⟩,
  ⟨⟨(some 55), (.mv (.t 5)), none⟩, true, false, none, []⟩,
  ⟨⟨(some 56), (.bin .sub (.t 55) (.v (.int .i64 2))), none⟩, true, false, none, []⟩,
  ⟨⟨(some 57), (.idxA 64 1 true (.t 3) (.t 56)), none⟩, true, false, none, []⟩,
  ⟨⟨(some 58), (.load .sc 1 (.t 57)), none⟩, true, false, none, []⟩,
  ⟨⟨(some 6), (.mv (.t 54)), none⟩, true, false, none, []⟩,
  ⟨⟨(some 7), (.mv (.t 58)), none⟩, true, false, none, []⟩]
def q_digest_spread_10 : List DOp := [
  ⟨⟨(some 59), (.mv (.t 5)), none⟩, true, false, none, []⟩,
  ⟨⟨(some 60), (.mv (.t 5)), none⟩, true, false, none, []⟩,
  ⟨⟨(some 61), (.bin .sub (.t 60) (.v (.int .i64 16))), none⟩, true, false, none, []⟩,
  ⟨⟨(some 62), (.idxA 64 1 true (.t 3) (.t 61)), none⟩, true, false, none, []⟩,
  ⟨⟨(some 63), (.load .sc 1 (.t 62)), none⟩, true, false, none, []⟩,
  ⟨⟨(some 64), (.mv (.t 6)), none⟩, true, false, none, []⟩,
  ⟨⟨(some 66), (.mv (.t 6)), none⟩, true, false, none, []⟩,
  ⟨⟨(some 69), (.mv (.t 6)), none⟩, true, false, none, []⟩,
  ⟨⟨(some 70), (.bin .shr (.t 69) (.v (.int .u64 3))), none⟩, true, false, none, []⟩,
  ⟨⟨(some 73), (.mv (.t 5)), none⟩, true, false, none, []⟩,
  ⟨⟨(some 74), (.bin .sub (.t 73) (.v (.int .i64 7))), none⟩, true, false, none, []⟩,
  ⟨⟨(some 75), (.idxA 64 1 true (.t 3) (.t 74)), none⟩, true, false, none, []⟩,
  ⟨⟨(some 76), (.load .sc 1 (.t 75)), none⟩, true, false, none, []⟩,
  ⟨⟨(some 78), (.mv (.t 7)), none⟩, true, false, none, []⟩,
  ⟨⟨(some 80), (.mv (.t 7)), none⟩, true, false, none, []⟩,
  ⟨⟨(some 83), (.mv (.t 7)), none⟩, true, false, none, []⟩,
  ⟨⟨(some 84), (.bin .shr (.t 83) (.v (.int .u64 10))), none⟩, true, false, none, []⟩,
  ⟨⟨(some 65), (.call F_digest_spin [(.sc, (.t 64)), (.sc, (.v (.int .i64 7)))]), none⟩, false, true, (some [75, 62]), []⟩,
  ⟨⟨(some 67), (.call F_digest_spin [(.sc, (.t 66)), (.sc, (.v (.int .i64 18)))]), none⟩, false, true, (some [75, 62]), []⟩,
  ⟨⟨(some 68), (.bin .xor (.t 65) (.t 67)), none⟩, true, false, none, []⟩,
  ⟨⟨(some 71), (.bin .xor (.t 68) (.t 70)), none⟩, true, false, none, []⟩,
  ⟨⟨(some 72), (.bin .add (.t 63) (.t 71)), none⟩, true, false, none, []⟩,
  ⟨⟨(some 77), (.bin .add (.t 72) (.t 76)), none⟩, true, false, none, []⟩,
  ⟨⟨(some 79), (.call F_digest_spin [(.sc, (.t 78)), (.sc, (.v (.int .i64 17)))]), none⟩, false, true, (some [75, 62]), []⟩,
  ⟨⟨(some 81), (.call F_digest_spin [(.sc, (.t 80)), (.sc, (.v (.int .i64 19)))]), none⟩, false, true, (some [75, 62]), []⟩,
  ⟨⟨(some 82), (.bin .xor (.t 79) (.t 81)), none⟩, true, false, none, []⟩,
  ⟨⟨(some 85), (.bin .xor (.t 82) (.t 84)), none⟩, true, false, none, []⟩,
  ⟨⟨(some 86), (.bin .add (.t 77) (.t 85)), none⟩, true, false, none, []⟩,
  ⟨⟨(some 87), (.idxA 64 1 true (.t 3) (.t 59)), none⟩, true, false, none, []⟩,
  ⟨⟨none, (.store .sc 1 (.t 87) (.t 86)), none⟩, false, false, none, []⟩]
def q_digest_spread_11 : List AOper := [
  ⟨(some 49), (.mv (.t 5)), none⟩,
  ⟨(some 50), (.bin .add (.t 49) (.v (.int .i64 1))), none⟩,
  ⟨(some 5), (.mv (.t 50)), none⟩]
def q_digest_spread_L12 : ACode := (.seq (.seq (.region q_digest_spread_8) (.cond (.t 48) .skip (.exit 2))) (.seq (.block 3 (.seq (.regionD q_digest_spread_9) (.regionD q_digest_spread_10))) (.region q_digest_spread_11)))
def q_digest_spread_12 : List AOper := [
  ⟨(some 88), (.load (.ia .u32 64) 64 (.t 3)), none⟩,
  ⟨none, (.store (.ia .u32 64) 64 (.t 2) (.t 88)), none⟩]
def a_digest_spread : AFunc := ⟨[(.cell 2 (.ia .u32 64) 64)], (.seq (.region q_digest_spread_0) (.seq (.region q_digest_spread_1) (.seq (.seq (.region q_digest_spread_2) (.block 0 (.loop q_digest_spread_L7))) (.seq (.seq (.region q_digest_spread_7) (.block 2 (.loop q_digest_spread_L12))) (.seq (.region q_digest_spread_12) .ret)))))⟩

def q_digest_rounds_0 : List AOper := [
  ⟨(some 0), (.alloc 135 [(.iarr .u32 64 (List.replicate 64 0))]), none⟩]
def q_digest_rounds_1 : List AOper := [
  ⟨(some 1), (.build (.ia .u32 64) [(.iarr .u32 64 (List.replicate 64 0))] [(0, (1, (.v (.int .u32 1116352408)))), (1, (1, (.v (.int .u32 1899447441)))), (2, (1, (.v (.int .u32 3049323471)))), (3, (1, (.v (.int .u32 3921009573)))), (4, (1, (.v (.int .u32 961987163)))), (5, (1, (.v (.int .u32 1508970993)))), (6, (1, (.v (.int .u32 2453635748)))), (7, (1, (.v (.int .u32 2870763221)))), (8, (1, (.v (.int .u32 3624381080)))), (9, (1, (.v (.int .u32 310598401)))), (10, (1, (.v (.int .u32 607225278)))), (11, (1, (.v (.int .u32 1426881987)))), (12, (1, (.v (.int .u32 1925078388)))), (13, (1, (.v (.int .u32 2162078206)))), (14, (1, (.v (.int .u32 2614888103)))), (15, (1, (.v (.int .u32 3248222580)))), (16, (1, (.v (.int .u32 3835390401)))), (17, (1, (.v (.int .u32 4022224774)))), (18, (1, (.v (.int .u32 264347078)))), (19, (1, (.v (.int .u32 604807628)))), (20, (1, (.v (.int .u32 770255983)))), (21, (1, (.v (.int .u32 1249150122)))), (22, (1, (.v (.int .u32 1555081692)))), (23, (1, (.v (.int .u32 1996064986)))), (24, (1, (.v (.int .u32 2554220882)))), (25, (1, (.v (.int .u32 2821834349)))), (26, (1, (.v (.int .u32 2952996808)))), (27, (1, (.v (.int .u32 3210313671)))), (28, (1, (.v (.int .u32 3336571891)))), (29, (1, (.v (.int .u32 3584528711)))), (30, (1, (.v (.int .u32 113926993)))), (31, (1, (.v (.int .u32 338241895)))), (32, (1, (.v (.int .u32 666307205)))), (33, (1, (.v (.int .u32 773529912)))), (34, (1, (.v (.int .u32 1294757372)))), (35, (1, (.v (.int .u32 1396182291)))), (36, (1, (.v (.int .u32 1695183700)))), (37, (1, (.v (.int .u32 1986661051)))), (38, (1, (.v (.int .u32 2177026350)))), (39, (1, (.v (.int .u32 2456956037)))), (40, (1, (.v (.int .u32 2730485921)))), (41, (1, (.v (.int .u32 2820302411)))), (42, (1, (.v (.int .u32 3259730800)))), (43, (1, (.v (.int .u32 3345764771)))), (44, (1, (.v (.int .u32 3516065817)))), (45, (1, (.v (.int .u32 3600352804)))), (46, (1, (.v (.int .u32 4094571909)))), (47, (1, (.v (.int .u32 275423344)))), (48, (1, (.v (.int .u32 430227734)))), (49, (1, (.v (.int .u32 506948616)))), (50, (1, (.v (.int .u32 659060556)))), (51, (1, (.v (.int .u32 883997877)))), (52, (1, (.v (.int .u32 958139571)))), (53, (1, (.v (.int .u32 1322822218)))), (54, (1, (.v (.int .u32 1537002063)))), (55, (1, (.v (.int .u32 1747873779)))), (56, (1, (.v (.int .u32 1955562222)))), (57, (1, (.v (.int .u32 2024104815)))), (58, (1, (.v (.int .u32 2227730452)))), (59, (1, (.v (.int .u32 2361852424)))), (60, (1, (.v (.int .u32 2428436474)))), (61, (1, (.v (.int .u32 2756734187)))), (62, (1, (.v (.int .u32 3204031479)))), (63, (1, (.v (.int .u32 3329325298))))]), none⟩,
  ⟨none, (.store (.ia .u32 64) 64 (.t 0) (.t 1)), none⟩]
def a_digest_rounds : AFunc := ⟨[(.cell 0 (.ia .u32 64) 64)], (.seq (.region q_digest_rounds_0) (.seq (.region q_digest_rounds_1) .ret))⟩

def q_digest_spin_0 : List AOper := [
  ⟨(some 4), (.mv (.v (.int .u32 0))), none⟩]
def q_digest_spin_1 : List DOp := [
  ⟨⟨(some 5), (.mv (.t 0)), none⟩, true, false, none, []⟩,
  ⟨⟨(some 6), (.mv (.t 1)), none⟩, true, false, none, []⟩,
  ⟨⟨(some 7), (.bin .shr (.t 5) (.t 6)), none⟩, true, false, none, []⟩,
  ⟨⟨(some 8), (.mv (.t 0)), none⟩, true, false, none, []⟩,
  ⟨⟨(some 9), (.mv (.t 1)), none⟩, true, false, none, []⟩,
  ⟨⟨(some 10), (.bin .sub (.v (.int .i64 32)) (.t 9)), none⟩, true, false, none, []⟩,
  ⟨⟨(some 11), (.bin .shl (.t 8) (.t 10)), none⟩, true, false, none, []⟩,
  ⟨⟨(some 12), (.bin .or (.t 7) (.t 11)), none⟩, true, false, none, []⟩,
  ⟨⟨(some 4), (.mv (.t 12)), none⟩, true, false, none, []⟩]
def a_digest_spin : AFunc := ⟨[(.tmp 4)], (.seq (.region q_digest_spin_0) (.seq (.regionD q_digest_spin_1) .ret))⟩

def q_Pdigest_Hash_Add_0 : List AOper := [
  ⟨(some 5), (.mv (.t 0)), none⟩,
  ⟨(some 6), (.xx (.p .nilCk) [(.t 5)]), none⟩,
  ⟨(some 7), (.fadr 9 1 .sc (.t 6)), none⟩,
  ⟨(some 8), (.load .sc 1 (.t 7)), none⟩,
  ⟨(some 9), (.mv (.t 1)), none⟩,
  ⟨(some 10), (.len false (.t 9)), none⟩,
  ⟨(some 11), (.conv .u64 (.t 10)), none⟩,
  ⟨(some 12), (.bin .add (.t 8) (.t 11)), none⟩,
  ⟨(some 13), (.xx (.p .nilCk) [(.t 5)]), none⟩,
  ⟨(some 14), (.fadr 9 1 .sc (.t 13)), none⟩,
  ⟨none, (.store .sc 1 (.t 14) (.t 12)), none⟩]
def q_Pdigest_Hash_Add_1 : List AOper := [
  ⟨(some 15), (.mv (.t 0)), none⟩,
  ⟨(some 16), (.xx (.p .nilCk) [(.t 15)]), none⟩,
  ⟨(some 17), (.fadr 8 1 .sc (.t 16)), none⟩,
  ⟨(some 18), (.load .sc 1 (.t 17)), none⟩,
  ⟨(some 19), (.mv (.t 1)), none⟩,
  ⟨(some 20), (.appI 5 .u8 1 (.t 18) (.t 19)), none⟩,
  ⟨(some 4), (.mv (.t 20)), none⟩]
def q_Pdigest_Hash_Add_2 : List AOper := [
  ⟨(some 21), (.mv (.t 4)), none⟩,
  ⟨(some 22), (.len false (.t 21)), none⟩,
  ⟨(some 23), (.bin .geq (.t 22) (.v (.int .i64 64))), none⟩]
def q_Pdigest_Hash_Add_3 : List DOp := [
  ⟨⟨(some 24), (.mv (.t 0)), none⟩, true, false, none, []⟩,
  ⟨⟨(some 25), (.mv (.t 0)), none⟩, true, false, none, []⟩,
  ⟨⟨(some 26), (.xx (.p .nilCk) [(.t 25)]), none⟩, true, false, none, []⟩,
  ⟨⟨(some 27), (.fadr 0 8 (.ia .u32 8) (.t 26)), none⟩, true, false, none, []⟩,
  ⟨⟨(some 28), (.load (.ia .u32 8) 8 (.t 27)), none⟩, true, false, none, []⟩,
  ⟨⟨(some 29), (.mv (.t 4)), none⟩, true, false, none, []⟩,
  ⟨⟨(some 30), (.slc 1 (.t 29) none (some (.v (.int .i64 64)))), none⟩, true, false, none, []⟩,
  ⟨⟨(some 31), (.call F_digest_mix [((.ia .u32 8), (.t 28)), (.sc, (.t 30))]), none⟩, false, false, none, []⟩,
  ⟨⟨(some 32), (.xx (.p .nilCk) [(.t 24)]), none⟩, true, false, none, []⟩,
  ⟨⟨(some 33), (.fadr 0 8 (.ia .u32 8) (.t 32)), none⟩, true, false, none, []⟩,
  ⟨⟨none, (.store (.ia .u32 8) 8 (.t 33) (.t 31)), none⟩, false, false, none, []⟩]
def q_Pdigest_Hash_Add_4 : List AOper := [
  ⟨(some 34), (.mv (.t 4)), none⟩,
  ⟨(some 35), (.slc 1 (.t 34) (some (.v (.int .i64 64))) none), none⟩,
  ⟨(some 4), (.mv (.t 35)), none⟩]
def q_Pdigest_Hash_Add_L5 : ACode := (.seq (.seq (.region q_Pdigest_Hash_Add_2) (.cond (.t 23) .skip (.exit 0))) (.block 1 (.seq (.regionD q_Pdigest_Hash_Add_3) (.region q_Pdigest_Hash_Add_4))))
def q_Pdigest_Hash_Add_5 : List AOper := [
  ⟨(some 36), (.mv (.t 0)), none⟩,
  ⟨(some 37), (.bslI 5 .u8 []), none⟩,
  ⟨(some 38), (.mv (.t 4)), none⟩,
  ⟨(some 39), (.appI 5 .u8 1 (.t 37) (.t 38)), none⟩,
  ⟨(some 40), (.xx (.p .nilCk) [(.t 36)]), none⟩,
  ⟨(some 41), (.fadr 8 1 .sc (.t 40)), none⟩,
  ⟨none, (.store .sc 1 (.t 41) (.t 39)), none⟩]
def a_Pdigest_Hash_Add : AFunc := ⟨[], (.seq (.region q_Pdigest_Hash_Add_0) (.seq (.region q_Pdigest_Hash_Add_1) (.seq (.block 0 (.loop q_Pdigest_Hash_Add_L5)) (.region q_Pdigest_Hash_Add_5))))⟩

def q_Pdigest_Hash_Sum_0 : List AOper := [
  ⟨(some 2), (.alloc 23 [(.iarr .u8 32 (List.replicate 32 0))]), none⟩]
def q_Pdigest_Hash_Sum_1 : List AOper := [
  ⟨(some 8), (.bslI 5 .u8 []), none⟩,
  ⟨(some 9), (.mv (.t 0)), none⟩,
  ⟨(some 10), (.xx (.p .nilCk) [(.t 9)]), none⟩,
  ⟨(some 11), (.fadr 8 1 .sc (.t 10)), none⟩,
  ⟨(some 12), (.load .sc 1 (.t 11)), none⟩,
  ⟨(some 13), (.appI 5 .u8 1 (.t 8) (.t 12)), none⟩,
  ⟨(some 14), (.bslI 5 .u8 [(.v (.int .u8 128))]), none⟩,
  ⟨(some 15), (.appI 5 .u8 1 (.t 13) (.t 14)), none⟩,
  ⟨(some 3), (.mv (.t 15)), none⟩]
def q_Pdigest_Hash_Sum_2 : List AOper := [
  ⟨(some 16), (.mv (.t 3)), none⟩,
  ⟨(some 17), (.len false (.t 16)), none⟩,
  ⟨(some 18), (.bin .rem (.t 17) (.v (.int .i64 64))), none⟩,
  ⟨(some 19), (.eq .scI true (.t 18) (.v (.int .i64 56))), none⟩]
def q_Pdigest_Hash_Sum_3 : List AOper := [
  ⟨(some 20), (.mv (.t 3)), none⟩,
  ⟨(some 21), (.bslI 5 .u8 [(.v (.int .u8 0))]), none⟩,
  ⟨(some 22), (.appI 5 .u8 1 (.t 20) (.t 21)), none⟩,
  ⟨(some 3), (.mv (.t 22)), none⟩]
def q_Pdigest_Hash_Sum_L4 : ACode := (.seq (.seq (.region q_Pdigest_Hash_Sum_2) (.cond (.t 19) .skip (.exit 0))) (.block 1 (.region q_Pdigest_Hash_Sum_3)))
def q_Pdigest_Hash_Sum_4 : List AOper := [
  ⟨(some 4), (.mv (.v (.int .i64 7))), none⟩]
def q_Pdigest_Hash_Sum_5 : List AOper := [
  ⟨(some 23), (.mv (.t 4)), none⟩,
  ⟨(some 24), (.bin .geq (.t 23) (.v (.int .i64 0))), none⟩]
def q_Pdigest_Hash_Sum_6 : List AOper := [
  ⟨(some 27), (.mv (.t 3)), none⟩,
  ⟨(some 28), (.mv (.t 0)), none⟩,
  ⟨(some 29), (.xx (.p .nilCk) [(.t 28)]), none⟩,
  ⟨(some 30), (.fadr 9 1 .sc (.t 29)), none⟩,
  ⟨(some 31), (.load .sc 1 (.t 30)), none⟩,
  ⟨(some 32), (.bin .mul (.v (.int .u64 8)) (.t 31)), none⟩,
  ⟨(some 33), (.mv (.t 4)), none⟩,
  ⟨(some 34), (.bin .mul (.v (.int .i64 8)) (.t 33)), none⟩,
  ⟨(some 35), (.bin .shr (.t 32) (.t 34)), none⟩,
  ⟨(some 36), (.conv .u8 (.t 35)), none⟩,
  ⟨(some 37), (.bslI 5 .u8 [(.t 36)]), none⟩,
  ⟨(some 38), (.appI 5 .u8 1 (.t 27) (.t 37)), none⟩,
  ⟨(some 3), (.mv (.t 38)), none⟩]
def q_Pdigest_Hash_Sum_7 : List AOper := [
  ⟨(some 25), (.mv (.t 4)), none⟩,
  ⟨(some 26), (.bin .sub (.t 25) (.v (.int .i64 1))), none⟩,
  ⟨(some 4), (.mv (.t 26)), none⟩]
def q_Pdigest_Hash_Sum_L8 : ACode := (.seq (.seq (.region q_Pdigest_Hash_Sum_5) (.cond (.t 24) .skip (.exit 2))) (.seq (.block 3 (.region q_Pdigest_Hash_Sum_6)) (.region q_Pdigest_Hash_Sum_7)))
def q_Pdigest_Hash_Sum_8 : List AOper := [
  ⟨(some 39), (.mv (.t 0)), none⟩,
  ⟨(some 40), (.xx (.p .nilCk) [(.t 39)]), none⟩,
  ⟨(some 41), (.fadr 0 8 (.ia .u32 8) (.t 40)), none⟩,
  ⟨(some 42), (.load (.ia .u32 8) 8 (.t 41)), none⟩,
  ⟨(some 5), (.alloc 133 [(.iarr .u32 8 [0, 0, 0, 0, 0, 0, 0, 0])]), none⟩,
  ⟨none, (.store (.ia .u32 8) 8 (.t 5) (.t 42)), none⟩]
def q_Pdigest_Hash_Sum_9 : List AOper := [
  ⟨(some 43), (.mv (.t 3)), none⟩,
  ⟨(some 44), (.len false (.t 43)), none⟩,
  ⟨(some 45), (.bin .gtr (.t 44) (.v (.int .i64 0))), none⟩]
def q_Pdigest_Hash_Sum_10 : List DOp := [
  ⟨⟨(some 48), (.load (.ia .u32 8) 8 (.t 5)), none⟩, true, false, none, []⟩,
  ⟨⟨(some 49), (.mv (.t 3)), none⟩, true, false, none, []⟩,
  ⟨⟨(some 50), (.slc 1 (.t 49) none (some (.v (.int .i64 64)))), none⟩, true, false, none, []⟩,
  ⟨⟨(some 51), (.call F_digest_mix [((.ia .u32 8), (.t 48)), (.sc, (.t 50))]), none⟩, false, false, none, []⟩,
  ⟨⟨none, (.store (.ia .u32 8) 8 (.t 5) (.t 51)), none⟩, false, false, none, []⟩]
def q_Pdigest_Hash_Sum_11 : List AOper := [
  ⟨(some 46), (.mv (.t 3)), none⟩,
  ⟨(some 47), (.slc 1 (.t 46) (some (.v (.int .i64 64))) none), none⟩,
  ⟨(some 3), (.mv (.t 47)), none⟩]
def q_Pdigest_Hash_Sum_L12 : ACode := (.seq (.seq (.region q_Pdigest_Hash_Sum_9) (.cond (.t 45) .skip (.exit 4))) (.seq (.block 5 (.regionD q_Pdigest_Hash_Sum_10)) (.region q_Pdigest_Hash_Sum_11)))
def q_Pdigest_Hash_Sum_12 : List AOper := [
  ⟨(some 6), (.alloc 23 [(.iarr .u8 32 (List.replicate 32 0))]), none⟩]
def q_Pdigest_Hash_Sum_13 : List AOper := [
  ⟨(some 52), (.mv (.v (.int .i64 0))), none⟩]
def q_Pdigest_Hash_Sum_14 : List AOper := [
  ⟨(some 53), (.bin .lss (.t 52) (.v (.int .i64 32))), none⟩]
def q_Pdigest_Hash_Sum_15 : List AOper := [
  ⟨(some 54), (.mv (.t 52)), none⟩,
  ⟨(some 7), (.mv (.t 54)), none⟩]
def q_Pdigest_Hash_Sum_16 : List AOper := [
  ⟨(some 55), (.mv (.t 7)), none⟩,
  ⟨(some 56), (.mv (.t 7)), none⟩,
  ⟨(some 57), (.bin .quo (.t 56) (.v (.int .i64 4))), none⟩,
  ⟨(some 58), (.idxA 8 1 true (.t 5) (.t 57)), none⟩,
  ⟨(some 59), (.load .sc 1 (.t 58)), none⟩,
  ⟨(some 60), (.mv (.t 7)), none⟩,
  ⟨(some 61), (.bin .rem (.t 60) (.v (.int .i64 4))), none⟩,
  ⟨(some 62), (.bin .mul (.v (.int .i64 8)) (.t 61)), none⟩,
  ⟨(some 63), (.bin .sub (.v (.int .i64 24)) (.t 62)), none⟩,
  ⟨(some 64), (.bin .shr (.t 59) (.t 63)), none⟩,
  ⟨(some 65), (.conv .u8 (.t 64)), none⟩,
  ⟨(some 66), (.idxA 32 1 true (.t 6) (.t 55)), none⟩,
  ⟨none, (.store .sc 1 (.t 66) (.t 65)), none⟩]
def q_Pdigest_Hash_Sum_17 : List AOper := [
  ⟨(some 67), (.bin .add (.t 52) (.v (.int .i64 1))), none⟩,
  ⟨(some 52), (.mv (.t 67)), none⟩]
def q_Pdigest_Hash_Sum_L18 : ACode := (.seq (.region q_Pdigest_Hash_Sum_14) (.seq (.cond (.t 53) .skip (.exit 6)) (.seq (.block 7 (.seq (.region q_Pdigest_Hash_Sum_15) (.region q_Pdigest_Hash_Sum_16))) (.region q_Pdigest_Hash_Sum_17))))
def q_Pdigest_Hash_Sum_18 : List AOper := [
  ⟨(some 68), (.load (.ia .u8 32) 32 (.t 6)), none⟩,
  ⟨none, (.store (.ia .u8 32) 32 (.t 2) (.t 68)), none⟩]
def a_Pdigest_Hash_Sum : AFunc := ⟨[(.cell 2 (.ia .u8 32) 32)], (.seq (.region q_Pdigest_Hash_Sum_0) (.seq (.region q_Pdigest_Hash_Sum_1) (.seq (.block 0 (.loop q_Pdigest_Hash_Sum_L4)) (.seq (.seq (.region q_Pdigest_Hash_Sum_4) (.block 2 (.loop q_Pdigest_Hash_Sum_L8))) (.seq (.region q_Pdigest_Hash_Sum_8) (.seq (.block 4 (.loop q_Pdigest_Hash_Sum_L12)) (.seq (.region q_Pdigest_Hash_Sum_12) (.seq (.seq (.region q_Pdigest_Hash_Sum_13) (.block 6 (.loop q_Pdigest_Hash_Sum_L18))) (.seq (.region q_Pdigest_Hash_Sum_18) .ret)))))))))⟩

def q_ref03_Sum_0 : List AOper := [
  ⟨(some 2), (.alloc 23 [(.iarr .u8 32 (List.replicate 32 0))]), none⟩]
def q_ref03_Sum_1 : List AOper := [
  ⟨(some 9), (.call F_ref03_table []), none⟩,
  ⟨(some 3), (.mv (.t 9)), none⟩]
def q_ref03_Sum_2 : List AOper := [
  ⟨(some 10), (.build (.ia .u32 8) [(.iarr .u32 8 [0, 0, 0, 0, 0, 0, 0, 0])] [(0, (1, (.v (.int .u32 1779033703)))), (1, (1, (.v (.int .u32 3144134277)))), (2, (1, (.v (.int .u32 1013904242)))), (3, (1, (.v (.int .u32 2773480762)))), (4, (1, (.v (.int .u32 1359893119)))), (5, (1, (.v (.int .u32 2600822924)))), (6, (1, (.v (.int .u32 528734635)))), (7, (1, (.v (.int .u32 1541459225))))]), none⟩,
  ⟨(some 4), (.alloc 133 [(.iarr .u32 8 [0, 0, 0, 0, 0, 0, 0, 0])]), none⟩,
  ⟨none, (.store (.ia .u32 8) 8 (.t 4) (.t 10)), none⟩]
def q_ref03_Sum_3 : List AOper := [
  ⟨(some 11), (.mv (.t 0)), none⟩,
  ⟨(some 12), (.call F_ref03_padded [(.sc, (.t 11))]), none⟩,
  ⟨(some 5), (.mv (.t 12)), none⟩]
def q_ref03_Sum_4 : List AOper := [
  ⟨(some 6), (.mv (.v (.int .i64 0))), none⟩]
def q_ref03_Sum_5 : List AOper := [
  ⟨(some 13), (.mv (.t 6)), none⟩,
  ⟨(some 14), (.mv (.t 5)), none⟩,
  ⟨(some 15), (.len false (.t 14)), none⟩,
  ⟨(some 16), (.bin .lss (.t 13) (.t 15)), none⟩]
def q_ref03_Sum_6 : List DOp := [
  ⟨⟨(some 19), (.load (.ia .u32 8) 8 (.t 4)), none⟩, true, false, none, []⟩,
  ⟨⟨(some 20), (.mv (.t 3)), none⟩, true, false, none, []⟩,
  ⟨⟨(some 21), (.mv (.t 5)), none⟩, true, false, none, []⟩,
  ⟨⟨(some 22), (.mv (.t 6)), none⟩, true, false, none, []⟩,
  ⟨⟨(some 23), (.call F_ref03_words [(.sc, (.t 21)), (.sc, (.t 22))]), none⟩, false, true, (some [4]), []⟩,
  ⟨⟨(some 24), (.call F_ref03_mixed [((.ia .u32 8), (.t 19)), (.sc, (.t 20)), ((.ia .u32 64), (.t 23))]), none⟩, false, false, none, []⟩,
  ⟨⟨none, (.store (.ia .u32 8) 8 (.t 4) (.t 24)), none⟩, false, false, none, []⟩]
def q_ref03_Sum_7 : List AOper := [
  ⟨(some 17), (.mv (.t 6)), none⟩,
  ⟨(some 18), (.bin .add (.t 17) (.v (.int .i64 64))), none⟩,
  ⟨(some 6), (.mv (.t 18)), none⟩]
def q_ref03_Sum_L8 : ACode := (.seq (.seq (.region q_ref03_Sum_5) (.cond (.t 16) .skip (.exit 0))) (.seq (.block 1 (.regionD q_ref03_Sum_6)) (.region q_ref03_Sum_7)))
def q_ref03_Sum_8 : List AOper := [
  ⟨(some 7), (.alloc 23 [(.iarr .u8 32 (List.replicate 32 0))]), none⟩]
def q_ref03_Sum_9 : List AOper := [
  ⟨(some 8), (.mv (.v (.int .i64 0))), none⟩]
def q_ref03_Sum_10 : List AOper := [
  ⟨(some 25), (.mv (.t 8)), none⟩,
  ⟨(some 26), (.bin .lss (.t 25) (.v (.int .i64 32))), none⟩]
def q_ref03_Sum_11 : List AOper := [
  ⟨(some 29), (.mv (.t 8)), none⟩,
  ⟨(some 30), (.mv (.t 8)), none⟩,
  ⟨(some 31), (.bin .quo (.t 30) (.v (.int .i64 4))), none⟩,
  ⟨(some 32), (.idxA 8 1 true (.t 4) (.t 31)), none⟩,
  ⟨(some 33), (.load .sc 1 (.t 32)), none⟩,
  ⟨(some 34), (.mv (.t 8)), none⟩,
  ⟨(some 35), (.bin .rem (.t 34) (.v (.int .i64 4))), none⟩,
  ⟨(some 36), (.bin .mul (.v (.int .i64 8)) (.t 35)), none⟩,
  ⟨(some 37), (.bin .sub (.v (.int .i64 24)) (.t 36)), none⟩,
  ⟨(some 38), (.conv .u64 (.t 37)), none⟩,
  ⟨(some 39), (.bin .shr (.t 33) (.t 38)), none⟩,
  ⟨(some 40), (.conv .u8 (.t 39)), none⟩,
  ⟨(some 41), (.idxA 32 1 true (.t 7) (.t 29)), none⟩,
  ⟨none, (.store .sc 1 (.t 41) (.t 40)), none⟩]
def q_ref03_Sum_12 : List AOper := [
  ⟨(some 27), (.mv (.t 8)), none⟩,
  ⟨(some 28), (.bin .add (.t 27) (.v (.int .i64 1))), none⟩,
  ⟨(some 8), (.mv (.t 28)), none⟩]
def q_ref03_Sum_L13 : ACode := (.seq (.seq (.region q_ref03_Sum_10) (.cond (.t 26) .skip (.exit 2))) (.seq (.block 3 (.region q_ref03_Sum_11)) (.region q_ref03_Sum_12)))
def q_ref03_Sum_13 : List AOper := [
  ⟨(some 42), (.load (.ia .u8 32) 32 (.t 7)), none⟩,
  ⟨none, (.store (.ia .u8 32) 32 (.t 2) (.t 42)), none⟩]
def a_ref03_Sum : AFunc := ⟨[(.cell 2 (.ia .u8 32) 32)], (.seq (.region q_ref03_Sum_0) (.seq (.region q_ref03_Sum_1) (.seq (.region q_ref03_Sum_2) (.seq (.region q_ref03_Sum_3) (.seq (.seq (.region q_ref03_Sum_4) (.block 0 (.loop q_ref03_Sum_L8))) (.seq (.region q_ref03_Sum_8) (.seq (.seq (.region q_ref03_Sum_9) (.block 2 (.loop q_ref03_Sum_L13))) (.seq (.region q_ref03_Sum_13) .ret))))))))⟩

def q_ref03_table_0 : List AOper := [
  ⟨(some 0), (.mv (.v .nilS)), none⟩]
def q_ref03_table_1 : List AOper := [
  ⟨(some 1), (.bslI 132 .u32 [(.v (.int .u32 1116352408)), (.v (.int .u32 1899447441)), (.v (.int .u32 3049323471)), (.v (.int .u32 3921009573)), (.v (.int .u32 961987163)), (.v (.int .u32 1508970993)), (.v (.int .u32 2453635748)), (.v (.int .u32 2870763221)), (.v (.int .u32 3624381080)), (.v (.int .u32 310598401)), (.v (.int .u32 607225278)), (.v (.int .u32 1426881987)), (.v (.int .u32 1925078388)), (.v (.int .u32 2162078206)), (.v (.int .u32 2614888103)), (.v (.int .u32 3248222580)), (.v (.int .u32 3835390401)), (.v (.int .u32 4022224774)), (.v (.int .u32 264347078)), (.v (.int .u32 604807628)), (.v (.int .u32 770255983)), (.v (.int .u32 1249150122)), (.v (.int .u32 1555081692)), (.v (.int .u32 1996064986)), (.v (.int .u32 2554220882)), (.v (.int .u32 2821834349)), (.v (.int .u32 2952996808)), (.v (.int .u32 3210313671)), (.v (.int .u32 3336571891)), (.v (.int .u32 3584528711)), (.v (.int .u32 113926993)), (.v (.int .u32 338241895)), (.v (.int .u32 666307205)), (.v (.int .u32 773529912)), (.v (.int .u32 1294757372)), (.v (.int .u32 1396182291)), (.v (.int .u32 1695183700)), (.v (.int .u32 1986661051)), (.v (.int .u32 2177026350)), (.v (.int .u32 2456956037)), (.v (.int .u32 2730485921)), (.v (.int .u32 2820302411)), (.v (.int .u32 3259730800)), (.v (.int .u32 3345764771)), (.v (.int .u32 3516065817)), (.v (.int .u32 3600352804)), (.v (.int .u32 4094571909)), (.v (.int .u32 275423344)), (.v (.int .u32 430227734)), (.v (.int .u32 506948616)), (.v (.int .u32 659060556)), (.v (.int .u32 883997877)), (.v (.int .u32 958139571)), (.v (.int .u32 1322822218)), (.v (.int .u32 1537002063)), (.v (.int .u32 1747873779)), (.v (.int .u32 1955562222)), (.v (.int .u32 2024104815)), (.v (.int .u32 2227730452)), (.v (.int .u32 2361852424)), (.v (.int .u32 2428436474)), (.v (.int .u32 2756734187)), (.v (.int .u32 3204031479)), (.v (.int .u32 3329325298))]), none⟩,
  ⟨(some 0), (.mv (.t 1)), none⟩]
def a_ref03_table : AFunc := ⟨[(.tmp 0)], (.seq (.region q_ref03_table_0) (.seq (.region q_ref03_table_1) .ret))⟩

def q_ref03_padded_0 : List AOper := [
  ⟨(some 2), (.mv (.v .nilS)), none⟩]
def q_ref03_padded_1 : List AOper := [
  ⟨(some 3), (.mv (.v .nilS)), none⟩]
def q_ref03_padded_2 : List AOper := [
  ⟨(some 6), (.mv (.t 3)), none⟩,
  ⟨(some 7), (.mv (.t 0)), none⟩,
  ⟨(some 8), (.appI 5 .u8 1 (.t 6) (.t 7)), none⟩,
  ⟨(some 3), (.mv (.t 8)), none⟩]
def q_ref03_padded_3 : List AOper := [
  ⟨(some 9), (.mv (.t 3)), none⟩,
  ⟨(some 10), (.bslI 5 .u8 [(.v (.int .u8 128))]), none⟩,
  ⟨(some 11), (.appI 5 .u8 1 (.t 9) (.t 10)), none⟩,
  ⟨(some 3), (.mv (.t 11)), none⟩]
def q_ref03_padded_4 : List AOper := [
  ⟨(some 12), (.mv (.t 3)), none⟩,
  ⟨(some 13), (.len false (.t 12)), none⟩,
  ⟨(some 14), (.bin .rem (.t 13) (.v (.int .i64 64))), none⟩,
  ⟨(some 15), (.eq .scI true (.t 14) (.v (.int .i64 56))), none⟩]
def q_ref03_padded_5 : List AOper := [
  ⟨(some 16), (.mv (.t 3)), none⟩,
  ⟨(some 17), (.bslI 5 .u8 [(.v (.int .u8 0))]), none⟩,
  ⟨(some 18), (.appI 5 .u8 1 (.t 16) (.t 17)), none⟩,
  ⟨(some 3), (.mv (.t 18)), none⟩]
def q_ref03_padded_L6 : ACode := (.seq (.seq (.region q_ref03_padded_4) (.cond (.t 15) .skip (.exit 0))) (.block 1 (.region q_ref03_padded_5)))
def q_ref03_padded_6 : List AOper := [
  ⟨(some 19), (.mv (.t 0)), none⟩,
  ⟨(some 20), (.len false (.t 19)), none⟩,
  ⟨(some 21), (.conv .u64 (.t 20)), none⟩,
  ⟨(some 22), (.bin .mul (.t 21) (.v (.int .u64 8))), none⟩,
  ⟨(some 4), (.mv (.t 22)), none⟩]
def q_ref03_padded_7 : List AOper := [
  ⟨(some 5), (.mv (.v (.int .i64 0))), none⟩]
def q_ref03_padded_8 : List AOper := [
  ⟨(some 23), (.mv (.t 5)), none⟩,
  ⟨(some 24), (.bin .lss (.t 23) (.v (.int .i64 8))), none⟩]
def q_ref03_padded_9 : List AOper := [
  ⟨(some 27), (.mv (.t 3)), none⟩,
  ⟨(some 28), (.mv (.t 4)), none⟩,
  ⟨(some 29), (.mv (.t 5)), none⟩,
  ⟨(some 30), (.bin .mul (.v (.int .i64 8)) (.t 29)), none⟩,
  ⟨(some 31), (.bin .sub (.v (.int .i64 56)) (.t 30)), none⟩,
  ⟨(some 32), (.conv .u64 (.t 31)), none⟩,
  ⟨(some 33), (.bin .shr (.t 28) (.t 32)), none⟩,
  ⟨(some 34), (.conv .u8 (.t 33)), none⟩,
  ⟨(some 35), (.bslI 5 .u8 [(.t 34)]), none⟩,
  ⟨(some 36), (.appI 5 .u8 1 (.t 27) (.t 35)), none⟩,
  ⟨(some 3), (.mv (.t 36)), none⟩]
def q_ref03_padded_10 : List AOper := [
  ⟨(some 25), (.mv (.t 5)), none⟩,
  ⟨(some 26), (.bin .add (.t 25) (.v (.int .i64 1))), none⟩,
  ⟨(some 5), (.mv (.t 26)), none⟩]
def q_ref03_padded_L11 : ACode := (.seq (.seq (.region q_ref03_padded_8) (.cond (.t 24) .skip (.exit 2))) (.seq (.block 3 (.region q_ref03_padded_9)) (.region q_ref03_padded_10)))
def q_ref03_padded_11 : List AOper := [
  ⟨(some 37), (.mv (.t 3)), none⟩,
  ⟨(some 2), (.mv (.t 37)), none⟩]
def a_ref03_padded : AFunc := ⟨[(.tmp 2)], (.seq (.region q_ref03_padded_0) (.seq (.region q_ref03_padded_1) (.seq (.region q_ref03_padded_2) (.seq (.region q_ref03_padded_3) (.seq (.block 0 (.loop q_ref03_padded_L6)) (.seq (.region q_ref03_padded_6) (.seq (.seq (.region q_ref03_padded_7) (.block 2 (.loop q_ref03_padded_L11))) (.seq (.region q_ref03_padded_11) .ret))))))))⟩

def q_ref03_mixed_0 : List AOper := [
  ⟨(some 3), (.box 133 (.ia .u32 8) (.t 0)), none⟩,
  ⟨(some 5), (.box 135 (.ia .u32 64) (.t 2)), none⟩,
  ⟨(some 6), (.alloc 133 [(.iarr .u32 8 [0, 0, 0, 0, 0, 0, 0, 0])]), none⟩]
def q_ref03_mixed_1 : List AOper := [
  ⟨(some 18), (.idxA 8 1 true (.t 3) (.v (.int .i64 0))), none⟩,
  ⟨(some 19), (.load .sc 1 (.t 18)), none⟩,
  ⟨(some 7), (.mv (.t 19)), none⟩]
def q_ref03_mixed_2 : List AOper := [
  ⟨(some 20), (.idxA 8 1 true (.t 3) (.v (.int .i64 1))), none⟩,
  ⟨(some 21), (.load .sc 1 (.t 20)), none⟩,
  ⟨(some 8), (.mv (.t 21)), none⟩]
def q_ref03_mixed_3 : List AOper := [
  ⟨(some 22), (.idxA 8 1 true (.t 3) (.v (.int .i64 2))), none⟩,
  ⟨(some 23), (.load .sc 1 (.t 22)), none⟩,
  ⟨(some 9), (.mv (.t 23)), none⟩]
def q_ref03_mixed_4 : List AOper := [
  ⟨(some 24), (.idxA 8 1 true (.t 3) (.v (.int .i64 3))), none⟩,
  ⟨(some 25), (.load .sc 1 (.t 24)), none⟩,
  ⟨(some 10), (.mv (.t 25)), none⟩]
def q_ref03_mixed_5 : List AOper := [
  ⟨(some 26), (.idxA 8 1 true (.t 3) (.v (.int .i64 4))), none⟩,
  ⟨(some 27), (.load .sc 1 (.t 26)), none⟩,
  ⟨(some 11), (.mv (.t 27)), none⟩]
def q_ref03_mixed_6 : List AOper := [
  ⟨(some 28), (.idxA 8 1 true (.t 3) (.v (.int .i64 5))), none⟩,
  ⟨(some 29), (.load .sc 1 (.t 28)), none⟩,
  ⟨(some 12), (.mv (.t 29)), none⟩]
def q_ref03_mixed_7 : List AOper := [
  ⟨(some 30), (.idxA 8 1 true (.t 3) (.v (.int .i64 6))), none⟩,
  ⟨(some 31), (.load .sc 1 (.t 30)), none⟩,
  ⟨(some 13), (.mv (.t 31)), none⟩]
def q_ref03_mixed_8 : List AOper := [
  ⟨(some 32), (.idxA 8 1 true (.t 3) (.v (.int .i64 7))), none⟩,
  ⟨(some 33), (.load .sc 1 (.t 32)), none⟩,
  ⟨(some 14), (.mv (.t 33)), none⟩]
def q_ref03_mixed_9 : List AOper := [
  ⟨(some 15), (.mv (.v (.int .i64 0))), none⟩]
def q_ref03_mixed_10 : List AOper := [
  ⟨(some 34), (.mv (.t 15)), none⟩,
  ⟨(some 35), (.bin .lss (.t 34) (.v (.int .i64 64))), none⟩]
def q_ref03_mixed_11 : List DOp := [
  ⟨⟨(some 38), (.mv (.t 14)), none⟩, true, false, none, []⟩,
  ⟨⟨(some 39), (.mv (.t 11)), none⟩, true, false, none, []⟩,
  ⟨⟨(some 41), (.mv (.t 11)), none⟩, true, false, none, []⟩,
  ⟨⟨(some 44), (.mv (.t 11)), none⟩, true, false, none, []⟩,
  ⟨⟨(some 48), (.mv (.t 11)), none⟩, true, false, none, []⟩,
  ⟨⟨(some 49), (.mv (.t 12)), none⟩, true, false, none, []⟩,
  ⟨⟨(some 50), (.bin .and (.t 48) (.t 49)), none⟩, true, false, none, []⟩,
  ⟨⟨(some 51), (.mv (.t 11)), none⟩, true, false, none, []⟩,
  ⟨⟨(some 52), (.bin .sub (.v (.int .u32 4294967295)) (.t 51)), none⟩, true, false, none, []⟩,
  ⟨⟨(some 53), (.mv (.t 13)), none⟩, true, false, none, []⟩,
  ⟨⟨(some 54), (.bin .and (.t 52) (.t 53)), none⟩, true, false, none, []⟩,
  ⟨⟨(some 55), (.bin .xor (.t 50) (.t 54)), none⟩, true, false, none, []⟩,
  ⟨⟨(some 57), (.mv (.t 1)), none⟩, true, false, none, []⟩,
  ⟨⟨(some 58), (.mv (.t 15)), none⟩, true, false, none, []⟩,
  ⟨⟨(some 59), (.idx 1 (.t 57) (.t 58)), none⟩, true, false, none, []⟩,
  ⟨⟨(some 60), (.load .sc 1 (.t 59)), none⟩, true, false, none, []⟩,
  ⟨⟨(some 62), (.mv (.t 15)), none⟩, true, false, none, []⟩,
  ⟨⟨(some 63), (.idxA 64 1 true (.t 5) (.t 62)), none⟩, true, false, none, []⟩,
  ⟨⟨(some 64), (.load .sc 1 (.t 63)), none⟩, true, false, none, []⟩,
  ⟨⟨(some 40), (.call F_ref03_right [(.sc, (.t 39)), (.sc, (.v (.int .u64 6)))]), none⟩, false, true, (some [63, 59, 57]), []⟩,
  ⟨⟨(some 42), (.call F_ref03_right [(.sc, (.t 41)), (.sc, (.v (.int .u64 11)))]), none⟩, false, true, (some [63, 59, 57]), []⟩,
  ⟨⟨(some 43), (.bin .xor (.t 40) (.t 42)), none⟩, true, false, none, []⟩,
  ⟨⟨(some 45), (.call F_ref03_right [(.sc, (.t 44)), (.sc, (.v (.int .u64 25)))]), none⟩, false, true, (some [63, 59, 57]), []⟩,
  ⟨⟨(some 46), (.bin .xor (.t 43) (.t 45)), none⟩, true, false, none, []⟩,
  ⟨⟨(some 47), (.bin .add (.t 38) (.t 46)), none⟩, true, false, none, []⟩,
  ⟨⟨(some 56), (.bin .add (.t 47) (.t 55)), none⟩, true, false, none, []⟩,
  ⟨⟨(some 61), (.bin .add (.t 56) (.t 60)), none⟩, true, false, none, []⟩,
  ⟨⟨(some 65), (.bin .add (.t 61) (.t 64)), none⟩, true, false, none, []⟩,
  ⟨⟨(some 16), (.mv (.t 65)), none⟩, true, false, none, []⟩]
def q_ref03_mixed_12 : List AOper := [
  ⟨(some 66), (.mv (.t 7)), none⟩,
  ⟨(some 67), (.call F_ref03_right [(.sc, (.t 66)), (.sc, (.v (.int .u64 2)))]), none⟩,
  ⟨(some 68), (.mv (.t 7)), none⟩,
  ⟨(some 69), (.call F_ref03_right [(.sc, (.t 68)), (.sc, (.v (.int .u64 13)))]), none⟩,
  ⟨(some 70), (.bin .xor (.t 67) (.t 69)), none⟩,
  ⟨(some 71), (.mv (.t 7)), none⟩,
  ⟨(some 72), (.call F_ref03_right [(.sc, (.t 71)), (.sc, (.v (.int .u64 22)))]), none⟩,
  ⟨(some 73), (.bin .xor (.t 70) (.t 72)), none⟩,
  ⟨(some 74), (.mv (.t 7)), none⟩,
  ⟨(some 75), (.mv (.t 8)), none⟩,
  ⟨(some 76), (.bin .and (.t 74) (.t 75)), none⟩,
  ⟨(some 77), (.mv (.t 7)), none⟩,
  ⟨(some 78), (.mv (.t 9)), none⟩,
  ⟨(some 79), (.bin .and (.t 77) (.t 78)), none⟩,
  ⟨(some 80), (.bin .xor (.t 76) (.t 79)), none⟩,
  ⟨(some 81), (.mv (.t 8)), none⟩,
  ⟨(some 82), (.mv (.t 9)), none⟩,
  ⟨(some 83), (.bin .and (.t 81) (.t 82)), none⟩,
  ⟨(some 84), (.bin .xor (.t 80) (.t 83)), none⟩,
  ⟨(some 85), (.bin .add (.t 73) (.t 84)), none⟩,
  ⟨(some 17), (.mv (.t 85)), none⟩]
def q_ref03_mixed_13 : List AOper := [
  ⟨(some 86), (.mv (.t 13)), none⟩,
  ⟨(some 14), (.mv (.t 86)), none⟩]
def q_ref03_mixed_14 : List AOper := [
  ⟨(some 87), (.mv (.t 12)), none⟩,
  ⟨(some 13), (.mv (.t 87)), none⟩]
def q_ref03_mixed_15 : List AOper := [
  ⟨(some 88), (.mv (.t 11)), none⟩,
  ⟨(some 12), (.mv (.t 88)), none⟩]
def q_ref03_mixed_16 : List AOper := [
  ⟨(some 89), (.mv (.t 10)), none⟩,
  ⟨(some 90), (.mv (.t 16)), none⟩,
  ⟨(some 91), (.bin .add (.t 89) (.t 90)), none⟩,
  ⟨(some 11), (.mv (.t 91)), none⟩]
def q_ref03_mixed_17 : List AOper := [
  ⟨(some 92), (.mv (.t 9)), none⟩,
  ⟨(some 10), (.mv (.t 92)), none⟩]
def q_ref03_mixed_18 : List AOper := [
  ⟨(some 93), (.mv (.t 8)), none⟩,
  ⟨(some 9), (.mv (.t 93)), none⟩]
def q_ref03_mixed_19 : List AOper := [
  ⟨(some 94), (.mv (.t 7)), none⟩,
  ⟨(some 8), (.mv (.t 94)), none⟩]
def q_ref03_mixed_20 : List AOper := [
  ⟨(some 95), (.mv (.t 16)), none⟩,
  ⟨(some 96), (.mv (.t 17)), none⟩,
  ⟨(some 97), (.bin .add (.t 95) (.t 96)), none⟩,
  ⟨(some 7), (.mv (.t 97)), none⟩]
def q_ref03_mixed_21 : List AOper := [
  ⟨(some 36), (.mv (.t 15)), none⟩,
  ⟨(some 37), (.bin .add (.t 36) (.v (.int .i64 1))), none⟩,
  ⟨(some 15), (.mv (.t 37)), none⟩]
def q_ref03_mixed_L22 : ACode := (.seq (.seq (.region q_ref03_mixed_10) (.cond (.t 35) .skip (.exit 0))) (.seq (.block 1 (.seq (.regionD q_ref03_mixed_11) (.seq (.region q_ref03_mixed_12) (.seq (.region q_ref03_mixed_13) (.seq (.region q_ref03_mixed_14) (.seq (.region q_ref03_mixed_15) (.seq (.region q_ref03_mixed_16) (.seq (.region q_ref03_mixed_17) (.seq (.region q_ref03_mixed_18) (.seq (.region q_ref03_mixed_19) (.region q_ref03_mixed_20))))))))))) (.region q_ref03_mixed_21)))
def q_ref03_mixed_22 : List AOper := [
  ⟨(some 98), (.idxA 8 1 true (.t 3) (.v (.int .i64 0))), none⟩,
  ⟨(some 99), (.load .sc 1 (.t 98)), none⟩,
  ⟨(some 100), (.mv (.t 7)), none⟩,
  ⟨(some 101), (.bin .add (.t 99) (.t 100)), none⟩,
  ⟨(some 102), (.idxA 8 1 true (.t 3) (.v (.int .i64 1))), none⟩,
  ⟨(some 103), (.load .sc 1 (.t 102)), none⟩,
  ⟨(some 104), (.mv (.t 8)), none⟩,
  ⟨(some 105), (.bin .add (.t 103) (.t 104)), none⟩,
  ⟨(some 106), (.idxA 8 1 true (.t 3) (.v (.int .i64 2))), none⟩,
  ⟨(some 107), (.load .sc 1 (.t 106)), none⟩,
  ⟨(some 108), (.mv (.t 9)), none⟩,
  ⟨(some 109), (.bin .add (.t 107) (.t 108)), none⟩,
  ⟨(some 110), (.idxA 8 1 true (.t 3) (.v (.int .i64 3))), none⟩,
  ⟨(some 111), (.load .sc 1 (.t 110)), none⟩,
  ⟨(some 112), (.mv (.t 10)), none⟩,
  ⟨(some 113), (.bin .add (.t 111) (.t 112)), none⟩,
  ⟨(some 114), (.idxA 8 1 true (.t 3) (.v (.int .i64 4))), none⟩,
  ⟨(some 115), (.load .sc 1 (.t 114)), none⟩,
  ⟨(some 116), (.mv (.t 11)), none⟩,
  ⟨(some 117), (.bin .add (.t 115) (.t 116)), none⟩,
  ⟨(some 118), (.idxA 8 1 true (.t 3) (.v (.int .i64 5))), none⟩,
  ⟨(some 119), (.load .sc 1 (.t 118)), none⟩,
  ⟨(some 120), (.mv (.t 12)), none⟩,
  ⟨(some 121), (.bin .add (.t 119) (.t 120)), none⟩,
  ⟨(some 122), (.idxA 8 1 true (.t 3) (.v (.int .i64 6))), none⟩,
  ⟨(some 123), (.load .sc 1 (.t 122)), none⟩,
  ⟨(some 124), (.mv (.t 13)), none⟩,
  ⟨(some 125), (.bin .add (.t 123) (.t 124)), none⟩,
  ⟨(some 126), (.idxA 8 1 true (.t 3) (.v (.int .i64 7))), none⟩,
  ⟨(some 127), (.load .sc 1 (.t 126)), none⟩,
  ⟨(some 128), (.mv (.t 14)), none⟩,
  ⟨(some 129), (.bin .add (.t 127) (.t 128)), none⟩,
  ⟨(some 130), (.build (.ia .u32 8) [(.iarr .u32 8 [0, 0, 0, 0, 0, 0, 0, 0])] [(0, (1, (.t 101))), (1, (1, (.t 105))), (2, (1, (.t 109))), (3, (1, (.t 113))), (4, (1, (.t 117))), (5, (1, (.t 121))), (6, (1, (.t 125))), (7, (1, (.t 129)))]), none⟩,
  ⟨none, (.store (.ia .u32 8) 8 (.t 6) (.t 130)), none⟩]
def a_ref03_mixed : AFunc := ⟨[(.cell 6 (.ia .u32 8) 8)], (.seq (.region q_ref03_mixed_0) (.seq (.region q_ref03_mixed_1) (.seq (.region q_ref03_mixed_2) (.seq (.region q_ref03_mixed_3) (.seq (.region q_ref03_mixed_4) (.seq (.region q_ref03_mixed_5) (.seq (.region q_ref03_mixed_6) (.seq (.region q_ref03_mixed_7) (.seq (.region q_ref03_mixed_8) (.seq (.seq (.region q_ref03_mixed_9) (.block 0 (.loop q_ref03_mixed_L22))) (.seq (.region q_ref03_mixed_22) .ret)))))))))))⟩

def q_ref03_words_0 : List AOper := [
  ⟨(some 4), (.alloc 135 [(.iarr .u32 64 (List.replicate 64 0))]), none⟩]
def q_ref03_words_1 : List AOper := [
  ⟨(some 5), (.alloc 135 [(.iarr .u32 64 (List.replicate 64 0))]), none⟩]
def q_ref03_words_2 : List AOper := [
  ⟨(some 6), (.mv (.v (.int .i64 0))), none⟩]
def q_ref03_words_3 : List AOper := [
  ⟨(some 10), (.mv (.t 6)), none⟩,
  ⟨(some 11), (.bin .lss (.t 10) (.v (.int .i64 16))), none⟩]
def q_ref03_words_4 : List DOp := [
  ⟨⟨(some 14), (.mv (.t 6)), none⟩, true, false, none, []⟩,
  ⟨⟨(some 15), (.mv (.t 0)), none⟩, true, false, none, []⟩,
  ⟨⟨(some 16), (.mv (.t 1)), none⟩, true, false, none, []⟩,
  ⟨⟨(some 17), (.mv (.t 6)), none⟩, true, false, none, []⟩,
  ⟨⟨(some 18), (.bin .mul (.v (.int .i64 4)) (.t 17)), none⟩, true, false, none, []⟩,
  ⟨⟨(some 19), (.bin .add (.t 16) (.t 18)), none⟩, true, false, none, []⟩,
  ⟨⟨(some 20), (.idx 1 (.t 15) (.t 19)), none⟩, true, false, none, []⟩,
  ⟨⟨(some 21), (.load .sc 1 (.t 20)), none⟩, true, false, none, []⟩,
  ⟨⟨(some 22), (.conv .u32 (.t 21)), none⟩, true, false, none, []⟩,
  ⟨⟨(some 23), (.bin .mul (.t 22) (.v (.int .u32 16777216))), none⟩, true, false, none, []⟩,
  ⟨⟨(some 24), (.mv (.t 0)), none⟩, true, false, none, []⟩,
  ⟨⟨(some 25), (.mv (.t 1)), none⟩, true, false, none, []⟩,
  ⟨⟨(some 26), (.mv (.t 6)), none⟩, true, false, none, []⟩,
  ⟨⟨(some 27), (.bin .mul (.v (.int .i64 4)) (.t 26)), none⟩, true, false, none, []⟩,
  ⟨⟨(some 28), (.bin .add (.t 25) (.t 27)), none⟩, true, false, none, []⟩,
  ⟨⟨(some 29), (.bin .add (.t 28) (.v (.int .i64 1))), none⟩, true, false, none, []⟩,
  ⟨⟨(some 30), (.idx 1 (.t 24) (.t 29)), none⟩, true, false, none, []⟩,
  ⟨⟨(some 31), (.load .sc 1 (.t 30)), none⟩, true, false, none, []⟩,
  ⟨⟨(some 32), (.conv .u32 (.t 31)), none⟩, true, false, none, []⟩,
  ⟨⟨(some 33), (.bin .mul (.t 32) (.v (.int .u32 65536))), none⟩, true, false, none, []⟩,
  ⟨⟨(some 34), (.bin .add (.t 23) (.t 33)), none⟩, true, false, none, []⟩,
  ⟨⟨(some 35), (.mv (.t 0)), none⟩, true, false, none, []⟩,
  ⟨⟨(some 36), (.mv (.t 1)), none⟩, true, false, none, []⟩,
  ⟨⟨(some 37), (.mv (.t 6)), none⟩, true, false, none, []⟩,
  ⟨⟨(some 38), (.bin .mul (.v (.int .i64 4)) (.t 37)), none⟩, true, false, none, []⟩,
  ⟨⟨(some 39), (.bin .add (.t 36) (.t 38)), none⟩, true, false, none, []⟩,
  ⟨⟨(some 40), (.bin .add (.t 39) (.v (.int .i64 2))), none⟩, true, false, none, []⟩,
  ⟨⟨(some 41), (.idx 1 (.t 35) (.t 40)), none⟩, true, false, none, []⟩,
  ⟨⟨(some 42), (.load .sc 1 (.t 41)), none⟩, true, false, none, []⟩,
  ⟨⟨(some 43), (.conv .u32 (.t 42)), none⟩, true, false, none, []⟩,
  ⟨⟨(some 44), (.bin .mul (.t 43) (.v (.int .u32 256))), none⟩, true, false, none, []⟩,
  ⟨⟨(some 45), (.bin .add (.t 34) (.t 44)), none⟩, true, false, none, []⟩,
  ⟨⟨(some 46), (.mv (.t 0)), none⟩, true, false, none, []⟩,
  ⟨⟨(some 47), (.mv (.t 1)), none⟩, true, false, none, []⟩,
  ⟨⟨(some 48), (.mv (.t 6)), none⟩, true, false, none, []⟩,
  ⟨⟨(some 49), (.bin .mul (.v (.int .i64 4)) (.t 48)), none⟩, true, false, none, []⟩,
  ⟨⟨(some 50), (.bin .add (.t 47) (.t 49)), none⟩, true, false, none, []⟩,
  ⟨⟨(some 51), (.bin .add (.t 50) (.v (.int .i64 3))), none⟩, true, false, none, []⟩,
  ⟨⟨(some 52), (.idx 1 (.t 46) (.t 51)), none⟩, true, false, none, []⟩,
  ⟨⟨(some 53), (.load .sc 1 (.t 52)), none⟩, true, false, none, []⟩,
  ⟨⟨(some 54), (.conv .u32 (.t 53)), none⟩, true, false, none, []⟩,
  ⟨⟨(some 55), (.bin .add (.t 45) (.t 54)), none⟩, true, false, none, []⟩,
  ⟨⟨(some 56), (.idxA 64 1 true (.t 5) (.t 14)), none⟩, true, false, none, []⟩,
  ⟨⟨none, (.store .sc 1 (.t 56) (.t 55)), none⟩, false, false, none, []⟩]
def q_ref03_words_5 : List AOper := [
  ⟨(some 12), (.mv (.t 6)), none⟩,
  ⟨(some 13), (.bin .add (.t 12) (.v (.int .i64 1))), none⟩,
  ⟨(some 6), (.mv (.t 13)), none⟩]
def q_ref03_words_L6 : ACode := (.seq (.seq (.region q_ref03_words_3) (.cond (.t 11) .skip (.exit 0))) (.seq (.block 1 (.regionD q_ref03_words_4)) (.region q_ref03_words_5)))
def q_ref03_words_6 : List AOper := [
  ⟨(some 7), (.mv (.v (.int .i64 16))), none⟩]
def q_ref03_words_7 : List AOper := [
  ⟨(some 57), (.mv (.t 7)), none⟩,
  ⟨(some 58), (.bin .lss (.t 57) (.v (.int .i64 64))), none⟩]
def q_ref03_words_8 : List DOp := [
  ⟨⟨(some 61), (.mv (.t 7)), none⟩, true, false, none, []⟩,
  ⟨⟨(some 62), (.bin .sub (.t 61) (.v (.int .i64 15))), none⟩, true, false, none, []⟩,
  ⟨⟨(some 63), (.idxA 64 1 true (.t 5) (.t 62)), none⟩, true, false, none, []⟩,
  ⟨⟨(some 64), (.load .sc 1 (.t 63)), none⟩, true, false, none, []⟩,
  ⟨⟨(some 66), (.mv (.t 7)), none⟩, true, false, none, []⟩,
  ⟨⟨(some 67), (.bin .sub (.t 66) (.v (.int .i64 15))), none⟩, true, false, none, []⟩,
  ⟨⟨(some 68), (.idxA 64 1 true (.t 5) (.t 67)), none⟩, true, false, none, []⟩,
  ⟨⟨(some 69), (.load .sc 1 (.t 68)), none⟩, true, false, none, []⟩,
  ⟨⟨(some 72), (.mv (.t 7)), none⟩, true, false, none, []⟩,
  ⟨⟨(some 73), (.bin .sub (.t 72) (.v (.int .i64 15))), none⟩, true, false, none, []⟩,
  ⟨⟨(some 74), (.idxA 64 1 true (.t 5) (.t 73)), none⟩, true, false, none, []⟩,
  ⟨⟨(some 75), (.load .sc 1 (.t 74)), none⟩, true, false, none, []⟩,
  ⟨⟨(some 76), (.bin .shr (.t 75) (.v (.int .u64 3))), none⟩, true, false, none, []⟩,
  ⟨⟨(some 65), (.call F_ref03_right [(.sc, (.t 64)), (.sc, (.v (.int .u64 7)))]), none⟩, false, true, (some [74, 68]), []⟩,
  ⟨⟨(some 70), (.call F_ref03_right [(.sc, (.t 69)), (.sc, (.v (.int .u64 18)))]), none⟩, false, true, (some [74]), []⟩,
  ⟨⟨(some 71), (.bin .xor (.t 65) (.t 70)), none⟩, true, false, none, []⟩,
  ⟨⟨(some 77), (.bin .xor (.t 71) (.t 76)), none⟩, true, false, none, []⟩,
  ⟨⟨(some 8), (.mv (.t 77)), none⟩, true, false, none, []⟩]
def q_ref03_words_9 : List DOp := [
  ⟨⟨(some 78), (.mv (.t 7)), none⟩, true, false, none, []⟩,
  ⟨⟨(some 79), (.bin .sub (.t 78) (.v (.int .i64 2))), none⟩, true, false, none, []⟩,
  ⟨⟨(some 80), (.idxA 64 1 true (.t 5) (.t 79)), none⟩, true, false, none, []⟩,
  ⟨⟨(some 81), (.load .sc 1 (.t 80)), none⟩, true, false, none, []⟩,
  ⟨⟨(some 83), (.mv (.t 7)), none⟩, true, false, none, []⟩,
  ⟨⟨(some 84), (.bin .sub (.t 83) (.v (.int .i64 2))), none⟩, true, false, none, []⟩,
  ⟨⟨(some 85), (.idxA 64 1 true (.t 5) (.t 84)), none⟩, true, false, none, []⟩,
  ⟨⟨(some 86), (.load .sc 1 (.t 85)), none⟩, true, false, none, []⟩,
  ⟨⟨(some 89), (.mv (.t 7)), none⟩, true, false, none, []⟩,
  ⟨⟨(some 90), (.bin .sub (.t 89) (.v (.int .i64 2))), none⟩, true, false, none, []⟩,
  ⟨⟨(some 91), (.idxA 64 1 true (.t 5) (.t 90)), none⟩, true, false, none, []⟩,
  ⟨⟨(some 92), (.load .sc 1 (.t 91)), none⟩, true, false, none, []⟩,
  ⟨⟨(some 93), (.bin .shr (.t 92) (.v (.int .u64 10))), none⟩, true, false, none, []⟩,
  ⟨⟨(some 82), (.call F_ref03_right [(.sc, (.t 81)), (.sc, (.v (.int .u64 17)))]), none⟩, false, true, (some [91, 85]), []⟩,
  ⟨⟨(some 87), (.call F_ref03_right [(.sc, (.t 86)), (.sc, (.v (.int .u64 19)))]), none⟩, false, true, (some [91]), []⟩,
  ⟨⟨(some 88), (.bin .xor (.t 82) (.t 87)), none⟩, true, false, none, []⟩,
  ⟨⟨(some 94), (.bin .xor (.t 88) (.t 93)), none⟩, true, false, none, []⟩,
  ⟨⟨(some 9), (.mv (.t 94)), none⟩, true, false, none, []⟩]
def q_ref03_words_10 : List DOp := [
  ⟨⟨(some 95), (.mv (.t 7)), none⟩, true, false, none, []⟩,
  ⟨⟨(some 96), (.mv (.t 7)), none⟩, true, false, none, []⟩,
  ⟨⟨(some 97), (.bin .sub (.t 96) (.v (.int .i64 16))), none⟩, true, false, none, []⟩,
  ⟨⟨(some 98), (.idxA 64 1 true (.t 5) (.t 97)), none⟩, true, false, none, []⟩,
  ⟨⟨(some 99), (.load .sc 1 (.t 98)), none⟩, true, false, none, []⟩,
  ⟨⟨(some 100), (.mv (.t 8)), none⟩, true, false, none, []⟩,
  ⟨⟨(some 101), (.bin .add (.t 99) (.t 100)), none⟩, true, false, none, []⟩,
  ⟨⟨(some 102), (.mv (.t 7)), none⟩, true, false, none, []⟩,
  ⟨⟨(some 103), (.bin .sub (.t 102) (.v (.int .i64 7))), none⟩, true, false, none, []⟩,
  ⟨⟨(some 104), (.idxA 64 1 true (.t 5) (.t 103)), none⟩, true, false, none, []⟩,
  ⟨⟨(some 105), (.load .sc 1 (.t 104)), none⟩, true, false, none, []⟩,
  ⟨⟨(some 106), (.bin .add (.t 101) (.t 105)), none⟩, true, false, none, []⟩,
  ⟨⟨(some 107), (.mv (.t 9)), none⟩, true, false, none, []⟩,
  ⟨⟨(some 108), (.bin .add (.t 106) (.t 107)), none⟩, true, false, none, []⟩,
  ⟨⟨(some 109), (.idxA 64 1 true (.t 5) (.t 95)), none⟩, true, false, none, []⟩,
  ⟨⟨none, (.store .sc 1 (.t 109) (.t 108)), none⟩, false, false, none, []⟩]
def q_ref03_words_11 : List AOper := [
  ⟨(some 59), (.mv (.t 7)), none⟩,
  ⟨(some 60), (.bin .add (.t 59) (.v (.int .i64 1))), none⟩,
  ⟨(some 7), (.mv (.t 60)), none⟩]
def q_ref03_words_L12 : ACode := (.seq (.seq (.region q_ref03_words_7) (.cond (.t 58) .skip (.exit 2))) (.seq (.block 3 (.seq (.regionD q_ref03_words_8) (.seq (.regionD q_ref03_words_9) (.regionD q_ref03_words_10)))) (.region q_ref03_words_11)))
def q_ref03_words_12 : List AOper := [
  ⟨(some 110), (.load (.ia .u32 64) 64 (.t 5)), none⟩,
  ⟨none, (.store (.ia .u32 64) 64 (.t 4) (.t 110)), none⟩]
def a_ref03_words : AFunc := ⟨[(.cell 4 (.ia .u32 64) 64)], (.seq (.region q_ref03_words_0) (.seq (.region q_ref03_words_1) (.seq (.seq (.region q_ref03_words_2) (.block 0 (.loop q_ref03_words_L6))) (.seq (.seq (.region q_ref03_words_6) (.block 2 (.loop q_ref03_words_L12))) (.seq (.region q_ref03_words_12) .ret)))))⟩

def q_ref03_right_0 : List AOper := [
  ⟨(some 4), (.mv (.v (.int .u32 0))), none⟩]
def q_ref03_right_1 : List AOper := [
  ⟨(some 5), (.mv (.t 0)), none⟩,
  ⟨(some 6), (.mv (.t 1)), none⟩,
  ⟨(some 7), (.bin .shr (.t 5) (.t 6)), none⟩,
  ⟨(some 8), (.mv (.t 0)), none⟩,
  ⟨(some 9), (.mv (.t 1)), none⟩,
  ⟨(some 10), (.bin .sub (.v (.int .u64 32)) (.t 9)), none⟩,
  ⟨(some 11), (.bin .shl (.t 8) (.t 10)), none⟩,
  ⟨(some 12), (.bin .or (.t 7) (.t 11)), none⟩,
  ⟨(some 4), (.mv (.t 12)), none⟩]
def a_ref03_right : AFunc := ⟨[(.tmp 4)], (.seq (.region q_ref03_right_0) (.seq (.region q_ref03_right_1) .ret))⟩


theorem c_digest_Of : trF Try.prog Try.f92 = some a_digest_Of := by kernel_rfl
theorem g_digest_Of : Try.prog.funcs[92]? = some Try.f92 := by kernel_rfl
theorem i_digest_Of {args : List AV} {A : Heap} {Ko : AOut → Heap → Prop} (hn : args.length ≤ 19)
    (h : ∀ R : APost, (∀ e env A, fpost a_digest_Of.res Ko e env A → R e env A) → X Try.prog R a_digest_Of.body .done (env0 args) A) : SimX Try.prog F_digest_Of args A Ko :=
  X_intro g_digest_Of c_digest_Of (by rw [Try.ntmps92]; exact hn) h
theorem v_digest_Of {args : List AV} {v : AV} (hn : args.length ≤ 19) (h : X Try.prog (fin a_digest_Of.res v) a_digest_Of.body .done (env0 args) H0) : Gives Try.prog F_digest_Of args v :=
  Gives_intro g_digest_Of c_digest_Of (by rw [Try.ntmps92]; exact hn) h
theorem e_digest_Of {args : List AV} {Q : AOut → Prop} (hn : args.length ≤ 19) (h : X Try.prog (finE a_digest_Of.res Q) a_digest_Of.body .done (env0 args) H0) : Fins Try.prog F_digest_Of args Q :=
  Fins_intro g_digest_Of c_digest_Of (by rw [Try.ntmps92]; exact hn) h
theorem j_digest_Of {args : List AV} {A : Heap} {K Kp : AV → Heap → Prop} (hn : args.length ≤ 19) (h : X Try.prog (inl a_digest_Of.res K Kp) a_digest_Of.body .done (env0 args) A) : SimX Try.prog F_digest_Of args A (outK K Kp) :=
  X_inl g_digest_Of c_digest_Of (by rw [Try.ntmps92]; exact hn) h
theorem d_digest_Of {args : List AV} {A : Heap} {Ko : AOut → Heap → Prop} (hn : args.length ≤ 19) (hrf : AVL.Func.hasRF Try.f92 = false)
    (h : ∀ R : APost, (∀ e env A, fpost a_digest_Of.res Ko e env A → R e env A) → X Try.prog R a_digest_Of.body .done (env0 args) A) : SimD Try.prog F_digest_Of args A Ko :=
  X_introD g_digest_Of c_digest_Of (by rw [Try.ntmps92]; exact hn) hrf h
@[simp] theorem k_digest_Of : callable Try.prog F_digest_Of = true := by kernel_rfl
theorem c_digest_New : trF Try.prog Try.f94 = some a_digest_New := by kernel_rfl
theorem g_digest_New : Try.prog.funcs[94]? = some Try.f94 := by kernel_rfl
theorem i_digest_New {args : List AV} {A : Heap} {Ko : AOut → Heap → Prop} (hn : args.length ≤ 4)
    (h : ∀ R : APost, (∀ e env A, fpost a_digest_New.res Ko e env A → R e env A) → X Try.prog R a_digest_New.body .done (env0 args) A) : SimX Try.prog F_digest_New args A Ko :=
  X_intro g_digest_New c_digest_New (by rw [Try.ntmps94]; exact hn) h
theorem v_digest_New {args : List AV} {v : AV} (hn : args.length ≤ 4) (h : X Try.prog (fin a_digest_New.res v) a_digest_New.body .done (env0 args) H0) : Gives Try.prog F_digest_New args v :=
  Gives_intro g_digest_New c_digest_New (by rw [Try.ntmps94]; exact hn) h
theorem e_digest_New {args : List AV} {Q : AOut → Prop} (hn : args.length ≤ 4) (h : X Try.prog (finE a_digest_New.res Q) a_digest_New.body .done (env0 args) H0) : Fins Try.prog F_digest_New args Q :=
  Fins_intro g_digest_New c_digest_New (by rw [Try.ntmps94]; exact hn) h
theorem j_digest_New {args : List AV} {A : Heap} {K Kp : AV → Heap → Prop} (hn : args.length ≤ 4) (h : X Try.prog (inl a_digest_New.res K Kp) a_digest_New.body .done (env0 args) A) : SimX Try.prog F_digest_New args A (outK K Kp) :=
  X_inl g_digest_New c_digest_New (by rw [Try.ntmps94]; exact hn) h
theorem d_digest_New {args : List AV} {A : Heap} {Ko : AOut → Heap → Prop} (hn : args.length ≤ 4) (hrf : AVL.Func.hasRF Try.f94 = false)
    (h : ∀ R : APost, (∀ e env A, fpost a_digest_New.res Ko e env A → R e env A) → X Try.prog R a_digest_New.body .done (env0 args) A) : SimD Try.prog F_digest_New args A Ko :=
  X_introD g_digest_New c_digest_New (by rw [Try.ntmps94]; exact hn) hrf h
@[simp] theorem k_digest_New : callable Try.prog F_digest_New = true := by kernel_rfl
theorem c_digest_mix : trF Try.prog Try.f127 = some a_digest_mix := by kernel_rfl
theorem g_digest_mix : Try.prog.funcs[127]? = some Try.f127 := by kernel_rfl
theorem i_digest_mix {args : List AV} {A : Heap} {Ko : AOut → Heap → Prop} (hn : args.length ≤ 113)
    (h : ∀ R : APost, (∀ e env A, fpost a_digest_mix.res Ko e env A → R e env A) → X Try.prog R a_digest_mix.body .done (env0 args) A) : SimX Try.prog F_digest_mix args A Ko :=
  X_intro g_digest_mix c_digest_mix (by rw [Try.ntmps127]; exact hn) h
theorem v_digest_mix {args : List AV} {v : AV} (hn : args.length ≤ 113) (h : X Try.prog (fin a_digest_mix.res v) a_digest_mix.body .done (env0 args) H0) : Gives Try.prog F_digest_mix args v :=
  Gives_intro g_digest_mix c_digest_mix (by rw [Try.ntmps127]; exact hn) h
theorem e_digest_mix {args : List AV} {Q : AOut → Prop} (hn : args.length ≤ 113) (h : X Try.prog (finE a_digest_mix.res Q) a_digest_mix.body .done (env0 args) H0) : Fins Try.prog F_digest_mix args Q :=
  Fins_intro g_digest_mix c_digest_mix (by rw [Try.ntmps127]; exact hn) h
theorem j_digest_mix {args : List AV} {A : Heap} {K Kp : AV → Heap → Prop} (hn : args.length ≤ 113) (h : X Try.prog (inl a_digest_mix.res K Kp) a_digest_mix.body .done (env0 args) A) : SimX Try.prog F_digest_mix args A (outK K Kp) :=
  X_inl g_digest_mix c_digest_mix (by rw [Try.ntmps127]; exact hn) h
theorem d_digest_mix {args : List AV} {A : Heap} {Ko : AOut → Heap → Prop} (hn : args.length ≤ 113) (hrf : AVL.Func.hasRF Try.f127 = false)
    (h : ∀ R : APost, (∀ e env A, fpost a_digest_mix.res Ko e env A → R e env A) → X Try.prog R a_digest_mix.body .done (env0 args) A) : SimD Try.prog F_digest_mix args A Ko :=
  X_introD g_digest_mix c_digest_mix (by rw [Try.ntmps127]; exact hn) hrf h
@[simp] theorem k_digest_mix : callable Try.prog F_digest_mix = true := by kernel_rfl
theorem c_digest_spread : trF Try.prog Try.f136 = some a_digest_spread := by kernel_rfl
theorem g_digest_spread : Try.prog.funcs[136]? = some Try.f136 := by kernel_rfl
theorem i_digest_spread {args : List AV} {A : Heap} {Ko : AOut → Heap → Prop} (hn : args.length ≤ 89)
    (h : ∀ R : APost, (∀ e env A, fpost a_digest_spread.res Ko e env A → R e env A) → X Try.prog R a_digest_spread.body .done (env0 args) A) : SimX Try.prog F_digest_spread args A Ko :=
  X_intro g_digest_spread c_digest_spread (by rw [Try.ntmps136]; exact hn) h
theorem v_digest_spread {args : List AV} {v : AV} (hn : args.length ≤ 89) (h : X Try.prog (fin a_digest_spread.res v) a_digest_spread.body .done (env0 args) H0) : Gives Try.prog F_digest_spread args v :=
  Gives_intro g_digest_spread c_digest_spread (by rw [Try.ntmps136]; exact hn) h
theorem e_digest_spread {args : List AV} {Q : AOut → Prop} (hn : args.length ≤ 89) (h : X Try.prog (finE a_digest_spread.res Q) a_digest_spread.body .done (env0 args) H0) : Fins Try.prog F_digest_spread args Q :=
  Fins_intro g_digest_spread c_digest_spread (by rw [Try.ntmps136]; exact hn) h
theorem j_digest_spread {args : List AV} {A : Heap} {K Kp : AV → Heap → Prop} (hn : args.length ≤ 89) (h : X Try.prog (inl a_digest_spread.res K Kp) a_digest_spread.body .done (env0 args) A) : SimX Try.prog F_digest_spread args A (outK K Kp) :=
  X_inl g_digest_spread c_digest_spread (by rw [Try.ntmps136]; exact hn) h
theorem d_digest_spread {args : List AV} {A : Heap} {Ko : AOut → Heap → Prop} (hn : args.length ≤ 89) (hrf : AVL.Func.hasRF Try.f136 = false)
    (h : ∀ R : APost, (∀ e env A, fpost a_digest_spread.res Ko e env A → R e env A) → X Try.prog R a_digest_spread.body .done (env0 args) A) : SimD Try.prog F_digest_spread args A Ko :=
  X_introD g_digest_spread c_digest_spread (by rw [Try.ntmps136]; exact hn) hrf h
@[simp] theorem k_digest_spread : callable Try.prog F_digest_spread = true := by kernel_rfl
theorem c_digest_rounds : trF Try.prog Try.f137 = some a_digest_rounds := by kernel_rfl
theorem g_digest_rounds : Try.prog.funcs[137]? = some Try.f137 := by kernel_rfl
theorem i_digest_rounds {args : List AV} {A : Heap} {Ko : AOut → Heap → Prop} (hn : args.length ≤ 2)
    (h : ∀ R : APost, (∀ e env A, fpost a_digest_rounds.res Ko e env A → R e env A) → X Try.prog R a_digest_rounds.body .done (env0 args) A) : SimX Try.prog F_digest_rounds args A Ko :=
  X_intro g_digest_rounds c_digest_rounds (by rw [Try.ntmps137]; exact hn) h
theorem v_digest_rounds {args : List AV} {v : AV} (hn : args.length ≤ 2) (h : X Try.prog (fin a_digest_rounds.res v) a_digest_rounds.body .done (env0 args) H0) : Gives Try.prog F_digest_rounds args v :=
  Gives_intro g_digest_rounds c_digest_rounds (by rw [Try.ntmps137]; exact hn) h
theorem e_digest_rounds {args : List AV} {Q : AOut → Prop} (hn : args.length ≤ 2) (h : X Try.prog (finE a_digest_rounds.res Q) a_digest_rounds.body .done (env0 args) H0) : Fins Try.prog F_digest_rounds args Q :=
  Fins_intro g_digest_rounds c_digest_rounds (by rw [Try.ntmps137]; exact hn) h
theorem j_digest_rounds {args : List AV} {A : Heap} {K Kp : AV → Heap → Prop} (hn : args.length ≤ 2) (h : X Try.prog (inl a_digest_rounds.res K Kp) a_digest_rounds.body .done (env0 args) A) : SimX Try.prog F_digest_rounds args A (outK K Kp) :=
  X_inl g_digest_rounds c_digest_rounds (by rw [Try.ntmps137]; exact hn) h
theorem d_digest_rounds {args : List AV} {A : Heap} {Ko : AOut → Heap → Prop} (hn : args.length ≤ 2) (hrf : AVL.Func.hasRF Try.f137 = false)
    (h : ∀ R : APost, (∀ e env A, fpost a_digest_rounds.res Ko e env A → R e env A) → X Try.prog R a_digest_rounds.body .done (env0 args) A) : SimD Try.prog F_digest_rounds args A Ko :=
  X_introD g_digest_rounds c_digest_rounds (by rw [Try.ntmps137]; exact hn) hrf h
@[simp] theorem k_digest_rounds : callable Try.prog F_digest_rounds = true := by kernel_rfl
theorem c_digest_spin : trF Try.prog Try.f138 = some a_digest_spin := by kernel_rfl
theorem g_digest_spin : Try.prog.funcs[138]? = some Try.f138 := by kernel_rfl
theorem i_digest_spin {args : List AV} {A : Heap} {Ko : AOut → Heap → Prop} (hn : args.length ≤ 13)
    (h : ∀ R : APost, (∀ e env A, fpost a_digest_spin.res Ko e env A → R e env A) → X Try.prog R a_digest_spin.body .done (env0 args) A) : SimX Try.prog F_digest_spin args A Ko :=
  X_intro g_digest_spin c_digest_spin (by rw [Try.ntmps138]; exact hn) h
theorem v_digest_spin {args : List AV} {v : AV} (hn : args.length ≤ 13) (h : X Try.prog (fin a_digest_spin.res v) a_digest_spin.body .done (env0 args) H0) : Gives Try.prog F_digest_spin args v :=
  Gives_intro g_digest_spin c_digest_spin (by rw [Try.ntmps138]; exact hn) h
theorem e_digest_spin {args : List AV} {Q : AOut → Prop} (hn : args.length ≤ 13) (h : X Try.prog (finE a_digest_spin.res Q) a_digest_spin.body .done (env0 args) H0) : Fins Try.prog F_digest_spin args Q :=
  Fins_intro g_digest_spin c_digest_spin (by rw [Try.ntmps138]; exact hn) h
theorem j_digest_spin {args : List AV} {A : Heap} {K Kp : AV → Heap → Prop} (hn : args.length ≤ 13) (h : X Try.prog (inl a_digest_spin.res K Kp) a_digest_spin.body .done (env0 args) A) : SimX Try.prog F_digest_spin args A (outK K Kp) :=
  X_inl g_digest_spin c_digest_spin (by rw [Try.ntmps138]; exact hn) h
theorem d_digest_spin {args : List AV} {A : Heap} {Ko : AOut → Heap → Prop} (hn : args.length ≤ 13) (hrf : AVL.Func.hasRF Try.f138 = false)
    (h : ∀ R : APost, (∀ e env A, fpost a_digest_spin.res Ko e env A → R e env A) → X Try.prog R a_digest_spin.body .done (env0 args) A) : SimD Try.prog F_digest_spin args A Ko :=
  X_introD g_digest_spin c_digest_spin (by rw [Try.ntmps138]; exact hn) hrf h
@[simp] theorem k_digest_spin : callable Try.prog F_digest_spin = true := by kernel_rfl
theorem c_Pdigest_Hash_Add : trF Try.prog Try.f95 = some a_Pdigest_Hash_Add := by kernel_rfl
theorem g_Pdigest_Hash_Add : Try.prog.funcs[95]? = some Try.f95 := by kernel_rfl
theorem i_Pdigest_Hash_Add {args : List AV} {A : Heap} {Ko : AOut → Heap → Prop} (hn : args.length ≤ 42)
    (h : ∀ R : APost, (∀ e env A, fpost a_Pdigest_Hash_Add.res Ko e env A → R e env A) → X Try.prog R a_Pdigest_Hash_Add.body .done (env0 args) A) : SimX Try.prog F_Pdigest_Hash_Add args A Ko :=
  X_intro g_Pdigest_Hash_Add c_Pdigest_Hash_Add (by rw [Try.ntmps95]; exact hn) h
theorem v_Pdigest_Hash_Add {args : List AV} {v : AV} (hn : args.length ≤ 42) (h : X Try.prog (fin a_Pdigest_Hash_Add.res v) a_Pdigest_Hash_Add.body .done (env0 args) H0) : Gives Try.prog F_Pdigest_Hash_Add args v :=
  Gives_intro g_Pdigest_Hash_Add c_Pdigest_Hash_Add (by rw [Try.ntmps95]; exact hn) h
theorem e_Pdigest_Hash_Add {args : List AV} {Q : AOut → Prop} (hn : args.length ≤ 42) (h : X Try.prog (finE a_Pdigest_Hash_Add.res Q) a_Pdigest_Hash_Add.body .done (env0 args) H0) : Fins Try.prog F_Pdigest_Hash_Add args Q :=
  Fins_intro g_Pdigest_Hash_Add c_Pdigest_Hash_Add (by rw [Try.ntmps95]; exact hn) h
theorem j_Pdigest_Hash_Add {args : List AV} {A : Heap} {K Kp : AV → Heap → Prop} (hn : args.length ≤ 42) (h : X Try.prog (inl a_Pdigest_Hash_Add.res K Kp) a_Pdigest_Hash_Add.body .done (env0 args) A) : SimX Try.prog F_Pdigest_Hash_Add args A (outK K Kp) :=
  X_inl g_Pdigest_Hash_Add c_Pdigest_Hash_Add (by rw [Try.ntmps95]; exact hn) h
theorem d_Pdigest_Hash_Add {args : List AV} {A : Heap} {Ko : AOut → Heap → Prop} (hn : args.length ≤ 42) (hrf : AVL.Func.hasRF Try.f95 = false)
    (h : ∀ R : APost, (∀ e env A, fpost a_Pdigest_Hash_Add.res Ko e env A → R e env A) → X Try.prog R a_Pdigest_Hash_Add.body .done (env0 args) A) : SimD Try.prog F_Pdigest_Hash_Add args A Ko :=
  X_introD g_Pdigest_Hash_Add c_Pdigest_Hash_Add (by rw [Try.ntmps95]; exact hn) hrf h
@[simp] theorem k_Pdigest_Hash_Add : callable Try.prog F_Pdigest_Hash_Add = true := by kernel_rfl
theorem c_Pdigest_Hash_Sum : trF Try.prog Try.f97 = some a_Pdigest_Hash_Sum := by kernel_rfl
theorem g_Pdigest_Hash_Sum : Try.prog.funcs[97]? = some Try.f97 := by kernel_rfl
theorem i_Pdigest_Hash_Sum {args : List AV} {A : Heap} {Ko : AOut → Heap → Prop} (hn : args.length ≤ 69)
    (h : ∀ R : APost, (∀ e env A, fpost a_Pdigest_Hash_Sum.res Ko e env A → R e env A) → X Try.prog R a_Pdigest_Hash_Sum.body .done (env0 args) A) : SimX Try.prog F_Pdigest_Hash_Sum args A Ko :=
  X_intro g_Pdigest_Hash_Sum c_Pdigest_Hash_Sum (by rw [Try.ntmps97]; exact hn) h
theorem v_Pdigest_Hash_Sum {args : List AV} {v : AV} (hn : args.length ≤ 69) (h : X Try.prog (fin a_Pdigest_Hash_Sum.res v) a_Pdigest_Hash_Sum.body .done (env0 args) H0) : Gives Try.prog F_Pdigest_Hash_Sum args v :=
  Gives_intro g_Pdigest_Hash_Sum c_Pdigest_Hash_Sum (by rw [Try.ntmps97]; exact hn) h
theorem e_Pdigest_Hash_Sum {args : List AV} {Q : AOut → Prop} (hn : args.length ≤ 69) (h : X Try.prog (finE a_Pdigest_Hash_Sum.res Q) a_Pdigest_Hash_Sum.body .done (env0 args) H0) : Fins Try.prog F_Pdigest_Hash_Sum args Q :=
  Fins_intro g_Pdigest_Hash_Sum c_Pdigest_Hash_Sum (by rw [Try.ntmps97]; exact hn) h
theorem j_Pdigest_Hash_Sum {args : List AV} {A : Heap} {K Kp : AV → Heap → Prop} (hn : args.length ≤ 69) (h : X Try.prog (inl a_Pdigest_Hash_Sum.res K Kp) a_Pdigest_Hash_Sum.body .done (env0 args) A) : SimX Try.prog F_Pdigest_Hash_Sum args A (outK K Kp) :=
  X_inl g_Pdigest_Hash_Sum c_Pdigest_Hash_Sum (by rw [Try.ntmps97]; exact hn) h
theorem d_Pdigest_Hash_Sum {args : List AV} {A : Heap} {Ko : AOut → Heap → Prop} (hn : args.length ≤ 69) (hrf : AVL.Func.hasRF Try.f97 = false)
    (h : ∀ R : APost, (∀ e env A, fpost a_Pdigest_Hash_Sum.res Ko e env A → R e env A) → X Try.prog R a_Pdigest_Hash_Sum.body .done (env0 args) A) : SimD Try.prog F_Pdigest_Hash_Sum args A Ko :=
  X_introD g_Pdigest_Hash_Sum c_Pdigest_Hash_Sum (by rw [Try.ntmps97]; exact hn) hrf h
@[simp] theorem k_Pdigest_Hash_Sum : callable Try.prog F_Pdigest_Hash_Sum = true := by kernel_rfl
theorem c_ref03_Sum : trF Try.prog Try.f65 = some a_ref03_Sum := by kernel_rfl
theorem g_ref03_Sum : Try.prog.funcs[65]? = some Try.f65 := by kernel_rfl
theorem i_ref03_Sum {args : List AV} {A : Heap} {Ko : AOut → Heap → Prop} (hn : args.length ≤ 43)
    (h : ∀ R : APost, (∀ e env A, fpost a_ref03_Sum.res Ko e env A → R e env A) → X Try.prog R a_ref03_Sum.body .done (env0 args) A) : SimX Try.prog F_ref03_Sum args A Ko :=
  X_intro g_ref03_Sum c_ref03_Sum (by rw [Try.ntmps65]; exact hn) h
theorem v_ref03_Sum {args : List AV} {v : AV} (hn : args.length ≤ 43) (h : X Try.prog (fin a_ref03_Sum.res v) a_ref03_Sum.body .done (env0 args) H0) : Gives Try.prog F_ref03_Sum args v :=
  Gives_intro g_ref03_Sum c_ref03_Sum (by rw [Try.ntmps65]; exact hn) h
theorem e_ref03_Sum {args : List AV} {Q : AOut → Prop} (hn : args.length ≤ 43) (h : X Try.prog (finE a_ref03_Sum.res Q) a_ref03_Sum.body .done (env0 args) H0) : Fins Try.prog F_ref03_Sum args Q :=
  Fins_intro g_ref03_Sum c_ref03_Sum (by rw [Try.ntmps65]; exact hn) h
theorem j_ref03_Sum {args : List AV} {A : Heap} {K Kp : AV → Heap → Prop} (hn : args.length ≤ 43) (h : X Try.prog (inl a_ref03_Sum.res K Kp) a_ref03_Sum.body .done (env0 args) A) : SimX Try.prog F_ref03_Sum args A (outK K Kp) :=
  X_inl g_ref03_Sum c_ref03_Sum (by rw [Try.ntmps65]; exact hn) h
theorem d_ref03_Sum {args : List AV} {A : Heap} {Ko : AOut → Heap → Prop} (hn : args.length ≤ 43) (hrf : AVL.Func.hasRF Try.f65 = false)
    (h : ∀ R : APost, (∀ e env A, fpost a_ref03_Sum.res Ko e env A → R e env A) → X Try.prog R a_ref03_Sum.body .done (env0 args) A) : SimD Try.prog F_ref03_Sum args A Ko :=
  X_introD g_ref03_Sum c_ref03_Sum (by rw [Try.ntmps65]; exact hn) hrf h
@[simp] theorem k_ref03_Sum : callable Try.prog F_ref03_Sum = true := by kernel_rfl
theorem c_ref03_table : trF Try.prog Try.f107 = some a_ref03_table := by kernel_rfl
theorem g_ref03_table : Try.prog.funcs[107]? = some Try.f107 := by kernel_rfl
theorem i_ref03_table {args : List AV} {A : Heap} {Ko : AOut → Heap → Prop} (hn : args.length ≤ 2)
    (h : ∀ R : APost, (∀ e env A, fpost a_ref03_table.res Ko e env A → R e env A) → X Try.prog R a_ref03_table.body .done (env0 args) A) : SimX Try.prog F_ref03_table args A Ko :=
  X_intro g_ref03_table c_ref03_table (by rw [Try.ntmps107]; exact hn) h
theorem v_ref03_table {args : List AV} {v : AV} (hn : args.length ≤ 2) (h : X Try.prog (fin a_ref03_table.res v) a_ref03_table.body .done (env0 args) H0) : Gives Try.prog F_ref03_table args v :=
  Gives_intro g_ref03_table c_ref03_table (by rw [Try.ntmps107]; exact hn) h
theorem e_ref03_table {args : List AV} {Q : AOut → Prop} (hn : args.length ≤ 2) (h : X Try.prog (finE a_ref03_table.res Q) a_ref03_table.body .done (env0 args) H0) : Fins Try.prog F_ref03_table args Q :=
  Fins_intro g_ref03_table c_ref03_table (by rw [Try.ntmps107]; exact hn) h
theorem j_ref03_table {args : List AV} {A : Heap} {K Kp : AV → Heap → Prop} (hn : args.length ≤ 2) (h : X Try.prog (inl a_ref03_table.res K Kp) a_ref03_table.body .done (env0 args) A) : SimX Try.prog F_ref03_table args A (outK K Kp) :=
  X_inl g_ref03_table c_ref03_table (by rw [Try.ntmps107]; exact hn) h
theorem d_ref03_table {args : List AV} {A : Heap} {Ko : AOut → Heap → Prop} (hn : args.length ≤ 2) (hrf : AVL.Func.hasRF Try.f107 = false)
    (h : ∀ R : APost, (∀ e env A, fpost a_ref03_table.res Ko e env A → R e env A) → X Try.prog R a_ref03_table.body .done (env0 args) A) : SimD Try.prog F_ref03_table args A Ko :=
  X_introD g_ref03_table c_ref03_table (by rw [Try.ntmps107]; exact hn) hrf h
@[simp] theorem k_ref03_table : callable Try.prog F_ref03_table = true := by kernel_rfl
theorem c_ref03_padded : trF Try.prog Try.f108 = some a_ref03_padded := by kernel_rfl
theorem g_ref03_padded : Try.prog.funcs[108]? = some Try.f108 := by kernel_rfl
theorem i_ref03_padded {args : List AV} {A : Heap} {Ko : AOut → Heap → Prop} (hn : args.length ≤ 38)
    (h : ∀ R : APost, (∀ e env A, fpost a_ref03_padded.res Ko e env A → R e env A) → X Try.prog R a_ref03_padded.body .done (env0 args) A) : SimX Try.prog F_ref03_padded args A Ko :=
  X_intro g_ref03_padded c_ref03_padded (by rw [Try.ntmps108]; exact hn) h
theorem v_ref03_padded {args : List AV} {v : AV} (hn : args.length ≤ 38) (h : X Try.prog (fin a_ref03_padded.res v) a_ref03_padded.body .done (env0 args) H0) : Gives Try.prog F_ref03_padded args v :=
  Gives_intro g_ref03_padded c_ref03_padded (by rw [Try.ntmps108]; exact hn) h
theorem e_ref03_padded {args : List AV} {Q : AOut → Prop} (hn : args.length ≤ 38) (h : X Try.prog (finE a_ref03_padded.res Q) a_ref03_padded.body .done (env0 args) H0) : Fins Try.prog F_ref03_padded args Q :=
  Fins_intro g_ref03_padded c_ref03_padded (by rw [Try.ntmps108]; exact hn) h
theorem j_ref03_padded {args : List AV} {A : Heap} {K Kp : AV → Heap → Prop} (hn : args.length ≤ 38) (h : X Try.prog (inl a_ref03_padded.res K Kp) a_ref03_padded.body .done (env0 args) A) : SimX Try.prog F_ref03_padded args A (outK K Kp) :=
  X_inl g_ref03_padded c_ref03_padded (by rw [Try.ntmps108]; exact hn) h
theorem d_ref03_padded {args : List AV} {A : Heap} {Ko : AOut → Heap → Prop} (hn : args.length ≤ 38) (hrf : AVL.Func.hasRF Try.f108 = false)
    (h : ∀ R : APost, (∀ e env A, fpost a_ref03_padded.res Ko e env A → R e env A) → X Try.prog R a_ref03_padded.body .done (env0 args) A) : SimD Try.prog F_ref03_padded args A Ko :=
  X_introD g_ref03_padded c_ref03_padded (by rw [Try.ntmps108]; exact hn) hrf h
@[simp] theorem k_ref03_padded : callable Try.prog F_ref03_padded = true := by kernel_rfl
theorem c_ref03_mixed : trF Try.prog Try.f109 = some a_ref03_mixed := by kernel_rfl
theorem g_ref03_mixed : Try.prog.funcs[109]? = some Try.f109 := by kernel_rfl
theorem i_ref03_mixed {args : List AV} {A : Heap} {Ko : AOut → Heap → Prop} (hn : args.length ≤ 131)
    (h : ∀ R : APost, (∀ e env A, fpost a_ref03_mixed.res Ko e env A → R e env A) → X Try.prog R a_ref03_mixed.body .done (env0 args) A) : SimX Try.prog F_ref03_mixed args A Ko :=
  X_intro g_ref03_mixed c_ref03_mixed (by rw [Try.ntmps109]; exact hn) h
theorem v_ref03_mixed {args : List AV} {v : AV} (hn : args.length ≤ 131) (h : X Try.prog (fin a_ref03_mixed.res v) a_ref03_mixed.body .done (env0 args) H0) : Gives Try.prog F_ref03_mixed args v :=
  Gives_intro g_ref03_mixed c_ref03_mixed (by rw [Try.ntmps109]; exact hn) h
theorem e_ref03_mixed {args : List AV} {Q : AOut → Prop} (hn : args.length ≤ 131) (h : X Try.prog (finE a_ref03_mixed.res Q) a_ref03_mixed.body .done (env0 args) H0) : Fins Try.prog F_ref03_mixed args Q :=
  Fins_intro g_ref03_mixed c_ref03_mixed (by rw [Try.ntmps109]; exact hn) h
theorem j_ref03_mixed {args : List AV} {A : Heap} {K Kp : AV → Heap → Prop} (hn : args.length ≤ 131) (h : X Try.prog (inl a_ref03_mixed.res K Kp) a_ref03_mixed.body .done (env0 args) A) : SimX Try.prog F_ref03_mixed args A (outK K Kp) :=
  X_inl g_ref03_mixed c_ref03_mixed (by rw [Try.ntmps109]; exact hn) h
theorem d_ref03_mixed {args : List AV} {A : Heap} {Ko : AOut → Heap → Prop} (hn : args.length ≤ 131) (hrf : AVL.Func.hasRF Try.f109 = false)
    (h : ∀ R : APost, (∀ e env A, fpost a_ref03_mixed.res Ko e env A → R e env A) → X Try.prog R a_ref03_mixed.body .done (env0 args) A) : SimD Try.prog F_ref03_mixed args A Ko :=
  X_introD g_ref03_mixed c_ref03_mixed (by rw [Try.ntmps109]; exact hn) hrf h
@[simp] theorem k_ref03_mixed : callable Try.prog F_ref03_mixed = true := by kernel_rfl
theorem c_ref03_words : trF Try.prog Try.f110 = some a_ref03_words := by kernel_rfl
theorem g_ref03_words : Try.prog.funcs[110]? = some Try.f110 := by kernel_rfl
theorem i_ref03_words {args : List AV} {A : Heap} {Ko : AOut → Heap → Prop} (hn : args.length ≤ 111)
    (h : ∀ R : APost, (∀ e env A, fpost a_ref03_words.res Ko e env A → R e env A) → X Try.prog R a_ref03_words.body .done (env0 args) A) : SimX Try.prog F_ref03_words args A Ko :=
  X_intro g_ref03_words c_ref03_words (by rw [Try.ntmps110]; exact hn) h
theorem v_ref03_words {args : List AV} {v : AV} (hn : args.length ≤ 111) (h : X Try.prog (fin a_ref03_words.res v) a_ref03_words.body .done (env0 args) H0) : Gives Try.prog F_ref03_words args v :=
  Gives_intro g_ref03_words c_ref03_words (by rw [Try.ntmps110]; exact hn) h
theorem e_ref03_words {args : List AV} {Q : AOut → Prop} (hn : args.length ≤ 111) (h : X Try.prog (finE a_ref03_words.res Q) a_ref03_words.body .done (env0 args) H0) : Fins Try.prog F_ref03_words args Q :=
  Fins_intro g_ref03_words c_ref03_words (by rw [Try.ntmps110]; exact hn) h
theorem j_ref03_words {args : List AV} {A : Heap} {K Kp : AV → Heap → Prop} (hn : args.length ≤ 111) (h : X Try.prog (inl a_ref03_words.res K Kp) a_ref03_words.body .done (env0 args) A) : SimX Try.prog F_ref03_words args A (outK K Kp) :=
  X_inl g_ref03_words c_ref03_words (by rw [Try.ntmps110]; exact hn) h
theorem d_ref03_words {args : List AV} {A : Heap} {Ko : AOut → Heap → Prop} (hn : args.length ≤ 111) (hrf : AVL.Func.hasRF Try.f110 = false)
    (h : ∀ R : APost, (∀ e env A, fpost a_ref03_words.res Ko e env A → R e env A) → X Try.prog R a_ref03_words.body .done (env0 args) A) : SimD Try.prog F_ref03_words args A Ko :=
  X_introD g_ref03_words c_ref03_words (by rw [Try.ntmps110]; exact hn) hrf h
@[simp] theorem k_ref03_words : callable Try.prog F_ref03_words = true := by kernel_rfl
theorem c_ref03_right : trF Try.prog Try.f130 = some a_ref03_right := by kernel_rfl
theorem g_ref03_right : Try.prog.funcs[130]? = some Try.f130 := by kernel_rfl
theorem i_ref03_right {args : List AV} {A : Heap} {Ko : AOut → Heap → Prop} (hn : args.length ≤ 13)
    (h : ∀ R : APost, (∀ e env A, fpost a_ref03_right.res Ko e env A → R e env A) → X Try.prog R a_ref03_right.body .done (env0 args) A) : SimX Try.prog F_ref03_right args A Ko :=
  X_intro g_ref03_right c_ref03_right (by rw [Try.ntmps130]; exact hn) h
theorem v_ref03_right {args : List AV} {v : AV} (hn : args.length ≤ 13) (h : X Try.prog (fin a_ref03_right.res v) a_ref03_right.body .done (env0 args) H0) : Gives Try.prog F_ref03_right args v :=
  Gives_intro g_ref03_right c_ref03_right (by rw [Try.ntmps130]; exact hn) h
theorem e_ref03_right {args : List AV} {Q : AOut → Prop} (hn : args.length ≤ 13) (h : X Try.prog (finE a_ref03_right.res Q) a_ref03_right.body .done (env0 args) H0) : Fins Try.prog F_ref03_right args Q :=
  Fins_intro g_ref03_right c_ref03_right (by rw [Try.ntmps130]; exact hn) h
theorem j_ref03_right {args : List AV} {A : Heap} {K Kp : AV → Heap → Prop} (hn : args.length ≤ 13) (h : X Try.prog (inl a_ref03_right.res K Kp) a_ref03_right.body .done (env0 args) A) : SimX Try.prog F_ref03_right args A (outK K Kp) :=
  X_inl g_ref03_right c_ref03_right (by rw [Try.ntmps130]; exact hn) h
theorem d_ref03_right {args : List AV} {A : Heap} {Ko : AOut → Heap → Prop} (hn : args.length ≤ 13) (hrf : AVL.Func.hasRF Try.f130 = false)
    (h : ∀ R : APost, (∀ e env A, fpost a_ref03_right.res Ko e env A → R e env A) → X Try.prog R a_ref03_right.body .done (env0 args) A) : SimD Try.prog F_ref03_right args A Ko :=
  X_introD g_ref03_right c_ref03_right (by rw [Try.ntmps130]; exact hn) hrf h
@[simp] theorem k_ref03_right : callable Try.prog F_ref03_right = true := by kernel_rfl
end Go.Proofs.Ytfdckjliinpjiaa

/- The digest, plainly: words, rounds, blocks, padding; that it does not matter how the bytes come. -/
namespace Go.Proofs.Ytfdckjliinpjiaa
open Go AVL
set_option linter.unusedVariables false
set_option linter.unusedSimpArgs false

abbrev W32 : Nat := 4294967296
def rot (x n : Nat) : Nat := x / 2 ^ n ||| x * 2 ^ (32 - n) % W32
def sg0 (x : Nat) : Nat := rot x 7 ^^^ rot x 18 ^^^ x / 8
def sg1 (x : Nat) : Nat := rot x 17 ^^^ rot x 19 ^^^ x / 1024
def Sg0 (x : Nat) : Nat := rot x 2 ^^^ rot x 13 ^^^ rot x 22
def Sg1 (x : Nat) : Nat := rot x 6 ^^^ rot x 11 ^^^ rot x 25
def chf (e f g : Nat) : Nat := (e &&& f) ^^^ ((W32 - 1 - e) &&& g)
def maj (a b c : Nat) : Nat := (a &&& b) ^^^ (a &&& c) ^^^ (b &&& c)
def Words (l : List Nat) : Prop := ∀ x ∈ l, x < W32
theorem rot_lt {x : Nat} (n : Nat) (hx : x < W32) : rot x n < W32 :=
  Nat.or_lt_two_pow (n := 32) (Nat.lt_of_le_of_lt (Nat.div_le_self _ _) hx) (Nat.mod_lt _ (by decide))
theorem sg0_lt {x : Nat} (hx : x < W32) : sg0 x < W32 :=
  Nat.xor_lt_two_pow (n := 32) (Nat.xor_lt_two_pow (n := 32) (rot_lt _ hx) (rot_lt _ hx)) (Nat.lt_of_le_of_lt (Nat.div_le_self _ _) hx)
theorem sg1_lt {x : Nat} (hx : x < W32) : sg1 x < W32 :=
  Nat.xor_lt_two_pow (n := 32) (Nat.xor_lt_two_pow (n := 32) (rot_lt _ hx) (rot_lt _ hx)) (Nat.lt_of_le_of_lt (Nat.div_le_self _ _) hx)
theorem Sg0_lt {x : Nat} (hx : x < W32) : Sg0 x < W32 :=
  Nat.xor_lt_two_pow (n := 32) (Nat.xor_lt_two_pow (n := 32) (rot_lt _ hx) (rot_lt _ hx)) (rot_lt _ hx)
theorem Sg1_lt {x : Nat} (hx : x < W32) : Sg1 x < W32 :=
  Nat.xor_lt_two_pow (n := 32) (Nat.xor_lt_two_pow (n := 32) (rot_lt _ hx) (rot_lt _ hx)) (rot_lt _ hx)
theorem chf_lt {e f g : Nat} (hf : f < W32) (hg : g < W32) : chf e f g < W32 :=
  Nat.xor_lt_two_pow (n := 32) (Nat.and_lt_two_pow _ hf) (Nat.and_lt_two_pow _ hg)
theorem maj_lt {a b c : Nat} (hb : b < W32) (hc : c < W32) : maj a b c < W32 :=
  Nat.xor_lt_two_pow (n := 32) (Nat.xor_lt_two_pow (n := 32) (Nat.and_lt_two_pow _ hb) (Nat.and_lt_two_pow _ hc)) (Nat.and_lt_two_pow _ hc)

/-- A block's words. -/
def word4 (b : List Nat) (i : Nat) : Nat := (b.getD (4 * i) 0 * 16777216 + b.getD (4 * i + 1) 0 * 65536 + b.getD (4 * i + 2) 0 * 256 + b.getD (4 * i + 3) 0)
def first16 (b : List Nat) : List Nat := (List.range 16).map (word4 b)
def nextW (w : List Nat) (i : Nat) : Nat := (w.getD i 0 + sg0 (w.getD (i + 1) 0) + w.getD (i + 9) 0 + sg1 (w.getD (i + 14) 0)) % W32
def wsN (b : List Nat) : Nat → List Nat
  | 0 => first16 b
  | i + 1 => wsN b i ++ [nextW (wsN b i) i]
@[simp] theorem wsN_length (b : List Nat) : ∀ i, (wsN b i).length = 16 + i
  | 0 => by simp [wsN, first16]
  | i + 1 => by simp [wsN, wsN_length b i]; omega
/-- One round. -/
def rnd (v : List Nat) (k w : Nat) : List Nat :=
  let t := (v.getD 7 0 + Sg1 (v.getD 4 0) + chf (v.getD 4 0) (v.getD 5 0) (v.getD 6 0) + k + w) % W32
  let u := (Sg0 (v.getD 0 0) + maj (v.getD 0 0) (v.getD 1 0) (v.getD 2 0)) % W32
  [(t + u) % W32, v.getD 0 0, v.getD 1 0, v.getD 2 0, (v.getD 3 0 + t) % W32, v.getD 4 0, v.getD 5 0, v.getD 6 0]
def K64 : List Nat := [
  0x428a2f98, 0x71374491, 0xb5c0fbcf, 0xe9b5dba5, 0x3956c25b, 0x59f111f1, 0x923f82a4, 0xab1c5ed5,
  0xd807aa98, 0x12835b01, 0x243185be, 0x550c7dc3, 0x72be5d74, 0x80deb1fe, 0x9bdc06a7, 0xc19bf174,
  0xe49b69c1, 0xefbe4786, 0x0fc19dc6, 0x240ca1cc, 0x2de92c6f, 0x4a7484aa, 0x5cb0a9dc, 0x76f988da,
  0x983e5152, 0xa831c66d, 0xb00327c8, 0xbf597fc7, 0xc6e00bf3, 0xd5a79147, 0x06ca6351, 0x14292967,
  0x27b70a85, 0x2e1b2138, 0x4d2c6dfc, 0x53380d13, 0x650a7354, 0x766a0abb, 0x81c2c92e, 0x92722c85,
  0xa2bfe8a1, 0xa81a664b, 0xc24b8b70, 0xc76c51a3, 0xd192e819, 0xd6990624, 0xf40e3585, 0x106aa070,
  0x19a4c116, 0x1e376c08, 0x2748774c, 0x34b0bcb5, 0x391c0cb3, 0x4ed8aa4a, 0x5b9cca4f, 0x682e6ff3,
  0x748f82ee, 0x78a5636f, 0x84c87814, 0x8cc70208, 0x90befffa, 0xa4506ceb, 0xbef9a3f7, 0xc67178f2]
def rndN (v w : List Nat) : Nat → List Nat
  | 0 => v
  | i + 1 => rnd (rndN v w i) (K64.getD i 0) (w.getD i 0)
def sumW (s v : List Nat) : List Nat := (List.range 8).map fun i => (s.getD i 0 + v.getD i 0) % W32
/-- The words behind a block. -/
def mixB (s b : List Nat) : List Nat := sumW s (rndN s (wsN b 48) 64)
def H256 : List Nat := [0x6a09e667, 0xbb67ae85, 0x3c6ef372, 0xa54ff53a, 0x510e527f, 0x9b05688c, 0x1f83d9ab, 0x5be0cd19]
/-- Whole blocks, one behind the other. -/
def mixAll (s : List Nat) : Nat → List Nat → List Nat
  | 0, _ => s
  | n + 1, b => mixAll (mixB s (b.take 64)) n (b.drop 64)
theorem mixAll_add : ∀ (n m : Nat) (s b : List Nat), mixAll s (n + m) b = mixAll (mixAll s n b) m (b.drop (64 * n))
  | 0, m, s, b => by simp [mixAll]
  | n + 1, m, s, b => by
    rw [show n + 1 + m = (n + m) + 1 by omega]
    simp only [mixAll]
    rw [mixAll_add n m, List.drop_drop]
    congr 2; omega
theorem mixAll_take : ∀ (n : Nat) (s b c : List Nat), 64 * n ≤ b.length → mixAll s n (b ++ c) = mixAll s n b
  | 0, s, b, c, h => rfl
  | n + 1, s, b, c, h => by
    simp only [mixAll]
    rw [List.take_append_of_le_length (by omega), List.drop_append_of_le_length (by omega)]
    exact mixAll_take n _ _ c (by simp; omega)
/-- A number's bytes, the highest first. -/
def be8 (n : Nat) : List Nat := (List.range 8).map fun i => n / 256 ^ (7 - i) % 256
/-- How many noughts come behind so many bytes and one. -/
def zeros (n : Nat) : Nat := (119 - n % 64) % 64
def padT (l : List Nat) : List Nat := l ++ [128] ++ List.replicate (zeros l.length) 0 ++ be8 (8 * l.length)
theorem padT_length (l : List Nat) : (padT l).length = 64 * ((l.length + 72) / 64) := by
  simp only [padT, List.length_append, List.length_replicate, be8, List.length_map, List.length_range, List.length_cons, List.length_nil, zeros]
  omega
def outB (s : List Nat) : List Nat := (List.range 32).map fun i => s.getD (i / 4) 0 / 2 ^ (24 - 8 * (i % 4)) % 256
def dig (l : List Nat) : List Nat := outB (mixAll H256 ((l.length + 72) / 64) (padT l))
/-- What a sum that grows has of bytes: the words behind the whole blocks, and the rest. -/
def stW (l : List Nat) : List Nat := mixAll H256 (l.length / 64) l
def stR (l : List Nat) : List Nat := l.drop (64 * (l.length / 64))
theorem stR_length (l : List Nat) : (stR l).length = l.length % 64 := by simp [stR]; omega
theorem st_split (l : List Nat) : l.take (64 * (l.length / 64)) ++ stR l = l := List.take_append_drop _ _
/-- The words behind bytes that come to a rest. -/
theorem stW_add (l b : List Nat) : stW (l ++ b) = mixAll (stW l) ((stR l ++ b).length / 64) (stR l ++ b) := by
  have hl := stR_length l
  have e : (l ++ b).length / 64 = l.length / 64 + (stR l ++ b).length / 64 := by
    simp only [List.length_append, hl]; omega
  rw [stW, e, mixAll_add, mixAll_take _ _ _ _ (by omega), List.drop_append_of_le_length (by omega)]
  rfl
theorem stR_add (l b : List Nat) : stR (l ++ b) = (stR l ++ b).drop (64 * ((stR l ++ b).length / 64)) := by
  have hl := stR_length l
  have e : 64 * ((l ++ b).length / 64) = 64 * (l.length / 64) + 64 * ((stR l ++ b).length / 64) := by
    simp only [List.length_append, hl]; omega
  rw [stR, e, ← List.drop_drop, List.drop_append_of_le_length (by omega)]
  rfl
/-- The end of a sum: what is padded is the rest. -/
theorem dig_st (l : List Nat) : dig l = outB (mixAll (stW l) ((stR l).length / 64 + ((stR l ++ [128] ++ List.replicate (zeros l.length) 0 ++ be8 (8 * l.length)).length / 64)) (stR l ++ [128] ++ List.replicate (zeros l.length) 0 ++ be8 (8 * l.length))) := by
  have hl := stR_length l
  have hz : (stR l).length / 64 = 0 := by rw [hl]; omega
  rw [hz, Nat.zero_add]
  obtain ⟨e, he⟩ : ∃ e, e = [128] ++ List.replicate (zeros l.length) 0 ++ be8 (8 * l.length) := ⟨_, rfl⟩
  have hp : padT l = l ++ e := by rw [padT, he]; simp
  have hq : stR l ++ [128] ++ List.replicate (zeros l.length) 0 ++ be8 (8 * l.length) = stR l ++ e := by rw [he]; simp
  rw [hq, dig, hp]
  have hL : (l ++ e).length = 64 * ((l.length + 72) / 64) := by rw [← hp]; exact padT_length l
  have e2 : (l.length + 72) / 64 = l.length / 64 + (stR l ++ e).length / 64 := by
    simp only [List.length_append, hl] at hL ⊢; omega
  rw [e2, mixAll_add, mixAll_take _ _ _ _ (by omega), List.drop_append_of_le_length (by omega)]
  rfl
end Go.Proofs.Ytfdckjliinpjiaa

/- Digits of sixteen, plainly: there and back; which is ahead. -/
namespace Go.Proofs.Ytfdckjliinpjiaa
open Go AVL
set_option linter.unusedVariables false
set_option linter.unusedSimpArgs false

def hx (n : Nat) : Nat := if n < 10 then 48 + n else 87 + n
def hexL : List Nat → List Nat
  | [] => []
  | c :: r => hx (c / 16) :: hx (c % 16) :: hexL r
def unhx (c : Nat) : Option Nat := if 48 ≤ c ∧ c ≤ 57 then some (c - 48) else if 97 ≤ c ∧ c ≤ 102 then some (c - 87) else none
theorem unhx_hx {n : Nat} (h : n < 16) : unhx (hx n) = some n := by
  unfold hx unhx
  split
  · rw [if_pos (by omega)]; congr 1; omega
  · rw [if_neg (by omega), if_pos (by omega)]; congr 1; omega
theorem hx_unhx {c n : Nat} (h : unhx c = some n) : hx n = c ∧ n < 16 := by
  unfold unhx at h
  unfold hx
  split at h
  · injection h with h; subst h; rw [if_pos (by omega)]; omega
  · split at h
    · injection h with h; subst h; rw [if_neg (by omega)]; omega
    · cases h
@[simp] theorem hexL_length : ∀ l, (hexL l).length = 2 * l.length
  | [] => rfl
  | c :: r => by simp [hexL, hexL_length r]; omega
def byts (l : List Nat) : Prop := ∀ x ∈ l, x < 256
def parL : List Nat → Option (List Nat)
  | [] => some []
  | [_] => none
  | x :: y :: r => match unhx x, unhx y, parL r with
    | some a, some b, some l => some ((16 * a + b) :: l)
    | _, _, _ => none
theorem parL_hexL : ∀ {l : List Nat}, byts l → parL (hexL l) = some l
  | [], _ => rfl
  | c :: r, h => by
    have hc := h c (by simp)
    simp only [hexL, parL, unhx_hx (show c / 16 < 16 by omega), unhx_hx (show c % 16 < 16 by omega), parL_hexL (l := r) (fun z hz => h z (by simp [hz]))]
    congr 2; omega
theorem hexL_parL : ∀ {s l : List Nat}, parL s = some l → hexL l = s ∧ byts l
  | [], l, h => by simp only [parL] at h; injection h with h; subst h; exact ⟨rfl, by simp [byts]⟩
  | [_], l, h => by simp [parL] at h
  | x :: y :: r, l, h => by
    simp only [parL] at h
    split at h
    · rename_i a b l' h1 h2 h3
      injection h with h; subst h
      obtain ⟨e1, l1⟩ := hx_unhx h1
      obtain ⟨e2, l2⟩ := hx_unhx h2
      obtain ⟨e3, l3⟩ := hexL_parL h3
      refine ⟨?_, fun z hz => ?_⟩
      · rw [hexL, show (16 * a + b) / 16 = a by omega, show (16 * a + b) % 16 = b by omega, e1, e2, e3]
      · rcases List.mem_cons.1 hz with rfl | hz
        · omega
        · exact l3 z hz
    · cases h
theorem parL_none : ∀ {s : List Nat} (k : Nat), s.length = 2 * k → parL s = none → ∃ i, i < s.length ∧ unhx (s.getD i 0) = none
  | [], k, hk, h => by simp [parL] at h
  | [_], k, hk, h => by simp at hk; omega
  | x :: y :: r, k, hk, h => by
    simp only [parL] at h
    cases h1 : unhx x with
    | none => exact ⟨0, by simp, by simpa using h1⟩
    | some a =>
      cases h2 : unhx y with
      | none => exact ⟨1, by simp, by simpa using h2⟩
      | some b =>
        cases h3 : parL r with
        | none =>
          obtain ⟨i, hi, he⟩ := parL_none (k - 1) (by simp at hk; omega) h3
          exact ⟨i + 2, by simp; omega, by simpa using he⟩
        | some l => rw [h1, h2, h3] at h; simp at h
theorem parL_some : ∀ {s l : List Nat}, parL s = some l → s.length = 2 * l.length ∧ ∀ i, i < s.length → ∃ n, unhx (s.getD i 0) = some n ∧ n < 16
  | [], l, h => by simp only [parL] at h; injection h with h; subst h; exact ⟨rfl, by simp⟩
  | [_], l, h => by simp [parL] at h
  | x :: y :: r, l, h => by
    simp only [parL] at h
    split at h
    · rename_i a b l' h1 h2 h3
      injection h with h; subst h
      obtain ⟨e1, e2⟩ := parL_some h3
      refine ⟨by simp; omega, fun i hi => ?_⟩
      match i with
      | 0 => exact ⟨a, by simpa using h1, (hx_unhx h1).2⟩
      | 1 => exact ⟨b, by simpa using h2, (hx_unhx h2).2⟩
      | i + 2 =>
        obtain ⟨n, hn, hl⟩ := e2 i (by simp at hi; omega)
        exact ⟨n, by simpa using hn, hl⟩
    · cases h
/-- Which is ahead, byte by byte. -/
def lessL : List Nat → List Nat → Bool
  | a :: r, b :: s => if a = b then lessL r s else decide (a < b)
  | [], _ :: _ => true
  | _, [] => false
theorem hx_lt {a b : Nat} (h : a < b) (hb : b < 16) : hx a < hx b := by
  unfold hx; split <;> split <;> omega
theorem hx_inj {a b : Nat} (ha : a < 16) (hb : b < 16) (h : hx a = hx b) : a = b := by
  unfold hx at h; split at h <;> split at h <;> omega
theorem less_hex : ∀ {a b : List Nat}, byts a → byts b → a.length = b.length → lessL (hexL a) (hexL b) = lessL a b
  | [], [], _, _, _ => rfl
  | [], _ :: _, _, _, h => by simp at h
  | _ :: _, [], _, _, h => by simp at h
  | x :: a, y :: b, ha, hb, h => by
    have hx1 := ha x (by simp)
    have hy1 := hb y (by simp)
    have ih := less_hex (a := a) (b := b) (fun z hz => ha z (by simp [hz])) (fun z hz => hb z (by simp [hz])) (by simpa using h)
    simp only [hexL, lessL]
    by_cases e : x = y
    · subst e; simp [ih]
    · by_cases e1 : x / 16 = y / 16
      · have e2 : x % 16 ≠ y % 16 := by omega
        have e3 : hx (x % 16) ≠ hx (y % 16) := fun h => e2 (hx_inj (by omega) (by omega) h)
        rw [e1, if_pos rfl, if_neg e3, if_neg e]
        congr 1
        apply propext
        constructor
        · intro hlt
          rcases Nat.lt_or_ge (x % 16) (y % 16) with h' | h'
          · omega
          · have := hx_lt (show y % 16 < x % 16 by omega) (by omega); omega
        · intro hlt
          exact hx_lt (by omega) (by omega)
      · have e3 : hx (x / 16) ≠ hx (y / 16) := fun h => e1 (hx_inj (by omega) (by omega) h)
        rw [if_neg e3, if_neg e]
        congr 1
        apply propext
        constructor
        · intro hlt
          rcases Nat.lt_or_ge (x / 16) (y / 16) with h' | h'
          · omega
          · have := hx_lt (show y / 16 < x / 16 by omega) (by omega); omega
        · intro hlt
          exact hx_lt (by omega) (by omega)
end Go.Proofs.Ytfdckjliinpjiaa

/- The walks of the digest's words: spin, spread, and the reference's right and words. -/
namespace Go.Proofs.Ytfdckjliinpjiaa
open Go AVL
set_option linter.unusedVariables false
set_option linter.unusedSimpArgs false
set_option maxRecDepth 4000

theorem shl32 {x : Nat} {n m : Nat} (hm : m ≤ 32) {k : Int} (hk : k = m) : shlI .u32 (x : Int) k = ((x * 2 ^ m % W32 : Nat) : Int) := by
  subst hk
  unfold shlI
  rw [Int.toNat_natCast, show min m IntKind.u32.bits = m from Nat.min_eq_left hm, wrap_u32m]
  have := (Int.natCast_emod (x * 2 ^ m) 4294967296).symm
  rw [Int.natCast_mul, Int.natCast_pow] at this
  exact this
theorem shr32 {x : Nat} {m : Nat} (hm : m ≤ 32) {k : Int} (hk : k = m) : shrI .u32 (x : Int) k = ((x / 2 ^ m : Nat) : Int) := by
  subst hk
  rw [shrI_nat, show min m IntKind.u32.bits = m from Nat.min_eq_left hm]
theorem rot_or {x m : Nat} (hx : x < W32) : bOr .u32 ((x / 2 ^ m : Nat) : Int) ((x * 2 ^ (32 - m) % W32 : Nat) : Int) = ((rot x m : Nat) : Int) :=
  bOr_nat rfl (Nat.lt_of_le_of_lt (Nat.div_le_self _ _) hx) (Nat.mod_lt _ (by decide))
theorem w_spin {x m : Nat} {n : Int} (hx : x < W32) (hm : 0 < m ∧ m < 32) (hn : n = m) : Gives Try.prog F_digest_spin [.int .u32 x, .int .i64 n] (.int .u32 (rot x m)) := by
  refine v_digest_spin (by simp) ?_
  have e1 := shr32 (x := x) (m := m) (by omega) hn
  have e2 : IntKind.i64.wrap (32 - n) = ((32 - m : Nat) : Int) := by rw [wrap_i64 (by omega)]; omega
  have e3 := shl32 (x := x) (n := 0) (m := 32 - m) (by omega) (k := ((32 - m : Nat) : Int)) rfl
  have e4 := rot_or (m := m) hx
  obtain ⟨p, hp⟩ : ∃ p, x / 2 ^ m = p := ⟨_, rfl⟩
  obtain ⟨q, hq⟩ : ∃ q, x * 2 ^ (32 - m) % W32 = q := ⟨_, rfl⟩
  obtain ⟨s, hs⟩ : ∃ s, 32 - m = s := ⟨_, rfl⟩
  rw [hs] at e2 e3 e4 hq
  rw [hp] at e1 e4
  rw [hq] at e3 e4
  have n0 : 0 ≤ n := by omega
  simp -implicitDefEqProofs [a_digest_spin, q_digest_spin_0, q_digest_spin_1, e1, e2, e3, e4, n0]
theorem w_right {x m : Nat} {n : Int} (hx : x < W32) (hm : 0 < m ∧ m < 32) (hn : n = m) : Gives Try.prog F_ref03_right [.int .u32 x, .int .u64 n] (.int .u32 (rot x m)) := by
  refine v_ref03_right (by simp) ?_
  have e1 := shr32 (x := x) (m := m) (by omega) hn
  have e2 : IntKind.u64.wrap (32 - n) = ((32 - m : Nat) : Int) := by rw [wrap_u64 (by omega)]; omega
  have e3 := shl32 (x := x) (n := 0) (m := 32 - m) (by omega) (k := ((32 - m : Nat) : Int)) rfl
  have e4 := rot_or (m := m) hx
  obtain ⟨p, hp⟩ : ∃ p, x / 2 ^ m = p := ⟨_, rfl⟩
  obtain ⟨q, hq⟩ : ∃ q, x * 2 ^ (32 - m) % W32 = q := ⟨_, rfl⟩
  obtain ⟨s, hs⟩ : ∃ s, 32 - m = s := ⟨_, rfl⟩
  rw [hs] at e2 e3 e4 hq
  rw [hp] at e1 e4
  rw [hq] at e3 e4
  have n0 : 0 ≤ n := by omega
  simp -implicitDefEqProofs [a_ref03_right, q_ref03_right_0, q_ref03_right_1, e1, e2, e3, e4, n0]
/-- A row that is filled from the left. -/
theorem fill_setN {l : List Nat} {i n : Nat} (h : i < l.length) (hn : l.length ≤ n) : (l.take i ++ List.replicate (n - i) 0).set i l[i] = l.take (i + 1) ++ List.replicate (n - (i + 1)) 0 := by
  rw [show n - i = (n - (i + 1)) + 1 by omega, List.replicate_succ, List.set_append_right _ _ (by simp; omega), List.length_take, show i - min i l.length = 0 by omega]
  simp only [List.set_cons_zero]
  rw [List.take_succ_eq_append_getElem h, List.append_assoc]; rfl
theorem fill_app {l : List Nat} {i n x : Nat} (h : l.length = i) (hn : i < n) : (l ++ List.replicate (n - i) 0).set i x = l ++ [x] ++ List.replicate (n - (i + 1)) 0 := by
  rw [show n - i = (n - (i + 1)) + 1 by omega, List.replicate_succ, List.set_append_right _ _ (by omega), h, Nat.sub_self]
  simp
theorem bits32 {x : Nat} (h : x < 4294967296) : x < 2 ^ IntKind.u32.bits := by
  have : (2 : Nat) ^ IntKind.u32.bits = 4294967296 := by simp [IntKind.bits]
  rw [this]; exact h
theorem or4 {a b c d : Nat} (ha : a < 256) (hb : b < 256) (hc : c < 256) (hd : d < 256) :
    bOr .u32 (bOr .u32 (bOr .u32 ((a * 16777216 : Nat) : Int) ((b * 65536 : Nat) : Int)) ((c * 256 : Nat) : Int)) (d : Int) = ((a * 16777216 + b * 65536 + c * 256 + d : Nat) : Int) := by
  have key : ∀ (x y k : Nat), y < 2 ^ k → x * 2 ^ k ||| y = x * 2 ^ k + y := fun x y k hy => by
    have := Nat.two_pow_add_eq_or_of_lt (i := k) (b := y) hy x
    rw [Nat.mul_comm]; exact this.symm
  have h1 : a * 16777216 ||| b * 65536 = a * 16777216 + b * 65536 := by
    have := key a (b * 65536) 24 (by omega); simpa using this
  have h2 : a * 16777216 + b * 65536 ||| c * 256 = a * 16777216 + b * 65536 + c * 256 := by
    have := key (a * 256 + b) (c * 256) 16 (by omega)
    rw [show (a * 256 + b) * 2 ^ 16 = a * 16777216 + b * 65536 by omega] at this; exact this
  have h3 : a * 16777216 + b * 65536 + c * 256 ||| d = a * 16777216 + b * 65536 + c * 256 + d := by
    have := key (a * 65536 + b * 256 + c) d 8 (by omega)
    rw [show (a * 65536 + b * 256 + c) * 2 ^ 8 = a * 16777216 + b * 65536 + c * 256 by omega] at this; exact this
  have z1 := bOr_nat (k := .u32) rfl (bits32 (show a * 16777216 < 4294967296 by omega)) (bits32 (show b * 65536 < 4294967296 by omega))
  have z2 := bOr_nat (k := .u32) rfl (bits32 (show a * 16777216 + b * 65536 < 4294967296 by omega)) (bits32 (show c * 256 < 4294967296 by omega))
  have z3 := bOr_nat (k := .u32) rfl (bits32 (show a * 16777216 + b * 65536 + c * 256 < 4294967296 by omega)) (bits32 (show d < 4294967296 by omega))
  rw [z1, h1, z2, h2, z3, h3]
/-- A word of four bytes, as either side makes it. -/
theorem word_of {a b c d : Nat} (ha : a < 256) (hb : b < 256) (hc : c < 256) (hd : d < 256) :
    bOr .u32 (bOr .u32 (bOr .u32 (shlI .u32 (a : Int) 24) (shlI .u32 (b : Int) 16)) (shlI .u32 (c : Int) 8)) (d : Int) = ((a * 16777216 + b * 65536 + c * 256 + d : Nat) : Int) := by
  rw [shl32 (m := 24) (n := 0) (by omega) (k := 24) rfl, shl32 (m := 16) (n := 0) (by omega) (k := 16) rfl, shl32 (m := 8) (n := 0) (by omega) (k := 8) rfl,
    show a * 2 ^ 24 % W32 = a * 16777216 from Nat.mod_eq_of_lt (by show _ < 4294967296; omega), show b * 2 ^ 16 % W32 = b * 65536 from Nat.mod_eq_of_lt (by show _ < 4294967296; omega), show c * 2 ^ 8 % W32 = c * 256 from Nat.mod_eq_of_lt (by show _ < 4294967296; omega)]
  exact or4 ha hb hc hd
theorem first16_get (b : List Nat) {i : Nat} (hi : i < 16) (hl : 4 * i + 3 < b.length) (h : i < (first16 b).length) : (first16 b)[i] = b[4 * i] * 16777216 + b[4 * i + 1] * 65536 + b[4 * i + 2] * 256 + b[4 * i + 3] := by
  simp [first16, word4, List.getD_eq_getElem?_getD, show 4 * i < b.length by omega, show 4 * i + 1 < b.length by omega, show 4 * i + 2 < b.length by omega, hl]
theorem sg0_of {x : Nat} (hx : x < W32) : bXor .u32 (bXor .u32 ((rot x 7 : Nat) : Int) ((rot x 18 : Nat) : Int)) (shrI .u32 (x : Int) 3) = ((sg0 x : Nat) : Int) := by
  rw [shr32 (m := 3) (by omega) (k := 3) rfl, bXor_nat rfl (bits32 (rot_lt 7 hx)) (bits32 (rot_lt 18 hx)), bXor_nat rfl (Nat.xor_lt_two_pow (bits32 (rot_lt 7 hx)) (bits32 (rot_lt 18 hx))) (bits32 (Nat.lt_of_le_of_lt (Nat.div_le_self _ _) hx))]
  rfl
theorem sg1_of {x : Nat} (hx : x < W32) : bXor .u32 (bXor .u32 ((rot x 17 : Nat) : Int) ((rot x 19 : Nat) : Int)) (shrI .u32 (x : Int) 10) = ((sg1 x : Nat) : Int) := by
  rw [shr32 (m := 10) (by omega) (k := 10) rfl, bXor_nat rfl (bits32 (rot_lt 17 hx)) (bits32 (rot_lt 19 hx)), bXor_nat rfl (Nat.xor_lt_two_pow (bits32 (rot_lt 17 hx)) (bits32 (rot_lt 19 hx))) (bits32 (Nat.lt_of_le_of_lt (Nat.div_le_self _ _) hx))]
  rfl
theorem add4_of (a b c d : Nat) : IntKind.u32.wrap (IntKind.u32.wrap (IntKind.u32.wrap ((a : Int) + (b : Int)) + (c : Int)) + (d : Int)) = (((a + b + c + d) % W32 : Nat) : Int) := by
  rw [wrap_u32m, wrap_u32m, wrap_u32m]
  show _ = (((a + b + c + d) % 4294967296 : Nat) : Int)
  omega
theorem wsN_words {b : List Nat} (hb : byts b) : ∀ j, Words (wsN b j)
  | 0 => by
    intro x hx
    simp only [wsN, first16, List.mem_map, List.mem_range] at hx
    obtain ⟨i, hi, rfl⟩ := hx
    have g : ∀ k, b.getD k 0 < 256 := fun k => by
      rw [List.getD_eq_getElem?_getD]
      cases h : b[k]? with
      | none => simp
      | some y => simpa using hb y (List.mem_of_getElem? h)
    have h0 := g (4 * i); have h1 := g (4 * i + 1); have h2 := g (4 * i + 2); have h3 := g (4 * i + 3)
    show word4 b i < 4294967296
    unfold word4
    omega
  | j + 1 => by
    intro x hx
    simp only [wsN, List.mem_append, List.mem_singleton] at hx
    rcases hx with hx | rfl
    · exact wsN_words hb j x hx
    · exact Nat.mod_lt _ (by decide)
theorem words_getD {l : List Nat} (h : Words l) (k : Nat) : l.getD k 0 < W32 := by
  rw [List.getD_eq_getElem?_getD]
  cases hh : l[k]? with
  | none => simp
  | some y => simpa using h y (List.mem_of_getElem? hh)
set_option maxHeartbeats 1000000 in
theorem spread_L12 {b : List Nat} (hb : byts b) {g2 g3 : Nat} (n1 : ¬g3 = g2) (n2 : ¬g2 = g3) {env : AEnv} (e2 : env 2 = .ptr g2 0) (e3 : env 3 = .ptr g3 0) (e5 : env 5 = .int .i64 16) :
    X Try.prog (fin [ARes.cell 2 (.ia .u32 64) 64] (.iarr .u32 64 (ints (wsN b 48)))) (.loop q_digest_spread_L12) (Kt.blk 2 (Kt.thn ((ACode.region q_digest_spread_12).seq ACode.ret) Kt.done)) env
      ((H0.set g2 (.var T_64_uint32 [.iarr .u32 64 (List.replicate 64 0)])).set g3 (.var T_64_uint32 [.iarr .u32 64 (ints (wsN b 0 ++ List.replicate (48 - 0) 0))])) := by
  refine X_lp (fun (j : Nat) env B => j ≤ 48 ∧ env 2 = .ptr g2 0 ∧ env 3 = .ptr g3 0 ∧ env 5 = .int .i64 (16 + j : Nat) ∧ B = (H0.set g2 (.var T_64_uint32 [.iarr .u32 64 (List.replicate 64 0)])).set g3 (.var T_64_uint32 [.iarr .u32 64 (ints (wsN b j ++ List.replicate (48 - j) 0))])) (fun j => 48 - j) 0
    ⟨by omega, by simp [e2], by simp [e3], by simp [e5], rfl⟩ ?_
  rintro j env B ⟨hj, e2, e3, e5, rfl⟩
  simp -implicitDefEqProofs [q_digest_spread_L12, q_digest_spread_8, e2, e3, e5, -List.reduceReplicate]
  refine ⟨fun hjl => ?_, fun hjl => ?_⟩
  · have hwl := wsN_length b j
    have q16 : IntKind.i64.wrap (16 + (j : Int) - 16) = ((j : Nat) : Int) := by rw [wrap_i64 (by omega)]; omega
    have q15 : IntKind.i64.wrap (16 + (j : Int) - 15) = ((j + 1 : Nat) : Int) := by rw [wrap_i64 (by omega)]; omega
    have q7 : IntKind.i64.wrap (16 + (j : Int) - 7) = ((j + 9 : Nat) : Int) := by rw [wrap_i64 (by omega)]; omega
    have q2 : IntKind.i64.wrap (16 + (j : Int) - 2) = ((j + 14 : Nat) : Int) := by rw [wrap_i64 (by omega)]; omega
    have q1 : IntKind.i64.wrap (16 + (j : Int) + 1) = ((16 + (j + 1) : Nat) : Int) := by rw [wrap_i64 (by omega)]; omega
    obtain ⟨L, hL⟩ : ∃ L, wsN b j ++ List.replicate (48 - j) 0 = L := ⟨_, rfl⟩
    have hLl : L.length = 64 := by rw [← hL]; simp; omega
    rw [hL]
    have rd : ∀ k, k < 16 + j → L[k]?.getD 0 = (wsN b j).getD k 0 := fun k hk => by
      rw [← hL, List.getElem?_append_left (by omega), List.getD_eq_getElem?_getD]
    have hw := wsN_words hb j
    have hN : nextW (wsN b j) j = ((wsN b j).getD j 0 + sg0 ((wsN b j).getD (j + 1) 0) + (wsN b j).getD (j + 9) 0 + sg1 ((wsN b j).getD (j + 14) 0)) % W32 := rfl
    have a0 := words_getD hw j; have a1 := words_getD hw (j + 1); have a9 := words_getD hw (j + 9); have a14 := words_getD hw (j + 14)
    have r0 := rd j (by omega); have r1 := rd (j + 1) (by omega); have r9 := rd (j + 9) (by omega); have r14 := rd (j + 14) (by omega)
    obtain ⟨x0, h0⟩ : ∃ x, (wsN b j).getD j 0 = x := ⟨_, rfl⟩
    obtain ⟨x1, h1⟩ : ∃ x, (wsN b j).getD (j + 1) 0 = x := ⟨_, rfl⟩
    obtain ⟨x9, h9⟩ : ∃ x, (wsN b j).getD (j + 9) 0 = x := ⟨_, rfl⟩
    obtain ⟨x14, h14⟩ : ∃ x, (wsN b j).getD (j + 14) 0 = x := ⟨_, rfl⟩
    rw [h0, h1, h9, h14] at hN
    rw [h0] at a0 r0; rw [h1] at a1 r1; rw [h9] at a9 r9; rw [h14] at a14 r14
    have t1 : ((j : Int) + 1).toNat = j + 1 := by omega
    have t9 : ((j : Int) + 9).toNat = j + 9 := by omega
    have t14 : ((j : Int) + 14).toNat = j + 14 := by omega
    simp -implicitDefEqProofs [q_digest_spread_9, q_digest_spread_10, q_digest_spread_11, e2, e3, e5, q16, q15, q7, q2, q1, hLl, t1, t9, t14, r0, r1, r9, r14, -List.reduceReplicate]
    refine ⟨by omega, by omega, by omega, by omega, by omega, by omega, by omega, ?_⟩
    refine (w_spin a1 (m := 7) (by omega) rfl).call (.cons (.refl _) rfl (.cons (.refl _) rfl .nil)) rfl ?_
    simp -implicitDefEqProofs [Sub_refl]
    refine (w_spin a1 (m := 18) (by omega) rfl).call (.cons (.refl _) rfl (.cons (.refl _) rfl .nil)) rfl ?_
    simp -implicitDefEqProofs [Sub_refl, sg0_of a1]
    refine (w_spin a14 (m := 17) (by omega) rfl).call (.cons (.refl _) rfl (.cons (.refl _) rfl .nil)) rfl ?_
    simp -implicitDefEqProofs [Sub_refl]
    refine (w_spin a14 (m := 19) (by omega) rfl).call (.cons (.refl _) rfl (.cons (.refl _) rfl .nil)) rfl ?_
    have hq := add4_of x0 (sg0 x1) x9 (sg1 x14)
    obtain ⟨y, hy⟩ : ∃ y, nextW (wsN b j) j = y := ⟨_, rfl⟩
    rw [← hN, hy] at hq
    have t16 : (16 + (j : Int)).toNat = 16 + j := by omega
    have hset : L.set (16 + j) y = wsN b (j + 1) ++ List.replicate (47 - j) 0 := by
      have := fill_app (x := nextW (wsN b j) j) hwl (show 16 + j < 64 by omega)
      rw [show 64 - (16 + j) = 48 - j by omega, hL, show 64 - (16 + j + 1) = 47 - j by omega, hy] at this
      rw [this, ← hy]; rfl
    simp -implicitDefEqProofs [Sub_refl, sg1_of a14, e3, e5, hLl, hq, q1, t16, hset, -List.reduceReplicate]
    refine ⟨by omega, by omega, ?_⟩
    refine lp_next (j + 1) ⟨by omega, by simp [e2], by simp [e3], ?_, by rw [show 48 - (j + 1) = 47 - j by omega]⟩ (by omega)
    simp
    try omega
  · have hje : j = 48 := by omega
    subst hje
    simp -implicitDefEqProofs [q_digest_spread_12, e2, e3, n1, n2, outOf, -List.reduceReplicate]
theorem w_digest_spread {b : List Nat} (hb : byts b) (hl : b.length = 64) : Gives Try.prog F_digest_spread [.isl .u8 (ints b)] (.iarr .u32 64 (ints (wsN b 48))) := by
  refine v_digest_spread (by simp) ?_
  simp -implicitDefEqProofs [a_digest_spread, q_digest_spread_0, q_digest_spread_1, q_digest_spread_2, -List.reduceReplicate]
  intro g2 g3 n1 n2
  have h0 : List.replicate 64 (0 : Int) = ints ((first16 b).take 0 ++ List.replicate (64 - 0) 0) := by rw [List.take_zero, List.nil_append]; exact (List.map_replicate (f := fun (n : Nat) => (n : Int))).symm
  have hf : (first16 b).length = 16 := by simp [first16]
  refine X_lp (fun (i : Nat) env B => i ≤ 16 ∧ env 0 = .isl .u8 (ints b) ∧ env 2 = .ptr g2 0 ∧ env 3 = .ptr g3 0 ∧ env 8 = .int .i64 i ∧ B = (H0.set g2 (.var T_64_uint32 [.iarr .u32 64 (List.replicate 64 0)])).set g3 (.var T_64_uint32 [.iarr .u32 64 (ints ((first16 b).take i ++ List.replicate (64 - i) 0))])) (fun i => 16 - i) 0
    ⟨by omega, by simp, by simp, by simp, by simp, by rw [← h0]⟩ ?_
  · rintro i env B ⟨hi, e0, e2, e3, e8, rfl⟩
    simp -implicitDefEqProofs [q_digest_spread_L7, q_digest_spread_3, e0, e2, e3, e8, -List.reduceReplicate]
    refine ⟨fun hil => ?_, fun hil => ?_⟩
    · have i0 : 4 * i < b.length := by omega
      have i1 : 4 * i + 1 < b.length := by omega
      have i2 : 4 * i + 2 < b.length := by omega
      have i3 : 4 * i + 3 < b.length := by omega
      have w0 : IntKind.i64.wrap (4 * (i : Int)) = 4 * (i : Int) := wrap_i64 (by omega)
      have w1 : IntKind.i64.wrap (4 * (i : Int) + 1) = 4 * (i : Int) + 1 := wrap_i64 (by omega)
      have w2 : IntKind.i64.wrap (4 * (i : Int) + 2) = 4 * (i : Int) + 2 := wrap_i64 (by omega)
      have w3 : IntKind.i64.wrap (4 * (i : Int) + 3) = 4 * (i : Int) + 3 := wrap_i64 (by omega)
      have t0 : (4 * (i : Int)).toNat = 4 * i := by omega
      have t1 : (4 * (i : Int) + 1).toNat = 4 * i + 1 := by omega
      have t2 : (4 * (i : Int) + 2).toNat = 4 * i + 2 := by omega
      have t3 : (4 * (i : Int) + 3).toNat = 4 * i + 3 := by omega
      have c0 := hb _ (List.getElem_mem i0)
      have c1 := hb _ (List.getElem_mem i1)
      have c2 := hb _ (List.getElem_mem i2)
      have c3 := hb _ (List.getElem_mem i3)
      have i16 : i < (first16 b).length := by omega
      have hw := word_of c0 c1 c2 c3
      rw [← first16_get b (by omega) i3 i16] at hw
      have y0 : IntKind.u32.wrap ((b[4 * i] : Nat) : Int) = ((b[4 * i] : Nat) : Int) := wrap_u32 (by omega)
      have y1 : IntKind.u32.wrap ((b[4 * i + 1] : Nat) : Int) = ((b[4 * i + 1] : Nat) : Int) := wrap_u32 (by omega)
      have y2 : IntKind.u32.wrap ((b[4 * i + 2] : Nat) : Int) = ((b[4 * i + 2] : Nat) : Int) := wrap_u32 (by omega)
      have y3 : IntKind.u32.wrap ((b[4 * i + 3] : Nat) : Int) = ((b[4 * i + 3] : Nat) : Int) := wrap_u32 (by omega)
      have hfs := fill_setN i16 (show (first16 b).length ≤ 64 by omega)
      have wi : IntKind.i64.wrap ((i : Int) + 1) = (i : Int) + 1 := wrap_i64 (by omega)
      simp -implicitDefEqProofs [q_digest_spread_4, q_digest_spread_5, q_digest_spread_6, e0, e2, e3, e8, w0, w1, w2, w3, t0, t1, t2, t3, i0, i1, i2, i3, hil, y0, y1, y2, y3, hw, hfs, wi, -List.reduceReplicate]
      refine ⟨by omega, by omega, by omega, by omega, by omega, by omega, by omega, by omega, by omega, by rw [hf]; omega, ?_⟩
      exact lp_next (i + 1) ⟨by omega, by simp [e0], by simp [e2], by simp [e3], by simp, by rw [show 64 - (i + 1) = 63 - i by omega]⟩ (by omega)
    · have hie : i = 16 := by omega
      subst hie
      have hws : (first16 b).take 16 ++ List.replicate (64 - 16) 0 = wsN b 0 ++ List.replicate (48 - 0) 0 := by rw [List.take_of_length_le (by omega)]; rfl
      rw [hws]
      simp -implicitDefEqProofs [q_digest_spread_7, -List.reduceReplicate]
      refine spread_L12 hb n1 n2 ?_ ?_ ?_
      · simp [e2]
      · simp [e3]
      · simp
end Go.Proofs.Ytfdckjliinpjiaa
