/- Texts of this claim, in order: Fn Gdig Dh Db Dc Dd De Df Dg Dk Dm Dn Do Dp Ya Yb. -/
import Derived.Test.YtfdckjliinpjiaaL4
import Derived.Test.YtfdckjliinpjiaaProg
import Derived.KernelRfl
/- The numbers of functions and types, by name. -/
namespace Go.Proofs.Ytfdckjliinpjiaa
open Go AVL
set_option linter.unusedVariables false
set_option maxRecDepth 20000

abbrev F_law24_ParcelPuts : FuncId := 3
abbrev F_law24_ParcelBack : FuncId := 4
abbrev F_law24_ParcelOne : FuncId := 5
abbrev F_law10_SlotmapDoes : FuncId := 6
abbrev F_law10_SlotmapBack : FuncId := 7
abbrev F_law10_SlotmapParts : FuncId := 8
abbrev F_law13_ChunkCuts : FuncId := 9
abbrev F_law13_ChunkNames : FuncId := 10
abbrev F_law13_ChunkBack : FuncId := 11
abbrev F_law31_TreeRoots : FuncId := 12
abbrev F_law31_TreeBack : FuncId := 13
abbrev F_law31_TreeTells : FuncId := 14
abbrev F_law24_Light : FuncId := 15
abbrev F_law24_works : FuncId := 16
abbrev F_parcel_Put : FuncId := 17
abbrev F_ref24_Put : FuncId := 18
abbrev F_ref01_Same : FuncId := 19
abbrev F_parcel_Same : FuncId := 20
abbrev F_ref24_Same : FuncId := 21
abbrev F_parcel_Get : FuncId := 22
abbrev F_law10_works : FuncId := 23
abbrev F_slotmap_New : FuncId := 24
abbrev F_Pslotmap_Map_Copy : FuncId := 25
abbrev F_ref10_Set : FuncId := 26
abbrev F_Pslotmap_Map_Set : FuncId := 27
abbrev F_ref10_Take : FuncId := 28
abbrev F_Pslotmap_Map_Take : FuncId := 29
abbrev F_law10_ints : FuncId := 30
abbrev F_law10_same : FuncId := 31
abbrev F_Pslotmap_Map_Put : FuncId := 32
abbrev F_slotmap_Read : FuncId := 33
abbrev F_ref10_Put : FuncId := 34
abbrev F_Pslotmap_Map_Len : FuncId := 35
abbrev F_Pslotmap_Map_Count : FuncId := 36
abbrev F_Pslotmap_Map_First : FuncId := 37
abbrev F_Pslotmap_Map_Get : FuncId := 38
abbrev F_law13_works : FuncId := 39
abbrev F_chunk_Split : FuncId := 40
abbrev F_ref13_Split : FuncId := 41
abbrev F_chunk_Check : FuncId := 42
abbrev F_ref13_Check : FuncId := 43
abbrev F_chunk_Count : FuncId := 44
abbrev F_chunk_Part : FuncId := 45
abbrev F_chunk_All : FuncId := 46
abbrev F_chunk_Addresses : FuncId := 47
abbrev F_ref13_Address : FuncId := 48
abbrev F_chunk_Address : FuncId := 49
abbrev F_chunk_Text : FuncId := 50
abbrev F_ref13_Text : FuncId := 51
abbrev F_chunk_Of : FuncId := 52
abbrev F_chunk_Sector : FuncId := 53
abbrev F_chunk_Join : FuncId := 54
abbrev F_ref13_Join : FuncId := 55
abbrev F_law31_light : FuncId := 56
abbrev F_law31_works : FuncId := 57
abbrev F_tree_Root : FuncId := 58
abbrev F_ref31_Root : FuncId := 59
abbrev F_tree_Check : FuncId := 60
abbrev F_tree_Prove : FuncId := 61
abbrev F_ref31_Same : FuncId := 62
abbrev F_ref31_Path : FuncId := 63
abbrev F_tree_Leaf : FuncId := 64
abbrev F_ref03_Sum : FuncId := 65
abbrev F_ref31_LeafText : FuncId := 66
abbrev F_tree_Depth : FuncId := 67
abbrev F_ref31_Rows : FuncId := 68
abbrev F_tree_All : FuncId := 69
abbrev F_tree_Climb : FuncId := 70
abbrev F_tree_Verify : FuncId := 71
abbrev F_law31_texts : FuncId := 72
abbrev F_law31_clash : FuncId := 73
abbrev F_trap_Try_byte : FuncId := 74
abbrev F_parcel_Put_1 : FuncId := 75
abbrev F_parcel_put : FuncId := 76
abbrev F_ref24_wrong : FuncId := 77
abbrev F_ref01_Put : FuncId := 78
abbrev F_ref24_text : FuncId := 79
abbrev F_trap_Try_api_Request : FuncId := 80
abbrev F_Pparcel_eye_get : FuncId := 81
abbrev F_Pslotmap_Map_Last : FuncId := 82
abbrev F_ref10_Of : FuncId := 83
abbrev F_Pslotmap_Map_All : FuncId := 84
abbrev F_law10_all : FuncId := 85
abbrev F_word_Whole : FuncId := 86
abbrev F_crc_Sealed : FuncId := 87
abbrev F_crc_Holds : FuncId := 88
abbrev F_ref08_Sealed : FuncId := 89
abbrev F_chunk_All_1 : FuncId := 90
abbrev F_ref13_Said : FuncId := 91
abbrev F_digest_Of : FuncId := 92
abbrev F_ref13_Words : FuncId := 93
abbrev F_digest_New : FuncId := 94
abbrev F_Pdigest_Hash_Add : FuncId := 95
abbrev F_word_Put : FuncId := 96
abbrev F_Pdigest_Hash_Sum : FuncId := 97
abbrev F_word_Zero : FuncId := 98
abbrev F_ref01_Zero : FuncId := 99
abbrev F_tree_leaves : FuncId := 100
abbrev F_tree_up : FuncId := 101
abbrev F_tree_crown : FuncId := 102
abbrev F_ref31_Check : FuncId := 103
abbrev F_ref31_RootText : FuncId := 104
abbrev F_ref31_top : FuncId := 105
abbrev F_ref31_path : FuncId := 106
abbrev F_ref03_table : FuncId := 107
abbrev F_ref03_padded : FuncId := 108
abbrev F_ref03_mixed : FuncId := 109
abbrev F_ref03_words : FuncId := 110
abbrev F_tree_join : FuncId := 111
abbrev F_ref31_NodeText : FuncId := 112
abbrev F_trap_Catch : FuncId := 113
abbrev F_trap_Try_byte_1 : FuncId := 114
abbrev F_parcel_mark : FuncId := 115
abbrev F_parcel_text : FuncId := 116
abbrev F_trap_Throw : FuncId := 117
abbrev F_trap_Try_api_Request_1 : FuncId := 118
abbrev F_Pparcel_eye_take : FuncId := 119
abbrev F_Pparcel_eye_num : FuncId := 120
abbrev F_Pparcel_eye_text : FuncId := 121
abbrev F_Pparcel_eye_addr : FuncId := 122
abbrev F_Pslotmap_Map_All_1 : FuncId := 123
abbrev F_crc_Four : FuncId := 124
abbrev F_crc_Of : FuncId := 125
abbrev F_ref02_Of : FuncId := 126
abbrev F_digest_mix : FuncId := 127
abbrev F_ref31_behind : FuncId := 128
abbrev F_ref31_width : FuncId := 129
abbrev F_ref03_right : FuncId := 130
abbrev F_trap_Catch_1 : FuncId := 131
abbrev F_trap_caught : FuncId := 132
abbrev F_word_Get : FuncId := 133
abbrev F_crc_More : FuncId := 134
abbrev F_ref02_bits : FuncId := 135
abbrev F_digest_spread : FuncId := 136
abbrev F_digest_rounds : FuncId := 137
abbrev F_digest_spin : FuncId := 138
abbrev F_crc_turn : FuncId := 139
abbrev F_Pruntime_TypeAssertionError_Error : FuncId := 148
abbrev F_Pruntime_TypeAssertionError_RuntimeError : FuncId := 149
abbrev F_Pruntime_PanicNilError_Error : FuncId := 150
abbrev F_Pruntime_PanicNilError_RuntimeError : FuncId := 151
abbrev F_Pinternal_abi_Type_Align : FuncId := 152
abbrev F_internal_runtime_maps_unhashableTypeError_Error : FuncId := 153
abbrev F_internal_runtime_maps_unhashableTypeError_RuntimeError : FuncId := 154
abbrev F_internal_abi_Kind_String : FuncId := 155
abbrev T_fno_c : TypeId := 1
abbrev T_int64 : TypeId := 2
abbrev T_int : TypeId := 3
abbrev T_bool : TypeId := 4
abbrev T_uint8 : TypeId := 5
abbrev T_string : TypeId := 9
abbrev T_uintptr : TypeId := 12
abbrev T_P_runtime_TypeAssertionError : TypeId := 15
abbrev T_P_runtime_PanicNilError : TypeId := 16
abbrev T_P_abi_Type : TypeId := 17
abbrev T_interface : TypeId := 20
abbrev T_int32 : TypeId := 21
abbrev T_L_uint8 : TypeId := 22
abbrev T_32_uint8 : TypeId := 23
abbrev T_L_32_uint8 : TypeId := 24
abbrev T_api_Request : TypeId := 26
abbrev T_fno_api_Request_c_int : TypeId := 27
abbrev T_fno_c_bool : TypeId := 28
abbrev T_api_Code : TypeId := 29
abbrev T_L_uint8_api_Code : TypeId := 30
abbrev T_fno_api_Request_c_o_L_uint8_api_Code_c : TypeId := 31
abbrev T_fno_L_uint8_L_uint8_c_bool : TypeId := 32
abbrev T_fno_api_Request_api_Request_c_bool : TypeId := 33
abbrev T_api_Request_api_Code : TypeId := 34
abbrev T_fno_L_uint8_c_o_api_Request_api_Code_c : TypeId := 35
abbrev T_fno_L_uint8_c_bool : TypeId := 36
abbrev T_L_law10_Op : TypeId := 37
abbrev T_P_slotmap_Map : TypeId := 38
abbrev T_P_slotmap_Map_api_Code : TypeId := 39
abbrev T_fno_int_c_o_P_slotmap_Map_api_Code_c : TypeId := 40
abbrev T_L_int : TypeId := 41
abbrev T_fno_c_P_slotmap_Map : TypeId := 42
abbrev T_law10_Op : TypeId := 44
abbrev T_L_int_api_Code : TypeId := 45
abbrev T_fno_L_int_int_int_c_o_L_int_api_Code_c : TypeId := 46
abbrev T_fno_int_int_c_api_Code : TypeId := 47
abbrev T_L_int_L_int_api_Code : TypeId := 48
abbrev T_fno_L_int_int_c_o_L_int_L_int_api_Code_c : TypeId := 49
abbrev T_fno_int_c_o_L_int_api_Code_c : TypeId := 50
abbrev T_fno_L_int_L_int_c_bool : TypeId := 51
abbrev T_fno_P_slotmap_Map_L_int_c_bool : TypeId := 52
abbrev T_fno_int_L_law10_Op_c_bool : TypeId := 53
abbrev T_256_uint8 : TypeId := 54
abbrev T_fno_c_256_uint8 : TypeId := 55
abbrev T_fno_int_256_uint8_c_o_P_slotmap_Map_api_Code_c : TypeId := 56
abbrev T_fno_L_int_c_256_uint8 : TypeId := 57
abbrev T_fno_c_int : TypeId := 58
abbrev T_fno_L_uint8_256_uint8_int_c_bool : TypeId := 59
abbrev T_fno_int_c_int : TypeId := 60
abbrev T_fno_L_uint8_int_c_bool : TypeId := 61
abbrev T_L_L_uint8 : TypeId := 62
abbrev T_fno_L_uint8_c_L_L_uint8 : TypeId := 63
abbrev T_fno_L_uint8_c_api_Code : TypeId := 64
abbrev T_fno_int_int_c_int : TypeId := 65
abbrev T_fno_funco_int_L_uint8_c_bool_c : TypeId := 66
abbrev T_iter_Seq2_int_L_uint8 : TypeId := 67
abbrev T_fno_L_uint8_c_iter_Seq2_int_L_uint8 : TypeId := 68
abbrev T_fno_L_uint8_int_int_c_bool : TypeId := 69
abbrev T_fno_L_uint8_c_L_32_uint8 : TypeId := 70
abbrev T_fno_L_uint8_c_32_uint8 : TypeId := 71
abbrev T_fno_int_L_32_uint8_c_32_uint8 : TypeId := 72
abbrev T_L_256_uint8 : TypeId := 73
abbrev T_fno_L_uint8_c_256_uint8 : TypeId := 74
abbrev T_fno_int_L_256_uint8_c_o_L_uint8_api_Code_c : TypeId := 75
abbrev T_fno_L_uint8_int_L_256_uint8_c_bool : TypeId := 76
abbrev T_fno_L_L_uint8_c_bool : TypeId := 77
abbrev T_32_uint8_api_Code : TypeId := 78
abbrev T_fno_L_L_uint8_c_o_32_uint8_api_Code_c : TypeId := 79
abbrev T_fno_L_L_uint8_c_api_Code : TypeId := 80
abbrev T_tree_Proof : TypeId := 82
abbrev T_tree_Proof_api_Code : TypeId := 83
abbrev T_fno_L_L_uint8_int_c_o_tree_Proof_api_Code_c : TypeId := 84
abbrev T_fno_L_32_uint8_L_32_uint8_c_bool : TypeId := 85
abbrev T_fno_L_L_uint8_int_c_L_32_uint8 : TypeId := 86
abbrev T_fno_int_L_uint8_c_32_uint8 : TypeId := 87
abbrev T_fno_int_L_uint8_c_L_uint8 : TypeId := 88
abbrev T_fno_L_L_uint8_int_int_c_bool : TypeId := 89
abbrev T_L_tree_Proof : TypeId := 90
abbrev T_L_tree_Proof_api_Code : TypeId := 91
abbrev T_fno_L_L_uint8_c_o_L_tree_Proof_api_Code_c : TypeId := 92
abbrev T_32_uint8_bool : TypeId := 93
abbrev T_fno_tree_Proof_L_uint8_c_o_32_uint8_bool_c : TypeId := 94
abbrev T_fno_32_uint8_tree_Proof_L_uint8_c_bool : TypeId := 95
abbrev T_fno_tree_Proof_L_uint8_c_L_L_uint8 : TypeId := 96
abbrev T_fno_L_L_uint8_tree_Proof_L_uint8_c_bool : TypeId := 97
abbrev T_fno_funco_c_L_uint8_c_o_L_uint8_api_Code_c : TypeId := 98
abbrev T_fno_api_Request_c_L_uint8 : TypeId := 99
abbrev T_fno_c_L_uint8 : TypeId := 100
abbrev T_fno_api_Request_c_api_Code : TypeId := 101
abbrev T_fno_uint64_int_c_L_uint8 : TypeId := 102
abbrev T_uint64 : TypeId := 103
abbrev T_fno_L_uint8_string_c_L_uint8 : TypeId := 104
abbrev T_P_parcel_eye : TypeId := 105
abbrev T_parcel_eye : TypeId := 107
abbrev T_fno_funco_c_api_Request_c_o_api_Request_api_Code_c : TypeId := 108
abbrev T_fno_c_api_Request : TypeId := 109
abbrev T_slotmap_Map : TypeId := 111
abbrev T_fno_L_int_int_c_L_int : TypeId := 112
abbrev T_fno_funco_int_c_bool_c : TypeId := 113
abbrev T_iter_Seq_int : TypeId := 114
abbrev T_fno_int_c_iter_Seq_int : TypeId := 115
abbrev T_fno_P_slotmap_Map_int_c_L_int : TypeId := 116
abbrev T_fno_L_uint8_c_L_uint8 : TypeId := 117
abbrev T_fno_int_L_uint8_c_bool : TypeId := 118
abbrev T_P_digest_Hash : TypeId := 120
abbrev T_fno_c_P_digest_Hash : TypeId := 121
abbrev T_fno_L_uint8_c : TypeId := 122
abbrev T_fno_c_32_uint8 : TypeId := 123
abbrev T_fno_L_L_uint8_c_L_32_uint8 : TypeId := 124
abbrev T_fno_L_32_uint8_c_L_32_uint8 : TypeId := 125
abbrev T_fno_int_32_uint8_c_32_uint8 : TypeId := 126
abbrev T_fno_int_32_uint8_c_L_uint8 : TypeId := 127
abbrev T_fno_L_L_uint8_int_c_32_uint8 : TypeId := 128
abbrev T_fno_L_L_uint8_int_int_c_L_32_uint8 : TypeId := 129
abbrev T_L_uint32 : TypeId := 130
abbrev T_fno_c_L_uint32 : TypeId := 131
abbrev T_uint32 : TypeId := 132
abbrev T_8_uint32 : TypeId := 133
abbrev T_fno_8_uint32_L_uint32_64_uint32_c_8_uint32 : TypeId := 134
abbrev T_64_uint32 : TypeId := 135
abbrev T_fno_L_uint8_int_c_64_uint32 : TypeId := 136
abbrev T_uint : TypeId := 137
abbrev T_fno_32_uint8_32_uint8_c_32_uint8 : TypeId := 138
abbrev T_fno_32_uint8_32_uint8_c_L_uint8 : TypeId := 139
abbrev T_fno_funco_c_c_api_Code : TypeId := 140
abbrev T_2_uint8 : TypeId := 141
abbrev T_fno_c_2_uint8 : TypeId := 142
abbrev T_3_string : TypeId := 143
abbrev T_fno_string_int_c_L_uint8 : TypeId := 144
abbrev T_2_bool : TypeId := 145
abbrev T_fno_api_Code_c : TypeId := 146
abbrev T_fno_int_c_L_uint8 : TypeId := 147
abbrev T_fno_int_c_uint64 : TypeId := 148
abbrev T_fno_int_c_string : TypeId := 149
abbrev T_fno_int_c_bool : TypeId := 150
abbrev T_4_uint8 : TypeId := 151
abbrev T_fno_uint32_c_4_uint8 : TypeId := 152
abbrev T_fno_L_uint8_c_uint32 : TypeId := 153
abbrev T_digest_Hash : TypeId := 155
abbrev T_fno_8_uint32_L_uint8_c_8_uint32 : TypeId := 156
abbrev T_fno_L_uint8_32_uint8_c_L_uint8 : TypeId := 157
abbrev T_fno_uint32_uint_c_uint32 : TypeId := 158
abbrev T_fno_interface_c_api_Code : TypeId := 159
abbrev T_trap_Fault : TypeId := 161
abbrev T_fno_L_uint8_c_uint64 : TypeId := 162
abbrev T_fno_uint32_L_uint8_c_uint32 : TypeId := 163
abbrev T_fno_L_uint8_c_64_uint32 : TypeId := 164
abbrev T_fno_c_64_uint32 : TypeId := 165
abbrev T_fno_uint32_int_c_uint32 : TypeId := 166
abbrev T_fno_uint32_uint8_c_uint32 : TypeId := 167
abbrev T_fno_c_string : TypeId := 168
abbrev T_0_P_runtime_PanicNilError : TypeId := 171
abbrev T_fno_unsafe_Pointer_unsafe_Pointer_c_bool : TypeId := 176
abbrev T_P_uint8 : TypeId := 177
end Go.Proofs.Ytfdckjliinpjiaa

/- Abstract programs; that they are the program's. -/
namespace Go.Proofs.Ytfdckjliinpjiaa
open Go AVL
set_option linter.unusedVariables false
set_option maxRecDepth 20000

def q_digest_Of_0 : List AOper := [
  ⟨(some 2), (.alloc 23 [(.iarr .u8 32 (List.replicate 32 0))]), none⟩]
def q_digest_Of_1 : List AOper := [
  ⟨(some 6), (.call F_digest_New []), none⟩,
  ⟨(some 3), (.mv (.t 6)), none⟩]
def q_digest_Of_2 : List AOper := [
  ⟨(some 7), (.mv (.t 0)), none⟩,
  ⟨(some 8), (.len false (.t 7)), none⟩,
  ⟨(some 9), (.mv (.v (.int .i64 0))), none⟩]
def q_digest_Of_3 : List AOper := [
  ⟨(some 10), (.bin .lss (.t 9) (.t 8)), none⟩]
def q_digest_Of_4 : List AOper := [
  ⟨(some 11), (.idx 1 (.t 7) (.t 9)), none⟩,
  ⟨(some 12), (.load .sc 1 (.t 11)), none⟩,
  ⟨(some 5), (.mv (.t 12)), none⟩]
def q_digest_Of_5 : List AOper := [
  ⟨(some 13), (.mv (.t 3)), none⟩,
  ⟨(some 14), (.mv (.t 5)), none⟩,
  ⟨(some 15), (.call F_Pdigest_Hash_Add [(.sc, (.t 13)), (.sc, (.t 14))]), none⟩]
def q_digest_Of_6 : List AOper := [
  ⟨(some 16), (.bin .add (.t 9) (.v (.int .i64 1))), none⟩,
  ⟨(some 9), (.mv (.t 16)), none⟩]
def q_digest_Of_L7 : ACode := (.seq (.region q_digest_Of_3) (.seq (.cond (.t 10) .skip (.exit 0)) (.seq (.block 1 (.seq (.region q_digest_Of_4) (.region q_digest_Of_5))) (.region q_digest_Of_6))))
def q_digest_Of_7 : List AOper := [
  ⟨(some 17), (.mv (.t 3)), none⟩,
  ⟨(some 18), (.call F_Pdigest_Hash_Sum [(.sc, (.t 17))]), none⟩,
  ⟨none, (.store (.ia .u8 32) 32 (.t 2) (.t 18)), none⟩]
def a_digest_Of : AFunc := ⟨[(.cell 2 (.ia .u8 32) 32)], (.seq (.region q_digest_Of_0) (.seq (.region q_digest_Of_1) (.seq (.seq (.region q_digest_Of_2) (.block 0 (.loop q_digest_Of_L7))) (.seq (.region q_digest_Of_7) .ret))))⟩

def q_digest_New_0 : List AOper := [
  ⟨(some 0), (.mv (.v .nilP)), none⟩]
def q_digest_New_1 : List AOper := [
  ⟨(some 1), (.build (.ia .u32 8) [(.iarr .u32 8 [0, 0, 0, 0, 0, 0, 0, 0])] [(0, (1, (.v (.int .u32 1779033703)))), (1, (1, (.v (.int .u32 3144134277)))), (2, (1, (.v (.int .u32 1013904242)))), (3, (1, (.v (.int .u32 2773480762)))), (4, (1, (.v (.int .u32 1359893119)))), (5, (1, (.v (.int .u32 2600822924)))), (6, (1, (.v (.int .u32 528734635)))), (7, (1, (.v (.int .u32 1541459225))))]), none⟩,
  ⟨(some 2), (.build .ag [(.iarr .u32 8 [0, 0, 0, 0, 0, 0, 0, 0]), .nilS, (.int .u64 0)] [(0, (8, (.t 1)))]), none⟩,
  ⟨(some 3), (.box 155 .ag (.t 2)), none⟩,
  ⟨(some 0), (.mv (.t 3)), none⟩]
def a_digest_New : AFunc := ⟨[(.tmp 0)], (.seq (.region q_digest_New_0) (.seq (.region q_digest_New_1) .ret))⟩

def q_digest_mix_0 : List AOper := [
  ⟨(some 2), (.box 133 (.ia .u32 8) (.t 0)), none⟩,
  ⟨(some 4), (.alloc 133 [(.iarr .u32 8 [0, 0, 0, 0, 0, 0, 0, 0])]), none⟩]
def q_digest_mix_1 : List DOp := [
  ⟨⟨(some 14), (.mv (.t 1)), none⟩, true, false, none, []⟩,
  ⟨⟨(some 17), (.load (.ia .u32 8) 8 (.t 2)), none⟩, true, false, none, []⟩,
  ⟨⟨(some 15), (.call F_digest_spread [(.sc, (.t 14))]), none⟩, false, true, (some [2]), []⟩,
  ⟨⟨(some 16), (.call F_digest_rounds []), none⟩, false, true, (some [2]), []⟩,
  ⟨⟨(some 5), (.alloc 135 [(.iarr .u32 64 (List.replicate 64 0))]), none⟩, false, false, none, []⟩,
  ⟨⟨(some 6), (.alloc 135 [(.iarr .u32 64 (List.replicate 64 0))]), none⟩, false, false, none, []⟩,
  ⟨⟨(some 7), (.alloc 133 [(.iarr .u32 8 [0, 0, 0, 0, 0, 0, 0, 0])]), none⟩, false, false, none, []⟩,
  ⟨⟨none, (.store (.ia .u32 64) 64 (.t 5) (.t 15)), none⟩, false, true, (some [2]), []⟩,
  ⟨⟨none, (.store (.ia .u32 64) 64 (.t 6) (.t 16)), none⟩, false, true, (some [2]), []⟩,
  ⟨⟨none, (.store (.ia .u32 8) 8 (.t 7) (.t 17)), none⟩, false, false, none, []⟩]
def q_digest_mix_2 : List AOper := [
  ⟨(some 18), (.mv (.v (.int .i64 0))), none⟩]
def q_digest_mix_3 : List AOper := [
  ⟨(some 19), (.bin .lss (.t 18) (.v (.int .i64 64))), none⟩]
def q_digest_mix_4 : List AOper := [
  ⟨(some 20), (.mv (.t 18)), none⟩,
  ⟨(some 8), (.mv (.t 20)), none⟩]
def q_digest_mix_5 : List DOp := [
  ⟨⟨(some 21), (.idxA 8 1 true (.t 7) (.v (.int .i64 4))), none⟩, true, false, none, []⟩,
  ⟨⟨(some 22), (.load .sc 1 (.t 21)), none⟩, true, false, none, []⟩,
  ⟨⟨(some 23), (.idxA 8 1 true (.t 7) (.v (.int .i64 0))), none⟩, true, false, none, []⟩,
  ⟨⟨(some 24), (.load .sc 1 (.t 23)), none⟩, true, false, none, []⟩,
  ⟨⟨(some 9), (.mv (.t 22)), none⟩, true, false, none, []⟩,
  ⟨⟨(some 10), (.mv (.t 24)), none⟩, true, false, none, []⟩]
def q_digest_mix_6 : List DOp := [
  ⟨⟨(some 25), (.idxA 8 1 true (.t 7) (.v (.int .i64 7))), none⟩, true, false, none, []⟩,
  ⟨⟨(some 26), (.load .sc 1 (.t 25)), none⟩, true, false, none, []⟩,
  ⟨⟨(some 27), (.mv (.t 9)), none⟩, true, false, none, []⟩,
  ⟨⟨(some 29), (.mv (.t 9)), none⟩, true, false, none, []⟩,
  ⟨⟨(some 32), (.mv (.t 9)), none⟩, true, false, none, []⟩,
  ⟨⟨(some 36), (.mv (.t 9)), none⟩, true, false, none, []⟩,
  ⟨⟨(some 37), (.idxA 8 1 true (.t 7) (.v (.int .i64 5))), none⟩, true, false, none, []⟩,
  ⟨⟨(some 38), (.load .sc 1 (.t 37)), none⟩, true, false, none, []⟩,
  ⟨⟨(some 39), (.bin .and (.t 36) (.t 38)), none⟩, true, false, none, []⟩,
  ⟨⟨(some 40), (.mv (.t 9)), none⟩, true, false, none, []⟩,
  ⟨⟨(some 41), (.un .xor (.t 40)), none⟩, true, false, none, []⟩,
  ⟨⟨(some 42), (.idxA 8 1 true (.t 7) (.v (.int .i64 6))), none⟩, true, false, none, []⟩,
  ⟨⟨(some 43), (.load .sc 1 (.t 42)), none⟩, true, false, none, []⟩,
  ⟨⟨(some 44), (.bin .and (.t 41) (.t 43)), none⟩, true, false, none, []⟩,
  ⟨⟨(some 45), (.bin .xor (.t 39) (.t 44)), none⟩, true, false, none, []⟩,
  ⟨⟨(some 47), (.mv (.t 8)), none⟩, true, false, none, []⟩,
  ⟨⟨(some 48), (.idxA 64 1 true (.t 6) (.t 47)), none⟩, true, false, none, []⟩,
  ⟨⟨(some 49), (.load .sc 1 (.t 48)), none⟩, true, false, none, []⟩,
  ⟨⟨(some 51), (.mv (.t 8)), none⟩, true, false, none, []⟩,
  ⟨⟨(some 52), (.idxA 64 1 true (.t 5) (.t 51)), none⟩, true, false, none, []⟩,
  ⟨⟨(some 53), (.load .sc 1 (.t 52)), none⟩, true, false, none, []⟩,
  ⟨⟨(some 28), (.call F_digest_spin [(.sc, (.t 27)), (.sc, (.v (.int .i64 6)))]), none⟩, false, true, (some [52, 48, 42, 37, 25]), []⟩,
  ⟨⟨(some 30), (.call F_digest_spin [(.sc, (.t 29)), (.sc, (.v (.int .i64 11)))]), none⟩, false, true, (some [52, 48, 42, 37, 25]), []⟩,
  ⟨⟨(some 31), (.bin .xor (.t 28) (.t 30)), none⟩, true, false, none, []⟩,
  ⟨⟨(some 33), (.call F_digest_spin [(.sc, (.t 32)), (.sc, (.v (.int .i64 25)))]), none⟩, false, true, (some [52, 48, 42, 37, 25]), []⟩,
  ⟨⟨(some 34), (.bin .xor (.t 31) (.t 33)), none⟩, true, false, none, []⟩,
  ⟨⟨(some 35), (.bin .add (.t 26) (.t 34)), none⟩, true, false, none, []⟩,
  ⟨⟨(some 46), (.bin .add (.t 35) (.t 45)), none⟩, true, false, none, []⟩,
  ⟨⟨(some 50), (.bin .add (.t 46) (.t 49)), none⟩, true, false, none, []⟩,
  ⟨⟨(some 54), (.bin .add (.t 50) (.t 53)), none⟩, true, false, none, []⟩,
  ⟨⟨(some 11), (.mv (.t 54)), none⟩, true, false, none, []⟩]
def q_digest_mix_7 : List DOp := [
  ⟨⟨(some 55), (.mv (.t 10)), none⟩, true, false, none, []⟩,
  ⟨⟨(some 57), (.mv (.t 10)), none⟩, true, false, none, []⟩,
  ⟨⟨(some 60), (.mv (.t 10)), none⟩, true, false, none, []⟩,
  ⟨⟨(some 63), (.mv (.t 10)), none⟩, true, false, none, []⟩,
  ⟨⟨(some 64), (.idxA 8 1 true (.t 7) (.v (.int .i64 1))), none⟩, true, false, none, []⟩,
  ⟨⟨(some 65), (.load .sc 1 (.t 64)), none⟩, true, false, none, []⟩,
  ⟨⟨(some 66), (.bin .and (.t 63) (.t 65)), none⟩, true, false, none, []⟩,
  ⟨⟨(some 67), (.mv (.t 10)), none⟩, true, false, none, []⟩,
  ⟨⟨(some 68), (.idxA 8 1 true (.t 7) (.v (.int .i64 2))), none⟩, true, false, none, []⟩,
  ⟨⟨(some 69), (.load .sc 1 (.t 68)), none⟩, true, false, none, []⟩,
  ⟨⟨(some 70), (.bin .and (.t 67) (.t 69)), none⟩, true, false, none, []⟩,
  ⟨⟨(some 71), (.bin .xor (.t 66) (.t 70)), none⟩, true, false, none, []⟩,
  ⟨⟨(some 72), (.idxA 8 1 true (.t 7) (.v (.int .i64 1))), none⟩, true, false, none, []⟩,
  ⟨⟨(some 73), (.load .sc 1 (.t 72)), none⟩, true, false, none, []⟩,
  ⟨⟨(some 74), (.idxA 8 1 true (.t 7) (.v (.int .i64 2))), none⟩, true, false, none, []⟩,
  ⟨⟨(some 75), (.load .sc 1 (.t 74)), none⟩, true, false, none, []⟩,
  ⟨⟨(some 76), (.bin .and (.t 73) (.t 75)), none⟩, true, false, none, []⟩,
  ⟨⟨(some 77), (.bin .xor (.t 71) (.t 76)), none⟩, true, false, none, []⟩,
  ⟨⟨(some 56), (.call F_digest_spin [(.sc, (.t 55)), (.sc, (.v (.int .i64 2)))]), none⟩, false, true, (some [74, 72, 68, 64]), []⟩,
  ⟨⟨(some 58), (.call F_digest_spin [(.sc, (.t 57)), (.sc, (.v (.int .i64 13)))]), none⟩, false, true, (some [74, 72, 68, 64]), []⟩,
  ⟨⟨(some 59), (.bin .xor (.t 56) (.t 58)), none⟩, true, false, none, []⟩,
  ⟨⟨(some 61), (.call F_digest_spin [(.sc, (.t 60)), (.sc, (.v (.int .i64 22)))]), none⟩, false, true, (some [74, 72, 68, 64]), []⟩,
  ⟨⟨(some 62), (.bin .xor (.t 59) (.t 61)), none⟩, true, false, none, []⟩,
  ⟨⟨(some 78), (.bin .add (.t 62) (.t 77)), none⟩, true, false, none, []⟩,
  ⟨⟨(some 12), (.mv (.t 78)), none⟩, true, false, none, []⟩]
def q_digest_mix_8 : List AOper := [
  ⟨(some 79), (.mv (.t 11)), none⟩,
  ⟨(some 80), (.mv (.t 12)), none⟩,
  ⟨(some 81), (.bin .add (.t 79) (.t 80)), none⟩,
  ⟨(some 82), (.idxA 8 1 true (.t 7) (.v (.int .i64 0))), none⟩,
  ⟨(some 83), (.load .sc 1 (.t 82)), none⟩,
  ⟨(some 84), (.idxA 8 1 true (.t 7) (.v (.int .i64 1))), none⟩,
  ⟨(some 85), (.load .sc 1 (.t 84)), none⟩,
  ⟨(some 86), (.idxA 8 1 true (.t 7) (.v (.int .i64 2))), none⟩,
  ⟨(some 87), (.load .sc 1 (.t 86)), none⟩,
  ⟨(some 88), (.idxA 8 1 true (.t 7) (.v (.int .i64 3))), none⟩,
  ⟨(some 89), (.load .sc 1 (.t 88)), none⟩,
  ⟨(some 90), (.mv (.t 11)), none⟩,
  ⟨(some 91), (.bin .add (.t 89) (.t 90)), none⟩,
  ⟨(some 92), (.idxA 8 1 true (.t 7) (.v (.int .i64 4))), none⟩,
  ⟨(some 93), (.load .sc 1 (.t 92)), none⟩,
  ⟨(some 94), (.idxA 8 1 true (.t 7) (.v (.int .i64 5))), none⟩,
  ⟨(some 95), (.load .sc 1 (.t 94)), none⟩,
  ⟨(some 96), (.idxA 8 1 true (.t 7) (.v (.int .i64 6))), none⟩,
  ⟨(some 97), (.load .sc 1 (.t 96)), none⟩,
  ⟨(some 98), (.build (.ia .u32 8) [(.iarr .u32 8 [0, 0, 0, 0, 0, 0, 0, 0])] [(0, (1, (.t 81))), (1, (1, (.t 83))), (2, (1, (.t 85))), (3, (1, (.t 87))), (4, (1, (.t 91))), (5, (1, (.t 93))), (6, (1, (.t 95))), (7, (1, (.t 97)))]), none⟩,
  ⟨none, (.store (.ia .u32 8) 8 (.t 7) (.t 98)), none⟩]
def q_digest_mix_9 : List AOper := [
  ⟨(some 99), (.bin .add (.t 18) (.v (.int .i64 1))), none⟩,
  ⟨(some 18), (.mv (.t 99)), none⟩]
def q_digest_mix_L10 : ACode := (.seq (.region q_digest_mix_3) (.seq (.cond (.t 19) .skip (.exit 0)) (.seq (.block 1 (.seq (.region q_digest_mix_4) (.seq (.regionD q_digest_mix_5) (.seq (.regionD q_digest_mix_6) (.seq (.regionD q_digest_mix_7) (.region q_digest_mix_8)))))) (.region q_digest_mix_9))))
def q_digest_mix_10 : List AOper := [
  ⟨(some 100), (.mv (.v (.int .i64 0))), none⟩]
def q_digest_mix_11 : List AOper := [
  ⟨(some 101), (.bin .lss (.t 100) (.v (.int .i64 8))), none⟩]
def q_digest_mix_12 : List AOper := [
  ⟨(some 102), (.mv (.t 100)), none⟩,
  ⟨(some 13), (.mv (.t 102)), none⟩]
def q_digest_mix_13 : List DOp := [
  ⟨⟨(some 103), (.mv (.t 13)), none⟩, true, false, none, []⟩,
  ⟨⟨(some 104), (.idxA 8 1 true (.t 2) (.t 103)), none⟩, true, false, none, []⟩,
  ⟨⟨(some 105), (.load .sc 1 (.t 104)), none⟩, true, false, none, []⟩,
  ⟨⟨(some 106), (.mv (.t 13)), none⟩, true, false, none, []⟩,
  ⟨⟨(some 107), (.idxA 8 1 true (.t 7) (.t 106)), none⟩, true, false, none, []⟩,
  ⟨⟨(some 108), (.load .sc 1 (.t 107)), none⟩, true, false, none, []⟩,
  ⟨⟨(some 109), (.bin .add (.t 105) (.t 108)), none⟩, true, false, none, []⟩,
  ⟨⟨(some 110), (.idxA 8 1 true (.t 2) (.t 103)), none⟩, true, false, none, []⟩,
  ⟨⟨none, (.store .sc 1 (.t 110) (.t 109)), none⟩, false, false, none, []⟩]
def q_digest_mix_14 : List AOper := [
  ⟨(some 111), (.bin .add (.t 100) (.v (.int .i64 1))), none⟩,
  ⟨(some 100), (.mv (.t 111)), none⟩]
def q_digest_mix_L15 : ACode := (.seq (.region q_digest_mix_11) (.seq (.cond (.t 101) .skip (.exit 2)) (.seq (.block 3 (.seq (.region q_digest_mix_12) (.regionD q_digest_mix_13))) (.region q_digest_mix_14))))
def q_digest_mix_15 : List AOper := [
  ⟨(some 112), (.load (.ia .u32 8) 8 (.t 2)), none⟩,
  ⟨none, (.store (.ia .u32 8) 8 (.t 4) (.t 112)), none⟩]
def a_digest_mix : AFunc := ⟨[(.cell 4 (.ia .u32 8) 8)], (.seq (.region q_digest_mix_0) (.seq (.regionD q_digest_mix_1) (.seq (.seq (.region q_digest_mix_2) (.block 0 (.loop q_digest_mix_L10))) (.seq (.seq (.region q_digest_mix_10) (.block 2 (.loop q_digest_mix_L15))) (.seq (.region q_digest_mix_15) .ret)))))⟩

def q_digest_spread_0 : List AOper := [
  ⟨(some 2), (.alloc 135 [(.iarr .u32 64 (List.replicate 64 0))]), none⟩]
def q_digest_spread_1 : List AOper := [
  ⟨(some 3), (.alloc 135 [(.iarr .u32 64 (List.replicate 64 0))]), none⟩]
def q_digest_spread_2 : List AOper := [
  ⟨(some 8), (.mv (.v (.int .i64 0))), none⟩]
def q_digest_spread_3 : List AOper := [
  ⟨(some 9), (.bin .lss (.t 8) (.v (.int .i64 16))), none⟩]
def q_digest_spread_4 : List AOper := [
  ⟨(some 10), (.mv (.t 8)), none⟩,
  ⟨(some 4), (.mv (.t 10)), none⟩]
def q_digest_spread_5 : List DOp := [
  ⟨⟨(some 11), (.mv (.t 4)), none⟩, true, false, none, []⟩,
  ⟨⟨(some 12), (.mv (.t 0)), none⟩, true, false, none, []⟩,
  ⟨⟨(some 13), (.mv (.t 4)), none⟩, true, false, none, []⟩,
  ⟨⟨(some 14), (.bin .mul (.v (.int .i64 4)) (.t 13)), none⟩, true, false, none, []⟩,
  ⟨⟨(some 15), (.idx 1 (.t 12) (.t 14)), none⟩, true, false, none, []⟩,
  ⟨⟨(some 16), (.load .sc 1 (.t 15)), none⟩, true, false, none, []⟩,
  ⟨⟨(some 17), (.conv .u32 (.t 16)), none⟩, true, false, none, []⟩,
  ⟨⟨(some 18), (.bin .shl (.t 17) (.v (.int .u64 24))), none⟩, true, false, none, []⟩,
  ⟨⟨(some 19), (.mv (.t 0)), none⟩, true, false, none, []⟩,
  ⟨⟨(some 20), (.mv (.t 4)), none⟩, true, false, none, []⟩,
  ⟨⟨(some 21), (.bin .mul (.v (.int .i64 4)) (.t 20)), none⟩, true, false, none, []⟩,
  ⟨⟨(some 22), (.bin .add (.t 21) (.v (.int .i64 1))), none⟩, true, false, none, []⟩,
  ⟨⟨(some 23), (.idx 1 (.t 19) (.t 22)), none⟩, true, false, none, []⟩,
  ⟨⟨(some 24), (.load .sc 1 (.t 23)), none⟩, true, false, none, []⟩,
  ⟨⟨(some 25), (.conv .u32 (.t 24)), none⟩, true, false, none, []⟩,
  ⟨⟨(some 26), (.bin .shl (.t 25) (.v (.int .u64 16))), none⟩, true, false, none, []⟩,
  ⟨⟨(some 27), (.bin .or (.t 18) (.t 26)), none⟩, true, false, none, []⟩,
  ⟨⟨(some 28), (.mv (.t 0)), none⟩, true, false, none, []⟩,
  ⟨⟨(some 29), (.mv (.t 4)), none⟩, true, false, none, []⟩,
  ⟨⟨(some 30), (.bin .mul (.v (.int .i64 4)) (.t 29)), none⟩, true, false, none, []⟩,
  ⟨⟨(some 31), (.bin .add (.t 30) (.v (.int .i64 2))), none⟩, true, false, none, []⟩,
  ⟨⟨(some 32), (.idx 1 (.t 28) (.t 31)), none⟩, true, false, none, []⟩,
  ⟨⟨(some 33), (.load .sc 1 (.t 32)), none⟩, true, false, none, []⟩,
  ⟨⟨(some 34), (.conv .u32 (.t 33)), none⟩, true, false, none, []⟩,
  ⟨⟨(some 35), (.bin .shl (.t 34) (.v (.int .u64 8))), none⟩, true, false, none, []⟩,
  ⟨⟨(some 36), (.bin .or (.t 27) (.t 35)), none⟩, true, false, none, []⟩,
  ⟨⟨(some 37), (.mv (.t 0)), none⟩, true, false, none, []⟩,
  ⟨⟨(some 38), (.mv (.t 4)), none⟩, true, false, none, []⟩,
  ⟨⟨(some 39), (.bin .mul (.v (.int .i64 4)) (.t 38)), none⟩, true, false, none, []⟩,
  ⟨⟨(some 40), (.bin .add (.t 39) (.v (.int .i64 3))), none⟩, true, false, none, []⟩,
  ⟨⟨(some 41), (.idx 1 (.t 37) (.t 40)), none⟩, true, false, none, []⟩,
  ⟨⟨(some 42), (.load .sc 1 (.t 41)), none⟩, true, false, none, []⟩,
  ⟨⟨(some 43), (.conv .u32 (.t 42)), none⟩, true, false, none, []⟩,
  ⟨⟨(some 44), (.bin .or (.t 36) (.t 43)), none⟩, true, false, none, []⟩,
  ⟨⟨(some 45), (.idxA 64 1 true (.t 3) (.t 11)), none⟩, true, false, none, []⟩,
  ⟨⟨none, (.store .sc 1 (.t 45) (.t 44)), none⟩, false, false, none, []⟩]
def q_digest_spread_6 : List AOper := [
  ⟨(some 46), (.bin .add (.t 8) (.v (.int .i64 1))), none⟩,
  ⟨(some 8), (.mv (.t 46)), none⟩]
def q_digest_spread_L7 : ACode := (.seq (.region q_digest_spread_3) (.seq (.cond (.t 9) .skip (.exit 0)) (.seq (.block 1 (.seq (.region q_digest_spread_4) (.regionD q_digest_spread_5))) (.region q_digest_spread_6))))
def q_digest_spread_7 : List AOper := [
  ⟨(some 5), (.mv (.v (.int .i64 16))), none⟩]
def q_digest_spread_8 : List AOper := [
  ⟨(some 47), (.mv (.t 5)), none⟩,
  ⟨(some 48), (.bin .lss (.t 47) (.v (.int .i64 64))), none⟩]
def q_digest_spread_9 : List DOp := [
  ⟨⟨(some 51), (.mv (.t 5)), none⟩, true, false, none, []⟩,
  ⟨⟨(some 52), (.bin .sub (.t 51) (.v (.int .i64 15))), none⟩, true, false, none, []⟩,
  ⟨⟨(some 53), (.idxA 64 1 true (.t 3) (.t 52)), none⟩, true, false, none, []⟩,
  ⟨⟨(some 54), (.load .sc 1 (.t 53)), none⟩, true, false, none, []⟩,
  ⟨⟨(some 55), (.mv (.t 5)), none⟩, true, false, none, []⟩,
  ⟨⟨(some 56), (.bin .sub (.t 55) (.v (.int .i64 2))), none⟩, true, false, none, []⟩,
  ⟨⟨(some 57), (.idxA 64 1 true (.t 3) (.t 56)), none⟩, true, false, none, []⟩,
  ⟨⟨(some 58), (.load .sc 1 (.t 57)), none⟩, true, false, none, []⟩,
  ⟨⟨(some 6), (.mv (.t 54)), none⟩, true, false, none, []⟩,
  ⟨⟨(some 7), (.mv (.t 58)), none⟩, true, false, none, []⟩]
def q_digest_spread_10 : List DOp := [
  ⟨⟨(some 59), (.mv (.t 5)), none⟩, true, false, none, []⟩,
  ⟨⟨(some 60), (.mv (.t 5)), none⟩, true, false, none, []⟩,
  ⟨⟨(some 61), (.bin .sub (.t 60) (.v (.int .i64 16))), none⟩, true, false, none, []⟩,
  ⟨⟨(some 62), (.idxA 64 1 true (.t 3) (.t 61)), none⟩, true, false, none, []⟩,
  ⟨⟨(some 63), (.load .sc 1 (.t 62)), none⟩, true, false, none, []⟩,
  ⟨⟨(some 64), (.mv (.t 6)), none⟩, true, false, none, []⟩,
  ⟨⟨(some 66), (.mv (.t 6)), none⟩, true, false, none, []⟩,
  ⟨⟨(some 69), (.mv (.t 6)), none⟩, true, false, none, []⟩,
  ⟨⟨(some 70), (.bin .shr (.t 69) (.v (.int .u64 3))), none⟩, true, false, none, []⟩,
  ⟨⟨(some 73), (.mv (.t 5)), none⟩, true, false, none, []⟩,
  ⟨⟨(some 74), (.bin .sub (.t 73) (.v (.int .i64 7))), none⟩, true, false, none, []⟩,
  ⟨⟨(some 75), (.idxA 64 1 true (.t 3) (.t 74)), none⟩, true, false, none, []⟩,
  ⟨⟨(some 76), (.load .sc 1 (.t 75)), none⟩, true, false, none, []⟩,
  ⟨⟨(some 78), (.mv (.t 7)), none⟩, true, false, none, []⟩,
  ⟨⟨(some 80), (.mv (.t 7)), none⟩, true, false, none, []⟩,
  ⟨⟨(some 83), (.mv (.t 7)), none⟩, true, false, none, []⟩,
  ⟨⟨(some 84), (.bin .shr (.t 83) (.v (.int .u64 10))), none⟩, true, false, none, []⟩,
  ⟨⟨(some 65), (.call F_digest_spin [(.sc, (.t 64)), (.sc, (.v (.int .i64 7)))]), none⟩, false, true, (some [75, 62]), []⟩,
  ⟨⟨(some 67), (.call F_digest_spin [(.sc, (.t 66)), (.sc, (.v (.int .i64 18)))]), none⟩, false, true, (some [75, 62]), []⟩,
  ⟨⟨(some 68), (.bin .xor (.t 65) (.t 67)), none⟩, true, false, none, []⟩,
  ⟨⟨(some 71), (.bin .xor (.t 68) (.t 70)), none⟩, true, false, none, []⟩,
  ⟨⟨(some 72), (.bin .add (.t 63) (.t 71)), none⟩, true, false, none, []⟩,
  ⟨⟨(some 77), (.bin .add (.t 72) (.t 76)), none⟩, true, false, none, []⟩,
  ⟨⟨(some 79), (.call F_digest_spin [(.sc, (.t 78)), (.sc, (.v (.int .i64 17)))]), none⟩, false, true, (some [75, 62]), []⟩,
  ⟨⟨(some 81), (.call F_digest_spin [(.sc, (.t 80)), (.sc, (.v (.int .i64 19)))]), none⟩, false, true, (some [75, 62]), []⟩,
  ⟨⟨(some 82), (.bin .xor (.t 79) (.t 81)), none⟩, true, false, none, []⟩,
  ⟨⟨(some 85), (.bin .xor (.t 82) (.t 84)), none⟩, true, false, none, []⟩,
  ⟨⟨(some 86), (.bin .add (.t 77) (.t 85)), none⟩, true, false, none, []⟩,
  ⟨⟨(some 87), (.idxA 64 1 true (.t 3) (.t 59)), none⟩, true, false, none, []⟩,
  ⟨⟨none, (.store .sc 1 (.t 87) (.t 86)), none⟩, false, false, none, []⟩]
def q_digest_spread_11 : List AOper := [
  ⟨(some 49), (.mv (.t 5)), none⟩,
  ⟨(some 50), (.bin .add (.t 49) (.v (.int .i64 1))), none⟩,
  ⟨(some 5), (.mv (.t 50)), none⟩]
def q_digest_spread_L12 : ACode := (.seq (.seq (.region q_digest_spread_8) (.cond (.t 48) .skip (.exit 2))) (.seq (.block 3 (.seq (.regionD q_digest_spread_9) (.regionD q_digest_spread_10))) (.region q_digest_spread_11)))
def q_digest_spread_12 : List AOper := [
  ⟨(some 88), (.load (.ia .u32 64) 64 (.t 3)), none⟩,
  ⟨none, (.store (.ia .u32 64) 64 (.t 2) (.t 88)), none⟩]
def a_digest_spread : AFunc := ⟨[(.cell 2 (.ia .u32 64) 64)], (.seq (.region q_digest_spread_0) (.seq (.region q_digest_spread_1) (.seq (.seq (.region q_digest_spread_2) (.block 0 (.loop q_digest_spread_L7))) (.seq (.seq (.region q_digest_spread_7) (.block 2 (.loop q_digest_spread_L12))) (.seq (.region q_digest_spread_12) .ret)))))⟩

def q_digest_rounds_0 : List AOper := [
  ⟨(some 0), (.alloc 135 [(.iarr .u32 64 (List.replicate 64 0))]), none⟩]
def q_digest_rounds_1 : List AOper := [
  ⟨(some 1), (.build (.ia .u32 64) [(.iarr .u32 64 (List.replicate 64 0))] [(0, (1, (.v (.int .u32 1116352408)))), (1, (1, (.v (.int .u32 1899447441)))), (2, (1, (.v (.int .u32 3049323471)))), (3, (1, (.v (.int .u32 3921009573)))), (4, (1, (.v (.int .u32 961987163)))), (5, (1, (.v (.int .u32 1508970993)))), (6, (1, (.v (.int .u32 2453635748)))), (7, (1, (.v (.int .u32 2870763221)))), (8, (1, (.v (.int .u32 3624381080)))), (9, (1, (.v (.int .u32 310598401)))), (10, (1, (.v (.int .u32 607225278)))), (11, (1, (.v (.int .u32 1426881987)))), (12, (1, (.v (.int .u32 1925078388)))), (13, (1, (.v (.int .u32 2162078206)))), (14, (1, (.v (.int .u32 2614888103)))), (15, (1, (.v (.int .u32 3248222580)))), (16, (1, (.v (.int .u32 3835390401)))), (17, (1, (.v (.int .u32 4022224774)))), (18, (1, (.v (.int .u32 264347078)))), (19, (1, (.v (.int .u32 604807628)))), (20, (1, (.v (.int .u32 770255983)))), (21, (1, (.v (.int .u32 1249150122)))), (22, (1, (.v (.int .u32 1555081692)))), (23, (1, (.v (.int .u32 1996064986)))), (24, (1, (.v (.int .u32 2554220882)))), (25, (1, (.v (.int .u32 2821834349)))), (26, (1, (.v (.int .u32 2952996808)))), (27, (1, (.v (.int .u32 3210313671)))), (28, (1, (.v (.int .u32 3336571891)))), (29, (1, (.v (.int .u32 3584528711)))), (30, (1, (.v (.int .u32 113926993)))), (31, (1, (.v (.int .u32 338241895)))), (32, (1, (.v (.int .u32 666307205)))), (33, (1, (.v (.int .u32 773529912)))), (34, (1, (.v (.int .u32 1294757372)))), (35, (1, (.v (.int .u32 1396182291)))), (36, (1, (.v (.int .u32 1695183700)))), (37, (1, (.v (.int .u32 1986661051)))), (38, (1, (.v (.int .u32 2177026350)))), (39, (1, (.v (.int .u32 2456956037)))), (40, (1, (.v (.int .u32 2730485921)))), (41, (1, (.v (.int .u32 2820302411)))), (42, (1, (.v (.int .u32 3259730800)))), (43, (1, (.v (.int .u32 3345764771)))), (44, (1, (.v (.int .u32 3516065817)))), (45, (1, (.v (.int .u32 3600352804)))), (46, (1, (.v (.int .u32 4094571909)))), (47, (1, (.v (.int .u32 275423344)))), (48, (1, (.v (.int .u32 430227734)))), (49, (1, (.v (.int .u32 506948616)))), (50, (1, (.v (.int .u32 659060556)))), (51, (1, (.v (.int .u32 883997877)))), (52, (1, (.v (.int .u32 958139571)))), (53, (1, (.v (.int .u32 1322822218)))), (54, (1, (.v (.int .u32 1537002063)))), (55, (1, (.v (.int .u32 1747873779)))), (56, (1, (.v (.int .u32 1955562222)))), (57, (1, (.v (.int .u32 2024104815)))), (58, (1, (.v (.int .u32 2227730452)))), (59, (1, (.v (.int .u32 2361852424)))), (60, (1, (.v (.int .u32 2428436474)))), (61, (1, (.v (.int .u32 2756734187)))), (62, (1, (.v (.int .u32 3204031479)))), (63, (1, (.v (.int .u32 3329325298))))]), none⟩,
  ⟨none, (.store (.ia .u32 64) 64 (.t 0) (.t 1)), none⟩]
def a_digest_rounds : AFunc := ⟨[(.cell 0 (.ia .u32 64) 64)], (.seq (.region q_digest_rounds_0) (.seq (.region q_digest_rounds_1) .ret))⟩

def q_digest_spin_0 : List AOper := [
  ⟨(some 4), (.mv (.v (.int .u32 0))), none⟩]
def q_digest_spin_1 : List DOp := [
  ⟨⟨(some 5), (.mv (.t 0)), none⟩, true, false, none, []⟩,
  ⟨⟨(some 6), (.mv (.t 1)), none⟩, true, false, none, []⟩,
  ⟨⟨(some 7), (.bin .shr (.t 5) (.t 6)), none⟩, true, false, none, []⟩,
  ⟨⟨(some 8), (.mv (.t 0)), none⟩, true, false, none, []⟩,
  ⟨⟨(some 9), (.mv (.t 1)), none⟩, true, false, none, []⟩,
  ⟨⟨(some 10), (.bin .sub (.v (.int .i64 32)) (.t 9)), none⟩, true, false, none, []⟩,
  ⟨⟨(some 11), (.bin .shl (.t 8) (.t 10)), none⟩, true, false, none, []⟩,
  ⟨⟨(some 12), (.bin .or (.t 7) (.t 11)), none⟩, true, false, none, []⟩,
  ⟨⟨(some 4), (.mv (.t 12)), none⟩, true, false, none, []⟩]
def a_digest_spin : AFunc := ⟨[(.tmp 4)], (.seq (.region q_digest_spin_0) (.seq (.regionD q_digest_spin_1) .ret))⟩

def q_Pdigest_Hash_Add_0 : List AOper := [
  ⟨(some 5), (.mv (.t 0)), none⟩,
  ⟨(some 6), (.xx (.p .nilCk) [(.t 5)]), none⟩,
  ⟨(some 7), (.fadr 9 1 .sc (.t 6)), none⟩,
  ⟨(some 8), (.load .sc 1 (.t 7)), none⟩,
  ⟨(some 9), (.mv (.t 1)), none⟩,
  ⟨(some 10), (.len false (.t 9)), none⟩,
  ⟨(some 11), (.conv .u64 (.t 10)), none⟩,
  ⟨(some 12), (.bin .add (.t 8) (.t 11)), none⟩,
  ⟨(some 13), (.xx (.p .nilCk) [(.t 5)]), none⟩,
  ⟨(some 14), (.fadr 9 1 .sc (.t 13)), none⟩,
  ⟨none, (.store .sc 1 (.t 14) (.t 12)), none⟩]
def q_Pdigest_Hash_Add_1 : List AOper := [
  ⟨(some 15), (.mv (.t 0)), none⟩,
  ⟨(some 16), (.xx (.p .nilCk) [(.t 15)]), none⟩,
  ⟨(some 17), (.fadr 8 1 .sc (.t 16)), none⟩,
  ⟨(some 18), (.load .sc 1 (.t 17)), none⟩,
  ⟨(some 19), (.mv (.t 1)), none⟩,
  ⟨(some 20), (.appI 5 .u8 1 (.t 18) (.t 19)), none⟩,
  ⟨(some 4), (.mv (.t 20)), none⟩]
def q_Pdigest_Hash_Add_2 : List AOper := [
  ⟨(some 21), (.mv (.t 4)), none⟩,
  ⟨(some 22), (.len false (.t 21)), none⟩,
  ⟨(some 23), (.bin .geq (.t 22) (.v (.int .i64 64))), none⟩]
def q_Pdigest_Hash_Add_3 : List DOp := [
  ⟨⟨(some 24), (.mv (.t 0)), none⟩, true, false, none, []⟩,
  ⟨⟨(some 25), (.mv (.t 0)), none⟩, true, false, none, []⟩,
  ⟨⟨(some 26), (.xx (.p .nilCk) [(.t 25)]), none⟩, true, false, none, []⟩,
  ⟨⟨(some 27), (.fadr 0 8 (.ia .u32 8) (.t 26)), none⟩, true, false, none, []⟩,
  ⟨⟨(some 28), (.load (.ia .u32 8) 8 (.t 27)), none⟩, true, false, none, []⟩,
  ⟨⟨(some 29), (.mv (.t 4)), none⟩, true, false, none, []⟩,
  ⟨⟨(some 30), (.slc 1 (.t 29) none (some (.v (.int .i64 64)))), none⟩, true, false, none, []⟩,
  ⟨⟨(some 31), (.call F_digest_mix [((.ia .u32 8), (.t 28)), (.sc, (.t 30))]), none⟩, false, false, none, []⟩,
  ⟨⟨(some 32), (.xx (.p .nilCk) [(.t 24)]), none⟩, true, false, none, []⟩,
  ⟨⟨(some 33), (.fadr 0 8 (.ia .u32 8) (.t 32)), none⟩, true, false, none, []⟩,
  ⟨⟨none, (.store (.ia .u32 8) 8 (.t 33) (.t 31)), none⟩, false, false, none, []⟩]
def q_Pdigest_Hash_Add_4 : List AOper := [
  ⟨(some 34), (.mv (.t 4)), none⟩,
  ⟨(some 35), (.slc 1 (.t 34) (some (.v (.int .i64 64))) none), none⟩,
  ⟨(some 4), (.mv (.t 35)), none⟩]
def q_Pdigest_Hash_Add_L5 : ACode := (.seq (.seq (.region q_Pdigest_Hash_Add_2) (.cond (.t 23) .skip (.exit 0))) (.block 1 (.seq (.regionD q_Pdigest_Hash_Add_3) (.region q_Pdigest_Hash_Add_4))))
def q_Pdigest_Hash_Add_5 : List AOper := [
  ⟨(some 36), (.mv (.t 0)), none⟩,
  ⟨(some 37), (.bslI 5 .u8 []), none⟩,
  ⟨(some 38), (.mv (.t 4)), none⟩,
  ⟨(some 39), (.appI 5 .u8 1 (.t 37) (.t 38)), none⟩,
  ⟨(some 40), (.xx (.p .nilCk) [(.t 36)]), none⟩,
  ⟨(some 41), (.fadr 8 1 .sc (.t 40)), none⟩,
  ⟨none, (.store .sc 1 (.t 41) (.t 39)), none⟩]
def a_Pdigest_Hash_Add : AFunc := ⟨[], (.seq (.region q_Pdigest_Hash_Add_0) (.seq (.region q_Pdigest_Hash_Add_1) (.seq (.block 0 (.loop q_Pdigest_Hash_Add_L5)) (.region q_Pdigest_Hash_Add_5))))⟩

def q_Pdigest_Hash_Sum_0 : List AOper := [
  ⟨(some 2), (.alloc 23 [(.iarr .u8 32 (List.replicate 32 0))]), none⟩]
def q_Pdigest_Hash_Sum_1 : List AOper := [
  ⟨(some 8), (.bslI 5 .u8 []), none⟩,
  ⟨(some 9), (.mv (.t 0)), none⟩,
  ⟨(some 10), (.xx (.p .nilCk) [(.t 9)]), none⟩,
  ⟨(some 11), (.fadr 8 1 .sc (.t 10)), none⟩,
  ⟨(some 12), (.load .sc 1 (.t 11)), none⟩,
  ⟨(some 13), (.appI 5 .u8 1 (.t 8) (.t 12)), none⟩,
  ⟨(some 14), (.bslI 5 .u8 [(.v (.int .u8 128))]), none⟩,
  ⟨(some 15), (.appI 5 .u8 1 (.t 13) (.t 14)), none⟩,
  ⟨(some 3), (.mv (.t 15)), none⟩]
def q_Pdigest_Hash_Sum_2 : List AOper := [
  ⟨(some 16), (.mv (.t 3)), none⟩,
  ⟨(some 17), (.len false (.t 16)), none⟩,
  ⟨(some 18), (.bin .rem (.t 17) (.v (.int .i64 64))), none⟩,
  ⟨(some 19), (.eq .scI true (.t 18) (.v (.int .i64 56))), none⟩]
def q_Pdigest_Hash_Sum_3 : List AOper := [
  ⟨(some 20), (.mv (.t 3)), none⟩,
  ⟨(some 21), (.bslI 5 .u8 [(.v (.int .u8 0))]), none⟩,
  ⟨(some 22), (.appI 5 .u8 1 (.t 20) (.t 21)), none⟩,
  ⟨(some 3), (.mv (.t 22)), none⟩]
def q_Pdigest_Hash_Sum_L4 : ACode := (.seq (.seq (.region q_Pdigest_Hash_Sum_2) (.cond (.t 19) .skip (.exit 0))) (.block 1 (.region q_Pdigest_Hash_Sum_3)))
def q_Pdigest_Hash_Sum_4 : List AOper := [
  ⟨(some 4), (.mv (.v (.int .i64 7))), none⟩]
def q_Pdigest_Hash_Sum_5 : List AOper := [
  ⟨(some 23), (.mv (.t 4)), none⟩,
  ⟨(some 24), (.bin .geq (.t 23) (.v (.int .i64 0))), none⟩]
def q_Pdigest_Hash_Sum_6 : List AOper := [
  ⟨(some 27), (.mv (.t 3)), none⟩,
  ⟨(some 28), (.mv (.t 0)), none⟩,
  ⟨(some 29), (.xx (.p .nilCk) [(.t 28)]), none⟩,
  ⟨(some 30), (.fadr 9 1 .sc (.t 29)), none⟩,
  ⟨(some 31), (.load .sc 1 (.t 30)), none⟩,
  ⟨(some 32), (.bin .mul (.v (.int .u64 8)) (.t 31)), none⟩,
  ⟨(some 33), (.mv (.t 4)), none⟩,
  ⟨(some 34), (.bin .mul (.v (.int .i64 8)) (.t 33)), none⟩,
  ⟨(some 35), (.bin .shr (.t 32) (.t 34)), none⟩,
  ⟨(some 36), (.conv .u8 (.t 35)), none⟩,
  ⟨(some 37), (.bslI 5 .u8 [(.t 36)]), none⟩,
  ⟨(some 38), (.appI 5 .u8 1 (.t 27) (.t 37)), none⟩,
  ⟨(some 3), (.mv (.t 38)), none⟩]
def q_Pdigest_Hash_Sum_7 : List AOper := [
  ⟨(some 25), (.mv (.t 4)), none⟩,
  ⟨(some 26), (.bin .sub (.t 25) (.v (.int .i64 1))), none⟩,
  ⟨(some 4), (.mv (.t 26)), none⟩]
def q_Pdigest_Hash_Sum_L8 : ACode := (.seq (.seq (.region q_Pdigest_Hash_Sum_5) (.cond (.t 24) .skip (.exit 2))) (.seq (.block 3 (.region q_Pdigest_Hash_Sum_6)) (.region q_Pdigest_Hash_Sum_7)))
def q_Pdigest_Hash_Sum_8 : List AOper := [
  ⟨(some 39), (.mv (.t 0)), none⟩,
  ⟨(some 40), (.xx (.p .nilCk) [(.t 39)]), none⟩,
  ⟨(some 41), (.fadr 0 8 (.ia .u32 8) (.t 40)), none⟩,
  ⟨(some 42), (.load (.ia .u32 8) 8 (.t 41)), none⟩,
  ⟨(some 5), (.alloc 133 [(.iarr .u32 8 [0, 0, 0, 0, 0, 0, 0, 0])]), none⟩,
  ⟨none, (.store (.ia .u32 8) 8 (.t 5) (.t 42)), none⟩]
def q_Pdigest_Hash_Sum_9 : List AOper := [
  ⟨(some 43), (.mv (.t 3)), none⟩,
  ⟨(some 44), (.len false (.t 43)), none⟩,
  ⟨(some 45), (.bin .gtr (.t 44) (.v (.int .i64 0))), none⟩]
def q_Pdigest_Hash_Sum_10 : List DOp := [
  ⟨⟨(some 48), (.load (.ia .u32 8) 8 (.t 5)), none⟩, true, false, none, []⟩,
  ⟨⟨(some 49), (.mv (.t 3)), none⟩, true, false, none, []⟩,
  ⟨⟨(some 50), (.slc 1 (.t 49) none (some (.v (.int .i64 64)))), none⟩, true, false, none, []⟩,
  ⟨⟨(some 51), (.call F_digest_mix [((.ia .u32 8), (.t 48)), (.sc, (.t 50))]), none⟩, false, false, none, []⟩,
  ⟨⟨none, (.store (.ia .u32 8) 8 (.t 5) (.t 51)), none⟩, false, false, none, []⟩]
def q_Pdigest_Hash_Sum_11 : List AOper := [
  ⟨(some 46), (.mv (.t 3)), none⟩,
  ⟨(some 47), (.slc 1 (.t 46) (some (.v (.int .i64 64))) none), none⟩,
  ⟨(some 3), (.mv (.t 47)), none⟩]
def q_Pdigest_Hash_Sum_L12 : ACode := (.seq (.seq (.region q_Pdigest_Hash_Sum_9) (.cond (.t 45) .skip (.exit 4))) (.seq (.block 5 (.regionD q_Pdigest_Hash_Sum_10)) (.region q_Pdigest_Hash_Sum_11)))
def q_Pdigest_Hash_Sum_12 : List AOper := [
  ⟨(some 6), (.alloc 23 [(.iarr .u8 32 (List.replicate 32 0))]), none⟩]
def q_Pdigest_Hash_Sum_13 : List AOper := [
  ⟨(some 52), (.mv (.v (.int .i64 0))), none⟩]
def q_Pdigest_Hash_Sum_14 : List AOper := [
  ⟨(some 53), (.bin .lss (.t 52) (.v (.int .i64 32))), none⟩]
def q_Pdigest_Hash_Sum_15 : List AOper := [
  ⟨(some 54), (.mv (.t 52)), none⟩,
  ⟨(some 7), (.mv (.t 54)), none⟩]
def q_Pdigest_Hash_Sum_16 : List AOper := [
  ⟨(some 55), (.mv (.t 7)), none⟩,
  ⟨(some 56), (.mv (.t 7)), none⟩,
  ⟨(some 57), (.bin .quo (.t 56) (.v (.int .i64 4))), none⟩,
  ⟨(some 58), (.idxA 8 1 true (.t 5) (.t 57)), none⟩,
  ⟨(some 59), (.load .sc 1 (.t 58)), none⟩,
  ⟨(some 60), (.mv (.t 7)), none⟩,
  ⟨(some 61), (.bin .rem (.t 60) (.v (.int .i64 4))), none⟩,
  ⟨(some 62), (.bin .mul (.v (.int .i64 8)) (.t 61)), none⟩,
  ⟨(some 63), (.bin .sub (.v (.int .i64 24)) (.t 62)), none⟩,
  ⟨(some 64), (.bin .shr (.t 59) (.t 63)), none⟩,
  ⟨(some 65), (.conv .u8 (.t 64)), none⟩,
  ⟨(some 66), (.idxA 32 1 true (.t 6) (.t 55)), none⟩,
  ⟨none, (.store .sc 1 (.t 66) (.t 65)), none⟩]
def q_Pdigest_Hash_Sum_17 : List AOper := [
  ⟨(some 67), (.bin .add (.t 52) (.v (.int .i64 1))), none⟩,
  ⟨(some 52), (.mv (.t 67)), none⟩]
def q_Pdigest_Hash_Sum_L18 : ACode := (.seq (.region q_Pdigest_Hash_Sum_14) (.seq (.cond (.t 53) .skip (.exit 6)) (.seq (.block 7 (.seq (.region q_Pdigest_Hash_Sum_15) (.region q_Pdigest_Hash_Sum_16))) (.region q_Pdigest_Hash_Sum_17))))
def q_Pdigest_Hash_Sum_18 : List AOper := [
  ⟨(some 68), (.load (.ia .u8 32) 32 (.t 6)), none⟩,
  ⟨none, (.store (.ia .u8 32) 32 (.t 2) (.t 68)), none⟩]
def a_Pdigest_Hash_Sum : AFunc := ⟨[(.cell 2 (.ia .u8 32) 32)], (.seq (.region q_Pdigest_Hash_Sum_0) (.seq (.region q_Pdigest_Hash_Sum_1) (.seq (.block 0 (.loop q_Pdigest_Hash_Sum_L4)) (.seq (.seq (.region q_Pdigest_Hash_Sum_4) (.block 2 (.loop q_Pdigest_Hash_Sum_L8))) (.seq (.region q_Pdigest_Hash_Sum_8) (.seq (.block 4 (.loop q_Pdigest_Hash_Sum_L12)) (.seq (.region q_Pdigest_Hash_Sum_12) (.seq (.seq (.region q_Pdigest_Hash_Sum_13) (.block 6 (.loop q_Pdigest_Hash_Sum_L18))) (.seq (.region q_Pdigest_Hash_Sum_18) .ret)))))))))⟩

def q_ref03_Sum_0 : List AOper := [
  ⟨(some 2), (.alloc 23 [(.iarr .u8 32 (List.replicate 32 0))]), none⟩]
def q_ref03_Sum_1 : List AOper := [
  ⟨(some 9), (.call F_ref03_table []), none⟩,
  ⟨(some 3), (.mv (.t 9)), none⟩]
def q_ref03_Sum_2 : List AOper := [
  ⟨(some 10), (.build (.ia .u32 8) [(.iarr .u32 8 [0, 0, 0, 0, 0, 0, 0, 0])] [(0, (1, (.v (.int .u32 1779033703)))), (1, (1, (.v (.int .u32 3144134277)))), (2, (1, (.v (.int .u32 1013904242)))), (3, (1, (.v (.int .u32 2773480762)))), (4, (1, (.v (.int .u32 1359893119)))), (5, (1, (.v (.int .u32 2600822924)))), (6, (1, (.v (.int .u32 528734635)))), (7, (1, (.v (.int .u32 1541459225))))]), none⟩,
  ⟨(some 4), (.alloc 133 [(.iarr .u32 8 [0, 0, 0, 0, 0, 0, 0, 0])]), none⟩,
  ⟨none, (.store (.ia .u32 8) 8 (.t 4) (.t 10)), none⟩]
def q_ref03_Sum_3 : List AOper := [
  ⟨(some 11), (.mv (.t 0)), none⟩,
  ⟨(some 12), (.call F_ref03_padded [(.sc, (.t 11))]), none⟩,
  ⟨(some 5), (.mv (.t 12)), none⟩]
def q_ref03_Sum_4 : List AOper := [
  ⟨(some 6), (.mv (.v (.int .i64 0))), none⟩]
def q_ref03_Sum_5 : List AOper := [
  ⟨(some 13), (.mv (.t 6)), none⟩,
  ⟨(some 14), (.mv (.t 5)), none⟩,
  ⟨(some 15), (.len false (.t 14)), none⟩,
  ⟨(some 16), (.bin .lss (.t 13) (.t 15)), none⟩]
def q_ref03_Sum_6 : List DOp := [
  ⟨⟨(some 19), (.load (.ia .u32 8) 8 (.t 4)), none⟩, true, false, none, []⟩,
  ⟨⟨(some 20), (.mv (.t 3)), none⟩, true, false, none, []⟩,
  ⟨⟨(some 21), (.mv (.t 5)), none⟩, true, false, none, []⟩,
  ⟨⟨(some 22), (.mv (.t 6)), none⟩, true, false, none, []⟩,
  ⟨⟨(some 23), (.call F_ref03_words [(.sc, (.t 21)), (.sc, (.t 22))]), none⟩, false, true, (some [4]), []⟩,
  ⟨⟨(some 24), (.call F_ref03_mixed [((.ia .u32 8), (.t 19)), (.sc, (.t 20)), ((.ia .u32 64), (.t 23))]), none⟩, false, false, none, []⟩,
  ⟨⟨none, (.store (.ia .u32 8) 8 (.t 4) (.t 24)), none⟩, false, false, none, []⟩]
def q_ref03_Sum_7 : List AOper := [
  ⟨(some 17), (.mv (.t 6)), none⟩,
  ⟨(some 18), (.bin .add (.t 17) (.v (.int .i64 64))), none⟩,
  ⟨(some 6), (.mv (.t 18)), none⟩]
def q_ref03_Sum_L8 : ACode := (.seq (.seq (.region q_ref03_Sum_5) (.cond (.t 16) .skip (.exit 0))) (.seq (.block 1 (.regionD q_ref03_Sum_6)) (.region q_ref03_Sum_7)))
def q_ref03_Sum_8 : List AOper := [
  ⟨(some 7), (.alloc 23 [(.iarr .u8 32 (List.replicate 32 0))]), none⟩]
def q_ref03_Sum_9 : List AOper := [
  ⟨(some 8), (.mv (.v (.int .i64 0))), none⟩]
def q_ref03_Sum_10 : List AOper := [
  ⟨(some 25), (.mv (.t 8)), none⟩,
  ⟨(some 26), (.bin .lss (.t 25) (.v (.int .i64 32))), none⟩]
def q_ref03_Sum_11 : List AOper := [
  ⟨(some 29), (.mv (.t 8)), none⟩,
  ⟨(some 30), (.mv (.t 8)), none⟩,
  ⟨(some 31), (.bin .quo (.t 30) (.v (.int .i64 4))), none⟩,
  ⟨(some 32), (.idxA 8 1 true (.t 4) (.t 31)), none⟩,
  ⟨(some 33), (.load .sc 1 (.t 32)), none⟩,
  ⟨(some 34), (.mv (.t 8)), none⟩,
  ⟨(some 35), (.bin .rem (.t 34) (.v (.int .i64 4))), none⟩,
  ⟨(some 36), (.bin .mul (.v (.int .i64 8)) (.t 35)), none⟩,
  ⟨(some 37), (.bin .sub (.v (.int .i64 24)) (.t 36)), none⟩,
  ⟨(some 38), (.conv .u64 (.t 37)), none⟩,
  ⟨(some 39), (.bin .shr (.t 33) (.t 38)), none⟩,
  ⟨(some 40), (.conv .u8 (.t 39)), none⟩,
  ⟨(some 41), (.idxA 32 1 true (.t 7) (.t 29)), none⟩,
  ⟨none, (.store .sc 1 (.t 41) (.t 40)), none⟩]
def q_ref03_Sum_12 : List AOper := [
  ⟨(some 27), (.mv (.t 8)), none⟩,
  ⟨(some 28), (.bin .add (.t 27) (.v (.int .i64 1))), none⟩,
  ⟨(some 8), (.mv (.t 28)), none⟩]
def q_ref03_Sum_L13 : ACode := (.seq (.seq (.region q_ref03_Sum_10) (.cond (.t 26) .skip (.exit 2))) (.seq (.block 3 (.region q_ref03_Sum_11)) (.region q_ref03_Sum_12)))
def q_ref03_Sum_13 : List AOper := [
  ⟨(some 42), (.load (.ia .u8 32) 32 (.t 7)), none⟩,
  ⟨none, (.store (.ia .u8 32) 32 (.t 2) (.t 42)), none⟩]
def a_ref03_Sum : AFunc := ⟨[(.cell 2 (.ia .u8 32) 32)], (.seq (.region q_ref03_Sum_0) (.seq (.region q_ref03_Sum_1) (.seq (.region q_ref03_Sum_2) (.seq (.region q_ref03_Sum_3) (.seq (.seq (.region q_ref03_Sum_4) (.block 0 (.loop q_ref03_Sum_L8))) (.seq (.region q_ref03_Sum_8) (.seq (.seq (.region q_ref03_Sum_9) (.block 2 (.loop q_ref03_Sum_L13))) (.seq (.region q_ref03_Sum_13) .ret))))))))⟩

def q_ref03_table_0 : List AOper := [
  ⟨(some 0), (.mv (.v .nilS)), none⟩]
def q_ref03_table_1 : List AOper := [
  ⟨(some 1), (.bslI 132 .u32 [(.v (.int .u32 1116352408)), (.v (.int .u32 1899447441)), (.v (.int .u32 3049323471)), (.v (.int .u32 3921009573)), (.v (.int .u32 961987163)), (.v (.int .u32 1508970993)), (.v (.int .u32 2453635748)), (.v (.int .u32 2870763221)), (.v (.int .u32 3624381080)), (.v (.int .u32 310598401)), (.v (.int .u32 607225278)), (.v (.int .u32 1426881987)), (.v (.int .u32 1925078388)), (.v (.int .u32 2162078206)), (.v (.int .u32 2614888103)), (.v (.int .u32 3248222580)), (.v (.int .u32 3835390401)), (.v (.int .u32 4022224774)), (.v (.int .u32 264347078)), (.v (.int .u32 604807628)), (.v (.int .u32 770255983)), (.v (.int .u32 1249150122)), (.v (.int .u32 1555081692)), (.v (.int .u32 1996064986)), (.v (.int .u32 2554220882)), (.v (.int .u32 2821834349)), (.v (.int .u32 2952996808)), (.v (.int .u32 3210313671)), (.v (.int .u32 3336571891)), (.v (.int .u32 3584528711)), (.v (.int .u32 113926993)), (.v (.int .u32 338241895)), (.v (.int .u32 666307205)), (.v (.int .u32 773529912)), (.v (.int .u32 1294757372)), (.v (.int .u32 1396182291)), (.v (.int .u32 1695183700)), (.v (.int .u32 1986661051)), (.v (.int .u32 2177026350)), (.v (.int .u32 2456956037)), (.v (.int .u32 2730485921)), (.v (.int .u32 2820302411)), (.v (.int .u32 3259730800)), (.v (.int .u32 3345764771)), (.v (.int .u32 3516065817)), (.v (.int .u32 3600352804)), (.v (.int .u32 4094571909)), (.v (.int .u32 275423344)), (.v (.int .u32 430227734)), (.v (.int .u32 506948616)), (.v (.int .u32 659060556)), (.v (.int .u32 883997877)), (.v (.int .u32 958139571)), (.v (.int .u32 1322822218)), (.v (.int .u32 1537002063)), (.v (.int .u32 1747873779)), (.v (.int .u32 1955562222)), (.v (.int .u32 2024104815)), (.v (.int .u32 2227730452)), (.v (.int .u32 2361852424)), (.v (.int .u32 2428436474)), (.v (.int .u32 2756734187)), (.v (.int .u32 3204031479)), (.v (.int .u32 3329325298))]), none⟩,
  ⟨(some 0), (.mv (.t 1)), none⟩]
def a_ref03_table : AFunc := ⟨[(.tmp 0)], (.seq (.region q_ref03_table_0) (.seq (.region q_ref03_table_1) .ret))⟩

def q_ref03_padded_0 : List AOper := [
  ⟨(some 2), (.mv (.v .nilS)), none⟩]
def q_ref03_padded_1 : List AOper := [
  ⟨(some 3), (.mv (.v .nilS)), none⟩]
def q_ref03_padded_2 : List AOper := [
  ⟨(some 6), (.mv (.t 3)), none⟩,
  ⟨(some 7), (.mv (.t 0)), none⟩,
  ⟨(some 8), (.appI 5 .u8 1 (.t 6) (.t 7)), none⟩,
  ⟨(some 3), (.mv (.t 8)), none⟩]
def q_ref03_padded_3 : List AOper := [
  ⟨(some 9), (.mv (.t 3)), none⟩,
  ⟨(some 10), (.bslI 5 .u8 [(.v (.int .u8 128))]), none⟩,
  ⟨(some 11), (.appI 5 .u8 1 (.t 9) (.t 10)), none⟩,
  ⟨(some 3), (.mv (.t 11)), none⟩]
def q_ref03_padded_4 : List AOper := [
  ⟨(some 12), (.mv (.t 3)), none⟩,
  ⟨(some 13), (.len false (.t 12)), none⟩,
  ⟨(some 14), (.bin .rem (.t 13) (.v (.int .i64 64))), none⟩,
  ⟨(some 15), (.eq .scI true (.t 14) (.v (.int .i64 56))), none⟩]
def q_ref03_padded_5 : List AOper := [
  ⟨(some 16), (.mv (.t 3)), none⟩,
  ⟨(some 17), (.bslI 5 .u8 [(.v (.int .u8 0))]), none⟩,
  ⟨(some 18), (.appI 5 .u8 1 (.t 16) (.t 17)), none⟩,
  ⟨(some 3), (.mv (.t 18)), none⟩]
def q_ref03_padded_L6 : ACode := (.seq (.seq (.region q_ref03_padded_4) (.cond (.t 15) .skip (.exit 0))) (.block 1 (.region q_ref03_padded_5)))
def q_ref03_padded_6 : List AOper := [
  ⟨(some 19), (.mv (.t 0)), none⟩,
  ⟨(some 20), (.len false (.t 19)), none⟩,
  ⟨(some 21), (.conv .u64 (.t 20)), none⟩,
  ⟨(some 22), (.bin .mul (.t 21) (.v (.int .u64 8))), none⟩,
  ⟨(some 4), (.mv (.t 22)), none⟩]
def q_ref03_padded_7 : List AOper := [
  ⟨(some 5), (.mv (.v (.int .i64 0))), none⟩]
def q_ref03_padded_8 : List AOper := [
  ⟨(some 23), (.mv (.t 5)), none⟩,
  ⟨(some 24), (.bin .lss (.t 23) (.v (.int .i64 8))), none⟩]
def q_ref03_padded_9 : List AOper := [
  ⟨(some 27), (.mv (.t 3)), none⟩,
  ⟨(some 28), (.mv (.t 4)), none⟩,
  ⟨(some 29), (.mv (.t 5)), none⟩,
  ⟨(some 30), (.bin .mul (.v (.int .i64 8)) (.t 29)), none⟩,
  ⟨(some 31), (.bin .sub (.v (.int .i64 56)) (.t 30)), none⟩,
  ⟨(some 32), (.conv .u64 (.t 31)), none⟩,
  ⟨(some 33), (.bin .shr (.t 28) (.t 32)), none⟩,
  ⟨(some 34), (.conv .u8 (.t 33)), none⟩,
  ⟨(some 35), (.bslI 5 .u8 [(.t 34)]), none⟩,
  ⟨(some 36), (.appI 5 .u8 1 (.t 27) (.t 35)), none⟩,
  ⟨(some 3), (.mv (.t 36)), none⟩]
def q_ref03_padded_10 : List AOper := [
  ⟨(some 25), (.mv (.t 5)), none⟩,
  ⟨(some 26), (.bin .add (.t 25) (.v (.int .i64 1))), none⟩,
  ⟨(some 5), (.mv (.t 26)), none⟩]
def q_ref03_padded_L11 : ACode := (.seq (.seq (.region q_ref03_padded_8) (.cond (.t 24) .skip (.exit 2))) (.seq (.block 3 (.region q_ref03_padded_9)) (.region q_ref03_padded_10)))
def q_ref03_padded_11 : List AOper := [
  ⟨(some 37), (.mv (.t 3)), none⟩,
  ⟨(some 2), (.mv (.t 37)), none⟩]
def a_ref03_padded : AFunc := ⟨[(.tmp 2)], (.seq (.region q_ref03_padded_0) (.seq (.region q_ref03_padded_1) (.seq (.region q_ref03_padded_2) (.seq (.region q_ref03_padded_3) (.seq (.block 0 (.loop q_ref03_padded_L6)) (.seq (.region q_ref03_padded_6) (.seq (.seq (.region q_ref03_padded_7) (.block 2 (.loop q_ref03_padded_L11))) (.seq (.region q_ref03_padded_11) .ret))))))))⟩

def q_ref03_mixed_0 : List AOper := [
  ⟨(some 3), (.box 133 (.ia .u32 8) (.t 0)), none⟩,
  ⟨(some 5), (.box 135 (.ia .u32 64) (.t 2)), none⟩,
  ⟨(some 6), (.alloc 133 [(.iarr .u32 8 [0, 0, 0, 0, 0, 0, 0, 0])]), none⟩]
def q_ref03_mixed_1 : List AOper := [
  ⟨(some 18), (.idxA 8 1 true (.t 3) (.v (.int .i64 0))), none⟩,
  ⟨(some 19), (.load .sc 1 (.t 18)), none⟩,
  ⟨(some 7), (.mv (.t 19)), none⟩]
def q_ref03_mixed_2 : List AOper := [
  ⟨(some 20), (.idxA 8 1 true (.t 3) (.v (.int .i64 1))), none⟩,
  ⟨(some 21), (.load .sc 1 (.t 20)), none⟩,
  ⟨(some 8), (.mv (.t 21)), none⟩]
def q_ref03_mixed_3 : List AOper := [
  ⟨(some 22), (.idxA 8 1 true (.t 3) (.v (.int .i64 2))), none⟩,
  ⟨(some 23), (.load .sc 1 (.t 22)), none⟩,
  ⟨(some 9), (.mv (.t 23)), none⟩]
def q_ref03_mixed_4 : List AOper := [
  ⟨(some 24), (.idxA 8 1 true (.t 3) (.v (.int .i64 3))), none⟩,
  ⟨(some 25), (.load .sc 1 (.t 24)), none⟩,
  ⟨(some 10), (.mv (.t 25)), none⟩]
def q_ref03_mixed_5 : List AOper := [
  ⟨(some 26), (.idxA 8 1 true (.t 3) (.v (.int .i64 4))), none⟩,
  ⟨(some 27), (.load .sc 1 (.t 26)), none⟩,
  ⟨(some 11), (.mv (.t 27)), none⟩]
def q_ref03_mixed_6 : List AOper := [
  ⟨(some 28), (.idxA 8 1 true (.t 3) (.v (.int .i64 5))), none⟩,
  ⟨(some 29), (.load .sc 1 (.t 28)), none⟩,
  ⟨(some 12), (.mv (.t 29)), none⟩]
def q_ref03_mixed_7 : List AOper := [
  ⟨(some 30), (.idxA 8 1 true (.t 3) (.v (.int .i64 6))), none⟩,
  ⟨(some 31), (.load .sc 1 (.t 30)), none⟩,
  ⟨(some 13), (.mv (.t 31)), none⟩]
def q_ref03_mixed_8 : List AOper := [
  ⟨(some 32), (.idxA 8 1 true (.t 3) (.v (.int .i64 7))), none⟩,
  ⟨(some 33), (.load .sc 1 (.t 32)), none⟩,
  ⟨(some 14), (.mv (.t 33)), none⟩]
def q_ref03_mixed_9 : List AOper := [
  ⟨(some 15), (.mv (.v (.int .i64 0))), none⟩]
def q_ref03_mixed_10 : List AOper := [
  ⟨(some 34), (.mv (.t 15)), none⟩,
  ⟨(some 35), (.bin .lss (.t 34) (.v (.int .i64 64))), none⟩]
def q_ref03_mixed_11 : List DOp := [
  ⟨⟨(some 38), (.mv (.t 14)), none⟩, true, false, none, []⟩,
  ⟨⟨(some 39), (.mv (.t 11)), none⟩, true, false, none, []⟩,
  ⟨⟨(some 41), (.mv (.t 11)), none⟩, true, false, none, []⟩,
  ⟨⟨(some 44), (.mv (.t 11)), none⟩, true, false, none, []⟩,
  ⟨⟨(some 48), (.mv (.t 11)), none⟩, true, false, none, []⟩,
  ⟨⟨(some 49), (.mv (.t 12)), none⟩, true, false, none, []⟩,
  ⟨⟨(some 50), (.bin .and (.t 48) (.t 49)), none⟩, true, false, none, []⟩,
  ⟨⟨(some 51), (.mv (.t 11)), none⟩, true, false, none, []⟩,
  ⟨⟨(some 52), (.bin .sub (.v (.int .u32 4294967295)) (.t 51)), none⟩, true, false, none, []⟩,
  ⟨⟨(some 53), (.mv (.t 13)), none⟩, true, false, none, []⟩,
  ⟨⟨(some 54), (.bin .and (.t 52) (.t 53)), none⟩, true, false, none, []⟩,
  ⟨⟨(some 55), (.bin .xor (.t 50) (.t 54)), none⟩, true, false, none, []⟩,
  ⟨⟨(some 57), (.mv (.t 1)), none⟩, true, false, none, []⟩,
  ⟨⟨(some 58), (.mv (.t 15)), none⟩, true, false, none, []⟩,
  ⟨⟨(some 59), (.idx 1 (.t 57) (.t 58)), none⟩, true, false, none, []⟩,
  ⟨⟨(some 60), (.load .sc 1 (.t 59)), none⟩, true, false, none, []⟩,
  ⟨⟨(some 62), (.mv (.t 15)), none⟩, true, false, none, []⟩,
  ⟨⟨(some 63), (.idxA 64 1 true (.t 5) (.t 62)), none⟩, true, false, none, []⟩,
  ⟨⟨(some 64), (.load .sc 1 (.t 63)), none⟩, true, false, none, []⟩,
  ⟨⟨(some 40), (.call F_ref03_right [(.sc, (.t 39)), (.sc, (.v (.int .u64 6)))]), none⟩, false, true, (some [63, 59, 57]), []⟩,
  ⟨⟨(some 42), (.call F_ref03_right [(.sc, (.t 41)), (.sc, (.v (.int .u64 11)))]), none⟩, false, true, (some [63, 59, 57]), []⟩,
  ⟨⟨(some 43), (.bin .xor (.t 40) (.t 42)), none⟩, true, false, none, []⟩,
  ⟨⟨(some 45), (.call F_ref03_right [(.sc, (.t 44)), (.sc, (.v (.int .u64 25)))]), none⟩, false, true, (some [63, 59, 57]), []⟩,
  ⟨⟨(some 46), (.bin .xor (.t 43) (.t 45)), none⟩, true, false, none, []⟩,
  ⟨⟨(some 47), (.bin .add (.t 38) (.t 46)), none⟩, true, false, none, []⟩,
  ⟨⟨(some 56), (.bin .add (.t 47) (.t 55)), none⟩, true, false, none, []⟩,
  ⟨⟨(some 61), (.bin .add (.t 56) (.t 60)), none⟩, true, false, none, []⟩,
  ⟨⟨(some 65), (.bin .add (.t 61) (.t 64)), none⟩, true, false, none, []⟩,
  ⟨⟨(some 16), (.mv (.t 65)), none⟩, true, false, none, []⟩]
def q_ref03_mixed_12 : List AOper := [
  ⟨(some 66), (.mv (.t 7)), none⟩,
  ⟨(some 67), (.call F_ref03_right [(.sc, (.t 66)), (.sc, (.v (.int .u64 2)))]), none⟩,
  ⟨(some 68), (.mv (.t 7)), none⟩,
  ⟨(some 69), (.call F_ref03_right [(.sc, (.t 68)), (.sc, (.v (.int .u64 13)))]), none⟩,
  ⟨(some 70), (.bin .xor (.t 67) (.t 69)), none⟩,
  ⟨(some 71), (.mv (.t 7)), none⟩,
  ⟨(some 72), (.call F_ref03_right [(.sc, (.t 71)), (.sc, (.v (.int .u64 22)))]), none⟩,
  ⟨(some 73), (.bin .xor (.t 70) (.t 72)), none⟩,
  ⟨(some 74), (.mv (.t 7)), none⟩,
  ⟨(some 75), (.mv (.t 8)), none⟩,
  ⟨(some 76), (.bin .and (.t 74) (.t 75)), none⟩,
  ⟨(some 77), (.mv (.t 7)), none⟩,
  ⟨(some 78), (.mv (.t 9)), none⟩,
  ⟨(some 79), (.bin .and (.t 77) (.t 78)), none⟩,
  ⟨(some 80), (.bin .xor (.t 76) (.t 79)), none⟩,
  ⟨(some 81), (.mv (.t 8)), none⟩,
  ⟨(some 82), (.mv (.t 9)), none⟩,
  ⟨(some 83), (.bin .and (.t 81) (.t 82)), none⟩,
  ⟨(some 84), (.bin .xor (.t 80) (.t 83)), none⟩,
  ⟨(some 85), (.bin .add (.t 73) (.t 84)), none⟩,
  ⟨(some 17), (.mv (.t 85)), none⟩]
def q_ref03_mixed_13 : List AOper := [
  ⟨(some 86), (.mv (.t 13)), none⟩,
  ⟨(some 14), (.mv (.t 86)), none⟩]
def q_ref03_mixed_14 : List AOper := [
  ⟨(some 87), (.mv (.t 12)), none⟩,
  ⟨(some 13), (.mv (.t 87)), none⟩]
def q_ref03_mixed_15 : List AOper := [
  ⟨(some 88), (.mv (.t 11)), none⟩,
  ⟨(some 12), (.mv (.t 88)), none⟩]
def q_ref03_mixed_16 : List AOper := [
  ⟨(some 89), (.mv (.t 10)), none⟩,
  ⟨(some 90), (.mv (.t 16)), none⟩,
  ⟨(some 91), (.bin .add (.t 89) (.t 90)), none⟩,
  ⟨(some 11), (.mv (.t 91)), none⟩]
def q_ref03_mixed_17 : List AOper := [
  ⟨(some 92), (.mv (.t 9)), none⟩,
  ⟨(some 10), (.mv (.t 92)), none⟩]
def q_ref03_mixed_18 : List AOper := [
  ⟨(some 93), (.mv (.t 8)), none⟩,
  ⟨(some 9), (.mv (.t 93)), none⟩]
def q_ref03_mixed_19 : List AOper := [
  ⟨(some 94), (.mv (.t 7)), none⟩,
  ⟨(some 8), (.mv (.t 94)), none⟩]
def q_ref03_mixed_20 : List AOper := [
  ⟨(some 95), (.mv (.t 16)), none⟩,
  ⟨(some 96), (.mv (.t 17)), none⟩,
  ⟨(some 97), (.bin .add (.t 95) (.t 96)), none⟩,
  ⟨(some 7), (.mv (.t 97)), none⟩]
def q_ref03_mixed_21 : List AOper := [
  ⟨(some 36), (.mv (.t 15)), none⟩,
  ⟨(some 37), (.bin .add (.t 36) (.v (.int .i64 1))), none⟩,
  ⟨(some 15), (.mv (.t 37)), none⟩]
def q_ref03_mixed_L22 : ACode := (.seq (.seq (.region q_ref03_mixed_10) (.cond (.t 35) .skip (.exit 0))) (.seq (.block 1 (.seq (.regionD q_ref03_mixed_11) (.seq (.region q_ref03_mixed_12) (.seq (.region q_ref03_mixed_13) (.seq (.region q_ref03_mixed_14) (.seq (.region q_ref03_mixed_15) (.seq (.region q_ref03_mixed_16) (.seq (.region q_ref03_mixed_17) (.seq (.region q_ref03_mixed_18) (.seq (.region q_ref03_mixed_19) (.region q_ref03_mixed_20))))))))))) (.region q_ref03_mixed_21)))
def q_ref03_mixed_22 : List AOper := [
  ⟨(some 98), (.idxA 8 1 true (.t 3) (.v (.int .i64 0))), none⟩,
  ⟨(some 99), (.load .sc 1 (.t 98)), none⟩,
  ⟨(some 100), (.mv (.t 7)), none⟩,
  ⟨(some 101), (.bin .add (.t 99) (.t 100)), none⟩,
  ⟨(some 102), (.idxA 8 1 true (.t 3) (.v (.int .i64 1))), none⟩,
  ⟨(some 103), (.load .sc 1 (.t 102)), none⟩,
  ⟨(some 104), (.mv (.t 8)), none⟩,
  ⟨(some 105), (.bin .add (.t 103) (.t 104)), none⟩,
  ⟨(some 106), (.idxA 8 1 true (.t 3) (.v (.int .i64 2))), none⟩,
  ⟨(some 107), (.load .sc 1 (.t 106)), none⟩,
  ⟨(some 108), (.mv (.t 9)), none⟩,
  ⟨(some 109), (.bin .add (.t 107) (.t 108)), none⟩,
  ⟨(some 110), (.idxA 8 1 true (.t 3) (.v (.int .i64 3))), none⟩,
  ⟨(some 111), (.load .sc 1 (.t 110)), none⟩,
  ⟨(some 112), (.mv (.t 10)), none⟩,
  ⟨(some 113), (.bin .add (.t 111) (.t 112)), none⟩,
  ⟨(some 114), (.idxA 8 1 true (.t 3) (.v (.int .i64 4))), none⟩,
  ⟨(some 115), (.load .sc 1 (.t 114)), none⟩,
  ⟨(some 116), (.mv (.t 11)), none⟩,
  ⟨(some 117), (.bin .add (.t 115) (.t 116)), none⟩,
  ⟨(some 118), (.idxA 8 1 true (.t 3) (.v (.int .i64 5))), none⟩,
  ⟨(some 119), (.load .sc 1 (.t 118)), none⟩,
  ⟨(some 120), (.mv (.t 12)), none⟩,
  ⟨(some 121), (.bin .add (.t 119) (.t 120)), none⟩,
  ⟨(some 122), (.idxA 8 1 true (.t 3) (.v (.int .i64 6))), none⟩,
  ⟨(some 123), (.load .sc 1 (.t 122)), none⟩,
  ⟨(some 124), (.mv (.t 13)), none⟩,
  ⟨(some 125), (.bin .add (.t 123) (.t 124)), none⟩,
  ⟨(some 126), (.idxA 8 1 true (.t 3) (.v (.int .i64 7))), none⟩,
  ⟨(some 127), (.load .sc 1 (.t 126)), none⟩,
  ⟨(some 128), (.mv (.t 14)), none⟩,
  ⟨(some 129), (.bin .add (.t 127) (.t 128)), none⟩,
  ⟨(some 130), (.build (.ia .u32 8) [(.iarr .u32 8 [0, 0, 0, 0, 0, 0, 0, 0])] [(0, (1, (.t 101))), (1, (1, (.t 105))), (2, (1, (.t 109))), (3, (1, (.t 113))), (4, (1, (.t 117))), (5, (1, (.t 121))), (6, (1, (.t 125))), (7, (1, (.t 129)))]), none⟩,
  ⟨none, (.store (.ia .u32 8) 8 (.t 6) (.t 130)), none⟩]
def a_ref03_mixed : AFunc := ⟨[(.cell 6 (.ia .u32 8) 8)], (.seq (.region q_ref03_mixed_0) (.seq (.region q_ref03_mixed_1) (.seq (.region q_ref03_mixed_2) (.seq (.region q_ref03_mixed_3) (.seq (.region q_ref03_mixed_4) (.seq (.region q_ref03_mixed_5) (.seq (.region q_ref03_mixed_6) (.seq (.region q_ref03_mixed_7) (.seq (.region q_ref03_mixed_8) (.seq (.seq (.region q_ref03_mixed_9) (.block 0 (.loop q_ref03_mixed_L22))) (.seq (.region q_ref03_mixed_22) .ret)))))))))))⟩

def q_ref03_words_0 : List AOper := [
  ⟨(some 4), (.alloc 135 [(.iarr .u32 64 (List.replicate 64 0))]), none⟩]
def q_ref03_words_1 : List AOper := [
  ⟨(some 5), (.alloc 135 [(.iarr .u32 64 (List.replicate 64 0))]), none⟩]
def q_ref03_words_2 : List AOper := [
  ⟨(some 6), (.mv (.v (.int .i64 0))), none⟩]
def q_ref03_words_3 : List AOper := [
  ⟨(some 10), (.mv (.t 6)), none⟩,
  ⟨(some 11), (.bin .lss (.t 10) (.v (.int .i64 16))), none⟩]
def q_ref03_words_4 : List DOp := [
  ⟨⟨(some 14), (.mv (.t 6)), none⟩, true, false, none, []⟩,
  ⟨⟨(some 15), (.mv (.t 0)), none⟩, true, false, none, []⟩,
  ⟨⟨(some 16), (.mv (.t 1)), none⟩, true, false, none, []⟩,
  ⟨⟨(some 17), (.mv (.t 6)), none⟩, true, false, none, []⟩,
  ⟨⟨(some 18), (.bin .mul (.v (.int .i64 4)) (.t 17)), none⟩, true, false, none, []⟩,
  ⟨⟨(some 19), (.bin .add (.t 16) (.t 18)), none⟩, true, false, none, []⟩,
  ⟨⟨(some 20), (.idx 1 (.t 15) (.t 19)), none⟩, true, false, none, []⟩,
  ⟨⟨(some 21), (.load .sc 1 (.t 20)), none⟩, true, false, none, []⟩,
  ⟨⟨(some 22), (.conv .u32 (.t 21)), none⟩, true, false, none, []⟩,
  ⟨⟨(some 23), (.bin .mul (.t 22) (.v (.int .u32 16777216))), none⟩, true, false, none, []⟩,
  ⟨⟨(some 24), (.mv (.t 0)), none⟩, true, false, none, []⟩,
  ⟨⟨(some 25), (.mv (.t 1)), none⟩, true, false, none, []⟩,
  ⟨⟨(some 26), (.mv (.t 6)), none⟩, true, false, none, []⟩,
  ⟨⟨(some 27), (.bin .mul (.v (.int .i64 4)) (.t 26)), none⟩, true, false, none, []⟩,
  ⟨⟨(some 28), (.bin .add (.t 25) (.t 27)), none⟩, true, false, none, []⟩,
  ⟨⟨(some 29), (.bin .add (.t 28) (.v (.int .i64 1))), none⟩, true, false, none, []⟩,
  ⟨⟨(some 30), (.idx 1 (.t 24) (.t 29)), none⟩, true, false, none, []⟩,
  ⟨⟨(some 31), (.load .sc 1 (.t 30)), none⟩, true, false, none, []⟩,
  ⟨⟨(some 32), (.conv .u32 (.t 31)), none⟩, true, false, none, []⟩,
  ⟨⟨(some 33), (.bin .mul (.t 32) (.v (.int .u32 65536))), none⟩, true, false, none, []⟩,
  ⟨⟨(some 34), (.bin .add (.t 23) (.t 33)), none⟩, true, false, none, []⟩,
  ⟨⟨(some 35), (.mv (.t 0)), none⟩, true, false, none, []⟩,
  ⟨⟨(some 36), (.mv (.t 1)), none⟩, true, false, none, []⟩,
  ⟨⟨(some 37), (.mv (.t 6)), none⟩, true, false, none, []⟩,
  ⟨⟨(some 38), (.bin .mul (.v (.int .i64 4)) (.t 37)), none⟩, true, false, none, []⟩,
  ⟨⟨(some 39), (.bin .add (.t 36) (.t 38)), none⟩, true, false, none, []⟩,
  ⟨⟨(some 40), (.bin .add (.t 39) (.v (.int .i64 2))), none⟩, true, false, none, []⟩,
  ⟨⟨(some 41), (.idx 1 (.t 35) (.t 40)), none⟩, true, false, none, []⟩,
  ⟨⟨(some 42), (.load .sc 1 (.t 41)), none⟩, true, false, none, []⟩,
  ⟨⟨(some 43), (.conv .u32 (.t 42)), none⟩, true, false, none, []⟩,
  ⟨⟨(some 44), (.bin .mul (.t 43) (.v (.int .u32 256))), none⟩, true, false, none, []⟩,
  ⟨⟨(some 45), (.bin .add (.t 34) (.t 44)), none⟩, true, false, none, []⟩,
  ⟨⟨(some 46), (.mv (.t 0)), none⟩, true, false, none, []⟩,
  ⟨⟨(some 47), (.mv (.t 1)), none⟩, true, false, none, []⟩,
  ⟨⟨(some 48), (.mv (.t 6)), none⟩, true, false, none, []⟩,
  ⟨⟨(some 49), (.bin .mul (.v (.int .i64 4)) (.t 48)), none⟩, true, false, none, []⟩,
  ⟨⟨(some 50), (.bin .add (.t 47) (.t 49)), none⟩, true, false, none, []⟩,
  ⟨⟨(some 51), (.bin .add (.t 50) (.v (.int .i64 3))), none⟩, true, false, none, []⟩,
  ⟨⟨(some 52), (.idx 1 (.t 46) (.t 51)), none⟩, true, false, none, []⟩,
  ⟨⟨(some 53), (.load .sc 1 (.t 52)), none⟩, true, false, none, []⟩,
  ⟨⟨(some 54), (.conv .u32 (.t 53)), none⟩, true, false, none, []⟩,
  ⟨⟨(some 55), (.bin .add (.t 45) (.t 54)), none⟩, true, false, none, []⟩,
  ⟨⟨(some 56), (.idxA 64 1 true (.t 5) (.t 14)), none⟩, true, false, none, []⟩,
  ⟨⟨none, (.store .sc 1 (.t 56) (.t 55)), none⟩, false, false, none, []⟩]
def q_ref03_words_5 : List AOper := [
  ⟨(some 12), (.mv (.t 6)), none⟩,
  ⟨(some 13), (.bin .add (.t 12) (.v (.int .i64 1))), none⟩,
  ⟨(some 6), (.mv (.t 13)), none⟩]
def q_ref03_words_L6 : ACode := (.seq (.seq (.region q_ref03_words_3) (.cond (.t 11) .skip (.exit 0))) (.seq (.block 1 (.regionD q_ref03_words_4)) (.region q_ref03_words_5)))
def q_ref03_words_6 : List AOper := [
  ⟨(some 7), (.mv (.v (.int .i64 16))), none⟩]
def q_ref03_words_7 : List AOper := [
  ⟨(some 57), (.mv (.t 7)), none⟩,
  ⟨(some 58), (.bin .lss (.t 57) (.v (.int .i64 64))), none⟩]
def q_ref03_words_8 : List DOp := [
  ⟨⟨(some 61), (.mv (.t 7)), none⟩, true, false, none, []⟩,
  ⟨⟨(some 62), (.bin .sub (.t 61) (.v (.int .i64 15))), none⟩, true, false, none, []⟩,
  ⟨⟨(some 63), (.idxA 64 1 true (.t 5) (.t 62)), none⟩, true, false, none, []⟩,
  ⟨⟨(some 64), (.load .sc 1 (.t 63)), none⟩, true, false, none, []⟩,
  ⟨⟨(some 66), (.mv (.t 7)), none⟩, true, false, none, []⟩,
  ⟨⟨(some 67), (.bin .sub (.t 66) (.v (.int .i64 15))), none⟩, true, false, none, []⟩,
  ⟨⟨(some 68), (.idxA 64 1 true (.t 5) (.t 67)), none⟩, true, false, none, []⟩,
  ⟨⟨(some 69), (.load .sc 1 (.t 68)), none⟩, true, false, none, []⟩,
  ⟨⟨(some 72), (.mv (.t 7)), none⟩, true, false, none, []⟩,
  ⟨⟨(some 73), (.bin .sub (.t 72) (.v (.int .i64 15))), none⟩, true, false, none, []⟩,
  ⟨⟨(some 74), (.idxA 64 1 true (.t 5) (.t 73)), none⟩, true, false, none, []⟩,
  ⟨⟨(some 75), (.load .sc 1 (.t 74)), none⟩, true, false, none, []⟩,
  ⟨⟨(some 76), (.bin .shr (.t 75) (.v (.int .u64 3))), none⟩, true, false, none, []⟩,
  ⟨⟨(some 65), (.call F_ref03_right [(.sc, (.t 64)), (.sc, (.v (.int .u64 7)))]), none⟩, false, true, (some [74, 68]), []⟩,
  ⟨⟨(some 70), (.call F_ref03_right [(.sc, (.t 69)), (.sc, (.v (.int .u64 18)))]), none⟩, false, true, (some [74]), []⟩,
  ⟨⟨(some 71), (.bin .xor (.t 65) (.t 70)), none⟩, true, false, none, []⟩,
  ⟨⟨(some 77), (.bin .xor (.t 71) (.t 76)), none⟩, true, false, none, []⟩,
  ⟨⟨(some 8), (.mv (.t 77)), none⟩, true, false, none, []⟩]
def q_ref03_words_9 : List DOp := [
  ⟨⟨(some 78), (.mv (.t 7)), none⟩, true, false, none, []⟩,
  ⟨⟨(some 79), (.bin .sub (.t 78) (.v (.int .i64 2))), none⟩, true, false, none, []⟩,
  ⟨⟨(some 80), (.idxA 64 1 true (.t 5) (.t 79)), none⟩, true, false, none, []⟩,
  ⟨⟨(some 81), (.load .sc 1 (.t 80)), none⟩, true, false, none, []⟩,
  ⟨⟨(some 83), (.mv (.t 7)), none⟩, true, false, none, []⟩,
  ⟨⟨(some 84), (.bin .sub (.t 83) (.v (.int .i64 2))), none⟩, true, false, none, []⟩,
  ⟨⟨(some 85), (.idxA 64 1 true (.t 5) (.t 84)), none⟩, true, false, none, []⟩,
  ⟨⟨(some 86), (.load .sc 1 (.t 85)), none⟩, true, false, none, []⟩,
  ⟨⟨(some 89), (.mv (.t 7)), none⟩, true, false, none, []⟩,
  ⟨⟨(some 90), (.bin .sub (.t 89) (.v (.int .i64 2))), none⟩, true, false, none, []⟩,
  ⟨⟨(some 91), (.idxA 64 1 true (.t 5) (.t 90)), none⟩, true, false, none, []⟩,
  ⟨⟨(some 92), (.load .sc 1 (.t 91)), none⟩, true, false, none, []⟩,
  ⟨⟨(some 93), (.bin .shr (.t 92) (.v (.int .u64 10))), none⟩, true, false, none, []⟩,
  ⟨⟨(some 82), (.call F_ref03_right [(.sc, (.t 81)), (.sc, (.v (.int .u64 17)))]), none⟩, false, true, (some [91, 85]), []⟩,
  ⟨⟨(some 87), (.call F_ref03_right [(.sc, (.t 86)), (.sc, (.v (.int .u64 19)))]), none⟩, false, true, (some [91]), []⟩,
  ⟨⟨(some 88), (.bin .xor (.t 82) (.t 87)), none⟩, true, false, none, []⟩,
  ⟨⟨(some 94), (.bin .xor (.t 88) (.t 93)), none⟩, true, false, none, []⟩,
  ⟨⟨(some 9), (.mv (.t 94)), none⟩, true, false, none, []⟩]
def q_ref03_words_10 : List DOp := [
  ⟨⟨(some 95), (.mv (.t 7)), none⟩, true, false, none, []⟩,
  ⟨⟨(some 96), (.mv (.t 7)), none⟩, true, false, none, []⟩,
  ⟨⟨(some 97), (.bin .sub (.t 96) (.v (.int .i64 16))), none⟩, true, false, none, []⟩,
  ⟨⟨(some 98), (.idxA 64 1 true (.t 5) (.t 97)), none⟩, true, false, none, []⟩,
  ⟨⟨(some 99), (.load .sc 1 (.t 98)), none⟩, true, false, none, []⟩,
  ⟨⟨(some 100), (.mv (.t 8)), none⟩, true, false, none, []⟩,
  ⟨⟨(some 101), (.bin .add (.t 99) (.t 100)), none⟩, true, false, none, []⟩,
  ⟨⟨(some 102), (.mv (.t 7)), none⟩, true, false, none, []⟩,
  ⟨⟨(some 103), (.bin .sub (.t 102) (.v (.int .i64 7))), none⟩, true, false, none, []⟩,
  ⟨⟨(some 104), (.idxA 64 1 true (.t 5) (.t 103)), none⟩, true, false, none, []⟩,
  ⟨⟨(some 105), (.load .sc 1 (.t 104)), none⟩, true, false, none, []⟩,
  ⟨⟨(some 106), (.bin .add (.t 101) (.t 105)), none⟩, true, false, none, []⟩,
  ⟨⟨(some 107), (.mv (.t 9)), none⟩, true, false, none, []⟩,
  ⟨⟨(some 108), (.bin .add (.t 106) (.t 107)), none⟩, true, false, none, []⟩,
  ⟨⟨(some 109), (.idxA 64 1 true (.t 5) (.t 95)), none⟩, true, false, none, []⟩,
  ⟨⟨none, (.store .sc 1 (.t 109) (.t 108)), none⟩, false, false, none, []⟩]
def q_ref03_words_11 : List AOper := [
  ⟨(some 59), (.mv (.t 7)), none⟩,
  ⟨(some 60), (.bin .add (.t 59) (.v (.int .i64 1))), none⟩,
  ⟨(some 7), (.mv (.t 60)), none⟩]
def q_ref03_words_L12 : ACode := (.seq (.seq (.region q_ref03_words_7) (.cond (.t 58) .skip (.exit 2))) (.seq (.block 3 (.seq (.regionD q_ref03_words_8) (.seq (.regionD q_ref03_words_9) (.regionD q_ref03_words_10)))) (.region q_ref03_words_11)))
def q_ref03_words_12 : List AOper := [
  ⟨(some 110), (.load (.ia .u32 64) 64 (.t 5)), none⟩,
  ⟨none, (.store (.ia .u32 64) 64 (.t 4) (.t 110)), none⟩]
def a_ref03_words : AFunc := ⟨[(.cell 4 (.ia .u32 64) 64)], (.seq (.region q_ref03_words_0) (.seq (.region q_ref03_words_1) (.seq (.seq (.region q_ref03_words_2) (.block 0 (.loop q_ref03_words_L6))) (.seq (.seq (.region q_ref03_words_6) (.block 2 (.loop q_ref03_words_L12))) (.seq (.region q_ref03_words_12) .ret)))))⟩

def q_ref03_right_0 : List AOper := [
  ⟨(some 4), (.mv (.v (.int .u32 0))), none⟩]
def q_ref03_right_1 : List AOper := [
  ⟨(some 5), (.mv (.t 0)), none⟩,
  ⟨(some 6), (.mv (.t 1)), none⟩,
  ⟨(some 7), (.bin .shr (.t 5) (.t 6)), none⟩,
  ⟨(some 8), (.mv (.t 0)), none⟩,
  ⟨(some 9), (.mv (.t 1)), none⟩,
  ⟨(some 10), (.bin .sub (.v (.int .u64 32)) (.t 9)), none⟩,
  ⟨(some 11), (.bin .shl (.t 8) (.t 10)), none⟩,
  ⟨(some 12), (.bin .or (.t 7) (.t 11)), none⟩,
  ⟨(some 4), (.mv (.t 12)), none⟩]
def a_ref03_right : AFunc := ⟨[(.tmp 4)], (.seq (.region q_ref03_right_0) (.seq (.region q_ref03_right_1) .ret))⟩


theorem c_digest_Of : trF Try.prog Try.f92 = some a_digest_Of := by kernel_rfl
theorem g_digest_Of : Try.prog.funcs[92]? = some Try.f92 := by kernel_rfl
theorem i_digest_Of {args : List AV} {A : Heap} {Ko : AOut → Heap → Prop} (hn : args.length ≤ 19)
    (h : ∀ R : APost, (∀ e env A, fpost a_digest_Of.res Ko e env A → R e env A) → X Try.prog R a_digest_Of.body .done (env0 args) A) : SimX Try.prog F_digest_Of args A Ko :=
  X_intro g_digest_Of c_digest_Of (by rw [Try.ntmps92]; exact hn) h
theorem v_digest_Of {args : List AV} {v : AV} (hn : args.length ≤ 19) (h : X Try.prog (fin a_digest_Of.res v) a_digest_Of.body .done (env0 args) H0) : Gives Try.prog F_digest_Of args v :=
  Gives_intro g_digest_Of c_digest_Of (by rw [Try.ntmps92]; exact hn) h
theorem e_digest_Of {args : List AV} {Q : AOut → Prop} (hn : args.length ≤ 19) (h : X Try.prog (finE a_digest_Of.res Q) a_digest_Of.body .done (env0 args) H0) : Fins Try.prog F_digest_Of args Q :=
  Fins_intro g_digest_Of c_digest_Of (by rw [Try.ntmps92]; exact hn) h
theorem j_digest_Of {args : List AV} {A : Heap} {K Kp : AV → Heap → Prop} (hn : args.length ≤ 19) (h : X Try.prog (inl a_digest_Of.res K Kp) a_digest_Of.body .done (env0 args) A) : SimX Try.prog F_digest_Of args A (outK K Kp) :=
  X_inl g_digest_Of c_digest_Of (by rw [Try.ntmps92]; exact hn) h
theorem d_digest_Of {args : List AV} {A : Heap} {Ko : AOut → Heap → Prop} (hn : args.length ≤ 19) (hrf : AVL.Func.hasRF Try.f92 = false)
    (h : ∀ R : APost, (∀ e env A, fpost a_digest_Of.res Ko e env A → R e env A) → X Try.prog R a_digest_Of.body .done (env0 args) A) : SimD Try.prog F_digest_Of args A Ko :=
  X_introD g_digest_Of c_digest_Of (by rw [Try.ntmps92]; exact hn) hrf h
@[simp] theorem k_digest_Of : callable Try.prog F_digest_Of = true := by kernel_rfl
theorem c_digest_New : trF Try.prog Try.f94 = some a_digest_New := by kernel_rfl
theorem g_digest_New : Try.prog.funcs[94]? = some Try.f94 := by kernel_rfl
theorem i_digest_New {args : List AV} {A : Heap} {Ko : AOut → Heap → Prop} (hn : args.length ≤ 4)
    (h : ∀ R : APost, (∀ e env A, fpost a_digest_New.res Ko e env A → R e env A) → X Try.prog R a_digest_New.body .done (env0 args) A) : SimX Try.prog F_digest_New args A Ko :=
  X_intro g_digest_New c_digest_New (by rw [Try.ntmps94]; exact hn) h
theorem v_digest_New {args : List AV} {v : AV} (hn : args.length ≤ 4) (h : X Try.prog (fin a_digest_New.res v) a_digest_New.body .done (env0 args) H0) : Gives Try.prog F_digest_New args v :=
  Gives_intro g_digest_New c_digest_New (by rw [Try.ntmps94]; exact hn) h
theorem e_digest_New {args : List AV} {Q : AOut → Prop} (hn : args.length ≤ 4) (h : X Try.prog (finE a_digest_New.res Q) a_digest_New.body .done (env0 args) H0) : Fins Try.prog F_digest_New args Q :=
  Fins_intro g_digest_New c_digest_New (by rw [Try.ntmps94]; exact hn) h
theorem j_digest_New {args : List AV} {A : Heap} {K Kp : AV → Heap → Prop} (hn : args.length ≤ 4) (h : X Try.prog (inl a_digest_New.res K Kp) a_digest_New.body .done (env0 args) A) : SimX Try.prog F_digest_New args A (outK K Kp) :=
  X_inl g_digest_New c_digest_New (by rw [Try.ntmps94]; exact hn) h
theorem d_digest_New {args : List AV} {A : Heap} {Ko : AOut → Heap → Prop} (hn : args.length ≤ 4) (hrf : AVL.Func.hasRF Try.f94 = false)
    (h : ∀ R : APost, (∀ e env A, fpost a_digest_New.res Ko e env A → R e env A) → X Try.prog R a_digest_New.body .done (env0 args) A) : SimD Try.prog F_digest_New args A Ko :=
  X_introD g_digest_New c_digest_New (by rw [Try.ntmps94]; exact hn) hrf h
@[simp] theorem k_digest_New : callable Try.prog F_digest_New = true := by kernel_rfl
theorem c_digest_mix : trF Try.prog Try.f127 = some a_digest_mix := by kernel_rfl
theorem g_digest_mix : Try.prog.funcs[127]? = some Try.f127 := by kernel_rfl
theorem i_digest_mix {args : List AV} {A : Heap} {Ko : AOut → Heap → Prop} (hn : args.length ≤ 113)
    (h : ∀ R : APost, (∀ e env A, fpost a_digest_mix.res Ko e env A → R e env A) → X Try.prog R a_digest_mix.body .done (env0 args) A) : SimX Try.prog F_digest_mix args A Ko :=
  X_intro g_digest_mix c_digest_mix (by rw [Try.ntmps127]; exact hn) h
theorem v_digest_mix {args : List AV} {v : AV} (hn : args.length ≤ 113) (h : X Try.prog (fin a_digest_mix.res v) a_digest_mix.body .done (env0 args) H0) : Gives Try.prog F_digest_mix args v :=
  Gives_intro g_digest_mix c_digest_mix (by rw [Try.ntmps127]; exact hn) h
theorem e_digest_mix {args : List AV} {Q : AOut → Prop} (hn : args.length ≤ 113) (h : X Try.prog (finE a_digest_mix.res Q) a_digest_mix.body .done (env0 args) H0) : Fins Try.prog F_digest_mix args Q :=
  Fins_intro g_digest_mix c_digest_mix (by rw [Try.ntmps127]; exact hn) h
theorem j_digest_mix {args : List AV} {A : Heap} {K Kp : AV → Heap → Prop} (hn : args.length ≤ 113) (h : X Try.prog (inl a_digest_mix.res K Kp) a_digest_mix.body .done (env0 args) A) : SimX Try.prog F_digest_mix args A (outK K Kp) :=
  X_inl g_digest_mix c_digest_mix (by rw [Try.ntmps127]; exact hn) h
theorem d_digest_mix {args : List AV} {A : Heap} {Ko : AOut → Heap → Prop} (hn : args.length ≤ 113) (hrf : AVL.Func.hasRF Try.f127 = false)
    (h : ∀ R : APost, (∀ e env A, fpost a_digest_mix.res Ko e env A → R e env A) → X Try.prog R a_digest_mix.body .done (env0 args) A) : SimD Try.prog F_digest_mix args A Ko :=
  X_introD g_digest_mix c_digest_mix (by rw [Try.ntmps127]; exact hn) hrf h
@[simp] theorem k_digest_mix : callable Try.prog F_digest_mix = true := by kernel_rfl
theorem c_digest_spread : trF Try.prog Try.f136 = some a_digest_spread := by kernel_rfl
theorem g_digest_spread : Try.prog.funcs[136]? = some Try.f136 := by kernel_rfl
theorem i_digest_spread {args : List AV} {A : Heap} {Ko : AOut → Heap → Prop} (hn : args.length ≤ 89)
    (h : ∀ R : APost, (∀ e env A, fpost a_digest_spread.res Ko e env A → R e env A) → X Try.prog R a_digest_spread.body .done (env0 args) A) : SimX Try.prog F_digest_spread args A Ko :=
  X_intro g_digest_spread c_digest_spread (by rw [Try.ntmps136]; exact hn) h
theorem v_digest_spread {args : List AV} {v : AV} (hn : args.length ≤ 89) (h : X Try.prog (fin a_digest_spread.res v) a_digest_spread.body .done (env0 args) H0) : Gives Try.prog F_digest_spread args v :=
  Gives_intro g_digest_spread c_digest_spread (by rw [Try.ntmps136]; exact hn) h
theorem e_digest_spread {args : List AV} {Q : AOut → Prop} (hn : args.length ≤ 89) (h : X Try.prog (finE a_digest_spread.res Q) a_digest_spread.body .done (env0 args) H0) : Fins Try.prog F_digest_spread args Q :=
  Fins_intro g_digest_spread c_digest_spread (by rw [Try.ntmps136]; exact hn) h
theorem j_digest_spread {args : List AV} {A : Heap} {K Kp : AV → Heap → Prop} (hn : args.length ≤ 89) (h : X Try.prog (inl a_digest_spread.res K Kp) a_digest_spread.body .done (env0 args) A) : SimX Try.prog F_digest_spread args A (outK K Kp) :=
  X_inl g_digest_spread c_digest_spread (by rw [Try.ntmps136]; exact hn) h
theorem d_digest_spread {args : List AV} {A : Heap} {Ko : AOut → Heap → Prop} (hn : args.length ≤ 89) (hrf : AVL.Func.hasRF Try.f136 = false)
    (h : ∀ R : APost, (∀ e env A, fpost a_digest_spread.res Ko e env A → R e env A) → X Try.prog R a_digest_spread.body .done (env0 args) A) : SimD Try.prog F_digest_spread args A Ko :=
  X_introD g_digest_spread c_digest_spread (by rw [Try.ntmps136]; exact hn) hrf h
@[simp] theorem k_digest_spread : callable Try.prog F_digest_spread = true := by kernel_rfl
theorem c_digest_rounds : trF Try.prog Try.f137 = some a_digest_rounds := by kernel_rfl
theorem g_digest_rounds : Try.prog.funcs[137]? = some Try.f137 := by kernel_rfl
theorem i_digest_rounds {args : List AV} {A : Heap} {Ko : AOut → Heap → Prop} (hn : args.length ≤ 2)
    (h : ∀ R : APost, (∀ e env A, fpost a_digest_rounds.res Ko e env A → R e env A) → X Try.prog R a_digest_rounds.body .done (env0 args) A) : SimX Try.prog F_digest_rounds args A Ko :=
  X_intro g_digest_rounds c_digest_rounds (by rw [Try.ntmps137]; exact hn) h
theorem v_digest_rounds {args : List AV} {v : AV} (hn : args.length ≤ 2) (h : X Try.prog (fin a_digest_rounds.res v) a_digest_rounds.body .done (env0 args) H0) : Gives Try.prog F_digest_rounds args v :=
  Gives_intro g_digest_rounds c_digest_rounds (by rw [Try.ntmps137]; exact hn) h
theorem e_digest_rounds {args : List AV} {Q : AOut → Prop} (hn : args.length ≤ 2) (h : X Try.prog (finE a_digest_rounds.res Q) a_digest_rounds.body .done (env0 args) H0) : Fins Try.prog F_digest_rounds args Q :=
  Fins_intro g_digest_rounds c_digest_rounds (by rw [Try.ntmps137]; exact hn) h
theorem j_digest_rounds {args : List AV} {A : Heap} {K Kp : AV → Heap → Prop} (hn : args.length ≤ 2) (h : X Try.prog (inl a_digest_rounds.res K Kp) a_digest_rounds.body .done (env0 args) A) : SimX Try.prog F_digest_rounds args A (outK K Kp) :=
  X_inl g_digest_rounds c_digest_rounds (by rw [Try.ntmps137]; exact hn) h
theorem d_digest_rounds {args : List AV} {A : Heap} {Ko : AOut → Heap → Prop} (hn : args.length ≤ 2) (hrf : AVL.Func.hasRF Try.f137 = false)
    (h : ∀ R : APost, (∀ e env A, fpost a_digest_rounds.res Ko e env A → R e env A) → X Try.prog R a_digest_rounds.body .done (env0 args) A) : SimD Try.prog F_digest_rounds args A Ko :=
  X_introD g_digest_rounds c_digest_rounds (by rw [Try.ntmps137]; exact hn) hrf h
@[simp] theorem k_digest_rounds : callable Try.prog F_digest_rounds = true := by kernel_rfl
theorem c_digest_spin : trF Try.prog Try.f138 = some a_digest_spin := by kernel_rfl
theorem g_digest_spin : Try.prog.funcs[138]? = some Try.f138 := by kernel_rfl
theorem i_digest_spin {args : List AV} {A : Heap} {Ko : AOut → Heap → Prop} (hn : args.length ≤ 13)
    (h : ∀ R : APost, (∀ e env A, fpost a_digest_spin.res Ko e env A → R e env A) → X Try.prog R a_digest_spin.body .done (env0 args) A) : SimX Try.prog F_digest_spin args A Ko :=
  X_intro g_digest_spin c_digest_spin (by rw [Try.ntmps138]; exact hn) h
theorem v_digest_spin {args : List AV} {v : AV} (hn : args.length ≤ 13) (h : X Try.prog (fin a_digest_spin.res v) a_digest_spin.body .done (env0 args) H0) : Gives Try.prog F_digest_spin args v :=
  Gives_intro g_digest_spin c_digest_spin (by rw [Try.ntmps138]; exact hn) h
theorem e_digest_spin {args : List AV} {Q : AOut → Prop} (hn : args.length ≤ 13) (h : X Try.prog (finE a_digest_spin.res Q) a_digest_spin.body .done (env0 args) H0) : Fins Try.prog F_digest_spin args Q :=
  Fins_intro g_digest_spin c_digest_spin (by rw [Try.ntmps138]; exact hn) h
theorem j_digest_spin {args : List AV} {A : Heap} {K Kp : AV → Heap → Prop} (hn : args.length ≤ 13) (h : X Try.prog (inl a_digest_spin.res K Kp) a_digest_spin.body .done (env0 args) A) : SimX Try.prog F_digest_spin args A (outK K Kp) :=
  X_inl g_digest_spin c_digest_spin (by rw [Try.ntmps138]; exact hn) h
theorem d_digest_spin {args : List AV} {A : Heap} {Ko : AOut → Heap → Prop} (hn : args.length ≤ 13) (hrf : AVL.Func.hasRF Try.f138 = false)
    (h : ∀ R : APost, (∀ e env A, fpost a_digest_spin.res Ko e env A → R e env A) → X Try.prog R a_digest_spin.body .done (env0 args) A) : SimD Try.prog F_digest_spin args A Ko :=
  X_introD g_digest_spin c_digest_spin (by rw [Try.ntmps138]; exact hn) hrf h
@[simp] theorem k_digest_spin : callable Try.prog F_digest_spin = true := by kernel_rfl
theorem c_Pdigest_Hash_Add : trF Try.prog Try.f95 = some a_Pdigest_Hash_Add := by kernel_rfl
theorem g_Pdigest_Hash_Add : Try.prog.funcs[95]? = some Try.f95 := by kernel_rfl
theorem i_Pdigest_Hash_Add {args : List AV} {A : Heap} {Ko : AOut → Heap → Prop} (hn : args.length ≤ 42)
    (h : ∀ R : APost, (∀ e env A, fpost a_Pdigest_Hash_Add.res Ko e env A → R e env A) → X Try.prog R a_Pdigest_Hash_Add.body .done (env0 args) A) : SimX Try.prog F_Pdigest_Hash_Add args A Ko :=
  X_intro g_Pdigest_Hash_Add c_Pdigest_Hash_Add (by rw [Try.ntmps95]; exact hn) h
theorem v_Pdigest_Hash_Add {args : List AV} {v : AV} (hn : args.length ≤ 42) (h : X Try.prog (fin a_Pdigest_Hash_Add.res v) a_Pdigest_Hash_Add.body .done (env0 args) H0) : Gives Try.prog F_Pdigest_Hash_Add args v :=
  Gives_intro g_Pdigest_Hash_Add c_Pdigest_Hash_Add (by rw [Try.ntmps95]; exact hn) h
theorem e_Pdigest_Hash_Add {args : List AV} {Q : AOut → Prop} (hn : args.length ≤ 42) (h : X Try.prog (finE a_Pdigest_Hash_Add.res Q) a_Pdigest_Hash_Add.body .done (env0 args) H0) : Fins Try.prog F_Pdigest_Hash_Add args Q :=
  Fins_intro g_Pdigest_Hash_Add c_Pdigest_Hash_Add (by rw [Try.ntmps95]; exact hn) h
theorem j_Pdigest_Hash_Add {args : List AV} {A : Heap} {K Kp : AV → Heap → Prop} (hn : args.length ≤ 42) (h : X Try.prog (inl a_Pdigest_Hash_Add.res K Kp) a_Pdigest_Hash_Add.body .done (env0 args) A) : SimX Try.prog F_Pdigest_Hash_Add args A (outK K Kp) :=
  X_inl g_Pdigest_Hash_Add c_Pdigest_Hash_Add (by rw [Try.ntmps95]; exact hn) h
theorem d_Pdigest_Hash_Add {args : List AV} {A : Heap} {Ko : AOut → Heap → Prop} (hn : args.length ≤ 42) (hrf : AVL.Func.hasRF Try.f95 = false)
    (h : ∀ R : APost, (∀ e env A, fpost a_Pdigest_Hash_Add.res Ko e env A → R e env A) → X Try.prog R a_Pdigest_Hash_Add.body .done (env0 args) A) : SimD Try.prog F_Pdigest_Hash_Add args A Ko :=
  X_introD g_Pdigest_Hash_Add c_Pdigest_Hash_Add (by rw [Try.ntmps95]; exact hn) hrf h
@[simp] theorem k_Pdigest_Hash_Add : callable Try.prog F_Pdigest_Hash_Add = true := by kernel_rfl
theorem c_Pdigest_Hash_Sum : trF Try.prog Try.f97 = some a_Pdigest_Hash_Sum := by kernel_rfl
theorem g_Pdigest_Hash_Sum : Try.prog.funcs[97]? = some Try.f97 := by kernel_rfl
theorem i_Pdigest_Hash_Sum {args : List AV} {A : Heap} {Ko : AOut → Heap → Prop} (hn : args.length ≤ 69)
    (h : ∀ R : APost, (∀ e env A, fpost a_Pdigest_Hash_Sum.res Ko e env A → R e env A) → X Try.prog R a_Pdigest_Hash_Sum.body .done (env0 args) A) : SimX Try.prog F_Pdigest_Hash_Sum args A Ko :=
  X_intro g_Pdigest_Hash_Sum c_Pdigest_Hash_Sum (by rw [Try.ntmps97]; exact hn) h
theorem v_Pdigest_Hash_Sum {args : List AV} {v : AV} (hn : args.length ≤ 69) (h : X Try.prog (fin a_Pdigest_Hash_Sum.res v) a_Pdigest_Hash_Sum.body .done (env0 args) H0) : Gives Try.prog F_Pdigest_Hash_Sum args v :=
  Gives_intro g_Pdigest_Hash_Sum c_Pdigest_Hash_Sum (by rw [Try.ntmps97]; exact hn) h
theorem e_Pdigest_Hash_Sum {args : List AV} {Q : AOut → Prop} (hn : args.length ≤ 69) (h : X Try.prog (finE a_Pdigest_Hash_Sum.res Q) a_Pdigest_Hash_Sum.body .done (env0 args) H0) : Fins Try.prog F_Pdigest_Hash_Sum args Q :=
  Fins_intro g_Pdigest_Hash_Sum c_Pdigest_Hash_Sum (by rw [Try.ntmps97]; exact hn) h
theorem j_Pdigest_Hash_Sum {args : List AV} {A : Heap} {K Kp : AV → Heap → Prop} (hn : args.length ≤ 69) (h : X Try.prog (inl a_Pdigest_Hash_Sum.res K Kp) a_Pdigest_Hash_Sum.body .done (env0 args) A) : SimX Try.prog F_Pdigest_Hash_Sum args A (outK K Kp) :=
  X_inl g_Pdigest_Hash_Sum c_Pdigest_Hash_Sum (by rw [Try.ntmps97]; exact hn) h
theorem d_Pdigest_Hash_Sum {args : List AV} {A : Heap} {Ko : AOut → Heap → Prop} (hn : args.length ≤ 69) (hrf : AVL.Func.hasRF Try.f97 = false)
    (h : ∀ R : APost, (∀ e env A, fpost a_Pdigest_Hash_Sum.res Ko e env A → R e env A) → X Try.prog R a_Pdigest_Hash_Sum.body .done (env0 args) A) : SimD Try.prog F_Pdigest_Hash_Sum args A Ko :=
  X_introD g_Pdigest_Hash_Sum c_Pdigest_Hash_Sum (by rw [Try.ntmps97]; exact hn) hrf h
@[simp] theorem k_Pdigest_Hash_Sum : callable Try.prog F_Pdigest_Hash_Sum = true := by kernel_rfl
theorem c_ref03_Sum : trF Try.prog Try.f65 = some a_ref03_Sum := by kernel_rfl
theorem g_ref03_Sum : Try.prog.funcs[65]? = some Try.f65 := by kernel_rfl
theorem i_ref03_Sum {args : List AV} {A : Heap} {Ko : AOut → Heap → Prop} (hn : args.length ≤ 43)
    (h : ∀ R : APost, (∀ e env A, fpost a_ref03_Sum.res Ko e env A → R e env A) → X Try.prog R a_ref03_Sum.body .done (env0 args) A) : SimX Try.prog F_ref03_Sum args A Ko :=
  X_intro g_ref03_Sum c_ref03_Sum (by rw [Try.ntmps65]; exact hn) h
theorem v_ref03_Sum {args : List AV} {v : AV} (hn : args.length ≤ 43) (h : X Try.prog (fin a_ref03_Sum.res v) a_ref03_Sum.body .done (env0 args) H0) : Gives Try.prog F_ref03_Sum args v :=
  Gives_intro g_ref03_Sum c_ref03_Sum (by rw [Try.ntmps65]; exact hn) h
theorem e_ref03_Sum {args : List AV} {Q : AOut → Prop} (hn : args.length ≤ 43) (h : X Try.prog (finE a_ref03_Sum.res Q) a_ref03_Sum.body .done (env0 args) H0) : Fins Try.prog F_ref03_Sum args Q :=
  Fins_intro g_ref03_Sum c_ref03_Sum (by rw [Try.ntmps65]; exact hn) h
theorem j_ref03_Sum {args : List AV} {A : Heap} {K Kp : AV → Heap → Prop} (hn : args.length ≤ 43) (h : X Try.prog (inl a_ref03_Sum.res K Kp) a_ref03_Sum.body .done (env0 args) A) : SimX Try.prog F_ref03_Sum args A (outK K Kp) :=
  X_inl g_ref03_Sum c_ref03_Sum (by rw [Try.ntmps65]; exact hn) h
theorem d_ref03_Sum {args : List AV} {A : Heap} {Ko : AOut → Heap → Prop} (hn : args.length ≤ 43) (hrf : AVL.Func.hasRF Try.f65 = false)
    (h : ∀ R : APost, (∀ e env A, fpost a_ref03_Sum.res Ko e env A → R e env A) → X Try.prog R a_ref03_Sum.body .done (env0 args) A) : SimD Try.prog F_ref03_Sum args A Ko :=
  X_introD g_ref03_Sum c_ref03_Sum (by rw [Try.ntmps65]; exact hn) hrf h
@[simp] theorem k_ref03_Sum : callable Try.prog F_ref03_Sum = true := by kernel_rfl
theorem c_ref03_table : trF Try.prog Try.f107 = some a_ref03_table := by kernel_rfl
theorem g_ref03_table : Try.prog.funcs[107]? = some Try.f107 := by kernel_rfl
theorem i_ref03_table {args : List AV} {A : Heap} {Ko : AOut → Heap → Prop} (hn : args.length ≤ 2)
    (h : ∀ R : APost, (∀ e env A, fpost a_ref03_table.res Ko e env A → R e env A) → X Try.prog R a_ref03_table.body .done (env0 args) A) : SimX Try.prog F_ref03_table args A Ko :=
  X_intro g_ref03_table c_ref03_table (by rw [Try.ntmps107]; exact hn) h
theorem v_ref03_table {args : List AV} {v : AV} (hn : args.length ≤ 2) (h : X Try.prog (fin a_ref03_table.res v) a_ref03_table.body .done (env0 args) H0) : Gives Try.prog F_ref03_table args v :=
  Gives_intro g_ref03_table c_ref03_table (by rw [Try.ntmps107]; exact hn) h
theorem e_ref03_table {args : List AV} {Q : AOut → Prop} (hn : args.length ≤ 2) (h : X Try.prog (finE a_ref03_table.res Q) a_ref03_table.body .done (env0 args) H0) : Fins Try.prog F_ref03_table args Q :=
  Fins_intro g_ref03_table c_ref03_table (by rw [Try.ntmps107]; exact hn) h
theorem j_ref03_table {args : List AV} {A : Heap} {K Kp : AV → Heap → Prop} (hn : args.length ≤ 2) (h : X Try.prog (inl a_ref03_table.res K Kp) a_ref03_table.body .done (env0 args) A) : SimX Try.prog F_ref03_table args A (outK K Kp) :=
  X_inl g_ref03_table c_ref03_table (by rw [Try.ntmps107]; exact hn) h
theorem d_ref03_table {args : List AV} {A : Heap} {Ko : AOut → Heap → Prop} (hn : args.length ≤ 2) (hrf : AVL.Func.hasRF Try.f107 = false)
    (h : ∀ R : APost, (∀ e env A, fpost a_ref03_table.res Ko e env A → R e env A) → X Try.prog R a_ref03_table.body .done (env0 args) A) : SimD Try.prog F_ref03_table args A Ko :=
  X_introD g_ref03_table c_ref03_table (by rw [Try.ntmps107]; exact hn) hrf h
@[simp] theorem k_ref03_table : callable Try.prog F_ref03_table = true := by kernel_rfl
theorem c_ref03_padded : trF Try.prog Try.f108 = some a_ref03_padded := by kernel_rfl
theorem g_ref03_padded : Try.prog.funcs[108]? = some Try.f108 := by kernel_rfl
theorem i_ref03_padded {args : List AV} {A : Heap} {Ko : AOut → Heap → Prop} (hn : args.length ≤ 38)
    (h : ∀ R : APost, (∀ e env A, fpost a_ref03_padded.res Ko e env A → R e env A) → X Try.prog R a_ref03_padded.body .done (env0 args) A) : SimX Try.prog F_ref03_padded args A Ko :=
  X_intro g_ref03_padded c_ref03_padded (by rw [Try.ntmps108]; exact hn) h
theorem v_ref03_padded {args : List AV} {v : AV} (hn : args.length ≤ 38) (h : X Try.prog (fin a_ref03_padded.res v) a_ref03_padded.body .done (env0 args) H0) : Gives Try.prog F_ref03_padded args v :=
  Gives_intro g_ref03_padded c_ref03_padded (by rw [Try.ntmps108]; exact hn) h
theorem e_ref03_padded {args : List AV} {Q : AOut → Prop} (hn : args.length ≤ 38) (h : X Try.prog (finE a_ref03_padded.res Q) a_ref03_padded.body .done (env0 args) H0) : Fins Try.prog F_ref03_padded args Q :=
  Fins_intro g_ref03_padded c_ref03_padded (by rw [Try.ntmps108]; exact hn) h
theorem j_ref03_padded {args : List AV} {A : Heap} {K Kp : AV → Heap → Prop} (hn : args.length ≤ 38) (h : X Try.prog (inl a_ref03_padded.res K Kp) a_ref03_padded.body .done (env0 args) A) : SimX Try.prog F_ref03_padded args A (outK K Kp) :=
  X_inl g_ref03_padded c_ref03_padded (by rw [Try.ntmps108]; exact hn) h
theorem d_ref03_padded {args : List AV} {A : Heap} {Ko : AOut → Heap → Prop} (hn : args.length ≤ 38) (hrf : AVL.Func.hasRF Try.f108 = false)
    (h : ∀ R : APost, (∀ e env A, fpost a_ref03_padded.res Ko e env A → R e env A) → X Try.prog R a_ref03_padded.body .done (env0 args) A) : SimD Try.prog F_ref03_padded args A Ko :=
  X_introD g_ref03_padded c_ref03_padded (by rw [Try.ntmps108]; exact hn) hrf h
@[simp] theorem k_ref03_padded : callable Try.prog F_ref03_padded = true := by kernel_rfl
theorem c_ref03_mixed : trF Try.prog Try.f109 = some a_ref03_mixed := by kernel_rfl
theorem g_ref03_mixed : Try.prog.funcs[109]? = some Try.f109 := by kernel_rfl
theorem i_ref03_mixed {args : List AV} {A : Heap} {Ko : AOut → Heap → Prop} (hn : args.length ≤ 131)
    (h : ∀ R : APost, (∀ e env A, fpost a_ref03_mixed.res Ko e env A → R e env A) → X Try.prog R a_ref03_mixed.body .done (env0 args) A) : SimX Try.prog F_ref03_mixed args A Ko :=
  X_intro g_ref03_mixed c_ref03_mixed (by rw [Try.ntmps109]; exact hn) h
theorem v_ref03_mixed {args : List AV} {v : AV} (hn : args.length ≤ 131) (h : X Try.prog (fin a_ref03_mixed.res v) a_ref03_mixed.body .done (env0 args) H0) : Gives Try.prog F_ref03_mixed args v :=
  Gives_intro g_ref03_mixed c_ref03_mixed (by rw [Try.ntmps109]; exact hn) h
theorem e_ref03_mixed {args : List AV} {Q : AOut → Prop} (hn : args.length ≤ 131) (h : X Try.prog (finE a_ref03_mixed.res Q) a_ref03_mixed.body .done (env0 args) H0) : Fins Try.prog F_ref03_mixed args Q :=
  Fins_intro g_ref03_mixed c_ref03_mixed (by rw [Try.ntmps109]; exact hn) h
theorem j_ref03_mixed {args : List AV} {A : Heap} {K Kp : AV → Heap → Prop} (hn : args.length ≤ 131) (h : X Try.prog (inl a_ref03_mixed.res K Kp) a_ref03_mixed.body .done (env0 args) A) : SimX Try.prog F_ref03_mixed args A (outK K Kp) :=
  X_inl g_ref03_mixed c_ref03_mixed (by rw [Try.ntmps109]; exact hn) h
theorem d_ref03_mixed {args : List AV} {A : Heap} {Ko : AOut → Heap → Prop} (hn : args.length ≤ 131) (hrf : AVL.Func.hasRF Try.f109 = false)
    (h : ∀ R : APost, (∀ e env A, fpost a_ref03_mixed.res Ko e env A → R e env A) → X Try.prog R a_ref03_mixed.body .done (env0 args) A) : SimD Try.prog F_ref03_mixed args A Ko :=
  X_introD g_ref03_mixed c_ref03_mixed (by rw [Try.ntmps109]; exact hn) hrf h
@[simp] theorem k_ref03_mixed : callable Try.prog F_ref03_mixed = true := by kernel_rfl
theorem c_ref03_words : trF Try.prog Try.f110 = some a_ref03_words := by kernel_rfl
theorem g_ref03_words : Try.prog.funcs[110]? = some Try.f110 := by kernel_rfl
theorem i_ref03_words {args : List AV} {A : Heap} {Ko : AOut → Heap → Prop} (hn : args.length ≤ 111)
    (h : ∀ R : APost, (∀ e env A, fpost a_ref03_words.res Ko e env A → R e env A) → X Try.prog R a_ref03_words.body .done (env0 args) A) : SimX Try.prog F_ref03_words args A Ko :=
  X_intro g_ref03_words c_ref03_words (by rw [Try.ntmps110]; exact hn) h
theorem v_ref03_words {args : List AV} {v : AV} (hn : args.length ≤ 111) (h : X Try.prog (fin a_ref03_words.res v) a_ref03_words.body .done (env0 args) H0) : Gives Try.prog F_ref03_words args v :=
  Gives_intro g_ref03_words c_ref03_words (by rw [Try.ntmps110]; exact hn) h
theorem e_ref03_words {args : List AV} {Q : AOut → Prop} (hn : args.length ≤ 111) (h : X Try.prog (finE a_ref03_words.res Q) a_ref03_words.body .done (env0 args) H0) : Fins Try.prog F_ref03_words args Q :=
  Fins_intro g_ref03_words c_ref03_words (by rw [Try.ntmps110]; exact hn) h
theorem j_ref03_words {args : List AV} {A : Heap} {K Kp : AV → Heap → Prop} (hn : args.length ≤ 111) (h : X Try.prog (inl a_ref03_words.res K Kp) a_ref03_words.body .done (env0 args) A) : SimX Try.prog F_ref03_words args A (outK K Kp) :=
  X_inl g_ref03_words c_ref03_words (by rw [Try.ntmps110]; exact hn) h
theorem d_ref03_words {args : List AV} {A : Heap} {Ko : AOut → Heap → Prop} (hn : args.length ≤ 111) (hrf : AVL.Func.hasRF Try.f110 = false)
    (h : ∀ R : APost, (∀ e env A, fpost a_ref03_words.res Ko e env A → R e env A) → X Try.prog R a_ref03_words.body .done (env0 args) A) : SimD Try.prog F_ref03_words args A Ko :=
  X_introD g_ref03_words c_ref03_words (by rw [Try.ntmps110]; exact hn) hrf h
@[simp] theorem k_ref03_words : callable Try.prog F_ref03_words = true := by kernel_rfl
theorem c_ref03_right : trF Try.prog Try.f130 = some a_ref03_right := by kernel_rfl
theorem g_ref03_right : Try.prog.funcs[130]? = some Try.f130 := by kernel_rfl
theorem i_ref03_right {args : List AV} {A : Heap} {Ko : AOut → Heap → Prop} (hn : args.length ≤ 13)
    (h : ∀ R : APost, (∀ e env A, fpost a_ref03_right.res Ko e env A → R e env A) → X Try.prog R a_ref03_right.body .done (env0 args) A) : SimX Try.prog F_ref03_right args A Ko :=
  X_intro g_ref03_right c_ref03_right (by rw [Try.ntmps130]; exact hn) h
theorem v_ref03_right {args : List AV} {v : AV} (hn : args.length ≤ 13) (h : X Try.prog (fin a_ref03_right.res v) a_ref03_right.body .done (env0 args) H0) : Gives Try.prog F_ref03_right args v :=
  Gives_intro g_ref03_right c_ref03_right (by rw [Try.ntmps130]; exact hn) h
theorem e_ref03_right {args : List AV} {Q : AOut → Prop} (hn : args.length ≤ 13) (h : X Try.prog (finE a_ref03_right.res Q) a_ref03_right.body .done (env0 args) H0) : Fins Try.prog F_ref03_right args Q :=
  Fins_intro g_ref03_right c_ref03_right (by rw [Try.ntmps130]; exact hn) h
theorem j_ref03_right {args : List AV} {A : Heap} {K Kp : AV → Heap → Prop} (hn : args.length ≤ 13) (h : X Try.prog (inl a_ref03_right.res K Kp) a_ref03_right.body .done (env0 args) A) : SimX Try.prog F_ref03_right args A (outK K Kp) :=
  X_inl g_ref03_right c_ref03_right (by rw [Try.ntmps130]; exact hn) h
theorem d_ref03_right {args : List AV} {A : Heap} {Ko : AOut → Heap → Prop} (hn : args.length ≤ 13) (hrf : AVL.Func.hasRF Try.f130 = false)
    (h : ∀ R : APost, (∀ e env A, fpost a_ref03_right.res Ko e env A → R e env A) → X Try.prog R a_ref03_right.body .done (env0 args) A) : SimD Try.prog F_ref03_right args A Ko :=
  X_introD g_ref03_right c_ref03_right (by rw [Try.ntmps130]; exact hn) hrf h
@[simp] theorem k_ref03_right : callable Try.prog F_ref03_right = true := by kernel_rfl
end Go.Proofs.Ytfdckjliinpjiaa

/- The digest, plainly: words, rounds, blocks, padding; that it does not matter how the bytes come. -/
namespace Go.Proofs.Ytfdckjliinpjiaa
open Go AVL
set_option linter.unusedVariables false
set_option linter.unusedSimpArgs false

abbrev W32 : Nat := 4294967296
def rot (x n : Nat) : Nat := x / 2 ^ n ||| x * 2 ^ (32 - n) % W32
def sg0 (x : Nat) : Nat := rot x 7 ^^^ rot x 18 ^^^ x / 8
def sg1 (x : Nat) : Nat := rot x 17 ^^^ rot x 19 ^^^ x / 1024
def Sg0 (x : Nat) : Nat := rot x 2 ^^^ rot x 13 ^^^ rot x 22
def Sg1 (x : Nat) : Nat := rot x 6 ^^^ rot x 11 ^^^ rot x 25
def chf (e f g : Nat) : Nat := (e &&& f) ^^^ ((W32 - 1 - e) &&& g)
def maj (a b c : Nat) : Nat := (a &&& b) ^^^ (a &&& c) ^^^ (b &&& c)
def Words (l : List Nat) : Prop := ∀ x ∈ l, x < W32
theorem rot_lt {x : Nat} (n : Nat) (hx : x < W32) : rot x n < W32 :=
  Nat.or_lt_two_pow (n := 32) (Nat.lt_of_le_of_lt (Nat.div_le_self _ _) hx) (Nat.mod_lt _ (by decide))
theorem sg0_lt {x : Nat} (hx : x < W32) : sg0 x < W32 :=
  Nat.xor_lt_two_pow (n := 32) (Nat.xor_lt_two_pow (n := 32) (rot_lt _ hx) (rot_lt _ hx)) (Nat.lt_of_le_of_lt (Nat.div_le_self _ _) hx)
theorem sg1_lt {x : Nat} (hx : x < W32) : sg1 x < W32 :=
  Nat.xor_lt_two_pow (n := 32) (Nat.xor_lt_two_pow (n := 32) (rot_lt _ hx) (rot_lt _ hx)) (Nat.lt_of_le_of_lt (Nat.div_le_self _ _) hx)
theorem Sg0_lt {x : Nat} (hx : x < W32) : Sg0 x < W32 :=
  Nat.xor_lt_two_pow (n := 32) (Nat.xor_lt_two_pow (n := 32) (rot_lt _ hx) (rot_lt _ hx)) (rot_lt _ hx)
theorem Sg1_lt {x : Nat} (hx : x < W32) : Sg1 x < W32 :=
  Nat.xor_lt_two_pow (n := 32) (Nat.xor_lt_two_pow (n := 32) (rot_lt _ hx) (rot_lt _ hx)) (rot_lt _ hx)
theorem chf_lt {e f g : Nat} (hf : f < W32) (hg : g < W32) : chf e f g < W32 :=
  Nat.xor_lt_two_pow (n := 32) (Nat.and_lt_two_pow _ hf) (Nat.and_lt_two_pow _ hg)
theorem maj_lt {a b c : Nat} (hb : b < W32) (hc : c < W32) : maj a b c < W32 :=
  Nat.xor_lt_two_pow (n := 32) (Nat.xor_lt_two_pow (n := 32) (Nat.and_lt_two_pow _ hb) (Nat.and_lt_two_pow _ hc)) (Nat.and_lt_two_pow _ hc)

/-- A block's words. -/
def word4 (b : List Nat) (i : Nat) : Nat := (b.getD (4 * i) 0 * 16777216 + b.getD (4 * i + 1) 0 * 65536 + b.getD (4 * i + 2) 0 * 256 + b.getD (4 * i + 3) 0)
def first16 (b : List Nat) : List Nat := (List.range 16).map (word4 b)
def nextW (w : List Nat) (i : Nat) : Nat := (w.getD i 0 + sg0 (w.getD (i + 1) 0) + w.getD (i + 9) 0 + sg1 (w.getD (i + 14) 0)) % W32
def wsN (b : List Nat) : Nat → List Nat
  | 0 => first16 b
  | i + 1 => wsN b i ++ [nextW (wsN b i) i]
@[simp] theorem wsN_length (b : List Nat) : ∀ i, (wsN b i).length = 16 + i
  | 0 => by simp [wsN, first16]
  | i + 1 => by simp [wsN, wsN_length b i]; omega
/-- One round. -/
def rnd (v : List Nat) (k w : Nat) : List Nat :=
  let t := (v.getD 7 0 + Sg1 (v.getD 4 0) + chf (v.getD 4 0) (v.getD 5 0) (v.getD 6 0) + k + w) % W32
  let u := (Sg0 (v.getD 0 0) + maj (v.getD 0 0) (v.getD 1 0) (v.getD 2 0)) % W32
  [(t + u) % W32, v.getD 0 0, v.getD 1 0, v.getD 2 0, (v.getD 3 0 + t) % W32, v.getD 4 0, v.getD 5 0, v.getD 6 0]
def K64 : List Nat := [
  0x428a2f98, 0x71374491, 0xb5c0fbcf, 0xe9b5dba5, 0x3956c25b, 0x59f111f1, 0x923f82a4, 0xab1c5ed5,
  0xd807aa98, 0x12835b01, 0x243185be, 0x550c7dc3, 0x72be5d74, 0x80deb1fe, 0x9bdc06a7, 0xc19bf174,
  0xe49b69c1, 0xefbe4786, 0x0fc19dc6, 0x240ca1cc, 0x2de92c6f, 0x4a7484aa, 0x5cb0a9dc, 0x76f988da,
  0x983e5152, 0xa831c66d, 0xb00327c8, 0xbf597fc7, 0xc6e00bf3, 0xd5a79147, 0x06ca6351, 0x14292967,
  0x27b70a85, 0x2e1b2138, 0x4d2c6dfc, 0x53380d13, 0x650a7354, 0x766a0abb, 0x81c2c92e, 0x92722c85,
  0xa2bfe8a1, 0xa81a664b, 0xc24b8b70, 0xc76c51a3, 0xd192e819, 0xd6990624, 0xf40e3585, 0x106aa070,
  0x19a4c116, 0x1e376c08, 0x2748774c, 0x34b0bcb5, 0x391c0cb3, 0x4ed8aa4a, 0x5b9cca4f, 0x682e6ff3,
  0x748f82ee, 0x78a5636f, 0x84c87814, 0x8cc70208, 0x90befffa, 0xa4506ceb, 0xbef9a3f7, 0xc67178f2]
def rndN (v w : List Nat) : Nat → List Nat
  | 0 => v
  | i + 1 => rnd (rndN v w i) (K64.getD i 0) (w.getD i 0)
def sumW (s v : List Nat) : List Nat := (List.range 8).map fun i => (s.getD i 0 + v.getD i 0) % W32
/-- The words behind a block. -/
def mixB (s b : List Nat) : List Nat := sumW s (rndN s (wsN b 48) 64)
def H256 : List Nat := [0x6a09e667, 0xbb67ae85, 0x3c6ef372, 0xa54ff53a, 0x510e527f, 0x9b05688c, 0x1f83d9ab, 0x5be0cd19]
/-- Whole blocks, one behind the other. -/
def mixAll (s : List Nat) : Nat → List Nat → List Nat
  | 0, _ => s
  | n + 1, b => mixAll (mixB s (b.take 64)) n (b.drop 64)
theorem mixAll_add : ∀ (n m : Nat) (s b : List Nat), mixAll s (n + m) b = mixAll (mixAll s n b) m (b.drop (64 * n))
  | 0, m, s, b => by simp [mixAll]
  | n + 1, m, s, b => by
    rw [show n + 1 + m = (n + m) + 1 by omega]
    simp only [mixAll]
    rw [mixAll_add n m, List.drop_drop]
    congr 2; omega
theorem mixAll_take : ∀ (n : Nat) (s b c : List Nat), 64 * n ≤ b.length → mixAll s n (b ++ c) = mixAll s n b
  | 0, s, b, c, h => rfl
  | n + 1, s, b, c, h => by
    simp only [mixAll]
    rw [List.take_append_of_le_length (by omega), List.drop_append_of_le_length (by omega)]
    exact mixAll_take n _ _ c (by simp; omega)
/-- A number's bytes, the highest first. -/
def be8 (n : Nat) : List Nat := (List.range 8).map fun i => n / 256 ^ (7 - i) % 256
/-- How many noughts come behind so many bytes and one. -/
def zeros (n : Nat) : Nat := (119 - n % 64) % 64
def padT (l : List Nat) : List Nat := l ++ [128] ++ List.replicate (zeros l.length) 0 ++ be8 (8 * l.length)
theorem padT_length (l : List Nat) : (padT l).length = 64 * ((l.length + 72) / 64) := by
  simp only [padT, List.length_append, List.length_replicate, be8, List.length_map, List.length_range, List.length_cons, List.length_nil, zeros]
  omega
def outB (s : List Nat) : List Nat := (List.range 32).map fun i => s.getD (i / 4) 0 / 2 ^ (24 - 8 * (i % 4)) % 256
def dig (l : List Nat) : List Nat := outB (mixAll H256 ((l.length + 72) / 64) (padT l))
/-- What a sum that grows has of bytes: the words behind the whole blocks, and the rest. -/
def stW (l : List Nat) : List Nat := mixAll H256 (l.length / 64) l
def stR (l : List Nat) : List Nat := l.drop (64 * (l.length / 64))
theorem stR_length (l : List Nat) : (stR l).length = l.length % 64 := by simp [stR]; omega
theorem st_split (l : List Nat) : l.take (64 * (l.length / 64)) ++ stR l = l := List.take_append_drop _ _
/-- The words behind bytes that come to a rest. -/
theorem stW_add (l b : List Nat) : stW (l ++ b) = mixAll (stW l) ((stR l ++ b).length / 64) (stR l ++ b) := by
  have hl := stR_length l
  have e : (l ++ b).length / 64 = l.length / 64 + (stR l ++ b).length / 64 := by
    simp only [List.length_append, hl]; omega
  rw [stW, e, mixAll_add, mixAll_take _ _ _ _ (by omega), List.drop_append_of_le_length (by omega)]
  rfl
theorem stR_add (l b : List Nat) : stR (l ++ b) = (stR l ++ b).drop (64 * ((stR l ++ b).length / 64)) := by
  have hl := stR_length l
  have e : 64 * ((l ++ b).length / 64) = 64 * (l.length / 64) + 64 * ((stR l ++ b).length / 64) := by
    simp only [List.length_append, hl]; omega
  rw [stR, e, ← List.drop_drop, List.drop_append_of_le_length (by omega)]
  rfl
/-- The end of a sum: what is padded is the rest. -/
theorem dig_st (l : List Nat) : dig l = outB (mixAll (stW l) ((stR l).length / 64 + ((stR l ++ [128] ++ List.replicate (zeros l.length) 0 ++ be8 (8 * l.length)).length / 64)) (stR l ++ [128] ++ List.replicate (zeros l.length) 0 ++ be8 (8 * l.length))) := by
  have hl := stR_length l
  have hz : (stR l).length / 64 = 0 := by rw [hl]; omega
  rw [hz, Nat.zero_add]
  obtain ⟨e, he⟩ : ∃ e, e = [128] ++ List.replicate (zeros l.length) 0 ++ be8 (8 * l.length) := ⟨_, rfl⟩
  have hp : padT l = l ++ e := by rw [padT, he]; simp
  have hq : stR l ++ [128] ++ List.replicate (zeros l.length) 0 ++ be8 (8 * l.length) = stR l ++ e := by rw [he]; simp
  rw [hq, dig, hp]
  have hL : (l ++ e).length = 64 * ((l.length + 72) / 64) := by rw [← hp]; exact padT_length l
  have e2 : (l.length + 72) / 64 = l.length / 64 + (stR l ++ e).length / 64 := by
    simp only [List.length_append, hl] at hL ⊢; omega
  rw [e2, mixAll_add, mixAll_take _ _ _ _ (by omega), List.drop_append_of_le_length (by omega)]
  rfl
end Go.Proofs.Ytfdckjliinpjiaa

/- Digits of sixteen, plainly: there and back; which is ahead. -/
namespace Go.Proofs.Ytfdckjliinpjiaa
open Go AVL
set_option linter.unusedVariables false
set_option linter.unusedSimpArgs false

def hx (n : Nat) : Nat := if n < 10 then 48 + n else 87 + n
def hexL : List Nat → List Nat
  | [] => []
  | c :: r => hx (c / 16) :: hx (c % 16) :: hexL r
def unhx (c : Nat) : Option Nat := if 48 ≤ c ∧ c ≤ 57 then some (c - 48) else if 97 ≤ c ∧ c ≤ 102 then some (c - 87) else none
theorem unhx_hx {n : Nat} (h : n < 16) : unhx (hx n) = some n := by
  unfold hx unhx
  split
  · rw [if_pos (by omega)]; congr 1; omega
  · rw [if_neg (by omega), if_pos (by omega)]; congr 1; omega
theorem hx_unhx {c n : Nat} (h : unhx c = some n) : hx n = c ∧ n < 16 := by
  unfold unhx at h
  unfold hx
  split at h
  · injection h with h; subst h; rw [if_pos (by omega)]; omega
  · split at h
    · injection h with h; subst h; rw [if_neg (by omega)]; omega
    · cases h
@[simp] theorem hexL_length : ∀ l, (hexL l).length = 2 * l.length
  | [] => rfl
  | c :: r => by simp [hexL, hexL_length r]; omega
def byts (l : List Nat) : Prop := ∀ x ∈ l, x < 256
def parL : List Nat → Option (List Nat)
  | [] => some []
  | [_] => none
  | x :: y :: r => match unhx x, unhx y, parL r with
    | some a, some b, some l => some ((16 * a + b) :: l)
    | _, _, _ => none
theorem parL_hexL : ∀ {l : List Nat}, byts l → parL (hexL l) = some l
  | [], _ => rfl
  | c :: r, h => by
    have hc := h c (by simp)
    simp only [hexL, parL, unhx_hx (show c / 16 < 16 by omega), unhx_hx (show c % 16 < 16 by omega), parL_hexL (l := r) (fun z hz => h z (by simp [hz]))]
    congr 2; omega
theorem hexL_parL : ∀ {s l : List Nat}, parL s = some l → hexL l = s ∧ byts l
  | [], l, h => by simp only [parL] at h; injection h with h; subst h; exact ⟨rfl, by simp [byts]⟩
  | [_], l, h => by simp [parL] at h
  | x :: y :: r, l, h => by
    simp only [parL] at h
    split at h
    · rename_i a b l' h1 h2 h3
      injection h with h; subst h
      obtain ⟨e1, l1⟩ := hx_unhx h1
      obtain ⟨e2, l2⟩ := hx_unhx h2
      obtain ⟨e3, l3⟩ := hexL_parL h3
      refine ⟨?_, fun z hz => ?_⟩
      · rw [hexL, show (16 * a + b) / 16 = a by omega, show (16 * a + b) % 16 = b by omega, e1, e2, e3]
      · rcases List.mem_cons.1 hz with rfl | hz
        · omega
        · exact l3 z hz
    · cases h
theorem parL_none : ∀ {s : List Nat} (k : Nat), s.length = 2 * k → parL s = none → ∃ i, i < s.length ∧ unhx (s.getD i 0) = none
  | [], k, hk, h => by simp [parL] at h
  | [_], k, hk, h => by simp at hk; omega
  | x :: y :: r, k, hk, h => by
    simp only [parL] at h
    cases h1 : unhx x with
    | none => exact ⟨0, by simp, by simpa using h1⟩
    | some a =>
      cases h2 : unhx y with
      | none => exact ⟨1, by simp, by simpa using h2⟩
      | some b =>
        cases h3 : parL r with
        | none =>
          obtain ⟨i, hi, he⟩ := parL_none (k - 1) (by simp at hk; omega) h3
          exact ⟨i + 2, by simp; omega, by simpa using he⟩
        | some l => rw [h1, h2, h3] at h; simp at h
theorem parL_some : ∀ {s l : List Nat}, parL s = some l → s.length = 2 * l.length ∧ ∀ i, i < s.length → ∃ n, unhx (s.getD i 0) = some n ∧ n < 16
  | [], l, h => by simp only [parL] at h; injection h with h; subst h; exact ⟨rfl, by simp⟩
  | [_], l, h => by simp [parL] at h
  | x :: y :: r, l, h => by
    simp only [parL] at h
    split at h
    · rename_i a b l' h1 h2 h3
      injection h with h; subst h
      obtain ⟨e1, e2⟩ := parL_some h3
      refine ⟨by simp; omega, fun i hi => ?_⟩
      match i with
      | 0 => exact ⟨a, by simpa using h1, (hx_unhx h1).2⟩
      | 1 => exact ⟨b, by simpa using h2, (hx_unhx h2).2⟩
      | i + 2 =>
        obtain ⟨n, hn, hl⟩ := e2 i (by simp at hi; omega)
        exact ⟨n, by simpa using hn, hl⟩
    · cases h
/-- Which is ahead, byte by byte. -/
def lessL : List Nat → List Nat → Bool
  | a :: r, b :: s => if a = b then lessL r s else decide (a < b)
  | [], _ :: _ => true
  | _, [] => false
theorem hx_lt {a b : Nat} (h : a < b) (hb : b < 16) : hx a < hx b := by
  unfold hx; split <;> split <;> omega
theorem hx_inj {a b : Nat} (ha : a < 16) (hb : b < 16) (h : hx a = hx b) : a = b := by
  unfold hx at h; split at h <;> split at h <;> omega
theorem less_hex : ∀ {a b : List Nat}, byts a → byts b → a.length = b.length → lessL (hexL a) (hexL b) = lessL a b
  | [], [], _, _, _ => rfl
  | [], _ :: _, _, _, h => by simp at h
  | _ :: _, [], _, _, h => by simp at h
  | x :: a, y :: b, ha, hb, h => by
    have hx1 := ha x (by simp)
    have hy1 := hb y (by simp)
    have ih := less_hex (a := a) (b := b) (fun z hz => ha z (by simp [hz])) (fun z hz => hb z (by simp [hz])) (by simpa using h)
    simp only [hexL, lessL]
    by_cases e : x = y
    · subst e; simp [ih]
    · by_cases e1 : x / 16 = y / 16
      · have e2 : x % 16 ≠ y % 16 := by omega
        have e3 : hx (x % 16) ≠ hx (y % 16) := fun h => e2 (hx_inj (by omega) (by omega) h)
        rw [e1, if_pos rfl, if_neg e3, if_neg e]
        congr 1
        apply propext
        constructor
        · intro hlt
          rcases Nat.lt_or_ge (x % 16) (y % 16) with h' | h'
          · omega
          · have := hx_lt (show y % 16 < x % 16 by omega) (by omega); omega
        · intro hlt
          exact hx_lt (by omega) (by omega)
      · have e3 : hx (x / 16) ≠ hx (y / 16) := fun h => e1 (hx_inj (by omega) (by omega) h)
        rw [if_neg e3, if_neg e]
        congr 1
        apply propext
        constructor
        · intro hlt
          rcases Nat.lt_or_ge (x / 16) (y / 16) with h' | h'
          · omega
          · have := hx_lt (show y / 16 < x / 16 by omega) (by omega); omega
        · intro hlt
          exact hx_lt (by omega) (by omega)
end Go.Proofs.Ytfdckjliinpjiaa

/- The walks of the digest's words: spin, spread, and the reference's right and words. -/
namespace Go.Proofs.Ytfdckjliinpjiaa
open Go AVL
set_option linter.unusedVariables false
set_option linter.unusedSimpArgs false
set_option maxRecDepth 4000

theorem shl32 {x : Nat} {n m : Nat} (hm : m ≤ 32) {k : Int} (hk : k = m) : shlI .u32 (x : Int) k = ((x * 2 ^ m % W32 : Nat) : Int) := by
  subst hk
  unfold shlI
  rw [Int.toNat_natCast, show min m IntKind.u32.bits = m from Nat.min_eq_left hm, wrap_u32m]
  have := (Int.natCast_emod (x * 2 ^ m) 4294967296).symm
  rw [Int.natCast_mul, Int.natCast_pow] at this
  exact this
theorem shr32 {x : Nat} {m : Nat} (hm : m ≤ 32) {k : Int} (hk : k = m) : shrI .u32 (x : Int) k = ((x / 2 ^ m : Nat) : Int) := by
  subst hk
  rw [shrI_nat, show min m IntKind.u32.bits = m from Nat.min_eq_left hm]
theorem rot_or {x m : Nat} (hx : x < W32) : bOr .u32 ((x / 2 ^ m : Nat) : Int) ((x * 2 ^ (32 - m) % W32 : Nat) : Int) = ((rot x m : Nat) : Int) :=
  bOr_nat rfl (Nat.lt_of_le_of_lt (Nat.div_le_self _ _) hx) (Nat.mod_lt _ (by decide))
theorem w_spin {x m : Nat} {n : Int} (hx : x < W32) (hm : 0 < m ∧ m < 32) (hn : n = m) : Gives Try.prog F_digest_spin [.int .u32 x, .int .i64 n] (.int .u32 (rot x m)) := by
  refine v_digest_spin (by simp) ?_
  have e1 := shr32 (x := x) (m := m) (by omega) hn
  have e2 : IntKind.i64.wrap (32 - n) = ((32 - m : Nat) : Int) := by rw [wrap_i64 (by omega)]; omega
  have e3 := shl32 (x := x) (n := 0) (m := 32 - m) (by omega) (k := ((32 - m : Nat) : Int)) rfl
  have e4 := rot_or (m := m) hx
  obtain ⟨p, hp⟩ : ∃ p, x / 2 ^ m = p := ⟨_, rfl⟩
  obtain ⟨q, hq⟩ : ∃ q, x * 2 ^ (32 - m) % W32 = q := ⟨_, rfl⟩
  obtain ⟨s, hs⟩ : ∃ s, 32 - m = s := ⟨_, rfl⟩
  rw [hs] at e2 e3 e4 hq
  rw [hp] at e1 e4
  rw [hq] at e3 e4
  have n0 : 0 ≤ n := by omega
  simp -implicitDefEqProofs [a_digest_spin, q_digest_spin_0, q_digest_spin_1, e1, e2, e3, e4, n0]
theorem w_right {x m : Nat} {n : Int} (hx : x < W32) (hm : 0 < m ∧ m < 32) (hn : n = m) : Gives Try.prog F_ref03_right [.int .u32 x, .int .u64 n] (.int .u32 (rot x m)) := by
  refine v_ref03_right (by simp) ?_
  have e1 := shr32 (x := x) (m := m) (by omega) hn
  have e2 : IntKind.u64.wrap (32 - n) = ((32 - m : Nat) : Int) := by rw [wrap_u64 (by omega)]; omega
  have e3 := shl32 (x := x) (n := 0) (m := 32 - m) (by omega) (k := ((32 - m : Nat) : Int)) rfl
  have e4 := rot_or (m := m) hx
  obtain ⟨p, hp⟩ : ∃ p, x / 2 ^ m = p := ⟨_, rfl⟩
  obtain ⟨q, hq⟩ : ∃ q, x * 2 ^ (32 - m) % W32 = q := ⟨_, rfl⟩
  obtain ⟨s, hs⟩ : ∃ s, 32 - m = s := ⟨_, rfl⟩
  rw [hs] at e2 e3 e4 hq
  rw [hp] at e1 e4
  rw [hq] at e3 e4
  have n0 : 0 ≤ n := by omega
  simp -implicitDefEqProofs [a_ref03_right, q_ref03_right_0, q_ref03_right_1, e1, e2, e3, e4, n0]
/-- A row that is filled from the left. -/
theorem fill_setN {l : List Nat} {i n : Nat} (h : i < l.length) (hn : l.length ≤ n) : (l.take i ++ List.replicate (n - i) 0).set i l[i] = l.take (i + 1) ++ List.replicate (n - (i + 1)) 0 := by
  rw [show n - i = (n - (i + 1)) + 1 by omega, List.replicate_succ, List.set_append_right _ _ (by simp; omega), List.length_take, show i - min i l.length = 0 by omega]
  simp only [List.set_cons_zero]
  rw [List.take_succ_eq_append_getElem h, List.append_assoc]; rfl
theorem fill_app {l : List Nat} {i n x : Nat} (h : l.length = i) (hn : i < n) : (l ++ List.replicate (n - i) 0).set i x = l ++ [x] ++ List.replicate (n - (i + 1)) 0 := by
  rw [show n - i = (n - (i + 1)) + 1 by omega, List.replicate_succ, List.set_append_right _ _ (by omega), h, Nat.sub_self]
  simp
theorem bits32 {x : Nat} (h : x < 4294967296) : x < 2 ^ IntKind.u32.bits := by
  have : (2 : Nat) ^ IntKind.u32.bits = 4294967296 := by simp [IntKind.bits]
  rw [this]; exact h
theorem or4 {a b c d : Nat} (ha : a < 256) (hb : b < 256) (hc : c < 256) (hd : d < 256) :
    bOr .u32 (bOr .u32 (bOr .u32 ((a * 16777216 : Nat) : Int) ((b * 65536 : Nat) : Int)) ((c * 256 : Nat) : Int)) (d : Int) = ((a * 16777216 + b * 65536 + c * 256 + d : Nat) : Int) := by
  have key : ∀ (x y k : Nat), y < 2 ^ k → x * 2 ^ k ||| y = x * 2 ^ k + y := fun x y k hy => by
    have := Nat.two_pow_add_eq_or_of_lt (i := k) (b := y) hy x
    rw [Nat.mul_comm]; exact this.symm
  have h1 : a * 16777216 ||| b * 65536 = a * 16777216 + b * 65536 := by
    have := key a (b * 65536) 24 (by omega); simpa using this
  have h2 : a * 16777216 + b * 65536 ||| c * 256 = a * 16777216 + b * 65536 + c * 256 := by
    have := key (a * 256 + b) (c * 256) 16 (by omega)
    rw [show (a * 256 + b) * 2 ^ 16 = a * 16777216 + b * 65536 by omega] at this; exact this
  have h3 : a * 16777216 + b * 65536 + c * 256 ||| d = a * 16777216 + b * 65536 + c * 256 + d := by
    have := key (a * 65536 + b * 256 + c) d 8 (by omega)
    rw [show (a * 65536 + b * 256 + c) * 2 ^ 8 = a * 16777216 + b * 65536 + c * 256 by omega] at this; exact this
  have z1 := bOr_nat (k := .u32) rfl (bits32 (show a * 16777216 < 4294967296 by omega)) (bits32 (show b * 65536 < 4294967296 by omega))
  have z2 := bOr_nat (k := .u32) rfl (bits32 (show a * 16777216 + b * 65536 < 4294967296 by omega)) (bits32 (show c * 256 < 4294967296 by omega))
  have z3 := bOr_nat (k := .u32) rfl (bits32 (show a * 16777216 + b * 65536 + c * 256 < 4294967296 by omega)) (bits32 (show d < 4294967296 by omega))
  rw [z1, h1, z2, h2, z3, h3]
/-- A word of four bytes, as either side makes it. -/
theorem word_of {a b c d : Nat} (ha : a < 256) (hb : b < 256) (hc : c < 256) (hd : d < 256) :
    bOr .u32 (bOr .u32 (bOr .u32 (shlI .u32 (a : Int) 24) (shlI .u32 (b : Int) 16)) (shlI .u32 (c : Int) 8)) (d : Int) = ((a * 16777216 + b * 65536 + c * 256 + d : Nat) : Int) := by
  rw [shl32 (m := 24) (n := 0) (by omega) (k := 24) rfl, shl32 (m := 16) (n := 0) (by omega) (k := 16) rfl, shl32 (m := 8) (n := 0) (by omega) (k := 8) rfl,
    show a * 2 ^ 24 % W32 = a * 16777216 from Nat.mod_eq_of_lt (by show _ < 4294967296; omega), show b * 2 ^ 16 % W32 = b * 65536 from Nat.mod_eq_of_lt (by show _ < 4294967296; omega), show c * 2 ^ 8 % W32 = c * 256 from Nat.mod_eq_of_lt (by show _ < 4294967296; omega)]
  exact or4 ha hb hc hd
theorem first16_get (b : List Nat) {i : Nat} (hi : i < 16) (hl : 4 * i + 3 < b.length) (h : i < (first16 b).length) : (first16 b)[i] = b[4 * i] * 16777216 + b[4 * i + 1] * 65536 + b[4 * i + 2] * 256 + b[4 * i + 3] := by
  simp [first16, word4, List.getD_eq_getElem?_getD, show 4 * i < b.length by omega, show 4 * i + 1 < b.length by omega, show 4 * i + 2 < b.length by omega, hl]
theorem sg0_of {x : Nat} (hx : x < W32) : bXor .u32 (bXor .u32 ((rot x 7 : Nat) : Int) ((rot x 18 : Nat) : Int)) (shrI .u32 (x : Int) 3) = ((sg0 x : Nat) : Int) := by
  rw [shr32 (m := 3) (by omega) (k := 3) rfl, bXor_nat rfl (bits32 (rot_lt 7 hx)) (bits32 (rot_lt 18 hx)), bXor_nat rfl (Nat.xor_lt_two_pow (bits32 (rot_lt 7 hx)) (bits32 (rot_lt 18 hx))) (bits32 (Nat.lt_of_le_of_lt (Nat.div_le_self _ _) hx))]
  rfl
theorem sg1_of {x : Nat} (hx : x < W32) : bXor .u32 (bXor .u32 ((rot x 17 : Nat) : Int) ((rot x 19 : Nat) : Int)) (shrI .u32 (x : Int) 10) = ((sg1 x : Nat) : Int) := by
  rw [shr32 (m := 10) (by omega) (k := 10) rfl, bXor_nat rfl (bits32 (rot_lt 17 hx)) (bits32 (rot_lt 19 hx)), bXor_nat rfl (Nat.xor_lt_two_pow (bits32 (rot_lt 17 hx)) (bits32 (rot_lt 19 hx))) (bits32 (Nat.lt_of_le_of_lt (Nat.div_le_self _ _) hx))]
  rfl
theorem add4_of (a b c d : Nat) : IntKind.u32.wrap (IntKind.u32.wrap (IntKind.u32.wrap ((a : Int) + (b : Int)) + (c : Int)) + (d : Int)) = (((a + b + c + d) % W32 : Nat) : Int) := by
  rw [wrap_u32m, wrap_u32m, wrap_u32m]
  show _ = (((a + b + c + d) % 4294967296 : Nat) : Int)
  omega
theorem wsN_words {b : List Nat} (hb : byts b) : ∀ j, Words (wsN b j)
  | 0 => by
    intro x hx
    simp only [wsN, first16, List.mem_map, List.mem_range] at hx
    obtain ⟨i, hi, rfl⟩ := hx
    have g : ∀ k, b.getD k 0 < 256 := fun k => by
      rw [List.getD_eq_getElem?_getD]
      cases h : b[k]? with
      | none => simp
      | some y => simpa using hb y (List.mem_of_getElem? h)
    have h0 := g (4 * i); have h1 := g (4 * i + 1); have h2 := g (4 * i + 2); have h3 := g (4 * i + 3)
    show word4 b i < 4294967296
    unfold word4
    omega
  | j + 1 => by
    intro x hx
    simp only [wsN, List.mem_append, List.mem_singleton] at hx
    rcases hx with hx | rfl
    · exact wsN_words hb j x hx
    · exact Nat.mod_lt _ (by decide)
theorem words_getD {l : List Nat} (h : Words l) (k : Nat) : l.getD k 0 < W32 := by
  rw [List.getD_eq_getElem?_getD]
  cases hh : l[k]? with
  | none => simp
  | some y => simpa using h y (List.mem_of_getElem? hh)
set_option maxHeartbeats 1000000 in
theorem spread_L12 {b : List Nat} (hb : byts b) {g2 g3 : Nat} (n1 : ¬g3 = g2) (n2 : ¬g2 = g3) {env : AEnv} (e2 : env 2 = .ptr g2 0) (e3 : env 3 = .ptr g3 0) (e5 : env 5 = .int .i64 16) :
    X Try.prog (fin [ARes.cell 2 (.ia .u32 64) 64] (.iarr .u32 64 (ints (wsN b 48)))) (.loop q_digest_spread_L12) (Kt.blk 2 (Kt.thn ((ACode.region q_digest_spread_12).seq ACode.ret) Kt.done)) env
      ((H0.set g2 (.var T_64_uint32 [.iarr .u32 64 (List.replicate 64 0)])).set g3 (.var T_64_uint32 [.iarr .u32 64 (ints (wsN b 0 ++ List.replicate (48 - 0) 0))])) := by
  refine X_lp (fun (j : Nat) env B => j ≤ 48 ∧ env 2 = .ptr g2 0 ∧ env 3 = .ptr g3 0 ∧ env 5 = .int .i64 (16 + j : Nat) ∧ B = (H0.set g2 (.var T_64_uint32 [.iarr .u32 64 (List.replicate 64 0)])).set g3 (.var T_64_uint32 [.iarr .u32 64 (ints (wsN b j ++ List.replicate (48 - j) 0))])) (fun j => 48 - j) 0
    ⟨by omega, by simp [e2], by simp [e3], by simp [e5], rfl⟩ ?_
  rintro j env B ⟨hj, e2, e3, e5, rfl⟩
  simp -implicitDefEqProofs [q_digest_spread_L12, q_digest_spread_8, e2, e3, e5, -List.reduceReplicate]
  refine ⟨fun hjl => ?_, fun hjl => ?_⟩
  · have hwl := wsN_length b j
    have q16 : IntKind.i64.wrap (16 + (j : Int) - 16) = ((j : Nat) : Int) := by rw [wrap_i64 (by omega)]; omega
    have q15 : IntKind.i64.wrap (16 + (j : Int) - 15) = ((j + 1 : Nat) : Int) := by rw [wrap_i64 (by omega)]; omega
    have q7 : IntKind.i64.wrap (16 + (j : Int) - 7) = ((j + 9 : Nat) : Int) := by rw [wrap_i64 (by omega)]; omega
    have q2 : IntKind.i64.wrap (16 + (j : Int) - 2) = ((j + 14 : Nat) : Int) := by rw [wrap_i64 (by omega)]; omega
    have q1 : IntKind.i64.wrap (16 + (j : Int) + 1) = ((16 + (j + 1) : Nat) : Int) := by rw [wrap_i64 (by omega)]; omega
    obtain ⟨L, hL⟩ : ∃ L, wsN b j ++ List.replicate (48 - j) 0 = L := ⟨_, rfl⟩
    have hLl : L.length = 64 := by rw [← hL]; simp; omega
    rw [hL]
    have rd : ∀ k, k < 16 + j → L[k]?.getD 0 = (wsN b j).getD k 0 := fun k hk => by
      rw [← hL, List.getElem?_append_left (by omega), List.getD_eq_getElem?_getD]
    have hw := wsN_words hb j
    have hN : nextW (wsN b j) j = ((wsN b j).getD j 0 + sg0 ((wsN b j).getD (j + 1) 0) + (wsN b j).getD (j + 9) 0 + sg1 ((wsN b j).getD (j + 14) 0)) % W32 := rfl
    have a0 := words_getD hw j; have a1 := words_getD hw (j + 1); have a9 := words_getD hw (j + 9); have a14 := words_getD hw (j + 14)
    have r0 := rd j (by omega); have r1 := rd (j + 1) (by omega); have r9 := rd (j + 9) (by omega); have r14 := rd (j + 14) (by omega)
    obtain ⟨x0, h0⟩ : ∃ x, (wsN b j).getD j 0 = x := ⟨_, rfl⟩
    obtain ⟨x1, h1⟩ : ∃ x, (wsN b j).getD (j + 1) 0 = x := ⟨_, rfl⟩
    obtain ⟨x9, h9⟩ : ∃ x, (wsN b j).getD (j + 9) 0 = x := ⟨_, rfl⟩
    obtain ⟨x14, h14⟩ : ∃ x, (wsN b j).getD (j + 14) 0 = x := ⟨_, rfl⟩
    rw [h0, h1, h9, h14] at hN
    rw [h0] at a0 r0; rw [h1] at a1 r1; rw [h9] at a9 r9; rw [h14] at a14 r14
    have t1 : ((j : Int) + 1).toNat = j + 1 := by omega
    have t9 : ((j : Int) + 9).toNat = j + 9 := by omega
    have t14 : ((j : Int) + 14).toNat = j + 14 := by omega
    simp -implicitDefEqProofs [q_digest_spread_9, q_digest_spread_10, q_digest_spread_11, e2, e3, e5, q16, q15, q7, q2, q1, hLl, t1, t9, t14, r0, r1, r9, r14, -List.reduceReplicate]
    refine ⟨by omega, by omega, by omega, by omega, by omega, by omega, by omega, ?_⟩
    refine (w_spin a1 (m := 7) (by omega) rfl).call (.cons (.refl _) rfl (.cons (.refl _) rfl .nil)) rfl ?_
    simp -implicitDefEqProofs [Sub_refl]
    refine (w_spin a1 (m := 18) (by omega) rfl).call (.cons (.refl _) rfl (.cons (.refl _) rfl .nil)) rfl ?_
    simp -implicitDefEqProofs [Sub_refl, sg0_of a1]
    refine (w_spin a14 (m := 17) (by omega) rfl).call (.cons (.refl _) rfl (.cons (.refl _) rfl .nil)) rfl ?_
    simp -implicitDefEqProofs [Sub_refl]
    refine (w_spin a14 (m := 19) (by omega) rfl).call (.cons (.refl _) rfl (.cons (.refl _) rfl .nil)) rfl ?_
    have hq := add4_of x0 (sg0 x1) x9 (sg1 x14)
    obtain ⟨y, hy⟩ : ∃ y, nextW (wsN b j) j = y := ⟨_, rfl⟩
    rw [← hN, hy] at hq
    have t16 : (16 + (j : Int)).toNat = 16 + j := by omega
    have hset : L.set (16 + j) y = wsN b (j + 1) ++ List.replicate (47 - j) 0 := by
      have := fill_app (x := nextW (wsN b j) j) hwl (show 16 + j < 64 by omega)
      rw [show 64 - (16 + j) = 48 - j by omega, hL, show 64 - (16 + j + 1) = 47 - j by omega, hy] at this
      rw [this, ← hy]; rfl
    simp -implicitDefEqProofs [Sub_refl, sg1_of a14, e3, e5, hLl, hq, q1, t16, hset, -List.reduceReplicate]
    refine ⟨by omega, by omega, ?_⟩
    refine lp_next (j + 1) ⟨by omega, by simp [e2], by simp [e3], ?_, by rw [show 48 - (j + 1) = 47 - j by omega]⟩ (by omega)
    simp
    try omega
  · have hje : j = 48 := by omega
    subst hje
    simp -implicitDefEqProofs [q_digest_spread_12, e2, e3, n1, n2, outOf, -List.reduceReplicate]
theorem w_digest_spread {b : List Nat} (hb : byts b) (hl : b.length = 64) : Gives Try.prog F_digest_spread [.isl .u8 (ints b)] (.iarr .u32 64 (ints (wsN b 48))) := by
  refine v_digest_spread (by simp) ?_
  simp -implicitDefEqProofs [a_digest_spread, q_digest_spread_0, q_digest_spread_1, q_digest_spread_2, -List.reduceReplicate]
  intro g2 g3 n1 n2
  have h0 : List.replicate 64 (0 : Int) = ints ((first16 b).take 0 ++ List.replicate (64 - 0) 0) := by rw [List.take_zero, List.nil_append]; exact (List.map_replicate (f := fun (n : Nat) => (n : Int))).symm
  have hf : (first16 b).length = 16 := by simp [first16]
  refine X_lp (fun (i : Nat) env B => i ≤ 16 ∧ env 0 = .isl .u8 (ints b) ∧ env 2 = .ptr g2 0 ∧ env 3 = .ptr g3 0 ∧ env 8 = .int .i64 i ∧ B = (H0.set g2 (.var T_64_uint32 [.iarr .u32 64 (List.replicate 64 0)])).set g3 (.var T_64_uint32 [.iarr .u32 64 (ints ((first16 b).take i ++ List.replicate (64 - i) 0))])) (fun i => 16 - i) 0
    ⟨by omega, by simp, by simp, by simp, by simp, by rw [← h0]⟩ ?_
  · rintro i env B ⟨hi, e0, e2, e3, e8, rfl⟩
    simp -implicitDefEqProofs [q_digest_spread_L7, q_digest_spread_3, e0, e2, e3, e8, -List.reduceReplicate]
    refine ⟨fun hil => ?_, fun hil => ?_⟩
    · have i0 : 4 * i < b.length := by omega
      have i1 : 4 * i + 1 < b.length := by omega
      have i2 : 4 * i + 2 < b.length := by omega
      have i3 : 4 * i + 3 < b.length := by omega
      have w0 : IntKind.i64.wrap (4 * (i : Int)) = 4 * (i : Int) := wrap_i64 (by omega)
      have w1 : IntKind.i64.wrap (4 * (i : Int) + 1) = 4 * (i : Int) + 1 := wrap_i64 (by omega)
      have w2 : IntKind.i64.wrap (4 * (i : Int) + 2) = 4 * (i : Int) + 2 := wrap_i64 (by omega)
      have w3 : IntKind.i64.wrap (4 * (i : Int) + 3) = 4 * (i : Int) + 3 := wrap_i64 (by omega)
      have t0 : (4 * (i : Int)).toNat = 4 * i := by omega
      have t1 : (4 * (i : Int) + 1).toNat = 4 * i + 1 := by omega
      have t2 : (4 * (i : Int) + 2).toNat = 4 * i + 2 := by omega
      have t3 : (4 * (i : Int) + 3).toNat = 4 * i + 3 := by omega
      have c0 := hb _ (List.getElem_mem i0)
      have c1 := hb _ (List.getElem_mem i1)
      have c2 := hb _ (List.getElem_mem i2)
      have c3 := hb _ (List.getElem_mem i3)
      have i16 : i < (first16 b).length := by omega
      have hw := word_of c0 c1 c2 c3
      rw [← first16_get b (by omega) i3 i16] at hw
      have y0 : IntKind.u32.wrap ((b[4 * i] : Nat) : Int) = ((b[4 * i] : Nat) : Int) := wrap_u32 (by omega)
      have y1 : IntKind.u32.wrap ((b[4 * i + 1] : Nat) : Int) = ((b[4 * i + 1] : Nat) : Int) := wrap_u32 (by omega)
      have y2 : IntKind.u32.wrap ((b[4 * i + 2] : Nat) : Int) = ((b[4 * i + 2] : Nat) : Int) := wrap_u32 (by omega)
      have y3 : IntKind.u32.wrap ((b[4 * i + 3] : Nat) : Int) = ((b[4 * i + 3] : Nat) : Int) := wrap_u32 (by omega)
      have hfs := fill_setN i16 (show (first16 b).length ≤ 64 by omega)
      have wi : IntKind.i64.wrap ((i : Int) + 1) = (i : Int) + 1 := wrap_i64 (by omega)
      simp -implicitDefEqProofs [q_digest_spread_4, q_digest_spread_5, q_digest_spread_6, e0, e2, e3, e8, w0, w1, w2, w3, t0, t1, t2, t3, i0, i1, i2, i3, hil, y0, y1, y2, y3, hw, hfs, wi, -List.reduceReplicate]
      refine ⟨by omega, by omega, by omega, by omega, by omega, by omega, by omega, by omega, by omega, by rw [hf]; omega, ?_⟩
      exact lp_next (i + 1) ⟨by omega, by simp [e0], by simp [e2], by simp [e3], by simp, by rw [show 64 - (i + 1) = 63 - i by omega]⟩ (by omega)
    · have hie : i = 16 := by omega
      subst hie
      have hws : (first16 b).take 16 ++ List.replicate (64 - 16) 0 = wsN b 0 ++ List.replicate (48 - 0) 0 := by rw [List.take_of_length_le (by omega)]; rfl
      rw [hws]
      simp -implicitDefEqProofs [q_digest_spread_7, -List.reduceReplicate]
      refine spread_L12 hb n1 n2 ?_ ?_ ?_
      · simp [e2]
      · simp [e3]
      · simp
end Go.Proofs.Ytfdckjliinpjiaa

/- The walk of the reference's words. -/
namespace Go.Proofs.Ytfdckjliinpjiaa
open Go AVL
set_option linter.unusedVariables false
set_option linter.unusedSimpArgs false
set_option maxRecDepth 4000

theorem add4_mul {a b c d : Nat} (ha : a < 256) (hb : b < 256) (hc : c < 256) (hd : d < 256) :
    IntKind.u32.wrap (IntKind.u32.wrap (IntKind.u32.wrap (IntKind.u32.wrap ((a : Int) * 16777216) + IntKind.u32.wrap ((b : Int) * 65536)) + IntKind.u32.wrap ((c : Int) * 256)) + (d : Int)) = ((a * 16777216 + b * 65536 + c * 256 + d : Nat) : Int) := by
  rw [wrap_u32 (n := (a : Int) * 16777216) (by omega), wrap_u32 (n := (b : Int) * 65536) (by omega), wrap_u32 (n := (c : Int) * 256) (by omega), wrap_u32 (n := (a : Int) * 16777216 + (b : Int) * 65536) (by omega),
    wrap_u32 (n := (a : Int) * 16777216 + (b : Int) * 65536 + (c : Int) * 256) (by omega), wrap_u32 (by omega)]
  omega
set_option maxHeartbeats 1000000 in
theorem words_L12 {b : List Nat} (hb : byts b) {g4 g5 : Nat} (n1 : ¬g5 = g4) (n2 : ¬g4 = g5) {env : AEnv} (e4 : env 4 = .ptr g4 0) (e5 : env 5 = .ptr g5 0) (e7 : env 7 = .int .i64 16) :
    X Try.prog (fin [ARes.cell 4 (.ia .u32 64) 64] (.iarr .u32 64 (ints (wsN b 48)))) (.loop q_ref03_words_L12) (Kt.blk 2 (Kt.thn ((ACode.region q_ref03_words_12).seq ACode.ret) Kt.done)) env
      ((H0.set g4 (.var T_64_uint32 [.iarr .u32 64 (List.replicate 64 0)])).set g5 (.var T_64_uint32 [.iarr .u32 64 (ints (wsN b 0 ++ List.replicate (48 - 0) 0))])) := by
  refine X_lp (fun (j : Nat) env B => j ≤ 48 ∧ env 4 = .ptr g4 0 ∧ env 5 = .ptr g5 0 ∧ env 7 = .int .i64 (16 + j : Nat) ∧ B = (H0.set g4 (.var T_64_uint32 [.iarr .u32 64 (List.replicate 64 0)])).set g5 (.var T_64_uint32 [.iarr .u32 64 (ints (wsN b j ++ List.replicate (48 - j) 0))])) (fun j => 48 - j) 0
    ⟨by omega, by simp [e4], by simp [e5], by simp [e7], rfl⟩ ?_
  rintro j env B ⟨hj, e4, e5, e7, rfl⟩
  simp -implicitDefEqProofs [q_ref03_words_L12, q_ref03_words_7, e4, e5, e7, -List.reduceReplicate]
  refine ⟨fun hjl => ?_, fun hjl => ?_⟩
  · have hwl := wsN_length b j
    have q16 : IntKind.i64.wrap (16 + (j : Int) - 16) = ((j : Nat) : Int) := by rw [wrap_i64 (by omega)]; omega
    have q15 : IntKind.i64.wrap (16 + (j : Int) - 15) = ((j + 1 : Nat) : Int) := by rw [wrap_i64 (by omega)]; omega
    have q7 : IntKind.i64.wrap (16 + (j : Int) - 7) = ((j + 9 : Nat) : Int) := by rw [wrap_i64 (by omega)]; omega
    have q2 : IntKind.i64.wrap (16 + (j : Int) - 2) = ((j + 14 : Nat) : Int) := by rw [wrap_i64 (by omega)]; omega
    have q1 : IntKind.i64.wrap (16 + (j : Int) + 1) = ((16 + (j + 1) : Nat) : Int) := by rw [wrap_i64 (by omega)]; omega
    obtain ⟨L, hL⟩ : ∃ L, wsN b j ++ List.replicate (48 - j) 0 = L := ⟨_, rfl⟩
    have hLl : L.length = 64 := by rw [← hL]; simp; omega
    rw [hL]
    have rd : ∀ k, k < 16 + j → L[k]?.getD 0 = (wsN b j).getD k 0 := fun k hk => by
      rw [← hL, List.getElem?_append_left (by omega), List.getD_eq_getElem?_getD]
    have hw := wsN_words hb j
    have hN : nextW (wsN b j) j = ((wsN b j).getD j 0 + sg0 ((wsN b j).getD (j + 1) 0) + (wsN b j).getD (j + 9) 0 + sg1 ((wsN b j).getD (j + 14) 0)) % W32 := rfl
    have a0 := words_getD hw j; have a1 := words_getD hw (j + 1); have a9 := words_getD hw (j + 9); have a14 := words_getD hw (j + 14)
    have r0 := rd j (by omega); have r1 := rd (j + 1) (by omega); have r9 := rd (j + 9) (by omega); have r14 := rd (j + 14) (by omega)
    obtain ⟨x0, h0⟩ : ∃ x, (wsN b j).getD j 0 = x := ⟨_, rfl⟩
    obtain ⟨x1, h1⟩ : ∃ x, (wsN b j).getD (j + 1) 0 = x := ⟨_, rfl⟩
    obtain ⟨x9, h9⟩ : ∃ x, (wsN b j).getD (j + 9) 0 = x := ⟨_, rfl⟩
    obtain ⟨x14, h14⟩ : ∃ x, (wsN b j).getD (j + 14) 0 = x := ⟨_, rfl⟩
    rw [h0, h1, h9, h14] at hN
    rw [h0] at a0 r0; rw [h1] at a1 r1; rw [h9] at a9 r9; rw [h14] at a14 r14
    have t1 : ((j : Int) + 1).toNat = j + 1 := by omega
    have t9 : ((j : Int) + 9).toNat = j + 9 := by omega
    have t14 : ((j : Int) + 14).toNat = j + 14 := by omega
    have b1 : (j : Int) + 1 < 64 := by omega
    have b9 : (j : Int) + 9 < 64 := by omega
    have b14 : (j : Int) + 14 < 64 := by omega
    have b0 : (j : Int) < 64 := by omega
    have p1 : 0 ≤ (j : Int) + 1 := by omega
    have p9 : 0 ≤ (j : Int) + 9 := by omega
    have p14 : 0 ≤ (j : Int) + 14 := by omega
    simp -implicitDefEqProofs [q_ref03_words_8, e4, e5, e7, q15, hLl, t1, r1, b1, p1, -List.reduceReplicate]
    refine (w_right a1 (m := 7) (by omega) rfl).call (.cons (.refl _) rfl (.cons (.refl _) rfl .nil)) rfl ?_
    simp -implicitDefEqProofs [Sub_refl, -List.reduceReplicate]
    refine (w_right a1 (m := 18) (by omega) rfl).call (.cons (.refl _) rfl (.cons (.refl _) rfl .nil)) rfl ?_
    simp -implicitDefEqProofs [Sub_refl, sg0_of a1, q_ref03_words_9, e5, e7, q2, hLl, t14, r14, b14, p14, -List.reduceReplicate]
    refine (w_right a14 (m := 17) (by omega) rfl).call (.cons (.refl _) rfl (.cons (.refl _) rfl .nil)) rfl ?_
    simp -implicitDefEqProofs [Sub_refl, -List.reduceReplicate]
    refine (w_right a14 (m := 19) (by omega) rfl).call (.cons (.refl _) rfl (.cons (.refl _) rfl .nil)) rfl ?_
    have hq := add4_of x0 (sg0 x1) x9 (sg1 x14)
    obtain ⟨y, hy⟩ : ∃ y, nextW (wsN b j) j = y := ⟨_, rfl⟩
    rw [← hN, hy] at hq
    have t16 : (16 + (j : Int)).toNat = 16 + j := by omega
    have hset : L.set (16 + j) y = wsN b (j + 1) ++ List.replicate (47 - j) 0 := by
      have := fill_app (x := nextW (wsN b j) j) hwl (show 16 + j < 64 by omega)
      rw [show 64 - (16 + j) = 48 - j by omega, hL, show 64 - (16 + j + 1) = 47 - j by omega, hy] at this
      rw [this, ← hy]; rfl
    simp -implicitDefEqProofs [Sub_refl, sg1_of a14, q_ref03_words_10, q_ref03_words_11, e5, e7, hLl, hq, q1, q16, q7, t9, r9, r0, b0, b9, p9, t16, hset, -List.reduceReplicate]
    refine ⟨by omega, by omega, ?_⟩
    refine lp_next (j + 1) ⟨by omega, by simp [e4], by simp [e5], ?_, by rw [show 48 - (j + 1) = 47 - j by omega]⟩ (by omega)
    simp
    try omega
  · have hje : j = 48 := by omega
    subst hje
    simp -implicitDefEqProofs [q_ref03_words_12, e4, e5, n1, n2, outOf, -List.reduceReplicate]
set_option maxHeartbeats 1000000 in
/-- The words of the block that begins in a place. -/
theorem w_ref03_words {t b : List Nat} {at' : Nat} (ht : byts t) (hl : at' + 64 ≤ t.length) (hb : b = (t.drop at').take 64) (hm : t.length < 2 ^ 40) : Gives Try.prog F_ref03_words [.isl .u8 (ints t), .int .i64 at'] (.iarr .u32 64 (ints (wsN b 48))) := by
  have hbb : byts b := fun x hx => ht x (List.mem_of_mem_drop (List.mem_of_mem_take (hb ▸ hx)))
  have hbl : b.length = 64 := by rw [hb]; simp; omega
  have get : ∀ k (h : at' + k < t.length) (h' : k < b.length), b[k] = t[at' + k] := fun k h h' => by subst hb; simp
  refine v_ref03_words (by simp) ?_
  simp -implicitDefEqProofs [a_ref03_words, q_ref03_words_0, q_ref03_words_1, q_ref03_words_2, -List.reduceReplicate]
  intro g4 g5 n1 n2
  have h0 : List.replicate 64 (0 : Int) = ints ((first16 b).take 0 ++ List.replicate (64 - 0) 0) := by rw [List.take_zero, List.nil_append]; exact (List.map_replicate (f := fun (n : Nat) => (n : Int))).symm
  have hf : (first16 b).length = 16 := by simp [first16]
  refine X_lp (fun (i : Nat) env B => i ≤ 16 ∧ env 0 = .isl .u8 (ints t) ∧ env 1 = .int .i64 at' ∧ env 4 = .ptr g4 0 ∧ env 5 = .ptr g5 0 ∧ env 6 = .int .i64 i ∧ B = (H0.set g4 (.var T_64_uint32 [.iarr .u32 64 (List.replicate 64 0)])).set g5 (.var T_64_uint32 [.iarr .u32 64 (ints ((first16 b).take i ++ List.replicate (64 - i) 0))])) (fun i => 16 - i) 0
    ⟨by omega, by simp, by simp, by simp, by simp, by simp, by rw [← h0]⟩ ?_
  rintro i env B ⟨hi, e0, e1, e4, e5, e6, rfl⟩
  simp -implicitDefEqProofs [q_ref03_words_L6, q_ref03_words_3, e0, e1, e4, e5, e6, -List.reduceReplicate]
  refine ⟨fun hil => ?_, fun hil => ?_⟩
  · have k0 : 4 * i < b.length := by omega
    have k1 : 4 * i + 1 < b.length := by omega
    have k2 : 4 * i + 2 < b.length := by omega
    have k3 : 4 * i + 3 < b.length := by omega
    have i0 : at' + 4 * i < t.length := by omega
    have i1 : at' + 4 * i + 1 < t.length := by omega
    have i2 : at' + 4 * i + 2 < t.length := by omega
    have i3 : at' + 4 * i + 3 < t.length := by omega
    have w0 : IntKind.i64.wrap (4 * (i : Int)) = 4 * (i : Int) := wrap_i64 (by omega)
    have wa : IntKind.i64.wrap ((at' : Int) + 4 * (i : Int)) = (at' : Int) + 4 * (i : Int) := wrap_i64 (by omega)
    have w1 : IntKind.i64.wrap ((at' : Int) + 4 * (i : Int) + 1) = (at' : Int) + 4 * (i : Int) + 1 := wrap_i64 (by omega)
    have w2 : IntKind.i64.wrap ((at' : Int) + 4 * (i : Int) + 2) = (at' : Int) + 4 * (i : Int) + 2 := wrap_i64 (by omega)
    have w3 : IntKind.i64.wrap ((at' : Int) + 4 * (i : Int) + 3) = (at' : Int) + 4 * (i : Int) + 3 := wrap_i64 (by omega)
    have t0 : ((at' : Int) + 4 * (i : Int)).toNat = at' + 4 * i := by omega
    have t1 : ((at' : Int) + 4 * (i : Int) + 1).toNat = at' + 4 * i + 1 := by omega
    have t2 : ((at' : Int) + 4 * (i : Int) + 2).toNat = at' + 4 * i + 2 := by omega
    have t3 : ((at' : Int) + 4 * (i : Int) + 3).toNat = at' + 4 * i + 3 := by omega
    have c0 := ht _ (List.getElem_mem i0)
    have c1 := ht _ (List.getElem_mem i1)
    have c2 := ht _ (List.getElem_mem i2)
    have c3 := ht _ (List.getElem_mem i3)
    have i16 : i < (first16 b).length := by omega
    have hw := add4_mul c0 c1 c2 c3
    have z0 := get (4 * i) i0 k0
    have z1 := get (4 * i + 1) i1 k1
    have z2 := get (4 * i + 2) i2 k2
    have z3 := get (4 * i + 3) i3 k3
    have hw' : t[at' + 4 * i] * 16777216 + t[at' + 4 * i + 1] * 65536 + t[at' + 4 * i + 2] * 256 + t[at' + 4 * i + 3] = (first16 b)[i] := by
      rw [first16_get b (by omega) k3 i16, z0, z1, z2, z3]; rfl
    rw [hw'] at hw
    have y0 : IntKind.u32.wrap ((t[at' + 4 * i] : Nat) : Int) = ((t[at' + 4 * i] : Nat) : Int) := wrap_u32 (by omega)
    have y1 : IntKind.u32.wrap ((t[at' + 4 * i + 1] : Nat) : Int) = ((t[at' + 4 * i + 1] : Nat) : Int) := wrap_u32 (by omega)
    have y2 : IntKind.u32.wrap ((t[at' + 4 * i + 2] : Nat) : Int) = ((t[at' + 4 * i + 2] : Nat) : Int) := wrap_u32 (by omega)
    have y3 : IntKind.u32.wrap ((t[at' + 4 * i + 3] : Nat) : Int) = ((t[at' + 4 * i + 3] : Nat) : Int) := wrap_u32 (by omega)
    have hfs := fill_setN i16 (show (first16 b).length ≤ 64 by omega)
    have wi : IntKind.i64.wrap ((i : Int) + 1) = (i : Int) + 1 := wrap_i64 (by omega)
    simp -implicitDefEqProofs [q_ref03_words_4, q_ref03_words_5, e0, e1, e4, e5, e6, w0, wa, w1, w2, w3, t0, t1, t2, t3, i0, i1, i2, i3, hil, y0, y1, y2, y3, hw, hfs, wi, -List.reduceReplicate]
    refine ⟨by omega, by omega, by omega, by omega, by omega, by omega, by omega, by omega, by omega, by rw [hf]; omega, ?_⟩
    exact lp_next (i + 1) ⟨by omega, by simp [e0], by simp [e1], by simp [e4], by simp [e5], by simp, by rw [show 64 - (i + 1) = 63 - i by omega]⟩ (by omega)
  · have hie : i = 16 := by omega
    subst hie
    have hws : (first16 b).take 16 ++ List.replicate (64 - 16) 0 = wsN b 0 ++ List.replicate (48 - 0) 0 := by rw [List.take_of_length_le (by omega)]; rfl
    rw [hws]
    simp -implicitDefEqProofs [q_ref03_words_6, -List.reduceReplicate]
    refine words_L12 hbb n1 n2 ?_ ?_ ?_
    · simp [e4]
    · simp [e5]
    · simp
end Go.Proofs.Ytfdckjliinpjiaa

/- A round's words, as either side makes them. -/
namespace Go.Proofs.Ytfdckjliinpjiaa
open Go AVL
set_option linter.unusedVariables false
set_option linter.unusedSimpArgs false
set_option maxRecDepth 4000

theorem not_nat {e : Nat} (he : e < W32) : 4294967295 ^^^ e = 4294967295 - e := by
  have h1 : (BitVec.ofNat 32 e ^^^ BitVec.allOnes 32).toNat = (~~~ BitVec.ofNat 32 e).toNat := by rw [BitVec.xor_allOnes]
  rw [BitVec.toNat_xor, BitVec.toNat_not, BitVec.toNat_allOnes, BitVec.toNat_ofNat, Nat.mod_eq_of_lt he] at h1
  rw [Nat.xor_comm]
  exact h1
theorem Sg1_of {x : Nat} (hx : x < W32) : bXor .u32 (bXor .u32 ((rot x 6 : Nat) : Int) ((rot x 11 : Nat) : Int)) ((rot x 25 : Nat) : Int) = ((Sg1 x : Nat) : Int) := by
  rw [bXor_nat rfl (bits32 (rot_lt 6 hx)) (bits32 (rot_lt 11 hx)), bXor_nat rfl (Nat.xor_lt_two_pow (bits32 (rot_lt 6 hx)) (bits32 (rot_lt 11 hx))) (bits32 (rot_lt 25 hx))]
  rfl
theorem Sg0_of {x : Nat} (hx : x < W32) : bXor .u32 (bXor .u32 ((rot x 2 : Nat) : Int) ((rot x 13 : Nat) : Int)) ((rot x 22 : Nat) : Int) = ((Sg0 x : Nat) : Int) := by
  rw [bXor_nat rfl (bits32 (rot_lt 2 hx)) (bits32 (rot_lt 13 hx)), bXor_nat rfl (Nat.xor_lt_two_pow (bits32 (rot_lt 2 hx)) (bits32 (rot_lt 13 hx))) (bits32 (rot_lt 22 hx))]
  rfl
theorem ch_of {e f g : Nat} (he : e < W32) (hf : f < W32) (hg : g < W32) : bXor .u32 (bAnd .u32 (e : Int) (f : Int)) (bAnd .u32 ((4294967295 - e : Nat) : Int) (g : Int)) = ((chf e f g : Nat) : Int) := by
  have hn : 4294967295 - e < 4294967296 := by omega
  rw [bAnd_nat rfl (bits32 he) (bits32 hf), bAnd_nat rfl (bits32 hn) (bits32 hg), bXor_nat rfl (Nat.and_lt_two_pow _ (bits32 hf)) (Nat.and_lt_two_pow _ (bits32 hg))]
  rfl
theorem not_of {e : Nat} (he : e < W32) : bXor .u32 4294967295 (e : Int) = ((4294967295 - e : Nat) : Int) := by
  have := bXor_nat (k := .u32) rfl (bits32 (show 4294967295 < 4294967296 by decide)) (bits32 he)
  rw [not_nat he] at this
  exact this
theorem maj_of {a b c : Nat} (ha : a < W32) (hb : b < W32) (hc : c < W32) : bXor .u32 (bXor .u32 (bAnd .u32 (a : Int) (b : Int)) (bAnd .u32 (a : Int) (c : Int))) (bAnd .u32 (b : Int) (c : Int)) = ((maj a b c : Nat) : Int) := by
  rw [bAnd_nat rfl (bits32 ha) (bits32 hb), bAnd_nat rfl (bits32 ha) (bits32 hc), bAnd_nat rfl (bits32 hb) (bits32 hc), bXor_nat rfl (Nat.and_lt_two_pow _ (bits32 hb)) (Nat.and_lt_two_pow _ (bits32 hc)),
    bXor_nat rfl (Nat.xor_lt_two_pow (Nat.and_lt_two_pow _ (bits32 hb)) (Nat.and_lt_two_pow _ (bits32 hc))) (Nat.and_lt_two_pow _ (bits32 hc))]
  rfl
theorem add5_of (a b c d e : Nat) : IntKind.u32.wrap (IntKind.u32.wrap (IntKind.u32.wrap (IntKind.u32.wrap ((a : Int) + (b : Int)) + (c : Int)) + (d : Int)) + (e : Int)) = (((a + b + c + d + e) % W32 : Nat) : Int) := by
  rw [wrap_u32m, wrap_u32m, wrap_u32m, wrap_u32m]
  show _ = (((a + b + c + d + e) % 4294967296 : Nat) : Int)
  omega
theorem add2_of (a b : Nat) : IntKind.u32.wrap ((a : Int) + (b : Int)) = (((a + b) % W32 : Nat) : Int) := by
  rw [wrap_u32m]
  show _ = (((a + b) % 4294967296 : Nat) : Int)
  omega
theorem rnd_words {v : List Nat} (k w : Nat) (hv : Words v) : Words (rnd v k w) := by
  have g := words_getD hv
  intro x hx
  simp only [rnd, List.mem_cons, List.not_mem_nil, or_false] at hx
  rcases hx with rfl | rfl | rfl | rfl | rfl | rfl | rfl | rfl <;> first | exact Nat.mod_lt _ (by decide) | exact g _
@[simp] theorem rnd_length (v : List Nat) (k w : Nat) : (rnd v k w).length = 8 := rfl
theorem rndN_words {v w : List Nat} (hv : Words v) : ∀ i, Words (rndN v w i)
  | 0 => hv
  | i + 1 => rnd_words _ _ (rndN_words hv i)
theorem rndN_length {v w : List Nat} (hv : v.length = 8) : ∀ i, (rndN v w i).length = 8
  | 0 => hv
  | i + 1 => rfl
theorem eight {l : List Nat} (h : l.length = 8) : ∃ a b c d e f g i, l = [a, b, c, d, e, f, g, i] := by
  match l, h with
  | [a, b, c, d, e, f, g, i], _ => exact ⟨a, b, c, d, e, f, g, i, rfl⟩
theorem K64_words : Words K64 := by unfold Words; decide +kernel
theorem K64_length : K64.length = 64 := by decide +kernel
theorem mixB_words (s b : List Nat) : Words (mixB s b) := by
  intro x hx
  simp only [mixB, sumW, List.mem_map, List.mem_range] at hx
  obtain ⟨i, _, rfl⟩ := hx
  exact Nat.mod_lt _ (by decide)
@[simp] theorem mixB_length (s b : List Nat) : (mixB s b).length = 8 := by simp [mixB, sumW]
theorem mixAll_words : ∀ (n : Nat) {s : List Nat} (b : List Nat), Words s → Words (mixAll s n b)
  | 0, s, b, h => h
  | n + 1, s, b, h => mixAll_words n _ (mixB_words _ _)
theorem mixAll_length : ∀ (n : Nat) {s : List Nat} (b : List Nat), s.length = 8 → (mixAll s n b).length = 8
  | 0, s, b, h => h
  | n + 1, s, b, h => mixAll_length n _ (mixB_length _ _)
theorem H256_words : Words H256 := by unfold Words; decide
end Go.Proofs.Ytfdckjliinpjiaa

/- The numbers of the rounds; the walks of mix and of the reference's mixed. -/
namespace Go.Proofs.Ytfdckjliinpjiaa
open Go AVL
set_option linter.unusedVariables false
set_option linter.unusedSimpArgs false
set_option maxRecDepth 8000

theorem build_K (env : AEnv) (A : Heap) (K : AV → Heap → Prop) : abuild (.ia .u32 64) [(.iarr .u32 64 (List.replicate 64 0))] [(0, (1, (.v (.int .u32 1116352408)))), (1, (1, (.v (.int .u32 1899447441)))), (2, (1, (.v (.int .u32 3049323471)))), (3, (1, (.v (.int .u32 3921009573)))), (4, (1, (.v (.int .u32 961987163)))), (5, (1, (.v (.int .u32 1508970993)))), (6, (1, (.v (.int .u32 2453635748)))), (7, (1, (.v (.int .u32 2870763221)))), (8, (1, (.v (.int .u32 3624381080)))), (9, (1, (.v (.int .u32 310598401)))), (10, (1, (.v (.int .u32 607225278)))), (11, (1, (.v (.int .u32 1426881987)))), (12, (1, (.v (.int .u32 1925078388)))), (13, (1, (.v (.int .u32 2162078206)))), (14, (1, (.v (.int .u32 2614888103)))), (15, (1, (.v (.int .u32 3248222580)))), (16, (1, (.v (.int .u32 3835390401)))), (17, (1, (.v (.int .u32 4022224774)))), (18, (1, (.v (.int .u32 264347078)))), (19, (1, (.v (.int .u32 604807628)))), (20, (1, (.v (.int .u32 770255983)))), (21, (1, (.v (.int .u32 1249150122)))), (22, (1, (.v (.int .u32 1555081692)))), (23, (1, (.v (.int .u32 1996064986)))), (24, (1, (.v (.int .u32 2554220882)))), (25, (1, (.v (.int .u32 2821834349)))), (26, (1, (.v (.int .u32 2952996808)))), (27, (1, (.v (.int .u32 3210313671)))), (28, (1, (.v (.int .u32 3336571891)))), (29, (1, (.v (.int .u32 3584528711)))), (30, (1, (.v (.int .u32 113926993)))), (31, (1, (.v (.int .u32 338241895)))), (32, (1, (.v (.int .u32 666307205)))), (33, (1, (.v (.int .u32 773529912)))), (34, (1, (.v (.int .u32 1294757372)))), (35, (1, (.v (.int .u32 1396182291)))), (36, (1, (.v (.int .u32 1695183700)))), (37, (1, (.v (.int .u32 1986661051)))), (38, (1, (.v (.int .u32 2177026350)))), (39, (1, (.v (.int .u32 2456956037)))), (40, (1, (.v (.int .u32 2730485921)))), (41, (1, (.v (.int .u32 2820302411)))), (42, (1, (.v (.int .u32 3259730800)))), (43, (1, (.v (.int .u32 3345764771)))), (44, (1, (.v (.int .u32 3516065817)))), (45, (1, (.v (.int .u32 3600352804)))), (46, (1, (.v (.int .u32 4094571909)))), (47, (1, (.v (.int .u32 275423344)))), (48, (1, (.v (.int .u32 430227734)))), (49, (1, (.v (.int .u32 506948616)))), (50, (1, (.v (.int .u32 659060556)))), (51, (1, (.v (.int .u32 883997877)))), (52, (1, (.v (.int .u32 958139571)))), (53, (1, (.v (.int .u32 1322822218)))), (54, (1, (.v (.int .u32 1537002063)))), (55, (1, (.v (.int .u32 1747873779)))), (56, (1, (.v (.int .u32 1955562222)))), (57, (1, (.v (.int .u32 2024104815)))), (58, (1, (.v (.int .u32 2227730452)))), (59, (1, (.v (.int .u32 2361852424)))), (60, (1, (.v (.int .u32 2428436474)))), (61, (1, (.v (.int .u32 2756734187)))), (62, (1, (.v (.int .u32 3204031479)))), (63, (1, (.v (.int .u32 3329325298))))] env A K = K (.iarr .u32 64 (ints K64)) A := by
  kernel_rfl
theorem bslI_K (env : AEnv) (A : Heap) (K : AV → Heap → Prop) : abslI T_uint32 .u32 [(.v (.int .u32 1116352408)), (.v (.int .u32 1899447441)), (.v (.int .u32 3049323471)), (.v (.int .u32 3921009573)), (.v (.int .u32 961987163)), (.v (.int .u32 1508970993)), (.v (.int .u32 2453635748)), (.v (.int .u32 2870763221)), (.v (.int .u32 3624381080)), (.v (.int .u32 310598401)), (.v (.int .u32 607225278)), (.v (.int .u32 1426881987)), (.v (.int .u32 1925078388)), (.v (.int .u32 2162078206)), (.v (.int .u32 2614888103)), (.v (.int .u32 3248222580)), (.v (.int .u32 3835390401)), (.v (.int .u32 4022224774)), (.v (.int .u32 264347078)), (.v (.int .u32 604807628)), (.v (.int .u32 770255983)), (.v (.int .u32 1249150122)), (.v (.int .u32 1555081692)), (.v (.int .u32 1996064986)), (.v (.int .u32 2554220882)), (.v (.int .u32 2821834349)), (.v (.int .u32 2952996808)), (.v (.int .u32 3210313671)), (.v (.int .u32 3336571891)), (.v (.int .u32 3584528711)), (.v (.int .u32 113926993)), (.v (.int .u32 338241895)), (.v (.int .u32 666307205)), (.v (.int .u32 773529912)), (.v (.int .u32 1294757372)), (.v (.int .u32 1396182291)), (.v (.int .u32 1695183700)), (.v (.int .u32 1986661051)), (.v (.int .u32 2177026350)), (.v (.int .u32 2456956037)), (.v (.int .u32 2730485921)), (.v (.int .u32 2820302411)), (.v (.int .u32 3259730800)), (.v (.int .u32 3345764771)), (.v (.int .u32 3516065817)), (.v (.int .u32 3600352804)), (.v (.int .u32 4094571909)), (.v (.int .u32 275423344)), (.v (.int .u32 430227734)), (.v (.int .u32 506948616)), (.v (.int .u32 659060556)), (.v (.int .u32 883997877)), (.v (.int .u32 958139571)), (.v (.int .u32 1322822218)), (.v (.int .u32 1537002063)), (.v (.int .u32 1747873779)), (.v (.int .u32 1955562222)), (.v (.int .u32 2024104815)), (.v (.int .u32 2227730452)), (.v (.int .u32 2361852424)), (.v (.int .u32 2428436474)), (.v (.int .u32 2756734187)), (.v (.int .u32 3204031479)), (.v (.int .u32 3329325298))] env A K = ∀ g, A g = none → K (.own g 0 64) (A.set g (.irow T_uint32 .u32 (ints K64))) := by
  kernel_rfl
attribute [-simp] abuild abslI
theorem w_digest_rounds : Gives Try.prog F_digest_rounds [] (.iarr .u32 64 (ints K64)) := by
  refine v_digest_rounds (by simp) ?_
  simp -implicitDefEqProofs [a_digest_rounds, q_digest_rounds_0, q_digest_rounds_1, build_K, outOf, K64_length, -List.reduceReplicate]
theorem w_ref03_table : Makes Try.prog F_ref03_table [] 64 (.irow T_uint32 .u32 (ints K64)) := by
  refine i_ref03_table (by simp) fun R hR => ?_
  simp -implicitDefEqProofs [a_ref03_table, q_ref03_table_0, q_ref03_table_1, bslI_K]
  intro g
  refine hR _ _ _ ?_
  simp -implicitDefEqProofs [a_ref03_table, fpost, outOf]
  exact Sub_refl _
end Go.Proofs.Ytfdckjliinpjiaa

/- The walk of mix. -/
namespace Go.Proofs.Ytfdckjliinpjiaa
open Go AVL
attribute [-simp] abslI
set_option linter.unusedVariables false
set_option linter.unusedSimpArgs false
set_option maxRecDepth 8000

def arr8 (l : List Nat) : Cont := .var T_8_uint32 [.iarr .u32 8 (ints l)]
def arr64 (l : List Nat) : Cont := .var T_64_uint32 [.iarr .u32 64 (ints l)]
theorem wsN48_length (b : List Nat) : (wsN b 48).length = 64 := by simp
set_option maxHeartbeats 2000000 in
theorem mix_L10 {s w : List Nat} (hs : Words s) (h8 : s.length = 8) (hw : Words w) (hw64 : w.length = 64) {R : APost} {k : Kt} {env : AEnv} {A : Heap} {g2 g4 g5 g6 g7 : Nat}
    (e2 : env 2 = .ptr g2 0) (e4 : env 4 = .ptr g4 0) (e5 : env 5 = .ptr g5 0) (e6 : env 6 = .ptr g6 0) (e7 : env 7 = .ptr g7 0) (e18 : env 18 = .int .i64 0)
    (f2 : A g2 = some (arr8 s)) (f4 : A g4 = some (arr8 (List.replicate 8 0))) (f5 : A g5 = some (arr64 w)) (f6 : A g6 = some (arr64 K64)) (f7 : A g7 = some (arr8 s))
    (n2 : g2 ≠ g7) (n4 : g4 ≠ g7) (n5 : g5 ≠ g7) (n6 : g6 ≠ g7)
    (hk : ∀ env' B, env' 2 = .ptr g2 0 → env' 4 = .ptr g4 0 → env' 7 = .ptr g7 0 → B g2 = some (arr8 s) → B g4 = some (arr8 (List.replicate 8 0)) → B g7 = some (arr8 (rndN s w 64)) → XE Try.prog R (.exit 0) k env' B) :
    X Try.prog R (.loop q_digest_mix_L10) k env A := by
  refine X_lp (fun (i : Nat) env B => i ≤ 64 ∧ env 2 = .ptr g2 0 ∧ env 4 = .ptr g4 0 ∧ env 5 = .ptr g5 0 ∧ env 6 = .ptr g6 0 ∧ env 7 = .ptr g7 0 ∧ env 18 = .int .i64 i ∧
      B g2 = some (arr8 s) ∧ B g4 = some (arr8 (List.replicate 8 0)) ∧ B g5 = some (arr64 w) ∧ B g6 = some (arr64 K64) ∧ B g7 = some (arr8 (rndN s w i))) (fun i => 64 - i) 0
    ⟨by omega, e2, e4, e5, e6, e7, e18, f2, f4, f5, f6, f7⟩ ?_
  rintro i env B ⟨hi, e2, e4, e5, e6, e7, e18, f2, f4, f5, f6, f7⟩
  have v8 := rndN_length (w := w) h8 i
  have vw := rndN_words (w := w) hs i
  have hstep : rndN s w (i + 1) = rnd (rndN s w i) (K64.getD i 0) (w.getD i 0) := rfl
  obtain ⟨a, b, c, d, e, f, g, h, hv⟩ := eight v8
  rw [hv] at hstep vw
  have ha := vw a (by simp); have hb := vw b (by simp); have hc := vw c (by simp); have hd := vw d (by simp)
  have he := vw e (by simp); have hf := vw f (by simp); have hg := vw g (by simp); have hh := vw h (by simp)
  have fk6 := f6
  unfold arr64 at f5 fk6
  have f7' := f7
  rw [hv] at f7'
  unfold arr8 at f7'
  have hints : ints [a, b, c, d, e, f, g, h] = [(a : Int), (b : Int), (c : Int), (d : Int), (e : Int), (f : Int), (g : Int), (h : Int)] := rfl
  rw [hints] at f7'
  simp -implicitDefEqProofs [q_digest_mix_L10, q_digest_mix_3, e2, e4, e5, e6, e7, e18]
  refine ⟨fun hil => ?_, fun hil => ?_⟩
  · have hkk : K64[i]?.getD 0 = K64.getD i 0 := by rw [List.getD_eq_getElem?_getD]
    have hww : w[i]?.getD 0 = w.getD i 0 := by rw [List.getD_eq_getElem?_getD]
    obtain ⟨kv, hkv⟩ : ∃ x, K64.getD i 0 = x := ⟨_, rfl⟩
    obtain ⟨wv, hwv⟩ : ∃ x, w.getD i 0 = x := ⟨_, rfl⟩
    rw [hkv] at hkk hstep; rw [hwv] at hww hstep
    have b64 : (i : Int) < 64 := by omega
    have hsg : (if IntKind.u32.signed = true then (-1 : Int) else IntKind.u32.max) = 4294967295 := by decide
    have hcn := not_of he
    have hch := ch_of he hf hg
    have hmj := maj_of ha hb hc
    have hs1 := Sg1_of he
    have hs0 := Sg0_of ha
    have ht := add5_of h (Sg1 e) (chf e f g) kv wv
    have hu := add2_of (Sg0 a) (maj a b c)
    have hstep' : rndN s w (i + 1) = [((h + Sg1 e + chf e f g + kv + wv) % W32 + (Sg0 a + maj a b c) % W32) % W32, a, b, c, (d + (h + Sg1 e + chf e f g + kv + wv) % W32) % W32, e, f, g] := hstep
    obtain ⟨t, htv⟩ : ∃ t, (h + Sg1 e + chf e f g + kv + wv) % W32 = t := ⟨_, rfl⟩
    obtain ⟨u, huv⟩ : ∃ u, (Sg0 a + maj a b c) % W32 = u := ⟨_, rfl⟩
    rw [htv] at ht hstep'
    rw [huv] at hu hstep'
    have hx := add2_of t u
    have hy := add2_of d t
    obtain ⟨x, hxv⟩ : ∃ x, (t + u) % W32 = x := ⟨_, rfl⟩
    obtain ⟨y, hyv⟩ : ∃ y, (d + t) % W32 = y := ⟨_, rfl⟩
    rw [hxv] at hx hstep'; rw [hyv] at hy hstep'
    simp -implicitDefEqProofs [q_digest_mix_4, q_digest_mix_5, q_digest_mix_6, e5, e6, e7, e18, f5, fk6, f7', hkk, hww, hw64, K64_length, b64, hil, hsg, hcn, hch]
    refine (w_spin he (m := 6) (by omega) rfl).call (.cons (.refl _) rfl (.cons (.refl _) rfl .nil)) rfl ?_
    simp -implicitDefEqProofs [Sub_refl]
    refine (w_spin he (m := 11) (by omega) rfl).call (.cons (.refl _) rfl (.cons (.refl _) rfl .nil)) rfl ?_
    simp -implicitDefEqProofs [Sub_refl]
    refine (w_spin he (m := 25) (by omega) rfl).call (.cons (.refl _) rfl (.cons (.refl _) rfl .nil)) rfl ?_
    simp -implicitDefEqProofs [Sub_refl, hs1, ht, q_digest_mix_7, e7, f7', hmj]
    refine (w_spin ha (m := 2) (by omega) rfl).call (.cons (.refl _) rfl (.cons (.refl _) rfl .nil)) rfl ?_
    simp -implicitDefEqProofs [Sub_refl]
    refine (w_spin ha (m := 13) (by omega) rfl).call (.cons (.refl _) rfl (.cons (.refl _) rfl .nil)) rfl ?_
    simp -implicitDefEqProofs [Sub_refl]
    refine (w_spin ha (m := 22) (by omega) rfl).call (.cons (.refl _) rfl (.cons (.refl _) rfl .nil)) rfl ?_
    simp -implicitDefEqProofs [Sub_refl, hs0, hu, q_digest_mix_8, q_digest_mix_9, e7, e18, f7', hx, hy]
    refine lp_next (i + 1) ⟨by omega, by simp [e2], by simp [e4], by simp [e5], by simp [e6], by simp [e7], ?_, by simp [n2, f2], by simp [n4, f4], by simp [n5, f5, arr64], by simp [n6, f6], ?_⟩ (by omega)
    · simp
      exact wrap_i64 (by omega)
    · rw [hstep']; simp [arr8, ints]
  · have hie : i = 64 := by omega
    subst hie
    refine hk _ _ ?_ ?_ ?_ f2 f4 f7
    · simp [e2]
    · simp [e4]
    · simp [e7]
theorem mix_L15 {s v : List Nat} (h8 : s.length = 8) (hv8 : v.length = 8) {R : APost} {k : Kt} {env : AEnv} {A : Heap} {g2 g4 g7 : Nat}
    (e2 : env 2 = .ptr g2 0) (e4 : env 4 = .ptr g4 0) (e7 : env 7 = .ptr g7 0) (e100 : env 100 = .int .i64 0)
    (f2 : A g2 = some (arr8 s)) (f4 : A g4 = some (arr8 (List.replicate 8 0))) (f7 : A g7 = some (arr8 v)) (n2 : g7 ≠ g2) (n4 : g4 ≠ g2)
    (hk : ∀ env' B, env' 2 = .ptr g2 0 → env' 4 = .ptr g4 0 → B g2 = some (arr8 (sumW s v)) → B g4 = some (arr8 (List.replicate 8 0)) → XE Try.prog R (.exit 2) k env' B) :
    X Try.prog R (.loop q_digest_mix_L15) k env A := by
  have hsl : (sumW s v).length = 8 := by simp [sumW]
  refine X_lp (fun (i : Nat) env B => i ≤ 8 ∧ env 2 = .ptr g2 0 ∧ env 4 = .ptr g4 0 ∧ env 7 = .ptr g7 0 ∧ env 100 = .int .i64 i ∧ B g2 = some (arr8 ((sumW s v).take i ++ s.drop i)) ∧ B g4 = some (arr8 (List.replicate 8 0)) ∧ B g7 = some (arr8 v)) (fun i => 8 - i) 0
    ⟨by omega, e2, e4, e7, e100, by simpa using f2, f4, f7⟩ ?_
  rintro i env B ⟨hi, e2, e4, e7, e100, f2, f4, f7⟩
  simp -implicitDefEqProofs [q_digest_mix_L15, q_digest_mix_11, e2, e4, e7, e100]
  refine ⟨fun hil => ?_, fun hil => ?_⟩
  · have hLl : ((sumW s v).take i ++ s.drop i).length = 8 := by simp [hsl]; omega
    have r2 : ((sumW s v).take i ++ s.drop i)[i]?.getD 0 = s.getD i 0 := by
      rw [List.getElem?_append_right (by simp [hsl]; omega), List.getElem?_drop, List.getD_eq_getElem?_getD]
      congr 2; simp [hsl]; omega
    have r7 : v[i]?.getD 0 = v.getD i 0 := by rw [List.getD_eq_getElem?_getD]
    obtain ⟨x, hx⟩ : ∃ x, s.getD i 0 = x := ⟨_, rfl⟩
    obtain ⟨y, hy⟩ : ∃ x, v.getD i 0 = x := ⟨_, rfl⟩
    rw [hx] at r2; rw [hy] at r7
    have ha := add2_of x y
    have hsi : (sumW s v)[i]'(by omega) = (x + y) % W32 := by simp [sumW, ← hx, ← hy]
    obtain ⟨z, hz⟩ : ∃ z, (x + y) % W32 = z := ⟨_, rfl⟩
    rw [hz] at ha hsi
    have hset : ((sumW s v).take i ++ s.drop i).set i z = (sumW s v).take (i + 1) ++ s.drop (i + 1) := by
      rw [List.set_append_right _ _ (by simp [hsl]; omega), List.length_take, hsl, show i - min i 8 = 0 by omega, List.drop_eq_getElem_cons (show i < s.length by omega), List.set_cons_zero,
        List.take_succ_eq_append_getElem (show i < (sumW s v).length by omega), hsi, List.append_assoc]; rfl
    obtain ⟨L, hL⟩ : ∃ L, (sumW s v).take i ++ s.drop i = L := ⟨_, rfl⟩
    rw [hL] at f2 hLl r2 hset
    have b8 : (i : Int) < 8 := by omega
    unfold arr8 at f2 f7
    have wi : IntKind.i64.wrap ((i : Int) + 1) = (i : Int) + 1 := wrap_i64 (by omega)
    simp -implicitDefEqProofs [q_digest_mix_12, q_digest_mix_13, q_digest_mix_14, e2, e4, e7, e100, f2, f7, hLl, hv8, r2, r7, b8, ha, hset, hil, wi]
    refine lp_next (i + 1) ⟨by omega, by simp [e2], by simp [e4], by simp [e7], by simp, by simp [arr8], by simp [n4, f4], by simp [n2, f7, arr8]⟩ (by omega)
  · have hie : i = 8 := by omega
    subst hie
    rw [List.take_of_length_le (by omega), List.drop_of_length_le (by omega), List.append_nil] at f2
    refine hk _ _ ?_ ?_ f2 f4
    · simp [e2]
    · simp [e4]
theorem w_digest_mix {s b : List Nat} (hs : Words s) (h8 : s.length = 8) (hb : byts b) (hbl : b.length = 64) : Gives Try.prog F_digest_mix [.iarr .u32 8 (ints s), .isl .u8 (ints b)] (.iarr .u32 8 (ints (mixB s b))) := by
  refine v_digest_mix (by simp) ?_
  simp -implicitDefEqProofs [a_digest_mix, q_digest_mix_0, q_digest_mix_1, q_digest_mix_2, -List.reduceReplicate]
  intro g2 g4 n1 n2
  simp -implicitDefEqProofs [n1, n2, -List.reduceReplicate]
  refine (w_digest_spread hb hbl).call (.cons (.refl _) rfl .nil) rfl ?_
  simp -implicitDefEqProofs [Sub_refl, -List.reduceReplicate]
  refine w_digest_rounds.call .nil rfl ?_
  simp -implicitDefEqProofs [Sub_refl, -List.reduceReplicate]
  intro g5 a1 a2 a3 a4 g6 b1 b2 b3 b4 b5 b6 g7 c1 c2 c3 c4 c5 c6 c7 c8
  simp -implicitDefEqProofs [n1, n2, a1, a2, a3, a4, b1, b2, b3, b4, b5, b6, c1, c2, c3, c4, c5, c6, c7, c8, K64_length, -List.reduceReplicate]
  have z8 : ([0, 0, 0, 0, 0, 0, 0, 0] : List Int) = ints (List.replicate 8 0) := rfl
  refine mix_L10 hs h8 (wsN_words hb 48) (wsN48_length b) (g2 := g2) (g4 := g4) (g5 := g5) (g6 := g6) (g7 := g7) ?_ ?_ ?_ ?_ ?_ ?_ ?_ ?_ ?_ ?_ ?_ ?_ ?_ ?_ ?_ fun env' B e2 e4 e7 f2 f4 f7 => ?_
  · simp
  · simp
  · simp
  · simp
  · simp
  · simp
  · simp [n1, n2, a1, a2, a3, a4, b1, b2, b3, b4, b5, b6, c1, c2, c3, c4, c5, c6, c7, c8, arr8]
  · simp [n1, n2, a1, a2, a3, a4, b1, b2, b3, b4, b5, b6, c1, c2, c3, c4, c5, c6, c7, c8, arr8, ints]
  · simp [n1, n2, a1, a2, a3, a4, b1, b2, b3, b4, b5, b6, c1, c2, c3, c4, c5, c6, c7, c8, arr64]
  · simp [n1, n2, a1, a2, a3, a4, b1, b2, b3, b4, b5, b6, c1, c2, c3, c4, c5, c6, c7, c8, arr64]
  · simp [arr8]
  · exact fun e => c8 e
  · exact fun e => c6 e
  · exact fun e => c4 e
  · exact fun e => c2 e
  simp -implicitDefEqProofs [q_digest_mix_10, -List.reduceReplicate]
  refine mix_L15 h8 (rndN_length (w := wsN b 48) h8 64) (g2 := g2) (g4 := g4) (g7 := g7) ?_ ?_ ?_ ?_ f2 f4 f7 ?_ ?_ fun env' B e2 e4 f2 f4 => ?_
  · simp [e2]
  · simp [e4]
  · simp [e7]
  · simp
  · exact fun e => c7 e
  · exact fun e => n1 e
  have hml := mixB_length s b
  unfold arr8 at f2 f4
  have hsum : sumW s (rndN s (wsN b 48) 64) = mixB s b := rfl
  rw [hsum] at f2
  simp -implicitDefEqProofs [q_digest_mix_15, e2, e4, f2, f4, hml, outOf, -List.reduceReplicate]
end Go.Proofs.Ytfdckjliinpjiaa

/- The walk of the reference's mixed. -/
namespace Go.Proofs.Ytfdckjliinpjiaa
open Go AVL
attribute [-simp] abslI
set_option linter.unusedVariables false
set_option linter.unusedSimpArgs false
set_option maxRecDepth 8000

set_option maxHeartbeats 2000000 in
theorem mixed_L22 {s w : List Nat} (hs : Words s) (h8 : s.length = 8) (hw : Words w) (hw64 : w.length = 64) {R : APost} {k : Kt} {env : AEnv} {A : Heap} {g3 g5 g6 : Nat}
    (e1 : env 1 = .isl .u32 (ints K64)) (e3 : env 3 = .ptr g3 0) (e5 : env 5 = .ptr g5 0) (e6 : env 6 = .ptr g6 0)
    (r0 : env 7 = .int .u32 (s.getD 0 0 : Nat)) (r1 : env 8 = .int .u32 (s.getD 1 0 : Nat)) (r2 : env 9 = .int .u32 (s.getD 2 0 : Nat)) (r3 : env 10 = .int .u32 (s.getD 3 0 : Nat))
    (r4 : env 11 = .int .u32 (s.getD 4 0 : Nat)) (r5 : env 12 = .int .u32 (s.getD 5 0 : Nat)) (r6 : env 13 = .int .u32 (s.getD 6 0 : Nat)) (r7 : env 14 = .int .u32 (s.getD 7 0 : Nat)) (e15 : env 15 = .int .i64 0)
    (f5 : A g5 = some (arr64 w))
    (hk : ∀ env', env' 3 = .ptr g3 0 → env' 6 = .ptr g6 0 → env' 7 = .int .u32 ((rndN s w 64).getD 0 0 : Nat) → env' 8 = .int .u32 ((rndN s w 64).getD 1 0 : Nat) → env' 9 = .int .u32 ((rndN s w 64).getD 2 0 : Nat) → env' 10 = .int .u32 ((rndN s w 64).getD 3 0 : Nat) →
      env' 11 = .int .u32 ((rndN s w 64).getD 4 0 : Nat) → env' 12 = .int .u32 ((rndN s w 64).getD 5 0 : Nat) → env' 13 = .int .u32 ((rndN s w 64).getD 6 0 : Nat) → env' 14 = .int .u32 ((rndN s w 64).getD 7 0 : Nat) → XE Try.prog R (.exit 0) k env' A) :
    X Try.prog R (.loop q_ref03_mixed_L22) k env A := by
  refine X_lp (fun (i : Nat) env B => i ≤ 64 ∧ B = A ∧ env 1 = .isl .u32 (ints K64) ∧ env 3 = .ptr g3 0 ∧ env 5 = .ptr g5 0 ∧ env 6 = .ptr g6 0 ∧ env 7 = .int .u32 ((rndN s w i).getD 0 0 : Nat) ∧ env 8 = .int .u32 ((rndN s w i).getD 1 0 : Nat) ∧ env 9 = .int .u32 ((rndN s w i).getD 2 0 : Nat) ∧ env 10 = .int .u32 ((rndN s w i).getD 3 0 : Nat) ∧
      env 11 = .int .u32 ((rndN s w i).getD 4 0 : Nat) ∧ env 12 = .int .u32 ((rndN s w i).getD 5 0 : Nat) ∧ env 13 = .int .u32 ((rndN s w i).getD 6 0 : Nat) ∧ env 14 = .int .u32 ((rndN s w i).getD 7 0 : Nat) ∧ env 15 = .int .i64 i) (fun i => 64 - i) 0
    ⟨by omega, rfl, e1, e3, e5, e6, r0, r1, r2, r3, r4, r5, r6, r7, e15⟩ ?_
  rintro i env B ⟨hi, rfl, e1, e3, e5, e6, r0, r1, r2, r3, r4, r5, r6, r7, e15⟩
  have v8 := rndN_length (w := w) h8 i
  have vw := rndN_words (w := w) hs i
  have hstep : rndN s w (i + 1) = rnd (rndN s w i) (K64.getD i 0) (w.getD i 0) := rfl
  simp -implicitDefEqProofs only [q_ref03_mixed_L22]
  obtain ⟨a, b, c, d, e, f, g, h, hv⟩ := eight v8
  rw [hv] at hstep vw r0 r1 r2 r3 r4 r5 r6 r7
  have ha := vw a (by simp); have hb := vw b (by simp); have hc := vw c (by simp); have hd := vw d (by simp)
  have he := vw e (by simp); have hf := vw f (by simp); have hg := vw g (by simp); have hh := vw h (by simp)
  simp only [List.getD_cons_zero, List.getD_cons_succ] at r0 r1 r2 r3 r4 r5 r6 r7
  unfold arr64 at f5
  by_cases hil : i < 64
  · have hilc : (i : Int) < 64 := by omega
    have hKi : i < K64.length := by rw [K64_length]; exact hil
    have hkk : K64[i] = K64.getD i 0 := by rw [List.getD_eq_getElem?_getD, List.getElem?_eq_getElem hKi]; rfl
    have hww : w[i]?.getD 0 = w.getD i 0 := by rw [List.getD_eq_getElem?_getD]
    have hwi : i < w.length := by omega
    have hwg : w[i] = w.getD i 0 := by rw [List.getD_eq_getElem?_getD, List.getElem?_eq_getElem hwi]; rfl
    obtain ⟨kv, hkv⟩ : ∃ x, K64.getD i 0 = x := ⟨_, rfl⟩
    obtain ⟨wv, hwv⟩ : ∃ x, w.getD i 0 = x := ⟨_, rfl⟩
    rw [hkv] at hkk hstep; rw [hwv] at hww hwg hstep
    have hcn : IntKind.u32.wrap (4294967295 - (e : Int)) = ((4294967295 - e : Nat) : Int) := by
      have : e < 4294967296 := he
      rw [wrap_u32 (by omega)]; omega
    have hch := ch_of he hf hg
    have hmj := maj_of ha hb hc
    have hs1 := Sg1_of he
    have hs0 := Sg0_of ha
    have ht := add5_of h (Sg1 e) (chf e f g) kv wv
    have hu := add2_of (Sg0 a) (maj a b c)
    have hstep' : rndN s w (i + 1) = [((h + Sg1 e + chf e f g + kv + wv) % W32 + (Sg0 a + maj a b c) % W32) % W32, a, b, c, (d + (h + Sg1 e + chf e f g + kv + wv) % W32) % W32, e, f, g] := hstep
    obtain ⟨t, htv⟩ : ∃ t, (h + Sg1 e + chf e f g + kv + wv) % W32 = t := ⟨_, rfl⟩
    obtain ⟨u, huv⟩ : ∃ u, (Sg0 a + maj a b c) % W32 = u := ⟨_, rfl⟩
    rw [htv] at ht hstep'
    rw [huv] at hu hstep'
    have hx := add2_of t u
    have hy := add2_of d t
    obtain ⟨x, hxv⟩ : ∃ x, (t + u) % W32 = x := ⟨_, rfl⟩
    obtain ⟨y, hyv⟩ : ∃ y, (d + t) % W32 = y := ⟨_, rfl⟩
    rw [hxv] at hx hstep'; rw [hyv] at hy hstep'
    obtain ⟨n, hnv⟩ : ∃ n, 4294967295 - e = n := ⟨_, rfl⟩
    rw [hnv] at hcn hch
    simp -implicitDefEqProofs [q_ref03_mixed_10, q_ref03_mixed_11, e1, e3, e5, e6, r0, r1, r2, r3, r4, r5, r6, r7, e15, f5, hkk, hww, hwg, hw64, hilc, hKi, hil, hcn, hch]
    refine (w_right he (m := 6) (by omega) rfl).call (.cons (.refl _) rfl (.cons (.refl _) rfl .nil)) rfl ?_
    simp -implicitDefEqProofs [Sub_refl]
    refine (w_right he (m := 11) (by omega) rfl).call (.cons (.refl _) rfl (.cons (.refl _) rfl .nil)) rfl ?_
    simp -implicitDefEqProofs [Sub_refl]
    refine (w_right he (m := 25) (by omega) rfl).call (.cons (.refl _) rfl (.cons (.refl _) rfl .nil)) rfl ?_
    simp -implicitDefEqProofs [Sub_refl, hs1, ht, q_ref03_mixed_12, r0]
    refine (w_right ha (m := 2) (by omega) rfl).call (.cons (.refl _) rfl (.cons (.refl _) rfl .nil)) rfl ?_
    simp -implicitDefEqProofs [Sub_refl, r0]
    refine (w_right ha (m := 13) (by omega) rfl).call (.cons (.refl _) rfl (.cons (.refl _) rfl .nil)) rfl ?_
    simp -implicitDefEqProofs [Sub_refl, r0]
    refine (w_right ha (m := 22) (by omega) rfl).call (.cons (.refl _) rfl (.cons (.refl _) rfl .nil)) rfl ?_
    simp -implicitDefEqProofs [Sub_refl, hs0, hu, hmj, r0, r1, r2, r3, r4, r5, r6, r7, e15, q_ref03_mixed_13, q_ref03_mixed_14, q_ref03_mixed_15, q_ref03_mixed_16, q_ref03_mixed_17, q_ref03_mixed_18, q_ref03_mixed_19, q_ref03_mixed_20, q_ref03_mixed_21, hx, hy]
    refine lp_next (i + 1) ?_ (by omega)
    rw [hstep']
    refine ⟨by omega, rfl, by simp [e1], by simp [e3], by simp [e5], by simp [e6], by simp, by simp, by simp, by simp, by simp, by simp, by simp, by simp, ?_⟩
    simp
    exact wrap_i64 (by omega)
  · have hie : i = 64 := by omega
    subst hie
    simp -implicitDefEqProofs [q_ref03_mixed_10, e15]
    refine hk _ ?_ ?_ ?_ ?_ ?_ ?_ ?_ ?_ ?_ ?_
    · simp [e3]
    · simp [e6]
    all_goals rw [hv]; simp [r0, r1, r2, r3, r4, r5, r6, r7]
theorem w_ref03_mixed {s w : List Nat} (hs : Words s) (h8 : s.length = 8) (hw : Words w) (hw64 : w.length = 64) : Gives Try.prog F_ref03_mixed [.iarr .u32 8 (ints s), .isl .u32 (ints K64), .iarr .u32 64 (ints w)] (.iarr .u32 8 (ints (sumW s (rndN s w 64)))) := by
  refine v_ref03_mixed (by simp) ?_
  simp -implicitDefEqProofs [a_ref03_mixed, q_ref03_mixed_0]
  intro g3 g5 n1 n2 g6 m1 m2 m3 m4
  obtain ⟨s0, s1, s2, s3, s4, s5, s6, s7, hsv⟩ := eight h8
  have hv64 := eight (rndN_length (w := w) h8 64)
  obtain ⟨v0, v1, v2, v3, v4, v5, v6, v7, hvv⟩ := hv64
  have hsum : sumW s (rndN s w 64) = [(s0 + v0) % W32, (s1 + v1) % W32, (s2 + v2) % W32, (s3 + v3) % W32, (s4 + v4) % W32, (s5 + v5) % W32, (s6 + v6) % W32, (s7 + v7) % W32] := by
    rw [hvv, hsv]; rfl
  rw [hsum]
  have hints : ints s = [(s0 : Int), (s1 : Int), (s2 : Int), (s3 : Int), (s4 : Int), (s5 : Int), (s6 : Int), (s7 : Int)] := by rw [hsv]; rfl
  have a0 := add2_of s0 v0; have a1 := add2_of s1 v1; have a2 := add2_of s2 v2; have a3 := add2_of s3 v3
  have a4 := add2_of s4 v4; have a5 := add2_of s5 v5; have a6 := add2_of s6 v6; have a7 := add2_of s7 v7
  obtain ⟨x0, y0⟩ : ∃ x, (s0 + v0) % W32 = x := ⟨_, rfl⟩
  obtain ⟨x1, y1⟩ : ∃ x, (s1 + v1) % W32 = x := ⟨_, rfl⟩
  obtain ⟨x2, y2⟩ : ∃ x, (s2 + v2) % W32 = x := ⟨_, rfl⟩
  obtain ⟨x3, y3⟩ : ∃ x, (s3 + v3) % W32 = x := ⟨_, rfl⟩
  obtain ⟨x4, y4⟩ : ∃ x, (s4 + v4) % W32 = x := ⟨_, rfl⟩
  obtain ⟨x5, y5⟩ : ∃ x, (s5 + v5) % W32 = x := ⟨_, rfl⟩
  obtain ⟨x6, y6⟩ : ∃ x, (s6 + v6) % W32 = x := ⟨_, rfl⟩
  obtain ⟨x7, y7⟩ : ∃ x, (s7 + v7) % W32 = x := ⟨_, rfl⟩
  rw [y0] at a0; rw [y1] at a1; rw [y2] at a2; rw [y3] at a3; rw [y4] at a4; rw [y5] at a5; rw [y6] at a6; rw [y7] at a7
  rw [y0, y1, y2, y3, y4, y5, y6, y7]
  simp -implicitDefEqProofs [q_ref03_mixed_1, q_ref03_mixed_2, q_ref03_mixed_3, q_ref03_mixed_4, q_ref03_mixed_5, q_ref03_mixed_6, q_ref03_mixed_7, q_ref03_mixed_8, q_ref03_mixed_9, n1, n2, m1, m2, m3, m4, hints]
  refine mixed_L22 hs h8 hw hw64 (g3 := g3) (g5 := g5) (g6 := g6) ?_ ?_ ?_ ?_ ?_ ?_ ?_ ?_ ?_ ?_ ?_ ?_ ?_ ?_ fun env' e3 e6 r0 r1 r2 r3 r4 r5 r6 r7 => ?_
  · simp
  · simp
  · simp
  · simp
  · simp [hsv]
  · simp [hsv]
  · simp [hsv]
  · simp [hsv]
  · simp [hsv]
  · simp [hsv]
  · simp [hsv]
  · simp [hsv]
  · simp
  · simp [n1, n2, m1, m2, m3, m4, arr64]
  rw [hvv] at r0 r1 r2 r3 r4 r5 r6 r7
  simp only [List.getD_cons_zero, List.getD_cons_succ] at r0 r1 r2 r3 r4 r5 r6 r7
  simp -implicitDefEqProofs [q_ref03_mixed_22, e3, e6, r0, r1, r2, r3, r4, r5, r6, r7, n1, n2, m1, m2, m3, m4, a0, a1, a2, a3, a4, a5, a6, a7, outOf]
  rfl
end Go.Proofs.Ytfdckjliinpjiaa

/- The walks of the reference's padded and Sum. -/
namespace Go.Proofs.Ytfdckjliinpjiaa
open Go AVL
attribute [-simp] AV.isAgg aappI aapp alen
set_option linter.unusedVariables false
set_option linter.unusedSimpArgs false
set_option maxRecDepth 8000

theorem byts_take {l : List Nat} (h : byts l) (n : Nat) : byts (l.take n) := fun x hx => h x (List.mem_of_mem_take hx)
theorem byts_drop {l : List Nat} (h : byts l) (n : Nat) : byts (l.drop n) := fun x hx => h x (List.mem_of_mem_drop hx)
theorem byts_append {a b : List Nat} (ha : byts a) (hb : byts b) : byts (a ++ b) := fun x hx => (List.mem_append.1 hx).elim (ha x) (hb x)
@[simp] theorem be8_length (n : Nat) : (be8 n).length = 8 := by simp [be8]
theorem be8_get (n i : Nat) (h : i < (be8 n).length) : (be8 n)[i] = n / 256 ^ (7 - i) % 256 := by simp [be8]
theorem be8_byts (n : Nat) : byts (be8 n) := by
  intro x hx
  simp only [be8, List.mem_map] at hx
  obtain ⟨i, _, rfl⟩ := hx
  exact Nat.mod_lt _ (by decide)
theorem padT_byts {l : List Nat} (h : byts l) : byts (padT l) := by
  refine byts_append (byts_append (byts_append h ?_) ?_) (be8_byts _)
  · intro x hx; simp at hx; omega
  · intro x hx; rw [List.eq_of_mem_replicate hx]; decide
/-- One byte of a number. -/
theorem byte_of {n m : Nat} (hm : 8 * m ≤ 64) {k : Int} (hk : k = (8 * m : Nat)) : IntKind.u8.wrap (shrI .u64 (n : Int) k) = ((n / 256 ^ m % 256 : Nat) : Int) := by
  subst hk
  rw [shrI_nat, show min (8 * m) IntKind.u64.bits = 8 * m from Nat.min_eq_left (by show 8 * m ≤ 64; omega), Nat.pow_mul, wrap_u8m]
  exact (Int.natCast_emod (n / (2 ^ 8) ^ m) 256).symm
/-- Part of the padding. -/
def padP (l : List Nat) (j : Nat) : List Nat := l ++ [128] ++ List.replicate j 0
def padQ (l : List Nat) (n i : Nat) : List Nat := padP l (zeros n) ++ (be8 (8 * n)).take i
@[simp] theorem padP_length (l : List Nat) (j : Nat) : (padP l j).length = l.length + 1 + j := by simp [padP]; omega
theorem padP_succ (l : List Nat) (j : Nat) : padP l (j + 1) = padP l j ++ [0] := by simp [padP, List.replicate_succ']
theorem padQ_length (l : List Nat) (n i : Nat) (hi : i ≤ 8) : (padQ l n i).length = l.length + 1 + zeros n + i := by simp [padQ]; omega
theorem padQ_succ (l : List Nat) (n i : Nat) (hi : i < 8) : padQ l n (i + 1) = padQ l n i ++ [8 * n / 256 ^ (7 - i) % 256] := by
  have h : i < (be8 (8 * n)).length := by simpa using hi
  rw [padQ, List.take_succ_eq_append_getElem h, be8_get, ← List.append_assoc]; rfl
theorem padQ_full (l : List Nat) (n : Nat) : padQ l n 8 = l ++ [128] ++ List.replicate (zeros n) 0 ++ be8 (8 * n) := by
  rw [padQ, List.take_of_length_le (by simp)]; rfl
theorem w_ref03_padded {b : List Nat} (hl : b.length ≤ 100000) : MakesS Try.prog F_ref03_padded [.isl .u8 (ints b)] T_uint8 .u8 (ints (padT b)) := by
  refine i_ref03_padded (by simp) fun R hR => ?_
  simp -implicitDefEqProofs [a_ref03_padded, q_ref03_padded_0, q_ref03_padded_1, q_ref03_padded_2]
  refine (SlS.nil (e := T_uint8) (k := .u8) (Sub_refl _)).appO (ys := ints b) (Sub_refl _) (fun Q hQ => ⟨rfl, hQ⟩) (by simp; omega) fun g A1 h1 => ?_
  simp only [List.nil_append, ints_length] at h1
  simp -implicitDefEqProofs [q_ref03_padded_3]
  intro g2 hg2
  refine h1.appO (bytes := 1) (ys := [(128 : Int)]) (sub_none hg2) ?_ (by simp; omega) fun g3 A3 h3 => ?_
  · intro Q hQ; simpa [srcI] using hQ
  have hz : zeros b.length < 64 := Nat.mod_lt _ (by decide)
  have hone : ints b ++ [(128 : Int)] = ints (padP b 0) := by simp [ints, padP]
  rw [hone] at h3 ⊢
  rw [ints_length] at h3 ⊢
  simp -implicitDefEqProofs
  refine X_lp (fun (j : Nat) env B => j ≤ zeros b.length ∧ env 0 = .isl .u8 (ints b) ∧ ∃ g, env 3 = .own g 0 (b.length + 1 + j) ∧ SlS T_uint8 .u8 (.own g 0 (b.length + 1 + j)) (ints (padP b j)) H0 B) (fun j => zeros b.length - j) 0
    ⟨by omega, by simp, g3, by simp, by simpa using h3⟩ ?_
  rintro j env B ⟨hj, e0, gj, e3, hv⟩
  have hmod : ((b.length : Int) + 1 + j).tmod 64 = (((b.length + 1 + j) % 64 : Nat) : Int) := by rw [Int.tmod_eq_emod_of_nonneg (by omega)]; omega
  have hex : (b.length + 1 + j) % 64 = 56 ↔ j = zeros b.length := by unfold zeros at hj ⊢; omega
  have wl : (IntKind.i64.wrap ((b.length : Int) + 1 + j)) = (b.length : Int) + 1 + j := wrap_i64 (by omega)
  by_cases hjz : j = zeros b.length
  · have hm56 : (b.length + 1 + j) % 64 = 56 := hex.2 hjz
    rw [hm56] at hmod
    have w1 : IntKind.u64.wrap (b.length : Int) = (b.length : Int) := wrap_u64 (by omega)
    have w2 : IntKind.u64.wrap ((b.length : Int) * 8) = ((8 * b.length : Nat) : Int) := by rw [wrap_u64 (by omega)]; omega
    obtain ⟨m, hm⟩ : ∃ m, 8 * b.length = m := ⟨_, rfl⟩
    rw [hm] at w2
    simp -implicitDefEqProofs [q_ref03_padded_L6, q_ref03_padded_4, q_ref03_padded_6, q_ref03_padded_7, e0, e3, hmod, w1, w2]
    subst hjz
    have hq0 : padP b (zeros b.length) = padQ b b.length 0 := by simp [padQ]
    rw [hq0] at hv
    refine X_lp (fun (i : Nat) env B => i ≤ 8 ∧ env 4 = .int .u64 m ∧ env 5 = .int .i64 i ∧ ∃ g, env 3 = .own g 0 (b.length + 1 + zeros b.length + i) ∧ SlS T_uint8 .u8 (.own g 0 (b.length + 1 + zeros b.length + i)) (ints (padQ b b.length i)) H0 B) (fun i => 8 - i) 0
      ⟨by omega, by simp, by simp, gj, by simp [e3], hv⟩ ?_
    rintro i env B ⟨hi, e4, e5, gi, e3, hv⟩
    simp -implicitDefEqProofs [q_ref03_padded_L11, q_ref03_padded_8, q_ref03_padded_11, e3, e4, e5]
    refine ⟨fun hil => ?_, fun hil => ?_⟩
    · have w3 : IntKind.i64.wrap (8 * (i : Int)) = 8 * (i : Int) := wrap_i64 (by omega)
      have w4 : IntKind.i64.wrap (56 - 8 * (i : Int)) = 56 - 8 * (i : Int) := wrap_i64 (by omega)
      have w5 : IntKind.u64.wrap (56 - 8 * (i : Int)) = ((8 * (7 - i) : Nat) : Int) := by rw [wrap_u64 (by omega)]; omega
      have w6 := byte_of (n := m) (m := 7 - i) (by omega) (k := ((8 * (7 - i) : Nat) : Int)) rfl
      obtain ⟨sh, hsh⟩ : ∃ s, 8 * (7 - i) = s := ⟨_, rfl⟩
      obtain ⟨y, hy⟩ : ∃ y, m / 256 ^ (7 - i) % 256 = y := ⟨_, rfl⟩
      rw [hsh] at w5 w6; rw [hy] at w6
      have wi : IntKind.i64.wrap ((i : Int) + 1) = (i : Int) + 1 := wrap_i64 (by omega)
      have hlq := padQ_length b b.length i (by omega)
      have hsq := padQ_succ b b.length i (by omega)
      rw [hm, hy] at hsq
      simp -implicitDefEqProofs [q_ref03_padded_9, q_ref03_padded_10, e3, e4, e5, w3, w4, w5, w6]
      intro g5 hg5
      refine hv.appO (bytes := 1) (ys := [(y : Int)]) (sub_none hg5) ?_ (by simp [hlq]; omega) fun g6 A6 h6 => ?_
      · intro Q hQ; simpa [srcI] using hQ
      have hap : ints (padQ b b.length i) ++ [(y : Int)] = ints (padQ b b.length (i + 1)) := by rw [hsq]; simp [ints]
      rw [hap, ints_length, padQ_length b b.length (i + 1) (by omega)] at h6 ⊢
      simp -implicitDefEqProofs [e5, wi]
      exact lp_next (i + 1) ⟨by omega, by simp [e4], by simp, g6, by simp, h6⟩ (by omega)
    · have hie : i = 8 := by omega
      subst hie
      refine hR _ _ _ ?_
      rw [padQ_full] at hv
      have := hv.fin
      simpa -implicitDefEqProofs [fpost, a_ref03_padded, outOf, padT, padQ_length, hz] using this
  · have hm56 : ¬ (b.length + 1 + j) % 64 = 56 := fun e => hjz (hex.1 e)
    obtain ⟨md, hmd⟩ : ∃ m, (b.length + 1 + j) % 64 = m := ⟨_, rfl⟩
    rw [hmd] at hmod hm56
    have hm' : ¬ (md : Int) = 56 := by omega
    simp -implicitDefEqProofs [q_ref03_padded_L6, q_ref03_padded_4, q_ref03_padded_5, e0, e3, hmod, hm']
    intro g5 hg5
    refine hv.appO (bytes := 1) (ys := [(0 : Int)]) (sub_none hg5) ?_ (by simp; omega) fun g6 A6 h6 => ?_
    · intro Q hQ; simpa [srcI] using hQ
    have hap : ints (padP b j) ++ [(0 : Int)] = ints (padP b (j + 1)) := by rw [padP_succ]; simp [ints]
    rw [hap, ints_length, padP_length] at h6 ⊢
    simp -implicitDefEqProofs
    exact lp_next (j + 1) ⟨by omega, by simp [e0], g6, by simp, h6⟩ (by omega)
end Go.Proofs.Ytfdckjliinpjiaa

/- The walk of the reference's Sum. -/
namespace Go.Proofs.Ytfdckjliinpjiaa
open Go AVL
attribute [-simp] AV.isAgg aappI aapp alen
set_option linter.unusedVariables false
set_option linter.unusedSimpArgs false
set_option maxRecDepth 8000

theorem mixAll_succ (n : Nat) (s p : List Nat) : mixAll s (n + 1) p = mixB (mixAll s n p) ((p.drop (64 * n)).take 64) := by
  rw [mixAll_add]; rfl
theorem outB_length (s : List Nat) : (outB s).length = 32 := by simp [outB]
theorem outB_get (s : List Nat) (i : Nat) (h : i < (outB s).length) : (outB s)[i] = s.getD (i / 4) 0 / 2 ^ (24 - 8 * (i % 4)) % 256 := by simp [outB]
theorem byte32_of {n m : Nat} (hm : m ≤ 32) {k : Int} (hk : k = (m : Nat)) : IntKind.u8.wrap (shrI .u32 (n : Int) k) = ((n / 2 ^ m % 256 : Nat) : Int) := by
  rw [shr32 hm hk, wrap_u8m]
  exact (Int.natCast_emod (n / 2 ^ m) 256).symm
def z32 : List Nat := List.replicate 32 0
def arrB (l : List Nat) : Cont := .var T_32_uint8 [.iarr .u8 32 (ints l)]
theorem sum_L13 {s : List Nat} (h8 : s.length = 8) {R : APost} {k : Kt} {env : AEnv} {A : Heap} {g2 g4 g7 : Nat} (e2 : env 2 = .ptr g2 0) (e4 : env 4 = .ptr g4 0) (e7 : env 7 = .ptr g7 0) (e8 : env 8 = .int .i64 0)
    (f2 : A g2 = some (arrB z32)) (f4 : A g4 = some (arr8 s)) (f7 : A g7 = some (arrB z32)) (n2 : g2 ≠ g7) (n4 : g4 ≠ g7)
    (hk : ∀ env' B, env' 2 = .ptr g2 0 → env' 7 = .ptr g7 0 → B g2 = some (arrB z32) → B g7 = some (arrB (outB s)) → XE Try.prog R (.exit 2) k env' B) : X Try.prog R (.loop q_ref03_Sum_L13) k env A := by
  have hol := outB_length s
  refine X_lp (fun (i : Nat) env B => i ≤ 32 ∧ env 2 = .ptr g2 0 ∧ env 4 = .ptr g4 0 ∧ env 7 = .ptr g7 0 ∧ env 8 = .int .i64 i ∧ B g2 = some (arrB z32) ∧ B g4 = some (arr8 s) ∧ B g7 = some (arrB ((outB s).take i ++ List.replicate (32 - i) 0))) (fun i => 32 - i) 0
    ⟨by omega, e2, e4, e7, e8, f2, f4, by rw [List.take_zero, List.nil_append]; exact f7⟩ ?_
  rintro i env B ⟨hi, e2, e4, e7, e8, f2, f4, f7⟩
  simp -implicitDefEqProofs [q_ref03_Sum_L13, q_ref03_Sum_10, e2, e4, e7, e8]
  refine ⟨fun hil => ?_, fun hil => ?_⟩
  · have hio : i < (outB s).length := by omega
    have q1 : IntKind.i64.wrap ((i : Int) / 4) = ((i / 4 : Nat) : Int) := by rw [wrap_i64 (by omega)]; omega
    have q2 : (i : Int).tmod 4 = ((i % 4 : Nat) : Int) := by rw [Int.tmod_eq_emod_of_nonneg (by omega)]; omega
    obtain ⟨d, hd⟩ : ∃ d, i / 4 = d := ⟨_, rfl⟩
    obtain ⟨m, hm⟩ : ∃ m, i % 4 = m := ⟨_, rfl⟩
    have hd8 : d < 8 := by omega
    have hm4 : m < 4 := by omega
    have hbyte := outB_get s i hio
    rw [hd, hm] at hbyte
    rw [hd] at q1; rw [hm] at q2
    have w3 : IntKind.i64.wrap (8 * (m : Int)) = 8 * (m : Int) := wrap_i64 (by omega)
    have w4 : IntKind.i64.wrap (24 - 8 * (m : Int)) = ((24 - 8 * m : Nat) : Int) := by rw [wrap_i64 (by omega)]; omega
    have w5 : IntKind.u64.wrap ((24 - 8 * m : Nat) : Int) = ((24 - 8 * m : Nat) : Int) := wrap_u64 (by omega)
    obtain ⟨x, hx⟩ : ∃ x, s.getD d 0 = x := ⟨_, rfl⟩
    have hsd : s[d]?.getD 0 = x := by rw [← hx, List.getD_eq_getElem?_getD]
    have w6 := byte32_of (n := x) (m := 24 - 8 * m) (by omega) (k := ((24 - 8 * m : Nat) : Int)) rfl
    rw [hx] at hbyte
    obtain ⟨y, hy⟩ : ∃ y, x / 2 ^ (24 - 8 * m) % 256 = y := ⟨_, rfl⟩
    rw [hy] at w6 hbyte
    obtain ⟨sh, hsh⟩ : ∃ t, 24 - 8 * m = t := ⟨_, rfl⟩
    rw [hsh] at w4 w5 w6
    have hset := fill_setN hio (show (outB s).length ≤ 32 by omega)
    rw [hbyte] at hset
    obtain ⟨L, hL⟩ : ∃ L, (outB s).take i ++ List.replicate (32 - i) 0 = L := ⟨_, rfl⟩
    have hLl : L.length = 32 := by rw [← hL]; simp [hol]; omega
    rw [hL] at f7 hset
    have c8 : (d : Int) < 8 := by omega
    have c32 : (i : Int) < 32 := by omega
    have wi : IntKind.i64.wrap ((i : Int) + 1) = (i : Int) + 1 := wrap_i64 (by omega)
    unfold arr8 at f4
    unfold arrB at f7
    simp -implicitDefEqProofs [q_ref03_Sum_11, q_ref03_Sum_12, e2, e4, e7, e8, f4, f7, q1, q2, w3, w4, w5, w6, hsd, h8, c8, c32, hLl, hset, wi, hil]
    refine lp_next (i + 1) ⟨by omega, by simp [e2], by simp [e4], by simp [e7], by simp, by simp [n2, f2], by simp [n4, f4, arr8], ?_⟩ (by omega)
    rw [show 32 - (i + 1) = 31 - i by omega]
    simp [arrB]
  · have hie : i = 32 := by omega
    subst hie
    rw [List.take_of_length_le (by omega), show 32 - 32 = 0 by rfl, List.replicate_zero, List.append_nil] at f7
    refine hk _ _ ?_ ?_ f2 f7
    · simp [e2]
    · simp [e7]
theorem vw_il' {A : Heap} {g n : Nat} {t : TypeId} {k : IntKind} {l : List Nat} (h : A g = some (.irow t k (ints l))) (hn : n = l.length) : Vw A (.own g 0 n) (.isl k (ints l)) := by
  subst hn
  have := Vw.own (A := A) (i := 0) (n := l.length) h (by simp)
  rw [List.drop_zero] at this
  have e : (ints l).take l.length = ints l := List.take_of_length_le (by simp)
  rwa [e] at this
theorem vw_k {A : Heap} {g : Nat} {t : TypeId} {k : IntKind} {l : List Nat} (h : A g = some (.irow t k (ints l))) (hn : l.length = 64) : Vw A (.own g 0 64) (.isl k (ints l)) := vw_il' h hn.symm
theorem dig_eq (b : List Nat) : outB (mixAll H256 ((b.length + 72) / 64) (padT b)) = dig b := rfl
theorem w_ref03_Sum {b : List Nat} (hb : byts b) (hl : b.length ≤ 100000) : Gives Try.prog F_ref03_Sum [.isl .u8 (ints b)] (.iarr .u8 32 (ints (dig b))) := by
  refine v_ref03_Sum (by simp) ?_
  simp -implicitDefEqProofs [a_ref03_Sum, q_ref03_Sum_0, q_ref03_Sum_1, -List.reduceReplicate]
  intro g2
  refine w_ref03_table.call .nil rfl fun gk hgk => ?_
  simp -implicitDefEqProofs [q_ref03_Sum_2, -List.reduceReplicate]
  intro g4 a1 a2 a3 a4
  simp -implicitDefEqProofs [q_ref03_Sum_3, -List.reduceReplicate]
  refine (w_ref03_padded hl).call (.cons (.refl _) rfl .nil) fun v B hB => ?_
  have k1 : gk ≠ g2 := by rintro rfl; simp at hgk
  have f2 := hB.sub g2 (arrB z32) (by simp [a4, Ne.symm k1]; rfl)
  have fk := hB.sub gk (.irow T_uint32 .u32 (ints K64)) (by simp [a2])
  have f4 := hB.sub g4 (arr8 H256) (by simp [arr8]; rfl)
  have hpl := padT_length b
  rcases hB.own with ⟨rfl, hn⟩ | ⟨gv, rfl, hgv, fv⟩
  · have := congrArg List.length hn
    rw [ints_length, hpl] at this
    simp at this; omega
  have v4 : gv ≠ g4 := by rintro rfl; rw [f4] at fv; cases fv
  have n2 : g2 ≠ g4 := fun e => a4 e
  have k4 : gk ≠ g4 := fun e => a2 e
  rw [ints_length]
  obtain ⟨p, hp⟩ : ∃ p, padT b = p := ⟨_, rfl⟩
  obtain ⟨nb, hnb⟩ : ∃ n, (b.length + 72) / 64 = n := ⟨_, rfl⟩
  rw [hnb] at hpl
  rw [hp] at hpl fv
  have hpb : byts p := hp ▸ padT_byts hb
  have hdig : outB (mixAll H256 nb p) = dig b := by rw [← dig_eq, hnb, hp]
  have hm8 : ∀ i, (mixAll H256 i p).length = 8 := fun i => mixAll_length i p rfl
  have hmw : ∀ i, Words (mixAll H256 i p) := fun i => mixAll_words i p H256_words
  rw [hp]
  simp -implicitDefEqProofs [q_ref03_Sum_4, -List.reduceReplicate]
  refine X_lp (fun (i : Nat) env B => i ≤ nb ∧ env 2 = .ptr g2 0 ∧ env 3 = .own gk 0 64 ∧ env 4 = .ptr g4 0 ∧ env 5 = .own gv 0 p.length ∧ env 6 = .int .i64 (64 * i : Nat) ∧ B g2 = some (arrB z32) ∧ B gk = some (.irow T_uint32 .u32 (ints K64)) ∧ B g4 = some (arr8 (mixAll H256 i p)) ∧ B gv = some (.irow T_uint8 .u8 (ints p))) (fun i => nb - i) 0
    ⟨by omega, by simp, by simp, by simp, by simp, by simp, f2, fk, f4, fv⟩ ?_
  clear f2 fk f4 fv hB
  rintro i env B ⟨hi, e2, e3, e4, e5, e6, f2, fk, f4, fv⟩
  by_cases hin : i < nb
  · have c1 : 64 * (i : Int) < p.length := by omega
    have wi : IntKind.i64.wrap (64 * (i : Int) + 64) = ((64 * (i + 1) : Nat) : Int) := by rw [wrap_i64 (by omega)]; omega
    have hmm := hm8 i
    have f4' := f4
    unfold arr8 at f4'
    obtain ⟨blk, hblk⟩ : ∃ x, (p.drop (64 * i)).take 64 = x := ⟨_, rfl⟩
    have hstep := mixAll_succ i H256 p
    rw [hblk] at hstep
    have hcw := w_ref03_words (t := p) (at' := 64 * i) (b := blk) hpb (by omega) hblk.symm (by omega)
    have hcast : ((64 * i : Nat) : Int) = 64 * (i : Int) := by omega
    rw [hcast] at hcw
    simp -implicitDefEqProofs [q_ref03_Sum_L8, q_ref03_Sum_5, q_ref03_Sum_6, q_ref03_Sum_7, e2, e3, e4, e5, e6, c1, f4', hmm, wi, -List.reduceReplicate]
    refine hcw.call (.cons (vw_il' fv rfl) rfl (.cons (.refl _) rfl .nil)) rfl ?_
    simp -implicitDefEqProofs [Sub_refl, -List.reduceReplicate]
    have hbb : byts blk := hblk ▸ byts_take (byts_drop hpb _) _
    refine (w_ref03_mixed (hmw i) (hm8 i) (wsN_words hbb 48) (wsN48_length blk)).call (.cons (.refl _) rfl (.cons (vw_k fk K64_length) rfl (.cons (.refl _) rfl .nil))) rfl ?_
    have hlen8 : (sumW (mixAll H256 i p) (rndN (mixAll H256 i p) (wsN blk 48) 64)).length = 8 := mixB_length _ _
    simp -implicitDefEqProofs [e4, e6, f4', hmm, wi, hlen8, -List.reduceReplicate]
    refine lp_next (i + 1) ⟨by omega, by simp [e2], by simp [e3], by simp [e4], by simp [e5], by simp, by simp [n2, f2], by simp [k4, fk], ?_, by simp [v4, fv]⟩ (by omega)
    rw [hstep]
    simp [arr8]
    rfl
  · have hie : i = nb := by omega
    subst hie
    have c1 : ¬ 64 * (i : Int) < p.length := by omega
    simp -implicitDefEqProofs [q_ref03_Sum_L8, q_ref03_Sum_5, q_ref03_Sum_8, q_ref03_Sum_9, e2, e3, e4, e5, e6, c1, -List.reduceReplicate]
    intro g7 h7
    have y2 := fresh_ne f2 h7
    have y4 := fresh_ne f4 h7
    refine sum_L13 (hm8 i) (g2 := g2) (g4 := g4) (g7 := g7) ?_ ?_ ?_ ?_ ?_ ?_ ?_ y2 y4 fun env' B' e2 e7 f2 f7 => ?_
    · simp [e2]
    · simp [e4]
    · simp
    · simp
    · simp [y2, f2]
    · simp [y4, f4]
    · simp [arrB, z32, ints]
    rw [hdig] at f7
    have hdl : (dig b).length = 32 := outB_length _
    unfold arrB z32 at f2
    unfold arrB at f7
    simp -implicitDefEqProofs [q_ref03_Sum_13, e2, e7, f2, f7, hdl, outOf, -List.reduceReplicate]
end Go.Proofs.Ytfdckjliinpjiaa

/- The walks of the sum that grows: New, Add. -/
namespace Go.Proofs.Ytfdckjliinpjiaa
open Go AVL
attribute [-simp] AV.isAgg aappI aapp alen shp good comps
set_option linter.unusedVariables false
set_option linter.unusedSimpArgs false
set_option maxRecDepth 8000

theorem vw_part {A : Heap} {g i n : Nat} {t : TypeId} {k : IntKind} {l : List Nat} (h : A g = some (.irow t k (ints l))) (hn : i + n ≤ l.length) : Vw A (.own g i n) (.isl k (ints ((l.drop i).take n))) := by
  have := Vw.own (A := A) (i := i) (n := n) h (by simpa using hn)
  rwa [ints_drop, ints_take] at this
/-- A sum of bytes, in memory. -/
def hashC (s : List Nat) (r : AV) (n : Nat) : Cont := .var T_digest_Hash [.iarr .u32 8 (ints s), r, .int .u64 n]
structure HashR (A : Heap) (h : Nat) (r : AV) (l : List Nat) : Prop where
  at' : A h = some (hashC (stW l) r l.length)
  rest : (r = .nilS ∧ stR l = []) ∨ ∃ g, r = .own g 0 (stR l).length ∧ A g = some (.irow T_uint8 .u8 (ints (stR l))) ∧ g ≠ h
theorem w_digest_New {A : Heap} {K Kp : AV → Heap → Prop} (hk : ∀ h, A h = none → HashR (A.set h (hashC H256 .nilS 0)) h .nilS [] → K (.ptr h 0) (A.set h (hashC H256 .nilS 0))) : SimX Try.prog F_digest_New [] A (outK K Kp) := by
  refine j_digest_New (by simp) ?_
  simp -implicitDefEqProofs [a_digest_New, q_digest_New_0, q_digest_New_1]
  intro h hh
  exact hk h hh ⟨by simp [stW, mixAll], .inl ⟨rfl, rfl⟩⟩
theorem w_Hash_AddV {A : Heap} {h : Nat} {r v : AV} {l b : List Nat} (hA : HashR A h r l) (hl : byts l) (hb : byts b) (hll : l.length ≤ 100000) (hbl : b.length ≤ 100000) (hvl : ∀ F : AV → Prop, alen false v F = F (.int .i64 b.length)) (hva : v.isAgg = false)
    (hsrc : ∀ c (Q : List Int → Prop), Q (ints b) → srcI .u8 v (A.set h c) Q) {K Kp : AV → Heap → Prop}
    (hk : ∀ r' A', HashR A' h r' (l ++ b) → (∀ x c, x ≠ h → (∀ n, r ≠ .own x 0 n) → A x = some c → A' x = some c ∧ ∀ n, r' ≠ .own x 0 n) → K (.tuple []) A') : SimX Try.prog F_Pdigest_Hash_Add [.ptr h 0, v] A (outK K Kp) := by
  refine j_Pdigest_Hash_Add (by simp) ?_
  have hat := hA.at'
  unfold hashC at hat
  have w1 : IntKind.u64.wrap (b.length : Int) = (b.length : Int) := wrap_u64 (by omega)
  have w2 : IntKind.u64.wrap ((l.length : Int) + (b.length : Int)) = ((l.length + b.length : Nat) : Int) := by rw [wrap_u64 (by omega)]; omega
  have hsc : r.size = 1 ∧ shp .sc [r] = some r ∧ r.isAgg = false := by
    rcases hA.rest with ⟨rfl, _⟩ | ⟨g, rfl, _⟩ <;> exact ⟨rfl, rfl, rfl⟩
  obtain ⟨n', hn'⟩ : ∃ n', l.length + b.length = n' := ⟨_, rfl⟩
  rw [hn'] at w2
  have hW8 : (stW l).length = 8 := mixAll_length _ _ rfl
  have hsl := stR_length l
  obtain ⟨all, hall⟩ : ∃ x, stR l ++ b = x := ⟨_, rfl⟩
  have hal : all.length = (stR l).length + b.length := by rw [← hall]; simp
  -- the row of all
  have row : ∃ X : Heap, (∀ x c, x ≠ h → (∀ n, r ≠ .own x 0 n) → A x = some c → X x = some c) ∧ X h = some (hashC (stW l) r n') ∧ SlS T_uint8 .u8 r (ints (stR l)) X (A.set h (hashC (stW l) r n')) ∧ ∀ x c, X x = some c → ∀ n, r ≠ .own x 0 n := by
    rcases hA.rest with ⟨rfl, h0⟩ | ⟨g, rfl, hg, hgh⟩
    · refine ⟨A.set h (hashC (stW l) .nilS n'), fun x c hx _ hc => by rw [Heap.set_ne _ _ hx]; exact hc, set_eq', ?_, fun x c _ n e => by cases e⟩
      rw [h0]; exact SlS.nil (Sub_refl _)
    · refine ⟨(A.set h (hashC (stW l) (.own g 0 (stR l).length) n')).del g, fun x c hx hr hc => ?_, ?_, SlS.alone (by simp) (by rw [Heap.set_ne _ _ hgh]; exact hg), fun x c hx n e => ?_⟩
      · have hxg : x ≠ g := fun e => hr _ (by rw [e])
        rw [del_app, if_neg hxg, Heap.set_ne _ _ hx]; exact hc
      · rw [del_app, if_neg (Ne.symm hgh)]; exact set_eq'
      · injection e with e1 _ _; subst e1; simp [del_app] at hx
  obtain ⟨X, x1, x2, x3, x4⟩ := row
  obtain ⟨hsz, hshp, hag⟩ := hsc
  simp -implicitDefEqProofs [a_Pdigest_Hash_Add, q_Pdigest_Hash_Add_0, q_Pdigest_Hash_Add_1, hat, hsz, hshp, hag, hvl, hva, w1, w2]
  refine x3.appO (bytes := 1) (ys := ints b) (sub_of_eq ?_) (fun Q hQ => hsrc _ Q hQ) (by simp only [ints_length]; omega) fun ga C hC => ?_
  · rfl
  have hap : ints (stR l) ++ ints b = ints all := by rw [← hall]; simp
  rw [hap, ints_length] at hC ⊢
  have gaX : X ga = none := by
    rcases hC.own with ⟨e, _⟩ | ⟨g, e, hg, _⟩
    · cases e
    · injection e with e _ _; rw [e]; exact hg
  have gaC : C ga = some (.irow T_uint8 .u8 (ints all)) := by
    rcases hC.own with ⟨e, _⟩ | ⟨g, e, _, hg⟩
    · cases e
    · injection e with e _ _; rw [e]; exact hg
  have gah : ga ≠ h := by rintro rfl; rw [x2] at gaX; cases gaX
  simp -implicitDefEqProofs
  have hab : byts all := by rw [← hall]; exact byts_append (byts_drop hl _) hb
  have hWw : ∀ j, Words (mixAll (stW l) j all) := fun j => mixAll_words _ _ (mixAll_words _ _ H256_words)
  have hW : ∀ j, (mixAll (stW l) j all).length = 8 := fun j => mixAll_length _ _ hW8
  refine X_lp (fun (j : Nat) env B => 64 * j ≤ all.length ∧ env 0 = .ptr h 0 ∧ env 4 = .own ga (64 * j) (all.length - 64 * j) ∧ B h = some (hashC (mixAll (stW l) j all) r n') ∧ B ga = some (.irow T_uint8 .u8 (ints all)) ∧ ∀ x c, x ≠ h → X x = some c → B x = some c) (fun j => all.length - 64 * j) 0
    ⟨by omega, by simp, by simp, hC.sub _ _ x2, gaC, fun x c _ hx => hC.sub _ _ hx⟩ ?_
  rintro j env B ⟨hj, e0, e4, fh, fg, fx⟩
  obtain ⟨m, hm⟩ : ∃ m, all.length - 64 * j = m := ⟨_, rfl⟩
  rw [hm] at e4
  unfold hashC at fh
  by_cases h64 : 64 ≤ m
  · have c64 : (64 : Int) ≤ m := by omega
    simp -implicitDefEqProofs [q_Pdigest_Hash_Add_L5, q_Pdigest_Hash_Add_2, q_Pdigest_Hash_Add_3, q_Pdigest_Hash_Add_4, e0, e4, fh, fg, c64, hW, hsz]
    obtain ⟨blk, hblk⟩ : ∃ x, (all.drop (64 * j)).take 64 = x := ⟨_, rfl⟩
    have hbb : byts blk := hblk ▸ byts_take (byts_drop hab _) _
    have hbl64 : blk.length = 64 := by rw [← hblk]; simp; omega
    have hvw := vw_part fg (show 64 * j + 64 ≤ all.length by omega)
    rw [hblk] at hvw
    have hstep := mixAll_succ j (stW l) all
    rw [hblk] at hstep
    refine (w_digest_mix (hWw j) (hW j) hbb hbl64).call (.cons (.refl _) rfl (.cons hvw rfl .nil)) rfl ?_
    have hm8 := mixB_length (mixAll (stW l) j all) blk
    simp -implicitDefEqProofs [e0, e4, fh, fg, hW, hsz, hm8, gah, c64]
    refine lp_next (j + 1) ⟨by omega, by simp [e0], ?_, ?_, by simp [gah, fg], fun x c hx hc => ?_⟩ (by omega)
    · simp; omega
    · rw [hstep]; simp [hashC]
    · rw [Heap.set_ne _ _ hx]; exact fx x c hx hc
  · have c64 : ¬ (64 : Int) ≤ m := by omega
    have hjd : j = all.length / 64 := by omega
    have hrl : (all.drop (64 * j)).take m = all.drop (64 * j) := List.take_of_length_le (by simp; omega)
    have hst : stR (l ++ b) = all.drop (64 * j) := by rw [stR_add, hall, hjd]
    have hsw : stW (l ++ b) = mixAll (stW l) j all := by rw [stW_add, hall, hjd]
    simp -implicitDefEqProofs [q_Pdigest_Hash_Add_L5, q_Pdigest_Hash_Add_2, q_Pdigest_Hash_Add_5, e0, e4, c64]
    intro g7 hg7
    refine (SlS.one (e := T_uint8) (l := []) (n := 0) hg7 rfl).appO (bytes := 1) (ys := ints (stR (l ++ b))) (Sub_refl _) (fun Q hQ => ?_) (by simp only [ints_length, List.length_nil]; have := stR_length (l ++ b); omega) fun g8 C8 h8 => ?_
    · have hne := fresh_ne fg hg7
      rw [hst] at hQ
      simp only [srcI, Heap.set_ne _ _ hne, fg]
      refine ⟨trivial, by simp; omega, ?_⟩
      rw [ints_drop, ints_take, hrl]; exact hQ
    simp only [List.nil_append, ints_length] at h8 ⊢
    have g8B : B g8 = none := by
      rcases h8.own with ⟨e, _⟩ | ⟨g, e, hg, _⟩
      · cases e
      · injection e with e _ _; rw [e]; exact hg
    have g8C : C8 g8 = some (.irow T_uint8 .u8 (ints (stR (l ++ b)))) := by
      rcases h8.own with ⟨e, _⟩ | ⟨g, e, _, hg⟩
      · cases e
      · injection e with e _ _; rw [e]; exact hg
    have fh8 := h8.sub _ _ fh
    have g8h : g8 ≠ h := by rintro rfl; rw [fh] at g8B; cases g8B
    simp -implicitDefEqProofs [e0, fh8, hsz]
    have hnn : n' = (l ++ b).length := by rw [List.length_append, hn']
    refine hk (.own g8 0 (stR (l ++ b)).length) _ ⟨?_, .inr ⟨g8, rfl, by rw [Heap.set_ne _ _ g8h]; exact g8C, g8h⟩⟩ fun x c hx hr hc => ⟨?_, fun n e => ?_⟩
    · rw [hsw, ← hnn]; simp [hashC]
    · rw [Heap.set_ne _ _ hx]; exact h8.sub _ _ (fx x c hx (x1 x c hx hr hc))
    · injection e with e _ _
      subst e
      have := fx _ _ hx (x1 _ _ hx hr hc)
      rw [g8B] at this; cases this
theorem w_Hash_Add {A : Heap} {h : Nat} {r : AV} {l b : List Nat} (hA : HashR A h r l) (hl : byts l) (hb : byts b) (hll : l.length ≤ 100000) (hbl : b.length ≤ 100000) {K Kp : AV → Heap → Prop}
    (hk : ∀ r' A', HashR A' h r' (l ++ b) → (∀ x c, x ≠ h → (∀ n, r ≠ .own x 0 n) → A x = some c → A' x = some c ∧ ∀ n, r' ≠ .own x 0 n) → K (.tuple []) A') : SimX Try.prog F_Pdigest_Hash_Add [.ptr h 0, .isl .u8 (ints b)] A (outK K Kp) :=
  w_Hash_AddV hA hl hb hll hbl (v := .isl .u8 (ints b)) (fun F => by simp) rfl (fun c Q hQ => (show srcI .u8 (.isl .u8 (ints b)) (A.set h c) Q from ⟨rfl, hQ⟩)) hk
end Go.Proofs.Ytfdckjliinpjiaa

/- The walks of the sum that grows: Sum, Of. -/
namespace Go.Proofs.Ytfdckjliinpjiaa
open Go AVL
attribute [-simp] AV.isAgg aappI aapp alen shp good comps
set_option linter.unusedVariables false
set_option linter.unusedSimpArgs false
set_option maxRecDepth 8000

/-- A sum, seen. -/
def hashV (l : List Nat) : AV := .pval (.agg [.iarr .u32 8 (ints (stW l)), .isl .u8 (ints (stR l)), .int .u64 l.length])
theorem hash_vw {A : Heap} {h : Nat} {r : AV} {l : List Nat} (hA : HashR A h r l) : Vw A (.ptr h 0) (hashV l) := by
  refine .ptr hA.at' (.cons (.refl _) (.cons ?_ (.cons (.refl _) .nil)))
  rcases hA.rest with ⟨rfl, h0⟩ | ⟨g, rfl, hg, _⟩
  · rw [h0]; exact .nil .u8
  · exact vw_il' hg rfl
theorem hsum_L18 {s : List Nat} (h8 : s.length = 8) {R : APost} {k : Kt} {env : AEnv} {A : Heap} {g2 g5 g6 : Nat} (e2 : env 2 = .ptr g2 0) (e5 : env 5 = .ptr g5 0) (e6 : env 6 = .ptr g6 0) (e52 : env 52 = .int .i64 0)
    (f2 : A g2 = some (arrB z32)) (f5 : A g5 = some (arr8 s)) (f6 : A g6 = some (arrB z32)) (n2 : g2 ≠ g6) (n5 : g5 ≠ g6)
    (hk : ∀ env' B, env' 2 = .ptr g2 0 → env' 6 = .ptr g6 0 → B g2 = some (arrB z32) → B g6 = some (arrB (outB s)) → XE Try.prog R (.exit 6) k env' B) : X Try.prog R (.loop q_Pdigest_Hash_Sum_L18) k env A := by
  have hol := outB_length s
  refine X_lp (fun (i : Nat) env B => i ≤ 32 ∧ env 2 = .ptr g2 0 ∧ env 5 = .ptr g5 0 ∧ env 6 = .ptr g6 0 ∧ env 52 = .int .i64 i ∧ B g2 = some (arrB z32) ∧ B g5 = some (arr8 s) ∧ B g6 = some (arrB ((outB s).take i ++ List.replicate (32 - i) 0))) (fun i => 32 - i) 0
    ⟨by omega, e2, e5, e6, e52, f2, f5, by rw [List.take_zero, List.nil_append]; exact f6⟩ ?_
  rintro i env B ⟨hi, e2, e5, e6, e52, f2, f5, f6⟩
  simp -implicitDefEqProofs [q_Pdigest_Hash_Sum_L18, q_Pdigest_Hash_Sum_14, e2, e5, e6, e52]
  refine ⟨fun hil => ?_, fun hil => ?_⟩
  · have hio : i < (outB s).length := by omega
    have q1 : IntKind.i64.wrap ((i : Int) / 4) = ((i / 4 : Nat) : Int) := by rw [wrap_i64 (by omega)]; omega
    have q2 : (i : Int).tmod 4 = ((i % 4 : Nat) : Int) := by rw [Int.tmod_eq_emod_of_nonneg (by omega)]; omega
    obtain ⟨d, hd⟩ : ∃ d, i / 4 = d := ⟨_, rfl⟩
    obtain ⟨m, hm⟩ : ∃ m, i % 4 = m := ⟨_, rfl⟩
    have hd8 : d < 8 := by omega
    have hm4 : m < 4 := by omega
    have hbyte := outB_get s i hio
    rw [hd, hm] at hbyte
    rw [hd] at q1; rw [hm] at q2
    have w3 : IntKind.i64.wrap (8 * (m : Int)) = 8 * (m : Int) := wrap_i64 (by omega)
    have w4 : IntKind.i64.wrap (24 - 8 * (m : Int)) = ((24 - 8 * m : Nat) : Int) := by rw [wrap_i64 (by omega)]; omega
    obtain ⟨x, hx⟩ : ∃ x, s.getD d 0 = x := ⟨_, rfl⟩
    have hsd : s[d]?.getD 0 = x := by rw [← hx, List.getD_eq_getElem?_getD]
    have w6 := byte32_of (n := x) (m := 24 - 8 * m) (by omega) (k := ((24 - 8 * m : Nat) : Int)) rfl
    rw [hx] at hbyte
    obtain ⟨y, hy⟩ : ∃ y, x / 2 ^ (24 - 8 * m) % 256 = y := ⟨_, rfl⟩
    rw [hy] at w6 hbyte
    obtain ⟨sh, hsh⟩ : ∃ t, 24 - 8 * m = t := ⟨_, rfl⟩
    rw [hsh] at w4 w6
    have hset := fill_setN hio (show (outB s).length ≤ 32 by omega)
    rw [hbyte] at hset
    obtain ⟨L, hL⟩ : ∃ L, (outB s).take i ++ List.replicate (32 - i) 0 = L := ⟨_, rfl⟩
    have hLl : L.length = 32 := by rw [← hL]; simp [hol]; omega
    rw [hL] at f6 hset
    have c8 : (d : Int) < 8 := by omega
    have c32 : (i : Int) < 32 := by omega
    have p0 : 0 ≤ (sh : Int) := by omega
    have wi : IntKind.i64.wrap ((i : Int) + 1) = (i : Int) + 1 := wrap_i64 (by omega)
    unfold arr8 at f5
    unfold arrB at f6
    simp -implicitDefEqProofs [q_Pdigest_Hash_Sum_15, q_Pdigest_Hash_Sum_16, q_Pdigest_Hash_Sum_17, e2, e5, e6, e52, f5, f6, q1, q2, w3, w4, w6, hsd, h8, c8, c32, hLl, hset, wi, hil]
    refine lp_next (i + 1) ⟨by omega, by simp [e2], by simp [e5], by simp [e6], by simp, by simp [n2, f2], by simp [n5, f5, arr8], ?_⟩ (by omega)
    rw [show 32 - (i + 1) = 31 - i by omega]
    simp [arrB]
  · have hie : i = 32 := by omega
    subst hie
    rw [List.take_of_length_le (by omega), show 32 - 32 = 0 by rfl, List.replicate_zero, List.append_nil] at f6
    refine hk _ _ ?_ ?_ f2 f6
    · simp [e2]
    · simp [e6]
theorem hsum_L12 {W e : List Nat} (hW8 : W.length = 8) (hWw : Words W) (heb : byts e) {nb : Nat} (hel : e.length = 64 * nb) (hem : e.length ≤ 200000) {R : APost} {k : Kt} {env : AEnv} {A : Heap} {g2 g5 ge : Nat}
    (e2 : env 2 = .ptr g2 0) (e3 : env 3 = .own ge 0 e.length) (e5 : env 5 = .ptr g5 0) (f2 : A g2 = some (arrB z32)) (f5 : A g5 = some (arr8 W)) (fe : A ge = some (.irow T_uint8 .u8 (ints e)))
    (hk : ∀ env' B, env' 2 = .ptr g2 0 → env' 5 = .ptr g5 0 → B g2 = some (arrB z32) → B g5 = some (arr8 (mixAll W nb e)) → XE Try.prog R (.exit 4) k env' B) : X Try.prog R (.loop q_Pdigest_Hash_Sum_L12) k env A := by
  have n2 : g2 ≠ g5 := by rintro rfl; rw [f2] at f5; cases f5
  have ne : ge ≠ g5 := by rintro rfl; rw [f5] at fe; cases fe
  have hWw' : ∀ j, Words (mixAll W j e) := fun j => mixAll_words _ _ hWw
  have hW : ∀ j, (mixAll W j e).length = 8 := fun j => mixAll_length _ _ hW8
  refine X_lp (fun (j : Nat) env B => j ≤ nb ∧ env 2 = .ptr g2 0 ∧ env 3 = .own ge (64 * j) (64 * (nb - j)) ∧ env 5 = .ptr g5 0 ∧ B g2 = some (arrB z32) ∧ B g5 = some (arr8 (mixAll W j e)) ∧ B ge = some (.irow T_uint8 .u8 (ints e))) (fun j => nb - j) 0
    ⟨by omega, e2, by rw [e3, hel]; simp, e5, f2, f5, fe⟩ ?_
  rintro j env B ⟨hj, e2, e3, e5, f2, f5, fe⟩
  have f5' := f5
  unfold arr8 at f5'
  by_cases hjn : j < nb
  · obtain ⟨m, hm⟩ : ∃ m, 64 * (nb - j) = m := ⟨_, rfl⟩
    rw [hm] at e3
    have c0 : 0 < m := by omega
    have c64 : (64 : Int) ≤ m := by omega
    obtain ⟨blk, hblk⟩ : ∃ x, (e.drop (64 * j)).take 64 = x := ⟨_, rfl⟩
    have hbb : byts blk := hblk ▸ byts_take (byts_drop heb _) _
    have hbl64 : blk.length = 64 := by rw [← hblk]; simp; omega
    have hvw := vw_part fe (show 64 * j + 64 ≤ e.length by omega)
    rw [hblk] at hvw
    have hstep := mixAll_succ j W e
    rw [hblk] at hstep
    simp -implicitDefEqProofs [q_Pdigest_Hash_Sum_L12, q_Pdigest_Hash_Sum_9, q_Pdigest_Hash_Sum_10, q_Pdigest_Hash_Sum_11, e2, e3, e5, f5', fe, c0, c64, hW]
    refine (w_digest_mix (hWw' j) (hW j) hbb hbl64).call (.cons (.refl _) rfl (.cons hvw rfl .nil)) rfl ?_
    have hm8 := mixB_length (mixAll W j e) blk
    simp -implicitDefEqProofs [e2, e3, e5, f5', fe, ne, hW, hm8, c64]
    refine lp_next (j + 1) ⟨by omega, by simp [e2], ?_, by simp [e5], by simp [n2, f2], ?_, by simp [ne, fe]⟩ (by omega)
    · simp; omega
    · rw [hstep]; simp [arr8]
  · have hje : j = nb := by omega
    subst hje
    rw [Nat.sub_self, Nat.mul_zero] at e3
    simp -implicitDefEqProofs [q_Pdigest_Hash_Sum_L12, q_Pdigest_Hash_Sum_9, e3]
    refine hk _ _ ?_ ?_ f2 f5
    · simp [e2]
    · simp [e5]
theorem hsum_6 {W Rr : List Nat} {N : Int} {m sh y : Nat} {gi n : Nat} {q : Int} {R : APost} {k : Kt} {env : AEnv} {A : Heap} (e0 : env 0 = .pval (.agg [.iarr .u32 8 (ints W), .isl .u8 (ints Rr), .int .u64 N]))
    (e3 : env 3 = .own gi 0 n) (e4 : env 4 = .int .i64 q) (w2 : IntKind.u64.wrap (8 * N) = ((m : Nat) : Int)) (w3 : IntKind.i64.wrap (8 * q) = ((sh : Nat) : Int))
    (w6 : IntKind.u8.wrap (shrI .u64 (m : Int) (sh : Int)) = (y : Int)) (p0 : 0 ≤ (sh : Int)) {l : List Int} {X0 : Heap} (hv : SlS T_uint8 .u8 (.own gi 0 n) l X0 A) (hn : l.length = n) (hb : n ≤ 200000)
    (hk : ∀ env' B g, env' 0 = .pval (.agg [.iarr .u32 8 (ints W), .isl .u8 (ints Rr), .int .u64 N]) → env' 2 = env 2 → env' 3 = .own g 0 (n + 1) → env' 4 = env 4 → SlS T_uint8 .u8 (.own g 0 (n + 1)) (l ++ [(y : Int)]) X0 B → XE Try.prog R .normal k env' B) : X Try.prog R (.region q_Pdigest_Hash_Sum_6) k env A := by
  simp -implicitDefEqProofs [q_Pdigest_Hash_Sum_6, e0, e3, e4, w2, w3, w6]
  intro g5 hg5
  refine hv.appO (bytes := 1) (ys := [(y : Int)]) (sub_none hg5) ?_ (by simp only [List.length_singleton]; omega) fun g6 A6 h6 => ?_
  · intro Q hQ; simpa [srcI] using hQ
  have hl1 : (l ++ [(y : Int)]).length = n + 1 := by simp [hn]
  rw [hl1] at h6 ⊢
  simp -implicitDefEqProofs
  refine hk _ _ g6 ?_ ?_ ?_ ?_ h6 <;> simp [e0, e3, e4]
theorem hsum_core {W Rr d : List Nat} {n : Nat} {N : Int} (hN : N = n) (hRb : byts Rr) (hW8 : W.length = 8) (hWw : Words W) (hsl : Rr.length = n % 64) (hll : n ≤ 100000) (hdl : d.length = 32)
    (hds : ∀ e, Rr ++ [128] ++ List.replicate (zeros n) 0 ++ be8 (8 * n) = e → d = outB (mixAll W (e.length / 64) e)) :
    Gives Try.prog F_Pdigest_Hash_Sum [.pval (.agg [.iarr .u32 8 (ints W), .isl .u8 (ints Rr), .int .u64 N])] (.iarr .u8 32 (ints d)) := by
  refine v_Pdigest_Hash_Sum (by simp) ?_
  simp -implicitDefEqProofs [a_Pdigest_Hash_Sum, q_Pdigest_Hash_Sum_0, q_Pdigest_Hash_Sum_1, -List.reduceReplicate]
  intro g2 g8 n1 n2
  obtain ⟨X2, hX2⟩ : ∃ X : Heap, H0.set g2 (.var T_32_uint8 [.iarr .u8 32 (List.replicate 32 0)]) = X := ⟨_, rfl⟩
  have x2 : X2 g2 = some (arrB z32) := by rw [← hX2]; exact set_eq'
  have x8 : X2 g8 = none := by rw [← hX2]; simp [n1]
  rw [hX2]
  refine (SlS.one (e := T_uint8) (l := []) (n := 0) x8 rfl).appO (bytes := 1) (ys := ints Rr) (Sub_refl _) (fun Q hQ => ⟨rfl, hQ⟩) (by simp only [ints_length, List.length_nil]; omega) fun g9 A9 h9 => ?_
  simp only [List.nil_append, ints_length] at h9 ⊢
  simp -implicitDefEqProofs
  intro g10 hg10
  refine h9.appO (bytes := 1) (ys := [(128 : Int)]) (sub_none hg10) ?_ (by simp only [ints_length, List.length_singleton]; omega) fun g3 A3 h3 => ?_
  · intro Q hQ; simpa [srcI] using hQ
  have hone : ints Rr ++ [(128 : Int)] = ints (padP Rr 0) := by simp [ints, padP]
  rw [hone, ints_length] at h3 ⊢
  have hz : zeros n < 64 := Nat.mod_lt _ (by decide)
  have hzz : zeros Rr.length = zeros n := by unfold zeros; rw [hsl]; omega
  simp -implicitDefEqProofs
  refine X_lp (fun (j : Nat) env B => j ≤ zeros n ∧ env 0 = .pval (.agg [.iarr .u32 8 (ints W), .isl .u8 (ints Rr), .int .u64 N]) ∧ env 2 = .ptr g2 0 ∧ ∃ g, env 3 = .own g 0 (Rr.length + 1 + j) ∧ SlS T_uint8 .u8 (.own g 0 (Rr.length + 1 + j)) (ints (padP Rr j)) X2 B) (fun j => zeros n - j) 0
    ⟨by omega, by simp, by simp, g3, by simp, by simpa using h3⟩ ?_
  rintro j env B ⟨hj, e0, e2, gj, e3, hv⟩
  have hmod : ((Rr.length : Int) + 1 + j).tmod 64 = (((Rr.length + 1 + j) % 64 : Nat) : Int) := by rw [Int.tmod_eq_emod_of_nonneg (by omega)]; omega
  have hex : (Rr.length + 1 + j) % 64 = 56 ↔ j = zeros n := by rw [← hzz] at hj ⊢; unfold zeros at hj ⊢; omega
  by_cases hjz : j = zeros n
  · have hm56 : (Rr.length + 1 + j) % 64 = 56 := hex.2 hjz
    rw [hm56] at hmod
    simp -implicitDefEqProofs [q_Pdigest_Hash_Sum_L4, q_Pdigest_Hash_Sum_2, q_Pdigest_Hash_Sum_4, e3, hmod]
    subst hjz
    have hq0 : padP Rr (zeros n) = padQ Rr n 0 := by simp [padQ]
    rw [hq0] at hv
    obtain ⟨m, hm⟩ : ∃ m, 8 * n = m := ⟨_, rfl⟩
    have w2 : IntKind.u64.wrap (8 * N) = ((m : Nat) : Int) := by rw [hN, wrap_u64 (by omega)]; omega
    refine X_lp (fun (i : Nat) env B => i ≤ 8 ∧ env 0 = .pval (.agg [.iarr .u32 8 (ints W), .isl .u8 (ints Rr), .int .u64 N]) ∧ env 2 = .ptr g2 0 ∧ env 4 = .int .i64 (7 - (i : Int)) ∧ ∃ g, env 3 = .own g 0 (Rr.length + 1 + zeros n + i) ∧ SlS T_uint8 .u8 (.own g 0 (Rr.length + 1 + zeros n + i)) (ints (padQ Rr n i)) X2 B) (fun i => 8 - i) 0
      ⟨by omega, by simp [e0], by simp [e2], by simp, gj, by simp [e3], hv⟩ ?_
    rintro i env B ⟨hi, e0, e2, e4, gi, e3, hv⟩
    by_cases hil : i < 8
    · have c0 : (i : Int) ≤ 7 := by omega
      have w3 : IntKind.i64.wrap (8 * (7 - (i : Int))) = ((8 * (7 - i) : Nat) : Int) := by rw [wrap_i64 (by omega)]; omega
      have w6 := byte_of (n := m) (m := 7 - i) (by omega) (k := ((8 * (7 - i) : Nat) : Int)) rfl
      obtain ⟨sh, hsh⟩ : ∃ s, 8 * (7 - i) = s := ⟨_, rfl⟩
      obtain ⟨y, hy⟩ : ∃ y, m / 256 ^ (7 - i) % 256 = y := ⟨_, rfl⟩
      rw [hsh] at w3 w6; rw [hy] at w6
      have wi : IntKind.i64.wrap (7 - (i : Int) - 1) = 7 - ((i + 1 : Nat) : Int) := by rw [wrap_i64 (by omega)]; omega
      have hlq := padQ_length Rr n i (by omega)
      have hsq := padQ_succ Rr n i (by omega)
      rw [hm, hy] at hsq
      have p0 : 0 ≤ (sh : Int) := by omega
      simp -implicitDefEqProofs [q_Pdigest_Hash_Sum_L8, q_Pdigest_Hash_Sum_5, e4, c0]
      refine hsum_6 (W := W) (Rr := Rr) (q := 7 - (i : Int)) (gi := gi) (n := Rr.length + 1 + zeros n + i) ?_ ?_ ?_ w2 w3 w6 p0 hv (by rw [ints_length, hlq]) (by omega) fun env' B' g e0' e2' e3' e4' h6 => ?_
      · simp [e0]
      · simp [e3]
      · simp [e4]
      have hap : ints (padQ Rr n i) ++ [(y : Int)] = ints (padQ Rr n (i + 1)) := by rw [hsq]; simp [ints]
      rw [hap] at h6
      simp [e2] at e2'
      simp [e4] at e4'
      simp -implicitDefEqProofs [q_Pdigest_Hash_Sum_7, e4', wi]
      exact lp_next (i + 1) ⟨by omega, by simp [e0'], by simp [e2'], by simp, g, by simp [e3', Nat.add_assoc], by simpa only [Nat.add_assoc] using h6⟩ (by omega)
    · have hie : i = 8 := by omega
      subst hie
      simp -implicitDefEqProofs [q_Pdigest_Hash_Sum_L8, q_Pdigest_Hash_Sum_5, e4]
      rw [padQ_full, ← hzz, hzz] at hv
      obtain ⟨e, he⟩ : ∃ e, Rr ++ [128] ++ List.replicate (zeros n) 0 ++ be8 (8 * n) = e := ⟨_, rfl⟩
      have hds := hds e he
      rw [he] at hv
      have hel0 : e.length = Rr.length + 1 + zeros n + 8 := by rw [← he]; simp; omega
      have hel : e.length = 64 * (e.length / 64) := by
        have : zeros n = (119 - n % 64) % 64 := rfl
        omega
      have heb : byts e := by
        rw [← he]
        refine byts_append (byts_append (byts_append hRb ?_) ?_) (be8_byts _)
        · intro x hx; simp at hx; omega
        · intro x hx; rw [List.eq_of_mem_replicate hx]; decide
      obtain ⟨nb, hnb⟩ : ∃ n, e.length / 64 = n := ⟨_, rfl⟩
      rw [hnb] at hds hel
      rw [← hel0] at hv e3
      have ge : B gi = some (.irow T_uint8 .u8 (ints e)) := by
        rcases hv.own with ⟨h, _⟩ | ⟨g, h, _, hg⟩
        · cases h
        · injection h with h _ _; rw [h]; exact hg
      have f2 := hv.sub _ _ x2
      simp -implicitDefEqProofs [q_Pdigest_Hash_Sum_8, e0, hW8]
      intro g5 h5
      refine hsum_L12 hW8 hWw heb hel (by omega) (g2 := g2) (g5 := g5) (ge := gi) ?_ ?_ ?_ ?_ ?_ ?_ fun env' B' e2 e5 f2 f5 => ?_
      · simp [e2]
      · simp [e3]
      · simp
      · simp [fresh_ne f2 h5, f2]
      · simp [arr8]
      · simp [fresh_ne ge h5, ge]
      simp -implicitDefEqProofs [q_Pdigest_Hash_Sum_12, q_Pdigest_Hash_Sum_13, -List.reduceReplicate]
      intro g6 h6
      refine hsum_L18 (mixAll_length nb e hW8) (g2 := g2) (g5 := g5) (g6 := g6) ?_ ?_ ?_ ?_ ?_ ?_ ?_ (fresh_ne f2 h6) (fresh_ne f5 h6) fun env' B'' e2 e6 f2 f6 => ?_
      · simp [e2]
      · simp [e5]
      · simp
      · simp
      · simp [fresh_ne f2 h6, f2]
      · simp [fresh_ne f5 h6, f5]
      · simp [arrB, z32, ints]
      rw [← hds] at f6
      unfold arrB z32 at f2
      unfold arrB at f6
      simp -implicitDefEqProofs [q_Pdigest_Hash_Sum_18, e2, e6, f2, f6, hdl, outOf, -List.reduceReplicate]
  · have hm56 : ¬ (Rr.length + 1 + j) % 64 = 56 := fun e => hjz (hex.1 e)
    obtain ⟨md, hmd⟩ : ∃ m, (Rr.length + 1 + j) % 64 = m := ⟨_, rfl⟩
    rw [hmd] at hmod hm56
    have hm' : ¬ (md : Int) = 56 := by omega
    simp -implicitDefEqProofs [q_Pdigest_Hash_Sum_L4, q_Pdigest_Hash_Sum_2, q_Pdigest_Hash_Sum_3, e3, hmod, hm']
    intro g5 hg5
    refine hv.appO (bytes := 1) (ys := [(0 : Int)]) (sub_none hg5) ?_ (by simp only [ints_length, List.length_singleton, padP_length]; omega) fun g6 A6 h6 => ?_
    · intro Q hQ; simpa [srcI] using hQ
    have hap : ints (padP Rr j) ++ [(0 : Int)] = ints (padP Rr (j + 1)) := by rw [padP_succ]; simp [ints]
    rw [hap, ints_length, padP_length] at h6 ⊢
    simp -implicitDefEqProofs
    exact lp_next (j + 1) ⟨by omega, by simp [e0], by simp [e2], g6, by simp, h6⟩ (by omega)
theorem w_Hash_Sum {l : List Nat} (hl : byts l) (hll : l.length ≤ 100000) : Gives Try.prog F_Pdigest_Hash_Sum [hashV l] (.iarr .u8 32 (ints (dig l))) := by
  refine hsum_core rfl (byts_drop hl _) (mixAll_length _ _ rfl) (mixAll_words _ _ H256_words) (stR_length l) hll (outB_length _) fun e he => ?_
  have h := dig_st l
  rw [he, show (stR l).length / 64 = 0 by rw [stR_length]; omega, Nat.zero_add] at h
  exact h
end Go.Proofs.Ytfdckjliinpjiaa

/- The walk of Of: the sum of texts, one behind the other. -/
namespace Go.Proofs.Ytfdckjliinpjiaa
open Go AVL
attribute [-simp] AV.isAgg aappI aapp alen shp good comps
set_option linter.unusedVariables false
set_option linter.unusedSimpArgs false
set_option maxRecDepth 8000

def txts (L : List (List Nat)) : List AV := L.map fun b => .isl .u8 (ints b)
@[simp] theorem txts_length (L : List (List Nat)) : (txts L).length = L.length := by simp [txts]
@[simp] theorem txts_get (L : List (List Nat)) (i : Nat) (h : i < (txts L).length) : (txts L)[i] = .isl .u8 (ints (L[i]'(by simpa using h))) := by simp [txts]
theorem flat_take {L : List (List Nat)} {i : Nat} (h : i < L.length) : (L.take (i + 1)).flatten = (L.take i).flatten ++ L[i] := by
  rw [List.take_succ_eq_append_getElem h, List.flatten_append]; simp
theorem flat_take_le (L : List (List Nat)) (i : Nat) : (L.take i).flatten.length ≤ L.flatten.length := by
  conv => rhs; rw [← List.take_append_drop i L, List.flatten_append]
  simp
theorem flat_byts {L : List (List Nat)} (h : ∀ b ∈ L, byts b) : byts L.flatten := by
  intro x hx
  obtain ⟨b, hb, hxb⟩ := List.mem_flatten.1 hx
  exact h b hb x hxb
theorem get_le_flat {L : List (List Nat)} {i : Nat} (h : i < L.length) : L[i].length ≤ L.flatten.length := by
  have h1 := flat_take_le L (i + 1)
  rw [flat_take h, List.length_append] at h1
  omega
theorem w_digest_Of {L : List (List Nat)} (hL : ∀ b ∈ L, byts b) (hll : L.flatten.length ≤ 100000) (hn : L.length < 2 ^ 32) :
    Gives Try.prog F_digest_Of [.dsl 1 (txts L)] (.iarr .u8 32 (ints (dig L.flatten))) := by
  refine v_digest_Of (by simp) ?_
  simp -implicitDefEqProofs [a_digest_Of, q_digest_Of_0, q_digest_Of_1, -List.reduceReplicate]
  intro g2
  refine w_digest_New fun h hh hA => ?_
  have hne : g2 ≠ h := by rintro rfl; simp at hh
  obtain ⟨X, hX⟩ : ∃ X, (H0.set g2 (.var T_32_uint8 [.iarr .u8 32 (List.replicate 32 0)])).set h (hashC H256 .nilS 0) = X := ⟨_, rfl⟩
  have x2 : X g2 = some (arrB z32) := by rw [← hX]; simp [hne]; rfl
  rw [hX] at hA ⊢
  simp -implicitDefEqProofs [q_digest_Of_2]
  refine X_lp (fun (i : Nat) env B => i ≤ L.length ∧ env 2 = .ptr g2 0 ∧ env 3 = .ptr h 0 ∧ env 7 = .dsl 1 (txts L) ∧ env 8 = .int .i64 L.length ∧ env 9 = .int .i64 i ∧ B g2 = some (arrB z32) ∧ ∃ r, HashR B h r (L.take i).flatten ∧ ∀ n, r ≠ .own g2 0 n) (fun i => L.length - i) 0
    ⟨by omega, by simp, by simp, by simp, by simp, by simp, x2, .nilS, hA, fun n e => by cases e⟩ ?_
  rintro i env B ⟨hi, e2, e3, e7, e8, e9, f2, r, hr, hrn⟩
  by_cases hil : i < L.length
  · have hil' : (i : Int) < L.length := by omega
    have wi : IntKind.i64.wrap ((i : Int) + 1) = (i : Int) + 1 := wrap_i64 (by omega)
    simp -implicitDefEqProofs [q_digest_Of_L7, q_digest_Of_3, q_digest_Of_4, q_digest_Of_5, e3, e7, e8, e9, hil, hil']
    have hb := hL _ (List.getElem_mem hil)
    have hbl := get_le_flat hil
    have htl := flat_take_le L i
    refine w_Hash_Add hr (flat_byts fun b hb => hL b (List.mem_of_mem_take hb)) hb (by omega) (by omega) fun r' A' hr' hkeep => ?_
    obtain ⟨f2', hrn'⟩ := hkeep g2 _ hne hrn f2
    simp -implicitDefEqProofs [q_digest_Of_6, e9, wi]
    refine lp_next (i + 1) ⟨by omega, by simp [e2], by simp [e3], by simp [e7], by simp [e8], by simp, f2', r', ?_, hrn'⟩ (by omega)
    rw [flat_take hil]; exact hr'
  · have hil' : ¬ (i : Int) < L.length := by omega
    have hie : i = L.length := by omega
    subst hie
    rw [List.take_length] at hr
    unfold arrB z32 at f2
    simp -implicitDefEqProofs [q_digest_Of_L7, q_digest_Of_3, q_digest_Of_7, e2, e3, e8, e9, hil', -List.reduceReplicate]
    refine (w_Hash_Sum (flat_byts hL) hll).call (.cons (hash_vw hr) rfl .nil) rfl ?_
    have hdl : (dig L.flatten).length = 32 := outB_length _
    simp -implicitDefEqProofs [e2, f2, hdl, outOf, -List.reduceReplicate]
end Go.Proofs.Ytfdckjliinpjiaa

/- Sums under one sum, plainly: rows, the top, ways up. -/
namespace Go.Proofs.Ytfdckjliinpjiaa
open Go AVL
set_option linter.unusedVariables false
set_option linter.unusedSimpArgs false

def nodT (a b : List Nat) : List Nat := [110, 111, 100, 101] ++ a ++ b
def nodS (a b : List Nat) : List Nat := dig (nodT a b)
theorem dig_length (l : List Nat) : (dig l).length = 32 := outB_length _
theorem nodS_length (a b : List Nat) : (nodS a b).length = 32 := dig_length _
/-- The row above. -/
def upL : List (List Nat) → List (List Nat)
  | [] => []
  | [a] => [a]
  | a :: b :: r => nodS a b :: upL r
theorem upL_length : ∀ D : List (List Nat), (upL D).length = (D.length + 1) / 2
  | [] => rfl
  | [a] => by simp [upL]
  | a :: b :: r => by simp [upL, upL_length r]; omega
theorem upL_take : ∀ (k : Nat) (D : List (List Nat)), 2 * k ≤ D.length → upL (D.take (2 * k)) = (upL D).take k
  | 0, D, _ => by simp [upL]
  | k + 1, [], h => by simp at h
  | k + 1, [a], h => by simp at h; omega
  | k + 1, a :: b :: r, h => by
    rw [show 2 * (k + 1) = 2 * k + 1 + 1 by omega, List.take_succ_cons, List.take_succ_cons]
    simp only [upL, List.take_succ_cons]
    rw [upL_take k r (by simp at h; omega)]
theorem upL_drop : ∀ (k : Nat) (D : List (List Nat)), upL (D.drop (2 * k)) = (upL D).drop k
  | 0, D => by simp
  | k + 1, [] => by simp [upL]
  | k + 1, [a] => by rw [List.drop_of_length_le (by simp; omega), show upL [a] = [a] from rfl, List.drop_of_length_le (by simp)]; rfl
  | k + 1, a :: b :: r => by
    rw [show 2 * (k + 1) = 2 * k + 1 + 1 by omega, List.drop_succ_cons, List.drop_succ_cons]
    simp only [upL, List.drop_succ_cons]
    exact upL_drop k r
theorem upL_get : ∀ (D : List (List Nat)) (i : Nat), (upL D)[i]? = if 2 * i + 1 < D.length then (D[2 * i]?.bind fun a => D[2 * i + 1]?.map fun b => nodS a b) else D[2 * i]?
  | [], i => by simp [upL]
  | [a], 0 => by simp [upL]
  | [a], i + 1 => by simp [upL]
  | a :: b :: r, 0 => by simp [upL]
  | a :: b :: r, i + 1 => by
    simp only [upL, List.getElem?_cons_succ, upL_get r i]
    rw [show 2 * (i + 1) = 2 * i + 1 + 1 by omega]
    simp only [List.getElem?_cons_succ, List.length_cons]
    by_cases h : 2 * i + 1 < r.length
    · rw [if_pos h, if_pos (by omega)]
    · rw [if_neg h, if_neg (by omega)]
/-- The greatest power of two below. -/
def wid (n : Nat) : Nat := 2 ^ Nat.log2 (n - 1)
theorem wid_pos (n : Nat) : 0 < wid n := Nat.pow_pos (by decide)
theorem wid_lt {n : Nat} (h : 2 ≤ n) : wid n < n := by
  have := Nat.log2_self_le (n := n - 1) (by omega)
  unfold wid; omega
theorem wid_ge {n : Nat} (h : 2 ≤ n) : n ≤ 2 * wid n := by
  have := Nat.lt_log2_self (n := n - 1)
  unfold wid; rw [Nat.pow_succ] at this; omega
theorem wid_two : wid 2 = 1 := by decide
theorem wid_double {n : Nat} (h : 3 ≤ n) : wid n = 2 * wid ((n + 1) / 2) := by
  unfold wid
  rw [show (n + 1) / 2 - 1 = (n - 1) / 2 by omega]
  conv => lhs; rw [Nat.log2_def]
  rw [if_pos (by omega), Nat.pow_succ]; omega
theorem wid_uniq {n k j : Nat} (hk : k = 2 ^ j) (h1 : k < n) (h2 : n ≤ 2 * k) : wid n = k := by
  subst hk
  unfold wid
  congr 1
  rw [Nat.log2_eq_iff (by omega)]
  rw [Nat.pow_succ]; omega
/-- The sum that stands alone. -/
def topD (D : List (List Nat)) : List Nat :=
  if h : 2 ≤ D.length then nodS (topD (D.take (wid D.length))) (topD (D.drop (wid D.length))) else D.headD []
termination_by D.length
decreasing_by
  all_goals have := wid_pos D.length; have := wid_lt h; simp; omega
theorem topD_one (a : List Nat) : topD [a] = a := by rw [topD]; simp
theorem topD_more {D : List (List Nat)} (h : 2 ≤ D.length) : topD D = nodS (topD (D.take (wid D.length))) (topD (D.drop (wid D.length))) := by
  conv => lhs; rw [topD]
  rw [dif_pos h]
theorem one_of {D : List (List Nat)} (h : D.length = 1) : ∃ a, D = [a] := List.length_eq_one_iff.1 h
theorem top_up : ∀ (n : Nat) (D : List (List Nat)), D.length = n → 1 ≤ n → topD (upL D) = topD D := by
  intro n
  induction n using Nat.strongRecOn with
  | ind n ih =>
  intro D hn h1
  by_cases h2 : n = 1
  · obtain ⟨a, rfl⟩ := one_of (hn.trans h2); rfl
  by_cases h3 : n = 2
  · match D, hn.trans h3 with
    | [a, b], _ =>
      rw [topD_more (D := [a, b]) (by simp)]
      have : wid ([a, b] : List (List Nat)).length = 1 := wid_two
      rw [this]
      simp [topD_one, upL]
  have hw := wid_double (n := n) (by omega)
  have hl := wid_lt (n := n) (by omega)
  have hp := wid_pos n
  have hu := upL_length D
  rw [topD_more (D := D) (by omega), topD_more (D := upL D) (by omega), hu, hn]
  obtain ⟨k, hk⟩ : ∃ k, wid ((n + 1) / 2) = k := ⟨_, rfl⟩
  rw [hk] at hw ⊢
  rw [hw] at hl hp ⊢
  rw [← upL_take k D (by omega), ← upL_drop k D]
  rw [ih (2 * k) (by omega) (D.take (2 * k)) (by simp; omega) (by omega), ih (n - 2 * k) (by omega) (D.drop (2 * k)) (by simp; omega) (by omega)]
end Go.Proofs.Ytfdckjliinpjiaa

/- Ways up, plainly: those by rows and those by halves are one; a way leads to the top. -/
namespace Go.Proofs.Ytfdckjliinpjiaa
open Go AVL
set_option linter.unusedVariables false
set_option linter.unusedSimpArgs false

theorem xor1 (i : Nat) : i ^^^ 1 = if i % 2 = 0 then i + 1 else i - 1 := by
  have h1 : (i ^^^ 1) / 2 = i / 2 := by rw [Nat.xor_div_two]; simp
  have h2 : ((i ^^^ 1) % 2 = 1) ↔ ¬ ((i % 2 = 1) ↔ (1 % 2 = 1)) := Nat.xor_mod_two_eq_one
  split <;> omega
def pathU (D : List (List Nat)) (at' : Nat) : List (List Nat) :=
  if h : 2 ≤ D.length then D[at' ^^^ 1]?.toList ++ pathU (upL D) (at' / 2) else []
termination_by D.length
decreasing_by rw [upL_length]; omega
def pathD (D : List (List Nat)) (at' : Nat) : List (List Nat) :=
  if h : 2 ≤ D.length then
    if at' < wid D.length then pathD (D.take (wid D.length)) at' ++ [topD (D.drop (wid D.length))]
    else pathD (D.drop (wid D.length)) (at' - wid D.length) ++ [topD (D.take (wid D.length))]
  else []
termination_by D.length
decreasing_by
  all_goals have := wid_pos D.length; have := wid_lt h; simp; omega
theorem pathU_more {D : List (List Nat)} {i : Nat} (h : 2 ≤ D.length) : pathU D i = D[i ^^^ 1]?.toList ++ pathU (upL D) (i / 2) := by
  conv => lhs; rw [pathU]
  rw [dif_pos h]
theorem pathU_one {D : List (List Nat)} {i : Nat} (h : D.length ≤ 1) : pathU D i = [] := by
  rw [pathU, dif_neg (by omega)]
theorem pathD_more {D : List (List Nat)} {i : Nat} (h : 2 ≤ D.length) : pathD D i = if i < wid D.length then pathD (D.take (wid D.length)) i ++ [topD (D.drop (wid D.length))] else pathD (D.drop (wid D.length)) (i - wid D.length) ++ [topD (D.take (wid D.length))] := by
  conv => lhs; rw [pathD]
  rw [dif_pos h]
theorem pathD_one {D : List (List Nat)} {i : Nat} (h : D.length ≤ 1) : pathD D i = [] := by
  rw [pathD, dif_neg (by omega)]
theorem pathD_up : ∀ (n : Nat) (D : List (List Nat)) (i : Nat), D.length = n → 1 ≤ n → i < n → pathD D i = D[i ^^^ 1]?.toList ++ pathD (upL D) (i / 2) := by
  intro n
  induction n using Nat.strongRecOn with
  | ind n ih =>
  intro D i hn h1 hi
  have hx := xor1 i
  by_cases h2 : n = 1
  · obtain ⟨a, rfl⟩ := one_of (hn.trans h2)
    have : i = 0 := by omega
    subst this
    rw [pathD_one (by simp), pathD_one (by simp [upL])]; simp
  by_cases h3 : n = 2
  · match D, hn.trans h3 with
    | [a, b], _ =>
      rw [pathD_more (D := [a, b]) (by simp), pathD_one (D := upL [a, b]) (by simp [upL])]
      have hwt : wid ([a, b] : List (List Nat)).length = 1 := wid_two
      rw [hwt]
      rcases (by omega : i = 0 ∨ i = 1) with rfl | rfl
      · simp [pathD_one, topD_one]
      · simp [pathD_one, topD_one]
  have hw := wid_double (n := n) (by omega)
  have hl := wid_lt (n := n) (by omega)
  have hp := wid_pos n
  have hu := upL_length D
  rw [pathD_more (D := D) (by omega), pathD_more (D := upL D) (by omega), hu, hn]
  obtain ⟨k, hk⟩ : ∃ k, wid ((n + 1) / 2) = k := ⟨_, rfl⟩
  rw [hk] at hw ⊢
  rw [hw] at hl hp ⊢
  rw [← upL_take k D (by omega), ← upL_drop k D]
  rw [top_up (2 * k) (D.take (2 * k)) (by simp; omega) (by omega), top_up (n - 2 * k) (D.drop (2 * k)) (by simp; omega) (by omega)]
  by_cases hik : i < 2 * k
  · have hx2 : i ^^^ 1 < 2 * k := by rw [hx]; split <;> omega
    rw [if_pos hik, if_pos (by omega), ih (2 * k) (by omega) (D.take (2 * k)) i (by simp; omega) (by omega) hik]
    rw [List.getElem?_take, if_pos hx2, List.append_assoc]
  · have hx3 : (i - 2 * k) ^^^ 1 = (i ^^^ 1) - 2 * k := by rw [hx, xor1]; split <;> split <;> omega
    have hx4 : 2 * k ≤ i ^^^ 1 := by rw [hx]; split <;> omega
    rw [if_neg hik, if_neg (by omega), ih (n - 2 * k) (by omega) (D.drop (2 * k)) (i - 2 * k) (by simp; omega) (by omega) (by omega)]
    rw [List.getElem?_drop, hx3, show 2 * k + ((i ^^^ 1) - 2 * k) = i ^^^ 1 by omega, List.append_assoc, show (i - 2 * k) / 2 = i / 2 - k by omega]
theorem path_eq : ∀ (n : Nat) (D : List (List Nat)) (i : Nat), D.length = n → i < n → pathU D i = pathD D i := by
  intro n
  induction n using Nat.strongRecOn with
  | ind n ih =>
  intro D i hn hi
  by_cases h2 : 2 ≤ n
  · have hu := upL_length D
    rw [pathU_more (by omega), pathD_up n D i hn (by omega) hi, ih ((n + 1) / 2) (by omega) (upL D) (i / 2) (by omega) (by omega)]
  · rw [pathU_one (by omega), pathD_one (by omega)]
/-- How many rows there are above. -/
def dep (n : Nat) : Nat := if h : 2 ≤ n then dep ((n + 1) / 2) + 1 else 0
termination_by n
decreasing_by omega
theorem dep_more {n : Nat} (h : 2 ≤ n) : dep n = dep ((n + 1) / 2) + 1 := by
  conv => lhs; rw [dep]
  rw [dif_pos h]
theorem dep_one {n : Nat} (h : n ≤ 1) : dep n = 0 := by rw [dep, dif_neg (by omega)]
theorem dep_le : ∀ (n : Nat), n ≤ 2 ^ dep n := by
  intro n
  induction n using Nat.strongRecOn with
  | ind n ih =>
  by_cases h : 2 ≤ n
  · have := ih ((n + 1) / 2) (by omega)
    rw [dep_more h, Nat.pow_succ]; omega
  · rw [dep_one (by omega)]; simp; omega
theorem dep_uniq : ∀ (d n : Nat), n ≤ 2 ^ d → (d = 0 ∨ 2 ^ (d - 1) < n) → dep n = d
  | 0, n, h, _ => dep_one (by simpa using h)
  | d + 1, n, h, h2 => by
    have h2' : 2 ^ d < n := by rcases h2 with h2 | h2; omega; simpa using h2
    have hp : 0 < 2 ^ d := Nat.pow_pos (by decide)
    rw [dep_more (by omega)]
    rw [Nat.pow_succ] at h
    have := dep_uniq d ((n + 1) / 2) (by omega) (by
      cases d with
      | zero => exact .inl rfl
      | succ d => right; rw [Nat.pow_succ] at h2'; simp; omega)
    omega
theorem pathU_length : ∀ (n : Nat) (D : List (List Nat)) (i : Nat), D.length = n → (pathU D i).length ≤ dep n := by
  intro n
  induction n using Nat.strongRecOn with
  | ind n ih =>
  intro D i hn
  by_cases h2 : 2 ≤ n
  · have hu := upL_length D
    have := ih ((n + 1) / 2) (by omega) (upL D) (i / 2) (by omega)
    rw [pathU_more (by omega), dep_more h2, List.length_append]
    have ho : (D[i ^^^ 1]?.toList).length ≤ 1 := by cases D[i ^^^ 1]? <;> simp
    omega
  · rw [pathU_one (by omega)]; simp
/-- What a way leads to: the sum on top, and what of the way is left. -/
def climb (n at' : Nat) (a : List Nat) (p : List (List Nat)) : Option (List Nat × List (List Nat)) :=
  if h : 2 ≤ n then
    if at' ^^^ 1 < n then match p with
      | [] => none
      | b :: r => climb ((n + 1) / 2) (at' / 2) (if at' % 2 = 0 then nodS a b else nodS b a) r
    else climb ((n + 1) / 2) (at' / 2) a p
  else some (a, p)
termination_by n
decreasing_by all_goals omega
theorem climb_more {n i : Nat} {a : List Nat} {p : List (List Nat)} (h : 2 ≤ n) : climb n i a p = if i ^^^ 1 < n then (match p with | [] => none | b :: r => climb ((n + 1) / 2) (i / 2) (if i % 2 = 0 then nodS a b else nodS b a) r) else climb ((n + 1) / 2) (i / 2) a p := by
  conv => lhs; rw [climb.eq_def]
  rw [dif_pos h]
theorem climb_one {n i : Nat} {a : List Nat} {p : List (List Nat)} (h : n ≤ 1) : climb n i a p = some (a, p) := by rw [climb.eq_def, dif_neg (by omega)]
theorem climb_path : ∀ (n : Nat) (D : List (List Nat)) (i : Nat) (a : List Nat), D.length = n → D[i]? = some a → climb n i a (pathU D i) = some (topD D, []) := by
  intro n
  induction n using Nat.strongRecOn with
  | ind n ih =>
  intro D i a hn ha
  have hi : i < n := by have := (List.getElem?_eq_some_iff.1 ha).1; omega
  by_cases h2 : 2 ≤ n
  · have hu := upL_length D
    have hx := xor1 i
    have hg := upL_get D (i / 2)
    rw [climb_more h2, pathU_more (by omega), ← top_up n D hn (by omega)]
    by_cases hx2 : i ^^^ 1 < n
    · obtain ⟨b, hb⟩ : ∃ b, D[i ^^^ 1]? = some b := ⟨_, List.getElem?_eq_getElem (by omega)⟩
      rw [if_pos hx2, hb]
      simp only [Option.toList_some, List.singleton_append]
      by_cases he : i % 2 = 0
      · rw [if_pos he] at hx ⊢
        rw [hx] at hb hx2
        rw [show 2 * (i / 2) = i by omega, if_pos (by omega), ha, hb] at hg
        exact ih ((n + 1) / 2) (by omega) (upL D) (i / 2) _ (by omega) (by simpa using hg)
      · rw [if_neg he] at hx ⊢
        rw [hx] at hb hx2
        rw [show 2 * (i / 2) + 1 = i by omega, show 2 * (i / 2) = i - 1 by omega, if_pos (by omega), ha, hb] at hg
        exact ih ((n + 1) / 2) (by omega) (upL D) (i / 2) _ (by omega) (by simpa using hg)
    · rw [if_neg hx2, List.getElem?_eq_none (by omega)]
      simp only [Option.toList_none, List.nil_append]
      have he : i % 2 = 0 := by
        rcases (by omega : i % 2 = 0 ∨ i % 2 = 1) with h | h
        · exact h
        · rw [if_neg (by omega)] at hx; omega
      rw [if_pos he] at hx
      rw [show 2 * (i / 2) = i by omega, if_neg (by omega), ha] at hg
      exact ih ((n + 1) / 2) (by omega) (upL D) (i / 2) _ (by omega) hg
  · obtain ⟨x, rfl⟩ := one_of (D := D) (by omega)
    have : i = 0 := by simp at hn; omega
    subst this
    rw [climb_one (by omega), pathU_one (by simp), topD_one]
    simp at ha; rw [ha]
/-- The texts that are summed on the way up. -/
def chain (n at' : Nat) (t : List Nat) (p : List (List Nat)) : List (List Nat) :=
  if h : 2 ≤ n then
    if at' ^^^ 1 < n then match p with
      | [] => [t]
      | b :: r => t :: chain ((n + 1) / 2) (at' / 2) (if at' % 2 = 0 then nodT (dig t) b else nodT b (dig t)) r
    else chain ((n + 1) / 2) (at' / 2) t p
  else [t]
termination_by n
decreasing_by all_goals omega
theorem chain_more {n i : Nat} {t : List Nat} {p : List (List Nat)} (h : 2 ≤ n) : chain n i t p = if i ^^^ 1 < n then (match p with | [] => [t] | b :: r => t :: chain ((n + 1) / 2) (i / 2) (if i % 2 = 0 then nodT (dig t) b else nodT b (dig t)) r) else chain ((n + 1) / 2) (i / 2) t p := by
  conv => lhs; rw [chain.eq_def]
  rw [dif_pos h]
theorem chain_one {n i : Nat} {t : List Nat} {p : List (List Nat)} (h : n ≤ 1) : chain n i t p = [t] := by rw [chain.eq_def, dif_neg (by omega)]
theorem chain_mem : ∀ (n i : Nat) (t : List Nat) (p : List (List Nat)), t ∈ chain n i t p := by
  intro n
  induction n using Nat.strongRecOn with
  | ind n ih =>
  intro i t p
  by_cases h2 : 2 ≤ n
  · rw [chain_more h2]
    split
    · cases p <;> simp
    · exact ih _ (by omega) _ _ _
  · rw [chain_one (by omega)]; simp
/-- Two ways from unlike texts to one sum: two unlike texts on them have one sum. -/
theorem two_ways : ∀ (n i : Nat) (t u : List Nat) (p q : List (List Nat)) (x : List Nat), (∀ a ∈ p, a.length = 32) → (∀ a ∈ q, a.length = 32) → climb n i (dig t) p = some (x, []) → climb n i (dig u) q = some (x, []) → t ≠ u →
    ∃ v ∈ chain n i t p, ∃ w ∈ chain n i u q, v ≠ w ∧ dig v = dig w := by
  intro n
  induction n using Nat.strongRecOn with
  | ind n ih =>
  intro i t u p q x hp hq h1 h2 hne
  by_cases hn : 2 ≤ n
  · rw [climb_more hn] at h1 h2
    rw [chain_more hn, chain_more hn]
    by_cases hx : i ^^^ 1 < n
    · rw [if_pos hx] at h1 h2 ⊢
      rw [if_pos hx]
      cases p with
      | nil => cases h1
      | cons a r =>
        cases q with
        | nil => cases h2
        | cons b s =>
          simp only at h1 h2 ⊢
          have ha := hp a (by simp)
          have hb := hq b (by simp)
          have hd1 := dig_length t
          have hd2 := dig_length u
          obtain ⟨T, hT⟩ : ∃ T, (if i % 2 = 0 then nodT (dig t) a else nodT a (dig t)) = T := ⟨_, rfl⟩
          obtain ⟨U, hU⟩ : ∃ U, (if i % 2 = 0 then nodT (dig u) b else nodT b (dig u)) = U := ⟨_, rfl⟩
          have eT : (if i % 2 = 0 then nodS (dig t) a else nodS a (dig t)) = dig T := by rw [← hT]; split <;> rfl
          have eU : (if i % 2 = 0 then nodS (dig u) b else nodS b (dig u)) = dig U := by rw [← hU]; split <;> rfl
          rw [eT] at h1
          rw [eU] at h2
          rw [hT, hU]
          by_cases hTU : T = U
          · have hdd : dig t = dig u := by
              rw [← hT, ← hU] at hTU
              unfold nodT at hTU
              split at hTU
              · have := List.append_inj hTU (by simp [hd1, hd2])
                simpa using this.1
              · exact (List.append_inj hTU (by simp [ha, hb])).2
            exact ⟨t, by simp, u, by simp, hne, hdd⟩
          · obtain ⟨v, hv, w, hw, k1, k2⟩ := ih _ (by omega) (i / 2) T U r s x (fun y hy => hp y (by simp [hy])) (fun y hy => hq y (by simp [hy])) h1 h2 hTU
            exact ⟨v, by simp [hv], w, by simp [hw], k1, k2⟩
    · rw [if_neg hx] at h1 h2 ⊢
      rw [if_neg hx]
      exact ih _ (by omega) (i / 2) t u p q x hp hq h1 h2 hne
  · rw [climb_one (by omega)] at h1 h2
    rw [chain_one (by omega), chain_one (by omega)]
    injection h1 with h1; injection h1 with h1 _
    injection h2 with h2; injection h2 with h2 _
    exact ⟨t, by simp, u, by simp, hne, h1.trans h2.symm⟩
end Go.Proofs.Ytfdckjliinpjiaa
