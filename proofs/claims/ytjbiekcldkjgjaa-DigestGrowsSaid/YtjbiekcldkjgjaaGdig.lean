/- Abstract programs; that they are the program's. -/
import Derived.Test.YtjbiekcldkjgjaaFn
namespace Go.Proofs.Ytjbiekcldkjgjaa
open Go AVL
set_option linter.unusedVariables false

def q_digest_Of_0 : List AOper := [
  ⟨(some 2), (.alloc 39 [(.iarr .u8 32 (List.replicate 32 0))]), none⟩]
def q_digest_Of_1 : List AOper := [
  ⟨(some 6), (.call F_digest_New []), none⟩,
  ⟨(some 3), (.mv (.t 6)), none⟩]
def q_digest_Of_2 : List AOper := [
  ⟨(some 7), (.mv (.t 0)), none⟩,
  ⟨(some 8), (.len false (.t 7)), none⟩,
  ⟨(some 9), (.mv (.v (.int .i64 0))), none⟩]
def q_digest_Of_3 : List AOper := [
  ⟨(some 10), (.bin .lss (.t 9) (.t 8)), none⟩]
def q_digest_Of_4 : List AOper := [
  ⟨(some 11), (.idx 1 (.t 7) (.t 9)), none⟩,
  ⟨(some 12), (.load .sc 1 (.t 11)), none⟩,
  ⟨(some 5), (.mv (.t 12)), none⟩]
def q_digest_Of_5 : List AOper := [
  ⟨(some 13), (.mv (.t 3)), none⟩,
  ⟨(some 14), (.mv (.t 5)), none⟩,
  ⟨(some 15), (.call F_Pdigest_Hash_Add [(.sc, (.t 13)), (.sc, (.t 14))]), none⟩]
def q_digest_Of_6 : List AOper := [
  ⟨(some 16), (.bin .add (.t 9) (.v (.int .i64 1))), none⟩,
  ⟨(some 9), (.mv (.t 16)), none⟩]
def q_digest_Of_L7 : ACode := (.seq (.region q_digest_Of_3) (.seq (.cond (.t 10) .skip (.exit 0)) (.seq (.block 1 (.seq (.region q_digest_Of_4) (.region q_digest_Of_5))) (.region q_digest_Of_6))))
def q_digest_Of_7 : List AOper := [
  ⟨(some 17), (.mv (.t 3)), none⟩,
  ⟨(some 18), (.call F_Pdigest_Hash_Sum [(.sc, (.t 17))]), none⟩,
  ⟨none, (.store (.ia .u8 32) 32 (.t 2) (.t 18)), none⟩]
def a_digest_Of : AFunc := ⟨[(.cell 2 (.ia .u8 32) 32)], (.seq (.region q_digest_Of_0) (.seq (.region q_digest_Of_1) (.seq (.seq (.region q_digest_Of_2) (.block 0 (.loop q_digest_Of_L7))) (.seq (.region q_digest_Of_7) .ret))))⟩

def q_digest_New_0 : List AOper := [
  ⟨(some 0), (.mv (.v .nilP)), none⟩]
def q_digest_New_1 : List AOper := [
  ⟨(some 1), (.build (.ia .u32 8) [(.iarr .u32 8 [0, 0, 0, 0, 0, 0, 0, 0])] [(0, (1, (.v (.int .u32 1779033703)))), (1, (1, (.v (.int .u32 3144134277)))), (2, (1, (.v (.int .u32 1013904242)))), (3, (1, (.v (.int .u32 2773480762)))), (4, (1, (.v (.int .u32 1359893119)))), (5, (1, (.v (.int .u32 2600822924)))), (6, (1, (.v (.int .u32 528734635)))), (7, (1, (.v (.int .u32 1541459225))))]), none⟩,
  ⟨(some 2), (.build .ag [(.iarr .u32 8 [0, 0, 0, 0, 0, 0, 0, 0]), .nilS, (.int .u64 0)] [(0, (8, (.t 1)))]), none⟩,
  ⟨(some 3), (.box 145 .ag (.t 2)), none⟩,
  ⟨(some 0), (.mv (.t 3)), none⟩]
def a_digest_New : AFunc := ⟨[(.tmp 0)], (.seq (.region q_digest_New_0) (.seq (.region q_digest_New_1) .ret))⟩

def q_digest_Parse_0 : List AOper := [
  ⟨(some 2), (.alloc 39 [(.iarr .u8 32 (List.replicate 32 0))]), none⟩,
  ⟨(some 3), (.mv (.v (.int .i64 0))), none⟩]
def q_digest_Parse_1 : List AOper := [
  ⟨(some 4), (.alloc 39 [(.iarr .u8 32 (List.replicate 32 0))]), none⟩]
def q_digest_Parse_2 : List AOper := [
  ⟨(some 7), (.mv (.t 0)), none⟩,
  ⟨(some 8), (.len true (.t 7)), none⟩,
  ⟨(some 9), (.eq .scI true (.t 8) (.v (.int .i64 64))), none⟩]
def q_digest_Parse_3 : List AOper := [
  ⟨(some 10), (.load (.ia .u8 32) 32 (.t 4)), none⟩,
  ⟨none, (.store (.ia .u8 32) 32 (.t 2) (.t 10)), none⟩,
  ⟨(some 3), (.mv (.v (.int .i64 3))), none⟩]
def q_digest_Parse_4 : List AOper := [
  ⟨(some 11), (.mv (.t 0)), none⟩,
  ⟨(some 12), (.len true (.t 11)), none⟩,
  ⟨(some 13), (.mv (.v (.int .i64 0))), none⟩]
def q_digest_Parse_5 : List AOper := [
  ⟨(some 14), (.bin .lss (.t 13) (.t 12)), none⟩]
def q_digest_Parse_6 : List AOper := [
  ⟨(some 15), (.mv (.t 13)), none⟩,
  ⟨(some 5), (.mv (.t 15)), none⟩]
def q_digest_Parse_7 : List AOper := [
  ⟨(some 16), (.mv (.t 0)), none⟩,
  ⟨(some 17), (.mv (.t 5)), none⟩,
  ⟨(some 18), (.xx (.p .strIdx) [(.t 16), (.t 17)]), none⟩,
  ⟨(some 6), (.mv (.t 18)), none⟩]
def q_digest_Parse_8 : List AOper := [
  ⟨(some 21), (.mv (.t 6)), none⟩,
  ⟨(some 22), (.bin .geq (.t 21) (.v (.int .u8 48))), none⟩,
  ⟨(some 23), (.mv (.t 22)), none⟩,
  ⟨(some 24), (.mv (.t 6)), (some (23, true))⟩,
  ⟨(some 25), (.bin .leq (.t 24) (.v (.int .u8 57))), (some (23, true))⟩,
  ⟨(some 26), (.pick (.t 23) (.t 25) (.v (.bool false))), none⟩,
  ⟨(some 20), (.mv (.t 26)), none⟩]
def q_digest_Parse_9 : List AOper := [
  ⟨(some 27), (.mv (.t 6)), none⟩,
  ⟨(some 28), (.bin .sub (.t 27) (.v (.int .u8 48))), none⟩,
  ⟨(some 6), (.mv (.t 28)), none⟩]
def q_digest_Parse_10 : List AOper := [
  ⟨(some 30), (.mv (.t 6)), none⟩,
  ⟨(some 31), (.bin .geq (.t 30) (.v (.int .u8 97))), none⟩,
  ⟨(some 32), (.mv (.t 31)), none⟩,
  ⟨(some 33), (.mv (.t 6)), (some (32, true))⟩,
  ⟨(some 34), (.bin .leq (.t 33) (.v (.int .u8 102))), (some (32, true))⟩,
  ⟨(some 35), (.pick (.t 32) (.t 34) (.v (.bool false))), none⟩,
  ⟨(some 29), (.mv (.t 35)), none⟩]
def q_digest_Parse_11 : List AOper := [
  ⟨(some 36), (.mv (.t 6)), none⟩,
  ⟨(some 37), (.bin .sub (.t 36) (.v (.int .u8 87))), none⟩,
  ⟨(some 6), (.mv (.t 37)), none⟩]
def q_digest_Parse_12 : List AOper := [
  ⟨(some 19), (.build (.ia .u8 32) [(.iarr .u8 32 (List.replicate 32 0))] []), none⟩,
  ⟨none, (.store (.ia .u8 32) 32 (.t 2) (.t 19)), none⟩,
  ⟨(some 3), (.mv (.v (.int .i64 3))), none⟩]
def q_digest_Parse_13 : List AOper := [
  ⟨(some 38), (.mv (.t 5)), none⟩,
  ⟨(some 39), (.bin .quo (.t 38) (.v (.int .i64 2))), none⟩,
  ⟨(some 40), (.mv (.t 5)), none⟩,
  ⟨(some 41), (.bin .quo (.t 40) (.v (.int .i64 2))), none⟩,
  ⟨(some 42), (.idxA 32 1 true (.t 4) (.t 41)), none⟩,
  ⟨(some 43), (.load .sc 1 (.t 42)), none⟩,
  ⟨(some 44), (.bin .shl (.t 43) (.v (.int .u64 4))), none⟩,
  ⟨(some 45), (.mv (.t 6)), none⟩,
  ⟨(some 46), (.bin .or (.t 44) (.t 45)), none⟩,
  ⟨(some 47), (.idxA 32 1 true (.t 4) (.t 39)), none⟩,
  ⟨none, (.store .sc 1 (.t 47) (.t 46)), none⟩]
def q_digest_Parse_14 : List AOper := [
  ⟨(some 48), (.bin .add (.t 13) (.v (.int .i64 1))), none⟩,
  ⟨(some 13), (.mv (.t 48)), none⟩]
def q_digest_Parse_L15 : ACode := (.seq (.region q_digest_Parse_5) (.seq (.cond (.t 14) .skip (.exit 0)) (.seq (.block 1 (.seq (.region q_digest_Parse_6) (.seq (.region q_digest_Parse_7) (.seq (.block 2 (.seq (.region q_digest_Parse_8) (.cond (.t 20) (.region q_digest_Parse_9) (.seq (.region q_digest_Parse_10) (.cond (.t 29) (.region q_digest_Parse_11) (.seq (.region q_digest_Parse_12) .ret)))))) (.region q_digest_Parse_13))))) (.region q_digest_Parse_14))))
def q_digest_Parse_15 : List AOper := [
  ⟨(some 49), (.load (.ia .u8 32) 32 (.t 4)), none⟩,
  ⟨none, (.store (.ia .u8 32) 32 (.t 2) (.t 49)), none⟩,
  ⟨(some 3), (.mv (.v (.int .i64 0))), none⟩]
def a_digest_Parse : AFunc := ⟨[(.cell 2 (.ia .u8 32) 32), (.tmp 3)], (.seq (.region q_digest_Parse_0) (.seq (.region q_digest_Parse_1) (.seq (.seq (.region q_digest_Parse_2) (.cond (.t 9) (.seq (.region q_digest_Parse_3) .ret) .skip)) (.seq (.seq (.region q_digest_Parse_4) (.block 0 (.loop q_digest_Parse_L15))) (.seq (.region q_digest_Parse_15) .ret)))))⟩

def q_digest_Hex_0 : List AOper := [
  ⟨(some 1), (.box 39 (.ia .u8 32) (.t 0)), none⟩,
  ⟨(some 2), (.mv (.v (.str ⟨#[]⟩))), none⟩]
def q_digest_Hex_1 : List AOper := [
  ⟨(some 3), (.mv (.v .nilS)), none⟩]
def q_digest_Hex_2 : List AOper := [
  ⟨(some 6), (.load (.ia .u8 32) 32 (.t 1)), none⟩,
  ⟨(some 7), (.mv (.v (.int .i64 0))), none⟩]
def q_digest_Hex_3 : List AOper := [
  ⟨(some 8), (.bin .lss (.t 7) (.v (.int .i64 32))), none⟩]
def q_digest_Hex_4 : List AOper := [
  ⟨(some 9), (.xx (.idxV 32 1 .sc) [(.t 6), (.t 7)]), none⟩,
  ⟨(some 5), (.mv (.t 9)), none⟩]
def q_digest_Hex_5 : List DOp := [
  ⟨⟨(some 10), (.mv (.t 3)), none⟩, true, false, none, []⟩,
  ⟨⟨(some 11), (.mv (.t 5)), none⟩, true, false, none, []⟩,
  ⟨⟨(some 12), (.bin .shr (.t 11) (.v (.int .u64 4))), none⟩, true, false, none, []⟩,
  ⟨⟨(some 13), (.xx (.p .strIdx) [(.v (.str ⟨#[48, 49, 50, 51, 52, 53, 54, 55, 56, 57, 97, 98, 99, 100, 101, 102]⟩)), (.t 12)]), none⟩, true, false, none, []⟩,
  ⟨⟨(some 14), (.mv (.t 5)), none⟩, true, false, none, []⟩,
  ⟨⟨(some 15), (.bin .and (.t 14) (.v (.int .u8 15))), none⟩, true, false, none, []⟩,
  ⟨⟨(some 16), (.xx (.p .strIdx) [(.v (.str ⟨#[48, 49, 50, 51, 52, 53, 54, 55, 56, 57, 97, 98, 99, 100, 101, 102]⟩)), (.t 15)]), none⟩, true, false, none, []⟩,
  ⟨⟨(some 17), (.bslI 5 .u8 [(.t 13), (.t 16)]), none⟩, false, false, none, []⟩,
  ⟨⟨(some 18), (.appI 5 .u8 1 (.t 10) (.t 17)), none⟩, false, false, none, []⟩,
  ⟨⟨(some 3), (.mv (.t 18)), none⟩, true, false, none, []⟩]
def q_digest_Hex_6 : List AOper := [
  ⟨(some 19), (.bin .add (.t 7) (.v (.int .i64 1))), none⟩,
  ⟨(some 7), (.mv (.t 19)), none⟩]
def q_digest_Hex_L7 : ACode := (.seq (.region q_digest_Hex_3) (.seq (.cond (.t 8) .skip (.exit 0)) (.seq (.block 1 (.seq (.region q_digest_Hex_4) (.regionD q_digest_Hex_5))) (.region q_digest_Hex_6))))
def q_digest_Hex_7 : List AOper := [
  ⟨(some 20), (.mv (.t 3)), none⟩,
  ⟨(some 21), (.xx .bstr [(.t 20)]), none⟩,
  ⟨(some 2), (.mv (.t 21)), none⟩]
def a_digest_Hex : AFunc := ⟨[(.tmp 2)], (.seq (.region q_digest_Hex_0) (.seq (.region q_digest_Hex_1) (.seq (.seq (.region q_digest_Hex_2) (.block 0 (.loop q_digest_Hex_L7))) (.seq (.region q_digest_Hex_7) .ret))))⟩

def q_digest_Less_0 : List AOper := [
  ⟨(some 2), (.box 39 (.ia .u8 32) (.t 0)), none⟩,
  ⟨(some 3), (.box 39 (.ia .u8 32) (.t 1)), none⟩,
  ⟨(some 4), (.mv (.v (.bool false))), none⟩]
def q_digest_Less_1 : List AOper := [
  ⟨(some 6), (.mv (.v (.int .i64 0))), none⟩]
def q_digest_Less_2 : List AOper := [
  ⟨(some 7), (.bin .lss (.t 6) (.v (.int .i64 32))), none⟩]
def q_digest_Less_3 : List AOper := [
  ⟨(some 8), (.mv (.t 6)), none⟩,
  ⟨(some 5), (.mv (.t 8)), none⟩]
def q_digest_Less_4 : List DOp := [
  ⟨⟨(some 9), (.mv (.t 5)), none⟩, true, false, none, []⟩,
  ⟨⟨(some 10), (.idxA 32 1 true (.t 2) (.t 9)), none⟩, true, false, none, []⟩,
  ⟨⟨(some 11), (.load .sc 1 (.t 10)), none⟩, true, false, none, []⟩,
  ⟨⟨(some 12), (.mv (.t 5)), none⟩, true, false, none, []⟩,
  ⟨⟨(some 13), (.idxA 32 1 true (.t 3) (.t 12)), none⟩, true, false, none, []⟩,
  ⟨⟨(some 14), (.load .sc 1 (.t 13)), none⟩, true, false, none, []⟩,
  ⟨⟨(some 15), (.eq .scI true (.t 11) (.t 14)), none⟩, true, false, none, []⟩]
def q_digest_Less_5 : List DOp := [
  ⟨⟨(some 16), (.mv (.t 5)), none⟩, true, false, none, []⟩,
  ⟨⟨(some 17), (.idxA 32 1 true (.t 2) (.t 16)), none⟩, true, false, none, []⟩,
  ⟨⟨(some 18), (.load .sc 1 (.t 17)), none⟩, true, false, none, []⟩,
  ⟨⟨(some 19), (.mv (.t 5)), none⟩, true, false, none, []⟩,
  ⟨⟨(some 20), (.idxA 32 1 true (.t 3) (.t 19)), none⟩, true, false, none, []⟩,
  ⟨⟨(some 21), (.load .sc 1 (.t 20)), none⟩, true, false, none, []⟩,
  ⟨⟨(some 22), (.bin .lss (.t 18) (.t 21)), none⟩, true, false, none, []⟩,
  ⟨⟨(some 4), (.mv (.t 22)), none⟩, true, false, none, []⟩]
def q_digest_Less_6 : List AOper := [
  ⟨(some 23), (.bin .add (.t 6) (.v (.int .i64 1))), none⟩,
  ⟨(some 6), (.mv (.t 23)), none⟩]
def q_digest_Less_L7 : ACode := (.seq (.region q_digest_Less_2) (.seq (.cond (.t 7) .skip (.exit 0)) (.seq (.block 1 (.seq (.region q_digest_Less_3) (.seq (.regionD q_digest_Less_4) (.cond (.t 15) (.seq (.regionD q_digest_Less_5) .ret) .skip)))) (.region q_digest_Less_6))))
def q_digest_Less_7 : List AOper := [
  ⟨(some 4), (.mv (.v (.bool false))), none⟩]
def a_digest_Less : AFunc := ⟨[(.tmp 4)], (.seq (.region q_digest_Less_0) (.seq (.seq (.region q_digest_Less_1) (.block 0 (.loop q_digest_Less_L7))) (.seq (.region q_digest_Less_7) .ret)))⟩

def q_digest_Home_0 : List AOper := [
  ⟨(some 2), (.box 39 (.ia .u8 32) (.t 0)), none⟩,
  ⟨(some 4), (.mv (.v (.int .i64 0))), none⟩]
def q_digest_Home_1 : List AOper := [
  ⟨(some 8), (.mv (.t 1)), none⟩,
  ⟨(some 9), (.bin .lss (.t 8) (.v (.int .i64 1))), none⟩]
def q_digest_Home_2 : List AOper := [
  ⟨(some 4), (.mv (.v (.int .i64 0))), none⟩]
def q_digest_Home_3 : List AOper := [
  ⟨(some 5), (.mv (.v (.int .u64 0))), none⟩]
def q_digest_Home_4 : List AOper := [
  ⟨(some 10), (.slcA 32 (.t 2) none (some (.v (.int .i64 6)))), none⟩,
  ⟨(some 11), (.len false (.t 10)), none⟩,
  ⟨(some 12), (.mv (.v (.int .i64 0))), none⟩]
def q_digest_Home_5 : List AOper := [
  ⟨(some 13), (.bin .lss (.t 12) (.t 11)), none⟩]
def q_digest_Home_6 : List AOper := [
  ⟨(some 14), (.idx 1 (.t 10) (.t 12)), none⟩,
  ⟨(some 15), (.load .sc 1 (.t 14)), none⟩,
  ⟨(some 7), (.mv (.t 15)), none⟩]
def q_digest_Home_7 : List AOper := [
  ⟨(some 16), (.mv (.t 5)), none⟩,
  ⟨(some 17), (.bin .shl (.t 16) (.v (.int .u64 8))), none⟩,
  ⟨(some 18), (.mv (.t 7)), none⟩,
  ⟨(some 19), (.conv .u64 (.t 18)), none⟩,
  ⟨(some 20), (.bin .or (.t 17) (.t 19)), none⟩,
  ⟨(some 5), (.mv (.t 20)), none⟩]
def q_digest_Home_8 : List AOper := [
  ⟨(some 21), (.bin .add (.t 12) (.v (.int .i64 1))), none⟩,
  ⟨(some 12), (.mv (.t 21)), none⟩]
def q_digest_Home_L9 : ACode := (.seq (.region q_digest_Home_5) (.seq (.cond (.t 13) .skip (.exit 0)) (.seq (.block 1 (.seq (.region q_digest_Home_6) (.region q_digest_Home_7))) (.region q_digest_Home_8))))
def q_digest_Home_9 : List AOper := [
  ⟨(some 22), (.mv (.t 5)), none⟩,
  ⟨(some 23), (.mv (.t 1)), none⟩,
  ⟨(some 24), (.conv .u64 (.t 23)), none⟩,
  ⟨(some 25), (.bin .rem (.t 22) (.t 24)), none⟩,
  ⟨(some 26), (.conv .i64 (.t 25)), none⟩,
  ⟨(some 4), (.mv (.t 26)), none⟩]
def a_digest_Home : AFunc := ⟨[(.tmp 4)], (.seq (.region q_digest_Home_0) (.seq (.seq (.region q_digest_Home_1) (.cond (.t 9) (.seq (.region q_digest_Home_2) .ret) .skip)) (.seq (.region q_digest_Home_3) (.seq (.seq (.region q_digest_Home_4) (.block 0 (.loop q_digest_Home_L9))) (.seq (.region q_digest_Home_9) .ret)))))⟩

def q_digest_mix_0 : List AOper := [
  ⟨(some 2), (.box 138 (.ia .u32 8) (.t 0)), none⟩,
  ⟨(some 4), (.alloc 138 [(.iarr .u32 8 [0, 0, 0, 0, 0, 0, 0, 0])]), none⟩]
def q_digest_mix_1 : List DOp := [
  ⟨⟨(some 14), (.mv (.t 1)), none⟩, true, false, none, []⟩,
  ⟨⟨(some 17), (.load (.ia .u32 8) 8 (.t 2)), none⟩, true, false, none, []⟩,
  ⟨⟨(some 15), (.call F_digest_spread [(.sc, (.t 14))]), none⟩, false, true, (some [2]), []⟩,
  ⟨⟨(some 16), (.call F_digest_rounds []), none⟩, false, true, (some [2]), []⟩,
  ⟨⟨(some 5), (.alloc 141 [(.iarr .u32 64 (List.replicate 64 0))]), none⟩, false, false, none, []⟩,
  ⟨⟨(some 6), (.alloc 141 [(.iarr .u32 64 (List.replicate 64 0))]), none⟩, false, false, none, []⟩,
  ⟨⟨(some 7), (.alloc 138 [(.iarr .u32 8 [0, 0, 0, 0, 0, 0, 0, 0])]), none⟩, false, false, none, []⟩,
  ⟨⟨none, (.store (.ia .u32 64) 64 (.t 5) (.t 15)), none⟩, false, true, (some [2]), []⟩,
  ⟨⟨none, (.store (.ia .u32 64) 64 (.t 6) (.t 16)), none⟩, false, true, (some [2]), []⟩,
  ⟨⟨none, (.store (.ia .u32 8) 8 (.t 7) (.t 17)), none⟩, false, false, none, []⟩]
def q_digest_mix_2 : List AOper := [
  ⟨(some 18), (.mv (.v (.int .i64 0))), none⟩]
def q_digest_mix_3 : List AOper := [
  ⟨(some 19), (.bin .lss (.t 18) (.v (.int .i64 64))), none⟩]
def q_digest_mix_4 : List AOper := [
  ⟨(some 20), (.mv (.t 18)), none⟩,
  ⟨(some 8), (.mv (.t 20)), none⟩]
def q_digest_mix_5 : List DOp := [
  ⟨⟨(some 21), (.idxA 8 1 true (.t 7) (.v (.int .i64 4))), none⟩, true, false, none, []⟩,
  ⟨⟨(some 22), (.load .sc 1 (.t 21)), none⟩, true, false, none, []⟩,
  ⟨⟨(some 23), (.idxA 8 1 true (.t 7) (.v (.int .i64 0))), none⟩, true, false, none, []⟩,
  ⟨⟨(some 24), (.load .sc 1 (.t 23)), none⟩, true, false, none, []⟩,
  ⟨⟨(some 9), (.mv (.t 22)), none⟩, true, false, none, []⟩,
  ⟨⟨(some 10), (.mv (.t 24)), none⟩, true, false, none, []⟩]
def q_digest_mix_6 : List DOp := [
  ⟨⟨(some 25), (.idxA 8 1 true (.t 7) (.v (.int .i64 7))), none⟩, true, false, none, []⟩,
  ⟨⟨(some 26), (.load .sc 1 (.t 25)), none⟩, true, false, none, []⟩,
  ⟨⟨(some 27), (.mv (.t 9)), none⟩, true, false, none, []⟩,
  ⟨⟨(some 29), (.mv (.t 9)), none⟩, true, false, none, []⟩,
  ⟨⟨(some 32), (.mv (.t 9)), none⟩, true, false, none, []⟩,
  ⟨⟨(some 36), (.mv (.t 9)), none⟩, true, false, none, []⟩,
  ⟨⟨(some 37), (.idxA 8 1 true (.t 7) (.v (.int .i64 5))), none⟩, true, false, none, []⟩,
  ⟨⟨(some 38), (.load .sc 1 (.t 37)), none⟩, true, false, none, []⟩,
  ⟨⟨(some 39), (.bin .and (.t 36) (.t 38)), none⟩, true, false, none, []⟩,
  ⟨⟨(some 40), (.mv (.t 9)), none⟩, true, false, none, []⟩,
  ⟨⟨(some 41), (.un .xor (.t 40)), none⟩, true, false, none, []⟩,
  ⟨⟨(some 42), (.idxA 8 1 true (.t 7) (.v (.int .i64 6))), none⟩, true, false, none, []⟩,
  ⟨⟨(some 43), (.load .sc 1 (.t 42)), none⟩, true, false, none, []⟩,
  ⟨⟨(some 44), (.bin .and (.t 41) (.t 43)), none⟩, true, false, none, []⟩,
  ⟨⟨(some 45), (.bin .xor (.t 39) (.t 44)), none⟩, true, false, none, []⟩,
  ⟨⟨(some 47), (.mv (.t 8)), none⟩, true, false, none, []⟩,
  ⟨⟨(some 48), (.idxA 64 1 true (.t 6) (.t 47)), none⟩, true, false, none, []⟩,
  ⟨⟨(some 49), (.load .sc 1 (.t 48)), none⟩, true, false, none, []⟩,
  ⟨⟨(some 51), (.mv (.t 8)), none⟩, true, false, none, []⟩,
  ⟨⟨(some 52), (.idxA 64 1 true (.t 5) (.t 51)), none⟩, true, false, none, []⟩,
  ⟨⟨(some 53), (.load .sc 1 (.t 52)), none⟩, true, false, none, []⟩,
  ⟨⟨(some 28), (.call F_digest_spin [(.sc, (.t 27)), (.sc, (.v (.int .i64 6)))]), none⟩, false, true, (some [52, 48, 42, 37, 25]), []⟩,
  ⟨⟨(some 30), (.call F_digest_spin [(.sc, (.t 29)), (.sc, (.v (.int .i64 11)))]), none⟩, false, true, (some [52, 48, 42, 37, 25]), []⟩,
  ⟨⟨(some 31), (.bin .xor (.t 28) (.t 30)), none⟩, true, false, none, []⟩,
  ⟨⟨(some 33), (.call F_digest_spin [(.sc, (.t 32)), (.sc, (.v (.int .i64 25)))]), none⟩, false, true, (some [52, 48, 42, 37, 25]), []⟩,
  ⟨⟨(some 34), (.bin .xor (.t 31) (.t 33)), none⟩, true, false, none, []⟩,
  ⟨⟨(some 35), (.bin .add (.t 26) (.t 34)), none⟩, true, false, none, []⟩,
  ⟨⟨(some 46), (.bin .add (.t 35) (.t 45)), none⟩, true, false, none, []⟩,
  ⟨⟨(some 50), (.bin .add (.t 46) (.t 49)), none⟩, true, false, none, []⟩,
  ⟨⟨(some 54), (.bin .add (.t 50) (.t 53)), none⟩, true, false, none, []⟩,
  ⟨⟨(some 11), (.mv (.t 54)), none⟩, true, false, none, []⟩]
def q_digest_mix_7 : List DOp := [
  ⟨⟨(some 55), (.mv (.t 10)), none⟩, true, false, none, []⟩,
  ⟨⟨(some 57), (.mv (.t 10)), none⟩, true, false, none, []⟩,
  ⟨⟨(some 60), (.mv (.t 10)), none⟩, true, false, none, []⟩,
  ⟨⟨(some 63), (.mv (.t 10)), none⟩, true, false, none, []⟩,
  ⟨⟨(some 64), (.idxA 8 1 true (.t 7) (.v (.int .i64 1))), none⟩, true, false, none, []⟩,
  ⟨⟨(some 65), (.load .sc 1 (.t 64)), none⟩, true, false, none, []⟩,
  ⟨⟨(some 66), (.bin .and (.t 63) (.t 65)), none⟩, true, false, none, []⟩,
  ⟨⟨(some 67), (.mv (.t 10)), none⟩, true, false, none, []⟩,
  ⟨⟨(some 68), (.idxA 8 1 true (.t 7) (.v (.int .i64 2))), none⟩, true, false, none, []⟩,
  ⟨⟨(some 69), (.load .sc 1 (.t 68)), none⟩, true, false, none, []⟩,
  ⟨⟨(some 70), (.bin .and (.t 67) (.t 69)), none⟩, true, false, none, []⟩,
  ⟨⟨(some 71), (.bin .xor (.t 66) (.t 70)), none⟩, true, false, none, []⟩,
  ⟨⟨(some 72), (.idxA 8 1 true (.t 7) (.v (.int .i64 1))), none⟩, true, false, none, []⟩,
  ⟨⟨(some 73), (.load .sc 1 (.t 72)), none⟩, true, false, none, []⟩,
  ⟨⟨(some 74), (.idxA 8 1 true (.t 7) (.v (.int .i64 2))), none⟩, true, false, none, []⟩,
  ⟨⟨(some 75), (.load .sc 1 (.t 74)), none⟩, true, false, none, []⟩,
  ⟨⟨(some 76), (.bin .and (.t 73) (.t 75)), none⟩, true, false, none, []⟩,
  ⟨⟨(some 77), (.bin .xor (.t 71) (.t 76)), none⟩, true, false, none, []⟩,
  ⟨⟨(some 56), (.call F_digest_spin [(.sc, (.t 55)), (.sc, (.v (.int .i64 2)))]), none⟩, false, true, (some [74, 72, 68, 64]), []⟩,
  ⟨⟨(some 58), (.call F_digest_spin [(.sc, (.t 57)), (.sc, (.v (.int .i64 13)))]), none⟩, false, true, (some [74, 72, 68, 64]), []⟩,
  ⟨⟨(some 59), (.bin .xor (.t 56) (.t 58)), none⟩, true, false, none, []⟩,
  ⟨⟨(some 61), (.call F_digest_spin [(.sc, (.t 60)), (.sc, (.v (.int .i64 22)))]), none⟩, false, true, (some [74, 72, 68, 64]), []⟩,
  ⟨⟨(some 62), (.bin .xor (.t 59) (.t 61)), none⟩, true, false, none, []⟩,
  ⟨⟨(some 78), (.bin .add (.t 62) (.t 77)), none⟩, true, false, none, []⟩,
  ⟨⟨(some 12), (.mv (.t 78)), none⟩, true, false, none, []⟩]
def q_digest_mix_8 : List AOper := [
  ⟨(some 79), (.mv (.t 11)), none⟩,
  ⟨(some 80), (.mv (.t 12)), none⟩,
  ⟨(some 81), (.bin .add (.t 79) (.t 80)), none⟩,
  ⟨(some 82), (.idxA 8 1 true (.t 7) (.v (.int .i64 0))), none⟩,
  ⟨(some 83), (.load .sc 1 (.t 82)), none⟩,
  ⟨(some 84), (.idxA 8 1 true (.t 7) (.v (.int .i64 1))), none⟩,
  ⟨(some 85), (.load .sc 1 (.t 84)), none⟩,
  ⟨(some 86), (.idxA 8 1 true (.t 7) (.v (.int .i64 2))), none⟩,
  ⟨(some 87), (.load .sc 1 (.t 86)), none⟩,
  ⟨(some 88), (.idxA 8 1 true (.t 7) (.v (.int .i64 3))), none⟩,
  ⟨(some 89), (.load .sc 1 (.t 88)), none⟩,
  ⟨(some 90), (.mv (.t 11)), none⟩,
  ⟨(some 91), (.bin .add (.t 89) (.t 90)), none⟩,
  ⟨(some 92), (.idxA 8 1 true (.t 7) (.v (.int .i64 4))), none⟩,
  ⟨(some 93), (.load .sc 1 (.t 92)), none⟩,
  ⟨(some 94), (.idxA 8 1 true (.t 7) (.v (.int .i64 5))), none⟩,
  ⟨(some 95), (.load .sc 1 (.t 94)), none⟩,
  ⟨(some 96), (.idxA 8 1 true (.t 7) (.v (.int .i64 6))), none⟩,
  ⟨(some 97), (.load .sc 1 (.t 96)), none⟩,
  ⟨(some 98), (.build (.ia .u32 8) [(.iarr .u32 8 [0, 0, 0, 0, 0, 0, 0, 0])] [(0, (1, (.t 81))), (1, (1, (.t 83))), (2, (1, (.t 85))), (3, (1, (.t 87))), (4, (1, (.t 91))), (5, (1, (.t 93))), (6, (1, (.t 95))), (7, (1, (.t 97)))]), none⟩,
  ⟨none, (.store (.ia .u32 8) 8 (.t 7) (.t 98)), none⟩]
def q_digest_mix_9 : List AOper := [
  ⟨(some 99), (.bin .add (.t 18) (.v (.int .i64 1))), none⟩,
  ⟨(some 18), (.mv (.t 99)), none⟩]
def q_digest_mix_L10 : ACode := (.seq (.region q_digest_mix_3) (.seq (.cond (.t 19) .skip (.exit 0)) (.seq (.block 1 (.seq (.region q_digest_mix_4) (.seq (.regionD q_digest_mix_5) (.seq (.regionD q_digest_mix_6) (.seq (.regionD q_digest_mix_7) (.region q_digest_mix_8)))))) (.region q_digest_mix_9))))
def q_digest_mix_10 : List AOper := [
  ⟨(some 100), (.mv (.v (.int .i64 0))), none⟩]
def q_digest_mix_11 : List AOper := [
  ⟨(some 101), (.bin .lss (.t 100) (.v (.int .i64 8))), none⟩]
def q_digest_mix_12 : List AOper := [
  ⟨(some 102), (.mv (.t 100)), none⟩,
  ⟨(some 13), (.mv (.t 102)), none⟩]
def q_digest_mix_13 : List DOp := [
  ⟨⟨(some 103), (.mv (.t 13)), none⟩, true, false, none, []⟩,
  ⟨⟨(some 104), (.idxA 8 1 true (.t 2) (.t 103)), none⟩, true, false, none, []⟩,
  ⟨⟨(some 105), (.load .sc 1 (.t 104)), none⟩, true, false, none, []⟩,
  ⟨⟨(some 106), (.mv (.t 13)), none⟩, true, false, none, []⟩,
  ⟨⟨(some 107), (.idxA 8 1 true (.t 7) (.t 106)), none⟩, true, false, none, []⟩,
  ⟨⟨(some 108), (.load .sc 1 (.t 107)), none⟩, true, false, none, []⟩,
  ⟨⟨(some 109), (.bin .add (.t 105) (.t 108)), none⟩, true, false, none, []⟩,
  ⟨⟨(some 110), (.idxA 8 1 true (.t 2) (.t 103)), none⟩, true, false, none, []⟩,
  ⟨⟨none, (.store .sc 1 (.t 110) (.t 109)), none⟩, false, false, none, []⟩]
def q_digest_mix_14 : List AOper := [
  ⟨(some 111), (.bin .add (.t 100) (.v (.int .i64 1))), none⟩,
  ⟨(some 100), (.mv (.t 111)), none⟩]
def q_digest_mix_L15 : ACode := (.seq (.region q_digest_mix_11) (.seq (.cond (.t 101) .skip (.exit 2)) (.seq (.block 3 (.seq (.region q_digest_mix_12) (.regionD q_digest_mix_13))) (.region q_digest_mix_14))))
def q_digest_mix_15 : List AOper := [
  ⟨(some 112), (.load (.ia .u32 8) 8 (.t 2)), none⟩,
  ⟨none, (.store (.ia .u32 8) 8 (.t 4) (.t 112)), none⟩]
def a_digest_mix : AFunc := ⟨[(.cell 4 (.ia .u32 8) 8)], (.seq (.region q_digest_mix_0) (.seq (.regionD q_digest_mix_1) (.seq (.seq (.region q_digest_mix_2) (.block 0 (.loop q_digest_mix_L10))) (.seq (.seq (.region q_digest_mix_10) (.block 2 (.loop q_digest_mix_L15))) (.seq (.region q_digest_mix_15) .ret)))))⟩

def q_digest_spread_0 : List AOper := [
  ⟨(some 2), (.alloc 141 [(.iarr .u32 64 (List.replicate 64 0))]), none⟩]
def q_digest_spread_1 : List AOper := [
  ⟨(some 3), (.alloc 141 [(.iarr .u32 64 (List.replicate 64 0))]), none⟩]
def q_digest_spread_2 : List AOper := [
  ⟨(some 8), (.mv (.v (.int .i64 0))), none⟩]
def q_digest_spread_3 : List AOper := [
  ⟨(some 9), (.bin .lss (.t 8) (.v (.int .i64 16))), none⟩]
def q_digest_spread_4 : List AOper := [
  ⟨(some 10), (.mv (.t 8)), none⟩,
  ⟨(some 4), (.mv (.t 10)), none⟩]
def q_digest_spread_5 : List DOp := [
  ⟨⟨(some 11), (.mv (.t 4)), none⟩, true, false, none, []⟩,
  ⟨⟨(some 12), (.mv (.t 0)), none⟩, true, false, none, []⟩,
  ⟨⟨(some 13), (.mv (.t 4)), none⟩, true, false, none, []⟩,
  ⟨⟨(some 14), (.bin .mul (.v (.int .i64 4)) (.t 13)), none⟩, true, false, none, []⟩,
  ⟨⟨(some 15), (.idx 1 (.t 12) (.t 14)), none⟩, true, false, none, []⟩,
  ⟨⟨(some 16), (.load .sc 1 (.t 15)), none⟩, true, false, none, []⟩,
  ⟨⟨(some 17), (.conv .u32 (.t 16)), none⟩, true, false, none, []⟩,
  ⟨⟨(some 18), (.bin .shl (.t 17) (.v (.int .u64 24))), none⟩, true, false, none, []⟩,
  ⟨⟨(some 19), (.mv (.t 0)), none⟩, true, false, none, []⟩,
  ⟨⟨(some 20), (.mv (.t 4)), none⟩, true, false, none, []⟩,
  ⟨⟨(some 21), (.bin .mul (.v (.int .i64 4)) (.t 20)), none⟩, true, false, none, []⟩,
  ⟨⟨(some 22), (.bin .add (.t 21) (.v (.int .i64 1))), none⟩, true, false, none, []⟩,
  ⟨⟨(some 23), (.idx 1 (.t 19) (.t 22)), none⟩, true, false, none, []⟩,
  ⟨⟨(some 24), (.load .sc 1 (.t 23)), none⟩, true, false, none, []⟩,
  ⟨⟨(some 25), (.conv .u32 (.t 24)), none⟩, true, false, none, []⟩,
  ⟨⟨(some 26), (.bin .shl (.t 25) (.v (.int .u64 16))), none⟩, true, false, none, []⟩,
  ⟨⟨(some 27), (.bin .or (.t 18) (.t 26)), none⟩, true, false, none, []⟩,
  ⟨⟨(some 28), (.mv (.t 0)), none⟩, true, false, none, []⟩,
  ⟨⟨(some 29), (.mv (.t 4)), none⟩, true, false, none, []⟩,
  ⟨⟨(some 30), (.bin .mul (.v (.int .i64 4)) (.t 29)), none⟩, true, false, none, []⟩,
  ⟨⟨(some 31), (.bin .add (.t 30) (.v (.int .i64 2))), none⟩, true, false, none, []⟩,
  ⟨⟨(some 32), (.idx 1 (.t 28) (.t 31)), none⟩, true, false, none, []⟩,
  ⟨⟨(some 33), (.load .sc 1 (.t 32)), none⟩, true, false, none, []⟩,
  ⟨⟨(some 34), (.conv .u32 (.t 33)), none⟩, true, false, none, []⟩,
  ⟨⟨(some 35), (.bin .shl (.t 34) (.v (.int .u64 8))), none⟩, true, false, none, []⟩,
  ⟨⟨(some 36), (.bin .or (.t 27) (.t 35)), none⟩, true, false, none, []⟩,
  ⟨⟨(some 37), (.mv (.t 0)), none⟩, true, false, none, []⟩,
  ⟨⟨(some 38), (.mv (.t 4)), none⟩, true, false, none, []⟩,
  ⟨⟨(some 39), (.bin .mul (.v (.int .i64 4)) (.t 38)), none⟩, true, false, none, []⟩,
  ⟨⟨(some 40), (.bin .add (.t 39) (.v (.int .i64 3))), none⟩, true, false, none, []⟩,
  ⟨⟨(some 41), (.idx 1 (.t 37) (.t 40)), none⟩, true, false, none, []⟩,
  ⟨⟨(some 42), (.load .sc 1 (.t 41)), none⟩, true, false, none, []⟩,
  ⟨⟨(some 43), (.conv .u32 (.t 42)), none⟩, true, false, none, []⟩,
  ⟨⟨(some 44), (.bin .or (.t 36) (.t 43)), none⟩, true, false, none, []⟩,
  ⟨⟨(some 45), (.idxA 64 1 true (.t 3) (.t 11)), none⟩, true, false, none, []⟩,
  ⟨⟨none, (.store .sc 1 (.t 45) (.t 44)), none⟩, false, false, none, []⟩]
def q_digest_spread_6 : List AOper := [
  ⟨(some 46), (.bin .add (.t 8) (.v (.int .i64 1))), none⟩,
  ⟨(some 8), (.mv (.t 46)), none⟩]
def q_digest_spread_L7 : ACode := (.seq (.region q_digest_spread_3) (.seq (.cond (.t 9) .skip (.exit 0)) (.seq (.block 1 (.seq (.region q_digest_spread_4) (.regionD q_digest_spread_5))) (.region q_digest_spread_6))))
def q_digest_spread_7 : List AOper := [
  ⟨(some 5), (.mv (.v (.int .i64 16))), none⟩]
def q_digest_spread_8 : List AOper := [
  ⟨(some 47), (.mv (.t 5)), none⟩,
  ⟨(some 48), (.bin .lss (.t 47) (.v (.int .i64 64))), none⟩]
def q_digest_spread_9 : List DOp := [
  ⟨⟨(some 51), (.mv (.t 5)), none⟩, true, false, none, []⟩,
  ⟨⟨(some 52), (.bin .sub (.t 51) (.v (.int .i64 15))), none⟩, true, false, none, []⟩,
  ⟨⟨(some 53), (.idxA 64 1 true (.t 3) (.t 52)), none⟩, true, false, none, []⟩,
  ⟨⟨(some 54), (.load .sc 1 (.t 53)), none⟩, true, false, none, []⟩,
  ⟨⟨(some 55), (.mv (.t 5)), none⟩, true, false, none, []⟩,
  ⟨⟨(some 56), (.bin .sub (.t 55) (.v (.int .i64 2))), none⟩, true, false, none, []⟩,
  ⟨⟨(some 57), (.idxA 64 1 true (.t 3) (.t 56)), none⟩, true, false, none, []⟩,
  ⟨⟨(some 58), (.load .sc 1 (.t 57)), none⟩, true, false, none, []⟩,
  ⟨⟨(some 6), (.mv (.t 54)), none⟩, true, false, none, []⟩,
  ⟨⟨(some 7), (.mv (.t 58)), none⟩, true, false, none, []⟩]
def q_digest_spread_10 : List DOp := [
  ⟨⟨(some 59), (.mv (.t 5)), none⟩, true, false, none, []⟩,
  ⟨⟨(some 60), (.mv (.t 5)), none⟩, true, false, none, []⟩,
  ⟨⟨(some 61), (.bin .sub (.t 60) (.v (.int .i64 16))), none⟩, true, false, none, []⟩,
  ⟨⟨(some 62), (.idxA 64 1 true (.t 3) (.t 61)), none⟩, true, false, none, []⟩,
  ⟨⟨(some 63), (.load .sc 1 (.t 62)), none⟩, true, false, none, []⟩,
  ⟨⟨(some 64), (.mv (.t 6)), none⟩, true, false, none, []⟩,
  ⟨⟨(some 66), (.mv (.t 6)), none⟩, true, false, none, []⟩,
  ⟨⟨(some 69), (.mv (.t 6)), none⟩, true, false, none, []⟩,
  ⟨⟨(some 70), (.bin .shr (.t 69) (.v (.int .u64 3))), none⟩, true, false, none, []⟩,
  ⟨⟨(some 73), (.mv (.t 5)), none⟩, true, false, none, []⟩,
  ⟨⟨(some 74), (.bin .sub (.t 73) (.v (.int .i64 7))), none⟩, true, false, none, []⟩,
  ⟨⟨(some 75), (.idxA 64 1 true (.t 3) (.t 74)), none⟩, true, false, none, []⟩,
  ⟨⟨(some 76), (.load .sc 1 (.t 75)), none⟩, true, false, none, []⟩,
  ⟨⟨(some 78), (.mv (.t 7)), none⟩, true, false, none, []⟩,
  ⟨⟨(some 80), (.mv (.t 7)), none⟩, true, false, none, []⟩,
  ⟨⟨(some 83), (.mv (.t 7)), none⟩, true, false, none, []⟩,
  ⟨⟨(some 84), (.bin .shr (.t 83) (.v (.int .u64 10))), none⟩, true, false, none, []⟩,
  ⟨⟨(some 65), (.call F_digest_spin [(.sc, (.t 64)), (.sc, (.v (.int .i64 7)))]), none⟩, false, true, (some [75, 62]), []⟩,
  ⟨⟨(some 67), (.call F_digest_spin [(.sc, (.t 66)), (.sc, (.v (.int .i64 18)))]), none⟩, false, true, (some [75, 62]), []⟩,
  ⟨⟨(some 68), (.bin .xor (.t 65) (.t 67)), none⟩, true, false, none, []⟩,
  ⟨⟨(some 71), (.bin .xor (.t 68) (.t 70)), none⟩, true, false, none, []⟩,
  ⟨⟨(some 72), (.bin .add (.t 63) (.t 71)), none⟩, true, false, none, []⟩,
  ⟨⟨(some 77), (.bin .add (.t 72) (.t 76)), none⟩, true, false, none, []⟩,
  ⟨⟨(some 79), (.call F_digest_spin [(.sc, (.t 78)), (.sc, (.v (.int .i64 17)))]), none⟩, false, true, (some [75, 62]), []⟩,
  ⟨⟨(some 81), (.call F_digest_spin [(.sc, (.t 80)), (.sc, (.v (.int .i64 19)))]), none⟩, false, true, (some [75, 62]), []⟩,
  ⟨⟨(some 82), (.bin .xor (.t 79) (.t 81)), none⟩, true, false, none, []⟩,
  ⟨⟨(some 85), (.bin .xor (.t 82) (.t 84)), none⟩, true, false, none, []⟩,
  ⟨⟨(some 86), (.bin .add (.t 77) (.t 85)), none⟩, true, false, none, []⟩,
  ⟨⟨(some 87), (.idxA 64 1 true (.t 3) (.t 59)), none⟩, true, false, none, []⟩,
  ⟨⟨none, (.store .sc 1 (.t 87) (.t 86)), none⟩, false, false, none, []⟩]
def q_digest_spread_11 : List AOper := [
  ⟨(some 49), (.mv (.t 5)), none⟩,
  ⟨(some 50), (.bin .add (.t 49) (.v (.int .i64 1))), none⟩,
  ⟨(some 5), (.mv (.t 50)), none⟩]
def q_digest_spread_L12 : ACode := (.seq (.seq (.region q_digest_spread_8) (.cond (.t 48) .skip (.exit 2))) (.seq (.block 3 (.seq (.regionD q_digest_spread_9) (.regionD q_digest_spread_10))) (.region q_digest_spread_11)))
def q_digest_spread_12 : List AOper := [
  ⟨(some 88), (.load (.ia .u32 64) 64 (.t 3)), none⟩,
  ⟨none, (.store (.ia .u32 64) 64 (.t 2) (.t 88)), none⟩]
def a_digest_spread : AFunc := ⟨[(.cell 2 (.ia .u32 64) 64)], (.seq (.region q_digest_spread_0) (.seq (.region q_digest_spread_1) (.seq (.seq (.region q_digest_spread_2) (.block 0 (.loop q_digest_spread_L7))) (.seq (.seq (.region q_digest_spread_7) (.block 2 (.loop q_digest_spread_L12))) (.seq (.region q_digest_spread_12) .ret)))))⟩

def q_digest_rounds_0 : List AOper := [
  ⟨(some 0), (.alloc 141 [(.iarr .u32 64 (List.replicate 64 0))]), none⟩]
def q_digest_rounds_1 : List AOper := [
  ⟨(some 1), (.build (.ia .u32 64) [(.iarr .u32 64 (List.replicate 64 0))] [(0, (1, (.v (.int .u32 1116352408)))), (1, (1, (.v (.int .u32 1899447441)))), (2, (1, (.v (.int .u32 3049323471)))), (3, (1, (.v (.int .u32 3921009573)))), (4, (1, (.v (.int .u32 961987163)))), (5, (1, (.v (.int .u32 1508970993)))), (6, (1, (.v (.int .u32 2453635748)))), (7, (1, (.v (.int .u32 2870763221)))), (8, (1, (.v (.int .u32 3624381080)))), (9, (1, (.v (.int .u32 310598401)))), (10, (1, (.v (.int .u32 607225278)))), (11, (1, (.v (.int .u32 1426881987)))), (12, (1, (.v (.int .u32 1925078388)))), (13, (1, (.v (.int .u32 2162078206)))), (14, (1, (.v (.int .u32 2614888103)))), (15, (1, (.v (.int .u32 3248222580)))), (16, (1, (.v (.int .u32 3835390401)))), (17, (1, (.v (.int .u32 4022224774)))), (18, (1, (.v (.int .u32 264347078)))), (19, (1, (.v (.int .u32 604807628)))), (20, (1, (.v (.int .u32 770255983)))), (21, (1, (.v (.int .u32 1249150122)))), (22, (1, (.v (.int .u32 1555081692)))), (23, (1, (.v (.int .u32 1996064986)))), (24, (1, (.v (.int .u32 2554220882)))), (25, (1, (.v (.int .u32 2821834349)))), (26, (1, (.v (.int .u32 2952996808)))), (27, (1, (.v (.int .u32 3210313671)))), (28, (1, (.v (.int .u32 3336571891)))), (29, (1, (.v (.int .u32 3584528711)))), (30, (1, (.v (.int .u32 113926993)))), (31, (1, (.v (.int .u32 338241895)))), (32, (1, (.v (.int .u32 666307205)))), (33, (1, (.v (.int .u32 773529912)))), (34, (1, (.v (.int .u32 1294757372)))), (35, (1, (.v (.int .u32 1396182291)))), (36, (1, (.v (.int .u32 1695183700)))), (37, (1, (.v (.int .u32 1986661051)))), (38, (1, (.v (.int .u32 2177026350)))), (39, (1, (.v (.int .u32 2456956037)))), (40, (1, (.v (.int .u32 2730485921)))), (41, (1, (.v (.int .u32 2820302411)))), (42, (1, (.v (.int .u32 3259730800)))), (43, (1, (.v (.int .u32 3345764771)))), (44, (1, (.v (.int .u32 3516065817)))), (45, (1, (.v (.int .u32 3600352804)))), (46, (1, (.v (.int .u32 4094571909)))), (47, (1, (.v (.int .u32 275423344)))), (48, (1, (.v (.int .u32 430227734)))), (49, (1, (.v (.int .u32 506948616)))), (50, (1, (.v (.int .u32 659060556)))), (51, (1, (.v (.int .u32 883997877)))), (52, (1, (.v (.int .u32 958139571)))), (53, (1, (.v (.int .u32 1322822218)))), (54, (1, (.v (.int .u32 1537002063)))), (55, (1, (.v (.int .u32 1747873779)))), (56, (1, (.v (.int .u32 1955562222)))), (57, (1, (.v (.int .u32 2024104815)))), (58, (1, (.v (.int .u32 2227730452)))), (59, (1, (.v (.int .u32 2361852424)))), (60, (1, (.v (.int .u32 2428436474)))), (61, (1, (.v (.int .u32 2756734187)))), (62, (1, (.v (.int .u32 3204031479)))), (63, (1, (.v (.int .u32 3329325298))))]), none⟩,
  ⟨none, (.store (.ia .u32 64) 64 (.t 0) (.t 1)), none⟩]
def a_digest_rounds : AFunc := ⟨[(.cell 0 (.ia .u32 64) 64)], (.seq (.region q_digest_rounds_0) (.seq (.region q_digest_rounds_1) .ret))⟩

def q_digest_spin_0 : List AOper := [
  ⟨(some 4), (.mv (.v (.int .u32 0))), none⟩]
def q_digest_spin_1 : List DOp := [
  ⟨⟨(some 5), (.mv (.t 0)), none⟩, true, false, none, []⟩,
  ⟨⟨(some 6), (.mv (.t 1)), none⟩, true, false, none, []⟩,
  ⟨⟨(some 7), (.bin .shr (.t 5) (.t 6)), none⟩, true, false, none, []⟩,
  ⟨⟨(some 8), (.mv (.t 0)), none⟩, true, false, none, []⟩,
  ⟨⟨(some 9), (.mv (.t 1)), none⟩, true, false, none, []⟩,
  ⟨⟨(some 10), (.bin .sub (.v (.int .i64 32)) (.t 9)), none⟩, true, false, none, []⟩,
  ⟨⟨(some 11), (.bin .shl (.t 8) (.t 10)), none⟩, true, false, none, []⟩,
  ⟨⟨(some 12), (.bin .or (.t 7) (.t 11)), none⟩, true, false, none, []⟩,
  ⟨⟨(some 4), (.mv (.t 12)), none⟩, true, false, none, []⟩]
def a_digest_spin : AFunc := ⟨[(.tmp 4)], (.seq (.region q_digest_spin_0) (.seq (.regionD q_digest_spin_1) .ret))⟩

def q_Pdigest_Hash_Add_0 : List AOper := [
  ⟨(some 5), (.mv (.t 0)), none⟩,
  ⟨(some 6), (.xx (.p .nilCk) [(.t 5)]), none⟩,
  ⟨(some 7), (.fadr 9 1 .sc (.t 6)), none⟩,
  ⟨(some 8), (.load .sc 1 (.t 7)), none⟩,
  ⟨(some 9), (.mv (.t 1)), none⟩,
  ⟨(some 10), (.len false (.t 9)), none⟩,
  ⟨(some 11), (.conv .u64 (.t 10)), none⟩,
  ⟨(some 12), (.bin .add (.t 8) (.t 11)), none⟩,
  ⟨(some 13), (.xx (.p .nilCk) [(.t 5)]), none⟩,
  ⟨(some 14), (.fadr 9 1 .sc (.t 13)), none⟩,
  ⟨none, (.store .sc 1 (.t 14) (.t 12)), none⟩]
def q_Pdigest_Hash_Add_1 : List AOper := [
  ⟨(some 15), (.mv (.t 0)), none⟩,
  ⟨(some 16), (.xx (.p .nilCk) [(.t 15)]), none⟩,
  ⟨(some 17), (.fadr 8 1 .sc (.t 16)), none⟩,
  ⟨(some 18), (.load .sc 1 (.t 17)), none⟩,
  ⟨(some 19), (.mv (.t 1)), none⟩,
  ⟨(some 20), (.appI 5 .u8 1 (.t 18) (.t 19)), none⟩,
  ⟨(some 4), (.mv (.t 20)), none⟩]
def q_Pdigest_Hash_Add_2 : List AOper := [
  ⟨(some 21), (.mv (.t 4)), none⟩,
  ⟨(some 22), (.len false (.t 21)), none⟩,
  ⟨(some 23), (.bin .geq (.t 22) (.v (.int .i64 64))), none⟩]
def q_Pdigest_Hash_Add_3 : List DOp := [
  ⟨⟨(some 24), (.mv (.t 0)), none⟩, true, false, none, []⟩,
  ⟨⟨(some 25), (.mv (.t 0)), none⟩, true, false, none, []⟩,
  ⟨⟨(some 26), (.xx (.p .nilCk) [(.t 25)]), none⟩, true, false, none, []⟩,
  ⟨⟨(some 27), (.fadr 0 8 (.ia .u32 8) (.t 26)), none⟩, true, false, none, []⟩,
  ⟨⟨(some 28), (.load (.ia .u32 8) 8 (.t 27)), none⟩, true, false, none, []⟩,
  ⟨⟨(some 29), (.mv (.t 4)), none⟩, true, false, none, []⟩,
  ⟨⟨(some 30), (.slc 1 (.t 29) none (some (.v (.int .i64 64)))), none⟩, true, false, none, []⟩,
  ⟨⟨(some 31), (.call F_digest_mix [((.ia .u32 8), (.t 28)), (.sc, (.t 30))]), none⟩, false, false, none, []⟩,
  ⟨⟨(some 32), (.xx (.p .nilCk) [(.t 24)]), none⟩, true, false, none, []⟩,
  ⟨⟨(some 33), (.fadr 0 8 (.ia .u32 8) (.t 32)), none⟩, true, false, none, []⟩,
  ⟨⟨none, (.store (.ia .u32 8) 8 (.t 33) (.t 31)), none⟩, false, false, none, []⟩]
def q_Pdigest_Hash_Add_4 : List AOper := [
  ⟨(some 34), (.mv (.t 4)), none⟩,
  ⟨(some 35), (.slc 1 (.t 34) (some (.v (.int .i64 64))) none), none⟩,
  ⟨(some 4), (.mv (.t 35)), none⟩]
def q_Pdigest_Hash_Add_L5 : ACode := (.seq (.seq (.region q_Pdigest_Hash_Add_2) (.cond (.t 23) .skip (.exit 0))) (.block 1 (.seq (.regionD q_Pdigest_Hash_Add_3) (.region q_Pdigest_Hash_Add_4))))
def q_Pdigest_Hash_Add_5 : List AOper := [
  ⟨(some 36), (.mv (.t 0)), none⟩,
  ⟨(some 37), (.bslI 5 .u8 []), none⟩,
  ⟨(some 38), (.mv (.t 4)), none⟩,
  ⟨(some 39), (.appI 5 .u8 1 (.t 37) (.t 38)), none⟩,
  ⟨(some 40), (.xx (.p .nilCk) [(.t 36)]), none⟩,
  ⟨(some 41), (.fadr 8 1 .sc (.t 40)), none⟩,
  ⟨none, (.store .sc 1 (.t 41) (.t 39)), none⟩]
def a_Pdigest_Hash_Add : AFunc := ⟨[], (.seq (.region q_Pdigest_Hash_Add_0) (.seq (.region q_Pdigest_Hash_Add_1) (.seq (.block 0 (.loop q_Pdigest_Hash_Add_L5)) (.region q_Pdigest_Hash_Add_5))))⟩

def q_Pdigest_Hash_Sum_0 : List AOper := [
  ⟨(some 2), (.alloc 39 [(.iarr .u8 32 (List.replicate 32 0))]), none⟩]
def q_Pdigest_Hash_Sum_1 : List AOper := [
  ⟨(some 8), (.bslI 5 .u8 []), none⟩,
  ⟨(some 9), (.mv (.t 0)), none⟩,
  ⟨(some 10), (.xx (.p .nilCk) [(.t 9)]), none⟩,
  ⟨(some 11), (.fadr 8 1 .sc (.t 10)), none⟩,
  ⟨(some 12), (.load .sc 1 (.t 11)), none⟩,
  ⟨(some 13), (.appI 5 .u8 1 (.t 8) (.t 12)), none⟩,
  ⟨(some 14), (.bslI 5 .u8 [(.v (.int .u8 128))]), none⟩,
  ⟨(some 15), (.appI 5 .u8 1 (.t 13) (.t 14)), none⟩,
  ⟨(some 3), (.mv (.t 15)), none⟩]
def q_Pdigest_Hash_Sum_2 : List AOper := [
  ⟨(some 16), (.mv (.t 3)), none⟩,
  ⟨(some 17), (.len false (.t 16)), none⟩,
  ⟨(some 18), (.bin .rem (.t 17) (.v (.int .i64 64))), none⟩,
  ⟨(some 19), (.eq .scI true (.t 18) (.v (.int .i64 56))), none⟩]
def q_Pdigest_Hash_Sum_3 : List AOper := [
  ⟨(some 20), (.mv (.t 3)), none⟩,
  ⟨(some 21), (.bslI 5 .u8 [(.v (.int .u8 0))]), none⟩,
  ⟨(some 22), (.appI 5 .u8 1 (.t 20) (.t 21)), none⟩,
  ⟨(some 3), (.mv (.t 22)), none⟩]
def q_Pdigest_Hash_Sum_L4 : ACode := (.seq (.seq (.region q_Pdigest_Hash_Sum_2) (.cond (.t 19) .skip (.exit 0))) (.block 1 (.region q_Pdigest_Hash_Sum_3)))
def q_Pdigest_Hash_Sum_4 : List AOper := [
  ⟨(some 4), (.mv (.v (.int .i64 7))), none⟩]
def q_Pdigest_Hash_Sum_5 : List AOper := [
  ⟨(some 23), (.mv (.t 4)), none⟩,
  ⟨(some 24), (.bin .geq (.t 23) (.v (.int .i64 0))), none⟩]
def q_Pdigest_Hash_Sum_6 : List AOper := [
  ⟨(some 27), (.mv (.t 3)), none⟩,
  ⟨(some 28), (.mv (.t 0)), none⟩,
  ⟨(some 29), (.xx (.p .nilCk) [(.t 28)]), none⟩,
  ⟨(some 30), (.fadr 9 1 .sc (.t 29)), none⟩,
  ⟨(some 31), (.load .sc 1 (.t 30)), none⟩,
  ⟨(some 32), (.bin .mul (.v (.int .u64 8)) (.t 31)), none⟩,
  ⟨(some 33), (.mv (.t 4)), none⟩,
  ⟨(some 34), (.bin .mul (.v (.int .i64 8)) (.t 33)), none⟩,
  ⟨(some 35), (.bin .shr (.t 32) (.t 34)), none⟩,
  ⟨(some 36), (.conv .u8 (.t 35)), none⟩,
  ⟨(some 37), (.bslI 5 .u8 [(.t 36)]), none⟩,
  ⟨(some 38), (.appI 5 .u8 1 (.t 27) (.t 37)), none⟩,
  ⟨(some 3), (.mv (.t 38)), none⟩]
def q_Pdigest_Hash_Sum_7 : List AOper := [
  ⟨(some 25), (.mv (.t 4)), none⟩,
  ⟨(some 26), (.bin .sub (.t 25) (.v (.int .i64 1))), none⟩,
  ⟨(some 4), (.mv (.t 26)), none⟩]
def q_Pdigest_Hash_Sum_L8 : ACode := (.seq (.seq (.region q_Pdigest_Hash_Sum_5) (.cond (.t 24) .skip (.exit 2))) (.seq (.block 3 (.region q_Pdigest_Hash_Sum_6)) (.region q_Pdigest_Hash_Sum_7)))
def q_Pdigest_Hash_Sum_8 : List AOper := [
  ⟨(some 39), (.mv (.t 0)), none⟩,
  ⟨(some 40), (.xx (.p .nilCk) [(.t 39)]), none⟩,
  ⟨(some 41), (.fadr 0 8 (.ia .u32 8) (.t 40)), none⟩,
  ⟨(some 42), (.load (.ia .u32 8) 8 (.t 41)), none⟩,
  ⟨(some 5), (.alloc 138 [(.iarr .u32 8 [0, 0, 0, 0, 0, 0, 0, 0])]), none⟩,
  ⟨none, (.store (.ia .u32 8) 8 (.t 5) (.t 42)), none⟩]
def q_Pdigest_Hash_Sum_9 : List AOper := [
  ⟨(some 43), (.mv (.t 3)), none⟩,
  ⟨(some 44), (.len false (.t 43)), none⟩,
  ⟨(some 45), (.bin .gtr (.t 44) (.v (.int .i64 0))), none⟩]
def q_Pdigest_Hash_Sum_10 : List DOp := [
  ⟨⟨(some 48), (.load (.ia .u32 8) 8 (.t 5)), none⟩, true, false, none, []⟩,
  ⟨⟨(some 49), (.mv (.t 3)), none⟩, true, false, none, []⟩,
  ⟨⟨(some 50), (.slc 1 (.t 49) none (some (.v (.int .i64 64)))), none⟩, true, false, none, []⟩,
  ⟨⟨(some 51), (.call F_digest_mix [((.ia .u32 8), (.t 48)), (.sc, (.t 50))]), none⟩, false, false, none, []⟩,
  ⟨⟨none, (.store (.ia .u32 8) 8 (.t 5) (.t 51)), none⟩, false, false, none, []⟩]
def q_Pdigest_Hash_Sum_11 : List AOper := [
  ⟨(some 46), (.mv (.t 3)), none⟩,
  ⟨(some 47), (.slc 1 (.t 46) (some (.v (.int .i64 64))) none), none⟩,
  ⟨(some 3), (.mv (.t 47)), none⟩]
def q_Pdigest_Hash_Sum_L12 : ACode := (.seq (.seq (.region q_Pdigest_Hash_Sum_9) (.cond (.t 45) .skip (.exit 4))) (.seq (.block 5 (.regionD q_Pdigest_Hash_Sum_10)) (.region q_Pdigest_Hash_Sum_11)))
def q_Pdigest_Hash_Sum_12 : List AOper := [
  ⟨(some 6), (.alloc 39 [(.iarr .u8 32 (List.replicate 32 0))]), none⟩]
def q_Pdigest_Hash_Sum_13 : List AOper := [
  ⟨(some 52), (.mv (.v (.int .i64 0))), none⟩]
def q_Pdigest_Hash_Sum_14 : List AOper := [
  ⟨(some 53), (.bin .lss (.t 52) (.v (.int .i64 32))), none⟩]
def q_Pdigest_Hash_Sum_15 : List AOper := [
  ⟨(some 54), (.mv (.t 52)), none⟩,
  ⟨(some 7), (.mv (.t 54)), none⟩]
def q_Pdigest_Hash_Sum_16 : List AOper := [
  ⟨(some 55), (.mv (.t 7)), none⟩,
  ⟨(some 56), (.mv (.t 7)), none⟩,
  ⟨(some 57), (.bin .quo (.t 56) (.v (.int .i64 4))), none⟩,
  ⟨(some 58), (.idxA 8 1 true (.t 5) (.t 57)), none⟩,
  ⟨(some 59), (.load .sc 1 (.t 58)), none⟩,
  ⟨(some 60), (.mv (.t 7)), none⟩,
  ⟨(some 61), (.bin .rem (.t 60) (.v (.int .i64 4))), none⟩,
  ⟨(some 62), (.bin .mul (.v (.int .i64 8)) (.t 61)), none⟩,
  ⟨(some 63), (.bin .sub (.v (.int .i64 24)) (.t 62)), none⟩,
  ⟨(some 64), (.bin .shr (.t 59) (.t 63)), none⟩,
  ⟨(some 65), (.conv .u8 (.t 64)), none⟩,
  ⟨(some 66), (.idxA 32 1 true (.t 6) (.t 55)), none⟩,
  ⟨none, (.store .sc 1 (.t 66) (.t 65)), none⟩]
def q_Pdigest_Hash_Sum_17 : List AOper := [
  ⟨(some 67), (.bin .add (.t 52) (.v (.int .i64 1))), none⟩,
  ⟨(some 52), (.mv (.t 67)), none⟩]
def q_Pdigest_Hash_Sum_L18 : ACode := (.seq (.region q_Pdigest_Hash_Sum_14) (.seq (.cond (.t 53) .skip (.exit 6)) (.seq (.block 7 (.seq (.region q_Pdigest_Hash_Sum_15) (.region q_Pdigest_Hash_Sum_16))) (.region q_Pdigest_Hash_Sum_17))))
def q_Pdigest_Hash_Sum_18 : List AOper := [
  ⟨(some 68), (.load (.ia .u8 32) 32 (.t 6)), none⟩,
  ⟨none, (.store (.ia .u8 32) 32 (.t 2) (.t 68)), none⟩]
def a_Pdigest_Hash_Sum : AFunc := ⟨[(.cell 2 (.ia .u8 32) 32)], (.seq (.region q_Pdigest_Hash_Sum_0) (.seq (.region q_Pdigest_Hash_Sum_1) (.seq (.block 0 (.loop q_Pdigest_Hash_Sum_L4)) (.seq (.seq (.region q_Pdigest_Hash_Sum_4) (.block 2 (.loop q_Pdigest_Hash_Sum_L8))) (.seq (.region q_Pdigest_Hash_Sum_8) (.seq (.block 4 (.loop q_Pdigest_Hash_Sum_L12)) (.seq (.region q_Pdigest_Hash_Sum_12) (.seq (.seq (.region q_Pdigest_Hash_Sum_13) (.block 6 (.loop q_Pdigest_Hash_Sum_L18))) (.seq (.region q_Pdigest_Hash_Sum_18) .ret)))))))))⟩

def q_ref03_Sum_0 : List AOper := [
  ⟨(some 2), (.alloc 39 [(.iarr .u8 32 (List.replicate 32 0))]), none⟩]
def q_ref03_Sum_1 : List AOper := [
  ⟨(some 9), (.call F_ref03_table []), none⟩,
  ⟨(some 3), (.mv (.t 9)), none⟩]
def q_ref03_Sum_2 : List AOper := [
  ⟨(some 10), (.build (.ia .u32 8) [(.iarr .u32 8 [0, 0, 0, 0, 0, 0, 0, 0])] [(0, (1, (.v (.int .u32 1779033703)))), (1, (1, (.v (.int .u32 3144134277)))), (2, (1, (.v (.int .u32 1013904242)))), (3, (1, (.v (.int .u32 2773480762)))), (4, (1, (.v (.int .u32 1359893119)))), (5, (1, (.v (.int .u32 2600822924)))), (6, (1, (.v (.int .u32 528734635)))), (7, (1, (.v (.int .u32 1541459225))))]), none⟩,
  ⟨(some 4), (.alloc 138 [(.iarr .u32 8 [0, 0, 0, 0, 0, 0, 0, 0])]), none⟩,
  ⟨none, (.store (.ia .u32 8) 8 (.t 4) (.t 10)), none⟩]
def q_ref03_Sum_3 : List AOper := [
  ⟨(some 11), (.mv (.t 0)), none⟩,
  ⟨(some 12), (.call F_ref03_padded [(.sc, (.t 11))]), none⟩,
  ⟨(some 5), (.mv (.t 12)), none⟩]
def q_ref03_Sum_4 : List AOper := [
  ⟨(some 6), (.mv (.v (.int .i64 0))), none⟩]
def q_ref03_Sum_5 : List AOper := [
  ⟨(some 13), (.mv (.t 6)), none⟩,
  ⟨(some 14), (.mv (.t 5)), none⟩,
  ⟨(some 15), (.len false (.t 14)), none⟩,
  ⟨(some 16), (.bin .lss (.t 13) (.t 15)), none⟩]
def q_ref03_Sum_6 : List DOp := [
  ⟨⟨(some 19), (.load (.ia .u32 8) 8 (.t 4)), none⟩, true, false, none, []⟩,
  ⟨⟨(some 20), (.mv (.t 3)), none⟩, true, false, none, []⟩,
  ⟨⟨(some 21), (.mv (.t 5)), none⟩, true, false, none, []⟩,
  ⟨⟨(some 22), (.mv (.t 6)), none⟩, true, false, none, []⟩,
  ⟨⟨(some 23), (.call F_ref03_words [(.sc, (.t 21)), (.sc, (.t 22))]), none⟩, false, true, (some [4]), []⟩,
  ⟨⟨(some 24), (.call F_ref03_mixed [((.ia .u32 8), (.t 19)), (.sc, (.t 20)), ((.ia .u32 64), (.t 23))]), none⟩, false, false, none, []⟩,
  ⟨⟨none, (.store (.ia .u32 8) 8 (.t 4) (.t 24)), none⟩, false, false, none, []⟩]
def q_ref03_Sum_7 : List AOper := [
  ⟨(some 17), (.mv (.t 6)), none⟩,
  ⟨(some 18), (.bin .add (.t 17) (.v (.int .i64 64))), none⟩,
  ⟨(some 6), (.mv (.t 18)), none⟩]
def q_ref03_Sum_L8 : ACode := (.seq (.seq (.region q_ref03_Sum_5) (.cond (.t 16) .skip (.exit 0))) (.seq (.block 1 (.regionD q_ref03_Sum_6)) (.region q_ref03_Sum_7)))
def q_ref03_Sum_8 : List AOper := [
  ⟨(some 7), (.alloc 39 [(.iarr .u8 32 (List.replicate 32 0))]), none⟩]
def q_ref03_Sum_9 : List AOper := [
  ⟨(some 8), (.mv (.v (.int .i64 0))), none⟩]
def q_ref03_Sum_10 : List AOper := [
  ⟨(some 25), (.mv (.t 8)), none⟩,
  ⟨(some 26), (.bin .lss (.t 25) (.v (.int .i64 32))), none⟩]
def q_ref03_Sum_11 : List AOper := [
  ⟨(some 29), (.mv (.t 8)), none⟩,
  ⟨(some 30), (.mv (.t 8)), none⟩,
  ⟨(some 31), (.bin .quo (.t 30) (.v (.int .i64 4))), none⟩,
  ⟨(some 32), (.idxA 8 1 true (.t 4) (.t 31)), none⟩,
  ⟨(some 33), (.load .sc 1 (.t 32)), none⟩,
  ⟨(some 34), (.mv (.t 8)), none⟩,
  ⟨(some 35), (.bin .rem (.t 34) (.v (.int .i64 4))), none⟩,
  ⟨(some 36), (.bin .mul (.v (.int .i64 8)) (.t 35)), none⟩,
  ⟨(some 37), (.bin .sub (.v (.int .i64 24)) (.t 36)), none⟩,
  ⟨(some 38), (.conv .u64 (.t 37)), none⟩,
  ⟨(some 39), (.bin .shr (.t 33) (.t 38)), none⟩,
  ⟨(some 40), (.conv .u8 (.t 39)), none⟩,
  ⟨(some 41), (.idxA 32 1 true (.t 7) (.t 29)), none⟩,
  ⟨none, (.store .sc 1 (.t 41) (.t 40)), none⟩]
def q_ref03_Sum_12 : List AOper := [
  ⟨(some 27), (.mv (.t 8)), none⟩,
  ⟨(some 28), (.bin .add (.t 27) (.v (.int .i64 1))), none⟩,
  ⟨(some 8), (.mv (.t 28)), none⟩]
def q_ref03_Sum_L13 : ACode := (.seq (.seq (.region q_ref03_Sum_10) (.cond (.t 26) .skip (.exit 2))) (.seq (.block 3 (.region q_ref03_Sum_11)) (.region q_ref03_Sum_12)))
def q_ref03_Sum_13 : List AOper := [
  ⟨(some 42), (.load (.ia .u8 32) 32 (.t 7)), none⟩,
  ⟨none, (.store (.ia .u8 32) 32 (.t 2) (.t 42)), none⟩]
def a_ref03_Sum : AFunc := ⟨[(.cell 2 (.ia .u8 32) 32)], (.seq (.region q_ref03_Sum_0) (.seq (.region q_ref03_Sum_1) (.seq (.region q_ref03_Sum_2) (.seq (.region q_ref03_Sum_3) (.seq (.seq (.region q_ref03_Sum_4) (.block 0 (.loop q_ref03_Sum_L8))) (.seq (.region q_ref03_Sum_8) (.seq (.seq (.region q_ref03_Sum_9) (.block 2 (.loop q_ref03_Sum_L13))) (.seq (.region q_ref03_Sum_13) .ret))))))))⟩

def q_ref03_Hex_0 : List AOper := [
  ⟨(some 1), (.box 39 (.ia .u8 32) (.t 0)), none⟩,
  ⟨(some 2), (.mv (.v (.str ⟨#[]⟩))), none⟩]
def q_ref03_Hex_1 : List AOper := [
  ⟨(some 3), (.mv (.v (.str ⟨#[]⟩))), none⟩]
def q_ref03_Hex_2 : List AOper := [
  ⟨(some 4), (.mv (.v (.str ⟨#[48, 49, 50, 51, 52, 53, 54, 55, 56, 57, 97, 98, 99, 100, 101, 102]⟩))), none⟩]
def q_ref03_Hex_3 : List AOper := [
  ⟨(some 5), (.mv (.v (.int .i64 0))), none⟩]
def q_ref03_Hex_4 : List AOper := [
  ⟨(some 6), (.mv (.t 5)), none⟩,
  ⟨(some 7), (.bin .lss (.t 6) (.v (.int .i64 32))), none⟩]
def q_ref03_Hex_5 : List DOp := [
  ⟨⟨(some 10), (.mv (.t 3)), none⟩, true, false, none, []⟩,
  ⟨⟨(some 11), (.mv (.t 4)), none⟩, true, false, none, []⟩,
  ⟨⟨(some 12), (.mv (.t 5)), none⟩, true, false, none, []⟩,
  ⟨⟨(some 13), (.idxA 32 1 true (.t 1) (.t 12)), none⟩, true, false, none, []⟩,
  ⟨⟨(some 14), (.load .sc 1 (.t 13)), none⟩, true, false, none, []⟩,
  ⟨⟨(some 15), (.bin .quo (.t 14) (.v (.int .u8 16))), none⟩, true, false, none, []⟩,
  ⟨⟨(some 16), (.mv (.t 5)), none⟩, true, false, none, []⟩,
  ⟨⟨(some 17), (.idxA 32 1 true (.t 1) (.t 16)), none⟩, true, false, none, []⟩,
  ⟨⟨(some 18), (.load .sc 1 (.t 17)), none⟩, true, false, none, []⟩,
  ⟨⟨(some 19), (.bin .quo (.t 18) (.v (.int .u8 16))), none⟩, true, false, none, []⟩,
  ⟨⟨(some 20), (.bin .add (.t 19) (.v (.int .u8 1))), none⟩, true, false, none, []⟩,
  ⟨⟨(some 21), (.xx (.p (.strSlc true true)) [(.t 11), (.t 15), (.t 20)]), none⟩, true, false, none, []⟩,
  ⟨⟨(some 22), (.bin .add (.t 10) (.t 21)), none⟩, true, false, none, []⟩,
  ⟨⟨(some 23), (.mv (.t 4)), none⟩, true, false, none, []⟩,
  ⟨⟨(some 24), (.mv (.t 5)), none⟩, true, false, none, []⟩,
  ⟨⟨(some 25), (.idxA 32 1 true (.t 1) (.t 24)), none⟩, true, false, none, []⟩,
  ⟨⟨(some 26), (.load .sc 1 (.t 25)), none⟩, true, false, none, []⟩,
  ⟨⟨(some 27), (.bin .rem (.t 26) (.v (.int .u8 16))), none⟩, true, false, none, []⟩,
  ⟨⟨(some 28), (.mv (.t 5)), none⟩, true, false, none, []⟩,
  ⟨⟨(some 29), (.idxA 32 1 true (.t 1) (.t 28)), none⟩, true, false, none, []⟩,
  ⟨⟨(some 30), (.load .sc 1 (.t 29)), none⟩, true, false, none, []⟩,
  ⟨⟨(some 31), (.bin .rem (.t 30) (.v (.int .u8 16))), none⟩, true, false, none, []⟩,
  ⟨⟨(some 32), (.bin .add (.t 31) (.v (.int .u8 1))), none⟩, true, false, none, []⟩,
  ⟨⟨(some 33), (.xx (.p (.strSlc true true)) [(.t 23), (.t 27), (.t 32)]), none⟩, true, false, none, []⟩,
  ⟨⟨(some 34), (.bin .add (.t 22) (.t 33)), none⟩, true, false, none, []⟩,
  ⟨⟨(some 3), (.mv (.t 34)), none⟩, true, false, none, []⟩]
def q_ref03_Hex_6 : List AOper := [
  ⟨(some 8), (.mv (.t 5)), none⟩,
  ⟨(some 9), (.bin .add (.t 8) (.v (.int .i64 1))), none⟩,
  ⟨(some 5), (.mv (.t 9)), none⟩]
def q_ref03_Hex_L7 : ACode := (.seq (.seq (.region q_ref03_Hex_4) (.cond (.t 7) .skip (.exit 0))) (.seq (.block 1 (.regionD q_ref03_Hex_5)) (.region q_ref03_Hex_6)))
def q_ref03_Hex_7 : List AOper := [
  ⟨(some 35), (.mv (.t 3)), none⟩,
  ⟨(some 2), (.mv (.t 35)), none⟩]
def a_ref03_Hex : AFunc := ⟨[(.tmp 2)], (.seq (.region q_ref03_Hex_0) (.seq (.region q_ref03_Hex_1) (.seq (.region q_ref03_Hex_2) (.seq (.seq (.region q_ref03_Hex_3) (.block 0 (.loop q_ref03_Hex_L7))) (.seq (.region q_ref03_Hex_7) .ret)))))⟩

def q_ref03_Home_0 : List AOper := [
  ⟨(some 2), (.box 39 (.ia .u8 32) (.t 0)), none⟩,
  ⟨(some 4), (.mv (.v (.int .i64 0))), none⟩]
def q_ref03_Home_1 : List AOper := [
  ⟨(some 7), (.mv (.t 1)), none⟩,
  ⟨(some 8), (.bin .lss (.t 7) (.v (.int .i64 1))), none⟩]
def q_ref03_Home_2 : List AOper := [
  ⟨(some 4), (.mv (.v (.int .i64 0))), none⟩]
def q_ref03_Home_3 : List AOper := [
  ⟨(some 5), (.mv (.v (.int .u64 0))), none⟩]
def q_ref03_Home_4 : List AOper := [
  ⟨(some 6), (.mv (.v (.int .i64 0))), none⟩]
def q_ref03_Home_5 : List AOper := [
  ⟨(some 9), (.mv (.t 6)), none⟩,
  ⟨(some 10), (.bin .lss (.t 9) (.v (.int .i64 6))), none⟩]
def q_ref03_Home_6 : List AOper := [
  ⟨(some 13), (.mv (.t 5)), none⟩,
  ⟨(some 14), (.bin .mul (.t 13) (.v (.int .u64 256))), none⟩,
  ⟨(some 15), (.mv (.t 6)), none⟩,
  ⟨(some 16), (.idxA 32 1 true (.t 2) (.t 15)), none⟩,
  ⟨(some 17), (.load .sc 1 (.t 16)), none⟩,
  ⟨(some 18), (.conv .u64 (.t 17)), none⟩,
  ⟨(some 19), (.bin .add (.t 14) (.t 18)), none⟩,
  ⟨(some 5), (.mv (.t 19)), none⟩]
def q_ref03_Home_7 : List AOper := [
  ⟨(some 11), (.mv (.t 6)), none⟩,
  ⟨(some 12), (.bin .add (.t 11) (.v (.int .i64 1))), none⟩,
  ⟨(some 6), (.mv (.t 12)), none⟩]
def q_ref03_Home_L8 : ACode := (.seq (.seq (.region q_ref03_Home_5) (.cond (.t 10) .skip (.exit 0))) (.seq (.block 1 (.region q_ref03_Home_6)) (.region q_ref03_Home_7)))
def q_ref03_Home_8 : List AOper := [
  ⟨(some 20), (.mv (.t 5)), none⟩,
  ⟨(some 21), (.mv (.t 1)), none⟩,
  ⟨(some 22), (.conv .u64 (.t 21)), none⟩,
  ⟨(some 23), (.bin .rem (.t 20) (.t 22)), none⟩,
  ⟨(some 24), (.conv .i64 (.t 23)), none⟩,
  ⟨(some 4), (.mv (.t 24)), none⟩]
def a_ref03_Home : AFunc := ⟨[(.tmp 4)], (.seq (.region q_ref03_Home_0) (.seq (.seq (.region q_ref03_Home_1) (.cond (.t 8) (.seq (.region q_ref03_Home_2) .ret) .skip)) (.seq (.region q_ref03_Home_3) (.seq (.seq (.region q_ref03_Home_4) (.block 0 (.loop q_ref03_Home_L8))) (.seq (.region q_ref03_Home_8) .ret)))))⟩

def q_ref03_table_0 : List AOper := [
  ⟨(some 0), (.mv (.v .nilS)), none⟩]
def q_ref03_table_1 : List AOper := [
  ⟨(some 1), (.bslI 137 .u32 [(.v (.int .u32 1116352408)), (.v (.int .u32 1899447441)), (.v (.int .u32 3049323471)), (.v (.int .u32 3921009573)), (.v (.int .u32 961987163)), (.v (.int .u32 1508970993)), (.v (.int .u32 2453635748)), (.v (.int .u32 2870763221)), (.v (.int .u32 3624381080)), (.v (.int .u32 310598401)), (.v (.int .u32 607225278)), (.v (.int .u32 1426881987)), (.v (.int .u32 1925078388)), (.v (.int .u32 2162078206)), (.v (.int .u32 2614888103)), (.v (.int .u32 3248222580)), (.v (.int .u32 3835390401)), (.v (.int .u32 4022224774)), (.v (.int .u32 264347078)), (.v (.int .u32 604807628)), (.v (.int .u32 770255983)), (.v (.int .u32 1249150122)), (.v (.int .u32 1555081692)), (.v (.int .u32 1996064986)), (.v (.int .u32 2554220882)), (.v (.int .u32 2821834349)), (.v (.int .u32 2952996808)), (.v (.int .u32 3210313671)), (.v (.int .u32 3336571891)), (.v (.int .u32 3584528711)), (.v (.int .u32 113926993)), (.v (.int .u32 338241895)), (.v (.int .u32 666307205)), (.v (.int .u32 773529912)), (.v (.int .u32 1294757372)), (.v (.int .u32 1396182291)), (.v (.int .u32 1695183700)), (.v (.int .u32 1986661051)), (.v (.int .u32 2177026350)), (.v (.int .u32 2456956037)), (.v (.int .u32 2730485921)), (.v (.int .u32 2820302411)), (.v (.int .u32 3259730800)), (.v (.int .u32 3345764771)), (.v (.int .u32 3516065817)), (.v (.int .u32 3600352804)), (.v (.int .u32 4094571909)), (.v (.int .u32 275423344)), (.v (.int .u32 430227734)), (.v (.int .u32 506948616)), (.v (.int .u32 659060556)), (.v (.int .u32 883997877)), (.v (.int .u32 958139571)), (.v (.int .u32 1322822218)), (.v (.int .u32 1537002063)), (.v (.int .u32 1747873779)), (.v (.int .u32 1955562222)), (.v (.int .u32 2024104815)), (.v (.int .u32 2227730452)), (.v (.int .u32 2361852424)), (.v (.int .u32 2428436474)), (.v (.int .u32 2756734187)), (.v (.int .u32 3204031479)), (.v (.int .u32 3329325298))]), none⟩,
  ⟨(some 0), (.mv (.t 1)), none⟩]
def a_ref03_table : AFunc := ⟨[(.tmp 0)], (.seq (.region q_ref03_table_0) (.seq (.region q_ref03_table_1) .ret))⟩

def q_ref03_padded_0 : List AOper := [
  ⟨(some 2), (.mv (.v .nilS)), none⟩]
def q_ref03_padded_1 : List AOper := [
  ⟨(some 3), (.mv (.v .nilS)), none⟩]
def q_ref03_padded_2 : List AOper := [
  ⟨(some 6), (.mv (.t 3)), none⟩,
  ⟨(some 7), (.mv (.t 0)), none⟩,
  ⟨(some 8), (.appI 5 .u8 1 (.t 6) (.t 7)), none⟩,
  ⟨(some 3), (.mv (.t 8)), none⟩]
def q_ref03_padded_3 : List AOper := [
  ⟨(some 9), (.mv (.t 3)), none⟩,
  ⟨(some 10), (.bslI 5 .u8 [(.v (.int .u8 128))]), none⟩,
  ⟨(some 11), (.appI 5 .u8 1 (.t 9) (.t 10)), none⟩,
  ⟨(some 3), (.mv (.t 11)), none⟩]
def q_ref03_padded_4 : List AOper := [
  ⟨(some 12), (.mv (.t 3)), none⟩,
  ⟨(some 13), (.len false (.t 12)), none⟩,
  ⟨(some 14), (.bin .rem (.t 13) (.v (.int .i64 64))), none⟩,
  ⟨(some 15), (.eq .scI true (.t 14) (.v (.int .i64 56))), none⟩]
def q_ref03_padded_5 : List AOper := [
  ⟨(some 16), (.mv (.t 3)), none⟩,
  ⟨(some 17), (.bslI 5 .u8 [(.v (.int .u8 0))]), none⟩,
  ⟨(some 18), (.appI 5 .u8 1 (.t 16) (.t 17)), none⟩,
  ⟨(some 3), (.mv (.t 18)), none⟩]
def q_ref03_padded_L6 : ACode := (.seq (.seq (.region q_ref03_padded_4) (.cond (.t 15) .skip (.exit 0))) (.block 1 (.region q_ref03_padded_5)))
def q_ref03_padded_6 : List AOper := [
  ⟨(some 19), (.mv (.t 0)), none⟩,
  ⟨(some 20), (.len false (.t 19)), none⟩,
  ⟨(some 21), (.conv .u64 (.t 20)), none⟩,
  ⟨(some 22), (.bin .mul (.t 21) (.v (.int .u64 8))), none⟩,
  ⟨(some 4), (.mv (.t 22)), none⟩]
def q_ref03_padded_7 : List AOper := [
  ⟨(some 5), (.mv (.v (.int .i64 0))), none⟩]
def q_ref03_padded_8 : List AOper := [
  ⟨(some 23), (.mv (.t 5)), none⟩,
  ⟨(some 24), (.bin .lss (.t 23) (.v (.int .i64 8))), none⟩]
def q_ref03_padded_9 : List AOper := [
  ⟨(some 27), (.mv (.t 3)), none⟩,
  ⟨(some 28), (.mv (.t 4)), none⟩,
  ⟨(some 29), (.mv (.t 5)), none⟩,
  ⟨(some 30), (.bin .mul (.v (.int .i64 8)) (.t 29)), none⟩,
  ⟨(some 31), (.bin .sub (.v (.int .i64 56)) (.t 30)), none⟩,
  ⟨(some 32), (.conv .u64 (.t 31)), none⟩,
  ⟨(some 33), (.bin .shr (.t 28) (.t 32)), none⟩,
  ⟨(some 34), (.conv .u8 (.t 33)), none⟩,
  ⟨(some 35), (.bslI 5 .u8 [(.t 34)]), none⟩,
  ⟨(some 36), (.appI 5 .u8 1 (.t 27) (.t 35)), none⟩,
  ⟨(some 3), (.mv (.t 36)), none⟩]
def q_ref03_padded_10 : List AOper := [
  ⟨(some 25), (.mv (.t 5)), none⟩,
  ⟨(some 26), (.bin .add (.t 25) (.v (.int .i64 1))), none⟩,
  ⟨(some 5), (.mv (.t 26)), none⟩]
def q_ref03_padded_L11 : ACode := (.seq (.seq (.region q_ref03_padded_8) (.cond (.t 24) .skip (.exit 2))) (.seq (.block 3 (.region q_ref03_padded_9)) (.region q_ref03_padded_10)))
def q_ref03_padded_11 : List AOper := [
  ⟨(some 37), (.mv (.t 3)), none⟩,
  ⟨(some 2), (.mv (.t 37)), none⟩]
def a_ref03_padded : AFunc := ⟨[(.tmp 2)], (.seq (.region q_ref03_padded_0) (.seq (.region q_ref03_padded_1) (.seq (.region q_ref03_padded_2) (.seq (.region q_ref03_padded_3) (.seq (.block 0 (.loop q_ref03_padded_L6)) (.seq (.region q_ref03_padded_6) (.seq (.seq (.region q_ref03_padded_7) (.block 2 (.loop q_ref03_padded_L11))) (.seq (.region q_ref03_padded_11) .ret))))))))⟩

def q_ref03_mixed_0 : List AOper := [
  ⟨(some 3), (.box 138 (.ia .u32 8) (.t 0)), none⟩,
  ⟨(some 5), (.box 141 (.ia .u32 64) (.t 2)), none⟩,
  ⟨(some 6), (.alloc 138 [(.iarr .u32 8 [0, 0, 0, 0, 0, 0, 0, 0])]), none⟩]
def q_ref03_mixed_1 : List AOper := [
  ⟨(some 18), (.idxA 8 1 true (.t 3) (.v (.int .i64 0))), none⟩,
  ⟨(some 19), (.load .sc 1 (.t 18)), none⟩,
  ⟨(some 7), (.mv (.t 19)), none⟩]
def q_ref03_mixed_2 : List AOper := [
  ⟨(some 20), (.idxA 8 1 true (.t 3) (.v (.int .i64 1))), none⟩,
  ⟨(some 21), (.load .sc 1 (.t 20)), none⟩,
  ⟨(some 8), (.mv (.t 21)), none⟩]
def q_ref03_mixed_3 : List AOper := [
  ⟨(some 22), (.idxA 8 1 true (.t 3) (.v (.int .i64 2))), none⟩,
  ⟨(some 23), (.load .sc 1 (.t 22)), none⟩,
  ⟨(some 9), (.mv (.t 23)), none⟩]
def q_ref03_mixed_4 : List AOper := [
  ⟨(some 24), (.idxA 8 1 true (.t 3) (.v (.int .i64 3))), none⟩,
  ⟨(some 25), (.load .sc 1 (.t 24)), none⟩,
  ⟨(some 10), (.mv (.t 25)), none⟩]
def q_ref03_mixed_5 : List AOper := [
  ⟨(some 26), (.idxA 8 1 true (.t 3) (.v (.int .i64 4))), none⟩,
  ⟨(some 27), (.load .sc 1 (.t 26)), none⟩,
  ⟨(some 11), (.mv (.t 27)), none⟩]
def q_ref03_mixed_6 : List AOper := [
  ⟨(some 28), (.idxA 8 1 true (.t 3) (.v (.int .i64 5))), none⟩,
  ⟨(some 29), (.load .sc 1 (.t 28)), none⟩,
  ⟨(some 12), (.mv (.t 29)), none⟩]
def q_ref03_mixed_7 : List AOper := [
  ⟨(some 30), (.idxA 8 1 true (.t 3) (.v (.int .i64 6))), none⟩,
  ⟨(some 31), (.load .sc 1 (.t 30)), none⟩,
  ⟨(some 13), (.mv (.t 31)), none⟩]
def q_ref03_mixed_8 : List AOper := [
  ⟨(some 32), (.idxA 8 1 true (.t 3) (.v (.int .i64 7))), none⟩,
  ⟨(some 33), (.load .sc 1 (.t 32)), none⟩,
  ⟨(some 14), (.mv (.t 33)), none⟩]
def q_ref03_mixed_9 : List AOper := [
  ⟨(some 15), (.mv (.v (.int .i64 0))), none⟩]
def q_ref03_mixed_10 : List AOper := [
  ⟨(some 34), (.mv (.t 15)), none⟩,
  ⟨(some 35), (.bin .lss (.t 34) (.v (.int .i64 64))), none⟩]
def q_ref03_mixed_11 : List DOp := [
  ⟨⟨(some 38), (.mv (.t 14)), none⟩, true, false, none, []⟩,
  ⟨⟨(some 39), (.mv (.t 11)), none⟩, true, false, none, []⟩,
  ⟨⟨(some 41), (.mv (.t 11)), none⟩, true, false, none, []⟩,
  ⟨⟨(some 44), (.mv (.t 11)), none⟩, true, false, none, []⟩,
  ⟨⟨(some 48), (.mv (.t 11)), none⟩, true, false, none, []⟩,
  ⟨⟨(some 49), (.mv (.t 12)), none⟩, true, false, none, []⟩,
  ⟨⟨(some 50), (.bin .and (.t 48) (.t 49)), none⟩, true, false, none, []⟩,
  ⟨⟨(some 51), (.mv (.t 11)), none⟩, true, false, none, []⟩,
  ⟨⟨(some 52), (.bin .sub (.v (.int .u32 4294967295)) (.t 51)), none⟩, true, false, none, []⟩,
  ⟨⟨(some 53), (.mv (.t 13)), none⟩, true, false, none, []⟩,
  ⟨⟨(some 54), (.bin .and (.t 52) (.t 53)), none⟩, true, false, none, []⟩,
  ⟨⟨(some 55), (.bin .xor (.t 50) (.t 54)), none⟩, true, false, none, []⟩,
  ⟨⟨(some 57), (.mv (.t 1)), none⟩, true, false, none, []⟩,
  ⟨⟨(some 58), (.mv (.t 15)), none⟩, true, false, none, []⟩,
  ⟨⟨(some 59), (.idx 1 (.t 57) (.t 58)), none⟩, true, false, none, []⟩,
  ⟨⟨(some 60), (.load .sc 1 (.t 59)), none⟩, true, false, none, []⟩,
  ⟨⟨(some 62), (.mv (.t 15)), none⟩, true, false, none, []⟩,
  ⟨⟨(some 63), (.idxA 64 1 true (.t 5) (.t 62)), none⟩, true, false, none, []⟩,
  ⟨⟨(some 64), (.load .sc 1 (.t 63)), none⟩, true, false, none, []⟩,
  ⟨⟨(some 40), (.call F_ref03_right [(.sc, (.t 39)), (.sc, (.v (.int .u64 6)))]), none⟩, false, true, (some [63, 59, 57]), []⟩,
  ⟨⟨(some 42), (.call F_ref03_right [(.sc, (.t 41)), (.sc, (.v (.int .u64 11)))]), none⟩, false, true, (some [63, 59, 57]), []⟩,
  ⟨⟨(some 43), (.bin .xor (.t 40) (.t 42)), none⟩, true, false, none, []⟩,
  ⟨⟨(some 45), (.call F_ref03_right [(.sc, (.t 44)), (.sc, (.v (.int .u64 25)))]), none⟩, false, true, (some [63, 59, 57]), []⟩,
  ⟨⟨(some 46), (.bin .xor (.t 43) (.t 45)), none⟩, true, false, none, []⟩,
  ⟨⟨(some 47), (.bin .add (.t 38) (.t 46)), none⟩, true, false, none, []⟩,
  ⟨⟨(some 56), (.bin .add (.t 47) (.t 55)), none⟩, true, false, none, []⟩,
  ⟨⟨(some 61), (.bin .add (.t 56) (.t 60)), none⟩, true, false, none, []⟩,
  ⟨⟨(some 65), (.bin .add (.t 61) (.t 64)), none⟩, true, false, none, []⟩,
  ⟨⟨(some 16), (.mv (.t 65)), none⟩, true, false, none, []⟩]
def q_ref03_mixed_12 : List AOper := [
  ⟨(some 66), (.mv (.t 7)), none⟩,
  ⟨(some 67), (.call F_ref03_right [(.sc, (.t 66)), (.sc, (.v (.int .u64 2)))]), none⟩,
  ⟨(some 68), (.mv (.t 7)), none⟩,
  ⟨(some 69), (.call F_ref03_right [(.sc, (.t 68)), (.sc, (.v (.int .u64 13)))]), none⟩,
  ⟨(some 70), (.bin .xor (.t 67) (.t 69)), none⟩,
  ⟨(some 71), (.mv (.t 7)), none⟩,
  ⟨(some 72), (.call F_ref03_right [(.sc, (.t 71)), (.sc, (.v (.int .u64 22)))]), none⟩,
  ⟨(some 73), (.bin .xor (.t 70) (.t 72)), none⟩,
  ⟨(some 74), (.mv (.t 7)), none⟩,
  ⟨(some 75), (.mv (.t 8)), none⟩,
  ⟨(some 76), (.bin .and (.t 74) (.t 75)), none⟩,
  ⟨(some 77), (.mv (.t 7)), none⟩,
  ⟨(some 78), (.mv (.t 9)), none⟩,
  ⟨(some 79), (.bin .and (.t 77) (.t 78)), none⟩,
  ⟨(some 80), (.bin .xor (.t 76) (.t 79)), none⟩,
  ⟨(some 81), (.mv (.t 8)), none⟩,
  ⟨(some 82), (.mv (.t 9)), none⟩,
  ⟨(some 83), (.bin .and (.t 81) (.t 82)), none⟩,
  ⟨(some 84), (.bin .xor (.t 80) (.t 83)), none⟩,
  ⟨(some 85), (.bin .add (.t 73) (.t 84)), none⟩,
  ⟨(some 17), (.mv (.t 85)), none⟩]
def q_ref03_mixed_13 : List AOper := [
  ⟨(some 86), (.mv (.t 13)), none⟩,
  ⟨(some 14), (.mv (.t 86)), none⟩]
def q_ref03_mixed_14 : List AOper := [
  ⟨(some 87), (.mv (.t 12)), none⟩,
  ⟨(some 13), (.mv (.t 87)), none⟩]
def q_ref03_mixed_15 : List AOper := [
  ⟨(some 88), (.mv (.t 11)), none⟩,
  ⟨(some 12), (.mv (.t 88)), none⟩]
def q_ref03_mixed_16 : List AOper := [
  ⟨(some 89), (.mv (.t 10)), none⟩,
  ⟨(some 90), (.mv (.t 16)), none⟩,
  ⟨(some 91), (.bin .add (.t 89) (.t 90)), none⟩,
  ⟨(some 11), (.mv (.t 91)), none⟩]
def q_ref03_mixed_17 : List AOper := [
  ⟨(some 92), (.mv (.t 9)), none⟩,
  ⟨(some 10), (.mv (.t 92)), none⟩]
def q_ref03_mixed_18 : List AOper := [
  ⟨(some 93), (.mv (.t 8)), none⟩,
  ⟨(some 9), (.mv (.t 93)), none⟩]
def q_ref03_mixed_19 : List AOper := [
  ⟨(some 94), (.mv (.t 7)), none⟩,
  ⟨(some 8), (.mv (.t 94)), none⟩]
def q_ref03_mixed_20 : List AOper := [
  ⟨(some 95), (.mv (.t 16)), none⟩,
  ⟨(some 96), (.mv (.t 17)), none⟩,
  ⟨(some 97), (.bin .add (.t 95) (.t 96)), none⟩,
  ⟨(some 7), (.mv (.t 97)), none⟩]
def q_ref03_mixed_21 : List AOper := [
  ⟨(some 36), (.mv (.t 15)), none⟩,
  ⟨(some 37), (.bin .add (.t 36) (.v (.int .i64 1))), none⟩,
  ⟨(some 15), (.mv (.t 37)), none⟩]
def q_ref03_mixed_L22 : ACode := (.seq (.seq (.region q_ref03_mixed_10) (.cond (.t 35) .skip (.exit 0))) (.seq (.block 1 (.seq (.regionD q_ref03_mixed_11) (.seq (.region q_ref03_mixed_12) (.seq (.region q_ref03_mixed_13) (.seq (.region q_ref03_mixed_14) (.seq (.region q_ref03_mixed_15) (.seq (.region q_ref03_mixed_16) (.seq (.region q_ref03_mixed_17) (.seq (.region q_ref03_mixed_18) (.seq (.region q_ref03_mixed_19) (.region q_ref03_mixed_20))))))))))) (.region q_ref03_mixed_21)))
def q_ref03_mixed_22 : List AOper := [
  ⟨(some 98), (.idxA 8 1 true (.t 3) (.v (.int .i64 0))), none⟩,
  ⟨(some 99), (.load .sc 1 (.t 98)), none⟩,
  ⟨(some 100), (.mv (.t 7)), none⟩,
  ⟨(some 101), (.bin .add (.t 99) (.t 100)), none⟩,
  ⟨(some 102), (.idxA 8 1 true (.t 3) (.v (.int .i64 1))), none⟩,
  ⟨(some 103), (.load .sc 1 (.t 102)), none⟩,
  ⟨(some 104), (.mv (.t 8)), none⟩,
  ⟨(some 105), (.bin .add (.t 103) (.t 104)), none⟩,
  ⟨(some 106), (.idxA 8 1 true (.t 3) (.v (.int .i64 2))), none⟩,
  ⟨(some 107), (.load .sc 1 (.t 106)), none⟩,
  ⟨(some 108), (.mv (.t 9)), none⟩,
  ⟨(some 109), (.bin .add (.t 107) (.t 108)), none⟩,
  ⟨(some 110), (.idxA 8 1 true (.t 3) (.v (.int .i64 3))), none⟩,
  ⟨(some 111), (.load .sc 1 (.t 110)), none⟩,
  ⟨(some 112), (.mv (.t 10)), none⟩,
  ⟨(some 113), (.bin .add (.t 111) (.t 112)), none⟩,
  ⟨(some 114), (.idxA 8 1 true (.t 3) (.v (.int .i64 4))), none⟩,
  ⟨(some 115), (.load .sc 1 (.t 114)), none⟩,
  ⟨(some 116), (.mv (.t 11)), none⟩,
  ⟨(some 117), (.bin .add (.t 115) (.t 116)), none⟩,
  ⟨(some 118), (.idxA 8 1 true (.t 3) (.v (.int .i64 5))), none⟩,
  ⟨(some 119), (.load .sc 1 (.t 118)), none⟩,
  ⟨(some 120), (.mv (.t 12)), none⟩,
  ⟨(some 121), (.bin .add (.t 119) (.t 120)), none⟩,
  ⟨(some 122), (.idxA 8 1 true (.t 3) (.v (.int .i64 6))), none⟩,
  ⟨(some 123), (.load .sc 1 (.t 122)), none⟩,
  ⟨(some 124), (.mv (.t 13)), none⟩,
  ⟨(some 125), (.bin .add (.t 123) (.t 124)), none⟩,
  ⟨(some 126), (.idxA 8 1 true (.t 3) (.v (.int .i64 7))), none⟩,
  ⟨(some 127), (.load .sc 1 (.t 126)), none⟩,
  ⟨(some 128), (.mv (.t 14)), none⟩,
  ⟨(some 129), (.bin .add (.t 127) (.t 128)), none⟩,
  ⟨(some 130), (.build (.ia .u32 8) [(.iarr .u32 8 [0, 0, 0, 0, 0, 0, 0, 0])] [(0, (1, (.t 101))), (1, (1, (.t 105))), (2, (1, (.t 109))), (3, (1, (.t 113))), (4, (1, (.t 117))), (5, (1, (.t 121))), (6, (1, (.t 125))), (7, (1, (.t 129)))]), none⟩,
  ⟨none, (.store (.ia .u32 8) 8 (.t 6) (.t 130)), none⟩]
def a_ref03_mixed : AFunc := ⟨[(.cell 6 (.ia .u32 8) 8)], (.seq (.region q_ref03_mixed_0) (.seq (.region q_ref03_mixed_1) (.seq (.region q_ref03_mixed_2) (.seq (.region q_ref03_mixed_3) (.seq (.region q_ref03_mixed_4) (.seq (.region q_ref03_mixed_5) (.seq (.region q_ref03_mixed_6) (.seq (.region q_ref03_mixed_7) (.seq (.region q_ref03_mixed_8) (.seq (.seq (.region q_ref03_mixed_9) (.block 0 (.loop q_ref03_mixed_L22))) (.seq (.region q_ref03_mixed_22) .ret)))))))))))⟩

def q_ref03_words_0 : List AOper := [
  ⟨(some 4), (.alloc 141 [(.iarr .u32 64 (List.replicate 64 0))]), none⟩]
def q_ref03_words_1 : List AOper := [
  ⟨(some 5), (.alloc 141 [(.iarr .u32 64 (List.replicate 64 0))]), none⟩]
def q_ref03_words_2 : List AOper := [
  ⟨(some 6), (.mv (.v (.int .i64 0))), none⟩]
def q_ref03_words_3 : List AOper := [
  ⟨(some 10), (.mv (.t 6)), none⟩,
  ⟨(some 11), (.bin .lss (.t 10) (.v (.int .i64 16))), none⟩]
def q_ref03_words_4 : List DOp := [
  ⟨⟨(some 14), (.mv (.t 6)), none⟩, true, false, none, []⟩,
  ⟨⟨(some 15), (.mv (.t 0)), none⟩, true, false, none, []⟩,
  ⟨⟨(some 16), (.mv (.t 1)), none⟩, true, false, none, []⟩,
  ⟨⟨(some 17), (.mv (.t 6)), none⟩, true, false, none, []⟩,
  ⟨⟨(some 18), (.bin .mul (.v (.int .i64 4)) (.t 17)), none⟩, true, false, none, []⟩,
  ⟨⟨(some 19), (.bin .add (.t 16) (.t 18)), none⟩, true, false, none, []⟩,
  ⟨⟨(some 20), (.idx 1 (.t 15) (.t 19)), none⟩, true, false, none, []⟩,
  ⟨⟨(some 21), (.load .sc 1 (.t 20)), none⟩, true, false, none, []⟩,
  ⟨⟨(some 22), (.conv .u32 (.t 21)), none⟩, true, false, none, []⟩,
  ⟨⟨(some 23), (.bin .mul (.t 22) (.v (.int .u32 16777216))), none⟩, true, false, none, []⟩,
  ⟨⟨(some 24), (.mv (.t 0)), none⟩, true, false, none, []⟩,
  ⟨⟨(some 25), (.mv (.t 1)), none⟩, true, false, none, []⟩,
  ⟨⟨(some 26), (.mv (.t 6)), none⟩, true, false, none, []⟩,
  ⟨⟨(some 27), (.bin .mul (.v (.int .i64 4)) (.t 26)), none⟩, true, false, none, []⟩,
  ⟨⟨(some 28), (.bin .add (.t 25) (.t 27)), none⟩, true, false, none, []⟩,
  ⟨⟨(some 29), (.bin .add (.t 28) (.v (.int .i64 1))), none⟩, true, false, none, []⟩,
  ⟨⟨(some 30), (.idx 1 (.t 24) (.t 29)), none⟩, true, false, none, []⟩,
  ⟨⟨(some 31), (.load .sc 1 (.t 30)), none⟩, true, false, none, []⟩,
  ⟨⟨(some 32), (.conv .u32 (.t 31)), none⟩, true, false, none, []⟩,
  ⟨⟨(some 33), (.bin .mul (.t 32) (.v (.int .u32 65536))), none⟩, true, false, none, []⟩,
  ⟨⟨(some 34), (.bin .add (.t 23) (.t 33)), none⟩, true, false, none, []⟩,
  ⟨⟨(some 35), (.mv (.t 0)), none⟩, true, false, none, []⟩,
  ⟨⟨(some 36), (.mv (.t 1)), none⟩, true, false, none, []⟩,
  ⟨⟨(some 37), (.mv (.t 6)), none⟩, true, false, none, []⟩,
  ⟨⟨(some 38), (.bin .mul (.v (.int .i64 4)) (.t 37)), none⟩, true, false, none, []⟩,
  ⟨⟨(some 39), (.bin .add (.t 36) (.t 38)), none⟩, true, false, none, []⟩,
  ⟨⟨(some 40), (.bin .add (.t 39) (.v (.int .i64 2))), none⟩, true, false, none, []⟩,
  ⟨⟨(some 41), (.idx 1 (.t 35) (.t 40)), none⟩, true, false, none, []⟩,
  ⟨⟨(some 42), (.load .sc 1 (.t 41)), none⟩, true, false, none, []⟩,
  ⟨⟨(some 43), (.conv .u32 (.t 42)), none⟩, true, false, none, []⟩,
  ⟨⟨(some 44), (.bin .mul (.t 43) (.v (.int .u32 256))), none⟩, true, false, none, []⟩,
  ⟨⟨(some 45), (.bin .add (.t 34) (.t 44)), none⟩, true, false, none, []⟩,
  ⟨⟨(some 46), (.mv (.t 0)), none⟩, true, false, none, []⟩,
  ⟨⟨(some 47), (.mv (.t 1)), none⟩, true, false, none, []⟩,
  ⟨⟨(some 48), (.mv (.t 6)), none⟩, true, false, none, []⟩,
  ⟨⟨(some 49), (.bin .mul (.v (.int .i64 4)) (.t 48)), none⟩, true, false, none, []⟩,
  ⟨⟨(some 50), (.bin .add (.t 47) (.t 49)), none⟩, true, false, none, []⟩,
  ⟨⟨(some 51), (.bin .add (.t 50) (.v (.int .i64 3))), none⟩, true, false, none, []⟩,
  ⟨⟨(some 52), (.idx 1 (.t 46) (.t 51)), none⟩, true, false, none, []⟩,
  ⟨⟨(some 53), (.load .sc 1 (.t 52)), none⟩, true, false, none, []⟩,
  ⟨⟨(some 54), (.conv .u32 (.t 53)), none⟩, true, false, none, []⟩,
  ⟨⟨(some 55), (.bin .add (.t 45) (.t 54)), none⟩, true, false, none, []⟩,
  ⟨⟨(some 56), (.idxA 64 1 true (.t 5) (.t 14)), none⟩, true, false, none, []⟩,
  ⟨⟨none, (.store .sc 1 (.t 56) (.t 55)), none⟩, false, false, none, []⟩]
def q_ref03_words_5 : List AOper := [
  ⟨(some 12), (.mv (.t 6)), none⟩,
  ⟨(some 13), (.bin .add (.t 12) (.v (.int .i64 1))), none⟩,
  ⟨(some 6), (.mv (.t 13)), none⟩]
def q_ref03_words_L6 : ACode := (.seq (.seq (.region q_ref03_words_3) (.cond (.t 11) .skip (.exit 0))) (.seq (.block 1 (.regionD q_ref03_words_4)) (.region q_ref03_words_5)))
def q_ref03_words_6 : List AOper := [
  ⟨(some 7), (.mv (.v (.int .i64 16))), none⟩]
def q_ref03_words_7 : List AOper := [
  ⟨(some 57), (.mv (.t 7)), none⟩,
  ⟨(some 58), (.bin .lss (.t 57) (.v (.int .i64 64))), none⟩]
def q_ref03_words_8 : List DOp := [
  ⟨⟨(some 61), (.mv (.t 7)), none⟩, true, false, none, []⟩,
  ⟨⟨(some 62), (.bin .sub (.t 61) (.v (.int .i64 15))), none⟩, true, false, none, []⟩,
  ⟨⟨(some 63), (.idxA 64 1 true (.t 5) (.t 62)), none⟩, true, false, none, []⟩,
  ⟨⟨(some 64), (.load .sc 1 (.t 63)), none⟩, true, false, none, []⟩,
  ⟨⟨(some 66), (.mv (.t 7)), none⟩, true, false, none, []⟩,
  ⟨⟨(some 67), (.bin .sub (.t 66) (.v (.int .i64 15))), none⟩, true, false, none, []⟩,
  ⟨⟨(some 68), (.idxA 64 1 true (.t 5) (.t 67)), none⟩, true, false, none, []⟩,
  ⟨⟨(some 69), (.load .sc 1 (.t 68)), none⟩, true, false, none, []⟩,
  ⟨⟨(some 72), (.mv (.t 7)), none⟩, true, false, none, []⟩,
  ⟨⟨(some 73), (.bin .sub (.t 72) (.v (.int .i64 15))), none⟩, true, false, none, []⟩,
  ⟨⟨(some 74), (.idxA 64 1 true (.t 5) (.t 73)), none⟩, true, false, none, []⟩,
  ⟨⟨(some 75), (.load .sc 1 (.t 74)), none⟩, true, false, none, []⟩,
  ⟨⟨(some 76), (.bin .shr (.t 75) (.v (.int .u64 3))), none⟩, true, false, none, []⟩,
  ⟨⟨(some 65), (.call F_ref03_right [(.sc, (.t 64)), (.sc, (.v (.int .u64 7)))]), none⟩, false, true, (some [74, 68]), []⟩,
  ⟨⟨(some 70), (.call F_ref03_right [(.sc, (.t 69)), (.sc, (.v (.int .u64 18)))]), none⟩, false, true, (some [74]), []⟩,
  ⟨⟨(some 71), (.bin .xor (.t 65) (.t 70)), none⟩, true, false, none, []⟩,
  ⟨⟨(some 77), (.bin .xor (.t 71) (.t 76)), none⟩, true, false, none, []⟩,
  ⟨⟨(some 8), (.mv (.t 77)), none⟩, true, false, none, []⟩]
def q_ref03_words_9 : List DOp := [
  ⟨⟨(some 78), (.mv (.t 7)), none⟩, true, false, none, []⟩,
  ⟨⟨(some 79), (.bin .sub (.t 78) (.v (.int .i64 2))), none⟩, true, false, none, []⟩,
  ⟨⟨(some 80), (.idxA 64 1 true (.t 5) (.t 79)), none⟩, true, false, none, []⟩,
  ⟨⟨(some 81), (.load .sc 1 (.t 80)), none⟩, true, false, none, []⟩,
  ⟨⟨(some 83), (.mv (.t 7)), none⟩, true, false, none, []⟩,
  ⟨⟨(some 84), (.bin .sub (.t 83) (.v (.int .i64 2))), none⟩, true, false, none, []⟩,
  ⟨⟨(some 85), (.idxA 64 1 true (.t 5) (.t 84)), none⟩, true, false, none, []⟩,
  ⟨⟨(some 86), (.load .sc 1 (.t 85)), none⟩, true, false, none, []⟩,
  ⟨⟨(some 89), (.mv (.t 7)), none⟩, true, false, none, []⟩,
  ⟨⟨(some 90), (.bin .sub (.t 89) (.v (.int .i64 2))), none⟩, true, false, none, []⟩,
  ⟨⟨(some 91), (.idxA 64 1 true (.t 5) (.t 90)), none⟩, true, false, none, []⟩,
  ⟨⟨(some 92), (.load .sc 1 (.t 91)), none⟩, true, false, none, []⟩,
  ⟨⟨(some 93), (.bin .shr (.t 92) (.v (.int .u64 10))), none⟩, true, false, none, []⟩,
  ⟨⟨(some 82), (.call F_ref03_right [(.sc, (.t 81)), (.sc, (.v (.int .u64 17)))]), none⟩, false, true, (some [91, 85]), []⟩,
  ⟨⟨(some 87), (.call F_ref03_right [(.sc, (.t 86)), (.sc, (.v (.int .u64 19)))]), none⟩, false, true, (some [91]), []⟩,
  ⟨⟨(some 88), (.bin .xor (.t 82) (.t 87)), none⟩, true, false, none, []⟩,
  ⟨⟨(some 94), (.bin .xor (.t 88) (.t 93)), none⟩, true, false, none, []⟩,
  ⟨⟨(some 9), (.mv (.t 94)), none⟩, true, false, none, []⟩]
def q_ref03_words_10 : List DOp := [
  ⟨⟨(some 95), (.mv (.t 7)), none⟩, true, false, none, []⟩,
  ⟨⟨(some 96), (.mv (.t 7)), none⟩, true, false, none, []⟩,
  ⟨⟨(some 97), (.bin .sub (.t 96) (.v (.int .i64 16))), none⟩, true, false, none, []⟩,
  ⟨⟨(some 98), (.idxA 64 1 true (.t 5) (.t 97)), none⟩, true, false, none, []⟩,
  ⟨⟨(some 99), (.load .sc 1 (.t 98)), none⟩, true, false, none, []⟩,
  ⟨⟨(some 100), (.mv (.t 8)), none⟩, true, false, none, []⟩,
  ⟨⟨(some 101), (.bin .add (.t 99) (.t 100)), none⟩, true, false, none, []⟩,
  ⟨⟨(some 102), (.mv (.t 7)), none⟩, true, false, none, []⟩,
  ⟨⟨(some 103), (.bin .sub (.t 102) (.v (.int .i64 7))), none⟩, true, false, none, []⟩,
  ⟨⟨(some 104), (.idxA 64 1 true (.t 5) (.t 103)), none⟩, true, false, none, []⟩,
  ⟨⟨(some 105), (.load .sc 1 (.t 104)), none⟩, true, false, none, []⟩,
  ⟨⟨(some 106), (.bin .add (.t 101) (.t 105)), none⟩, true, false, none, []⟩,
  ⟨⟨(some 107), (.mv (.t 9)), none⟩, true, false, none, []⟩,
  ⟨⟨(some 108), (.bin .add (.t 106) (.t 107)), none⟩, true, false, none, []⟩,
  ⟨⟨(some 109), (.idxA 64 1 true (.t 5) (.t 95)), none⟩, true, false, none, []⟩,
  ⟨⟨none, (.store .sc 1 (.t 109) (.t 108)), none⟩, false, false, none, []⟩]
def q_ref03_words_11 : List AOper := [
  ⟨(some 59), (.mv (.t 7)), none⟩,
  ⟨(some 60), (.bin .add (.t 59) (.v (.int .i64 1))), none⟩,
  ⟨(some 7), (.mv (.t 60)), none⟩]
def q_ref03_words_L12 : ACode := (.seq (.seq (.region q_ref03_words_7) (.cond (.t 58) .skip (.exit 2))) (.seq (.block 3 (.seq (.regionD q_ref03_words_8) (.seq (.regionD q_ref03_words_9) (.regionD q_ref03_words_10)))) (.region q_ref03_words_11)))
def q_ref03_words_12 : List AOper := [
  ⟨(some 110), (.load (.ia .u32 64) 64 (.t 5)), none⟩,
  ⟨none, (.store (.ia .u32 64) 64 (.t 4) (.t 110)), none⟩]
def a_ref03_words : AFunc := ⟨[(.cell 4 (.ia .u32 64) 64)], (.seq (.region q_ref03_words_0) (.seq (.region q_ref03_words_1) (.seq (.seq (.region q_ref03_words_2) (.block 0 (.loop q_ref03_words_L6))) (.seq (.seq (.region q_ref03_words_6) (.block 2 (.loop q_ref03_words_L12))) (.seq (.region q_ref03_words_12) .ret)))))⟩

def q_ref03_right_0 : List AOper := [
  ⟨(some 4), (.mv (.v (.int .u32 0))), none⟩]
def q_ref03_right_1 : List AOper := [
  ⟨(some 5), (.mv (.t 0)), none⟩,
  ⟨(some 6), (.mv (.t 1)), none⟩,
  ⟨(some 7), (.bin .shr (.t 5) (.t 6)), none⟩,
  ⟨(some 8), (.mv (.t 0)), none⟩,
  ⟨(some 9), (.mv (.t 1)), none⟩,
  ⟨(some 10), (.bin .sub (.v (.int .u64 32)) (.t 9)), none⟩,
  ⟨(some 11), (.bin .shl (.t 8) (.t 10)), none⟩,
  ⟨(some 12), (.bin .or (.t 7) (.t 11)), none⟩,
  ⟨(some 4), (.mv (.t 12)), none⟩]
def a_ref03_right : AFunc := ⟨[(.tmp 4)], (.seq (.region q_ref03_right_0) (.seq (.region q_ref03_right_1) .ret))⟩

def q_law03_DigestSums_0 : List AOper := [
  ⟨(some 4), (.mv (.v (.bool false))), none⟩]
def q_law03_DigestSums_1 : List AOper := [
  ⟨(some 6), (.mv (.t 0)), none⟩,
  ⟨(some 7), (.len false (.t 6)), none⟩,
  ⟨(some 8), (.bin .gtr (.t 7) (.v (.int .i64 600))), none⟩,
  ⟨(some 9), (.mv (.t 8)), none⟩,
  ⟨(some 10), (.mv (.t 1)), (some (9, false))⟩,
  ⟨(some 11), (.len false (.t 10)), (some (9, false))⟩,
  ⟨(some 12), (.bin .gtr (.t 11) (.v (.int .i64 600))), (some (9, false))⟩,
  ⟨(some 13), (.pick (.t 9) (.v (.bool true)) (.t 12)), none⟩]
def q_law03_DigestSums_2 : List AOper := [
  ⟨(some 14), (.call F_law03_works []), none⟩,
  ⟨(some 4), (.mv (.t 14)), none⟩]
def q_law03_DigestSums_3 : List AOper := [
  ⟨(some 5), (.mv (.v .nilS)), none⟩]
def q_law03_DigestSums_4 : List AOper := [
  ⟨(some 15), (.mv (.t 5)), none⟩,
  ⟨(some 16), (.mv (.t 0)), none⟩,
  ⟨(some 17), (.appI 5 .u8 1 (.t 15) (.t 16)), none⟩,
  ⟨(some 18), (.mv (.t 1)), none⟩,
  ⟨(some 19), (.appI 5 .u8 1 (.t 17) (.t 18)), none⟩,
  ⟨(some 5), (.mv (.t 19)), none⟩]
def q_law03_DigestSums_5 : List AOper := [
  ⟨(some 20), (.mv (.t 0)), none⟩,
  ⟨(some 21), (.mv (.t 1)), none⟩,
  ⟨(some 22), (.bsl 34 .sc 1 [(.t 20), (.t 21)]), none⟩,
  ⟨(some 23), (.call F_digest_Of [(.sc, (.t 22))]), none⟩,
  ⟨(some 24), (.mv (.t 5)), none⟩,
  ⟨(some 25), (.call F_ref03_Sum [(.sc, (.t 24))]), none⟩,
  ⟨(some 26), (.eq (.ia 32) false (.t 23) (.t 25)), none⟩,
  ⟨(some 27), (.mv (.t 26)), none⟩,
  ⟨(some 28), (.call F_digest_Of [(.sc, (.v .nilS))]), (some (27, true))⟩,
  ⟨(some 29), (.call F_ref03_Sum [(.sc, (.v .nilS))]), (some (27, true))⟩,
  ⟨(some 30), (.eq (.ia 32) false (.t 28) (.t 29)), (some (27, true))⟩,
  ⟨(some 31), (.pick (.t 27) (.t 30) (.v (.bool false))), none⟩,
  ⟨(some 32), (.mv (.t 31)), none⟩,
  ⟨(some 33), (.call F_law03_works []), (some (32, true))⟩,
  ⟨(some 34), (.pick (.t 32) (.t 33) (.v (.bool false))), none⟩,
  ⟨(some 4), (.mv (.t 34)), none⟩]
def a_law03_DigestSums : AFunc := ⟨[(.tmp 4)], (.seq (.region q_law03_DigestSums_0) (.seq (.seq (.region q_law03_DigestSums_1) (.cond (.t 13) (.seq (.region q_law03_DigestSums_2) .ret) .skip)) (.seq (.region q_law03_DigestSums_3) (.seq (.region q_law03_DigestSums_4) (.seq (.region q_law03_DigestSums_5) .ret)))))⟩

def q_law03_DigestGrows_0 : List AOper := [
  ⟨(some 2), (.mv (.v (.bool false))), none⟩]
def q_law03_DigestGrows_1 : List AOper := [
  ⟨(some 6), (.mv (.t 0)), none⟩,
  ⟨(some 7), (.len false (.t 6)), none⟩,
  ⟨(some 8), (.bin .gtr (.t 7) (.v (.int .i64 12))), none⟩]
def q_law03_DigestGrows_2 : List AOper := [
  ⟨(some 9), (.call F_law03_works []), none⟩,
  ⟨(some 2), (.mv (.t 9)), none⟩]
def q_law03_DigestGrows_3 : List AOper := [
  ⟨(some 10), (.call F_digest_New []), none⟩,
  ⟨(some 3), (.mv (.t 10)), none⟩]
def q_law03_DigestGrows_4 : List AOper := [
  ⟨(some 11), (.mv (.t 3)), none⟩,
  ⟨(some 12), (.xx (.p (.isNil .ptr false)) [(.t 11)]), none⟩]
def q_law03_DigestGrows_5 : List AOper := [
  ⟨(some 2), (.mv (.v (.bool false))), none⟩]
def q_law03_DigestGrows_6 : List AOper := [
  ⟨(some 4), (.mv (.v .nilS)), none⟩]
def q_law03_DigestGrows_7 : List AOper := [
  ⟨(some 5), (.mv (.v (.int .i64 0))), none⟩]
def q_law03_DigestGrows_8 : List AOper := [
  ⟨(some 13), (.mv (.t 5)), none⟩,
  ⟨(some 14), (.mv (.t 0)), none⟩,
  ⟨(some 15), (.len false (.t 14)), none⟩,
  ⟨(some 16), (.bin .lss (.t 13) (.t 15)), none⟩]
def q_law03_DigestGrows_9 : List AOper := [
  ⟨(some 19), (.mv (.t 0)), none⟩,
  ⟨(some 20), (.mv (.t 5)), none⟩,
  ⟨(some 21), (.idx 1 (.t 19) (.t 20)), none⟩,
  ⟨(some 22), (.load .sc 1 (.t 21)), none⟩,
  ⟨(some 23), (.len false (.t 22)), none⟩,
  ⟨(some 24), (.bin .gtr (.t 23) (.v (.int .i64 200))), none⟩]
def q_law03_DigestGrows_10 : List AOper := [
  ⟨(some 25), (.call F_law03_works []), none⟩,
  ⟨(some 2), (.mv (.t 25)), none⟩]
def q_law03_DigestGrows_11 : List AOper := [
  ⟨(some 26), (.mv (.t 3)), none⟩,
  ⟨(some 27), (.mv (.t 0)), none⟩,
  ⟨(some 28), (.mv (.t 5)), none⟩,
  ⟨(some 29), (.idx 1 (.t 27) (.t 28)), none⟩,
  ⟨(some 30), (.load .sc 1 (.t 29)), none⟩,
  ⟨(some 31), (.call F_Pdigest_Hash_Add [(.sc, (.t 26)), (.sc, (.t 30))]), none⟩]
def q_law03_DigestGrows_12 : List AOper := [
  ⟨(some 32), (.mv (.t 4)), none⟩,
  ⟨(some 33), (.mv (.t 0)), none⟩,
  ⟨(some 34), (.mv (.t 5)), none⟩,
  ⟨(some 35), (.idx 1 (.t 33) (.t 34)), none⟩,
  ⟨(some 36), (.load .sc 1 (.t 35)), none⟩,
  ⟨(some 37), (.appI 5 .u8 1 (.t 32) (.t 36)), none⟩,
  ⟨(some 4), (.mv (.t 37)), none⟩]
def q_law03_DigestGrows_13 : List DOp := [
  ⟨⟨(some 38), (.mv (.t 3)), none⟩, true, false, none, []⟩,
  ⟨⟨(some 40), (.mv (.t 4)), none⟩, true, false, none, []⟩,
  ⟨⟨(some 39), (.call F_Pdigest_Hash_Sum [(.sc, (.t 38))]), none⟩, false, false, none, []⟩,
  ⟨⟨(some 41), (.call F_ref03_Sum [(.sc, (.t 40))]), none⟩, false, false, none, []⟩,
  ⟨⟨(some 42), (.eq (.ia 32) true (.t 39) (.t 41)), none⟩, true, false, none, []⟩,
  ⟨⟨(some 43), (.mv (.t 42)), none⟩, true, false, none, []⟩,
  ⟨⟨(some 44), (.mv (.t 3)), (some (43, false))⟩, true, false, none, []⟩,
  ⟨⟨(some 46), (.mv (.t 0)), (some (43, false))⟩, true, false, none, []⟩,
  ⟨⟨(some 47), (.mv (.t 5)), (some (43, false))⟩, true, false, none, []⟩,
  ⟨⟨(some 48), (.bin .add (.t 47) (.v (.int .i64 1))), (some (43, false))⟩, true, false, none, []⟩,
  ⟨⟨(some 49), (.slc 1 (.t 46) none (some (.t 48))), (some (43, false))⟩, true, false, none, []⟩,
  ⟨⟨(some 45), (.call F_Pdigest_Hash_Sum [(.sc, (.t 44))]), (some (43, false))⟩, false, true, (some [46]), []⟩,
  ⟨⟨(some 50), (.call F_digest_Of [(.sc, (.t 49))]), (some (43, false))⟩, false, false, none, []⟩,
  ⟨⟨(some 51), (.eq (.ia 32) true (.t 45) (.t 50)), (some (43, false))⟩, true, false, none, []⟩,
  ⟨⟨(some 52), (.pick (.t 43) (.v (.bool true)) (.t 51)), none⟩, true, false, none, []⟩]
def q_law03_DigestGrows_14 : List AOper := [
  ⟨(some 2), (.mv (.v (.bool false))), none⟩]
def q_law03_DigestGrows_15 : List AOper := [
  ⟨(some 17), (.mv (.t 5)), none⟩,
  ⟨(some 18), (.bin .add (.t 17) (.v (.int .i64 1))), none⟩,
  ⟨(some 5), (.mv (.t 18)), none⟩]
def q_law03_DigestGrows_L16 : ACode := (.seq (.seq (.region q_law03_DigestGrows_8) (.cond (.t 16) .skip (.exit 0))) (.seq (.block 1 (.seq (.seq (.region q_law03_DigestGrows_9) (.cond (.t 24) (.seq (.region q_law03_DigestGrows_10) .ret) .skip)) (.seq (.region q_law03_DigestGrows_11) (.seq (.region q_law03_DigestGrows_12) (.seq (.regionD q_law03_DigestGrows_13) (.cond (.t 52) (.seq (.region q_law03_DigestGrows_14) .ret) .skip)))))) (.region q_law03_DigestGrows_15)))
def q_law03_DigestGrows_16 : List AOper := [
  ⟨(some 53), (.call F_law03_works []), none⟩,
  ⟨(some 2), (.mv (.t 53)), none⟩]
def a_law03_DigestGrows : AFunc := ⟨[(.tmp 2)], (.seq (.region q_law03_DigestGrows_0) (.seq (.seq (.region q_law03_DigestGrows_1) (.cond (.t 8) (.seq (.region q_law03_DigestGrows_2) .ret) .skip)) (.seq (.region q_law03_DigestGrows_3) (.seq (.seq (.region q_law03_DigestGrows_4) (.cond (.t 12) (.seq (.region q_law03_DigestGrows_5) .ret) .skip)) (.seq (.region q_law03_DigestGrows_6) (.seq (.seq (.region q_law03_DigestGrows_7) (.block 0 (.loop q_law03_DigestGrows_L16))) (.seq (.region q_law03_DigestGrows_16) .ret)))))))⟩

def q_law03_DigestPlaces_0 : List AOper := [
  ⟨(some 4), (.box 39 (.ia .u8 32) (.t 0)), none⟩,
  ⟨(some 5), (.box 39 (.ia .u8 32) (.t 1)), none⟩,
  ⟨(some 8), (.mv (.v (.bool false))), none⟩]
def q_law03_DigestPlaces_1 : List AOper := [
  ⟨(some 13), (.mv (.t 3)), none⟩,
  ⟨(some 14), (.len true (.t 13)), none⟩,
  ⟨(some 15), (.bin .gtr (.t 14) (.v (.int .i64 200))), none⟩]
def q_law03_DigestPlaces_2 : List AOper := [
  ⟨(some 16), (.call F_law03_works []), none⟩,
  ⟨(some 8), (.mv (.t 16)), none⟩]
def q_law03_DigestPlaces_3 : List AOper := [
  ⟨(some 18), (.load (.ia .u8 32) 32 (.t 4)), none⟩,
  ⟨(some 19), (.call F_digest_Hex [((.ia .u8 32), (.t 18))]), none⟩,
  ⟨(some 20), (.call F_digest_Parse [(.sc, (.t 19))]), none⟩,
  ⟨(some 17), (.mv (.t 20)), none⟩,
  ⟨(some 21), (.ext 0 (.t 17)), none⟩,
  ⟨(some 22), (.ext 1 (.t 17)), none⟩,
  ⟨(some 9), (.alloc 39 [(.iarr .u8 32 (List.replicate 32 0))]), none⟩,
  ⟨none, (.store (.ia .u8 32) 32 (.t 9) (.t 21)), none⟩,
  ⟨(some 10), (.mv (.t 22)), none⟩]
def q_law03_DigestPlaces_4 : List AOper := [
  ⟨(some 24), (.mv (.t 3)), none⟩,
  ⟨(some 25), (.call F_digest_Parse [(.sc, (.t 24))]), none⟩,
  ⟨(some 23), (.mv (.t 25)), none⟩,
  ⟨(some 26), (.ext 0 (.t 23)), none⟩,
  ⟨(some 27), (.ext 1 (.t 23)), none⟩,
  ⟨(some 11), (.alloc 39 [(.iarr .u8 32 (List.replicate 32 0))]), none⟩,
  ⟨none, (.store (.ia .u8 32) 32 (.t 11) (.t 26)), none⟩,
  ⟨(some 12), (.mv (.t 27)), none⟩]
def q_law03_DigestPlaces_5 : List DOp := [
  ⟨⟨(some 28), (.load (.ia .u8 32) 32 (.t 4)), none⟩, true, false, none, []⟩,
  ⟨⟨(some 30), (.load (.ia .u8 32) 32 (.t 4)), none⟩, true, false, none, []⟩,
  ⟨⟨(some 29), (.call F_digest_Hex [((.ia .u8 32), (.t 28))]), none⟩, false, true, (some [4]), []⟩,
  ⟨⟨(some 31), (.call F_ref03_Hex [((.ia .u8 32), (.t 30))]), none⟩, false, false, none, []⟩,
  ⟨⟨(some 32), (.eq .scS true (.t 29) (.t 31)), none⟩, true, false, none, []⟩,
  ⟨⟨(some 33), (.mv (.t 32)), none⟩, true, false, none, []⟩,
  ⟨⟨(some 34), (.load (.ia .u8 32) 32 (.t 9)), (some (33, false))⟩, true, false, none, []⟩,
  ⟨⟨(some 35), (.load (.ia .u8 32) 32 (.t 4)), (some (33, false))⟩, true, false, none, []⟩,
  ⟨⟨(some 36), (.eq (.ia 32) true (.t 34) (.t 35)), (some (33, false))⟩, true, false, none, []⟩,
  ⟨⟨(some 37), (.pick (.t 33) (.v (.bool true)) (.t 36)), none⟩, true, false, none, []⟩,
  ⟨⟨(some 38), (.mv (.t 37)), none⟩, true, false, none, []⟩,
  ⟨⟨(some 39), (.mv (.t 10)), (some (38, false))⟩, true, false, none, []⟩,
  ⟨⟨(some 40), (.eq .scI true (.t 39) (.v (.int .i64 0))), (some (38, false))⟩, true, false, none, []⟩,
  ⟨⟨(some 41), (.pick (.t 38) (.v (.bool true)) (.t 40)), none⟩, true, false, none, []⟩,
  ⟨⟨(some 42), (.mv (.t 41)), none⟩, true, false, none, []⟩,
  ⟨⟨(some 43), (.mv (.t 12)), (some (42, false))⟩, true, false, none, []⟩,
  ⟨⟨(some 44), (.eq .scI false (.t 43) (.v (.int .i64 0))), (some (42, false))⟩, true, false, none, []⟩,
  ⟨⟨(some 45), (.mv (.t 44)), (some (42, false))⟩, true, false, none, []⟩,
  ⟨⟨(some 46), (.load (.ia .u8 32) 32 (.t 11)), (some (45, true))⟩, true, false, none, []⟩,
  ⟨⟨(some 48), (.mv (.t 3)), (some (45, true))⟩, true, false, none, []⟩,
  ⟨⟨(some 47), (.call F_digest_Hex [((.ia .u8 32), (.t 46))]), (some (45, true))⟩, false, false, none, []⟩,
  ⟨⟨(some 49), (.eq .scS true (.t 47) (.t 48)), (some (45, true))⟩, true, false, none, []⟩,
  ⟨⟨(some 50), (.pick (.t 45) (.t 49) (.v (.bool false))), (some (42, false))⟩, true, false, none, []⟩,
  ⟨⟨(some 51), (.pick (.t 42) (.v (.bool true)) (.t 50)), none⟩, true, false, none, []⟩,
  ⟨⟨(some 52), (.mv (.t 51)), none⟩, true, false, none, []⟩,
  ⟨⟨(some 53), (.mv (.t 12)), (some (52, false))⟩, true, false, none, []⟩,
  ⟨⟨(some 54), (.eq .scI true (.t 53) (.v (.int .i64 0))), (some (52, false))⟩, true, false, none, []⟩,
  ⟨⟨(some 55), (.mv (.t 54)), (some (52, false))⟩, true, false, none, []⟩,
  ⟨⟨(some 56), (.mv (.t 12)), (some (55, true))⟩, true, false, none, []⟩,
  ⟨⟨(some 57), (.eq .scI true (.t 56) (.v (.int .i64 3))), (some (55, true))⟩, true, false, none, []⟩,
  ⟨⟨(some 58), (.mv (.t 57)), (some (55, true))⟩, true, false, none, []⟩,
  ⟨⟨(some 59), (.load (.ia .u8 32) 32 (.t 11)), (some (58, false))⟩, true, false, none, []⟩,
  ⟨⟨(some 60), (.build (.ia .u8 32) [(.iarr .u8 32 (List.replicate 32 0))] []), (some (58, false))⟩, true, false, none, []⟩,
  ⟨⟨(some 61), (.eq (.ia 32) true (.t 59) (.t 60)), (some (58, false))⟩, true, false, none, []⟩,
  ⟨⟨(some 62), (.pick (.t 58) (.v (.bool true)) (.t 61)), (some (55, true))⟩, true, false, none, []⟩,
  ⟨⟨(some 63), (.pick (.t 55) (.t 62) (.v (.bool false))), (some (52, false))⟩, true, false, none, []⟩,
  ⟨⟨(some 64), (.pick (.t 52) (.v (.bool true)) (.t 63)), none⟩, true, false, none, []⟩]
def q_law03_DigestPlaces_6 : List AOper := [
  ⟨(some 8), (.mv (.v (.bool false))), none⟩]
def q_law03_DigestPlaces_7 : List DOp := [
  ⟨⟨(some 65), (.load (.ia .u8 32) 32 (.t 4)), none⟩, true, false, none, []⟩,
  ⟨⟨(some 66), (.load (.ia .u8 32) 32 (.t 5)), none⟩, true, false, none, []⟩,
  ⟨⟨(some 68), (.load (.ia .u8 32) 32 (.t 4)), none⟩, true, false, none, []⟩,
  ⟨⟨(some 70), (.load (.ia .u8 32) 32 (.t 5)), none⟩, true, false, none, []⟩,
  ⟨⟨(some 67), (.call F_digest_Less [((.ia .u8 32), (.t 65)), ((.ia .u8 32), (.t 66))]), none⟩, false, true, (some [5, 4]), []⟩,
  ⟨⟨(some 69), (.call F_ref03_Hex [((.ia .u8 32), (.t 68))]), none⟩, false, true, (some [5]), []⟩,
  ⟨⟨(some 71), (.call F_ref03_Hex [((.ia .u8 32), (.t 70))]), none⟩, false, false, none, []⟩,
  ⟨⟨(some 72), (.bin .lss (.t 69) (.t 71)), none⟩, true, false, none, []⟩,
  ⟨⟨(some 73), (.eq .scB true (.t 67) (.t 72)), none⟩, true, false, none, []⟩]
def q_law03_DigestPlaces_8 : List AOper := [
  ⟨(some 8), (.mv (.v (.bool false))), none⟩]
def q_law03_DigestPlaces_9 : List DOp := [
  ⟨⟨(some 74), (.load (.ia .u8 32) 32 (.t 4)), none⟩, true, false, none, []⟩,
  ⟨⟨(some 75), (.mv (.t 2)), none⟩, true, false, none, []⟩,
  ⟨⟨(some 77), (.load (.ia .u8 32) 32 (.t 4)), none⟩, true, false, none, []⟩,
  ⟨⟨(some 78), (.mv (.t 2)), none⟩, true, false, none, []⟩,
  ⟨⟨(some 76), (.call F_digest_Home [((.ia .u8 32), (.t 74)), (.sc, (.t 75))]), none⟩, false, true, (some [4]), []⟩,
  ⟨⟨(some 79), (.call F_ref03_Home [((.ia .u8 32), (.t 77)), (.sc, (.t 78))]), none⟩, false, false, none, []⟩,
  ⟨⟨(some 80), (.eq .scI false (.t 76) (.t 79)), none⟩, true, false, none, []⟩,
  ⟨⟨(some 81), (.mv (.t 80)), none⟩, true, false, none, []⟩,
  ⟨⟨(some 82), (.call F_law03_works []), (some (81, true))⟩, false, false, none, []⟩,
  ⟨⟨(some 83), (.pick (.t 81) (.t 82) (.v (.bool false))), none⟩, true, false, none, []⟩,
  ⟨⟨(some 8), (.mv (.t 83)), none⟩, true, false, none, []⟩]
def a_law03_DigestPlaces : AFunc := ⟨[(.tmp 8)], (.seq (.region q_law03_DigestPlaces_0) (.seq (.seq (.region q_law03_DigestPlaces_1) (.cond (.t 15) (.seq (.region q_law03_DigestPlaces_2) .ret) .skip)) (.seq (.region q_law03_DigestPlaces_3) (.seq (.region q_law03_DigestPlaces_4) (.seq (.seq (.regionD q_law03_DigestPlaces_5) (.cond (.t 64) (.seq (.region q_law03_DigestPlaces_6) .ret) .skip)) (.seq (.seq (.regionD q_law03_DigestPlaces_7) (.cond (.t 73) (.seq (.region q_law03_DigestPlaces_8) .ret) .skip)) (.seq (.regionD q_law03_DigestPlaces_9) .ret)))))))⟩

def q_law03_works_0 : List AOper := [
  ⟨(some 0), (.mv (.v (.bool false))), none⟩]
def q_law03_works_1 : List AOper := [
  ⟨(some 7), (.bslI 5 .u8 [(.v (.int .u8 97))]), none⟩,
  ⟨(some 8), (.xx .sealB [(.t 7)]), none⟩,
  ⟨(some 9), (.bslI 5 .u8 [(.v (.int .u8 98)), (.v (.int .u8 99))]), none⟩,
  ⟨(some 10), (.xx .sealB [(.t 9)]), none⟩,
  ⟨(some 11), (.bsl 34 .sc 1 [(.t 8), (.t 10)]), none⟩,
  ⟨(some 12), (.call F_digest_Of [(.sc, (.t 11))]), none⟩,
  ⟨(some 1), (.alloc 39 [(.iarr .u8 32 (List.replicate 32 0))]), none⟩,
  ⟨none, (.store (.ia .u8 32) 32 (.t 1) (.t 12)), none⟩]
def q_law03_works_2 : List AOper := [
  ⟨(some 14), (.load (.ia .u8 32) 32 (.t 1)), none⟩,
  ⟨(some 15), (.call F_digest_Hex [((.ia .u8 32), (.t 14))]), none⟩,
  ⟨(some 16), (.call F_digest_Parse [(.sc, (.t 15))]), none⟩,
  ⟨(some 13), (.mv (.t 16)), none⟩,
  ⟨(some 17), (.ext 0 (.t 13)), none⟩,
  ⟨(some 18), (.ext 1 (.t 13)), none⟩,
  ⟨(some 2), (.alloc 39 [(.iarr .u8 32 (List.replicate 32 0))]), none⟩,
  ⟨none, (.store (.ia .u8 32) 32 (.t 2) (.t 17)), none⟩,
  ⟨(some 3), (.mv (.t 18)), none⟩]
def q_law03_works_3 : List AOper := [
  ⟨(some 20), (.call F_digest_Parse [(.sc, (.v (.str ⟨#[120, 121]⟩)))]), none⟩,
  ⟨(some 19), (.mv (.t 20)), none⟩,
  ⟨(some 21), (.ext 0 (.t 19)), none⟩,
  ⟨(some 22), (.ext 1 (.t 19)), none⟩,
  ⟨(some 4), (.alloc 39 [(.iarr .u8 32 (List.replicate 32 0))]), none⟩,
  ⟨none, (.store (.ia .u8 32) 32 (.t 4) (.t 21)), none⟩,
  ⟨(some 5), (.mv (.t 22)), none⟩]
def q_law03_works_4 : List AOper := [
  ⟨(some 23), (.call F_digest_New []), none⟩,
  ⟨(some 6), (.mv (.t 23)), none⟩]
def q_law03_works_5 : List AOper := [
  ⟨(some 24), (.mv (.t 6)), none⟩,
  ⟨(some 25), (.xx (.p (.isNil .ptr false)) [(.t 24)]), none⟩]
def q_law03_works_6 : List AOper := [
  ⟨(some 0), (.mv (.v (.bool false))), none⟩]
def q_law03_works_7 : List AOper := [
  ⟨(some 26), (.mv (.t 6)), none⟩,
  ⟨(some 27), (.bslI 5 .u8 [(.v (.int .u8 97)), (.v (.int .u8 98)), (.v (.int .u8 99))]), none⟩,
  ⟨(some 28), (.xx .sealB [(.t 27)]), none⟩,
  ⟨(some 29), (.call F_Pdigest_Hash_Add [(.sc, (.t 26)), (.sc, (.t 28))]), none⟩]
def q_law03_works_8 : List DOp := [
  ⟨⟨(some 30), (.load (.ia .u8 32) 32 (.t 1)), none⟩, true, false, none, []⟩,
  ⟨⟨(some 31), (.call F_digest_Hex [((.ia .u8 32), (.t 30))]), none⟩, false, false, none, []⟩,
  ⟨⟨(some 32), (.eq .scS false (.t 31) (.v (.str ⟨#[98, 97, 55, 56, 49, 54, 98, 102, 56, 102, 48, 49, 99, 102, 101, 97, 52, 49, 52, 49, 52, 48, 100, 101, 53, 100, 97, 101, 50, 50, 50, 51, 98, 48, 48, 51, 54, 49, 97, 51, 57, 54, 49, 55, 55, 97, 57, 99, 98, 52, 49, 48, 102, 102, 54, 49, 102, 50, 48, 48, 49, 53, 97, 100]⟩))), none⟩, true, false, none, []⟩,
  ⟨⟨(some 33), (.mv (.t 32)), none⟩, true, false, none, []⟩,
  ⟨⟨(some 34), (.load (.ia .u8 32) 32 (.t 2)), (some (33, true))⟩, true, false, none, []⟩,
  ⟨⟨(some 35), (.load (.ia .u8 32) 32 (.t 1)), (some (33, true))⟩, true, false, none, []⟩,
  ⟨⟨(some 36), (.eq (.ia 32) false (.t 34) (.t 35)), (some (33, true))⟩, true, false, none, []⟩,
  ⟨⟨(some 37), (.pick (.t 33) (.t 36) (.v (.bool false))), none⟩, true, false, none, []⟩,
  ⟨⟨(some 38), (.mv (.t 37)), none⟩, true, false, none, []⟩,
  ⟨⟨(some 39), (.mv (.t 3)), (some (38, true))⟩, true, false, none, []⟩,
  ⟨⟨(some 40), (.eq .scI false (.t 39) (.v (.int .i64 0))), (some (38, true))⟩, true, false, none, []⟩,
  ⟨⟨(some 41), (.pick (.t 38) (.t 40) (.v (.bool false))), none⟩, true, false, none, []⟩,
  ⟨⟨(some 42), (.mv (.t 41)), none⟩, true, false, none, []⟩,
  ⟨⟨(some 43), (.mv (.t 5)), (some (42, true))⟩, true, false, none, []⟩,
  ⟨⟨(some 44), (.eq .scI false (.t 43) (.v (.int .i64 3))), (some (42, true))⟩, true, false, none, []⟩,
  ⟨⟨(some 45), (.pick (.t 42) (.t 44) (.v (.bool false))), none⟩, true, false, none, []⟩,
  ⟨⟨(some 46), (.mv (.t 45)), none⟩, true, false, none, []⟩,
  ⟨⟨(some 47), (.mv (.t 6)), (some (46, true))⟩, true, false, none, []⟩,
  ⟨⟨(some 49), (.load (.ia .u8 32) 32 (.t 1)), (some (46, true))⟩, true, false, none, []⟩,
  ⟨⟨(some 48), (.call F_Pdigest_Hash_Sum [(.sc, (.t 47))]), (some (46, true))⟩, false, true, (some [1]), []⟩,
  ⟨⟨(some 50), (.eq (.ia 32) false (.t 48) (.t 49)), (some (46, true))⟩, true, false, none, []⟩,
  ⟨⟨(some 51), (.pick (.t 46) (.t 50) (.v (.bool false))), none⟩, true, false, none, []⟩,
  ⟨⟨(some 52), (.mv (.t 51)), none⟩, true, false, none, []⟩,
  ⟨⟨(some 53), (.load (.ia .u8 32) 32 (.t 1)), (some (52, true))⟩, true, false, none, []⟩,
  ⟨⟨(some 54), (.load (.ia .u8 32) 32 (.t 1)), (some (52, true))⟩, true, false, none, []⟩,
  ⟨⟨(some 55), (.call F_digest_Less [((.ia .u8 32), (.t 53)), ((.ia .u8 32), (.t 54))]), (some (52, true))⟩, false, false, none, []⟩,
  ⟨⟨(some 56), (.un .not (.t 55)), (some (52, true))⟩, true, false, none, []⟩,
  ⟨⟨(some 57), (.pick (.t 52) (.t 56) (.v (.bool false))), none⟩, true, false, none, []⟩,
  ⟨⟨(some 58), (.mv (.t 57)), none⟩, true, false, none, []⟩,
  ⟨⟨(some 59), (.build (.ia .u8 32) [(.iarr .u8 32 (List.replicate 32 0))] []), (some (58, true))⟩, true, false, none, []⟩,
  ⟨⟨(some 60), (.load (.ia .u8 32) 32 (.t 1)), (some (58, true))⟩, true, false, none, []⟩,
  ⟨⟨(some 61), (.call F_digest_Less [((.ia .u8 32), (.t 59)), ((.ia .u8 32), (.t 60))]), (some (58, true))⟩, false, false, none, []⟩,
  ⟨⟨(some 62), (.pick (.t 58) (.t 61) (.v (.bool false))), none⟩, true, false, none, []⟩,
  ⟨⟨(some 63), (.mv (.t 62)), none⟩, true, false, none, []⟩,
  ⟨⟨(some 64), (.build (.ia .u8 32) [(.iarr .u8 32 (List.replicate 32 0))] [(0, (1, (.v (.int .u8 0)))), (1, (1, (.v (.int .u8 0)))), (2, (1, (.v (.int .u8 0)))), (3, (1, (.v (.int .u8 0)))), (4, (1, (.v (.int .u8 0)))), (5, (1, (.v (.int .u8 7))))]), (some (63, true))⟩, true, false, none, []⟩,
  ⟨⟨(some 65), (.call F_digest_Home [((.ia .u8 32), (.t 64)), (.sc, (.v (.int .i64 5)))]), (some (63, true))⟩, false, false, none, []⟩,
  ⟨⟨(some 66), (.eq .scI false (.t 65) (.v (.int .i64 2))), (some (63, true))⟩, true, false, none, []⟩,
  ⟨⟨(some 67), (.pick (.t 63) (.t 66) (.v (.bool false))), none⟩, true, false, none, []⟩,
  ⟨⟨(some 0), (.mv (.t 67)), none⟩, true, false, none, []⟩]
def a_law03_works : AFunc := ⟨[(.tmp 0)], (.seq (.region q_law03_works_0) (.seq (.region q_law03_works_1) (.seq (.region q_law03_works_2) (.seq (.region q_law03_works_3) (.seq (.region q_law03_works_4) (.seq (.seq (.region q_law03_works_5) (.cond (.t 25) (.seq (.region q_law03_works_6) .ret) .skip)) (.seq (.region q_law03_works_7) (.seq (.regionD q_law03_works_8) .ret))))))))⟩


theorem c_digest_Of : trF Try.prog Try.f56 = some a_digest_Of := by kernel_rfl
theorem g_digest_Of : Try.prog.funcs[56]? = some Try.f56 := by kernel_rfl
theorem i_digest_Of {args : List AV} {A : Heap} {Ko : AOut → Heap → Prop} (hn : args.length ≤ 19)
    (h : ∀ R : APost, (∀ e env A, fpost a_digest_Of.res Ko e env A → R e env A) → X Try.prog R a_digest_Of.body .done (env0 args) A) : SimX Try.prog F_digest_Of args A Ko :=
  X_intro g_digest_Of c_digest_Of (by rw [Try.ntmps56]; exact hn) h
theorem v_digest_Of {args : List AV} {v : AV} (hn : args.length ≤ 19) (h : X Try.prog (fin a_digest_Of.res v) a_digest_Of.body .done (env0 args) H0) : Gives Try.prog F_digest_Of args v :=
  Gives_intro g_digest_Of c_digest_Of (by rw [Try.ntmps56]; exact hn) h
theorem e_digest_Of {args : List AV} {Q : AOut → Prop} (hn : args.length ≤ 19) (h : X Try.prog (finE a_digest_Of.res Q) a_digest_Of.body .done (env0 args) H0) : Fins Try.prog F_digest_Of args Q :=
  Fins_intro g_digest_Of c_digest_Of (by rw [Try.ntmps56]; exact hn) h
theorem j_digest_Of {args : List AV} {A : Heap} {K Kp : AV → Heap → Prop} (hn : args.length ≤ 19) (h : X Try.prog (inl a_digest_Of.res K Kp) a_digest_Of.body .done (env0 args) A) : SimX Try.prog F_digest_Of args A (outK K Kp) :=
  X_inl g_digest_Of c_digest_Of (by rw [Try.ntmps56]; exact hn) h
theorem d_digest_Of {args : List AV} {A : Heap} {Ko : AOut → Heap → Prop} (hn : args.length ≤ 19)
    (h : ∀ R : APost, (∀ e env A, fpost a_digest_Of.res Ko e env A → R e env A) → X Try.prog R a_digest_Of.body .done (env0 args) A) : SimD Try.prog F_digest_Of args A Ko :=
  X_introD g_digest_Of c_digest_Of (by rw [Try.ntmps56]; exact hn) h
@[simp] theorem k_digest_Of : callable Try.prog F_digest_Of = true := by kernel_rfl
theorem c_digest_New : trF Try.prog Try.f58 = some a_digest_New := by kernel_rfl
theorem g_digest_New : Try.prog.funcs[58]? = some Try.f58 := by kernel_rfl
theorem i_digest_New {args : List AV} {A : Heap} {Ko : AOut → Heap → Prop} (hn : args.length ≤ 4)
    (h : ∀ R : APost, (∀ e env A, fpost a_digest_New.res Ko e env A → R e env A) → X Try.prog R a_digest_New.body .done (env0 args) A) : SimX Try.prog F_digest_New args A Ko :=
  X_intro g_digest_New c_digest_New (by rw [Try.ntmps58]; exact hn) h
theorem v_digest_New {args : List AV} {v : AV} (hn : args.length ≤ 4) (h : X Try.prog (fin a_digest_New.res v) a_digest_New.body .done (env0 args) H0) : Gives Try.prog F_digest_New args v :=
  Gives_intro g_digest_New c_digest_New (by rw [Try.ntmps58]; exact hn) h
theorem e_digest_New {args : List AV} {Q : AOut → Prop} (hn : args.length ≤ 4) (h : X Try.prog (finE a_digest_New.res Q) a_digest_New.body .done (env0 args) H0) : Fins Try.prog F_digest_New args Q :=
  Fins_intro g_digest_New c_digest_New (by rw [Try.ntmps58]; exact hn) h
theorem j_digest_New {args : List AV} {A : Heap} {K Kp : AV → Heap → Prop} (hn : args.length ≤ 4) (h : X Try.prog (inl a_digest_New.res K Kp) a_digest_New.body .done (env0 args) A) : SimX Try.prog F_digest_New args A (outK K Kp) :=
  X_inl g_digest_New c_digest_New (by rw [Try.ntmps58]; exact hn) h
theorem d_digest_New {args : List AV} {A : Heap} {Ko : AOut → Heap → Prop} (hn : args.length ≤ 4)
    (h : ∀ R : APost, (∀ e env A, fpost a_digest_New.res Ko e env A → R e env A) → X Try.prog R a_digest_New.body .done (env0 args) A) : SimD Try.prog F_digest_New args A Ko :=
  X_introD g_digest_New c_digest_New (by rw [Try.ntmps58]; exact hn) h
@[simp] theorem k_digest_New : callable Try.prog F_digest_New = true := by kernel_rfl
theorem c_digest_Parse : trF Try.prog Try.f61 = some a_digest_Parse := by kernel_rfl
theorem g_digest_Parse : Try.prog.funcs[61]? = some Try.f61 := by kernel_rfl
theorem i_digest_Parse {args : List AV} {A : Heap} {Ko : AOut → Heap → Prop} (hn : args.length ≤ 50)
    (h : ∀ R : APost, (∀ e env A, fpost a_digest_Parse.res Ko e env A → R e env A) → X Try.prog R a_digest_Parse.body .done (env0 args) A) : SimX Try.prog F_digest_Parse args A Ko :=
  X_intro g_digest_Parse c_digest_Parse (by rw [Try.ntmps61]; exact hn) h
theorem v_digest_Parse {args : List AV} {v : AV} (hn : args.length ≤ 50) (h : X Try.prog (fin a_digest_Parse.res v) a_digest_Parse.body .done (env0 args) H0) : Gives Try.prog F_digest_Parse args v :=
  Gives_intro g_digest_Parse c_digest_Parse (by rw [Try.ntmps61]; exact hn) h
theorem e_digest_Parse {args : List AV} {Q : AOut → Prop} (hn : args.length ≤ 50) (h : X Try.prog (finE a_digest_Parse.res Q) a_digest_Parse.body .done (env0 args) H0) : Fins Try.prog F_digest_Parse args Q :=
  Fins_intro g_digest_Parse c_digest_Parse (by rw [Try.ntmps61]; exact hn) h
theorem j_digest_Parse {args : List AV} {A : Heap} {K Kp : AV → Heap → Prop} (hn : args.length ≤ 50) (h : X Try.prog (inl a_digest_Parse.res K Kp) a_digest_Parse.body .done (env0 args) A) : SimX Try.prog F_digest_Parse args A (outK K Kp) :=
  X_inl g_digest_Parse c_digest_Parse (by rw [Try.ntmps61]; exact hn) h
theorem d_digest_Parse {args : List AV} {A : Heap} {Ko : AOut → Heap → Prop} (hn : args.length ≤ 50)
    (h : ∀ R : APost, (∀ e env A, fpost a_digest_Parse.res Ko e env A → R e env A) → X Try.prog R a_digest_Parse.body .done (env0 args) A) : SimD Try.prog F_digest_Parse args A Ko :=
  X_introD g_digest_Parse c_digest_Parse (by rw [Try.ntmps61]; exact hn) h
@[simp] theorem k_digest_Parse : callable Try.prog F_digest_Parse = true := by kernel_rfl
theorem c_digest_Hex : trF Try.prog Try.f62 = some a_digest_Hex := by kernel_rfl
theorem g_digest_Hex : Try.prog.funcs[62]? = some Try.f62 := by kernel_rfl
theorem i_digest_Hex {args : List AV} {A : Heap} {Ko : AOut → Heap → Prop} (hn : args.length ≤ 22)
    (h : ∀ R : APost, (∀ e env A, fpost a_digest_Hex.res Ko e env A → R e env A) → X Try.prog R a_digest_Hex.body .done (env0 args) A) : SimX Try.prog F_digest_Hex args A Ko :=
  X_intro g_digest_Hex c_digest_Hex (by rw [Try.ntmps62]; exact hn) h
theorem v_digest_Hex {args : List AV} {v : AV} (hn : args.length ≤ 22) (h : X Try.prog (fin a_digest_Hex.res v) a_digest_Hex.body .done (env0 args) H0) : Gives Try.prog F_digest_Hex args v :=
  Gives_intro g_digest_Hex c_digest_Hex (by rw [Try.ntmps62]; exact hn) h
theorem e_digest_Hex {args : List AV} {Q : AOut → Prop} (hn : args.length ≤ 22) (h : X Try.prog (finE a_digest_Hex.res Q) a_digest_Hex.body .done (env0 args) H0) : Fins Try.prog F_digest_Hex args Q :=
  Fins_intro g_digest_Hex c_digest_Hex (by rw [Try.ntmps62]; exact hn) h
theorem j_digest_Hex {args : List AV} {A : Heap} {K Kp : AV → Heap → Prop} (hn : args.length ≤ 22) (h : X Try.prog (inl a_digest_Hex.res K Kp) a_digest_Hex.body .done (env0 args) A) : SimX Try.prog F_digest_Hex args A (outK K Kp) :=
  X_inl g_digest_Hex c_digest_Hex (by rw [Try.ntmps62]; exact hn) h
theorem d_digest_Hex {args : List AV} {A : Heap} {Ko : AOut → Heap → Prop} (hn : args.length ≤ 22)
    (h : ∀ R : APost, (∀ e env A, fpost a_digest_Hex.res Ko e env A → R e env A) → X Try.prog R a_digest_Hex.body .done (env0 args) A) : SimD Try.prog F_digest_Hex args A Ko :=
  X_introD g_digest_Hex c_digest_Hex (by rw [Try.ntmps62]; exact hn) h
@[simp] theorem k_digest_Hex : callable Try.prog F_digest_Hex = true := by kernel_rfl
theorem c_digest_Less : trF Try.prog Try.f64 = some a_digest_Less := by kernel_rfl
theorem g_digest_Less : Try.prog.funcs[64]? = some Try.f64 := by kernel_rfl
theorem i_digest_Less {args : List AV} {A : Heap} {Ko : AOut → Heap → Prop} (hn : args.length ≤ 24)
    (h : ∀ R : APost, (∀ e env A, fpost a_digest_Less.res Ko e env A → R e env A) → X Try.prog R a_digest_Less.body .done (env0 args) A) : SimX Try.prog F_digest_Less args A Ko :=
  X_intro g_digest_Less c_digest_Less (by rw [Try.ntmps64]; exact hn) h
theorem v_digest_Less {args : List AV} {v : AV} (hn : args.length ≤ 24) (h : X Try.prog (fin a_digest_Less.res v) a_digest_Less.body .done (env0 args) H0) : Gives Try.prog F_digest_Less args v :=
  Gives_intro g_digest_Less c_digest_Less (by rw [Try.ntmps64]; exact hn) h
theorem e_digest_Less {args : List AV} {Q : AOut → Prop} (hn : args.length ≤ 24) (h : X Try.prog (finE a_digest_Less.res Q) a_digest_Less.body .done (env0 args) H0) : Fins Try.prog F_digest_Less args Q :=
  Fins_intro g_digest_Less c_digest_Less (by rw [Try.ntmps64]; exact hn) h
theorem j_digest_Less {args : List AV} {A : Heap} {K Kp : AV → Heap → Prop} (hn : args.length ≤ 24) (h : X Try.prog (inl a_digest_Less.res K Kp) a_digest_Less.body .done (env0 args) A) : SimX Try.prog F_digest_Less args A (outK K Kp) :=
  X_inl g_digest_Less c_digest_Less (by rw [Try.ntmps64]; exact hn) h
theorem d_digest_Less {args : List AV} {A : Heap} {Ko : AOut → Heap → Prop} (hn : args.length ≤ 24)
    (h : ∀ R : APost, (∀ e env A, fpost a_digest_Less.res Ko e env A → R e env A) → X Try.prog R a_digest_Less.body .done (env0 args) A) : SimD Try.prog F_digest_Less args A Ko :=
  X_introD g_digest_Less c_digest_Less (by rw [Try.ntmps64]; exact hn) h
@[simp] theorem k_digest_Less : callable Try.prog F_digest_Less = true := by kernel_rfl
theorem c_digest_Home : trF Try.prog Try.f65 = some a_digest_Home := by kernel_rfl
theorem g_digest_Home : Try.prog.funcs[65]? = some Try.f65 := by kernel_rfl
theorem i_digest_Home {args : List AV} {A : Heap} {Ko : AOut → Heap → Prop} (hn : args.length ≤ 27)
    (h : ∀ R : APost, (∀ e env A, fpost a_digest_Home.res Ko e env A → R e env A) → X Try.prog R a_digest_Home.body .done (env0 args) A) : SimX Try.prog F_digest_Home args A Ko :=
  X_intro g_digest_Home c_digest_Home (by rw [Try.ntmps65]; exact hn) h
theorem v_digest_Home {args : List AV} {v : AV} (hn : args.length ≤ 27) (h : X Try.prog (fin a_digest_Home.res v) a_digest_Home.body .done (env0 args) H0) : Gives Try.prog F_digest_Home args v :=
  Gives_intro g_digest_Home c_digest_Home (by rw [Try.ntmps65]; exact hn) h
theorem e_digest_Home {args : List AV} {Q : AOut → Prop} (hn : args.length ≤ 27) (h : X Try.prog (finE a_digest_Home.res Q) a_digest_Home.body .done (env0 args) H0) : Fins Try.prog F_digest_Home args Q :=
  Fins_intro g_digest_Home c_digest_Home (by rw [Try.ntmps65]; exact hn) h
theorem j_digest_Home {args : List AV} {A : Heap} {K Kp : AV → Heap → Prop} (hn : args.length ≤ 27) (h : X Try.prog (inl a_digest_Home.res K Kp) a_digest_Home.body .done (env0 args) A) : SimX Try.prog F_digest_Home args A (outK K Kp) :=
  X_inl g_digest_Home c_digest_Home (by rw [Try.ntmps65]; exact hn) h
theorem d_digest_Home {args : List AV} {A : Heap} {Ko : AOut → Heap → Prop} (hn : args.length ≤ 27)
    (h : ∀ R : APost, (∀ e env A, fpost a_digest_Home.res Ko e env A → R e env A) → X Try.prog R a_digest_Home.body .done (env0 args) A) : SimD Try.prog F_digest_Home args A Ko :=
  X_introD g_digest_Home c_digest_Home (by rw [Try.ntmps65]; exact hn) h
@[simp] theorem k_digest_Home : callable Try.prog F_digest_Home = true := by kernel_rfl
theorem c_digest_mix : trF Try.prog Try.f100 = some a_digest_mix := by kernel_rfl
theorem g_digest_mix : Try.prog.funcs[100]? = some Try.f100 := by kernel_rfl
theorem i_digest_mix {args : List AV} {A : Heap} {Ko : AOut → Heap → Prop} (hn : args.length ≤ 113)
    (h : ∀ R : APost, (∀ e env A, fpost a_digest_mix.res Ko e env A → R e env A) → X Try.prog R a_digest_mix.body .done (env0 args) A) : SimX Try.prog F_digest_mix args A Ko :=
  X_intro g_digest_mix c_digest_mix (by rw [Try.ntmps100]; exact hn) h
theorem v_digest_mix {args : List AV} {v : AV} (hn : args.length ≤ 113) (h : X Try.prog (fin a_digest_mix.res v) a_digest_mix.body .done (env0 args) H0) : Gives Try.prog F_digest_mix args v :=
  Gives_intro g_digest_mix c_digest_mix (by rw [Try.ntmps100]; exact hn) h
theorem e_digest_mix {args : List AV} {Q : AOut → Prop} (hn : args.length ≤ 113) (h : X Try.prog (finE a_digest_mix.res Q) a_digest_mix.body .done (env0 args) H0) : Fins Try.prog F_digest_mix args Q :=
  Fins_intro g_digest_mix c_digest_mix (by rw [Try.ntmps100]; exact hn) h
theorem j_digest_mix {args : List AV} {A : Heap} {K Kp : AV → Heap → Prop} (hn : args.length ≤ 113) (h : X Try.prog (inl a_digest_mix.res K Kp) a_digest_mix.body .done (env0 args) A) : SimX Try.prog F_digest_mix args A (outK K Kp) :=
  X_inl g_digest_mix c_digest_mix (by rw [Try.ntmps100]; exact hn) h
theorem d_digest_mix {args : List AV} {A : Heap} {Ko : AOut → Heap → Prop} (hn : args.length ≤ 113)
    (h : ∀ R : APost, (∀ e env A, fpost a_digest_mix.res Ko e env A → R e env A) → X Try.prog R a_digest_mix.body .done (env0 args) A) : SimD Try.prog F_digest_mix args A Ko :=
  X_introD g_digest_mix c_digest_mix (by rw [Try.ntmps100]; exact hn) h
@[simp] theorem k_digest_mix : callable Try.prog F_digest_mix = true := by kernel_rfl
theorem c_digest_spread : trF Try.prog Try.f106 = some a_digest_spread := by kernel_rfl
theorem g_digest_spread : Try.prog.funcs[106]? = some Try.f106 := by kernel_rfl
theorem i_digest_spread {args : List AV} {A : Heap} {Ko : AOut → Heap → Prop} (hn : args.length ≤ 89)
    (h : ∀ R : APost, (∀ e env A, fpost a_digest_spread.res Ko e env A → R e env A) → X Try.prog R a_digest_spread.body .done (env0 args) A) : SimX Try.prog F_digest_spread args A Ko :=
  X_intro g_digest_spread c_digest_spread (by rw [Try.ntmps106]; exact hn) h
theorem v_digest_spread {args : List AV} {v : AV} (hn : args.length ≤ 89) (h : X Try.prog (fin a_digest_spread.res v) a_digest_spread.body .done (env0 args) H0) : Gives Try.prog F_digest_spread args v :=
  Gives_intro g_digest_spread c_digest_spread (by rw [Try.ntmps106]; exact hn) h
theorem e_digest_spread {args : List AV} {Q : AOut → Prop} (hn : args.length ≤ 89) (h : X Try.prog (finE a_digest_spread.res Q) a_digest_spread.body .done (env0 args) H0) : Fins Try.prog F_digest_spread args Q :=
  Fins_intro g_digest_spread c_digest_spread (by rw [Try.ntmps106]; exact hn) h
theorem j_digest_spread {args : List AV} {A : Heap} {K Kp : AV → Heap → Prop} (hn : args.length ≤ 89) (h : X Try.prog (inl a_digest_spread.res K Kp) a_digest_spread.body .done (env0 args) A) : SimX Try.prog F_digest_spread args A (outK K Kp) :=
  X_inl g_digest_spread c_digest_spread (by rw [Try.ntmps106]; exact hn) h
theorem d_digest_spread {args : List AV} {A : Heap} {Ko : AOut → Heap → Prop} (hn : args.length ≤ 89)
    (h : ∀ R : APost, (∀ e env A, fpost a_digest_spread.res Ko e env A → R e env A) → X Try.prog R a_digest_spread.body .done (env0 args) A) : SimD Try.prog F_digest_spread args A Ko :=
  X_introD g_digest_spread c_digest_spread (by rw [Try.ntmps106]; exact hn) h
@[simp] theorem k_digest_spread : callable Try.prog F_digest_spread = true := by kernel_rfl
theorem c_digest_rounds : trF Try.prog Try.f107 = some a_digest_rounds := by kernel_rfl
theorem g_digest_rounds : Try.prog.funcs[107]? = some Try.f107 := by kernel_rfl
theorem i_digest_rounds {args : List AV} {A : Heap} {Ko : AOut → Heap → Prop} (hn : args.length ≤ 2)
    (h : ∀ R : APost, (∀ e env A, fpost a_digest_rounds.res Ko e env A → R e env A) → X Try.prog R a_digest_rounds.body .done (env0 args) A) : SimX Try.prog F_digest_rounds args A Ko :=
  X_intro g_digest_rounds c_digest_rounds (by rw [Try.ntmps107]; exact hn) h
theorem v_digest_rounds {args : List AV} {v : AV} (hn : args.length ≤ 2) (h : X Try.prog (fin a_digest_rounds.res v) a_digest_rounds.body .done (env0 args) H0) : Gives Try.prog F_digest_rounds args v :=
  Gives_intro g_digest_rounds c_digest_rounds (by rw [Try.ntmps107]; exact hn) h
theorem e_digest_rounds {args : List AV} {Q : AOut → Prop} (hn : args.length ≤ 2) (h : X Try.prog (finE a_digest_rounds.res Q) a_digest_rounds.body .done (env0 args) H0) : Fins Try.prog F_digest_rounds args Q :=
  Fins_intro g_digest_rounds c_digest_rounds (by rw [Try.ntmps107]; exact hn) h
theorem j_digest_rounds {args : List AV} {A : Heap} {K Kp : AV → Heap → Prop} (hn : args.length ≤ 2) (h : X Try.prog (inl a_digest_rounds.res K Kp) a_digest_rounds.body .done (env0 args) A) : SimX Try.prog F_digest_rounds args A (outK K Kp) :=
  X_inl g_digest_rounds c_digest_rounds (by rw [Try.ntmps107]; exact hn) h
theorem d_digest_rounds {args : List AV} {A : Heap} {Ko : AOut → Heap → Prop} (hn : args.length ≤ 2)
    (h : ∀ R : APost, (∀ e env A, fpost a_digest_rounds.res Ko e env A → R e env A) → X Try.prog R a_digest_rounds.body .done (env0 args) A) : SimD Try.prog F_digest_rounds args A Ko :=
  X_introD g_digest_rounds c_digest_rounds (by rw [Try.ntmps107]; exact hn) h
@[simp] theorem k_digest_rounds : callable Try.prog F_digest_rounds = true := by kernel_rfl
theorem c_digest_spin : trF Try.prog Try.f108 = some a_digest_spin := by kernel_rfl
theorem g_digest_spin : Try.prog.funcs[108]? = some Try.f108 := by kernel_rfl
theorem i_digest_spin {args : List AV} {A : Heap} {Ko : AOut → Heap → Prop} (hn : args.length ≤ 13)
    (h : ∀ R : APost, (∀ e env A, fpost a_digest_spin.res Ko e env A → R e env A) → X Try.prog R a_digest_spin.body .done (env0 args) A) : SimX Try.prog F_digest_spin args A Ko :=
  X_intro g_digest_spin c_digest_spin (by rw [Try.ntmps108]; exact hn) h
theorem v_digest_spin {args : List AV} {v : AV} (hn : args.length ≤ 13) (h : X Try.prog (fin a_digest_spin.res v) a_digest_spin.body .done (env0 args) H0) : Gives Try.prog F_digest_spin args v :=
  Gives_intro g_digest_spin c_digest_spin (by rw [Try.ntmps108]; exact hn) h
theorem e_digest_spin {args : List AV} {Q : AOut → Prop} (hn : args.length ≤ 13) (h : X Try.prog (finE a_digest_spin.res Q) a_digest_spin.body .done (env0 args) H0) : Fins Try.prog F_digest_spin args Q :=
  Fins_intro g_digest_spin c_digest_spin (by rw [Try.ntmps108]; exact hn) h
theorem j_digest_spin {args : List AV} {A : Heap} {K Kp : AV → Heap → Prop} (hn : args.length ≤ 13) (h : X Try.prog (inl a_digest_spin.res K Kp) a_digest_spin.body .done (env0 args) A) : SimX Try.prog F_digest_spin args A (outK K Kp) :=
  X_inl g_digest_spin c_digest_spin (by rw [Try.ntmps108]; exact hn) h
theorem d_digest_spin {args : List AV} {A : Heap} {Ko : AOut → Heap → Prop} (hn : args.length ≤ 13)
    (h : ∀ R : APost, (∀ e env A, fpost a_digest_spin.res Ko e env A → R e env A) → X Try.prog R a_digest_spin.body .done (env0 args) A) : SimD Try.prog F_digest_spin args A Ko :=
  X_introD g_digest_spin c_digest_spin (by rw [Try.ntmps108]; exact hn) h
@[simp] theorem k_digest_spin : callable Try.prog F_digest_spin = true := by kernel_rfl
theorem c_Pdigest_Hash_Add : trF Try.prog Try.f59 = some a_Pdigest_Hash_Add := by kernel_rfl
theorem g_Pdigest_Hash_Add : Try.prog.funcs[59]? = some Try.f59 := by kernel_rfl
theorem i_Pdigest_Hash_Add {args : List AV} {A : Heap} {Ko : AOut → Heap → Prop} (hn : args.length ≤ 42)
    (h : ∀ R : APost, (∀ e env A, fpost a_Pdigest_Hash_Add.res Ko e env A → R e env A) → X Try.prog R a_Pdigest_Hash_Add.body .done (env0 args) A) : SimX Try.prog F_Pdigest_Hash_Add args A Ko :=
  X_intro g_Pdigest_Hash_Add c_Pdigest_Hash_Add (by rw [Try.ntmps59]; exact hn) h
theorem v_Pdigest_Hash_Add {args : List AV} {v : AV} (hn : args.length ≤ 42) (h : X Try.prog (fin a_Pdigest_Hash_Add.res v) a_Pdigest_Hash_Add.body .done (env0 args) H0) : Gives Try.prog F_Pdigest_Hash_Add args v :=
  Gives_intro g_Pdigest_Hash_Add c_Pdigest_Hash_Add (by rw [Try.ntmps59]; exact hn) h
theorem e_Pdigest_Hash_Add {args : List AV} {Q : AOut → Prop} (hn : args.length ≤ 42) (h : X Try.prog (finE a_Pdigest_Hash_Add.res Q) a_Pdigest_Hash_Add.body .done (env0 args) H0) : Fins Try.prog F_Pdigest_Hash_Add args Q :=
  Fins_intro g_Pdigest_Hash_Add c_Pdigest_Hash_Add (by rw [Try.ntmps59]; exact hn) h
theorem j_Pdigest_Hash_Add {args : List AV} {A : Heap} {K Kp : AV → Heap → Prop} (hn : args.length ≤ 42) (h : X Try.prog (inl a_Pdigest_Hash_Add.res K Kp) a_Pdigest_Hash_Add.body .done (env0 args) A) : SimX Try.prog F_Pdigest_Hash_Add args A (outK K Kp) :=
  X_inl g_Pdigest_Hash_Add c_Pdigest_Hash_Add (by rw [Try.ntmps59]; exact hn) h
theorem d_Pdigest_Hash_Add {args : List AV} {A : Heap} {Ko : AOut → Heap → Prop} (hn : args.length ≤ 42)
    (h : ∀ R : APost, (∀ e env A, fpost a_Pdigest_Hash_Add.res Ko e env A → R e env A) → X Try.prog R a_Pdigest_Hash_Add.body .done (env0 args) A) : SimD Try.prog F_Pdigest_Hash_Add args A Ko :=
  X_introD g_Pdigest_Hash_Add c_Pdigest_Hash_Add (by rw [Try.ntmps59]; exact hn) h
@[simp] theorem k_Pdigest_Hash_Add : callable Try.prog F_Pdigest_Hash_Add = true := by kernel_rfl
theorem c_Pdigest_Hash_Sum : trF Try.prog Try.f60 = some a_Pdigest_Hash_Sum := by kernel_rfl
theorem g_Pdigest_Hash_Sum : Try.prog.funcs[60]? = some Try.f60 := by kernel_rfl
theorem i_Pdigest_Hash_Sum {args : List AV} {A : Heap} {Ko : AOut → Heap → Prop} (hn : args.length ≤ 69)
    (h : ∀ R : APost, (∀ e env A, fpost a_Pdigest_Hash_Sum.res Ko e env A → R e env A) → X Try.prog R a_Pdigest_Hash_Sum.body .done (env0 args) A) : SimX Try.prog F_Pdigest_Hash_Sum args A Ko :=
  X_intro g_Pdigest_Hash_Sum c_Pdigest_Hash_Sum (by rw [Try.ntmps60]; exact hn) h
theorem v_Pdigest_Hash_Sum {args : List AV} {v : AV} (hn : args.length ≤ 69) (h : X Try.prog (fin a_Pdigest_Hash_Sum.res v) a_Pdigest_Hash_Sum.body .done (env0 args) H0) : Gives Try.prog F_Pdigest_Hash_Sum args v :=
  Gives_intro g_Pdigest_Hash_Sum c_Pdigest_Hash_Sum (by rw [Try.ntmps60]; exact hn) h
theorem e_Pdigest_Hash_Sum {args : List AV} {Q : AOut → Prop} (hn : args.length ≤ 69) (h : X Try.prog (finE a_Pdigest_Hash_Sum.res Q) a_Pdigest_Hash_Sum.body .done (env0 args) H0) : Fins Try.prog F_Pdigest_Hash_Sum args Q :=
  Fins_intro g_Pdigest_Hash_Sum c_Pdigest_Hash_Sum (by rw [Try.ntmps60]; exact hn) h
theorem j_Pdigest_Hash_Sum {args : List AV} {A : Heap} {K Kp : AV → Heap → Prop} (hn : args.length ≤ 69) (h : X Try.prog (inl a_Pdigest_Hash_Sum.res K Kp) a_Pdigest_Hash_Sum.body .done (env0 args) A) : SimX Try.prog F_Pdigest_Hash_Sum args A (outK K Kp) :=
  X_inl g_Pdigest_Hash_Sum c_Pdigest_Hash_Sum (by rw [Try.ntmps60]; exact hn) h
theorem d_Pdigest_Hash_Sum {args : List AV} {A : Heap} {Ko : AOut → Heap → Prop} (hn : args.length ≤ 69)
    (h : ∀ R : APost, (∀ e env A, fpost a_Pdigest_Hash_Sum.res Ko e env A → R e env A) → X Try.prog R a_Pdigest_Hash_Sum.body .done (env0 args) A) : SimD Try.prog F_Pdigest_Hash_Sum args A Ko :=
  X_introD g_Pdigest_Hash_Sum c_Pdigest_Hash_Sum (by rw [Try.ntmps60]; exact hn) h
@[simp] theorem k_Pdigest_Hash_Sum : callable Try.prog F_Pdigest_Hash_Sum = true := by kernel_rfl
theorem c_ref03_Sum : trF Try.prog Try.f57 = some a_ref03_Sum := by kernel_rfl
theorem g_ref03_Sum : Try.prog.funcs[57]? = some Try.f57 := by kernel_rfl
theorem i_ref03_Sum {args : List AV} {A : Heap} {Ko : AOut → Heap → Prop} (hn : args.length ≤ 43)
    (h : ∀ R : APost, (∀ e env A, fpost a_ref03_Sum.res Ko e env A → R e env A) → X Try.prog R a_ref03_Sum.body .done (env0 args) A) : SimX Try.prog F_ref03_Sum args A Ko :=
  X_intro g_ref03_Sum c_ref03_Sum (by rw [Try.ntmps57]; exact hn) h
theorem v_ref03_Sum {args : List AV} {v : AV} (hn : args.length ≤ 43) (h : X Try.prog (fin a_ref03_Sum.res v) a_ref03_Sum.body .done (env0 args) H0) : Gives Try.prog F_ref03_Sum args v :=
  Gives_intro g_ref03_Sum c_ref03_Sum (by rw [Try.ntmps57]; exact hn) h
theorem e_ref03_Sum {args : List AV} {Q : AOut → Prop} (hn : args.length ≤ 43) (h : X Try.prog (finE a_ref03_Sum.res Q) a_ref03_Sum.body .done (env0 args) H0) : Fins Try.prog F_ref03_Sum args Q :=
  Fins_intro g_ref03_Sum c_ref03_Sum (by rw [Try.ntmps57]; exact hn) h
theorem j_ref03_Sum {args : List AV} {A : Heap} {K Kp : AV → Heap → Prop} (hn : args.length ≤ 43) (h : X Try.prog (inl a_ref03_Sum.res K Kp) a_ref03_Sum.body .done (env0 args) A) : SimX Try.prog F_ref03_Sum args A (outK K Kp) :=
  X_inl g_ref03_Sum c_ref03_Sum (by rw [Try.ntmps57]; exact hn) h
theorem d_ref03_Sum {args : List AV} {A : Heap} {Ko : AOut → Heap → Prop} (hn : args.length ≤ 43)
    (h : ∀ R : APost, (∀ e env A, fpost a_ref03_Sum.res Ko e env A → R e env A) → X Try.prog R a_ref03_Sum.body .done (env0 args) A) : SimD Try.prog F_ref03_Sum args A Ko :=
  X_introD g_ref03_Sum c_ref03_Sum (by rw [Try.ntmps57]; exact hn) h
@[simp] theorem k_ref03_Sum : callable Try.prog F_ref03_Sum = true := by kernel_rfl
theorem c_ref03_Hex : trF Try.prog Try.f63 = some a_ref03_Hex := by kernel_rfl
theorem g_ref03_Hex : Try.prog.funcs[63]? = some Try.f63 := by kernel_rfl
theorem i_ref03_Hex {args : List AV} {A : Heap} {Ko : AOut → Heap → Prop} (hn : args.length ≤ 36)
    (h : ∀ R : APost, (∀ e env A, fpost a_ref03_Hex.res Ko e env A → R e env A) → X Try.prog R a_ref03_Hex.body .done (env0 args) A) : SimX Try.prog F_ref03_Hex args A Ko :=
  X_intro g_ref03_Hex c_ref03_Hex (by rw [Try.ntmps63]; exact hn) h
theorem v_ref03_Hex {args : List AV} {v : AV} (hn : args.length ≤ 36) (h : X Try.prog (fin a_ref03_Hex.res v) a_ref03_Hex.body .done (env0 args) H0) : Gives Try.prog F_ref03_Hex args v :=
  Gives_intro g_ref03_Hex c_ref03_Hex (by rw [Try.ntmps63]; exact hn) h
theorem e_ref03_Hex {args : List AV} {Q : AOut → Prop} (hn : args.length ≤ 36) (h : X Try.prog (finE a_ref03_Hex.res Q) a_ref03_Hex.body .done (env0 args) H0) : Fins Try.prog F_ref03_Hex args Q :=
  Fins_intro g_ref03_Hex c_ref03_Hex (by rw [Try.ntmps63]; exact hn) h
theorem j_ref03_Hex {args : List AV} {A : Heap} {K Kp : AV → Heap → Prop} (hn : args.length ≤ 36) (h : X Try.prog (inl a_ref03_Hex.res K Kp) a_ref03_Hex.body .done (env0 args) A) : SimX Try.prog F_ref03_Hex args A (outK K Kp) :=
  X_inl g_ref03_Hex c_ref03_Hex (by rw [Try.ntmps63]; exact hn) h
theorem d_ref03_Hex {args : List AV} {A : Heap} {Ko : AOut → Heap → Prop} (hn : args.length ≤ 36)
    (h : ∀ R : APost, (∀ e env A, fpost a_ref03_Hex.res Ko e env A → R e env A) → X Try.prog R a_ref03_Hex.body .done (env0 args) A) : SimD Try.prog F_ref03_Hex args A Ko :=
  X_introD g_ref03_Hex c_ref03_Hex (by rw [Try.ntmps63]; exact hn) h
@[simp] theorem k_ref03_Hex : callable Try.prog F_ref03_Hex = true := by kernel_rfl
theorem c_ref03_Home : trF Try.prog Try.f66 = some a_ref03_Home := by kernel_rfl
theorem g_ref03_Home : Try.prog.funcs[66]? = some Try.f66 := by kernel_rfl
theorem i_ref03_Home {args : List AV} {A : Heap} {Ko : AOut → Heap → Prop} (hn : args.length ≤ 25)
    (h : ∀ R : APost, (∀ e env A, fpost a_ref03_Home.res Ko e env A → R e env A) → X Try.prog R a_ref03_Home.body .done (env0 args) A) : SimX Try.prog F_ref03_Home args A Ko :=
  X_intro g_ref03_Home c_ref03_Home (by rw [Try.ntmps66]; exact hn) h
theorem v_ref03_Home {args : List AV} {v : AV} (hn : args.length ≤ 25) (h : X Try.prog (fin a_ref03_Home.res v) a_ref03_Home.body .done (env0 args) H0) : Gives Try.prog F_ref03_Home args v :=
  Gives_intro g_ref03_Home c_ref03_Home (by rw [Try.ntmps66]; exact hn) h
theorem e_ref03_Home {args : List AV} {Q : AOut → Prop} (hn : args.length ≤ 25) (h : X Try.prog (finE a_ref03_Home.res Q) a_ref03_Home.body .done (env0 args) H0) : Fins Try.prog F_ref03_Home args Q :=
  Fins_intro g_ref03_Home c_ref03_Home (by rw [Try.ntmps66]; exact hn) h
theorem j_ref03_Home {args : List AV} {A : Heap} {K Kp : AV → Heap → Prop} (hn : args.length ≤ 25) (h : X Try.prog (inl a_ref03_Home.res K Kp) a_ref03_Home.body .done (env0 args) A) : SimX Try.prog F_ref03_Home args A (outK K Kp) :=
  X_inl g_ref03_Home c_ref03_Home (by rw [Try.ntmps66]; exact hn) h
theorem d_ref03_Home {args : List AV} {A : Heap} {Ko : AOut → Heap → Prop} (hn : args.length ≤ 25)
    (h : ∀ R : APost, (∀ e env A, fpost a_ref03_Home.res Ko e env A → R e env A) → X Try.prog R a_ref03_Home.body .done (env0 args) A) : SimD Try.prog F_ref03_Home args A Ko :=
  X_introD g_ref03_Home c_ref03_Home (by rw [Try.ntmps66]; exact hn) h
@[simp] theorem k_ref03_Home : callable Try.prog F_ref03_Home = true := by kernel_rfl
theorem c_ref03_table : trF Try.prog Try.f96 = some a_ref03_table := by kernel_rfl
theorem g_ref03_table : Try.prog.funcs[96]? = some Try.f96 := by kernel_rfl
theorem i_ref03_table {args : List AV} {A : Heap} {Ko : AOut → Heap → Prop} (hn : args.length ≤ 2)
    (h : ∀ R : APost, (∀ e env A, fpost a_ref03_table.res Ko e env A → R e env A) → X Try.prog R a_ref03_table.body .done (env0 args) A) : SimX Try.prog F_ref03_table args A Ko :=
  X_intro g_ref03_table c_ref03_table (by rw [Try.ntmps96]; exact hn) h
theorem v_ref03_table {args : List AV} {v : AV} (hn : args.length ≤ 2) (h : X Try.prog (fin a_ref03_table.res v) a_ref03_table.body .done (env0 args) H0) : Gives Try.prog F_ref03_table args v :=
  Gives_intro g_ref03_table c_ref03_table (by rw [Try.ntmps96]; exact hn) h
theorem e_ref03_table {args : List AV} {Q : AOut → Prop} (hn : args.length ≤ 2) (h : X Try.prog (finE a_ref03_table.res Q) a_ref03_table.body .done (env0 args) H0) : Fins Try.prog F_ref03_table args Q :=
  Fins_intro g_ref03_table c_ref03_table (by rw [Try.ntmps96]; exact hn) h
theorem j_ref03_table {args : List AV} {A : Heap} {K Kp : AV → Heap → Prop} (hn : args.length ≤ 2) (h : X Try.prog (inl a_ref03_table.res K Kp) a_ref03_table.body .done (env0 args) A) : SimX Try.prog F_ref03_table args A (outK K Kp) :=
  X_inl g_ref03_table c_ref03_table (by rw [Try.ntmps96]; exact hn) h
theorem d_ref03_table {args : List AV} {A : Heap} {Ko : AOut → Heap → Prop} (hn : args.length ≤ 2)
    (h : ∀ R : APost, (∀ e env A, fpost a_ref03_table.res Ko e env A → R e env A) → X Try.prog R a_ref03_table.body .done (env0 args) A) : SimD Try.prog F_ref03_table args A Ko :=
  X_introD g_ref03_table c_ref03_table (by rw [Try.ntmps96]; exact hn) h
@[simp] theorem k_ref03_table : callable Try.prog F_ref03_table = true := by kernel_rfl
theorem c_ref03_padded : trF Try.prog Try.f97 = some a_ref03_padded := by kernel_rfl
theorem g_ref03_padded : Try.prog.funcs[97]? = some Try.f97 := by kernel_rfl
theorem i_ref03_padded {args : List AV} {A : Heap} {Ko : AOut → Heap → Prop} (hn : args.length ≤ 38)
    (h : ∀ R : APost, (∀ e env A, fpost a_ref03_padded.res Ko e env A → R e env A) → X Try.prog R a_ref03_padded.body .done (env0 args) A) : SimX Try.prog F_ref03_padded args A Ko :=
  X_intro g_ref03_padded c_ref03_padded (by rw [Try.ntmps97]; exact hn) h
theorem v_ref03_padded {args : List AV} {v : AV} (hn : args.length ≤ 38) (h : X Try.prog (fin a_ref03_padded.res v) a_ref03_padded.body .done (env0 args) H0) : Gives Try.prog F_ref03_padded args v :=
  Gives_intro g_ref03_padded c_ref03_padded (by rw [Try.ntmps97]; exact hn) h
theorem e_ref03_padded {args : List AV} {Q : AOut → Prop} (hn : args.length ≤ 38) (h : X Try.prog (finE a_ref03_padded.res Q) a_ref03_padded.body .done (env0 args) H0) : Fins Try.prog F_ref03_padded args Q :=
  Fins_intro g_ref03_padded c_ref03_padded (by rw [Try.ntmps97]; exact hn) h
theorem j_ref03_padded {args : List AV} {A : Heap} {K Kp : AV → Heap → Prop} (hn : args.length ≤ 38) (h : X Try.prog (inl a_ref03_padded.res K Kp) a_ref03_padded.body .done (env0 args) A) : SimX Try.prog F_ref03_padded args A (outK K Kp) :=
  X_inl g_ref03_padded c_ref03_padded (by rw [Try.ntmps97]; exact hn) h
theorem d_ref03_padded {args : List AV} {A : Heap} {Ko : AOut → Heap → Prop} (hn : args.length ≤ 38)
    (h : ∀ R : APost, (∀ e env A, fpost a_ref03_padded.res Ko e env A → R e env A) → X Try.prog R a_ref03_padded.body .done (env0 args) A) : SimD Try.prog F_ref03_padded args A Ko :=
  X_introD g_ref03_padded c_ref03_padded (by rw [Try.ntmps97]; exact hn) h
@[simp] theorem k_ref03_padded : callable Try.prog F_ref03_padded = true := by kernel_rfl
theorem c_ref03_mixed : trF Try.prog Try.f98 = some a_ref03_mixed := by kernel_rfl
theorem g_ref03_mixed : Try.prog.funcs[98]? = some Try.f98 := by kernel_rfl
theorem i_ref03_mixed {args : List AV} {A : Heap} {Ko : AOut → Heap → Prop} (hn : args.length ≤ 131)
    (h : ∀ R : APost, (∀ e env A, fpost a_ref03_mixed.res Ko e env A → R e env A) → X Try.prog R a_ref03_mixed.body .done (env0 args) A) : SimX Try.prog F_ref03_mixed args A Ko :=
  X_intro g_ref03_mixed c_ref03_mixed (by rw [Try.ntmps98]; exact hn) h
theorem v_ref03_mixed {args : List AV} {v : AV} (hn : args.length ≤ 131) (h : X Try.prog (fin a_ref03_mixed.res v) a_ref03_mixed.body .done (env0 args) H0) : Gives Try.prog F_ref03_mixed args v :=
  Gives_intro g_ref03_mixed c_ref03_mixed (by rw [Try.ntmps98]; exact hn) h
theorem e_ref03_mixed {args : List AV} {Q : AOut → Prop} (hn : args.length ≤ 131) (h : X Try.prog (finE a_ref03_mixed.res Q) a_ref03_mixed.body .done (env0 args) H0) : Fins Try.prog F_ref03_mixed args Q :=
  Fins_intro g_ref03_mixed c_ref03_mixed (by rw [Try.ntmps98]; exact hn) h
theorem j_ref03_mixed {args : List AV} {A : Heap} {K Kp : AV → Heap → Prop} (hn : args.length ≤ 131) (h : X Try.prog (inl a_ref03_mixed.res K Kp) a_ref03_mixed.body .done (env0 args) A) : SimX Try.prog F_ref03_mixed args A (outK K Kp) :=
  X_inl g_ref03_mixed c_ref03_mixed (by rw [Try.ntmps98]; exact hn) h
theorem d_ref03_mixed {args : List AV} {A : Heap} {Ko : AOut → Heap → Prop} (hn : args.length ≤ 131)
    (h : ∀ R : APost, (∀ e env A, fpost a_ref03_mixed.res Ko e env A → R e env A) → X Try.prog R a_ref03_mixed.body .done (env0 args) A) : SimD Try.prog F_ref03_mixed args A Ko :=
  X_introD g_ref03_mixed c_ref03_mixed (by rw [Try.ntmps98]; exact hn) h
@[simp] theorem k_ref03_mixed : callable Try.prog F_ref03_mixed = true := by kernel_rfl
theorem c_ref03_words : trF Try.prog Try.f99 = some a_ref03_words := by kernel_rfl
theorem g_ref03_words : Try.prog.funcs[99]? = some Try.f99 := by kernel_rfl
theorem i_ref03_words {args : List AV} {A : Heap} {Ko : AOut → Heap → Prop} (hn : args.length ≤ 111)
    (h : ∀ R : APost, (∀ e env A, fpost a_ref03_words.res Ko e env A → R e env A) → X Try.prog R a_ref03_words.body .done (env0 args) A) : SimX Try.prog F_ref03_words args A Ko :=
  X_intro g_ref03_words c_ref03_words (by rw [Try.ntmps99]; exact hn) h
theorem v_ref03_words {args : List AV} {v : AV} (hn : args.length ≤ 111) (h : X Try.prog (fin a_ref03_words.res v) a_ref03_words.body .done (env0 args) H0) : Gives Try.prog F_ref03_words args v :=
  Gives_intro g_ref03_words c_ref03_words (by rw [Try.ntmps99]; exact hn) h
theorem e_ref03_words {args : List AV} {Q : AOut → Prop} (hn : args.length ≤ 111) (h : X Try.prog (finE a_ref03_words.res Q) a_ref03_words.body .done (env0 args) H0) : Fins Try.prog F_ref03_words args Q :=
  Fins_intro g_ref03_words c_ref03_words (by rw [Try.ntmps99]; exact hn) h
theorem j_ref03_words {args : List AV} {A : Heap} {K Kp : AV → Heap → Prop} (hn : args.length ≤ 111) (h : X Try.prog (inl a_ref03_words.res K Kp) a_ref03_words.body .done (env0 args) A) : SimX Try.prog F_ref03_words args A (outK K Kp) :=
  X_inl g_ref03_words c_ref03_words (by rw [Try.ntmps99]; exact hn) h
theorem d_ref03_words {args : List AV} {A : Heap} {Ko : AOut → Heap → Prop} (hn : args.length ≤ 111)
    (h : ∀ R : APost, (∀ e env A, fpost a_ref03_words.res Ko e env A → R e env A) → X Try.prog R a_ref03_words.body .done (env0 args) A) : SimD Try.prog F_ref03_words args A Ko :=
  X_introD g_ref03_words c_ref03_words (by rw [Try.ntmps99]; exact hn) h
@[simp] theorem k_ref03_words : callable Try.prog F_ref03_words = true := by kernel_rfl
theorem c_ref03_right : trF Try.prog Try.f105 = some a_ref03_right := by kernel_rfl
theorem g_ref03_right : Try.prog.funcs[105]? = some Try.f105 := by kernel_rfl
theorem i_ref03_right {args : List AV} {A : Heap} {Ko : AOut → Heap → Prop} (hn : args.length ≤ 13)
    (h : ∀ R : APost, (∀ e env A, fpost a_ref03_right.res Ko e env A → R e env A) → X Try.prog R a_ref03_right.body .done (env0 args) A) : SimX Try.prog F_ref03_right args A Ko :=
  X_intro g_ref03_right c_ref03_right (by rw [Try.ntmps105]; exact hn) h
theorem v_ref03_right {args : List AV} {v : AV} (hn : args.length ≤ 13) (h : X Try.prog (fin a_ref03_right.res v) a_ref03_right.body .done (env0 args) H0) : Gives Try.prog F_ref03_right args v :=
  Gives_intro g_ref03_right c_ref03_right (by rw [Try.ntmps105]; exact hn) h
theorem e_ref03_right {args : List AV} {Q : AOut → Prop} (hn : args.length ≤ 13) (h : X Try.prog (finE a_ref03_right.res Q) a_ref03_right.body .done (env0 args) H0) : Fins Try.prog F_ref03_right args Q :=
  Fins_intro g_ref03_right c_ref03_right (by rw [Try.ntmps105]; exact hn) h
theorem j_ref03_right {args : List AV} {A : Heap} {K Kp : AV → Heap → Prop} (hn : args.length ≤ 13) (h : X Try.prog (inl a_ref03_right.res K Kp) a_ref03_right.body .done (env0 args) A) : SimX Try.prog F_ref03_right args A (outK K Kp) :=
  X_inl g_ref03_right c_ref03_right (by rw [Try.ntmps105]; exact hn) h
theorem d_ref03_right {args : List AV} {A : Heap} {Ko : AOut → Heap → Prop} (hn : args.length ≤ 13)
    (h : ∀ R : APost, (∀ e env A, fpost a_ref03_right.res Ko e env A → R e env A) → X Try.prog R a_ref03_right.body .done (env0 args) A) : SimD Try.prog F_ref03_right args A Ko :=
  X_introD g_ref03_right c_ref03_right (by rw [Try.ntmps105]; exact hn) h
@[simp] theorem k_ref03_right : callable Try.prog F_ref03_right = true := by kernel_rfl
theorem c_law03_DigestSums : trF Try.prog Try.f12 = some a_law03_DigestSums := by kernel_rfl
theorem g_law03_DigestSums : Try.prog.funcs[12]? = some Try.f12 := by kernel_rfl
theorem i_law03_DigestSums {args : List AV} {A : Heap} {Ko : AOut → Heap → Prop} (hn : args.length ≤ 35)
    (h : ∀ R : APost, (∀ e env A, fpost a_law03_DigestSums.res Ko e env A → R e env A) → X Try.prog R a_law03_DigestSums.body .done (env0 args) A) : SimX Try.prog F_law03_DigestSums args A Ko :=
  X_intro g_law03_DigestSums c_law03_DigestSums (by rw [Try.ntmps12]; exact hn) h
theorem v_law03_DigestSums {args : List AV} {v : AV} (hn : args.length ≤ 35) (h : X Try.prog (fin a_law03_DigestSums.res v) a_law03_DigestSums.body .done (env0 args) H0) : Gives Try.prog F_law03_DigestSums args v :=
  Gives_intro g_law03_DigestSums c_law03_DigestSums (by rw [Try.ntmps12]; exact hn) h
theorem e_law03_DigestSums {args : List AV} {Q : AOut → Prop} (hn : args.length ≤ 35) (h : X Try.prog (finE a_law03_DigestSums.res Q) a_law03_DigestSums.body .done (env0 args) H0) : Fins Try.prog F_law03_DigestSums args Q :=
  Fins_intro g_law03_DigestSums c_law03_DigestSums (by rw [Try.ntmps12]; exact hn) h
theorem j_law03_DigestSums {args : List AV} {A : Heap} {K Kp : AV → Heap → Prop} (hn : args.length ≤ 35) (h : X Try.prog (inl a_law03_DigestSums.res K Kp) a_law03_DigestSums.body .done (env0 args) A) : SimX Try.prog F_law03_DigestSums args A (outK K Kp) :=
  X_inl g_law03_DigestSums c_law03_DigestSums (by rw [Try.ntmps12]; exact hn) h
theorem d_law03_DigestSums {args : List AV} {A : Heap} {Ko : AOut → Heap → Prop} (hn : args.length ≤ 35)
    (h : ∀ R : APost, (∀ e env A, fpost a_law03_DigestSums.res Ko e env A → R e env A) → X Try.prog R a_law03_DigestSums.body .done (env0 args) A) : SimD Try.prog F_law03_DigestSums args A Ko :=
  X_introD g_law03_DigestSums c_law03_DigestSums (by rw [Try.ntmps12]; exact hn) h
@[simp] theorem k_law03_DigestSums : callable Try.prog F_law03_DigestSums = true := by kernel_rfl
theorem c_law03_DigestGrows : trF Try.prog Try.f13 = some a_law03_DigestGrows := by kernel_rfl
theorem g_law03_DigestGrows : Try.prog.funcs[13]? = some Try.f13 := by kernel_rfl
theorem i_law03_DigestGrows {args : List AV} {A : Heap} {Ko : AOut → Heap → Prop} (hn : args.length ≤ 54)
    (h : ∀ R : APost, (∀ e env A, fpost a_law03_DigestGrows.res Ko e env A → R e env A) → X Try.prog R a_law03_DigestGrows.body .done (env0 args) A) : SimX Try.prog F_law03_DigestGrows args A Ko :=
  X_intro g_law03_DigestGrows c_law03_DigestGrows (by rw [Try.ntmps13]; exact hn) h
theorem v_law03_DigestGrows {args : List AV} {v : AV} (hn : args.length ≤ 54) (h : X Try.prog (fin a_law03_DigestGrows.res v) a_law03_DigestGrows.body .done (env0 args) H0) : Gives Try.prog F_law03_DigestGrows args v :=
  Gives_intro g_law03_DigestGrows c_law03_DigestGrows (by rw [Try.ntmps13]; exact hn) h
theorem e_law03_DigestGrows {args : List AV} {Q : AOut → Prop} (hn : args.length ≤ 54) (h : X Try.prog (finE a_law03_DigestGrows.res Q) a_law03_DigestGrows.body .done (env0 args) H0) : Fins Try.prog F_law03_DigestGrows args Q :=
  Fins_intro g_law03_DigestGrows c_law03_DigestGrows (by rw [Try.ntmps13]; exact hn) h
theorem j_law03_DigestGrows {args : List AV} {A : Heap} {K Kp : AV → Heap → Prop} (hn : args.length ≤ 54) (h : X Try.prog (inl a_law03_DigestGrows.res K Kp) a_law03_DigestGrows.body .done (env0 args) A) : SimX Try.prog F_law03_DigestGrows args A (outK K Kp) :=
  X_inl g_law03_DigestGrows c_law03_DigestGrows (by rw [Try.ntmps13]; exact hn) h
theorem d_law03_DigestGrows {args : List AV} {A : Heap} {Ko : AOut → Heap → Prop} (hn : args.length ≤ 54)
    (h : ∀ R : APost, (∀ e env A, fpost a_law03_DigestGrows.res Ko e env A → R e env A) → X Try.prog R a_law03_DigestGrows.body .done (env0 args) A) : SimD Try.prog F_law03_DigestGrows args A Ko :=
  X_introD g_law03_DigestGrows c_law03_DigestGrows (by rw [Try.ntmps13]; exact hn) h
@[simp] theorem k_law03_DigestGrows : callable Try.prog F_law03_DigestGrows = true := by kernel_rfl
theorem c_law03_DigestPlaces : trF Try.prog Try.f14 = some a_law03_DigestPlaces := by kernel_rfl
theorem g_law03_DigestPlaces : Try.prog.funcs[14]? = some Try.f14 := by kernel_rfl
theorem i_law03_DigestPlaces {args : List AV} {A : Heap} {Ko : AOut → Heap → Prop} (hn : args.length ≤ 84)
    (h : ∀ R : APost, (∀ e env A, fpost a_law03_DigestPlaces.res Ko e env A → R e env A) → X Try.prog R a_law03_DigestPlaces.body .done (env0 args) A) : SimX Try.prog F_law03_DigestPlaces args A Ko :=
  X_intro g_law03_DigestPlaces c_law03_DigestPlaces (by rw [Try.ntmps14]; exact hn) h
theorem v_law03_DigestPlaces {args : List AV} {v : AV} (hn : args.length ≤ 84) (h : X Try.prog (fin a_law03_DigestPlaces.res v) a_law03_DigestPlaces.body .done (env0 args) H0) : Gives Try.prog F_law03_DigestPlaces args v :=
  Gives_intro g_law03_DigestPlaces c_law03_DigestPlaces (by rw [Try.ntmps14]; exact hn) h
theorem e_law03_DigestPlaces {args : List AV} {Q : AOut → Prop} (hn : args.length ≤ 84) (h : X Try.prog (finE a_law03_DigestPlaces.res Q) a_law03_DigestPlaces.body .done (env0 args) H0) : Fins Try.prog F_law03_DigestPlaces args Q :=
  Fins_intro g_law03_DigestPlaces c_law03_DigestPlaces (by rw [Try.ntmps14]; exact hn) h
theorem j_law03_DigestPlaces {args : List AV} {A : Heap} {K Kp : AV → Heap → Prop} (hn : args.length ≤ 84) (h : X Try.prog (inl a_law03_DigestPlaces.res K Kp) a_law03_DigestPlaces.body .done (env0 args) A) : SimX Try.prog F_law03_DigestPlaces args A (outK K Kp) :=
  X_inl g_law03_DigestPlaces c_law03_DigestPlaces (by rw [Try.ntmps14]; exact hn) h
theorem d_law03_DigestPlaces {args : List AV} {A : Heap} {Ko : AOut → Heap → Prop} (hn : args.length ≤ 84)
    (h : ∀ R : APost, (∀ e env A, fpost a_law03_DigestPlaces.res Ko e env A → R e env A) → X Try.prog R a_law03_DigestPlaces.body .done (env0 args) A) : SimD Try.prog F_law03_DigestPlaces args A Ko :=
  X_introD g_law03_DigestPlaces c_law03_DigestPlaces (by rw [Try.ntmps14]; exact hn) h
@[simp] theorem k_law03_DigestPlaces : callable Try.prog F_law03_DigestPlaces = true := by kernel_rfl
theorem c_law03_works : trF Try.prog Try.f55 = some a_law03_works := by kernel_rfl
theorem g_law03_works : Try.prog.funcs[55]? = some Try.f55 := by kernel_rfl
theorem i_law03_works {args : List AV} {A : Heap} {Ko : AOut → Heap → Prop} (hn : args.length ≤ 68)
    (h : ∀ R : APost, (∀ e env A, fpost a_law03_works.res Ko e env A → R e env A) → X Try.prog R a_law03_works.body .done (env0 args) A) : SimX Try.prog F_law03_works args A Ko :=
  X_intro g_law03_works c_law03_works (by rw [Try.ntmps55]; exact hn) h
theorem v_law03_works {args : List AV} {v : AV} (hn : args.length ≤ 68) (h : X Try.prog (fin a_law03_works.res v) a_law03_works.body .done (env0 args) H0) : Gives Try.prog F_law03_works args v :=
  Gives_intro g_law03_works c_law03_works (by rw [Try.ntmps55]; exact hn) h
theorem e_law03_works {args : List AV} {Q : AOut → Prop} (hn : args.length ≤ 68) (h : X Try.prog (finE a_law03_works.res Q) a_law03_works.body .done (env0 args) H0) : Fins Try.prog F_law03_works args Q :=
  Fins_intro g_law03_works c_law03_works (by rw [Try.ntmps55]; exact hn) h
theorem j_law03_works {args : List AV} {A : Heap} {K Kp : AV → Heap → Prop} (hn : args.length ≤ 68) (h : X Try.prog (inl a_law03_works.res K Kp) a_law03_works.body .done (env0 args) A) : SimX Try.prog F_law03_works args A (outK K Kp) :=
  X_inl g_law03_works c_law03_works (by rw [Try.ntmps55]; exact hn) h
theorem d_law03_works {args : List AV} {A : Heap} {Ko : AOut → Heap → Prop} (hn : args.length ≤ 68)
    (h : ∀ R : APost, (∀ e env A, fpost a_law03_works.res Ko e env A → R e env A) → X Try.prog R a_law03_works.body .done (env0 args) A) : SimD Try.prog F_law03_works args A Ko :=
  X_introD g_law03_works c_law03_works (by rw [Try.ntmps55]; exact hn) h
@[simp] theorem k_law03_works : callable Try.prog F_law03_works = true := by kernel_rfl
end Go.Proofs.Ytjbiekcldkjgjaa
