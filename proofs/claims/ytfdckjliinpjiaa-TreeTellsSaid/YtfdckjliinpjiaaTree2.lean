/- Texts of this claim, in order: Gtree Gword Wb Yc Yd Ye Yf Yg Yh Yi Yj Yk Yl. -/
import Derived.Test.YtfdckjliinpjiaaTree1
import Derived.Test.YtfdckjliinpjiaaL4
/- Abstract programs; that they are the program's. -/
namespace Go.Proofs.Ytfdckjliinpjiaa
open Go AVL
set_option linter.unusedVariables false
set_option maxRecDepth 20000

def q_tree_Root_0 : List AOper := [
  ⟨(some 2), (.alloc 23 [(.iarr .u8 32 (List.replicate 32 0))]), none⟩,
  ⟨(some 3), (.mv (.v (.int .i64 0))), none⟩]
def q_tree_Root_1 : List AOper := [
  ⟨(some 6), (.mv (.t 0)), none⟩,
  ⟨(some 7), (.call F_tree_Check [(.sc, (.t 6))]), none⟩,
  ⟨(some 4), (.mv (.t 7)), none⟩]
def q_tree_Root_2 : List AOper := [
  ⟨(some 8), (.mv (.t 4)), none⟩,
  ⟨(some 9), (.eq .scI true (.t 8) (.v (.int .i64 0))), none⟩]
def q_tree_Root_3 : List AOper := [
  ⟨(some 10), (.build (.ia .u8 32) [(.iarr .u8 32 (List.replicate 32 0))] []), none⟩,
  ⟨(some 11), (.mv (.t 4)), none⟩,
  ⟨none, (.store (.ia .u8 32) 32 (.t 2) (.t 10)), none⟩,
  ⟨(some 3), (.mv (.t 11)), none⟩]
def q_tree_Root_4 : List AOper := [
  ⟨(some 12), (.mv (.t 0)), none⟩,
  ⟨(some 13), (.call F_tree_leaves [(.sc, (.t 12))]), none⟩,
  ⟨(some 5), (.mv (.t 13)), none⟩]
def q_tree_Root_5 : List AOper := [
  ⟨(some 14), (.mv (.t 5)), none⟩,
  ⟨(some 15), (.len false (.t 14)), none⟩,
  ⟨(some 16), (.bin .gtr (.t 15) (.v (.int .i64 1))), none⟩]
def q_tree_Root_6 : List AOper := [
  ⟨(some 17), (.mv (.t 5)), none⟩,
  ⟨(some 18), (.call F_tree_up [(.sc, (.t 17))]), none⟩,
  ⟨(some 5), (.mv (.t 18)), none⟩]
def q_tree_Root_L7 : ACode := (.seq (.seq (.region q_tree_Root_5) (.cond (.t 16) .skip (.exit 0))) (.block 1 (.region q_tree_Root_6)))
def q_tree_Root_7 : List AOper := [
  ⟨(some 19), (.mv (.t 0)), none⟩,
  ⟨(some 20), (.len false (.t 19)), none⟩,
  ⟨(some 21), (.mv (.t 5)), none⟩,
  ⟨(some 22), (.idx 32 (.t 21) (.v (.int .i64 0))), none⟩,
  ⟨(some 23), (.load (.ia .u8 32) 32 (.t 22)), none⟩,
  ⟨(some 24), (.call F_tree_crown [(.sc, (.t 20)), ((.ia .u8 32), (.t 23))]), none⟩,
  ⟨none, (.store (.ia .u8 32) 32 (.t 2) (.t 24)), none⟩,
  ⟨(some 3), (.mv (.v (.int .i64 0))), none⟩]
def a_tree_Root : AFunc := ⟨[(.cell 2 (.ia .u8 32) 32), (.tmp 3)], (.seq (.region q_tree_Root_0) (.seq (.seq (.region q_tree_Root_1) (.seq (.region q_tree_Root_2) (.cond (.t 9) (.seq (.region q_tree_Root_3) .ret) .skip))) (.seq (.region q_tree_Root_4) (.seq (.block 0 (.loop q_tree_Root_L7)) (.seq (.region q_tree_Root_7) .ret)))))⟩

def q_tree_Check_0 : List AOper := [
  ⟨(some 2), (.mv (.v (.int .i64 0))), none⟩]
def q_tree_Check_1 : List AOper := [
  ⟨(some 4), (.mv (.t 0)), none⟩,
  ⟨(some 5), (.len false (.t 4)), none⟩,
  ⟨(some 6), (.eq .scI false (.t 5) (.v (.int .i64 0))), none⟩,
  ⟨(some 3), (.mv (.t 6)), none⟩]
def q_tree_Check_2 : List AOper := [
  ⟨(some 2), (.mv (.v (.int .i64 1))), none⟩]
def q_tree_Check_3 : List AOper := [
  ⟨(some 8), (.mv (.t 0)), none⟩,
  ⟨(some 9), (.len false (.t 8)), none⟩,
  ⟨(some 10), (.bin .gtr (.t 9) (.v (.int .i64 1024))), none⟩,
  ⟨(some 7), (.mv (.t 10)), none⟩]
def q_tree_Check_4 : List AOper := [
  ⟨(some 2), (.mv (.v (.int .i64 7))), none⟩]
def q_tree_Check_5 : List AOper := [
  ⟨(some 2), (.mv (.v (.int .i64 0))), none⟩]
def a_tree_Check : AFunc := ⟨[(.tmp 2)], (.seq (.region q_tree_Check_0) (.seq (.block 0 (.seq (.region q_tree_Check_1) (.cond (.t 3) (.seq (.region q_tree_Check_2) .ret) (.seq (.region q_tree_Check_3) (.cond (.t 7) (.seq (.region q_tree_Check_4) .ret) .skip))))) (.seq (.region q_tree_Check_5) .ret)))⟩

def q_tree_Prove_0 : List AOper := [
  ⟨(some 4), (.alloc 82 [(.int .i64 0), (.int .i64 0), .nilS]), none⟩,
  ⟨(some 5), (.mv (.v (.int .i64 0))), none⟩]
def q_tree_Prove_1 : List AOper := [
  ⟨(some 10), (.mv (.t 0)), none⟩,
  ⟨(some 11), (.call F_tree_Check [(.sc, (.t 10))]), none⟩,
  ⟨(some 6), (.mv (.t 11)), none⟩]
def q_tree_Prove_2 : List AOper := [
  ⟨(some 12), (.mv (.t 6)), none⟩,
  ⟨(some 13), (.eq .scI true (.t 12) (.v (.int .i64 0))), none⟩]
def q_tree_Prove_3 : List AOper := [
  ⟨(some 14), (.build .ag [(.int .i64 0), (.int .i64 0), .nilS] []), none⟩,
  ⟨(some 15), (.mv (.t 6)), none⟩,
  ⟨none, (.store .ag 3 (.t 4) (.t 14)), none⟩,
  ⟨(some 5), (.mv (.t 15)), none⟩]
def q_tree_Prove_4 : List AOper := [
  ⟨(some 16), (.mv (.t 1)), none⟩,
  ⟨(some 17), (.bin .lss (.t 16) (.v (.int .i64 0))), none⟩,
  ⟨(some 18), (.mv (.t 17)), none⟩,
  ⟨(some 19), (.mv (.t 1)), (some (18, false))⟩,
  ⟨(some 20), (.mv (.t 0)), (some (18, false))⟩,
  ⟨(some 21), (.len false (.t 20)), (some (18, false))⟩,
  ⟨(some 22), (.bin .geq (.t 19) (.t 21)), (some (18, false))⟩,
  ⟨(some 23), (.pick (.t 18) (.v (.bool true)) (.t 22)), none⟩]
def q_tree_Prove_5 : List AOper := [
  ⟨(some 24), (.build .ag [(.int .i64 0), (.int .i64 0), .nilS] []), none⟩,
  ⟨none, (.store .ag 3 (.t 4) (.t 24)), none⟩,
  ⟨(some 5), (.mv (.v (.int .i64 2))), none⟩]
def q_tree_Prove_6 : List AOper := [
  ⟨(some 25), (.mv (.t 1)), none⟩,
  ⟨(some 26), (.mv (.t 0)), none⟩,
  ⟨(some 27), (.len false (.t 26)), none⟩,
  ⟨(some 28), (.build .ag [(.int .i64 0), (.int .i64 0), .nilS] [(0, (1, (.t 25))), (1, (1, (.t 27)))]), none⟩,
  ⟨(some 7), (.alloc 82 [(.int .i64 0), (.int .i64 0), .nilS]), none⟩,
  ⟨none, (.store .ag 3 (.t 7) (.t 28)), none⟩]
def q_tree_Prove_7 : List AOper := [
  ⟨(some 29), (.mv (.t 0)), none⟩,
  ⟨(some 30), (.call F_tree_leaves [(.sc, (.t 29))]), none⟩,
  ⟨(some 8), (.mv (.t 30)), none⟩]
def q_tree_Prove_8 : List AOper := [
  ⟨(some 31), (.mv (.t 8)), none⟩,
  ⟨(some 32), (.len false (.t 31)), none⟩,
  ⟨(some 33), (.bin .gtr (.t 32) (.v (.int .i64 1))), none⟩]
def q_tree_Prove_9 : List AOper := [
  ⟨(some 36), (.mv (.t 1)), none⟩,
  ⟨(some 37), (.bin .xor (.t 36) (.v (.int .i64 1))), none⟩,
  ⟨(some 9), (.mv (.t 37)), none⟩]
def q_tree_Prove_10 : List AOper := [
  ⟨(some 38), (.mv (.t 9)), none⟩,
  ⟨(some 39), (.mv (.t 8)), none⟩,
  ⟨(some 40), (.len false (.t 39)), none⟩,
  ⟨(some 41), (.bin .lss (.t 38) (.t 40)), none⟩]
def q_tree_Prove_11 : List DOp := [
  ⟨⟨(some 42), (.fadr 2 1 .sc (.t 7)), none⟩, true, false, none, []⟩,
  ⟨⟨(some 43), (.load .sc 1 (.t 42)), none⟩, true, false, none, []⟩,
  ⟨⟨(some 44), (.mv (.t 8)), none⟩, true, false, none, []⟩,
  ⟨⟨(some 45), (.mv (.t 9)), none⟩, true, false, none, []⟩,
  ⟨⟨(some 46), (.idx 32 (.t 44) (.t 45)), none⟩, true, false, none, []⟩,
  ⟨⟨(some 47), (.load (.ia .u8 32) 32 (.t 46)), none⟩, true, false, none, []⟩,
  ⟨⟨(some 48), (.bsl 23 (.ia .u8 32) 32 [(.t 47)]), none⟩, false, false, none, []⟩,
  ⟨⟨(some 49), (.app 23 32 32 (.t 43) (.t 48)), none⟩, false, false, none, []⟩,
  ⟨⟨(some 50), (.fadr 2 1 .sc (.t 7)), none⟩, true, false, none, []⟩,
  ⟨⟨none, (.store .sc 1 (.t 50) (.t 49)), none⟩, false, false, none, []⟩]
def q_tree_Prove_12 : List AOper := [
  ⟨(some 51), (.mv (.t 1)), none⟩,
  ⟨(some 52), (.bin .quo (.t 51) (.v (.int .i64 2))), none⟩,
  ⟨(some 1), (.mv (.t 52)), none⟩]
def q_tree_Prove_13 : List AOper := [
  ⟨(some 34), (.mv (.t 8)), none⟩,
  ⟨(some 35), (.call F_tree_up [(.sc, (.t 34))]), none⟩,
  ⟨(some 8), (.mv (.t 35)), none⟩]
def q_tree_Prove_L14 : ACode := (.seq (.seq (.region q_tree_Prove_8) (.cond (.t 33) .skip (.exit 0))) (.seq (.block 1 (.seq (.seq (.region q_tree_Prove_9) (.seq (.region q_tree_Prove_10) (.cond (.t 41) (.regionD q_tree_Prove_11) .skip))) (.region q_tree_Prove_12))) (.region q_tree_Prove_13)))
def q_tree_Prove_14 : List AOper := [
  ⟨(some 53), (.load .ag 3 (.t 7)), none⟩,
  ⟨none, (.store .ag 3 (.t 4) (.t 53)), none⟩,
  ⟨(some 5), (.mv (.v (.int .i64 0))), none⟩]
def a_tree_Prove : AFunc := ⟨[(.cell 4 .ag 3), (.tmp 5)], (.seq (.region q_tree_Prove_0) (.seq (.seq (.region q_tree_Prove_1) (.seq (.region q_tree_Prove_2) (.cond (.t 13) (.seq (.region q_tree_Prove_3) .ret) .skip))) (.seq (.seq (.region q_tree_Prove_4) (.cond (.t 23) (.seq (.region q_tree_Prove_5) .ret) .skip)) (.seq (.region q_tree_Prove_6) (.seq (.seq (.region q_tree_Prove_7) (.block 0 (.loop q_tree_Prove_L14))) (.seq (.region q_tree_Prove_14) .ret))))))⟩

def q_tree_Leaf_0 : List AOper := [
  ⟨(some 4), (.alloc 23 [(.iarr .u8 32 (List.replicate 32 0))]), none⟩]
def q_tree_Leaf_1 : List AOper := [
  ⟨(some 5), (.bslI 5 .u8 [(.v (.int .u8 108)), (.v (.int .u8 101)), (.v (.int .u8 97)), (.v (.int .u8 102))]), none⟩,
  ⟨(some 6), (.xx .sealB [(.t 5)]), none⟩,
  ⟨(some 7), (.mv (.t 0)), none⟩,
  ⟨(some 8), (.conv .u64 (.t 7)), none⟩,
  ⟨(some 9), (.call F_word_Put [(.sc, (.t 8)), (.sc, (.v (.int .i64 4)))]), none⟩,
  ⟨(some 10), (.mv (.t 1)), none⟩,
  ⟨(some 11), (.bsl 22 .sc 1 [(.t 6), (.t 9), (.t 10)]), none⟩,
  ⟨(some 12), (.call F_digest_Of [(.sc, (.t 11))]), none⟩,
  ⟨none, (.store (.ia .u8 32) 32 (.t 4) (.t 12)), none⟩]
def a_tree_Leaf : AFunc := ⟨[(.cell 4 (.ia .u8 32) 32)], (.seq (.region q_tree_Leaf_0) (.seq (.region q_tree_Leaf_1) .ret))⟩

def q_tree_Depth_0 : List AOper := [
  ⟨(some 2), (.mv (.v (.int .i64 0))), none⟩]
def q_tree_Depth_1 : List AOper := [
  ⟨(some 3), (.mv (.v (.int .i64 0))), none⟩]
def q_tree_Depth_2 : List AOper := [
  ⟨(some 4), (.mv (.v (.int .i64 0))), none⟩]
def q_tree_Depth_3 : List AOper := [
  ⟨(some 5), (.bin .lss (.t 4) (.v (.int .i64 64))), none⟩]
def q_tree_Depth_4 : List AOper := [
  ⟨(some 6), (.mv (.t 0)), none⟩,
  ⟨(some 7), (.bin .leq (.t 6) (.v (.int .i64 1))), none⟩]
def q_tree_Depth_5 : List AOper := [
  ⟨(some 8), (.mv (.t 0)), none⟩,
  ⟨(some 9), (.bin .sub (.t 8) (.v (.int .i64 1))), none⟩,
  ⟨(some 10), (.bin .quo (.t 9) (.v (.int .i64 2))), none⟩,
  ⟨(some 11), (.bin .add (.t 10) (.v (.int .i64 1))), none⟩,
  ⟨(some 12), (.mv (.t 3)), none⟩,
  ⟨(some 13), (.bin .add (.t 12) (.v (.int .i64 1))), none⟩,
  ⟨(some 0), (.mv (.t 11)), none⟩,
  ⟨(some 3), (.mv (.t 13)), none⟩]
def q_tree_Depth_6 : List AOper := [
  ⟨(some 14), (.bin .add (.t 4) (.v (.int .i64 1))), none⟩,
  ⟨(some 4), (.mv (.t 14)), none⟩]
def q_tree_Depth_L7 : ACode := (.seq (.region q_tree_Depth_3) (.seq (.cond (.t 5) .skip (.exit 0)) (.seq (.block 1 (.seq (.seq (.region q_tree_Depth_4) (.cond (.t 7) (.exit 0) .skip)) (.region q_tree_Depth_5))) (.region q_tree_Depth_6))))
def q_tree_Depth_7 : List AOper := [
  ⟨(some 15), (.mv (.t 3)), none⟩,
  ⟨(some 2), (.mv (.t 15)), none⟩]
def a_tree_Depth : AFunc := ⟨[(.tmp 2)], (.seq (.region q_tree_Depth_0) (.seq (.region q_tree_Depth_1) (.seq (.seq (.region q_tree_Depth_2) (.block 0 (.loop q_tree_Depth_L7))) (.seq (.region q_tree_Depth_7) .ret))))⟩

def q_tree_All_0 : List AOper := [
  ⟨(some 2), (.mv (.v .nilS)), none⟩,
  ⟨(some 3), (.mv (.v (.int .i64 0))), none⟩]
def q_tree_All_1 : List AOper := [
  ⟨(some 4), (.mv (.v .nilS)), none⟩]
def q_tree_All_2 : List AOper := [
  ⟨(some 8), (.mv (.t 0)), none⟩,
  ⟨(some 9), (.len false (.t 8)), none⟩,
  ⟨(some 10), (.mv (.v (.int .i64 0))), none⟩]
def q_tree_All_3 : List AOper := [
  ⟨(some 11), (.bin .lss (.t 10) (.t 9)), none⟩]
def q_tree_All_4 : List AOper := [
  ⟨(some 12), (.mv (.t 10)), none⟩,
  ⟨(some 5), (.mv (.t 12)), none⟩]
def q_tree_All_5 : List AOper := [
  ⟨(some 14), (.mv (.t 0)), none⟩,
  ⟨(some 15), (.mv (.t 5)), none⟩,
  ⟨(some 16), (.call F_tree_Prove [(.sc, (.t 14)), (.sc, (.t 15))]), none⟩,
  ⟨(some 13), (.mv (.t 16)), none⟩,
  ⟨(some 17), (.ext 0 (.t 13)), none⟩,
  ⟨(some 18), (.ext 1 (.t 13)), none⟩,
  ⟨(some 6), (.alloc 82 [(.int .i64 0), (.int .i64 0), .nilS]), none⟩,
  ⟨none, (.store .ag 3 (.t 6) (.t 17)), none⟩,
  ⟨(some 7), (.mv (.t 18)), none⟩]
def q_tree_All_6 : List AOper := [
  ⟨(some 19), (.mv (.t 7)), none⟩,
  ⟨(some 20), (.eq .scI true (.t 19) (.v (.int .i64 0))), none⟩]
def q_tree_All_7 : List AOper := [
  ⟨(some 21), (.mv (.t 7)), none⟩,
  ⟨(some 2), (.mv (.v .nilS)), none⟩,
  ⟨(some 3), (.mv (.t 21)), none⟩]
def q_tree_All_8 : List AOper := [
  ⟨(some 22), (.mv (.t 4)), none⟩,
  ⟨(some 23), (.load .ag 3 (.t 6)), none⟩,
  ⟨(some 24), (.bsl 82 .ag 3 [(.t 23)]), none⟩,
  ⟨(some 25), (.app 82 3 40 (.t 22) (.t 24)), none⟩,
  ⟨(some 4), (.mv (.t 25)), none⟩]
def q_tree_All_9 : List AOper := [
  ⟨(some 26), (.bin .add (.t 10) (.v (.int .i64 1))), none⟩,
  ⟨(some 10), (.mv (.t 26)), none⟩]
def q_tree_All_L10 : ACode := (.seq (.region q_tree_All_3) (.seq (.cond (.t 11) .skip (.exit 0)) (.seq (.block 1 (.seq (.region q_tree_All_4) (.seq (.region q_tree_All_5) (.seq (.seq (.region q_tree_All_6) (.cond (.t 20) (.seq (.region q_tree_All_7) .ret) .skip)) (.region q_tree_All_8))))) (.region q_tree_All_9))))
def q_tree_All_10 : List AOper := [
  ⟨(some 27), (.mv (.t 4)), none⟩,
  ⟨(some 28), (.mv (.t 0)), none⟩,
  ⟨(some 29), (.call F_tree_Check [(.sc, (.t 28))]), none⟩,
  ⟨(some 2), (.mv (.t 27)), none⟩,
  ⟨(some 3), (.mv (.t 29)), none⟩]
def a_tree_All : AFunc := ⟨[(.tmp 2), (.tmp 3)], (.seq (.region q_tree_All_0) (.seq (.region q_tree_All_1) (.seq (.seq (.region q_tree_All_2) (.block 0 (.loop q_tree_All_L10))) (.seq (.region q_tree_All_10) .ret))))⟩

def q_tree_Climb_0 : List AOper := [
  ⟨(some 2), (.box 82 .ag (.t 0)), none⟩,
  ⟨(some 4), (.alloc 23 [(.iarr .u8 32 (List.replicate 32 0))]), none⟩,
  ⟨(some 5), (.mv (.v (.bool false))), none⟩]
def q_tree_Climb_1 : List AOper := [
  ⟨(some 10), (.fadr 1 1 .sc (.t 2)), none⟩,
  ⟨(some 11), (.load .sc 1 (.t 10)), none⟩,
  ⟨(some 12), (.bin .lss (.t 11) (.v (.int .i64 1))), none⟩,
  ⟨(some 13), (.mv (.t 12)), none⟩,
  ⟨(some 14), (.fadr 1 1 .sc (.t 2)), (some (13, false))⟩,
  ⟨(some 15), (.load .sc 1 (.t 14)), (some (13, false))⟩,
  ⟨(some 16), (.bin .gtr (.t 15) (.v (.int .i64 1024))), (some (13, false))⟩,
  ⟨(some 17), (.pick (.t 13) (.v (.bool true)) (.t 16)), none⟩,
  ⟨(some 18), (.mv (.t 17)), none⟩,
  ⟨(some 19), (.fadr 0 1 .sc (.t 2)), (some (18, false))⟩,
  ⟨(some 20), (.load .sc 1 (.t 19)), (some (18, false))⟩,
  ⟨(some 21), (.bin .lss (.t 20) (.v (.int .i64 0))), (some (18, false))⟩,
  ⟨(some 22), (.pick (.t 18) (.v (.bool true)) (.t 21)), none⟩,
  ⟨(some 23), (.mv (.t 22)), none⟩,
  ⟨(some 24), (.fadr 0 1 .sc (.t 2)), (some (23, false))⟩,
  ⟨(some 25), (.load .sc 1 (.t 24)), (some (23, false))⟩,
  ⟨(some 26), (.fadr 1 1 .sc (.t 2)), (some (23, false))⟩,
  ⟨(some 27), (.load .sc 1 (.t 26)), (some (23, false))⟩,
  ⟨(some 28), (.bin .geq (.t 25) (.t 27)), (some (23, false))⟩,
  ⟨(some 29), (.pick (.t 23) (.v (.bool true)) (.t 28)), none⟩]
def q_tree_Climb_2 : List AOper := [
  ⟨(some 30), (.build (.ia .u8 32) [(.iarr .u8 32 (List.replicate 32 0))] []), none⟩,
  ⟨none, (.store (.ia .u8 32) 32 (.t 4) (.t 30)), none⟩,
  ⟨(some 5), (.mv (.v (.bool false))), none⟩]
def q_tree_Climb_3 : List DOp := [
  ⟨⟨(some 31), (.fadr 0 1 .sc (.t 2)), none⟩, true, false, none, []⟩,
  ⟨⟨(some 32), (.load .sc 1 (.t 31)), none⟩, true, false, none, []⟩,
  ⟨⟨(some 33), (.mv (.t 1)), none⟩, true, false, none, []⟩,
  ⟨⟨(some 35), (.fadr 0 1 .sc (.t 2)), none⟩, true, false, none, []⟩,
  ⟨⟨(some 36), (.load .sc 1 (.t 35)), none⟩, true, false, none, []⟩,
  ⟨⟨(some 37), (.fadr 1 1 .sc (.t 2)), none⟩, true, false, none, []⟩,
  ⟨⟨(some 38), (.load .sc 1 (.t 37)), none⟩, true, false, none, []⟩,
  ⟨⟨(some 39), (.fadr 2 1 .sc (.t 2)), none⟩, true, false, none, []⟩,
  ⟨⟨(some 40), (.load .sc 1 (.t 39)), none⟩, true, false, none, []⟩,
  ⟨⟨(some 34), (.call F_tree_Leaf [(.sc, (.t 32)), (.sc, (.t 33))]), none⟩, false, true, (some [39, 37, 35]), []⟩,
  ⟨⟨(some 6), (.alloc 23 [(.iarr .u8 32 (List.replicate 32 0))]), none⟩, false, false, none, []⟩,
  ⟨⟨none, (.store (.ia .u8 32) 32 (.t 6) (.t 34)), none⟩, false, true, (some [39, 37, 35]), []⟩,
  ⟨⟨(some 7), (.mv (.t 36)), none⟩, true, false, none, []⟩,
  ⟨⟨(some 8), (.mv (.t 38)), none⟩, true, false, none, []⟩,
  ⟨⟨(some 9), (.mv (.t 40)), none⟩, true, false, none, []⟩]
def q_tree_Climb_4 : List AOper := [
  ⟨(some 41), (.mv (.t 8)), none⟩,
  ⟨(some 42), (.bin .gtr (.t 41) (.v (.int .i64 1))), none⟩]
def q_tree_Climb_5 : List AOper := [
  ⟨(some 43), (.mv (.t 7)), none⟩,
  ⟨(some 44), (.bin .xor (.t 43) (.v (.int .i64 1))), none⟩,
  ⟨(some 45), (.mv (.t 8)), none⟩,
  ⟨(some 46), (.bin .lss (.t 44) (.t 45)), none⟩]
def q_tree_Climb_6 : List AOper := [
  ⟨(some 47), (.mv (.t 9)), none⟩,
  ⟨(some 48), (.len false (.t 47)), none⟩,
  ⟨(some 49), (.eq .scI false (.t 48) (.v (.int .i64 0))), none⟩]
def q_tree_Climb_7 : List AOper := [
  ⟨(some 50), (.build (.ia .u8 32) [(.iarr .u8 32 (List.replicate 32 0))] []), none⟩,
  ⟨none, (.store (.ia .u8 32) 32 (.t 4) (.t 50)), none⟩,
  ⟨(some 5), (.mv (.v (.bool false))), none⟩]
def q_tree_Climb_8 : List AOper := [
  ⟨(some 51), (.mv (.t 7)), none⟩,
  ⟨(some 52), (.bin .rem (.t 51) (.v (.int .i64 2))), none⟩,
  ⟨(some 53), (.eq .scI false (.t 52) (.v (.int .i64 0))), none⟩]
def q_tree_Climb_9 : List DOp := [
  ⟨⟨(some 54), (.load (.ia .u8 32) 32 (.t 6)), none⟩, true, false, none, []⟩,
  ⟨⟨(some 55), (.mv (.t 9)), none⟩, true, false, none, []⟩,
  ⟨⟨(some 56), (.idx 32 (.t 55) (.v (.int .i64 0))), none⟩, true, false, none, []⟩,
  ⟨⟨(some 57), (.load (.ia .u8 32) 32 (.t 56)), none⟩, true, false, none, []⟩,
  ⟨⟨(some 58), (.call F_tree_join [((.ia .u8 32), (.t 54)), ((.ia .u8 32), (.t 57))]), none⟩, false, false, none, []⟩,
  ⟨⟨none, (.store (.ia .u8 32) 32 (.t 6) (.t 58)), none⟩, false, false, none, []⟩]
def q_tree_Climb_10 : List DOp := [
  ⟨⟨(some 59), (.mv (.t 9)), none⟩, true, false, none, []⟩,
  ⟨⟨(some 60), (.idx 32 (.t 59) (.v (.int .i64 0))), none⟩, true, false, none, []⟩,
  ⟨⟨(some 61), (.load (.ia .u8 32) 32 (.t 60)), none⟩, true, false, none, []⟩,
  ⟨⟨(some 62), (.load (.ia .u8 32) 32 (.t 6)), none⟩, true, false, none, []⟩,
  ⟨⟨(some 63), (.call F_tree_join [((.ia .u8 32), (.t 61)), ((.ia .u8 32), (.t 62))]), none⟩, false, false, none, []⟩,
  ⟨⟨none, (.store (.ia .u8 32) 32 (.t 6) (.t 63)), none⟩, false, false, none, []⟩]
def q_tree_Climb_11 : List AOper := [
  ⟨(some 64), (.mv (.t 9)), none⟩,
  ⟨(some 65), (.slc 32 (.t 64) (some (.v (.int .i64 1))) none), none⟩,
  ⟨(some 9), (.mv (.t 65)), none⟩]
def q_tree_Climb_12 : List AOper := [
  ⟨(some 66), (.mv (.t 7)), none⟩,
  ⟨(some 67), (.bin .quo (.t 66) (.v (.int .i64 2))), none⟩,
  ⟨(some 68), (.mv (.t 8)), none⟩,
  ⟨(some 69), (.bin .add (.t 68) (.v (.int .i64 1))), none⟩,
  ⟨(some 70), (.bin .quo (.t 69) (.v (.int .i64 2))), none⟩,
  ⟨(some 7), (.mv (.t 67)), none⟩,
  ⟨(some 8), (.mv (.t 70)), none⟩]
def q_tree_Climb_L13 : ACode := (.seq (.seq (.region q_tree_Climb_4) (.cond (.t 42) .skip (.exit 0))) (.block 1 (.seq (.seq (.region q_tree_Climb_5) (.cond (.t 46) (.seq (.seq (.region q_tree_Climb_6) (.cond (.t 49) (.seq (.region q_tree_Climb_7) .ret) .skip)) (.seq (.seq (.region q_tree_Climb_8) (.cond (.t 53) (.regionD q_tree_Climb_9) (.regionD q_tree_Climb_10))) (.region q_tree_Climb_11))) .skip)) (.region q_tree_Climb_12))))
def q_tree_Climb_13 : List AOper := [
  ⟨(some 71), (.fadr 1 1 .sc (.t 2)), none⟩,
  ⟨(some 72), (.load .sc 1 (.t 71)), none⟩,
  ⟨(some 73), (.load (.ia .u8 32) 32 (.t 6)), none⟩,
  ⟨(some 74), (.call F_tree_crown [(.sc, (.t 72)), ((.ia .u8 32), (.t 73))]), none⟩,
  ⟨(some 75), (.mv (.t 9)), none⟩,
  ⟨(some 76), (.len false (.t 75)), none⟩,
  ⟨(some 77), (.eq .scI false (.t 76) (.v (.int .i64 0))), none⟩,
  ⟨none, (.store (.ia .u8 32) 32 (.t 4) (.t 74)), none⟩,
  ⟨(some 5), (.mv (.t 77)), none⟩]
def a_tree_Climb : AFunc := ⟨[(.cell 4 (.ia .u8 32) 32), (.tmp 5)], (.seq (.region q_tree_Climb_0) (.seq (.seq (.region q_tree_Climb_1) (.cond (.t 29) (.seq (.region q_tree_Climb_2) .ret) .skip)) (.seq (.regionD q_tree_Climb_3) (.seq (.block 0 (.loop q_tree_Climb_L13)) (.seq (.region q_tree_Climb_13) .ret)))))⟩

def q_tree_Verify_0 : List AOper := [
  ⟨(some 3), (.box 23 (.ia .u8 32) (.t 0)), none⟩,
  ⟨(some 4), (.box 82 .ag (.t 1)), none⟩,
  ⟨(some 6), (.mv (.v (.bool false))), none⟩]
def q_tree_Verify_1 : List AOper := [
  ⟨(some 10), (.load .ag 3 (.t 4)), none⟩,
  ⟨(some 11), (.mv (.t 2)), none⟩,
  ⟨(some 12), (.call F_tree_Climb [(.ag, (.t 10)), (.sc, (.t 11))]), none⟩,
  ⟨(some 9), (.mv (.t 12)), none⟩,
  ⟨(some 13), (.ext 0 (.t 9)), none⟩,
  ⟨(some 14), (.ext 1 (.t 9)), none⟩,
  ⟨(some 7), (.alloc 23 [(.iarr .u8 32 (List.replicate 32 0))]), none⟩,
  ⟨none, (.store (.ia .u8 32) 32 (.t 7) (.t 13)), none⟩,
  ⟨(some 8), (.mv (.t 14)), none⟩]
def q_tree_Verify_2 : List AOper := [
  ⟨(some 15), (.mv (.t 8)), none⟩,
  ⟨(some 16), (.mv (.t 15)), none⟩,
  ⟨(some 17), (.load (.ia .u8 32) 32 (.t 7)), (some (16, true))⟩,
  ⟨(some 18), (.load (.ia .u8 32) 32 (.t 3)), (some (16, true))⟩,
  ⟨(some 19), (.eq (.ia 32) false (.t 17) (.t 18)), (some (16, true))⟩,
  ⟨(some 20), (.pick (.t 16) (.t 19) (.v (.bool false))), none⟩,
  ⟨(some 6), (.mv (.t 20)), none⟩]
def a_tree_Verify : AFunc := ⟨[(.tmp 6)], (.seq (.region q_tree_Verify_0) (.seq (.region q_tree_Verify_1) (.seq (.region q_tree_Verify_2) .ret)))⟩

def q_tree_leaves_0 : List AOper := [
  ⟨(some 2), (.mv (.v .nilS)), none⟩]
def q_tree_leaves_1 : List AOper := [
  ⟨(some 3), (.mv (.v .nilS)), none⟩]
def q_tree_leaves_2 : List AOper := [
  ⟨(some 6), (.mv (.t 0)), none⟩,
  ⟨(some 7), (.len false (.t 6)), none⟩,
  ⟨(some 8), (.mv (.v (.int .i64 0))), none⟩]
def q_tree_leaves_3 : List AOper := [
  ⟨(some 9), (.bin .lss (.t 8) (.t 7)), none⟩]
def q_tree_leaves_4 : List AOper := [
  ⟨(some 10), (.mv (.t 8)), none⟩,
  ⟨(some 11), (.idx 1 (.t 6) (.t 8)), none⟩,
  ⟨(some 12), (.load .sc 1 (.t 11)), none⟩,
  ⟨(some 4), (.mv (.t 10)), none⟩,
  ⟨(some 5), (.mv (.t 12)), none⟩]
def q_tree_leaves_5 : List AOper := [
  ⟨(some 13), (.mv (.t 3)), none⟩,
  ⟨(some 14), (.mv (.t 4)), none⟩,
  ⟨(some 15), (.mv (.t 5)), none⟩,
  ⟨(some 16), (.call F_tree_Leaf [(.sc, (.t 14)), (.sc, (.t 15))]), none⟩,
  ⟨(some 17), (.bsl 23 (.ia .u8 32) 32 [(.t 16)]), none⟩,
  ⟨(some 18), (.app 23 32 32 (.t 13) (.t 17)), none⟩,
  ⟨(some 3), (.mv (.t 18)), none⟩]
def q_tree_leaves_6 : List AOper := [
  ⟨(some 19), (.bin .add (.t 8) (.v (.int .i64 1))), none⟩,
  ⟨(some 8), (.mv (.t 19)), none⟩]
def q_tree_leaves_L7 : ACode := (.seq (.region q_tree_leaves_3) (.seq (.cond (.t 9) .skip (.exit 0)) (.seq (.block 1 (.seq (.region q_tree_leaves_4) (.region q_tree_leaves_5))) (.region q_tree_leaves_6))))
def q_tree_leaves_7 : List AOper := [
  ⟨(some 20), (.mv (.t 3)), none⟩,
  ⟨(some 2), (.mv (.t 20)), none⟩]
def a_tree_leaves : AFunc := ⟨[(.tmp 2)], (.seq (.region q_tree_leaves_0) (.seq (.region q_tree_leaves_1) (.seq (.seq (.region q_tree_leaves_2) (.block 0 (.loop q_tree_leaves_L7))) (.seq (.region q_tree_leaves_7) .ret))))⟩

def q_tree_up_0 : List AOper := [
  ⟨(some 2), (.mv (.v .nilS)), none⟩]
def q_tree_up_1 : List AOper := [
  ⟨(some 3), (.mv (.v .nilS)), none⟩]
def q_tree_up_2 : List AOper := [
  ⟨(some 4), (.mv (.v (.int .i64 0))), none⟩]
def q_tree_up_3 : List AOper := [
  ⟨(some 5), (.mv (.t 4)), none⟩,
  ⟨(some 6), (.mv (.t 0)), none⟩,
  ⟨(some 7), (.len false (.t 6)), none⟩,
  ⟨(some 8), (.bin .lss (.t 5) (.t 7)), none⟩]
def q_tree_up_4 : List AOper := [
  ⟨(some 11), (.mv (.t 4)), none⟩,
  ⟨(some 12), (.bin .add (.t 11) (.v (.int .i64 1))), none⟩,
  ⟨(some 13), (.mv (.t 0)), none⟩,
  ⟨(some 14), (.len false (.t 13)), none⟩,
  ⟨(some 15), (.eq .scI false (.t 12) (.t 14)), none⟩]
def q_tree_up_5 : List AOper := [
  ⟨(some 16), (.mv (.t 3)), none⟩,
  ⟨(some 17), (.mv (.t 0)), none⟩,
  ⟨(some 18), (.mv (.t 4)), none⟩,
  ⟨(some 19), (.idx 32 (.t 17) (.t 18)), none⟩,
  ⟨(some 20), (.load (.ia .u8 32) 32 (.t 19)), none⟩,
  ⟨(some 21), (.bsl 23 (.ia .u8 32) 32 [(.t 20)]), none⟩,
  ⟨(some 22), (.app 23 32 32 (.t 16) (.t 21)), none⟩,
  ⟨(some 3), (.mv (.t 22)), none⟩]
def q_tree_up_6 : List DOp := [
  ⟨⟨(some 23), (.mv (.t 3)), none⟩, true, false, none, []⟩,
  ⟨⟨(some 24), (.mv (.t 0)), none⟩, true, false, none, []⟩,
  ⟨⟨(some 25), (.mv (.t 4)), none⟩, true, false, none, []⟩,
  ⟨⟨(some 26), (.idx 32 (.t 24) (.t 25)), none⟩, true, false, none, []⟩,
  ⟨⟨(some 27), (.load (.ia .u8 32) 32 (.t 26)), none⟩, true, false, none, []⟩,
  ⟨⟨(some 28), (.mv (.t 0)), none⟩, true, false, none, []⟩,
  ⟨⟨(some 29), (.mv (.t 4)), none⟩, true, false, none, []⟩,
  ⟨⟨(some 30), (.bin .add (.t 29) (.v (.int .i64 1))), none⟩, true, false, none, []⟩,
  ⟨⟨(some 31), (.idx 32 (.t 28) (.t 30)), none⟩, true, false, none, []⟩,
  ⟨⟨(some 32), (.load (.ia .u8 32) 32 (.t 31)), none⟩, true, false, none, []⟩,
  ⟨⟨(some 33), (.call F_tree_join [((.ia .u8 32), (.t 27)), ((.ia .u8 32), (.t 32))]), none⟩, false, false, none, []⟩,
  ⟨⟨(some 34), (.bsl 23 (.ia .u8 32) 32 [(.t 33)]), none⟩, false, false, none, []⟩,
  ⟨⟨(some 35), (.app 23 32 32 (.t 23) (.t 34)), none⟩, false, false, none, []⟩,
  ⟨⟨(some 3), (.mv (.t 35)), none⟩, true, false, none, []⟩]
def q_tree_up_7 : List AOper := [
  ⟨(some 9), (.mv (.t 4)), none⟩,
  ⟨(some 10), (.bin .add (.t 9) (.v (.int .i64 2))), none⟩,
  ⟨(some 4), (.mv (.t 10)), none⟩]
def q_tree_up_L8 : ACode := (.seq (.seq (.region q_tree_up_3) (.cond (.t 8) .skip (.exit 0))) (.seq (.block 1 (.seq (.seq (.region q_tree_up_4) (.cond (.t 15) (.seq (.region q_tree_up_5) (.exit 0)) .skip)) (.regionD q_tree_up_6))) (.region q_tree_up_7)))
def q_tree_up_8 : List AOper := [
  ⟨(some 36), (.mv (.t 3)), none⟩,
  ⟨(some 2), (.mv (.t 36)), none⟩]
def a_tree_up : AFunc := ⟨[(.tmp 2)], (.seq (.region q_tree_up_0) (.seq (.region q_tree_up_1) (.seq (.seq (.region q_tree_up_2) (.block 0 (.loop q_tree_up_L8))) (.seq (.region q_tree_up_8) .ret))))⟩

def q_tree_crown_0 : List AOper := [
  ⟨(some 3), (.box 23 (.ia .u8 32) (.t 1)), none⟩,
  ⟨(some 4), (.alloc 23 [(.iarr .u8 32 (List.replicate 32 0))]), none⟩]
def q_tree_crown_1 : List (AOper × List Nat) := [
  (⟨(some 5), (.bslI 5 .u8 [(.v (.int .u8 114)), (.v (.int .u8 111)), (.v (.int .u8 111)), (.v (.int .u8 116))]), none⟩, []),
  (⟨(some 6), (.xx .sealB [(.t 5)]), none⟩, [0]),
  (⟨(some 7), (.mv (.t 0)), none⟩, []),
  (⟨(some 8), (.conv .u64 (.t 7)), none⟩, [2]),
  (⟨(some 9), (.call F_word_Put [(.sc, (.t 8)), (.sc, (.v (.int .i64 4)))]), none⟩, [3]),
  (⟨(some 10), (.slcA 32 (.t 3) none none), none⟩, []),
  (⟨(some 11), (.bsl 22 .sc 1 [(.t 6), (.t 9), (.t 10)]), none⟩, [1, 4, 5]),
  (⟨(some 12), (.call F_digest_Of [(.sc, (.t 11))]), none⟩, [6, 4]),
  (⟨none, (.store (.ia .u8 32) 32 (.t 4) (.t 12)), none⟩, [7, 7, 0, 1, 2, 3, 4, 5, 6, 7])]
def a_tree_crown : AFunc := ⟨[(.cell 4 (.ia .u8 32) 32)], (.seq (.region q_tree_crown_0) (.seq (.regionA q_tree_crown_1) .ret))⟩

def q_tree_join_0 : List AOper := [
  ⟨(some 2), (.box 23 (.ia .u8 32) (.t 0)), none⟩,
  ⟨(some 3), (.box 23 (.ia .u8 32) (.t 1)), none⟩,
  ⟨(some 4), (.alloc 23 [(.iarr .u8 32 (List.replicate 32 0))]), none⟩]
def q_tree_join_1 : List DOp := [
  ⟨⟨(some 7), (.slcA 32 (.t 2) none none), none⟩, true, false, none, []⟩,
  ⟨⟨(some 8), (.slcA 32 (.t 3) none none), none⟩, true, false, none, []⟩,
  ⟨⟨(some 5), (.bslI 5 .u8 [(.v (.int .u8 110)), (.v (.int .u8 111)), (.v (.int .u8 100)), (.v (.int .u8 101))]), none⟩, false, false, none, []⟩,
  ⟨⟨(some 6), (.xx .sealB [(.t 5)]), none⟩, true, false, none, []⟩,
  ⟨⟨(some 9), (.bsl 22 .sc 1 [(.t 6), (.t 7), (.t 8)]), none⟩, false, false, none, []⟩,
  ⟨⟨(some 10), (.call F_digest_Of [(.sc, (.t 9))]), none⟩, false, false, none, []⟩,
  ⟨⟨none, (.store (.ia .u8 32) 32 (.t 4) (.t 10)), none⟩, false, false, none, []⟩]
def a_tree_join : AFunc := ⟨[(.cell 4 (.ia .u8 32) 32)], (.seq (.region q_tree_join_0) (.seq (.regionD q_tree_join_1) .ret))⟩

def q_ref31_Root_0 : List AOper := [
  ⟨(some 2), (.alloc 23 [(.iarr .u8 32 (List.replicate 32 0))]), none⟩,
  ⟨(some 3), (.mv (.v (.int .i64 0))), none⟩]
def q_ref31_Root_1 : List AOper := [
  ⟨(some 5), (.mv (.t 0)), none⟩,
  ⟨(some 6), (.call F_ref31_Check [(.sc, (.t 5))]), none⟩,
  ⟨(some 4), (.mv (.t 6)), none⟩]
def q_ref31_Root_2 : List AOper := [
  ⟨(some 7), (.mv (.t 4)), none⟩,
  ⟨(some 8), (.eq .scI true (.t 7) (.v (.int .i64 0))), none⟩]
def q_ref31_Root_3 : List AOper := [
  ⟨(some 9), (.build (.ia .u8 32) [(.iarr .u8 32 (List.replicate 32 0))] []), none⟩,
  ⟨(some 10), (.mv (.t 4)), none⟩,
  ⟨none, (.store (.ia .u8 32) 32 (.t 2) (.t 9)), none⟩,
  ⟨(some 3), (.mv (.t 10)), none⟩]
def q_ref31_Root_4 : List AOper := [
  ⟨(some 11), (.mv (.t 0)), none⟩,
  ⟨(some 12), (.len false (.t 11)), none⟩,
  ⟨(some 13), (.mv (.t 0)), none⟩,
  ⟨(some 14), (.call F_ref31_top [(.sc, (.t 13)), (.sc, (.v (.int .i64 0)))]), none⟩,
  ⟨(some 15), (.call F_ref31_RootText [(.sc, (.t 12)), ((.ia .u8 32), (.t 14))]), none⟩,
  ⟨(some 16), (.call F_ref03_Sum [(.sc, (.t 15))]), none⟩,
  ⟨none, (.store (.ia .u8 32) 32 (.t 2) (.t 16)), none⟩,
  ⟨(some 3), (.mv (.v (.int .i64 0))), none⟩]
def a_ref31_Root : AFunc := ⟨[(.cell 2 (.ia .u8 32) 32), (.tmp 3)], (.seq (.region q_ref31_Root_0) (.seq (.seq (.region q_ref31_Root_1) (.seq (.region q_ref31_Root_2) (.cond (.t 8) (.seq (.region q_ref31_Root_3) .ret) .skip))) (.seq (.region q_ref31_Root_4) .ret)))⟩

def q_ref31_Same_0 : List AOper := [
  ⟨(some 4), (.mv (.v (.bool false))), none⟩]
def q_ref31_Same_1 : List AOper := [
  ⟨(some 6), (.mv (.t 0)), none⟩,
  ⟨(some 7), (.len false (.t 6)), none⟩,
  ⟨(some 8), (.mv (.t 1)), none⟩,
  ⟨(some 9), (.len false (.t 8)), none⟩,
  ⟨(some 10), (.eq .scI true (.t 7) (.t 9)), none⟩]
def q_ref31_Same_2 : List AOper := [
  ⟨(some 4), (.mv (.v (.bool false))), none⟩]
def q_ref31_Same_3 : List AOper := [
  ⟨(some 5), (.mv (.v (.int .i64 0))), none⟩]
def q_ref31_Same_4 : List AOper := [
  ⟨(some 11), (.mv (.t 5)), none⟩,
  ⟨(some 12), (.mv (.t 0)), none⟩,
  ⟨(some 13), (.len false (.t 12)), none⟩,
  ⟨(some 14), (.bin .lss (.t 11) (.t 13)), none⟩]
def q_ref31_Same_5 : List DOp := [
  ⟨⟨(some 17), (.mv (.t 0)), none⟩, true, false, none, []⟩,
  ⟨⟨(some 18), (.mv (.t 5)), none⟩, true, false, none, []⟩,
  ⟨⟨(some 19), (.idx 32 (.t 17) (.t 18)), none⟩, true, false, none, []⟩,
  ⟨⟨(some 20), (.load (.ia .u8 32) 32 (.t 19)), none⟩, true, false, none, []⟩,
  ⟨⟨(some 21), (.mv (.t 1)), none⟩, true, false, none, []⟩,
  ⟨⟨(some 22), (.mv (.t 5)), none⟩, true, false, none, []⟩,
  ⟨⟨(some 23), (.idx 32 (.t 21) (.t 22)), none⟩, true, false, none, []⟩,
  ⟨⟨(some 24), (.load (.ia .u8 32) 32 (.t 23)), none⟩, true, false, none, []⟩,
  ⟨⟨(some 25), (.eq (.ia 32) true (.t 20) (.t 24)), none⟩, true, false, none, []⟩]
def q_ref31_Same_6 : List AOper := [
  ⟨(some 4), (.mv (.v (.bool false))), none⟩]
def q_ref31_Same_7 : List AOper := [
  ⟨(some 15), (.mv (.t 5)), none⟩,
  ⟨(some 16), (.bin .add (.t 15) (.v (.int .i64 1))), none⟩,
  ⟨(some 5), (.mv (.t 16)), none⟩]
def q_ref31_Same_L8 : ACode := (.seq (.seq (.region q_ref31_Same_4) (.cond (.t 14) .skip (.exit 0))) (.seq (.block 1 (.seq (.regionD q_ref31_Same_5) (.cond (.t 25) (.seq (.region q_ref31_Same_6) .ret) .skip))) (.region q_ref31_Same_7)))
def q_ref31_Same_8 : List AOper := [
  ⟨(some 4), (.mv (.v (.bool true))), none⟩]
def a_ref31_Same : AFunc := ⟨[(.tmp 4)], (.seq (.region q_ref31_Same_0) (.seq (.seq (.region q_ref31_Same_1) (.cond (.t 10) (.seq (.region q_ref31_Same_2) .ret) .skip)) (.seq (.seq (.region q_ref31_Same_3) (.block 0 (.loop q_ref31_Same_L8))) (.seq (.region q_ref31_Same_8) .ret))))⟩

def q_ref31_Path_0 : List AOper := [
  ⟨(some 4), (.mv (.v .nilS)), none⟩]
def q_ref31_Path_1 : List AOper := [
  ⟨(some 5), (.mv (.t 0)), none⟩,
  ⟨(some 6), (.mv (.t 1)), none⟩,
  ⟨(some 7), (.call F_ref31_path [(.sc, (.t 5)), (.sc, (.v (.int .i64 0))), (.sc, (.t 6))]), none⟩,
  ⟨(some 4), (.mv (.t 7)), none⟩]
def a_ref31_Path : AFunc := ⟨[(.tmp 4)], (.seq (.region q_ref31_Path_0) (.seq (.region q_ref31_Path_1) .ret))⟩

def q_ref31_LeafText_0 : List AOper := [
  ⟨(some 4), (.mv (.v .nilS)), none⟩]
def q_ref31_LeafText_1 : List AOper := [
  ⟨(some 6), (.bslI 5 .u8 [(.v (.int .u8 108)), (.v (.int .u8 101)), (.v (.int .u8 97)), (.v (.int .u8 102))]), none⟩,
  ⟨(some 7), (.xx .sealB [(.t 6)]), none⟩,
  ⟨(some 5), (.mv (.t 7)), none⟩]
def q_ref31_LeafText_2 : List AOper := [
  ⟨(some 8), (.mv (.t 5)), none⟩,
  ⟨(some 9), (.mv (.t 0)), none⟩,
  ⟨(some 10), (.conv .u64 (.t 9)), none⟩,
  ⟨(some 11), (.call F_ref01_Put [(.sc, (.t 10)), (.sc, (.v (.int .i64 4)))]), none⟩,
  ⟨(some 12), (.appI 5 .u8 1 (.t 8) (.t 11)), none⟩,
  ⟨(some 5), (.mv (.t 12)), none⟩]
def q_ref31_LeafText_3 : List AOper := [
  ⟨(some 13), (.mv (.t 5)), none⟩,
  ⟨(some 14), (.mv (.t 1)), none⟩,
  ⟨(some 15), (.appI 5 .u8 1 (.t 13) (.t 14)), none⟩,
  ⟨(some 4), (.mv (.t 15)), none⟩]
def a_ref31_LeafText : AFunc := ⟨[(.tmp 4)], (.seq (.region q_ref31_LeafText_0) (.seq (.region q_ref31_LeafText_1) (.seq (.region q_ref31_LeafText_2) (.seq (.region q_ref31_LeafText_3) .ret))))⟩

def q_ref31_Rows_0 : List AOper := [
  ⟨(some 2), (.mv (.v (.int .i64 0))), none⟩]
def q_ref31_Rows_1 : List AOper := [
  ⟨(some 3), (.mv (.v (.int .i64 0))), none⟩]
def q_ref31_Rows_2 : List AOper := [
  ⟨(some 4), (.mv (.v (.int .i64 1))), none⟩]
def q_ref31_Rows_3 : List AOper := [
  ⟨(some 5), (.mv (.t 4)), none⟩,
  ⟨(some 6), (.mv (.t 0)), none⟩,
  ⟨(some 7), (.bin .lss (.t 5) (.t 6)), none⟩]
def q_ref31_Rows_4 : List AOper := [
  ⟨(some 8), (.mv (.t 4)), none⟩,
  ⟨(some 9), (.bin .mul (.v (.int .i64 2)) (.t 8)), none⟩,
  ⟨(some 4), (.mv (.t 9)), none⟩]
def q_ref31_Rows_5 : List AOper := [
  ⟨(some 10), (.mv (.t 3)), none⟩,
  ⟨(some 11), (.bin .add (.t 10) (.v (.int .i64 1))), none⟩,
  ⟨(some 3), (.mv (.t 11)), none⟩]
def q_ref31_Rows_L6 : ACode := (.seq (.seq (.region q_ref31_Rows_3) (.cond (.t 7) .skip (.exit 0))) (.block 1 (.seq (.region q_ref31_Rows_4) (.region q_ref31_Rows_5))))
def q_ref31_Rows_6 : List AOper := [
  ⟨(some 12), (.mv (.t 3)), none⟩,
  ⟨(some 2), (.mv (.t 12)), none⟩]
def a_ref31_Rows : AFunc := ⟨[(.tmp 2)], (.seq (.region q_ref31_Rows_0) (.seq (.region q_ref31_Rows_1) (.seq (.region q_ref31_Rows_2) (.seq (.block 0 (.loop q_ref31_Rows_L6)) (.seq (.region q_ref31_Rows_6) .ret)))))⟩

def q_ref31_Check_0 : List AOper := [
  ⟨(some 2), (.mv (.v (.int .i64 0))), none⟩]
def q_ref31_Check_1 : List AOper := [
  ⟨(some 3), (.mv (.t 0)), none⟩,
  ⟨(some 4), (.len false (.t 3)), none⟩,
  ⟨(some 5), (.eq .scI false (.t 4) (.v (.int .i64 0))), none⟩]
def q_ref31_Check_2 : List AOper := [
  ⟨(some 2), (.mv (.v (.int .i64 1))), none⟩]
def q_ref31_Check_3 : List AOper := [
  ⟨(some 6), (.mv (.t 0)), none⟩,
  ⟨(some 7), (.len false (.t 6)), none⟩,
  ⟨(some 8), (.bin .gtr (.t 7) (.v (.int .i64 1024))), none⟩]
def q_ref31_Check_4 : List AOper := [
  ⟨(some 2), (.mv (.v (.int .i64 7))), none⟩]
def q_ref31_Check_5 : List AOper := [
  ⟨(some 2), (.mv (.v (.int .i64 0))), none⟩]
def a_ref31_Check : AFunc := ⟨[(.tmp 2)], (.seq (.region q_ref31_Check_0) (.seq (.seq (.region q_ref31_Check_1) (.cond (.t 5) (.seq (.region q_ref31_Check_2) .ret) .skip)) (.seq (.seq (.region q_ref31_Check_3) (.cond (.t 8) (.seq (.region q_ref31_Check_4) .ret) .skip)) (.seq (.region q_ref31_Check_5) .ret))))⟩

def q_ref31_RootText_0 : List AOper := [
  ⟨(some 3), (.box 23 (.ia .u8 32) (.t 1)), none⟩,
  ⟨(some 4), (.mv (.v .nilS)), none⟩]
def q_ref31_RootText_1 : List AOper := [
  ⟨(some 6), (.bslI 5 .u8 [(.v (.int .u8 114)), (.v (.int .u8 111)), (.v (.int .u8 111)), (.v (.int .u8 116))]), none⟩,
  ⟨(some 7), (.xx .sealB [(.t 6)]), none⟩,
  ⟨(some 5), (.mv (.t 7)), none⟩]
def q_ref31_RootText_2 : List AOper := [
  ⟨(some 8), (.mv (.t 5)), none⟩,
  ⟨(some 9), (.mv (.t 0)), none⟩,
  ⟨(some 10), (.conv .u64 (.t 9)), none⟩,
  ⟨(some 11), (.call F_ref01_Put [(.sc, (.t 10)), (.sc, (.v (.int .i64 4)))]), none⟩,
  ⟨(some 12), (.appI 5 .u8 1 (.t 8) (.t 11)), none⟩,
  ⟨(some 5), (.mv (.t 12)), none⟩]
def q_ref31_RootText_3 : List AOper := [
  ⟨(some 13), (.mv (.t 5)), none⟩,
  ⟨(some 14), (.load (.ia .u8 32) 32 (.t 3)), none⟩,
  ⟨(some 15), (.call F_ref31_behind [(.sc, (.t 13)), ((.ia .u8 32), (.t 14))]), none⟩,
  ⟨(some 4), (.mv (.t 15)), none⟩]
def a_ref31_RootText : AFunc := ⟨[(.tmp 4)], (.seq (.region q_ref31_RootText_0) (.seq (.region q_ref31_RootText_1) (.seq (.region q_ref31_RootText_2) (.seq (.region q_ref31_RootText_3) .ret))))⟩

def q_ref31_top_0 : List AOper := [
  ⟨(some 4), (.alloc 23 [(.iarr .u8 32 (List.replicate 32 0))]), none⟩]
def q_ref31_top_1 : List AOper := [
  ⟨(some 6), (.mv (.t 0)), none⟩,
  ⟨(some 7), (.len false (.t 6)), none⟩,
  ⟨(some 8), (.eq .scI false (.t 7) (.v (.int .i64 1))), none⟩]
def q_ref31_top_2 : List AOper := [
  ⟨(some 9), (.mv (.t 1)), none⟩,
  ⟨(some 10), (.mv (.t 0)), none⟩,
  ⟨(some 11), (.idx 1 (.t 10) (.v (.int .i64 0))), none⟩,
  ⟨(some 12), (.load .sc 1 (.t 11)), none⟩,
  ⟨(some 13), (.call F_ref31_LeafText [(.sc, (.t 9)), (.sc, (.t 12))]), none⟩,
  ⟨(some 14), (.call F_ref03_Sum [(.sc, (.t 13))]), none⟩,
  ⟨none, (.store (.ia .u8 32) 32 (.t 4) (.t 14)), none⟩]
def q_ref31_top_3 : List AOper := [
  ⟨(some 15), (.mv (.t 0)), none⟩,
  ⟨(some 16), (.len false (.t 15)), none⟩,
  ⟨(some 17), (.call F_ref31_width [(.sc, (.t 16))]), none⟩,
  ⟨(some 5), (.mv (.t 17)), none⟩]
def q_ref31_top_4 : List DOp := [
  ⟨⟨(some 18), (.mv (.t 0)), none⟩, true, false, none, []⟩,
  ⟨⟨(some 19), (.mv (.t 5)), none⟩, true, false, none, []⟩,
  ⟨⟨(some 20), (.slc 1 (.t 18) none (some (.t 19))), none⟩, true, false, none, []⟩,
  ⟨⟨(some 21), (.mv (.t 1)), none⟩, true, false, none, []⟩,
  ⟨⟨(some 23), (.mv (.t 0)), none⟩, true, false, none, []⟩,
  ⟨⟨(some 24), (.mv (.t 5)), none⟩, true, false, none, []⟩,
  ⟨⟨(some 25), (.slc 1 (.t 23) (some (.t 24)) none), none⟩, true, false, none, []⟩,
  ⟨⟨(some 26), (.mv (.t 1)), none⟩, true, false, none, []⟩,
  ⟨⟨(some 27), (.mv (.t 5)), none⟩, true, false, none, []⟩,
  ⟨⟨(some 28), (.bin .add (.t 26) (.t 27)), none⟩, true, false, none, []⟩,
  ⟨⟨(some 22), (.call F_ref31_top [(.sc, (.t 20)), (.sc, (.t 21))]), none⟩, false, true, (some [23]), []⟩,
  ⟨⟨(some 29), (.call F_ref31_top [(.sc, (.t 25)), (.sc, (.t 28))]), none⟩, false, false, none, []⟩,
  ⟨⟨(some 30), (.call F_ref31_NodeText [((.ia .u8 32), (.t 22)), ((.ia .u8 32), (.t 29))]), none⟩, false, false, none, []⟩,
  ⟨⟨(some 31), (.call F_ref03_Sum [(.sc, (.t 30))]), none⟩, false, false, none, []⟩,
  ⟨⟨none, (.store (.ia .u8 32) 32 (.t 4) (.t 31)), none⟩, false, false, none, []⟩]
def a_ref31_top : AFunc := ⟨[(.cell 4 (.ia .u8 32) 32)], (.seq (.region q_ref31_top_0) (.seq (.seq (.region q_ref31_top_1) (.cond (.t 8) (.seq (.region q_ref31_top_2) .ret) .skip)) (.seq (.region q_ref31_top_3) (.seq (.regionD q_ref31_top_4) .ret))))⟩

def q_ref31_path_0 : List AOper := [
  ⟨(some 6), (.mv (.v .nilS)), none⟩]
def q_ref31_path_1 : List AOper := [
  ⟨(some 8), (.mv (.t 0)), none⟩,
  ⟨(some 9), (.len false (.t 8)), none⟩,
  ⟨(some 10), (.eq .scI false (.t 9) (.v (.int .i64 1))), none⟩]
def q_ref31_path_2 : List AOper := [
  ⟨(some 6), (.mv (.v .nilS)), none⟩]
def q_ref31_path_3 : List AOper := [
  ⟨(some 11), (.mv (.t 0)), none⟩,
  ⟨(some 12), (.len false (.t 11)), none⟩,
  ⟨(some 13), (.call F_ref31_width [(.sc, (.t 12))]), none⟩,
  ⟨(some 7), (.mv (.t 13)), none⟩]
def q_ref31_path_4 : List AOper := [
  ⟨(some 14), (.mv (.t 2)), none⟩,
  ⟨(some 15), (.mv (.t 7)), none⟩,
  ⟨(some 16), (.bin .lss (.t 14) (.t 15)), none⟩]
def q_ref31_path_5 : List DOp := [
  ⟨⟨(some 17), (.mv (.t 0)), none⟩, true, false, none, []⟩,
  ⟨⟨(some 18), (.mv (.t 7)), none⟩, true, false, none, []⟩,
  ⟨⟨(some 19), (.slc 1 (.t 17) none (some (.t 18))), none⟩, true, false, none, []⟩,
  ⟨⟨(some 20), (.mv (.t 1)), none⟩, true, false, none, []⟩,
  ⟨⟨(some 21), (.mv (.t 2)), none⟩, true, false, none, []⟩,
  ⟨⟨(some 23), (.mv (.t 0)), none⟩, true, false, none, []⟩,
  ⟨⟨(some 24), (.mv (.t 7)), none⟩, true, false, none, []⟩,
  ⟨⟨(some 25), (.slc 1 (.t 23) (some (.t 24)) none), none⟩, true, false, none, []⟩,
  ⟨⟨(some 26), (.mv (.t 1)), none⟩, true, false, none, []⟩,
  ⟨⟨(some 27), (.mv (.t 7)), none⟩, true, false, none, []⟩,
  ⟨⟨(some 28), (.bin .add (.t 26) (.t 27)), none⟩, true, false, none, []⟩,
  ⟨⟨(some 22), (.call F_ref31_path [(.sc, (.t 19)), (.sc, (.t 20)), (.sc, (.t 21))]), none⟩, false, true, (some [23]), []⟩,
  ⟨⟨(some 29), (.call F_ref31_top [(.sc, (.t 25)), (.sc, (.t 28))]), none⟩, false, false, none, []⟩,
  ⟨⟨(some 30), (.bsl 23 (.ia .u8 32) 32 [(.t 29)]), none⟩, false, false, none, []⟩,
  ⟨⟨(some 31), (.app 23 32 32 (.t 22) (.t 30)), none⟩, false, false, none, []⟩,
  ⟨⟨(some 6), (.mv (.t 31)), none⟩, true, false, none, []⟩]
def q_ref31_path_6 : List DOp := [
  ⟨⟨(some 32), (.mv (.t 0)), none⟩, true, false, none, []⟩,
  ⟨⟨(some 33), (.mv (.t 7)), none⟩, true, false, none, []⟩,
  ⟨⟨(some 34), (.slc 1 (.t 32) (some (.t 33)) none), none⟩, true, false, none, []⟩,
  ⟨⟨(some 35), (.mv (.t 1)), none⟩, true, false, none, []⟩,
  ⟨⟨(some 36), (.mv (.t 7)), none⟩, true, false, none, []⟩,
  ⟨⟨(some 37), (.bin .add (.t 35) (.t 36)), none⟩, true, false, none, []⟩,
  ⟨⟨(some 38), (.mv (.t 2)), none⟩, true, false, none, []⟩,
  ⟨⟨(some 39), (.mv (.t 7)), none⟩, true, false, none, []⟩,
  ⟨⟨(some 40), (.bin .sub (.t 38) (.t 39)), none⟩, true, false, none, []⟩,
  ⟨⟨(some 42), (.mv (.t 0)), none⟩, true, false, none, []⟩,
  ⟨⟨(some 43), (.mv (.t 7)), none⟩, true, false, none, []⟩,
  ⟨⟨(some 44), (.slc 1 (.t 42) none (some (.t 43))), none⟩, true, false, none, []⟩,
  ⟨⟨(some 45), (.mv (.t 1)), none⟩, true, false, none, []⟩,
  ⟨⟨(some 41), (.call F_ref31_path [(.sc, (.t 34)), (.sc, (.t 37)), (.sc, (.t 40))]), none⟩, false, true, (some [42]), []⟩,
  ⟨⟨(some 46), (.call F_ref31_top [(.sc, (.t 44)), (.sc, (.t 45))]), none⟩, false, false, none, []⟩,
  ⟨⟨(some 47), (.bsl 23 (.ia .u8 32) 32 [(.t 46)]), none⟩, false, false, none, []⟩,
  ⟨⟨(some 48), (.app 23 32 32 (.t 41) (.t 47)), none⟩, false, false, none, []⟩,
  ⟨⟨(some 6), (.mv (.t 48)), none⟩, true, false, none, []⟩]
def a_ref31_path : AFunc := ⟨[(.tmp 6)], (.seq (.region q_ref31_path_0) (.seq (.seq (.region q_ref31_path_1) (.cond (.t 10) (.seq (.region q_ref31_path_2) .ret) .skip)) (.seq (.region q_ref31_path_3) (.seq (.seq (.region q_ref31_path_4) (.cond (.t 16) (.seq (.regionD q_ref31_path_5) .ret) .skip)) (.seq (.regionD q_ref31_path_6) .ret)))))⟩

def q_ref31_NodeText_0 : List AOper := [
  ⟨(some 2), (.box 23 (.ia .u8 32) (.t 0)), none⟩,
  ⟨(some 3), (.box 23 (.ia .u8 32) (.t 1)), none⟩,
  ⟨(some 4), (.mv (.v .nilS)), none⟩]
def q_ref31_NodeText_1 : List DOp := [
  ⟨⟨(some 7), (.load (.ia .u8 32) 32 (.t 2)), none⟩, true, false, none, []⟩,
  ⟨⟨(some 9), (.load (.ia .u8 32) 32 (.t 3)), none⟩, true, false, none, []⟩,
  ⟨⟨(some 5), (.bslI 5 .u8 [(.v (.int .u8 110)), (.v (.int .u8 111)), (.v (.int .u8 100)), (.v (.int .u8 101))]), none⟩, false, false, none, []⟩,
  ⟨⟨(some 6), (.xx .sealB [(.t 5)]), none⟩, true, false, none, []⟩,
  ⟨⟨(some 8), (.call F_ref31_behind [(.sc, (.t 6)), ((.ia .u8 32), (.t 7))]), none⟩, false, true, (some [3]), []⟩,
  ⟨⟨(some 10), (.call F_ref31_behind [(.sc, (.t 8)), ((.ia .u8 32), (.t 9))]), none⟩, false, false, none, []⟩,
  ⟨⟨(some 4), (.mv (.t 10)), none⟩, true, false, none, []⟩]
def a_ref31_NodeText : AFunc := ⟨[(.tmp 4)], (.seq (.region q_ref31_NodeText_0) (.seq (.regionD q_ref31_NodeText_1) .ret))⟩

def q_ref31_behind_0 : List AOper := [
  ⟨(some 3), (.box 23 (.ia .u8 32) (.t 1)), none⟩,
  ⟨(some 4), (.mv (.v .nilS)), none⟩]
def q_ref31_behind_1 : List AOper := [
  ⟨(some 7), (.mv (.t 0)), none⟩,
  ⟨(some 5), (.mv (.t 7)), none⟩]
def q_ref31_behind_2 : List AOper := [
  ⟨(some 6), (.mv (.v (.int .i64 0))), none⟩]
def q_ref31_behind_3 : List AOper := [
  ⟨(some 8), (.mv (.t 6)), none⟩,
  ⟨(some 9), (.bin .lss (.t 8) (.v (.int .i64 32))), none⟩]
def q_ref31_behind_4 : List AOper := [
  ⟨(some 12), (.mv (.t 5)), none⟩,
  ⟨(some 13), (.mv (.t 6)), none⟩,
  ⟨(some 14), (.idxA 32 1 true (.t 3) (.t 13)), none⟩,
  ⟨(some 15), (.load .sc 1 (.t 14)), none⟩,
  ⟨(some 16), (.bslI 5 .u8 [(.t 15)]), none⟩,
  ⟨(some 17), (.appI 5 .u8 1 (.t 12) (.t 16)), none⟩,
  ⟨(some 5), (.mv (.t 17)), none⟩]
def q_ref31_behind_5 : List AOper := [
  ⟨(some 10), (.mv (.t 6)), none⟩,
  ⟨(some 11), (.bin .add (.t 10) (.v (.int .i64 1))), none⟩,
  ⟨(some 6), (.mv (.t 11)), none⟩]
def q_ref31_behind_L6 : ACode := (.seq (.seq (.region q_ref31_behind_3) (.cond (.t 9) .skip (.exit 0))) (.seq (.block 1 (.region q_ref31_behind_4)) (.region q_ref31_behind_5)))
def q_ref31_behind_6 : List AOper := [
  ⟨(some 18), (.mv (.t 5)), none⟩,
  ⟨(some 4), (.mv (.t 18)), none⟩]
def a_ref31_behind : AFunc := ⟨[(.tmp 4)], (.seq (.region q_ref31_behind_0) (.seq (.region q_ref31_behind_1) (.seq (.seq (.region q_ref31_behind_2) (.block 0 (.loop q_ref31_behind_L6))) (.seq (.region q_ref31_behind_6) .ret))))⟩

def q_ref31_width_0 : List AOper := [
  ⟨(some 2), (.mv (.v (.int .i64 0))), none⟩]
def q_ref31_width_1 : List AOper := [
  ⟨(some 3), (.mv (.v (.int .i64 1))), none⟩]
def q_ref31_width_2 : List AOper := [
  ⟨(some 4), (.mv (.t 3)), none⟩,
  ⟨(some 5), (.bin .mul (.v (.int .i64 2)) (.t 4)), none⟩,
  ⟨(some 6), (.mv (.t 0)), none⟩,
  ⟨(some 7), (.bin .lss (.t 5) (.t 6)), none⟩]
def q_ref31_width_3 : List AOper := [
  ⟨(some 8), (.mv (.t 3)), none⟩,
  ⟨(some 9), (.bin .mul (.v (.int .i64 2)) (.t 8)), none⟩,
  ⟨(some 3), (.mv (.t 9)), none⟩]
def q_ref31_width_L4 : ACode := (.seq (.seq (.region q_ref31_width_2) (.cond (.t 7) .skip (.exit 0))) (.block 1 (.region q_ref31_width_3)))
def q_ref31_width_4 : List AOper := [
  ⟨(some 10), (.mv (.t 3)), none⟩,
  ⟨(some 2), (.mv (.t 10)), none⟩]
def a_ref31_width : AFunc := ⟨[(.tmp 2)], (.seq (.region q_ref31_width_0) (.seq (.region q_ref31_width_1) (.seq (.block 0 (.loop q_ref31_width_L4)) (.seq (.region q_ref31_width_4) .ret))))⟩

def q_law31_TreeRoots_0 : List AOper := [
  ⟨(some 6), (.mv (.v (.bool false))), none⟩]
def q_law31_TreeRoots_1 : List AOper := [
  ⟨(some 13), (.mv (.t 0)), none⟩,
  ⟨(some 14), (.call F_law31_light [(.sc, (.t 13))]), none⟩,
  ⟨(some 15), (.un .not (.t 14)), none⟩]
def q_law31_TreeRoots_2 : List AOper := [
  ⟨(some 16), (.call F_law31_works []), none⟩,
  ⟨(some 6), (.mv (.t 16)), none⟩]
def q_law31_TreeRoots_3 : List AOper := [
  ⟨(some 18), (.mv (.t 0)), none⟩,
  ⟨(some 19), (.call F_tree_Root [(.sc, (.t 18))]), none⟩,
  ⟨(some 17), (.mv (.t 19)), none⟩,
  ⟨(some 20), (.ext 0 (.t 17)), none⟩,
  ⟨(some 21), (.ext 1 (.t 17)), none⟩,
  ⟨(some 7), (.alloc 23 [(.iarr .u8 32 (List.replicate 32 0))]), none⟩,
  ⟨none, (.store (.ia .u8 32) 32 (.t 7) (.t 20)), none⟩,
  ⟨(some 8), (.mv (.t 21)), none⟩]
def q_law31_TreeRoots_4 : List AOper := [
  ⟨(some 23), (.mv (.t 0)), none⟩,
  ⟨(some 24), (.call F_ref31_Root [(.sc, (.t 23))]), none⟩,
  ⟨(some 22), (.mv (.t 24)), none⟩,
  ⟨(some 25), (.ext 0 (.t 22)), none⟩,
  ⟨(some 26), (.ext 1 (.t 22)), none⟩,
  ⟨(some 9), (.alloc 23 [(.iarr .u8 32 (List.replicate 32 0))]), none⟩,
  ⟨none, (.store (.ia .u8 32) 32 (.t 9) (.t 25)), none⟩,
  ⟨(some 10), (.mv (.t 26)), none⟩]
def q_law31_TreeRoots_5 : List AOper := [
  ⟨(some 27), (.load (.ia .u8 32) 32 (.t 7)), none⟩,
  ⟨(some 28), (.load (.ia .u8 32) 32 (.t 9)), none⟩,
  ⟨(some 29), (.eq (.ia 32) true (.t 27) (.t 28)), none⟩,
  ⟨(some 30), (.mv (.t 29)), none⟩,
  ⟨(some 31), (.mv (.t 8)), (some (30, false))⟩,
  ⟨(some 32), (.mv (.t 10)), (some (30, false))⟩,
  ⟨(some 33), (.eq .scI true (.t 31) (.t 32)), (some (30, false))⟩,
  ⟨(some 34), (.pick (.t 30) (.v (.bool true)) (.t 33)), none⟩,
  ⟨(some 35), (.mv (.t 34)), none⟩,
  ⟨(some 36), (.mv (.t 0)), (some (35, false))⟩,
  ⟨(some 37), (.call F_tree_Check [(.sc, (.t 36))]), (some (35, false))⟩,
  ⟨(some 38), (.mv (.t 10)), (some (35, false))⟩,
  ⟨(some 39), (.eq .scI true (.t 37) (.t 38)), (some (35, false))⟩,
  ⟨(some 40), (.pick (.t 35) (.v (.bool true)) (.t 39)), none⟩]
def q_law31_TreeRoots_6 : List AOper := [
  ⟨(some 6), (.mv (.v (.bool false))), none⟩]
def q_law31_TreeRoots_7 : List AOper := [
  ⟨(some 42), (.mv (.t 0)), none⟩,
  ⟨(some 43), (.mv (.t 1)), none⟩,
  ⟨(some 44), (.call F_tree_Prove [(.sc, (.t 42)), (.sc, (.t 43))]), none⟩,
  ⟨(some 41), (.mv (.t 44)), none⟩,
  ⟨(some 45), (.ext 0 (.t 41)), none⟩,
  ⟨(some 46), (.ext 1 (.t 41)), none⟩,
  ⟨(some 11), (.alloc 82 [(.int .i64 0), (.int .i64 0), .nilS]), none⟩,
  ⟨none, (.store .ag 3 (.t 11) (.t 45)), none⟩,
  ⟨(some 12), (.mv (.t 46)), none⟩]
def q_law31_TreeRoots_8 : List AOper := [
  ⟨(some 47), (.mv (.t 10)), none⟩,
  ⟨(some 48), (.eq .scI true (.t 47) (.v (.int .i64 0))), none⟩,
  ⟨(some 49), (.mv (.t 48)), none⟩,
  ⟨(some 50), (.mv (.t 1)), (some (49, false))⟩,
  ⟨(some 51), (.bin .lss (.t 50) (.v (.int .i64 0))), (some (49, false))⟩,
  ⟨(some 52), (.pick (.t 49) (.v (.bool true)) (.t 51)), none⟩,
  ⟨(some 53), (.mv (.t 52)), none⟩,
  ⟨(some 54), (.mv (.t 1)), (some (53, false))⟩,
  ⟨(some 55), (.mv (.t 0)), (some (53, false))⟩,
  ⟨(some 56), (.len false (.t 55)), (some (53, false))⟩,
  ⟨(some 57), (.bin .geq (.t 54) (.t 56)), (some (53, false))⟩,
  ⟨(some 58), (.pick (.t 53) (.v (.bool true)) (.t 57)), none⟩]
def q_law31_TreeRoots_9 : List AOper := [
  ⟨(some 59), (.mv (.t 12)), none⟩,
  ⟨(some 60), (.eq .scI true (.t 59) (.v (.int .i64 0))), none⟩,
  ⟨(some 61), (.mv (.t 60)), none⟩,
  ⟨(some 62), (.mv (.t 10)), (some (61, true))⟩,
  ⟨(some 63), (.eq .scI false (.t 62) (.v (.int .i64 0))), (some (61, true))⟩,
  ⟨(some 64), (.mv (.t 63)), (some (61, true))⟩,
  ⟨(some 65), (.mv (.t 12)), (some (64, false))⟩,
  ⟨(some 66), (.mv (.t 10)), (some (64, false))⟩,
  ⟨(some 67), (.eq .scI false (.t 65) (.t 66)), (some (64, false))⟩,
  ⟨(some 68), (.pick (.t 64) (.v (.bool true)) (.t 67)), (some (61, true))⟩,
  ⟨(some 69), (.pick (.t 61) (.t 68) (.v (.bool false))), none⟩,
  ⟨(some 70), (.mv (.t 69)), none⟩,
  ⟨(some 71), (.mv (.t 10)), (some (70, true))⟩,
  ⟨(some 72), (.eq .scI true (.t 71) (.v (.int .i64 0))), (some (70, true))⟩,
  ⟨(some 73), (.mv (.t 72)), (some (70, true))⟩,
  ⟨(some 74), (.mv (.t 12)), (some (73, false))⟩,
  ⟨(some 75), (.eq .scI false (.t 74) (.v (.int .i64 2))), (some (73, false))⟩,
  ⟨(some 76), (.pick (.t 73) (.v (.bool true)) (.t 75)), (some (70, true))⟩,
  ⟨(some 77), (.pick (.t 70) (.t 76) (.v (.bool false))), none⟩,
  ⟨(some 78), (.mv (.t 77)), none⟩,
  ⟨(some 79), (.fadr 2 1 .sc (.t 11)), (some (78, true))⟩,
  ⟨(some 80), (.load .sc 1 (.t 79)), (some (78, true))⟩,
  ⟨(some 81), (.len false (.t 80)), (some (78, true))⟩,
  ⟨(some 82), (.eq .scI false (.t 81) (.v (.int .i64 0))), (some (78, true))⟩,
  ⟨(some 83), (.pick (.t 78) (.t 82) (.v (.bool false))), none⟩,
  ⟨(some 84), (.mv (.t 83)), none⟩,
  ⟨(some 85), (.call F_law31_works []), (some (84, true))⟩,
  ⟨(some 86), (.pick (.t 84) (.t 85) (.v (.bool false))), none⟩,
  ⟨(some 6), (.mv (.t 86)), none⟩]
def q_law31_TreeRoots_10 : List DOp := [
  ⟨⟨(some 87), (.mv (.t 12)), none⟩, true, false, none, []⟩,
  ⟨⟨(some 88), (.eq .scI true (.t 87) (.v (.int .i64 0))), none⟩, true, false, none, []⟩,
  ⟨⟨(some 89), (.mv (.t 88)), none⟩, true, false, none, []⟩,
  ⟨⟨(some 90), (.fadr 0 1 .sc (.t 11)), (some (89, false))⟩, true, false, none, []⟩,
  ⟨⟨(some 91), (.load .sc 1 (.t 90)), (some (89, false))⟩, true, false, none, []⟩,
  ⟨⟨(some 92), (.mv (.t 1)), (some (89, false))⟩, true, false, none, []⟩,
  ⟨⟨(some 93), (.eq .scI true (.t 91) (.t 92)), (some (89, false))⟩, true, false, none, []⟩,
  ⟨⟨(some 94), (.pick (.t 89) (.v (.bool true)) (.t 93)), none⟩, true, false, none, []⟩,
  ⟨⟨(some 95), (.mv (.t 94)), none⟩, true, false, none, []⟩,
  ⟨⟨(some 96), (.fadr 1 1 .sc (.t 11)), (some (95, false))⟩, true, false, none, []⟩,
  ⟨⟨(some 97), (.load .sc 1 (.t 96)), (some (95, false))⟩, true, false, none, []⟩,
  ⟨⟨(some 98), (.mv (.t 0)), (some (95, false))⟩, true, false, none, []⟩,
  ⟨⟨(some 99), (.len false (.t 98)), (some (95, false))⟩, true, false, none, []⟩,
  ⟨⟨(some 100), (.eq .scI true (.t 97) (.t 99)), (some (95, false))⟩, true, false, none, []⟩,
  ⟨⟨(some 101), (.pick (.t 95) (.v (.bool true)) (.t 100)), none⟩, true, false, none, []⟩,
  ⟨⟨(some 102), (.mv (.t 101)), none⟩, true, false, none, []⟩,
  ⟨⟨(some 103), (.fadr 2 1 .sc (.t 11)), (some (102, false))⟩, true, false, none, []⟩,
  ⟨⟨(some 104), (.load .sc 1 (.t 103)), (some (102, false))⟩, true, false, none, []⟩,
  ⟨⟨(some 105), (.mv (.t 0)), (some (102, false))⟩, true, false, none, []⟩,
  ⟨⟨(some 106), (.mv (.t 1)), (some (102, false))⟩, true, false, none, []⟩,
  ⟨⟨(some 107), (.call F_ref31_Path [(.sc, (.t 105)), (.sc, (.t 106))]), (some (102, false))⟩, false, true, (some [103]), []⟩,
  ⟨⟨(some 108), (.call F_ref31_Same [(.sc, (.t 104)), (.sc, (.t 107))]), (some (102, false))⟩, false, false, none, []⟩,
  ⟨⟨(some 109), (.un .not (.t 108)), (some (102, false))⟩, true, false, none, []⟩,
  ⟨⟨(some 110), (.pick (.t 102) (.v (.bool true)) (.t 109)), none⟩, true, false, none, []⟩,
  ⟨⟨(some 111), (.mv (.t 110)), none⟩, true, false, none, []⟩,
  ⟨⟨(some 112), (.mv (.t 1)), (some (111, false))⟩, true, false, none, []⟩,
  ⟨⟨(some 113), (.mv (.t 0)), (some (111, false))⟩, true, false, none, []⟩,
  ⟨⟨(some 114), (.mv (.t 1)), (some (111, false))⟩, true, false, none, []⟩,
  ⟨⟨(some 115), (.idx 1 (.t 113) (.t 114)), (some (111, false))⟩, true, false, none, []⟩,
  ⟨⟨(some 116), (.load .sc 1 (.t 115)), (some (111, false))⟩, true, false, none, []⟩,
  ⟨⟨(some 118), (.mv (.t 1)), (some (111, false))⟩, true, false, none, []⟩,
  ⟨⟨(some 119), (.mv (.t 0)), (some (111, false))⟩, true, false, none, []⟩,
  ⟨⟨(some 120), (.mv (.t 1)), (some (111, false))⟩, true, false, none, []⟩,
  ⟨⟨(some 121), (.idx 1 (.t 119) (.t 120)), (some (111, false))⟩, true, false, none, []⟩,
  ⟨⟨(some 122), (.load .sc 1 (.t 121)), (some (111, false))⟩, true, false, none, []⟩,
  ⟨⟨(some 117), (.call F_tree_Leaf [(.sc, (.t 112)), (.sc, (.t 116))]), (some (111, false))⟩, false, true, (some [121, 119]), []⟩,
  ⟨⟨(some 123), (.call F_ref31_LeafText [(.sc, (.t 118)), (.sc, (.t 122))]), (some (111, false))⟩, false, false, none, []⟩,
  ⟨⟨(some 124), (.call F_ref03_Sum [(.sc, (.t 123))]), (some (111, false))⟩, false, false, none, []⟩,
  ⟨⟨(some 125), (.eq (.ia 32) true (.t 117) (.t 124)), (some (111, false))⟩, true, false, none, []⟩,
  ⟨⟨(some 126), (.pick (.t 111) (.v (.bool true)) (.t 125)), none⟩, true, false, none, []⟩]
def q_law31_TreeRoots_11 : List AOper := [
  ⟨(some 6), (.mv (.v (.bool false))), none⟩]
def q_law31_TreeRoots_12 : List AOper := [
  ⟨(some 127), (.mv (.t 2)), none⟩,
  ⟨(some 128), (.bin .gtr (.t 127) (.v (.int .i64 1099511627776))), none⟩]
def q_law31_TreeRoots_13 : List AOper := [
  ⟨(some 129), (.call F_law31_works []), none⟩,
  ⟨(some 6), (.mv (.t 129)), none⟩]
def q_law31_TreeRoots_14 : List AOper := [
  ⟨(some 130), (.mv (.t 2)), none⟩,
  ⟨(some 131), (.call F_tree_Depth [(.sc, (.t 130))]), none⟩,
  ⟨(some 132), (.mv (.t 2)), none⟩,
  ⟨(some 133), (.call F_ref31_Rows [(.sc, (.t 132))]), none⟩,
  ⟨(some 134), (.eq .scI false (.t 131) (.t 133)), none⟩,
  ⟨(some 135), (.mv (.t 134)), none⟩,
  ⟨(some 136), (.call F_law31_works []), (some (135, true))⟩,
  ⟨(some 137), (.pick (.t 135) (.t 136) (.v (.bool false))), none⟩,
  ⟨(some 6), (.mv (.t 137)), none⟩]
def a_law31_TreeRoots : AFunc := ⟨[(.tmp 6)], (.seq (.region q_law31_TreeRoots_0) (.seq (.seq (.region q_law31_TreeRoots_1) (.cond (.t 15) (.seq (.region q_law31_TreeRoots_2) .ret) .skip)) (.seq (.region q_law31_TreeRoots_3) (.seq (.region q_law31_TreeRoots_4) (.seq (.seq (.region q_law31_TreeRoots_5) (.cond (.t 40) (.seq (.region q_law31_TreeRoots_6) .ret) .skip)) (.seq (.region q_law31_TreeRoots_7) (.seq (.seq (.region q_law31_TreeRoots_8) (.cond (.t 58) (.seq (.region q_law31_TreeRoots_9) .ret) .skip)) (.seq (.seq (.regionD q_law31_TreeRoots_10) (.cond (.t 126) (.seq (.region q_law31_TreeRoots_11) .ret) .skip)) (.seq (.seq (.region q_law31_TreeRoots_12) (.cond (.t 128) (.seq (.region q_law31_TreeRoots_13) .ret) .skip)) (.seq (.region q_law31_TreeRoots_14) .ret))))))))))⟩

def q_law31_TreeBack_0 : List AOper := [
  ⟨(some 2), (.mv (.v (.bool false))), none⟩]
def q_law31_TreeBack_1 : List AOper := [
  ⟨(some 10), (.mv (.t 0)), none⟩,
  ⟨(some 11), (.call F_law31_light [(.sc, (.t 10))]), none⟩,
  ⟨(some 12), (.un .not (.t 11)), none⟩,
  ⟨(some 13), (.mv (.t 12)), none⟩,
  ⟨(some 14), (.mv (.t 0)), (some (13, false))⟩,
  ⟨(some 15), (.len false (.t 14)), (some (13, false))⟩,
  ⟨(some 16), (.eq .scI false (.t 15) (.v (.int .i64 0))), (some (13, false))⟩,
  ⟨(some 17), (.pick (.t 13) (.v (.bool true)) (.t 16)), none⟩]
def q_law31_TreeBack_2 : List AOper := [
  ⟨(some 18), (.call F_law31_works []), none⟩,
  ⟨(some 2), (.mv (.t 18)), none⟩]
def q_law31_TreeBack_3 : List AOper := [
  ⟨(some 20), (.mv (.t 0)), none⟩,
  ⟨(some 21), (.call F_tree_Root [(.sc, (.t 20))]), none⟩,
  ⟨(some 19), (.mv (.t 21)), none⟩,
  ⟨(some 22), (.ext 0 (.t 19)), none⟩,
  ⟨(some 23), (.ext 1 (.t 19)), none⟩,
  ⟨(some 3), (.alloc 23 [(.iarr .u8 32 (List.replicate 32 0))]), none⟩,
  ⟨none, (.store (.ia .u8 32) 32 (.t 3) (.t 22)), none⟩,
  ⟨(some 4), (.mv (.t 23)), none⟩]
def q_law31_TreeBack_4 : List AOper := [
  ⟨(some 25), (.mv (.t 0)), none⟩,
  ⟨(some 26), (.call F_tree_All [(.sc, (.t 25))]), none⟩,
  ⟨(some 24), (.mv (.t 26)), none⟩,
  ⟨(some 27), (.ext 0 (.t 24)), none⟩,
  ⟨(some 28), (.ext 1 (.t 24)), none⟩,
  ⟨(some 5), (.mv (.t 27)), none⟩,
  ⟨(some 6), (.mv (.t 28)), none⟩]
def q_law31_TreeBack_5 : List AOper := [
  ⟨(some 29), (.mv (.t 4)), none⟩,
  ⟨(some 30), (.eq .scI true (.t 29) (.v (.int .i64 0))), none⟩,
  ⟨(some 31), (.mv (.t 30)), none⟩,
  ⟨(some 32), (.mv (.t 6)), (some (31, false))⟩,
  ⟨(some 33), (.eq .scI true (.t 32) (.v (.int .i64 0))), (some (31, false))⟩,
  ⟨(some 34), (.pick (.t 31) (.v (.bool true)) (.t 33)), none⟩,
  ⟨(some 35), (.mv (.t 34)), none⟩,
  ⟨(some 36), (.mv (.t 5)), (some (35, false))⟩,
  ⟨(some 37), (.len false (.t 36)), (some (35, false))⟩,
  ⟨(some 38), (.mv (.t 0)), (some (35, false))⟩,
  ⟨(some 39), (.len false (.t 38)), (some (35, false))⟩,
  ⟨(some 40), (.eq .scI true (.t 37) (.t 39)), (some (35, false))⟩,
  ⟨(some 41), (.pick (.t 35) (.v (.bool true)) (.t 40)), none⟩]
def q_law31_TreeBack_6 : List AOper := [
  ⟨(some 2), (.mv (.v (.bool false))), none⟩]
def q_law31_TreeBack_7 : List AOper := [
  ⟨(some 7), (.mv (.v (.int .i64 0))), none⟩]
def q_law31_TreeBack_8 : List AOper := [
  ⟨(some 42), (.mv (.t 7)), none⟩,
  ⟨(some 43), (.mv (.t 0)), none⟩,
  ⟨(some 44), (.len false (.t 43)), none⟩,
  ⟨(some 45), (.bin .lss (.t 42) (.t 44)), none⟩]
def q_law31_TreeBack_9 : List DOp := [
  ⟨⟨(some 49), (.mv (.t 5)), none⟩, true, false, none, []⟩,
  ⟨⟨(some 50), (.mv (.t 7)), none⟩, true, false, none, []⟩,
  ⟨⟨(some 51), (.idx 3 (.t 49) (.t 50)), none⟩, true, false, none, []⟩,
  ⟨⟨(some 52), (.load .ag 3 (.t 51)), none⟩, true, false, none, []⟩,
  ⟨⟨(some 53), (.mv (.t 0)), none⟩, true, false, none, []⟩,
  ⟨⟨(some 54), (.mv (.t 7)), none⟩, true, false, none, []⟩,
  ⟨⟨(some 55), (.idx 1 (.t 53) (.t 54)), none⟩, true, false, none, []⟩,
  ⟨⟨(some 56), (.load .sc 1 (.t 55)), none⟩, true, false, none, []⟩,
  ⟨⟨(some 57), (.call F_tree_Climb [(.ag, (.t 52)), (.sc, (.t 56))]), none⟩, false, false, none, []⟩,
  ⟨⟨(some 48), (.mv (.t 57)), none⟩, true, false, none, []⟩,
  ⟨⟨(some 58), (.ext 0 (.t 48)), none⟩, true, false, none, []⟩,
  ⟨⟨(some 59), (.ext 1 (.t 48)), none⟩, true, false, none, []⟩,
  ⟨⟨(some 8), (.alloc 23 [(.iarr .u8 32 (List.replicate 32 0))]), none⟩, false, false, none, []⟩,
  ⟨⟨none, (.store (.ia .u8 32) 32 (.t 8) (.t 58)), none⟩, false, false, none, []⟩,
  ⟨⟨(some 9), (.mv (.t 59)), none⟩, true, false, none, []⟩]
def q_law31_TreeBack_10 : List DOp := [
  ⟨⟨(some 60), (.mv (.t 9)), none⟩, true, false, none, []⟩,
  ⟨⟨(some 61), (.un .not (.t 60)), none⟩, true, false, none, []⟩,
  ⟨⟨(some 62), (.mv (.t 61)), none⟩, true, false, none, []⟩,
  ⟨⟨(some 63), (.load (.ia .u8 32) 32 (.t 8)), (some (62, false))⟩, true, false, none, []⟩,
  ⟨⟨(some 64), (.load (.ia .u8 32) 32 (.t 3)), (some (62, false))⟩, true, false, none, []⟩,
  ⟨⟨(some 65), (.eq (.ia 32) true (.t 63) (.t 64)), (some (62, false))⟩, true, false, none, []⟩,
  ⟨⟨(some 66), (.pick (.t 62) (.v (.bool true)) (.t 65)), none⟩, true, false, none, []⟩,
  ⟨⟨(some 67), (.mv (.t 66)), none⟩, true, false, none, []⟩,
  ⟨⟨(some 68), (.load (.ia .u8 32) 32 (.t 3)), (some (67, false))⟩, true, false, none, []⟩,
  ⟨⟨(some 69), (.mv (.t 5)), (some (67, false))⟩, true, false, none, []⟩,
  ⟨⟨(some 70), (.mv (.t 7)), (some (67, false))⟩, true, false, none, []⟩,
  ⟨⟨(some 71), (.idx 3 (.t 69) (.t 70)), (some (67, false))⟩, true, false, none, []⟩,
  ⟨⟨(some 72), (.load .ag 3 (.t 71)), (some (67, false))⟩, true, false, none, []⟩,
  ⟨⟨(some 73), (.mv (.t 0)), (some (67, false))⟩, true, false, none, []⟩,
  ⟨⟨(some 74), (.mv (.t 7)), (some (67, false))⟩, true, false, none, []⟩,
  ⟨⟨(some 75), (.idx 1 (.t 73) (.t 74)), (some (67, false))⟩, true, false, none, []⟩,
  ⟨⟨(some 76), (.load .sc 1 (.t 75)), (some (67, false))⟩, true, false, none, []⟩,
  ⟨⟨(some 77), (.call F_tree_Verify [((.ia .u8 32), (.t 68)), (.ag, (.t 72)), (.sc, (.t 76))]), (some (67, false))⟩, false, false, none, []⟩,
  ⟨⟨(some 78), (.un .not (.t 77)), (some (67, false))⟩, true, false, none, []⟩,
  ⟨⟨(some 79), (.pick (.t 67) (.v (.bool true)) (.t 78)), none⟩, true, false, none, []⟩,
  ⟨⟨(some 80), (.mv (.t 79)), none⟩, true, false, none, []⟩,
  ⟨⟨(some 81), (.mv (.t 5)), (some (80, false))⟩, true, false, none, []⟩,
  ⟨⟨(some 82), (.mv (.t 7)), (some (80, false))⟩, true, false, none, []⟩,
  ⟨⟨(some 83), (.idx 3 (.t 81) (.t 82)), (some (80, false))⟩, true, false, none, []⟩,
  ⟨⟨(some 84), (.fadr 2 1 .sc (.t 83)), (some (80, false))⟩, true, false, none, []⟩,
  ⟨⟨(some 85), (.load .sc 1 (.t 84)), (some (80, false))⟩, true, false, none, []⟩,
  ⟨⟨(some 86), (.len false (.t 85)), (some (80, false))⟩, true, false, none, []⟩,
  ⟨⟨(some 87), (.mv (.t 0)), (some (80, false))⟩, true, false, none, []⟩,
  ⟨⟨(some 88), (.len false (.t 87)), (some (80, false))⟩, true, false, none, []⟩,
  ⟨⟨(some 89), (.call F_tree_Depth [(.sc, (.t 88))]), (some (80, false))⟩, false, true, (some [84, 81]), []⟩,
  ⟨⟨(some 90), (.bin .gtr (.t 86) (.t 89)), (some (80, false))⟩, true, false, none, []⟩,
  ⟨⟨(some 91), (.pick (.t 80) (.v (.bool true)) (.t 90)), none⟩, true, false, none, []⟩]
def q_law31_TreeBack_11 : List AOper := [
  ⟨(some 2), (.mv (.v (.bool false))), none⟩]
def q_law31_TreeBack_12 : List AOper := [
  ⟨(some 46), (.mv (.t 7)), none⟩,
  ⟨(some 47), (.bin .add (.t 46) (.v (.int .i64 1))), none⟩,
  ⟨(some 7), (.mv (.t 47)), none⟩]
def q_law31_TreeBack_L13 : ACode := (.seq (.seq (.region q_law31_TreeBack_8) (.cond (.t 45) .skip (.exit 0))) (.seq (.block 1 (.seq (.regionD q_law31_TreeBack_9) (.seq (.regionD q_law31_TreeBack_10) (.cond (.t 91) (.seq (.region q_law31_TreeBack_11) .ret) .skip)))) (.region q_law31_TreeBack_12)))
def q_law31_TreeBack_13 : List AOper := [
  ⟨(some 92), (.call F_law31_works []), none⟩,
  ⟨(some 2), (.mv (.t 92)), none⟩]
def a_law31_TreeBack : AFunc := ⟨[(.tmp 2)], (.seq (.region q_law31_TreeBack_0) (.seq (.seq (.region q_law31_TreeBack_1) (.cond (.t 17) (.seq (.region q_law31_TreeBack_2) .ret) .skip)) (.seq (.region q_law31_TreeBack_3) (.seq (.region q_law31_TreeBack_4) (.seq (.seq (.region q_law31_TreeBack_5) (.cond (.t 41) (.seq (.region q_law31_TreeBack_6) .ret) .skip)) (.seq (.seq (.region q_law31_TreeBack_7) (.block 0 (.loop q_law31_TreeBack_L13))) (.seq (.region q_law31_TreeBack_13) .ret)))))))⟩

def q_law31_TreeTells_0 : List AOper := [
  ⟨(some 4), (.box 82 .ag (.t 1)), none⟩,
  ⟨(some 6), (.mv (.v (.bool false))), none⟩]
def q_law31_TreeTells_1 : List AOper := [
  ⟨(some 14), (.mv (.t 0)), none⟩,
  ⟨(some 15), (.call F_law31_light [(.sc, (.t 14))]), none⟩,
  ⟨(some 16), (.un .not (.t 15)), none⟩,
  ⟨(some 17), (.mv (.t 16)), none⟩,
  ⟨(some 18), (.mv (.t 0)), (some (17, false))⟩,
  ⟨(some 19), (.len false (.t 18)), (some (17, false))⟩,
  ⟨(some 20), (.eq .scI false (.t 19) (.v (.int .i64 0))), (some (17, false))⟩,
  ⟨(some 21), (.pick (.t 17) (.v (.bool true)) (.t 20)), none⟩,
  ⟨(some 22), (.mv (.t 21)), none⟩,
  ⟨(some 23), (.mv (.t 2)), (some (22, false))⟩,
  ⟨(some 24), (.len false (.t 23)), (some (22, false))⟩,
  ⟨(some 25), (.bin .gtr (.t 24) (.v (.int .i64 100))), (some (22, false))⟩,
  ⟨(some 26), (.pick (.t 22) (.v (.bool true)) (.t 25)), none⟩,
  ⟨(some 27), (.mv (.t 26)), none⟩,
  ⟨(some 28), (.fadr 2 1 .sc (.t 4)), (some (27, false))⟩,
  ⟨(some 29), (.load .sc 1 (.t 28)), (some (27, false))⟩,
  ⟨(some 30), (.len false (.t 29)), (some (27, false))⟩,
  ⟨(some 31), (.bin .gtr (.t 30) (.v (.int .i64 20))), (some (27, false))⟩,
  ⟨(some 32), (.pick (.t 27) (.v (.bool true)) (.t 31)), none⟩]
def q_law31_TreeTells_2 : List AOper := [
  ⟨(some 33), (.call F_law31_works []), none⟩,
  ⟨(some 6), (.mv (.t 33)), none⟩]
def q_law31_TreeTells_3 : List AOper := [
  ⟨(some 35), (.mv (.t 0)), none⟩,
  ⟨(some 36), (.call F_tree_Root [(.sc, (.t 35))]), none⟩,
  ⟨(some 34), (.mv (.t 36)), none⟩,
  ⟨(some 37), (.ext 0 (.t 34)), none⟩,
  ⟨(some 38), (.ext 1 (.t 34)), none⟩,
  ⟨(some 7), (.alloc 23 [(.iarr .u8 32 (List.replicate 32 0))]), none⟩,
  ⟨none, (.store (.ia .u8 32) 32 (.t 7) (.t 37)), none⟩,
  ⟨(some 8), (.mv (.t 38)), none⟩]
def q_law31_TreeTells_4 : List AOper := [
  ⟨(some 39), (.mv (.t 8)), none⟩,
  ⟨(some 40), (.eq .scI true (.t 39) (.v (.int .i64 0))), none⟩,
  ⟨(some 41), (.mv (.t 40)), none⟩,
  ⟨(some 42), (.load (.ia .u8 32) 32 (.t 7)), (some (41, false))⟩,
  ⟨(some 43), (.load .ag 3 (.t 4)), (some (41, false))⟩,
  ⟨(some 44), (.mv (.t 2)), (some (41, false))⟩,
  ⟨(some 45), (.call F_tree_Verify [((.ia .u8 32), (.t 42)), (.ag, (.t 43)), (.sc, (.t 44))]), (some (41, false))⟩,
  ⟨(some 46), (.un .not (.t 45)), (some (41, false))⟩,
  ⟨(some 47), (.pick (.t 41) (.v (.bool true)) (.t 46)), none⟩]
def q_law31_TreeTells_5 : List AOper := [
  ⟨(some 48), (.call F_law31_works []), none⟩,
  ⟨(some 6), (.mv (.t 48)), none⟩]
def q_law31_TreeTells_6 : List DOp := [
  ⟨⟨(some 49), (.fadr 1 1 .sc (.t 4)), none⟩, true, false, none, []⟩,
  ⟨⟨(some 50), (.load .sc 1 (.t 49)), none⟩, true, false, none, []⟩,
  ⟨⟨(some 51), (.mv (.t 0)), none⟩, true, false, none, []⟩,
  ⟨⟨(some 52), (.len false (.t 51)), none⟩, true, false, none, []⟩,
  ⟨⟨(some 53), (.eq .scI false (.t 50) (.t 52)), none⟩, true, false, none, []⟩,
  ⟨⟨(some 54), (.mv (.t 53)), none⟩, true, false, none, []⟩,
  ⟨⟨(some 55), (.fadr 0 1 .sc (.t 4)), (some (54, true))⟩, true, false, none, []⟩,
  ⟨⟨(some 56), (.load .sc 1 (.t 55)), (some (54, true))⟩, true, false, none, []⟩,
  ⟨⟨(some 57), (.bin .geq (.t 56) (.v (.int .i64 0))), (some (54, true))⟩, true, false, none, []⟩,
  ⟨⟨(some 58), (.pick (.t 54) (.t 57) (.v (.bool false))), none⟩, true, false, none, []⟩,
  ⟨⟨(some 59), (.mv (.t 58)), none⟩, true, false, none, []⟩,
  ⟨⟨(some 60), (.fadr 0 1 .sc (.t 4)), (some (59, true))⟩, true, false, none, []⟩,
  ⟨⟨(some 61), (.load .sc 1 (.t 60)), (some (59, true))⟩, true, false, none, []⟩,
  ⟨⟨(some 62), (.mv (.t 0)), (some (59, true))⟩, true, false, none, []⟩,
  ⟨⟨(some 63), (.len false (.t 62)), (some (59, true))⟩, true, false, none, []⟩,
  ⟨⟨(some 64), (.bin .lss (.t 61) (.t 63)), (some (59, true))⟩, true, false, none, []⟩,
  ⟨⟨(some 65), (.pick (.t 59) (.t 64) (.v (.bool false))), none⟩, true, false, none, []⟩,
  ⟨⟨(some 66), (.mv (.t 65)), none⟩, true, false, none, []⟩,
  ⟨⟨(some 67), (.mv (.t 0)), (some (66, true))⟩, true, false, none, []⟩,
  ⟨⟨(some 68), (.fadr 0 1 .sc (.t 4)), (some (66, true))⟩, true, false, none, []⟩,
  ⟨⟨(some 69), (.load .sc 1 (.t 68)), (some (66, true))⟩, true, false, none, []⟩,
  ⟨⟨(some 70), (.idx 1 (.t 67) (.t 69)), (some (66, true))⟩, true, false, none, []⟩,
  ⟨⟨(some 71), (.load .sc 1 (.t 70)), (some (66, true))⟩, true, false, none, []⟩,
  ⟨⟨(some 72), (.xx .bstr [(.t 71)]), (some (66, true))⟩, true, false, none, []⟩,
  ⟨⟨(some 73), (.mv (.t 2)), (some (66, true))⟩, true, false, none, []⟩,
  ⟨⟨(some 74), (.xx .bstr [(.t 73)]), (some (66, true))⟩, true, false, none, []⟩,
  ⟨⟨(some 75), (.eq .scS false (.t 72) (.t 74)), (some (66, true))⟩, true, false, none, []⟩,
  ⟨⟨(some 76), (.pick (.t 66) (.t 75) (.v (.bool false))), none⟩, true, false, none, []⟩]
def q_law31_TreeTells_7 : List AOper := [
  ⟨(some 77), (.call F_law31_works []), none⟩,
  ⟨(some 6), (.mv (.t 77)), none⟩]
def q_law31_TreeTells_8 : List AOper := [
  ⟨(some 78), (.load .ag 3 (.t 4)), none⟩,
  ⟨(some 79), (.mv (.t 2)), none⟩,
  ⟨(some 80), (.call F_law31_texts [(.ag, (.t 78)), (.sc, (.t 79))]), none⟩,
  ⟨(some 9), (.mv (.t 80)), none⟩]
def q_law31_TreeTells_9 : List AOper := [
  ⟨(some 81), (.fadr 0 1 .sc (.t 4)), none⟩,
  ⟨(some 82), (.load .sc 1 (.t 81)), none⟩,
  ⟨(some 83), (.bin .lss (.t 82) (.v (.int .i64 0))), none⟩,
  ⟨(some 84), (.mv (.t 83)), none⟩,
  ⟨(some 85), (.fadr 0 1 .sc (.t 4)), (some (84, false))⟩,
  ⟨(some 86), (.load .sc 1 (.t 85)), (some (84, false))⟩,
  ⟨(some 87), (.mv (.t 0)), (some (84, false))⟩,
  ⟨(some 88), (.len false (.t 87)), (some (84, false))⟩,
  ⟨(some 89), (.bin .geq (.t 86) (.t 88)), (some (84, false))⟩,
  ⟨(some 90), (.pick (.t 84) (.v (.bool true)) (.t 89)), none⟩]
def q_law31_TreeTells_10 : List AOper := [
  ⟨(some 92), (.mv (.t 0)), none⟩,
  ⟨(some 93), (.call F_tree_Prove [(.sc, (.t 92)), (.sc, (.v (.int .i64 0)))]), none⟩,
  ⟨(some 91), (.mv (.t 93)), none⟩,
  ⟨(some 94), (.ext 0 (.t 91)), none⟩,
  ⟨(some 95), (.ext 1 (.t 91)), none⟩,
  ⟨(some 10), (.alloc 82 [(.int .i64 0), (.int .i64 0), .nilS]), none⟩,
  ⟨none, (.store .ag 3 (.t 10) (.t 94)), none⟩,
  ⟨(some 11), (.mv (.t 95)), none⟩]
def q_law31_TreeTells_11 : List DOp := [
  ⟨⟨(some 96), (.mv (.t 9)), none⟩, true, false, none, []⟩,
  ⟨⟨(some 97), (.load .ag 3 (.t 10)), none⟩, true, false, none, []⟩,
  ⟨⟨(some 98), (.mv (.t 0)), none⟩, true, false, none, []⟩,
  ⟨⟨(some 99), (.idx 1 (.t 98) (.v (.int .i64 0))), none⟩, true, false, none, []⟩,
  ⟨⟨(some 100), (.load .sc 1 (.t 99)), none⟩, true, false, none, []⟩,
  ⟨⟨(some 101), (.call F_law31_texts [(.ag, (.t 97)), (.sc, (.t 100))]), none⟩, false, false, none, []⟩,
  ⟨⟨(some 102), (.app 22 1 24 (.t 96) (.t 101)), none⟩, false, false, none, []⟩,
  ⟨⟨(some 103), (.call F_law31_clash [(.sc, (.t 102))]), none⟩, false, false, none, []⟩,
  ⟨⟨(some 6), (.mv (.t 103)), none⟩, true, false, none, []⟩]
def q_law31_TreeTells_12 : List AOper := [
  ⟨(some 105), (.mv (.t 0)), none⟩,
  ⟨(some 106), (.fadr 0 1 .sc (.t 4)), none⟩,
  ⟨(some 107), (.load .sc 1 (.t 106)), none⟩,
  ⟨(some 108), (.call F_tree_Prove [(.sc, (.t 105)), (.sc, (.t 107))]), none⟩,
  ⟨(some 104), (.mv (.t 108)), none⟩,
  ⟨(some 109), (.ext 0 (.t 104)), none⟩,
  ⟨(some 110), (.ext 1 (.t 104)), none⟩,
  ⟨(some 12), (.alloc 82 [(.int .i64 0), (.int .i64 0), .nilS]), none⟩,
  ⟨none, (.store .ag 3 (.t 12) (.t 109)), none⟩,
  ⟨(some 13), (.mv (.t 110)), none⟩]
def q_law31_TreeTells_13 : List DOp := [
  ⟨⟨(some 111), (.mv (.t 9)), none⟩, true, false, none, []⟩,
  ⟨⟨(some 112), (.load .ag 3 (.t 12)), none⟩, true, false, none, []⟩,
  ⟨⟨(some 113), (.mv (.t 0)), none⟩, true, false, none, []⟩,
  ⟨⟨(some 114), (.fadr 0 1 .sc (.t 4)), none⟩, true, false, none, []⟩,
  ⟨⟨(some 115), (.load .sc 1 (.t 114)), none⟩, true, false, none, []⟩,
  ⟨⟨(some 116), (.idx 1 (.t 113) (.t 115)), none⟩, true, false, none, []⟩,
  ⟨⟨(some 117), (.load .sc 1 (.t 116)), none⟩, true, false, none, []⟩,
  ⟨⟨(some 118), (.call F_law31_texts [(.ag, (.t 112)), (.sc, (.t 117))]), none⟩, false, false, none, []⟩,
  ⟨⟨(some 119), (.app 22 1 24 (.t 111) (.t 118)), none⟩, false, false, none, []⟩,
  ⟨⟨(some 120), (.call F_law31_clash [(.sc, (.t 119))]), none⟩, false, false, none, []⟩,
  ⟨⟨(some 6), (.mv (.t 120)), none⟩, true, false, none, []⟩]
def a_law31_TreeTells : AFunc := ⟨[(.tmp 6)], (.seq (.region q_law31_TreeTells_0) (.seq (.seq (.region q_law31_TreeTells_1) (.cond (.t 32) (.seq (.region q_law31_TreeTells_2) .ret) .skip)) (.seq (.region q_law31_TreeTells_3) (.seq (.seq (.region q_law31_TreeTells_4) (.cond (.t 47) (.seq (.region q_law31_TreeTells_5) .ret) .skip)) (.seq (.seq (.regionD q_law31_TreeTells_6) (.cond (.t 76) (.seq (.region q_law31_TreeTells_7) .ret) .skip)) (.seq (.region q_law31_TreeTells_8) (.seq (.seq (.region q_law31_TreeTells_9) (.cond (.t 90) (.seq (.region q_law31_TreeTells_10) (.seq (.regionD q_law31_TreeTells_11) .ret)) .skip)) (.seq (.region q_law31_TreeTells_12) (.seq (.regionD q_law31_TreeTells_13) .ret)))))))))⟩

def q_law31_light_0 : List AOper := [
  ⟨(some 2), (.mv (.v (.bool false))), none⟩]
def q_law31_light_1 : List AOper := [
  ⟨(some 4), (.mv (.t 0)), none⟩,
  ⟨(some 5), (.len false (.t 4)), none⟩,
  ⟨(some 6), (.bin .gtr (.t 5) (.v (.int .i64 40))), none⟩]
def q_law31_light_2 : List AOper := [
  ⟨(some 2), (.mv (.v (.bool false))), none⟩]
def q_law31_light_3 : List AOper := [
  ⟨(some 3), (.mv (.v (.int .i64 0))), none⟩]
def q_law31_light_4 : List AOper := [
  ⟨(some 7), (.mv (.t 3)), none⟩,
  ⟨(some 8), (.mv (.t 0)), none⟩,
  ⟨(some 9), (.len false (.t 8)), none⟩,
  ⟨(some 10), (.bin .lss (.t 7) (.t 9)), none⟩]
def q_law31_light_5 : List AOper := [
  ⟨(some 13), (.mv (.t 0)), none⟩,
  ⟨(some 14), (.mv (.t 3)), none⟩,
  ⟨(some 15), (.idx 1 (.t 13) (.t 14)), none⟩,
  ⟨(some 16), (.load .sc 1 (.t 15)), none⟩,
  ⟨(some 17), (.len false (.t 16)), none⟩,
  ⟨(some 18), (.bin .gtr (.t 17) (.v (.int .i64 100))), none⟩]
def q_law31_light_6 : List AOper := [
  ⟨(some 2), (.mv (.v (.bool false))), none⟩]
def q_law31_light_7 : List AOper := [
  ⟨(some 11), (.mv (.t 3)), none⟩,
  ⟨(some 12), (.bin .add (.t 11) (.v (.int .i64 1))), none⟩,
  ⟨(some 3), (.mv (.t 12)), none⟩]
def q_law31_light_L8 : ACode := (.seq (.seq (.region q_law31_light_4) (.cond (.t 10) .skip (.exit 0))) (.seq (.block 1 (.seq (.region q_law31_light_5) (.cond (.t 18) (.seq (.region q_law31_light_6) .ret) .skip))) (.region q_law31_light_7)))
def q_law31_light_8 : List AOper := [
  ⟨(some 2), (.mv (.v (.bool true))), none⟩]
def a_law31_light : AFunc := ⟨[(.tmp 2)], (.seq (.region q_law31_light_0) (.seq (.seq (.region q_law31_light_1) (.cond (.t 6) (.seq (.region q_law31_light_2) .ret) .skip)) (.seq (.seq (.region q_law31_light_3) (.block 0 (.loop q_law31_light_L8))) (.seq (.region q_law31_light_8) .ret))))⟩

def q_law31_works_0 : List AOper := [
  ⟨(some 0), (.mv (.v (.bool false))), none⟩]
def q_law31_works_1 : List AOper := [
  ⟨(some 14), (.bslI 5 .u8 [(.v (.int .u8 97))]), none⟩,
  ⟨(some 15), (.xx .sealB [(.t 14)]), none⟩,
  ⟨(some 16), (.bslI 5 .u8 [(.v (.int .u8 98))]), none⟩,
  ⟨(some 17), (.xx .sealB [(.t 16)]), none⟩,
  ⟨(some 18), (.bslI 5 .u8 [(.v (.int .u8 99))]), none⟩,
  ⟨(some 19), (.xx .sealB [(.t 18)]), none⟩,
  ⟨(some 20), (.bsl 22 .sc 1 [(.t 15), (.t 17), (.t 19)]), none⟩,
  ⟨(some 1), (.mv (.t 20)), none⟩]
def q_law31_works_2 : List AOper := [
  ⟨(some 22), (.mv (.t 1)), none⟩,
  ⟨(some 23), (.call F_tree_Root [(.sc, (.t 22))]), none⟩,
  ⟨(some 21), (.mv (.t 23)), none⟩,
  ⟨(some 24), (.ext 0 (.t 21)), none⟩,
  ⟨(some 25), (.ext 1 (.t 21)), none⟩,
  ⟨(some 2), (.alloc 23 [(.iarr .u8 32 (List.replicate 32 0))]), none⟩,
  ⟨none, (.store (.ia .u8 32) 32 (.t 2) (.t 24)), none⟩,
  ⟨(some 3), (.mv (.t 25)), none⟩]
def q_law31_works_3 : List AOper := [
  ⟨(some 27), (.mv (.t 1)), none⟩,
  ⟨(some 28), (.call F_tree_Prove [(.sc, (.t 27)), (.sc, (.v (.int .i64 2)))]), none⟩,
  ⟨(some 26), (.mv (.t 28)), none⟩,
  ⟨(some 29), (.ext 0 (.t 26)), none⟩,
  ⟨(some 30), (.ext 1 (.t 26)), none⟩,
  ⟨(some 4), (.alloc 82 [(.int .i64 0), (.int .i64 0), .nilS]), none⟩,
  ⟨none, (.store .ag 3 (.t 4) (.t 29)), none⟩,
  ⟨(some 5), (.mv (.t 30)), none⟩]
def q_law31_works_4 : List AOper := [
  ⟨(some 32), (.mv (.t 1)), none⟩,
  ⟨(some 33), (.call F_tree_Prove [(.sc, (.t 32)), (.sc, (.v (.int .i64 3)))]), none⟩,
  ⟨(some 31), (.mv (.t 33)), none⟩,
  ⟨(some 34), (.ext 0 (.t 31)), none⟩,
  ⟨(some 35), (.ext 1 (.t 31)), none⟩,
  ⟨(some 6), (.alloc 82 [(.int .i64 0), (.int .i64 0), .nilS]), none⟩,
  ⟨none, (.store .ag 3 (.t 6) (.t 34)), none⟩,
  ⟨(some 7), (.mv (.t 35)), none⟩]
def q_law31_works_5 : List AOper := [
  ⟨(some 37), (.call F_tree_Root [(.sc, (.v .nilS))]), none⟩,
  ⟨(some 36), (.mv (.t 37)), none⟩,
  ⟨(some 38), (.ext 0 (.t 36)), none⟩,
  ⟨(some 39), (.ext 1 (.t 36)), none⟩,
  ⟨(some 8), (.alloc 23 [(.iarr .u8 32 (List.replicate 32 0))]), none⟩,
  ⟨none, (.store (.ia .u8 32) 32 (.t 8) (.t 38)), none⟩,
  ⟨(some 9), (.mv (.t 39)), none⟩]
def q_law31_works_6 : List AOper := [
  ⟨(some 41), (.mv (.t 1)), none⟩,
  ⟨(some 42), (.call F_tree_All [(.sc, (.t 41))]), none⟩,
  ⟨(some 40), (.mv (.t 42)), none⟩,
  ⟨(some 43), (.ext 0 (.t 40)), none⟩,
  ⟨(some 44), (.ext 1 (.t 40)), none⟩,
  ⟨(some 10), (.mv (.t 43)), none⟩,
  ⟨(some 11), (.mv (.t 44)), none⟩]
def q_law31_works_7 : List AOper := [
  ⟨(some 46), (.load .ag 3 (.t 4)), none⟩,
  ⟨(some 47), (.bslI 5 .u8 [(.v (.int .u8 99))]), none⟩,
  ⟨(some 48), (.xx .sealB [(.t 47)]), none⟩,
  ⟨(some 49), (.call F_tree_Climb [(.ag, (.t 46)), (.sc, (.t 48))]), none⟩,
  ⟨(some 45), (.mv (.t 49)), none⟩,
  ⟨(some 50), (.ext 0 (.t 45)), none⟩,
  ⟨(some 51), (.ext 1 (.t 45)), none⟩,
  ⟨(some 12), (.alloc 23 [(.iarr .u8 32 (List.replicate 32 0))]), none⟩,
  ⟨none, (.store (.ia .u8 32) 32 (.t 12) (.t 50)), none⟩,
  ⟨(some 13), (.mv (.t 51)), none⟩]
def q_law31_works_8 : List AOper := [
  ⟨(some 52), (.mv (.t 3)), none⟩,
  ⟨(some 53), (.eq .scI false (.t 52) (.v (.int .i64 0))), none⟩,
  ⟨(some 54), (.mv (.t 53)), none⟩,
  ⟨(some 55), (.mv (.t 5)), (some (54, true))⟩,
  ⟨(some 56), (.eq .scI false (.t 55) (.v (.int .i64 0))), (some (54, true))⟩,
  ⟨(some 57), (.pick (.t 54) (.t 56) (.v (.bool false))), none⟩,
  ⟨(some 58), (.mv (.t 57)), none⟩,
  ⟨(some 59), (.fadr 2 1 .sc (.t 4)), (some (58, true))⟩,
  ⟨(some 60), (.load .sc 1 (.t 59)), (some (58, true))⟩,
  ⟨(some 61), (.len false (.t 60)), (some (58, true))⟩,
  ⟨(some 62), (.eq .scI false (.t 61) (.v (.int .i64 1))), (some (58, true))⟩,
  ⟨(some 63), (.pick (.t 58) (.t 62) (.v (.bool false))), none⟩,
  ⟨(some 64), (.mv (.t 63)), none⟩,
  ⟨(some 65), (.load (.ia .u8 32) 32 (.t 2)), (some (64, true))⟩,
  ⟨(some 66), (.load .ag 3 (.t 4)), (some (64, true))⟩,
  ⟨(some 67), (.bslI 5 .u8 [(.v (.int .u8 99))]), (some (64, true))⟩,
  ⟨(some 68), (.xx .sealB [(.t 67)]), (some (64, true))⟩,
  ⟨(some 69), (.call F_tree_Verify [((.ia .u8 32), (.t 65)), (.ag, (.t 66)), (.sc, (.t 68))]), (some (64, true))⟩,
  ⟨(some 70), (.pick (.t 64) (.t 69) (.v (.bool false))), none⟩,
  ⟨(some 71), (.mv (.t 70)), none⟩,
  ⟨(some 72), (.load (.ia .u8 32) 32 (.t 2)), (some (71, true))⟩,
  ⟨(some 73), (.load .ag 3 (.t 4)), (some (71, true))⟩,
  ⟨(some 74), (.bslI 5 .u8 [(.v (.int .u8 100))]), (some (71, true))⟩,
  ⟨(some 75), (.xx .sealB [(.t 74)]), (some (71, true))⟩,
  ⟨(some 76), (.call F_tree_Verify [((.ia .u8 32), (.t 72)), (.ag, (.t 73)), (.sc, (.t 75))]), (some (71, true))⟩,
  ⟨(some 77), (.un .not (.t 76)), (some (71, true))⟩,
  ⟨(some 78), (.pick (.t 71) (.t 77) (.v (.bool false))), none⟩,
  ⟨(some 79), (.mv (.t 78)), none⟩,
  ⟨(some 80), (.mv (.t 7)), (some (79, true))⟩,
  ⟨(some 81), (.eq .scI false (.t 80) (.v (.int .i64 2))), (some (79, true))⟩,
  ⟨(some 82), (.pick (.t 79) (.t 81) (.v (.bool false))), none⟩,
  ⟨(some 83), (.mv (.t 82)), none⟩,
  ⟨(some 84), (.mv (.t 9)), (some (83, true))⟩,
  ⟨(some 85), (.eq .scI false (.t 84) (.v (.int .i64 1))), (some (83, true))⟩,
  ⟨(some 86), (.pick (.t 83) (.t 85) (.v (.bool false))), none⟩,
  ⟨(some 87), (.mv (.t 86)), none⟩,
  ⟨(some 88), (.mv (.t 11)), (some (87, true))⟩,
  ⟨(some 89), (.eq .scI false (.t 88) (.v (.int .i64 0))), (some (87, true))⟩,
  ⟨(some 90), (.pick (.t 87) (.t 89) (.v (.bool false))), none⟩,
  ⟨(some 91), (.mv (.t 90)), none⟩,
  ⟨(some 92), (.mv (.t 10)), (some (91, true))⟩,
  ⟨(some 93), (.len false (.t 92)), (some (91, true))⟩,
  ⟨(some 94), (.eq .scI false (.t 93) (.v (.int .i64 3))), (some (91, true))⟩,
  ⟨(some 95), (.pick (.t 91) (.t 94) (.v (.bool false))), none⟩,
  ⟨(some 96), (.mv (.t 95)), none⟩,
  ⟨(some 97), (.mv (.t 13)), (some (96, true))⟩,
  ⟨(some 98), (.pick (.t 96) (.t 97) (.v (.bool false))), none⟩,
  ⟨(some 99), (.mv (.t 98)), none⟩,
  ⟨(some 100), (.load (.ia .u8 32) 32 (.t 12)), (some (99, true))⟩,
  ⟨(some 101), (.load (.ia .u8 32) 32 (.t 2)), (some (99, true))⟩,
  ⟨(some 102), (.eq (.ia 32) false (.t 100) (.t 101)), (some (99, true))⟩,
  ⟨(some 103), (.pick (.t 99) (.t 102) (.v (.bool false))), none⟩,
  ⟨(some 104), (.mv (.t 103)), none⟩,
  ⟨(some 105), (.call F_tree_Depth [(.sc, (.v (.int .i64 3)))]), (some (104, true))⟩,
  ⟨(some 106), (.eq .scI false (.t 105) (.v (.int .i64 2))), (some (104, true))⟩,
  ⟨(some 107), (.pick (.t 104) (.t 106) (.v (.bool false))), none⟩,
  ⟨(some 108), (.mv (.t 107)), none⟩,
  ⟨(some 109), (.call F_tree_Depth [(.sc, (.v (.int .i64 1)))]), (some (108, true))⟩,
  ⟨(some 110), (.eq .scI false (.t 109) (.v (.int .i64 0))), (some (108, true))⟩,
  ⟨(some 111), (.pick (.t 108) (.t 110) (.v (.bool false))), none⟩,
  ⟨(some 112), (.mv (.t 111)), none⟩,
  ⟨(some 113), (.mv (.t 1)), (some (112, true))⟩,
  ⟨(some 114), (.call F_tree_Check [(.sc, (.t 113))]), (some (112, true))⟩,
  ⟨(some 115), (.eq .scI false (.t 114) (.v (.int .i64 0))), (some (112, true))⟩,
  ⟨(some 116), (.pick (.t 112) (.t 115) (.v (.bool false))), none⟩,
  ⟨(some 117), (.mv (.t 116)), none⟩,
  ⟨(some 118), (.call F_tree_Leaf [(.sc, (.v (.int .i64 0))), (.sc, (.v .nilS))]), (some (117, true))⟩,
  ⟨(some 119), (.call F_tree_Leaf [(.sc, (.v (.int .i64 1))), (.sc, (.v .nilS))]), (some (117, true))⟩,
  ⟨(some 120), (.eq (.ia 32) true (.t 118) (.t 119)), (some (117, true))⟩,
  ⟨(some 121), (.pick (.t 117) (.t 120) (.v (.bool false))), none⟩,
  ⟨(some 0), (.mv (.t 121)), none⟩]
def a_law31_works : AFunc := ⟨[(.tmp 0)], (.seq (.region q_law31_works_0) (.seq (.region q_law31_works_1) (.seq (.region q_law31_works_2) (.seq (.region q_law31_works_3) (.seq (.region q_law31_works_4) (.seq (.region q_law31_works_5) (.seq (.region q_law31_works_6) (.seq (.region q_law31_works_7) (.seq (.region q_law31_works_8) .ret)))))))))⟩

def q_law31_texts_0 : List AOper := [
  ⟨(some 2), (.box 82 .ag (.t 0)), none⟩,
  ⟨(some 4), (.mv (.v .nilS)), none⟩]
def q_law31_texts_1 : List AOper := [
  ⟨(some 11), (.fadr 0 1 .sc (.t 2)), none⟩,
  ⟨(some 12), (.load .sc 1 (.t 11)), none⟩,
  ⟨(some 13), (.mv (.t 1)), none⟩,
  ⟨(some 14), (.call F_ref31_LeafText [(.sc, (.t 12)), (.sc, (.t 13))]), none⟩,
  ⟨(some 5), (.mv (.t 14)), none⟩]
def q_law31_texts_2 : List AOper := [
  ⟨(some 15), (.mv (.t 5)), none⟩,
  ⟨(some 16), (.bsl 22 .sc 1 [(.t 15)]), none⟩,
  ⟨(some 6), (.mv (.t 16)), none⟩]
def q_law31_texts_3 : List DOp := [
  ⟨⟨(some 17), (.fadr 0 1 .sc (.t 2)), none⟩, true, false, none, []⟩,
  ⟨⟨(some 18), (.load .sc 1 (.t 17)), none⟩, true, false, none, []⟩,
  ⟨⟨(some 19), (.fadr 1 1 .sc (.t 2)), none⟩, true, false, none, []⟩,
  ⟨⟨(some 20), (.load .sc 1 (.t 19)), none⟩, true, false, none, []⟩,
  ⟨⟨(some 21), (.fadr 2 1 .sc (.t 2)), none⟩, true, false, none, []⟩,
  ⟨⟨(some 22), (.load .sc 1 (.t 21)), none⟩, true, false, none, []⟩,
  ⟨⟨(some 7), (.mv (.t 18)), none⟩, true, false, none, []⟩,
  ⟨⟨(some 8), (.mv (.t 20)), none⟩, true, false, none, []⟩,
  ⟨⟨(some 9), (.mv (.t 22)), none⟩, true, false, none, []⟩]
def q_law31_texts_4 : List AOper := [
  ⟨(some 23), (.mv (.t 8)), none⟩,
  ⟨(some 24), (.bin .gtr (.t 23) (.v (.int .i64 1))), none⟩,
  ⟨(some 25), (.mv (.t 24)), none⟩,
  ⟨(some 26), (.mv (.t 9)), (some (25, true))⟩,
  ⟨(some 27), (.len false (.t 26)), (some (25, true))⟩,
  ⟨(some 28), (.bin .geq (.t 27) (.v (.int .i64 0))), (some (25, true))⟩,
  ⟨(some 29), (.pick (.t 25) (.t 28) (.v (.bool false))), none⟩]
def q_law31_texts_5 : List AOper := [
  ⟨(some 30), (.mv (.t 7)), none⟩,
  ⟨(some 31), (.bin .xor (.t 30) (.v (.int .i64 1))), none⟩,
  ⟨(some 32), (.mv (.t 8)), none⟩,
  ⟨(some 33), (.bin .lss (.t 31) (.t 32)), none⟩]
def q_law31_texts_6 : List AOper := [
  ⟨(some 34), (.mv (.t 9)), none⟩,
  ⟨(some 35), (.len false (.t 34)), none⟩,
  ⟨(some 36), (.eq .scI false (.t 35) (.v (.int .i64 0))), none⟩]
def q_law31_texts_7 : List AOper := [
  ⟨(some 37), (.mv (.t 6)), none⟩,
  ⟨(some 4), (.mv (.t 37)), none⟩]
def q_law31_texts_8 : List AOper := [
  ⟨(some 38), (.mv (.t 5)), none⟩,
  ⟨(some 39), (.call F_ref03_Sum [(.sc, (.t 38))]), none⟩,
  ⟨(some 10), (.alloc 23 [(.iarr .u8 32 (List.replicate 32 0))]), none⟩,
  ⟨none, (.store (.ia .u8 32) 32 (.t 10) (.t 39)), none⟩]
def q_law31_texts_9 : List AOper := [
  ⟨(some 40), (.mv (.t 7)), none⟩,
  ⟨(some 41), (.bin .rem (.t 40) (.v (.int .i64 2))), none⟩,
  ⟨(some 42), (.eq .scI false (.t 41) (.v (.int .i64 0))), none⟩]
def q_law31_texts_10 : List DOp := [
  ⟨⟨(some 43), (.load (.ia .u8 32) 32 (.t 10)), none⟩, true, false, none, []⟩,
  ⟨⟨(some 44), (.mv (.t 9)), none⟩, true, false, none, []⟩,
  ⟨⟨(some 45), (.idx 32 (.t 44) (.v (.int .i64 0))), none⟩, true, false, none, []⟩,
  ⟨⟨(some 46), (.load (.ia .u8 32) 32 (.t 45)), none⟩, true, false, none, []⟩,
  ⟨⟨(some 47), (.call F_ref31_NodeText [((.ia .u8 32), (.t 43)), ((.ia .u8 32), (.t 46))]), none⟩, false, false, none, []⟩,
  ⟨⟨(some 5), (.mv (.t 47)), none⟩, true, false, none, []⟩]
def q_law31_texts_11 : List DOp := [
  ⟨⟨(some 48), (.mv (.t 9)), none⟩, true, false, none, []⟩,
  ⟨⟨(some 49), (.idx 32 (.t 48) (.v (.int .i64 0))), none⟩, true, false, none, []⟩,
  ⟨⟨(some 50), (.load (.ia .u8 32) 32 (.t 49)), none⟩, true, false, none, []⟩,
  ⟨⟨(some 51), (.load (.ia .u8 32) 32 (.t 10)), none⟩, true, false, none, []⟩,
  ⟨⟨(some 52), (.call F_ref31_NodeText [((.ia .u8 32), (.t 50)), ((.ia .u8 32), (.t 51))]), none⟩, false, false, none, []⟩,
  ⟨⟨(some 5), (.mv (.t 52)), none⟩, true, false, none, []⟩]
def q_law31_texts_12 : List AOper := [
  ⟨(some 53), (.mv (.t 6)), none⟩,
  ⟨(some 54), (.mv (.t 5)), none⟩,
  ⟨(some 55), (.bsl 22 .sc 1 [(.t 54)]), none⟩,
  ⟨(some 56), (.app 22 1 24 (.t 53) (.t 55)), none⟩,
  ⟨(some 6), (.mv (.t 56)), none⟩]
def q_law31_texts_13 : List AOper := [
  ⟨(some 57), (.mv (.t 9)), none⟩,
  ⟨(some 58), (.slc 32 (.t 57) (some (.v (.int .i64 1))) none), none⟩,
  ⟨(some 9), (.mv (.t 58)), none⟩]
def q_law31_texts_14 : List AOper := [
  ⟨(some 59), (.mv (.t 7)), none⟩,
  ⟨(some 60), (.bin .quo (.t 59) (.v (.int .i64 2))), none⟩,
  ⟨(some 61), (.mv (.t 8)), none⟩,
  ⟨(some 62), (.bin .add (.t 61) (.v (.int .i64 1))), none⟩,
  ⟨(some 63), (.bin .quo (.t 62) (.v (.int .i64 2))), none⟩,
  ⟨(some 7), (.mv (.t 60)), none⟩,
  ⟨(some 8), (.mv (.t 63)), none⟩]
def q_law31_texts_L15 : ACode := (.seq (.seq (.region q_law31_texts_4) (.cond (.t 29) .skip (.exit 0))) (.block 1 (.seq (.seq (.region q_law31_texts_5) (.cond (.t 33) (.seq (.seq (.region q_law31_texts_6) (.cond (.t 36) (.seq (.region q_law31_texts_7) .ret) .skip)) (.seq (.region q_law31_texts_8) (.seq (.seq (.region q_law31_texts_9) (.cond (.t 42) (.regionD q_law31_texts_10) (.regionD q_law31_texts_11))) (.seq (.region q_law31_texts_12) (.region q_law31_texts_13))))) .skip)) (.region q_law31_texts_14))))
def q_law31_texts_15 : List DOp := [
  ⟨⟨(some 64), (.mv (.t 6)), none⟩, true, false, none, []⟩,
  ⟨⟨(some 65), (.fadr 1 1 .sc (.t 2)), none⟩, true, false, none, []⟩,
  ⟨⟨(some 66), (.load .sc 1 (.t 65)), none⟩, true, false, none, []⟩,
  ⟨⟨(some 67), (.mv (.t 5)), none⟩, true, false, none, []⟩,
  ⟨⟨(some 68), (.call F_ref03_Sum [(.sc, (.t 67))]), none⟩, false, true, (some [65]), []⟩,
  ⟨⟨(some 69), (.call F_ref31_RootText [(.sc, (.t 66)), ((.ia .u8 32), (.t 68))]), none⟩, false, false, none, []⟩,
  ⟨⟨(some 70), (.bsl 22 .sc 1 [(.t 69)]), none⟩, false, false, none, []⟩,
  ⟨⟨(some 71), (.app 22 1 24 (.t 64) (.t 70)), none⟩, false, false, none, []⟩,
  ⟨⟨(some 4), (.mv (.t 71)), none⟩, true, false, none, []⟩]
def a_law31_texts : AFunc := ⟨[(.tmp 4)], (.seq (.region q_law31_texts_0) (.seq (.region q_law31_texts_1) (.seq (.region q_law31_texts_2) (.seq (.regionD q_law31_texts_3) (.seq (.block 0 (.loop q_law31_texts_L15)) (.seq (.regionD q_law31_texts_15) .ret))))))⟩

def q_law31_clash_0 : List AOper := [
  ⟨(some 2), (.mv (.v (.bool false))), none⟩]
def q_law31_clash_1 : List AOper := [
  ⟨(some 3), (.mv (.v (.int .i64 0))), none⟩]
def q_law31_clash_2 : List AOper := [
  ⟨(some 5), (.mv (.t 3)), none⟩,
  ⟨(some 6), (.mv (.t 0)), none⟩,
  ⟨(some 7), (.len false (.t 6)), none⟩,
  ⟨(some 8), (.bin .lss (.t 5) (.t 7)), none⟩]
def q_law31_clash_3 : List AOper := [
  ⟨(some 4), (.mv (.v (.int .i64 0))), none⟩]
def q_law31_clash_4 : List AOper := [
  ⟨(some 11), (.mv (.t 4)), none⟩,
  ⟨(some 12), (.mv (.t 3)), none⟩,
  ⟨(some 13), (.bin .lss (.t 11) (.t 12)), none⟩]
def q_law31_clash_5 : List DOp := [
  ⟨⟨(some 16), (.mv (.t 0)), none⟩, true, false, none, []⟩,
  ⟨⟨(some 17), (.mv (.t 3)), none⟩, true, false, none, []⟩,
  ⟨⟨(some 18), (.idx 1 (.t 16) (.t 17)), none⟩, true, false, none, []⟩,
  ⟨⟨(some 19), (.load .sc 1 (.t 18)), none⟩, true, false, none, []⟩,
  ⟨⟨(some 20), (.xx .bstr [(.t 19)]), none⟩, true, false, none, []⟩,
  ⟨⟨(some 21), (.mv (.t 0)), none⟩, true, false, none, []⟩,
  ⟨⟨(some 22), (.mv (.t 4)), none⟩, true, false, none, []⟩,
  ⟨⟨(some 23), (.idx 1 (.t 21) (.t 22)), none⟩, true, false, none, []⟩,
  ⟨⟨(some 24), (.load .sc 1 (.t 23)), none⟩, true, false, none, []⟩,
  ⟨⟨(some 25), (.xx .bstr [(.t 24)]), none⟩, true, false, none, []⟩,
  ⟨⟨(some 26), (.eq .scS true (.t 20) (.t 25)), none⟩, true, false, none, []⟩,
  ⟨⟨(some 27), (.mv (.t 26)), none⟩, true, false, none, []⟩,
  ⟨⟨(some 28), (.mv (.t 0)), (some (27, true))⟩, true, false, none, []⟩,
  ⟨⟨(some 29), (.mv (.t 3)), (some (27, true))⟩, true, false, none, []⟩,
  ⟨⟨(some 30), (.idx 1 (.t 28) (.t 29)), (some (27, true))⟩, true, false, none, []⟩,
  ⟨⟨(some 31), (.load .sc 1 (.t 30)), (some (27, true))⟩, true, false, none, []⟩,
  ⟨⟨(some 33), (.mv (.t 0)), (some (27, true))⟩, true, false, none, []⟩,
  ⟨⟨(some 34), (.mv (.t 4)), (some (27, true))⟩, true, false, none, []⟩,
  ⟨⟨(some 35), (.idx 1 (.t 33) (.t 34)), (some (27, true))⟩, true, false, none, []⟩,
  ⟨⟨(some 36), (.load .sc 1 (.t 35)), (some (27, true))⟩, true, false, none, []⟩,
  ⟨⟨(some 32), (.call F_ref03_Sum [(.sc, (.t 31))]), (some (27, true))⟩, false, true, (some [35, 33]), []⟩,
  ⟨⟨(some 37), (.call F_ref03_Sum [(.sc, (.t 36))]), (some (27, true))⟩, false, false, none, []⟩,
  ⟨⟨(some 38), (.eq (.ia 32) false (.t 32) (.t 37)), (some (27, true))⟩, true, false, none, []⟩,
  ⟨⟨(some 39), (.pick (.t 27) (.t 38) (.v (.bool false))), none⟩, true, false, none, []⟩]
def q_law31_clash_6 : List AOper := [
  ⟨(some 2), (.mv (.v (.bool true))), none⟩]
def q_law31_clash_7 : List AOper := [
  ⟨(some 14), (.mv (.t 4)), none⟩,
  ⟨(some 15), (.bin .add (.t 14) (.v (.int .i64 1))), none⟩,
  ⟨(some 4), (.mv (.t 15)), none⟩]
def q_law31_clash_L8 : ACode := (.seq (.seq (.region q_law31_clash_4) (.cond (.t 13) .skip (.exit 2))) (.seq (.block 3 (.seq (.regionD q_law31_clash_5) (.cond (.t 39) (.seq (.region q_law31_clash_6) .ret) .skip))) (.region q_law31_clash_7)))
def q_law31_clash_8 : List AOper := [
  ⟨(some 9), (.mv (.t 3)), none⟩,
  ⟨(some 10), (.bin .add (.t 9) (.v (.int .i64 1))), none⟩,
  ⟨(some 3), (.mv (.t 10)), none⟩]
def q_law31_clash_L9 : ACode := (.seq (.seq (.region q_law31_clash_2) (.cond (.t 8) .skip (.exit 0))) (.seq (.block 1 (.seq (.region q_law31_clash_3) (.block 2 (.loop q_law31_clash_L8)))) (.region q_law31_clash_8)))
def q_law31_clash_9 : List AOper := [
  ⟨(some 2), (.mv (.v (.bool false))), none⟩]
def a_law31_clash : AFunc := ⟨[(.tmp 2)], (.seq (.region q_law31_clash_0) (.seq (.seq (.region q_law31_clash_1) (.block 0 (.loop q_law31_clash_L9))) (.seq (.region q_law31_clash_9) .ret)))⟩


theorem c_tree_Root : trF Try.prog Try.f58 = some a_tree_Root := by kernel_rfl
theorem g_tree_Root : Try.prog.funcs[58]? = some Try.f58 := by kernel_rfl
theorem i_tree_Root {args : List AV} {A : Heap} {Ko : AOut → Heap → Prop} (hn : args.length ≤ 25)
    (h : ∀ R : APost, (∀ e env A, fpost a_tree_Root.res Ko e env A → R e env A) → X Try.prog R a_tree_Root.body .done (env0 args) A) : SimX Try.prog F_tree_Root args A Ko :=
  X_intro g_tree_Root c_tree_Root (by rw [Try.ntmps58]; exact hn) h
theorem v_tree_Root {args : List AV} {v : AV} (hn : args.length ≤ 25) (h : X Try.prog (fin a_tree_Root.res v) a_tree_Root.body .done (env0 args) H0) : Gives Try.prog F_tree_Root args v :=
  Gives_intro g_tree_Root c_tree_Root (by rw [Try.ntmps58]; exact hn) h
theorem e_tree_Root {args : List AV} {Q : AOut → Prop} (hn : args.length ≤ 25) (h : X Try.prog (finE a_tree_Root.res Q) a_tree_Root.body .done (env0 args) H0) : Fins Try.prog F_tree_Root args Q :=
  Fins_intro g_tree_Root c_tree_Root (by rw [Try.ntmps58]; exact hn) h
theorem j_tree_Root {args : List AV} {A : Heap} {K Kp : AV → Heap → Prop} (hn : args.length ≤ 25) (h : X Try.prog (inl a_tree_Root.res K Kp) a_tree_Root.body .done (env0 args) A) : SimX Try.prog F_tree_Root args A (outK K Kp) :=
  X_inl g_tree_Root c_tree_Root (by rw [Try.ntmps58]; exact hn) h
theorem d_tree_Root {args : List AV} {A : Heap} {Ko : AOut → Heap → Prop} (hn : args.length ≤ 25) (hrf : AVL.Func.hasRF Try.f58 = false)
    (h : ∀ R : APost, (∀ e env A, fpost a_tree_Root.res Ko e env A → R e env A) → X Try.prog R a_tree_Root.body .done (env0 args) A) : SimD Try.prog F_tree_Root args A Ko :=
  X_introD g_tree_Root c_tree_Root (by rw [Try.ntmps58]; exact hn) hrf h
@[simp] theorem k_tree_Root : callable Try.prog F_tree_Root = true := by kernel_rfl
theorem c_tree_Check : trF Try.prog Try.f60 = some a_tree_Check := by kernel_rfl
theorem g_tree_Check : Try.prog.funcs[60]? = some Try.f60 := by kernel_rfl
theorem i_tree_Check {args : List AV} {A : Heap} {Ko : AOut → Heap → Prop} (hn : args.length ≤ 11)
    (h : ∀ R : APost, (∀ e env A, fpost a_tree_Check.res Ko e env A → R e env A) → X Try.prog R a_tree_Check.body .done (env0 args) A) : SimX Try.prog F_tree_Check args A Ko :=
  X_intro g_tree_Check c_tree_Check (by rw [Try.ntmps60]; exact hn) h
theorem v_tree_Check {args : List AV} {v : AV} (hn : args.length ≤ 11) (h : X Try.prog (fin a_tree_Check.res v) a_tree_Check.body .done (env0 args) H0) : Gives Try.prog F_tree_Check args v :=
  Gives_intro g_tree_Check c_tree_Check (by rw [Try.ntmps60]; exact hn) h
theorem e_tree_Check {args : List AV} {Q : AOut → Prop} (hn : args.length ≤ 11) (h : X Try.prog (finE a_tree_Check.res Q) a_tree_Check.body .done (env0 args) H0) : Fins Try.prog F_tree_Check args Q :=
  Fins_intro g_tree_Check c_tree_Check (by rw [Try.ntmps60]; exact hn) h
theorem j_tree_Check {args : List AV} {A : Heap} {K Kp : AV → Heap → Prop} (hn : args.length ≤ 11) (h : X Try.prog (inl a_tree_Check.res K Kp) a_tree_Check.body .done (env0 args) A) : SimX Try.prog F_tree_Check args A (outK K Kp) :=
  X_inl g_tree_Check c_tree_Check (by rw [Try.ntmps60]; exact hn) h
theorem d_tree_Check {args : List AV} {A : Heap} {Ko : AOut → Heap → Prop} (hn : args.length ≤ 11) (hrf : AVL.Func.hasRF Try.f60 = false)
    (h : ∀ R : APost, (∀ e env A, fpost a_tree_Check.res Ko e env A → R e env A) → X Try.prog R a_tree_Check.body .done (env0 args) A) : SimD Try.prog F_tree_Check args A Ko :=
  X_introD g_tree_Check c_tree_Check (by rw [Try.ntmps60]; exact hn) hrf h
@[simp] theorem k_tree_Check : callable Try.prog F_tree_Check = true := by kernel_rfl
theorem c_tree_Prove : trF Try.prog Try.f61 = some a_tree_Prove := by kernel_rfl
theorem g_tree_Prove : Try.prog.funcs[61]? = some Try.f61 := by kernel_rfl
theorem i_tree_Prove {args : List AV} {A : Heap} {Ko : AOut → Heap → Prop} (hn : args.length ≤ 54)
    (h : ∀ R : APost, (∀ e env A, fpost a_tree_Prove.res Ko e env A → R e env A) → X Try.prog R a_tree_Prove.body .done (env0 args) A) : SimX Try.prog F_tree_Prove args A Ko :=
  X_intro g_tree_Prove c_tree_Prove (by rw [Try.ntmps61]; exact hn) h
theorem v_tree_Prove {args : List AV} {v : AV} (hn : args.length ≤ 54) (h : X Try.prog (fin a_tree_Prove.res v) a_tree_Prove.body .done (env0 args) H0) : Gives Try.prog F_tree_Prove args v :=
  Gives_intro g_tree_Prove c_tree_Prove (by rw [Try.ntmps61]; exact hn) h
theorem e_tree_Prove {args : List AV} {Q : AOut → Prop} (hn : args.length ≤ 54) (h : X Try.prog (finE a_tree_Prove.res Q) a_tree_Prove.body .done (env0 args) H0) : Fins Try.prog F_tree_Prove args Q :=
  Fins_intro g_tree_Prove c_tree_Prove (by rw [Try.ntmps61]; exact hn) h
theorem j_tree_Prove {args : List AV} {A : Heap} {K Kp : AV → Heap → Prop} (hn : args.length ≤ 54) (h : X Try.prog (inl a_tree_Prove.res K Kp) a_tree_Prove.body .done (env0 args) A) : SimX Try.prog F_tree_Prove args A (outK K Kp) :=
  X_inl g_tree_Prove c_tree_Prove (by rw [Try.ntmps61]; exact hn) h
theorem d_tree_Prove {args : List AV} {A : Heap} {Ko : AOut → Heap → Prop} (hn : args.length ≤ 54) (hrf : AVL.Func.hasRF Try.f61 = false)
    (h : ∀ R : APost, (∀ e env A, fpost a_tree_Prove.res Ko e env A → R e env A) → X Try.prog R a_tree_Prove.body .done (env0 args) A) : SimD Try.prog F_tree_Prove args A Ko :=
  X_introD g_tree_Prove c_tree_Prove (by rw [Try.ntmps61]; exact hn) hrf h
@[simp] theorem k_tree_Prove : callable Try.prog F_tree_Prove = true := by kernel_rfl
theorem c_tree_Leaf : trF Try.prog Try.f64 = some a_tree_Leaf := by kernel_rfl
theorem g_tree_Leaf : Try.prog.funcs[64]? = some Try.f64 := by kernel_rfl
theorem i_tree_Leaf {args : List AV} {A : Heap} {Ko : AOut → Heap → Prop} (hn : args.length ≤ 13)
    (h : ∀ R : APost, (∀ e env A, fpost a_tree_Leaf.res Ko e env A → R e env A) → X Try.prog R a_tree_Leaf.body .done (env0 args) A) : SimX Try.prog F_tree_Leaf args A Ko :=
  X_intro g_tree_Leaf c_tree_Leaf (by rw [Try.ntmps64]; exact hn) h
theorem v_tree_Leaf {args : List AV} {v : AV} (hn : args.length ≤ 13) (h : X Try.prog (fin a_tree_Leaf.res v) a_tree_Leaf.body .done (env0 args) H0) : Gives Try.prog F_tree_Leaf args v :=
  Gives_intro g_tree_Leaf c_tree_Leaf (by rw [Try.ntmps64]; exact hn) h
theorem e_tree_Leaf {args : List AV} {Q : AOut → Prop} (hn : args.length ≤ 13) (h : X Try.prog (finE a_tree_Leaf.res Q) a_tree_Leaf.body .done (env0 args) H0) : Fins Try.prog F_tree_Leaf args Q :=
  Fins_intro g_tree_Leaf c_tree_Leaf (by rw [Try.ntmps64]; exact hn) h
theorem j_tree_Leaf {args : List AV} {A : Heap} {K Kp : AV → Heap → Prop} (hn : args.length ≤ 13) (h : X Try.prog (inl a_tree_Leaf.res K Kp) a_tree_Leaf.body .done (env0 args) A) : SimX Try.prog F_tree_Leaf args A (outK K Kp) :=
  X_inl g_tree_Leaf c_tree_Leaf (by rw [Try.ntmps64]; exact hn) h
theorem d_tree_Leaf {args : List AV} {A : Heap} {Ko : AOut → Heap → Prop} (hn : args.length ≤ 13) (hrf : AVL.Func.hasRF Try.f64 = false)
    (h : ∀ R : APost, (∀ e env A, fpost a_tree_Leaf.res Ko e env A → R e env A) → X Try.prog R a_tree_Leaf.body .done (env0 args) A) : SimD Try.prog F_tree_Leaf args A Ko :=
  X_introD g_tree_Leaf c_tree_Leaf (by rw [Try.ntmps64]; exact hn) hrf h
@[simp] theorem k_tree_Leaf : callable Try.prog F_tree_Leaf = true := by kernel_rfl
theorem c_tree_Depth : trF Try.prog Try.f67 = some a_tree_Depth := by kernel_rfl
theorem g_tree_Depth : Try.prog.funcs[67]? = some Try.f67 := by kernel_rfl
theorem i_tree_Depth {args : List AV} {A : Heap} {Ko : AOut → Heap → Prop} (hn : args.length ≤ 16)
    (h : ∀ R : APost, (∀ e env A, fpost a_tree_Depth.res Ko e env A → R e env A) → X Try.prog R a_tree_Depth.body .done (env0 args) A) : SimX Try.prog F_tree_Depth args A Ko :=
  X_intro g_tree_Depth c_tree_Depth (by rw [Try.ntmps67]; exact hn) h
theorem v_tree_Depth {args : List AV} {v : AV} (hn : args.length ≤ 16) (h : X Try.prog (fin a_tree_Depth.res v) a_tree_Depth.body .done (env0 args) H0) : Gives Try.prog F_tree_Depth args v :=
  Gives_intro g_tree_Depth c_tree_Depth (by rw [Try.ntmps67]; exact hn) h
theorem e_tree_Depth {args : List AV} {Q : AOut → Prop} (hn : args.length ≤ 16) (h : X Try.prog (finE a_tree_Depth.res Q) a_tree_Depth.body .done (env0 args) H0) : Fins Try.prog F_tree_Depth args Q :=
  Fins_intro g_tree_Depth c_tree_Depth (by rw [Try.ntmps67]; exact hn) h
theorem j_tree_Depth {args : List AV} {A : Heap} {K Kp : AV → Heap → Prop} (hn : args.length ≤ 16) (h : X Try.prog (inl a_tree_Depth.res K Kp) a_tree_Depth.body .done (env0 args) A) : SimX Try.prog F_tree_Depth args A (outK K Kp) :=
  X_inl g_tree_Depth c_tree_Depth (by rw [Try.ntmps67]; exact hn) h
theorem d_tree_Depth {args : List AV} {A : Heap} {Ko : AOut → Heap → Prop} (hn : args.length ≤ 16) (hrf : AVL.Func.hasRF Try.f67 = false)
    (h : ∀ R : APost, (∀ e env A, fpost a_tree_Depth.res Ko e env A → R e env A) → X Try.prog R a_tree_Depth.body .done (env0 args) A) : SimD Try.prog F_tree_Depth args A Ko :=
  X_introD g_tree_Depth c_tree_Depth (by rw [Try.ntmps67]; exact hn) hrf h
@[simp] theorem k_tree_Depth : callable Try.prog F_tree_Depth = true := by kernel_rfl
theorem c_tree_All : trF Try.prog Try.f69 = some a_tree_All := by kernel_rfl
theorem g_tree_All : Try.prog.funcs[69]? = some Try.f69 := by kernel_rfl
theorem i_tree_All {args : List AV} {A : Heap} {Ko : AOut → Heap → Prop} (hn : args.length ≤ 30)
    (h : ∀ R : APost, (∀ e env A, fpost a_tree_All.res Ko e env A → R e env A) → X Try.prog R a_tree_All.body .done (env0 args) A) : SimX Try.prog F_tree_All args A Ko :=
  X_intro g_tree_All c_tree_All (by rw [Try.ntmps69]; exact hn) h
theorem v_tree_All {args : List AV} {v : AV} (hn : args.length ≤ 30) (h : X Try.prog (fin a_tree_All.res v) a_tree_All.body .done (env0 args) H0) : Gives Try.prog F_tree_All args v :=
  Gives_intro g_tree_All c_tree_All (by rw [Try.ntmps69]; exact hn) h
theorem e_tree_All {args : List AV} {Q : AOut → Prop} (hn : args.length ≤ 30) (h : X Try.prog (finE a_tree_All.res Q) a_tree_All.body .done (env0 args) H0) : Fins Try.prog F_tree_All args Q :=
  Fins_intro g_tree_All c_tree_All (by rw [Try.ntmps69]; exact hn) h
theorem j_tree_All {args : List AV} {A : Heap} {K Kp : AV → Heap → Prop} (hn : args.length ≤ 30) (h : X Try.prog (inl a_tree_All.res K Kp) a_tree_All.body .done (env0 args) A) : SimX Try.prog F_tree_All args A (outK K Kp) :=
  X_inl g_tree_All c_tree_All (by rw [Try.ntmps69]; exact hn) h
theorem d_tree_All {args : List AV} {A : Heap} {Ko : AOut → Heap → Prop} (hn : args.length ≤ 30) (hrf : AVL.Func.hasRF Try.f69 = false)
    (h : ∀ R : APost, (∀ e env A, fpost a_tree_All.res Ko e env A → R e env A) → X Try.prog R a_tree_All.body .done (env0 args) A) : SimD Try.prog F_tree_All args A Ko :=
  X_introD g_tree_All c_tree_All (by rw [Try.ntmps69]; exact hn) hrf h
@[simp] theorem k_tree_All : callable Try.prog F_tree_All = true := by kernel_rfl
theorem c_tree_Climb : trF Try.prog Try.f70 = some a_tree_Climb := by kernel_rfl
theorem g_tree_Climb : Try.prog.funcs[70]? = some Try.f70 := by kernel_rfl
theorem i_tree_Climb {args : List AV} {A : Heap} {Ko : AOut → Heap → Prop} (hn : args.length ≤ 78)
    (h : ∀ R : APost, (∀ e env A, fpost a_tree_Climb.res Ko e env A → R e env A) → X Try.prog R a_tree_Climb.body .done (env0 args) A) : SimX Try.prog F_tree_Climb args A Ko :=
  X_intro g_tree_Climb c_tree_Climb (by rw [Try.ntmps70]; exact hn) h
theorem v_tree_Climb {args : List AV} {v : AV} (hn : args.length ≤ 78) (h : X Try.prog (fin a_tree_Climb.res v) a_tree_Climb.body .done (env0 args) H0) : Gives Try.prog F_tree_Climb args v :=
  Gives_intro g_tree_Climb c_tree_Climb (by rw [Try.ntmps70]; exact hn) h
theorem e_tree_Climb {args : List AV} {Q : AOut → Prop} (hn : args.length ≤ 78) (h : X Try.prog (finE a_tree_Climb.res Q) a_tree_Climb.body .done (env0 args) H0) : Fins Try.prog F_tree_Climb args Q :=
  Fins_intro g_tree_Climb c_tree_Climb (by rw [Try.ntmps70]; exact hn) h
theorem j_tree_Climb {args : List AV} {A : Heap} {K Kp : AV → Heap → Prop} (hn : args.length ≤ 78) (h : X Try.prog (inl a_tree_Climb.res K Kp) a_tree_Climb.body .done (env0 args) A) : SimX Try.prog F_tree_Climb args A (outK K Kp) :=
  X_inl g_tree_Climb c_tree_Climb (by rw [Try.ntmps70]; exact hn) h
theorem d_tree_Climb {args : List AV} {A : Heap} {Ko : AOut → Heap → Prop} (hn : args.length ≤ 78) (hrf : AVL.Func.hasRF Try.f70 = false)
    (h : ∀ R : APost, (∀ e env A, fpost a_tree_Climb.res Ko e env A → R e env A) → X Try.prog R a_tree_Climb.body .done (env0 args) A) : SimD Try.prog F_tree_Climb args A Ko :=
  X_introD g_tree_Climb c_tree_Climb (by rw [Try.ntmps70]; exact hn) hrf h
@[simp] theorem k_tree_Climb : callable Try.prog F_tree_Climb = true := by kernel_rfl
theorem c_tree_Verify : trF Try.prog Try.f71 = some a_tree_Verify := by kernel_rfl
theorem g_tree_Verify : Try.prog.funcs[71]? = some Try.f71 := by kernel_rfl
theorem i_tree_Verify {args : List AV} {A : Heap} {Ko : AOut → Heap → Prop} (hn : args.length ≤ 21)
    (h : ∀ R : APost, (∀ e env A, fpost a_tree_Verify.res Ko e env A → R e env A) → X Try.prog R a_tree_Verify.body .done (env0 args) A) : SimX Try.prog F_tree_Verify args A Ko :=
  X_intro g_tree_Verify c_tree_Verify (by rw [Try.ntmps71]; exact hn) h
theorem v_tree_Verify {args : List AV} {v : AV} (hn : args.length ≤ 21) (h : X Try.prog (fin a_tree_Verify.res v) a_tree_Verify.body .done (env0 args) H0) : Gives Try.prog F_tree_Verify args v :=
  Gives_intro g_tree_Verify c_tree_Verify (by rw [Try.ntmps71]; exact hn) h
theorem e_tree_Verify {args : List AV} {Q : AOut → Prop} (hn : args.length ≤ 21) (h : X Try.prog (finE a_tree_Verify.res Q) a_tree_Verify.body .done (env0 args) H0) : Fins Try.prog F_tree_Verify args Q :=
  Fins_intro g_tree_Verify c_tree_Verify (by rw [Try.ntmps71]; exact hn) h
theorem j_tree_Verify {args : List AV} {A : Heap} {K Kp : AV → Heap → Prop} (hn : args.length ≤ 21) (h : X Try.prog (inl a_tree_Verify.res K Kp) a_tree_Verify.body .done (env0 args) A) : SimX Try.prog F_tree_Verify args A (outK K Kp) :=
  X_inl g_tree_Verify c_tree_Verify (by rw [Try.ntmps71]; exact hn) h
theorem d_tree_Verify {args : List AV} {A : Heap} {Ko : AOut → Heap → Prop} (hn : args.length ≤ 21) (hrf : AVL.Func.hasRF Try.f71 = false)
    (h : ∀ R : APost, (∀ e env A, fpost a_tree_Verify.res Ko e env A → R e env A) → X Try.prog R a_tree_Verify.body .done (env0 args) A) : SimD Try.prog F_tree_Verify args A Ko :=
  X_introD g_tree_Verify c_tree_Verify (by rw [Try.ntmps71]; exact hn) hrf h
@[simp] theorem k_tree_Verify : callable Try.prog F_tree_Verify = true := by kernel_rfl
theorem c_tree_leaves : trF Try.prog Try.f100 = some a_tree_leaves := by kernel_rfl
theorem g_tree_leaves : Try.prog.funcs[100]? = some Try.f100 := by kernel_rfl
theorem i_tree_leaves {args : List AV} {A : Heap} {Ko : AOut → Heap → Prop} (hn : args.length ≤ 21)
    (h : ∀ R : APost, (∀ e env A, fpost a_tree_leaves.res Ko e env A → R e env A) → X Try.prog R a_tree_leaves.body .done (env0 args) A) : SimX Try.prog F_tree_leaves args A Ko :=
  X_intro g_tree_leaves c_tree_leaves (by rw [Try.ntmps100]; exact hn) h
theorem v_tree_leaves {args : List AV} {v : AV} (hn : args.length ≤ 21) (h : X Try.prog (fin a_tree_leaves.res v) a_tree_leaves.body .done (env0 args) H0) : Gives Try.prog F_tree_leaves args v :=
  Gives_intro g_tree_leaves c_tree_leaves (by rw [Try.ntmps100]; exact hn) h
theorem e_tree_leaves {args : List AV} {Q : AOut → Prop} (hn : args.length ≤ 21) (h : X Try.prog (finE a_tree_leaves.res Q) a_tree_leaves.body .done (env0 args) H0) : Fins Try.prog F_tree_leaves args Q :=
  Fins_intro g_tree_leaves c_tree_leaves (by rw [Try.ntmps100]; exact hn) h
theorem j_tree_leaves {args : List AV} {A : Heap} {K Kp : AV → Heap → Prop} (hn : args.length ≤ 21) (h : X Try.prog (inl a_tree_leaves.res K Kp) a_tree_leaves.body .done (env0 args) A) : SimX Try.prog F_tree_leaves args A (outK K Kp) :=
  X_inl g_tree_leaves c_tree_leaves (by rw [Try.ntmps100]; exact hn) h
theorem d_tree_leaves {args : List AV} {A : Heap} {Ko : AOut → Heap → Prop} (hn : args.length ≤ 21) (hrf : AVL.Func.hasRF Try.f100 = false)
    (h : ∀ R : APost, (∀ e env A, fpost a_tree_leaves.res Ko e env A → R e env A) → X Try.prog R a_tree_leaves.body .done (env0 args) A) : SimD Try.prog F_tree_leaves args A Ko :=
  X_introD g_tree_leaves c_tree_leaves (by rw [Try.ntmps100]; exact hn) hrf h
@[simp] theorem k_tree_leaves : callable Try.prog F_tree_leaves = true := by kernel_rfl
theorem c_tree_up : trF Try.prog Try.f101 = some a_tree_up := by kernel_rfl
theorem g_tree_up : Try.prog.funcs[101]? = some Try.f101 := by kernel_rfl
theorem i_tree_up {args : List AV} {A : Heap} {Ko : AOut → Heap → Prop} (hn : args.length ≤ 37)
    (h : ∀ R : APost, (∀ e env A, fpost a_tree_up.res Ko e env A → R e env A) → X Try.prog R a_tree_up.body .done (env0 args) A) : SimX Try.prog F_tree_up args A Ko :=
  X_intro g_tree_up c_tree_up (by rw [Try.ntmps101]; exact hn) h
theorem v_tree_up {args : List AV} {v : AV} (hn : args.length ≤ 37) (h : X Try.prog (fin a_tree_up.res v) a_tree_up.body .done (env0 args) H0) : Gives Try.prog F_tree_up args v :=
  Gives_intro g_tree_up c_tree_up (by rw [Try.ntmps101]; exact hn) h
theorem e_tree_up {args : List AV} {Q : AOut → Prop} (hn : args.length ≤ 37) (h : X Try.prog (finE a_tree_up.res Q) a_tree_up.body .done (env0 args) H0) : Fins Try.prog F_tree_up args Q :=
  Fins_intro g_tree_up c_tree_up (by rw [Try.ntmps101]; exact hn) h
theorem j_tree_up {args : List AV} {A : Heap} {K Kp : AV → Heap → Prop} (hn : args.length ≤ 37) (h : X Try.prog (inl a_tree_up.res K Kp) a_tree_up.body .done (env0 args) A) : SimX Try.prog F_tree_up args A (outK K Kp) :=
  X_inl g_tree_up c_tree_up (by rw [Try.ntmps101]; exact hn) h
theorem d_tree_up {args : List AV} {A : Heap} {Ko : AOut → Heap → Prop} (hn : args.length ≤ 37) (hrf : AVL.Func.hasRF Try.f101 = false)
    (h : ∀ R : APost, (∀ e env A, fpost a_tree_up.res Ko e env A → R e env A) → X Try.prog R a_tree_up.body .done (env0 args) A) : SimD Try.prog F_tree_up args A Ko :=
  X_introD g_tree_up c_tree_up (by rw [Try.ntmps101]; exact hn) hrf h
@[simp] theorem k_tree_up : callable Try.prog F_tree_up = true := by kernel_rfl
theorem c_tree_crown : trF Try.prog Try.f102 = some a_tree_crown := by kernel_rfl
theorem g_tree_crown : Try.prog.funcs[102]? = some Try.f102 := by kernel_rfl
theorem i_tree_crown {args : List AV} {A : Heap} {Ko : AOut → Heap → Prop} (hn : args.length ≤ 13)
    (h : ∀ R : APost, (∀ e env A, fpost a_tree_crown.res Ko e env A → R e env A) → X Try.prog R a_tree_crown.body .done (env0 args) A) : SimX Try.prog F_tree_crown args A Ko :=
  X_intro g_tree_crown c_tree_crown (by rw [Try.ntmps102]; exact hn) h
theorem v_tree_crown {args : List AV} {v : AV} (hn : args.length ≤ 13) (h : X Try.prog (fin a_tree_crown.res v) a_tree_crown.body .done (env0 args) H0) : Gives Try.prog F_tree_crown args v :=
  Gives_intro g_tree_crown c_tree_crown (by rw [Try.ntmps102]; exact hn) h
theorem e_tree_crown {args : List AV} {Q : AOut → Prop} (hn : args.length ≤ 13) (h : X Try.prog (finE a_tree_crown.res Q) a_tree_crown.body .done (env0 args) H0) : Fins Try.prog F_tree_crown args Q :=
  Fins_intro g_tree_crown c_tree_crown (by rw [Try.ntmps102]; exact hn) h
theorem j_tree_crown {args : List AV} {A : Heap} {K Kp : AV → Heap → Prop} (hn : args.length ≤ 13) (h : X Try.prog (inl a_tree_crown.res K Kp) a_tree_crown.body .done (env0 args) A) : SimX Try.prog F_tree_crown args A (outK K Kp) :=
  X_inl g_tree_crown c_tree_crown (by rw [Try.ntmps102]; exact hn) h
theorem d_tree_crown {args : List AV} {A : Heap} {Ko : AOut → Heap → Prop} (hn : args.length ≤ 13) (hrf : AVL.Func.hasRF Try.f102 = false)
    (h : ∀ R : APost, (∀ e env A, fpost a_tree_crown.res Ko e env A → R e env A) → X Try.prog R a_tree_crown.body .done (env0 args) A) : SimD Try.prog F_tree_crown args A Ko :=
  X_introD g_tree_crown c_tree_crown (by rw [Try.ntmps102]; exact hn) hrf h
@[simp] theorem k_tree_crown : callable Try.prog F_tree_crown = true := by kernel_rfl
theorem c_tree_join : trF Try.prog Try.f111 = some a_tree_join := by kernel_rfl
theorem g_tree_join : Try.prog.funcs[111]? = some Try.f111 := by kernel_rfl
theorem i_tree_join {args : List AV} {A : Heap} {Ko : AOut → Heap → Prop} (hn : args.length ≤ 11)
    (h : ∀ R : APost, (∀ e env A, fpost a_tree_join.res Ko e env A → R e env A) → X Try.prog R a_tree_join.body .done (env0 args) A) : SimX Try.prog F_tree_join args A Ko :=
  X_intro g_tree_join c_tree_join (by rw [Try.ntmps111]; exact hn) h
theorem v_tree_join {args : List AV} {v : AV} (hn : args.length ≤ 11) (h : X Try.prog (fin a_tree_join.res v) a_tree_join.body .done (env0 args) H0) : Gives Try.prog F_tree_join args v :=
  Gives_intro g_tree_join c_tree_join (by rw [Try.ntmps111]; exact hn) h
theorem e_tree_join {args : List AV} {Q : AOut → Prop} (hn : args.length ≤ 11) (h : X Try.prog (finE a_tree_join.res Q) a_tree_join.body .done (env0 args) H0) : Fins Try.prog F_tree_join args Q :=
  Fins_intro g_tree_join c_tree_join (by rw [Try.ntmps111]; exact hn) h
theorem j_tree_join {args : List AV} {A : Heap} {K Kp : AV → Heap → Prop} (hn : args.length ≤ 11) (h : X Try.prog (inl a_tree_join.res K Kp) a_tree_join.body .done (env0 args) A) : SimX Try.prog F_tree_join args A (outK K Kp) :=
  X_inl g_tree_join c_tree_join (by rw [Try.ntmps111]; exact hn) h
theorem d_tree_join {args : List AV} {A : Heap} {Ko : AOut → Heap → Prop} (hn : args.length ≤ 11) (hrf : AVL.Func.hasRF Try.f111 = false)
    (h : ∀ R : APost, (∀ e env A, fpost a_tree_join.res Ko e env A → R e env A) → X Try.prog R a_tree_join.body .done (env0 args) A) : SimD Try.prog F_tree_join args A Ko :=
  X_introD g_tree_join c_tree_join (by rw [Try.ntmps111]; exact hn) hrf h
@[simp] theorem k_tree_join : callable Try.prog F_tree_join = true := by kernel_rfl
theorem c_ref31_Root : trF Try.prog Try.f59 = some a_ref31_Root := by kernel_rfl
theorem g_ref31_Root : Try.prog.funcs[59]? = some Try.f59 := by kernel_rfl
theorem i_ref31_Root {args : List AV} {A : Heap} {Ko : AOut → Heap → Prop} (hn : args.length ≤ 17)
    (h : ∀ R : APost, (∀ e env A, fpost a_ref31_Root.res Ko e env A → R e env A) → X Try.prog R a_ref31_Root.body .done (env0 args) A) : SimX Try.prog F_ref31_Root args A Ko :=
  X_intro g_ref31_Root c_ref31_Root (by rw [Try.ntmps59]; exact hn) h
theorem v_ref31_Root {args : List AV} {v : AV} (hn : args.length ≤ 17) (h : X Try.prog (fin a_ref31_Root.res v) a_ref31_Root.body .done (env0 args) H0) : Gives Try.prog F_ref31_Root args v :=
  Gives_intro g_ref31_Root c_ref31_Root (by rw [Try.ntmps59]; exact hn) h
theorem e_ref31_Root {args : List AV} {Q : AOut → Prop} (hn : args.length ≤ 17) (h : X Try.prog (finE a_ref31_Root.res Q) a_ref31_Root.body .done (env0 args) H0) : Fins Try.prog F_ref31_Root args Q :=
  Fins_intro g_ref31_Root c_ref31_Root (by rw [Try.ntmps59]; exact hn) h
theorem j_ref31_Root {args : List AV} {A : Heap} {K Kp : AV → Heap → Prop} (hn : args.length ≤ 17) (h : X Try.prog (inl a_ref31_Root.res K Kp) a_ref31_Root.body .done (env0 args) A) : SimX Try.prog F_ref31_Root args A (outK K Kp) :=
  X_inl g_ref31_Root c_ref31_Root (by rw [Try.ntmps59]; exact hn) h
theorem d_ref31_Root {args : List AV} {A : Heap} {Ko : AOut → Heap → Prop} (hn : args.length ≤ 17) (hrf : AVL.Func.hasRF Try.f59 = false)
    (h : ∀ R : APost, (∀ e env A, fpost a_ref31_Root.res Ko e env A → R e env A) → X Try.prog R a_ref31_Root.body .done (env0 args) A) : SimD Try.prog F_ref31_Root args A Ko :=
  X_introD g_ref31_Root c_ref31_Root (by rw [Try.ntmps59]; exact hn) hrf h
@[simp] theorem k_ref31_Root : callable Try.prog F_ref31_Root = true := by kernel_rfl
theorem c_ref31_Same : trF Try.prog Try.f62 = some a_ref31_Same := by kernel_rfl
theorem g_ref31_Same : Try.prog.funcs[62]? = some Try.f62 := by kernel_rfl
theorem i_ref31_Same {args : List AV} {A : Heap} {Ko : AOut → Heap → Prop} (hn : args.length ≤ 26)
    (h : ∀ R : APost, (∀ e env A, fpost a_ref31_Same.res Ko e env A → R e env A) → X Try.prog R a_ref31_Same.body .done (env0 args) A) : SimX Try.prog F_ref31_Same args A Ko :=
  X_intro g_ref31_Same c_ref31_Same (by rw [Try.ntmps62]; exact hn) h
theorem v_ref31_Same {args : List AV} {v : AV} (hn : args.length ≤ 26) (h : X Try.prog (fin a_ref31_Same.res v) a_ref31_Same.body .done (env0 args) H0) : Gives Try.prog F_ref31_Same args v :=
  Gives_intro g_ref31_Same c_ref31_Same (by rw [Try.ntmps62]; exact hn) h
theorem e_ref31_Same {args : List AV} {Q : AOut → Prop} (hn : args.length ≤ 26) (h : X Try.prog (finE a_ref31_Same.res Q) a_ref31_Same.body .done (env0 args) H0) : Fins Try.prog F_ref31_Same args Q :=
  Fins_intro g_ref31_Same c_ref31_Same (by rw [Try.ntmps62]; exact hn) h
theorem j_ref31_Same {args : List AV} {A : Heap} {K Kp : AV → Heap → Prop} (hn : args.length ≤ 26) (h : X Try.prog (inl a_ref31_Same.res K Kp) a_ref31_Same.body .done (env0 args) A) : SimX Try.prog F_ref31_Same args A (outK K Kp) :=
  X_inl g_ref31_Same c_ref31_Same (by rw [Try.ntmps62]; exact hn) h
theorem d_ref31_Same {args : List AV} {A : Heap} {Ko : AOut → Heap → Prop} (hn : args.length ≤ 26) (hrf : AVL.Func.hasRF Try.f62 = false)
    (h : ∀ R : APost, (∀ e env A, fpost a_ref31_Same.res Ko e env A → R e env A) → X Try.prog R a_ref31_Same.body .done (env0 args) A) : SimD Try.prog F_ref31_Same args A Ko :=
  X_introD g_ref31_Same c_ref31_Same (by rw [Try.ntmps62]; exact hn) hrf h
@[simp] theorem k_ref31_Same : callable Try.prog F_ref31_Same = true := by kernel_rfl
theorem c_ref31_Path : trF Try.prog Try.f63 = some a_ref31_Path := by kernel_rfl
theorem g_ref31_Path : Try.prog.funcs[63]? = some Try.f63 := by kernel_rfl
theorem i_ref31_Path {args : List AV} {A : Heap} {Ko : AOut → Heap → Prop} (hn : args.length ≤ 8)
    (h : ∀ R : APost, (∀ e env A, fpost a_ref31_Path.res Ko e env A → R e env A) → X Try.prog R a_ref31_Path.body .done (env0 args) A) : SimX Try.prog F_ref31_Path args A Ko :=
  X_intro g_ref31_Path c_ref31_Path (by rw [Try.ntmps63]; exact hn) h
theorem v_ref31_Path {args : List AV} {v : AV} (hn : args.length ≤ 8) (h : X Try.prog (fin a_ref31_Path.res v) a_ref31_Path.body .done (env0 args) H0) : Gives Try.prog F_ref31_Path args v :=
  Gives_intro g_ref31_Path c_ref31_Path (by rw [Try.ntmps63]; exact hn) h
theorem e_ref31_Path {args : List AV} {Q : AOut → Prop} (hn : args.length ≤ 8) (h : X Try.prog (finE a_ref31_Path.res Q) a_ref31_Path.body .done (env0 args) H0) : Fins Try.prog F_ref31_Path args Q :=
  Fins_intro g_ref31_Path c_ref31_Path (by rw [Try.ntmps63]; exact hn) h
theorem j_ref31_Path {args : List AV} {A : Heap} {K Kp : AV → Heap → Prop} (hn : args.length ≤ 8) (h : X Try.prog (inl a_ref31_Path.res K Kp) a_ref31_Path.body .done (env0 args) A) : SimX Try.prog F_ref31_Path args A (outK K Kp) :=
  X_inl g_ref31_Path c_ref31_Path (by rw [Try.ntmps63]; exact hn) h
theorem d_ref31_Path {args : List AV} {A : Heap} {Ko : AOut → Heap → Prop} (hn : args.length ≤ 8) (hrf : AVL.Func.hasRF Try.f63 = false)
    (h : ∀ R : APost, (∀ e env A, fpost a_ref31_Path.res Ko e env A → R e env A) → X Try.prog R a_ref31_Path.body .done (env0 args) A) : SimD Try.prog F_ref31_Path args A Ko :=
  X_introD g_ref31_Path c_ref31_Path (by rw [Try.ntmps63]; exact hn) hrf h
@[simp] theorem k_ref31_Path : callable Try.prog F_ref31_Path = true := by kernel_rfl
theorem c_ref31_LeafText : trF Try.prog Try.f66 = some a_ref31_LeafText := by kernel_rfl
theorem g_ref31_LeafText : Try.prog.funcs[66]? = some Try.f66 := by kernel_rfl
theorem i_ref31_LeafText {args : List AV} {A : Heap} {Ko : AOut → Heap → Prop} (hn : args.length ≤ 16)
    (h : ∀ R : APost, (∀ e env A, fpost a_ref31_LeafText.res Ko e env A → R e env A) → X Try.prog R a_ref31_LeafText.body .done (env0 args) A) : SimX Try.prog F_ref31_LeafText args A Ko :=
  X_intro g_ref31_LeafText c_ref31_LeafText (by rw [Try.ntmps66]; exact hn) h
theorem v_ref31_LeafText {args : List AV} {v : AV} (hn : args.length ≤ 16) (h : X Try.prog (fin a_ref31_LeafText.res v) a_ref31_LeafText.body .done (env0 args) H0) : Gives Try.prog F_ref31_LeafText args v :=
  Gives_intro g_ref31_LeafText c_ref31_LeafText (by rw [Try.ntmps66]; exact hn) h
theorem e_ref31_LeafText {args : List AV} {Q : AOut → Prop} (hn : args.length ≤ 16) (h : X Try.prog (finE a_ref31_LeafText.res Q) a_ref31_LeafText.body .done (env0 args) H0) : Fins Try.prog F_ref31_LeafText args Q :=
  Fins_intro g_ref31_LeafText c_ref31_LeafText (by rw [Try.ntmps66]; exact hn) h
theorem j_ref31_LeafText {args : List AV} {A : Heap} {K Kp : AV → Heap → Prop} (hn : args.length ≤ 16) (h : X Try.prog (inl a_ref31_LeafText.res K Kp) a_ref31_LeafText.body .done (env0 args) A) : SimX Try.prog F_ref31_LeafText args A (outK K Kp) :=
  X_inl g_ref31_LeafText c_ref31_LeafText (by rw [Try.ntmps66]; exact hn) h
theorem d_ref31_LeafText {args : List AV} {A : Heap} {Ko : AOut → Heap → Prop} (hn : args.length ≤ 16) (hrf : AVL.Func.hasRF Try.f66 = false)
    (h : ∀ R : APost, (∀ e env A, fpost a_ref31_LeafText.res Ko e env A → R e env A) → X Try.prog R a_ref31_LeafText.body .done (env0 args) A) : SimD Try.prog F_ref31_LeafText args A Ko :=
  X_introD g_ref31_LeafText c_ref31_LeafText (by rw [Try.ntmps66]; exact hn) hrf h
@[simp] theorem k_ref31_LeafText : callable Try.prog F_ref31_LeafText = true := by kernel_rfl
theorem c_ref31_Rows : trF Try.prog Try.f68 = some a_ref31_Rows := by kernel_rfl
theorem g_ref31_Rows : Try.prog.funcs[68]? = some Try.f68 := by kernel_rfl
theorem i_ref31_Rows {args : List AV} {A : Heap} {Ko : AOut → Heap → Prop} (hn : args.length ≤ 13)
    (h : ∀ R : APost, (∀ e env A, fpost a_ref31_Rows.res Ko e env A → R e env A) → X Try.prog R a_ref31_Rows.body .done (env0 args) A) : SimX Try.prog F_ref31_Rows args A Ko :=
  X_intro g_ref31_Rows c_ref31_Rows (by rw [Try.ntmps68]; exact hn) h
theorem v_ref31_Rows {args : List AV} {v : AV} (hn : args.length ≤ 13) (h : X Try.prog (fin a_ref31_Rows.res v) a_ref31_Rows.body .done (env0 args) H0) : Gives Try.prog F_ref31_Rows args v :=
  Gives_intro g_ref31_Rows c_ref31_Rows (by rw [Try.ntmps68]; exact hn) h
theorem e_ref31_Rows {args : List AV} {Q : AOut → Prop} (hn : args.length ≤ 13) (h : X Try.prog (finE a_ref31_Rows.res Q) a_ref31_Rows.body .done (env0 args) H0) : Fins Try.prog F_ref31_Rows args Q :=
  Fins_intro g_ref31_Rows c_ref31_Rows (by rw [Try.ntmps68]; exact hn) h
theorem j_ref31_Rows {args : List AV} {A : Heap} {K Kp : AV → Heap → Prop} (hn : args.length ≤ 13) (h : X Try.prog (inl a_ref31_Rows.res K Kp) a_ref31_Rows.body .done (env0 args) A) : SimX Try.prog F_ref31_Rows args A (outK K Kp) :=
  X_inl g_ref31_Rows c_ref31_Rows (by rw [Try.ntmps68]; exact hn) h
theorem d_ref31_Rows {args : List AV} {A : Heap} {Ko : AOut → Heap → Prop} (hn : args.length ≤ 13) (hrf : AVL.Func.hasRF Try.f68 = false)
    (h : ∀ R : APost, (∀ e env A, fpost a_ref31_Rows.res Ko e env A → R e env A) → X Try.prog R a_ref31_Rows.body .done (env0 args) A) : SimD Try.prog F_ref31_Rows args A Ko :=
  X_introD g_ref31_Rows c_ref31_Rows (by rw [Try.ntmps68]; exact hn) hrf h
@[simp] theorem k_ref31_Rows : callable Try.prog F_ref31_Rows = true := by kernel_rfl
theorem c_ref31_Check : trF Try.prog Try.f103 = some a_ref31_Check := by kernel_rfl
theorem g_ref31_Check : Try.prog.funcs[103]? = some Try.f103 := by kernel_rfl
theorem i_ref31_Check {args : List AV} {A : Heap} {Ko : AOut → Heap → Prop} (hn : args.length ≤ 9)
    (h : ∀ R : APost, (∀ e env A, fpost a_ref31_Check.res Ko e env A → R e env A) → X Try.prog R a_ref31_Check.body .done (env0 args) A) : SimX Try.prog F_ref31_Check args A Ko :=
  X_intro g_ref31_Check c_ref31_Check (by rw [Try.ntmps103]; exact hn) h
theorem v_ref31_Check {args : List AV} {v : AV} (hn : args.length ≤ 9) (h : X Try.prog (fin a_ref31_Check.res v) a_ref31_Check.body .done (env0 args) H0) : Gives Try.prog F_ref31_Check args v :=
  Gives_intro g_ref31_Check c_ref31_Check (by rw [Try.ntmps103]; exact hn) h
theorem e_ref31_Check {args : List AV} {Q : AOut → Prop} (hn : args.length ≤ 9) (h : X Try.prog (finE a_ref31_Check.res Q) a_ref31_Check.body .done (env0 args) H0) : Fins Try.prog F_ref31_Check args Q :=
  Fins_intro g_ref31_Check c_ref31_Check (by rw [Try.ntmps103]; exact hn) h
theorem j_ref31_Check {args : List AV} {A : Heap} {K Kp : AV → Heap → Prop} (hn : args.length ≤ 9) (h : X Try.prog (inl a_ref31_Check.res K Kp) a_ref31_Check.body .done (env0 args) A) : SimX Try.prog F_ref31_Check args A (outK K Kp) :=
  X_inl g_ref31_Check c_ref31_Check (by rw [Try.ntmps103]; exact hn) h
theorem d_ref31_Check {args : List AV} {A : Heap} {Ko : AOut → Heap → Prop} (hn : args.length ≤ 9) (hrf : AVL.Func.hasRF Try.f103 = false)
    (h : ∀ R : APost, (∀ e env A, fpost a_ref31_Check.res Ko e env A → R e env A) → X Try.prog R a_ref31_Check.body .done (env0 args) A) : SimD Try.prog F_ref31_Check args A Ko :=
  X_introD g_ref31_Check c_ref31_Check (by rw [Try.ntmps103]; exact hn) hrf h
@[simp] theorem k_ref31_Check : callable Try.prog F_ref31_Check = true := by kernel_rfl
theorem c_ref31_RootText : trF Try.prog Try.f104 = some a_ref31_RootText := by kernel_rfl
theorem g_ref31_RootText : Try.prog.funcs[104]? = some Try.f104 := by kernel_rfl
theorem i_ref31_RootText {args : List AV} {A : Heap} {Ko : AOut → Heap → Prop} (hn : args.length ≤ 16)
    (h : ∀ R : APost, (∀ e env A, fpost a_ref31_RootText.res Ko e env A → R e env A) → X Try.prog R a_ref31_RootText.body .done (env0 args) A) : SimX Try.prog F_ref31_RootText args A Ko :=
  X_intro g_ref31_RootText c_ref31_RootText (by rw [Try.ntmps104]; exact hn) h
theorem v_ref31_RootText {args : List AV} {v : AV} (hn : args.length ≤ 16) (h : X Try.prog (fin a_ref31_RootText.res v) a_ref31_RootText.body .done (env0 args) H0) : Gives Try.prog F_ref31_RootText args v :=
  Gives_intro g_ref31_RootText c_ref31_RootText (by rw [Try.ntmps104]; exact hn) h
theorem e_ref31_RootText {args : List AV} {Q : AOut → Prop} (hn : args.length ≤ 16) (h : X Try.prog (finE a_ref31_RootText.res Q) a_ref31_RootText.body .done (env0 args) H0) : Fins Try.prog F_ref31_RootText args Q :=
  Fins_intro g_ref31_RootText c_ref31_RootText (by rw [Try.ntmps104]; exact hn) h
theorem j_ref31_RootText {args : List AV} {A : Heap} {K Kp : AV → Heap → Prop} (hn : args.length ≤ 16) (h : X Try.prog (inl a_ref31_RootText.res K Kp) a_ref31_RootText.body .done (env0 args) A) : SimX Try.prog F_ref31_RootText args A (outK K Kp) :=
  X_inl g_ref31_RootText c_ref31_RootText (by rw [Try.ntmps104]; exact hn) h
theorem d_ref31_RootText {args : List AV} {A : Heap} {Ko : AOut → Heap → Prop} (hn : args.length ≤ 16) (hrf : AVL.Func.hasRF Try.f104 = false)
    (h : ∀ R : APost, (∀ e env A, fpost a_ref31_RootText.res Ko e env A → R e env A) → X Try.prog R a_ref31_RootText.body .done (env0 args) A) : SimD Try.prog F_ref31_RootText args A Ko :=
  X_introD g_ref31_RootText c_ref31_RootText (by rw [Try.ntmps104]; exact hn) hrf h
@[simp] theorem k_ref31_RootText : callable Try.prog F_ref31_RootText = true := by kernel_rfl
theorem c_ref31_top : trF Try.prog Try.f105 = some a_ref31_top := by kernel_rfl
theorem g_ref31_top : Try.prog.funcs[105]? = some Try.f105 := by kernel_rfl
theorem i_ref31_top {args : List AV} {A : Heap} {Ko : AOut → Heap → Prop} (hn : args.length ≤ 32)
    (h : ∀ R : APost, (∀ e env A, fpost a_ref31_top.res Ko e env A → R e env A) → X Try.prog R a_ref31_top.body .done (env0 args) A) : SimX Try.prog F_ref31_top args A Ko :=
  X_intro g_ref31_top c_ref31_top (by rw [Try.ntmps105]; exact hn) h
theorem v_ref31_top {args : List AV} {v : AV} (hn : args.length ≤ 32) (h : X Try.prog (fin a_ref31_top.res v) a_ref31_top.body .done (env0 args) H0) : Gives Try.prog F_ref31_top args v :=
  Gives_intro g_ref31_top c_ref31_top (by rw [Try.ntmps105]; exact hn) h
theorem e_ref31_top {args : List AV} {Q : AOut → Prop} (hn : args.length ≤ 32) (h : X Try.prog (finE a_ref31_top.res Q) a_ref31_top.body .done (env0 args) H0) : Fins Try.prog F_ref31_top args Q :=
  Fins_intro g_ref31_top c_ref31_top (by rw [Try.ntmps105]; exact hn) h
theorem j_ref31_top {args : List AV} {A : Heap} {K Kp : AV → Heap → Prop} (hn : args.length ≤ 32) (h : X Try.prog (inl a_ref31_top.res K Kp) a_ref31_top.body .done (env0 args) A) : SimX Try.prog F_ref31_top args A (outK K Kp) :=
  X_inl g_ref31_top c_ref31_top (by rw [Try.ntmps105]; exact hn) h
theorem d_ref31_top {args : List AV} {A : Heap} {Ko : AOut → Heap → Prop} (hn : args.length ≤ 32) (hrf : AVL.Func.hasRF Try.f105 = false)
    (h : ∀ R : APost, (∀ e env A, fpost a_ref31_top.res Ko e env A → R e env A) → X Try.prog R a_ref31_top.body .done (env0 args) A) : SimD Try.prog F_ref31_top args A Ko :=
  X_introD g_ref31_top c_ref31_top (by rw [Try.ntmps105]; exact hn) hrf h
@[simp] theorem k_ref31_top : callable Try.prog F_ref31_top = true := by kernel_rfl
theorem c_ref31_path : trF Try.prog Try.f106 = some a_ref31_path := by kernel_rfl
theorem g_ref31_path : Try.prog.funcs[106]? = some Try.f106 := by kernel_rfl
theorem i_ref31_path {args : List AV} {A : Heap} {Ko : AOut → Heap → Prop} (hn : args.length ≤ 49)
    (h : ∀ R : APost, (∀ e env A, fpost a_ref31_path.res Ko e env A → R e env A) → X Try.prog R a_ref31_path.body .done (env0 args) A) : SimX Try.prog F_ref31_path args A Ko :=
  X_intro g_ref31_path c_ref31_path (by rw [Try.ntmps106]; exact hn) h
theorem v_ref31_path {args : List AV} {v : AV} (hn : args.length ≤ 49) (h : X Try.prog (fin a_ref31_path.res v) a_ref31_path.body .done (env0 args) H0) : Gives Try.prog F_ref31_path args v :=
  Gives_intro g_ref31_path c_ref31_path (by rw [Try.ntmps106]; exact hn) h
theorem e_ref31_path {args : List AV} {Q : AOut → Prop} (hn : args.length ≤ 49) (h : X Try.prog (finE a_ref31_path.res Q) a_ref31_path.body .done (env0 args) H0) : Fins Try.prog F_ref31_path args Q :=
  Fins_intro g_ref31_path c_ref31_path (by rw [Try.ntmps106]; exact hn) h
theorem j_ref31_path {args : List AV} {A : Heap} {K Kp : AV → Heap → Prop} (hn : args.length ≤ 49) (h : X Try.prog (inl a_ref31_path.res K Kp) a_ref31_path.body .done (env0 args) A) : SimX Try.prog F_ref31_path args A (outK K Kp) :=
  X_inl g_ref31_path c_ref31_path (by rw [Try.ntmps106]; exact hn) h
theorem d_ref31_path {args : List AV} {A : Heap} {Ko : AOut → Heap → Prop} (hn : args.length ≤ 49) (hrf : AVL.Func.hasRF Try.f106 = false)
    (h : ∀ R : APost, (∀ e env A, fpost a_ref31_path.res Ko e env A → R e env A) → X Try.prog R a_ref31_path.body .done (env0 args) A) : SimD Try.prog F_ref31_path args A Ko :=
  X_introD g_ref31_path c_ref31_path (by rw [Try.ntmps106]; exact hn) hrf h
@[simp] theorem k_ref31_path : callable Try.prog F_ref31_path = true := by kernel_rfl
theorem c_ref31_NodeText : trF Try.prog Try.f112 = some a_ref31_NodeText := by kernel_rfl
theorem g_ref31_NodeText : Try.prog.funcs[112]? = some Try.f112 := by kernel_rfl
theorem i_ref31_NodeText {args : List AV} {A : Heap} {Ko : AOut → Heap → Prop} (hn : args.length ≤ 11)
    (h : ∀ R : APost, (∀ e env A, fpost a_ref31_NodeText.res Ko e env A → R e env A) → X Try.prog R a_ref31_NodeText.body .done (env0 args) A) : SimX Try.prog F_ref31_NodeText args A Ko :=
  X_intro g_ref31_NodeText c_ref31_NodeText (by rw [Try.ntmps112]; exact hn) h
theorem v_ref31_NodeText {args : List AV} {v : AV} (hn : args.length ≤ 11) (h : X Try.prog (fin a_ref31_NodeText.res v) a_ref31_NodeText.body .done (env0 args) H0) : Gives Try.prog F_ref31_NodeText args v :=
  Gives_intro g_ref31_NodeText c_ref31_NodeText (by rw [Try.ntmps112]; exact hn) h
theorem e_ref31_NodeText {args : List AV} {Q : AOut → Prop} (hn : args.length ≤ 11) (h : X Try.prog (finE a_ref31_NodeText.res Q) a_ref31_NodeText.body .done (env0 args) H0) : Fins Try.prog F_ref31_NodeText args Q :=
  Fins_intro g_ref31_NodeText c_ref31_NodeText (by rw [Try.ntmps112]; exact hn) h
theorem j_ref31_NodeText {args : List AV} {A : Heap} {K Kp : AV → Heap → Prop} (hn : args.length ≤ 11) (h : X Try.prog (inl a_ref31_NodeText.res K Kp) a_ref31_NodeText.body .done (env0 args) A) : SimX Try.prog F_ref31_NodeText args A (outK K Kp) :=
  X_inl g_ref31_NodeText c_ref31_NodeText (by rw [Try.ntmps112]; exact hn) h
theorem d_ref31_NodeText {args : List AV} {A : Heap} {Ko : AOut → Heap → Prop} (hn : args.length ≤ 11) (hrf : AVL.Func.hasRF Try.f112 = false)
    (h : ∀ R : APost, (∀ e env A, fpost a_ref31_NodeText.res Ko e env A → R e env A) → X Try.prog R a_ref31_NodeText.body .done (env0 args) A) : SimD Try.prog F_ref31_NodeText args A Ko :=
  X_introD g_ref31_NodeText c_ref31_NodeText (by rw [Try.ntmps112]; exact hn) hrf h
@[simp] theorem k_ref31_NodeText : callable Try.prog F_ref31_NodeText = true := by kernel_rfl
theorem c_ref31_behind : trF Try.prog Try.f128 = some a_ref31_behind := by kernel_rfl
theorem g_ref31_behind : Try.prog.funcs[128]? = some Try.f128 := by kernel_rfl
theorem i_ref31_behind {args : List AV} {A : Heap} {Ko : AOut → Heap → Prop} (hn : args.length ≤ 19)
    (h : ∀ R : APost, (∀ e env A, fpost a_ref31_behind.res Ko e env A → R e env A) → X Try.prog R a_ref31_behind.body .done (env0 args) A) : SimX Try.prog F_ref31_behind args A Ko :=
  X_intro g_ref31_behind c_ref31_behind (by rw [Try.ntmps128]; exact hn) h
theorem v_ref31_behind {args : List AV} {v : AV} (hn : args.length ≤ 19) (h : X Try.prog (fin a_ref31_behind.res v) a_ref31_behind.body .done (env0 args) H0) : Gives Try.prog F_ref31_behind args v :=
  Gives_intro g_ref31_behind c_ref31_behind (by rw [Try.ntmps128]; exact hn) h
theorem e_ref31_behind {args : List AV} {Q : AOut → Prop} (hn : args.length ≤ 19) (h : X Try.prog (finE a_ref31_behind.res Q) a_ref31_behind.body .done (env0 args) H0) : Fins Try.prog F_ref31_behind args Q :=
  Fins_intro g_ref31_behind c_ref31_behind (by rw [Try.ntmps128]; exact hn) h
theorem j_ref31_behind {args : List AV} {A : Heap} {K Kp : AV → Heap → Prop} (hn : args.length ≤ 19) (h : X Try.prog (inl a_ref31_behind.res K Kp) a_ref31_behind.body .done (env0 args) A) : SimX Try.prog F_ref31_behind args A (outK K Kp) :=
  X_inl g_ref31_behind c_ref31_behind (by rw [Try.ntmps128]; exact hn) h
theorem d_ref31_behind {args : List AV} {A : Heap} {Ko : AOut → Heap → Prop} (hn : args.length ≤ 19) (hrf : AVL.Func.hasRF Try.f128 = false)
    (h : ∀ R : APost, (∀ e env A, fpost a_ref31_behind.res Ko e env A → R e env A) → X Try.prog R a_ref31_behind.body .done (env0 args) A) : SimD Try.prog F_ref31_behind args A Ko :=
  X_introD g_ref31_behind c_ref31_behind (by rw [Try.ntmps128]; exact hn) hrf h
@[simp] theorem k_ref31_behind : callable Try.prog F_ref31_behind = true := by kernel_rfl
theorem c_ref31_width : trF Try.prog Try.f129 = some a_ref31_width := by kernel_rfl
theorem g_ref31_width : Try.prog.funcs[129]? = some Try.f129 := by kernel_rfl
theorem i_ref31_width {args : List AV} {A : Heap} {Ko : AOut → Heap → Prop} (hn : args.length ≤ 11)
    (h : ∀ R : APost, (∀ e env A, fpost a_ref31_width.res Ko e env A → R e env A) → X Try.prog R a_ref31_width.body .done (env0 args) A) : SimX Try.prog F_ref31_width args A Ko :=
  X_intro g_ref31_width c_ref31_width (by rw [Try.ntmps129]; exact hn) h
theorem v_ref31_width {args : List AV} {v : AV} (hn : args.length ≤ 11) (h : X Try.prog (fin a_ref31_width.res v) a_ref31_width.body .done (env0 args) H0) : Gives Try.prog F_ref31_width args v :=
  Gives_intro g_ref31_width c_ref31_width (by rw [Try.ntmps129]; exact hn) h
theorem e_ref31_width {args : List AV} {Q : AOut → Prop} (hn : args.length ≤ 11) (h : X Try.prog (finE a_ref31_width.res Q) a_ref31_width.body .done (env0 args) H0) : Fins Try.prog F_ref31_width args Q :=
  Fins_intro g_ref31_width c_ref31_width (by rw [Try.ntmps129]; exact hn) h
theorem j_ref31_width {args : List AV} {A : Heap} {K Kp : AV → Heap → Prop} (hn : args.length ≤ 11) (h : X Try.prog (inl a_ref31_width.res K Kp) a_ref31_width.body .done (env0 args) A) : SimX Try.prog F_ref31_width args A (outK K Kp) :=
  X_inl g_ref31_width c_ref31_width (by rw [Try.ntmps129]; exact hn) h
theorem d_ref31_width {args : List AV} {A : Heap} {Ko : AOut → Heap → Prop} (hn : args.length ≤ 11) (hrf : AVL.Func.hasRF Try.f129 = false)
    (h : ∀ R : APost, (∀ e env A, fpost a_ref31_width.res Ko e env A → R e env A) → X Try.prog R a_ref31_width.body .done (env0 args) A) : SimD Try.prog F_ref31_width args A Ko :=
  X_introD g_ref31_width c_ref31_width (by rw [Try.ntmps129]; exact hn) hrf h
@[simp] theorem k_ref31_width : callable Try.prog F_ref31_width = true := by kernel_rfl
theorem c_law31_TreeRoots : trF Try.prog Try.f12 = some a_law31_TreeRoots := by kernel_rfl
theorem g_law31_TreeRoots : Try.prog.funcs[12]? = some Try.f12 := by kernel_rfl
theorem i_law31_TreeRoots {args : List AV} {A : Heap} {Ko : AOut → Heap → Prop} (hn : args.length ≤ 138)
    (h : ∀ R : APost, (∀ e env A, fpost a_law31_TreeRoots.res Ko e env A → R e env A) → X Try.prog R a_law31_TreeRoots.body .done (env0 args) A) : SimX Try.prog F_law31_TreeRoots args A Ko :=
  X_intro g_law31_TreeRoots c_law31_TreeRoots (by rw [Try.ntmps12]; exact hn) h
theorem v_law31_TreeRoots {args : List AV} {v : AV} (hn : args.length ≤ 138) (h : X Try.prog (fin a_law31_TreeRoots.res v) a_law31_TreeRoots.body .done (env0 args) H0) : Gives Try.prog F_law31_TreeRoots args v :=
  Gives_intro g_law31_TreeRoots c_law31_TreeRoots (by rw [Try.ntmps12]; exact hn) h
theorem e_law31_TreeRoots {args : List AV} {Q : AOut → Prop} (hn : args.length ≤ 138) (h : X Try.prog (finE a_law31_TreeRoots.res Q) a_law31_TreeRoots.body .done (env0 args) H0) : Fins Try.prog F_law31_TreeRoots args Q :=
  Fins_intro g_law31_TreeRoots c_law31_TreeRoots (by rw [Try.ntmps12]; exact hn) h
theorem j_law31_TreeRoots {args : List AV} {A : Heap} {K Kp : AV → Heap → Prop} (hn : args.length ≤ 138) (h : X Try.prog (inl a_law31_TreeRoots.res K Kp) a_law31_TreeRoots.body .done (env0 args) A) : SimX Try.prog F_law31_TreeRoots args A (outK K Kp) :=
  X_inl g_law31_TreeRoots c_law31_TreeRoots (by rw [Try.ntmps12]; exact hn) h
theorem d_law31_TreeRoots {args : List AV} {A : Heap} {Ko : AOut → Heap → Prop} (hn : args.length ≤ 138) (hrf : AVL.Func.hasRF Try.f12 = false)
    (h : ∀ R : APost, (∀ e env A, fpost a_law31_TreeRoots.res Ko e env A → R e env A) → X Try.prog R a_law31_TreeRoots.body .done (env0 args) A) : SimD Try.prog F_law31_TreeRoots args A Ko :=
  X_introD g_law31_TreeRoots c_law31_TreeRoots (by rw [Try.ntmps12]; exact hn) hrf h
@[simp] theorem k_law31_TreeRoots : callable Try.prog F_law31_TreeRoots = true := by kernel_rfl
theorem c_law31_TreeBack : trF Try.prog Try.f13 = some a_law31_TreeBack := by kernel_rfl
theorem g_law31_TreeBack : Try.prog.funcs[13]? = some Try.f13 := by kernel_rfl
theorem i_law31_TreeBack {args : List AV} {A : Heap} {Ko : AOut → Heap → Prop} (hn : args.length ≤ 93)
    (h : ∀ R : APost, (∀ e env A, fpost a_law31_TreeBack.res Ko e env A → R e env A) → X Try.prog R a_law31_TreeBack.body .done (env0 args) A) : SimX Try.prog F_law31_TreeBack args A Ko :=
  X_intro g_law31_TreeBack c_law31_TreeBack (by rw [Try.ntmps13]; exact hn) h
theorem v_law31_TreeBack {args : List AV} {v : AV} (hn : args.length ≤ 93) (h : X Try.prog (fin a_law31_TreeBack.res v) a_law31_TreeBack.body .done (env0 args) H0) : Gives Try.prog F_law31_TreeBack args v :=
  Gives_intro g_law31_TreeBack c_law31_TreeBack (by rw [Try.ntmps13]; exact hn) h
theorem e_law31_TreeBack {args : List AV} {Q : AOut → Prop} (hn : args.length ≤ 93) (h : X Try.prog (finE a_law31_TreeBack.res Q) a_law31_TreeBack.body .done (env0 args) H0) : Fins Try.prog F_law31_TreeBack args Q :=
  Fins_intro g_law31_TreeBack c_law31_TreeBack (by rw [Try.ntmps13]; exact hn) h
theorem j_law31_TreeBack {args : List AV} {A : Heap} {K Kp : AV → Heap → Prop} (hn : args.length ≤ 93) (h : X Try.prog (inl a_law31_TreeBack.res K Kp) a_law31_TreeBack.body .done (env0 args) A) : SimX Try.prog F_law31_TreeBack args A (outK K Kp) :=
  X_inl g_law31_TreeBack c_law31_TreeBack (by rw [Try.ntmps13]; exact hn) h
theorem d_law31_TreeBack {args : List AV} {A : Heap} {Ko : AOut → Heap → Prop} (hn : args.length ≤ 93) (hrf : AVL.Func.hasRF Try.f13 = false)
    (h : ∀ R : APost, (∀ e env A, fpost a_law31_TreeBack.res Ko e env A → R e env A) → X Try.prog R a_law31_TreeBack.body .done (env0 args) A) : SimD Try.prog F_law31_TreeBack args A Ko :=
  X_introD g_law31_TreeBack c_law31_TreeBack (by rw [Try.ntmps13]; exact hn) hrf h
@[simp] theorem k_law31_TreeBack : callable Try.prog F_law31_TreeBack = true := by kernel_rfl
theorem c_law31_TreeTells : trF Try.prog Try.f14 = some a_law31_TreeTells := by kernel_rfl
theorem g_law31_TreeTells : Try.prog.funcs[14]? = some Try.f14 := by kernel_rfl
theorem i_law31_TreeTells {args : List AV} {A : Heap} {Ko : AOut → Heap → Prop} (hn : args.length ≤ 121)
    (h : ∀ R : APost, (∀ e env A, fpost a_law31_TreeTells.res Ko e env A → R e env A) → X Try.prog R a_law31_TreeTells.body .done (env0 args) A) : SimX Try.prog F_law31_TreeTells args A Ko :=
  X_intro g_law31_TreeTells c_law31_TreeTells (by rw [Try.ntmps14]; exact hn) h
theorem v_law31_TreeTells {args : List AV} {v : AV} (hn : args.length ≤ 121) (h : X Try.prog (fin a_law31_TreeTells.res v) a_law31_TreeTells.body .done (env0 args) H0) : Gives Try.prog F_law31_TreeTells args v :=
  Gives_intro g_law31_TreeTells c_law31_TreeTells (by rw [Try.ntmps14]; exact hn) h
theorem e_law31_TreeTells {args : List AV} {Q : AOut → Prop} (hn : args.length ≤ 121) (h : X Try.prog (finE a_law31_TreeTells.res Q) a_law31_TreeTells.body .done (env0 args) H0) : Fins Try.prog F_law31_TreeTells args Q :=
  Fins_intro g_law31_TreeTells c_law31_TreeTells (by rw [Try.ntmps14]; exact hn) h
theorem j_law31_TreeTells {args : List AV} {A : Heap} {K Kp : AV → Heap → Prop} (hn : args.length ≤ 121) (h : X Try.prog (inl a_law31_TreeTells.res K Kp) a_law31_TreeTells.body .done (env0 args) A) : SimX Try.prog F_law31_TreeTells args A (outK K Kp) :=
  X_inl g_law31_TreeTells c_law31_TreeTells (by rw [Try.ntmps14]; exact hn) h
theorem d_law31_TreeTells {args : List AV} {A : Heap} {Ko : AOut → Heap → Prop} (hn : args.length ≤ 121) (hrf : AVL.Func.hasRF Try.f14 = false)
    (h : ∀ R : APost, (∀ e env A, fpost a_law31_TreeTells.res Ko e env A → R e env A) → X Try.prog R a_law31_TreeTells.body .done (env0 args) A) : SimD Try.prog F_law31_TreeTells args A Ko :=
  X_introD g_law31_TreeTells c_law31_TreeTells (by rw [Try.ntmps14]; exact hn) hrf h
@[simp] theorem k_law31_TreeTells : callable Try.prog F_law31_TreeTells = true := by kernel_rfl
theorem c_law31_light : trF Try.prog Try.f56 = some a_law31_light := by kernel_rfl
theorem g_law31_light : Try.prog.funcs[56]? = some Try.f56 := by kernel_rfl
theorem i_law31_light {args : List AV} {A : Heap} {Ko : AOut → Heap → Prop} (hn : args.length ≤ 19)
    (h : ∀ R : APost, (∀ e env A, fpost a_law31_light.res Ko e env A → R e env A) → X Try.prog R a_law31_light.body .done (env0 args) A) : SimX Try.prog F_law31_light args A Ko :=
  X_intro g_law31_light c_law31_light (by rw [Try.ntmps56]; exact hn) h
theorem v_law31_light {args : List AV} {v : AV} (hn : args.length ≤ 19) (h : X Try.prog (fin a_law31_light.res v) a_law31_light.body .done (env0 args) H0) : Gives Try.prog F_law31_light args v :=
  Gives_intro g_law31_light c_law31_light (by rw [Try.ntmps56]; exact hn) h
theorem e_law31_light {args : List AV} {Q : AOut → Prop} (hn : args.length ≤ 19) (h : X Try.prog (finE a_law31_light.res Q) a_law31_light.body .done (env0 args) H0) : Fins Try.prog F_law31_light args Q :=
  Fins_intro g_law31_light c_law31_light (by rw [Try.ntmps56]; exact hn) h
theorem j_law31_light {args : List AV} {A : Heap} {K Kp : AV → Heap → Prop} (hn : args.length ≤ 19) (h : X Try.prog (inl a_law31_light.res K Kp) a_law31_light.body .done (env0 args) A) : SimX Try.prog F_law31_light args A (outK K Kp) :=
  X_inl g_law31_light c_law31_light (by rw [Try.ntmps56]; exact hn) h
theorem d_law31_light {args : List AV} {A : Heap} {Ko : AOut → Heap → Prop} (hn : args.length ≤ 19) (hrf : AVL.Func.hasRF Try.f56 = false)
    (h : ∀ R : APost, (∀ e env A, fpost a_law31_light.res Ko e env A → R e env A) → X Try.prog R a_law31_light.body .done (env0 args) A) : SimD Try.prog F_law31_light args A Ko :=
  X_introD g_law31_light c_law31_light (by rw [Try.ntmps56]; exact hn) hrf h
@[simp] theorem k_law31_light : callable Try.prog F_law31_light = true := by kernel_rfl
theorem c_law31_works : trF Try.prog Try.f57 = some a_law31_works := by kernel_rfl
theorem g_law31_works : Try.prog.funcs[57]? = some Try.f57 := by kernel_rfl
theorem i_law31_works {args : List AV} {A : Heap} {Ko : AOut → Heap → Prop} (hn : args.length ≤ 122)
    (h : ∀ R : APost, (∀ e env A, fpost a_law31_works.res Ko e env A → R e env A) → X Try.prog R a_law31_works.body .done (env0 args) A) : SimX Try.prog F_law31_works args A Ko :=
  X_intro g_law31_works c_law31_works (by rw [Try.ntmps57]; exact hn) h
theorem v_law31_works {args : List AV} {v : AV} (hn : args.length ≤ 122) (h : X Try.prog (fin a_law31_works.res v) a_law31_works.body .done (env0 args) H0) : Gives Try.prog F_law31_works args v :=
  Gives_intro g_law31_works c_law31_works (by rw [Try.ntmps57]; exact hn) h
theorem e_law31_works {args : List AV} {Q : AOut → Prop} (hn : args.length ≤ 122) (h : X Try.prog (finE a_law31_works.res Q) a_law31_works.body .done (env0 args) H0) : Fins Try.prog F_law31_works args Q :=
  Fins_intro g_law31_works c_law31_works (by rw [Try.ntmps57]; exact hn) h
theorem j_law31_works {args : List AV} {A : Heap} {K Kp : AV → Heap → Prop} (hn : args.length ≤ 122) (h : X Try.prog (inl a_law31_works.res K Kp) a_law31_works.body .done (env0 args) A) : SimX Try.prog F_law31_works args A (outK K Kp) :=
  X_inl g_law31_works c_law31_works (by rw [Try.ntmps57]; exact hn) h
theorem d_law31_works {args : List AV} {A : Heap} {Ko : AOut → Heap → Prop} (hn : args.length ≤ 122) (hrf : AVL.Func.hasRF Try.f57 = false)
    (h : ∀ R : APost, (∀ e env A, fpost a_law31_works.res Ko e env A → R e env A) → X Try.prog R a_law31_works.body .done (env0 args) A) : SimD Try.prog F_law31_works args A Ko :=
  X_introD g_law31_works c_law31_works (by rw [Try.ntmps57]; exact hn) hrf h
@[simp] theorem k_law31_works : callable Try.prog F_law31_works = true := by kernel_rfl
theorem c_law31_texts : trF Try.prog Try.f72 = some a_law31_texts := by kernel_rfl
theorem g_law31_texts : Try.prog.funcs[72]? = some Try.f72 := by kernel_rfl
theorem i_law31_texts {args : List AV} {A : Heap} {Ko : AOut → Heap → Prop} (hn : args.length ≤ 72)
    (h : ∀ R : APost, (∀ e env A, fpost a_law31_texts.res Ko e env A → R e env A) → X Try.prog R a_law31_texts.body .done (env0 args) A) : SimX Try.prog F_law31_texts args A Ko :=
  X_intro g_law31_texts c_law31_texts (by rw [Try.ntmps72]; exact hn) h
theorem v_law31_texts {args : List AV} {v : AV} (hn : args.length ≤ 72) (h : X Try.prog (fin a_law31_texts.res v) a_law31_texts.body .done (env0 args) H0) : Gives Try.prog F_law31_texts args v :=
  Gives_intro g_law31_texts c_law31_texts (by rw [Try.ntmps72]; exact hn) h
theorem e_law31_texts {args : List AV} {Q : AOut → Prop} (hn : args.length ≤ 72) (h : X Try.prog (finE a_law31_texts.res Q) a_law31_texts.body .done (env0 args) H0) : Fins Try.prog F_law31_texts args Q :=
  Fins_intro g_law31_texts c_law31_texts (by rw [Try.ntmps72]; exact hn) h
theorem j_law31_texts {args : List AV} {A : Heap} {K Kp : AV → Heap → Prop} (hn : args.length ≤ 72) (h : X Try.prog (inl a_law31_texts.res K Kp) a_law31_texts.body .done (env0 args) A) : SimX Try.prog F_law31_texts args A (outK K Kp) :=
  X_inl g_law31_texts c_law31_texts (by rw [Try.ntmps72]; exact hn) h
theorem d_law31_texts {args : List AV} {A : Heap} {Ko : AOut → Heap → Prop} (hn : args.length ≤ 72) (hrf : AVL.Func.hasRF Try.f72 = false)
    (h : ∀ R : APost, (∀ e env A, fpost a_law31_texts.res Ko e env A → R e env A) → X Try.prog R a_law31_texts.body .done (env0 args) A) : SimD Try.prog F_law31_texts args A Ko :=
  X_introD g_law31_texts c_law31_texts (by rw [Try.ntmps72]; exact hn) hrf h
@[simp] theorem k_law31_texts : callable Try.prog F_law31_texts = true := by kernel_rfl
theorem c_law31_clash : trF Try.prog Try.f73 = some a_law31_clash := by kernel_rfl
theorem g_law31_clash : Try.prog.funcs[73]? = some Try.f73 := by kernel_rfl
theorem i_law31_clash {args : List AV} {A : Heap} {Ko : AOut → Heap → Prop} (hn : args.length ≤ 40)
    (h : ∀ R : APost, (∀ e env A, fpost a_law31_clash.res Ko e env A → R e env A) → X Try.prog R a_law31_clash.body .done (env0 args) A) : SimX Try.prog F_law31_clash args A Ko :=
  X_intro g_law31_clash c_law31_clash (by rw [Try.ntmps73]; exact hn) h
theorem v_law31_clash {args : List AV} {v : AV} (hn : args.length ≤ 40) (h : X Try.prog (fin a_law31_clash.res v) a_law31_clash.body .done (env0 args) H0) : Gives Try.prog F_law31_clash args v :=
  Gives_intro g_law31_clash c_law31_clash (by rw [Try.ntmps73]; exact hn) h
theorem e_law31_clash {args : List AV} {Q : AOut → Prop} (hn : args.length ≤ 40) (h : X Try.prog (finE a_law31_clash.res Q) a_law31_clash.body .done (env0 args) H0) : Fins Try.prog F_law31_clash args Q :=
  Fins_intro g_law31_clash c_law31_clash (by rw [Try.ntmps73]; exact hn) h
theorem j_law31_clash {args : List AV} {A : Heap} {K Kp : AV → Heap → Prop} (hn : args.length ≤ 40) (h : X Try.prog (inl a_law31_clash.res K Kp) a_law31_clash.body .done (env0 args) A) : SimX Try.prog F_law31_clash args A (outK K Kp) :=
  X_inl g_law31_clash c_law31_clash (by rw [Try.ntmps73]; exact hn) h
theorem d_law31_clash {args : List AV} {A : Heap} {Ko : AOut → Heap → Prop} (hn : args.length ≤ 40) (hrf : AVL.Func.hasRF Try.f73 = false)
    (h : ∀ R : APost, (∀ e env A, fpost a_law31_clash.res Ko e env A → R e env A) → X Try.prog R a_law31_clash.body .done (env0 args) A) : SimD Try.prog F_law31_clash args A Ko :=
  X_introD g_law31_clash c_law31_clash (by rw [Try.ntmps73]; exact hn) hrf h
@[simp] theorem k_law31_clash : callable Try.prog F_law31_clash = true := by kernel_rfl
end Go.Proofs.Ytfdckjliinpjiaa

/- Abstract programs; that they are the program's. -/
namespace Go.Proofs.Ytfdckjliinpjiaa
open Go AVL
set_option linter.unusedVariables false
set_option maxRecDepth 20000

def q_word_Get_0 : List AOper := [
  ⟨(some 2), (.mv (.v (.int .u64 0))), none⟩]
def q_word_Get_1 : List AOper := [
  ⟨(some 3), (.mv (.v (.int .u64 0))), none⟩]
def q_word_Get_2 : List AOper := [
  ⟨(some 5), (.mv (.t 0)), none⟩,
  ⟨(some 6), (.len false (.t 5)), none⟩,
  ⟨(some 7), (.xx (.p (.mnI false)) [(.t 6), (.v (.int .i64 8))]), none⟩,
  ⟨(some 8), (.bin .sub (.t 7) (.v (.int .i64 1))), none⟩,
  ⟨(some 4), (.mv (.t 8)), none⟩]
def q_word_Get_3 : List AOper := [
  ⟨(some 9), (.mv (.t 4)), none⟩,
  ⟨(some 10), (.bin .geq (.t 9) (.v (.int .i64 0))), none⟩]
def q_word_Get_4 : List AOper := [
  ⟨(some 13), (.mv (.t 3)), none⟩,
  ⟨(some 14), (.bin .shl (.t 13) (.v (.int .u64 8))), none⟩,
  ⟨(some 15), (.mv (.t 0)), none⟩,
  ⟨(some 16), (.mv (.t 4)), none⟩,
  ⟨(some 17), (.idx 1 (.t 15) (.t 16)), none⟩,
  ⟨(some 18), (.load .sc 1 (.t 17)), none⟩,
  ⟨(some 19), (.conv .u64 (.t 18)), none⟩,
  ⟨(some 20), (.bin .or (.t 14) (.t 19)), none⟩,
  ⟨(some 3), (.mv (.t 20)), none⟩]
def q_word_Get_5 : List AOper := [
  ⟨(some 11), (.mv (.t 4)), none⟩,
  ⟨(some 12), (.bin .sub (.t 11) (.v (.int .i64 1))), none⟩,
  ⟨(some 4), (.mv (.t 12)), none⟩]
def q_word_Get_L6 : ACode := (.seq (.seq (.region q_word_Get_3) (.cond (.t 10) .skip (.exit 0))) (.seq (.block 1 (.region q_word_Get_4)) (.region q_word_Get_5)))
def q_word_Get_6 : List AOper := [
  ⟨(some 21), (.mv (.t 3)), none⟩,
  ⟨(some 2), (.mv (.t 21)), none⟩]
def a_word_Get : AFunc := ⟨[(.tmp 2)], (.seq (.region q_word_Get_0) (.seq (.region q_word_Get_1) (.seq (.seq (.region q_word_Get_2) (.block 0 (.loop q_word_Get_L6))) (.seq (.region q_word_Get_6) .ret))))⟩

def q_word_Put_0 : List AOper := [
  ⟨(some 4), (.mv (.v .nilS)), none⟩]
def q_word_Put_1 : List AOper := [
  ⟨(some 7), (.mv (.t 1)), none⟩,
  ⟨(some 8), (.xx (.p (.mnI true)) [(.t 7), (.v (.int .i64 0))]), none⟩,
  ⟨(some 9), (.mkI 5 .u8 1 (.t 8) (.t 8)), none⟩,
  ⟨(some 5), (.mv (.t 9)), none⟩]
def q_word_Put_2 : List AOper := [
  ⟨(some 10), (.mv (.t 5)), none⟩,
  ⟨(some 11), (.len false (.t 10)), none⟩,
  ⟨(some 12), (.mv (.v (.int .i64 0))), none⟩]
def q_word_Put_3 : List AOper := [
  ⟨(some 13), (.bin .lss (.t 12) (.t 11)), none⟩]
def q_word_Put_4 : List AOper := [
  ⟨(some 14), (.mv (.t 12)), none⟩,
  ⟨(some 6), (.mv (.t 14)), none⟩]
def q_word_Put_5 : List AOper := [
  ⟨(some 15), (.mv (.t 6)), none⟩,
  ⟨(some 16), (.bin .lss (.t 15) (.v (.int .i64 8))), none⟩]
def q_word_Put_6 : List AOper := [
  ⟨(some 17), (.mv (.t 5)), none⟩,
  ⟨(some 18), (.mv (.t 6)), none⟩,
  ⟨(some 19), (.mv (.t 0)), none⟩,
  ⟨(some 20), (.mv (.t 6)), none⟩,
  ⟨(some 21), (.bin .mul (.v (.int .i64 8)) (.t 20)), none⟩,
  ⟨(some 22), (.bin .shr (.t 19) (.t 21)), none⟩,
  ⟨(some 23), (.conv .u8 (.t 22)), none⟩,
  ⟨(some 24), (.idx 1 (.t 17) (.t 18)), none⟩,
  ⟨none, (.store .sc 1 (.t 24) (.t 23)), none⟩]
def q_word_Put_7 : List AOper := [
  ⟨(some 25), (.bin .add (.t 12) (.v (.int .i64 1))), none⟩,
  ⟨(some 12), (.mv (.t 25)), none⟩]
def q_word_Put_L8 : ACode := (.seq (.region q_word_Put_3) (.seq (.cond (.t 13) .skip (.exit 0)) (.seq (.block 1 (.seq (.region q_word_Put_4) (.seq (.region q_word_Put_5) (.cond (.t 16) (.region q_word_Put_6) .skip)))) (.region q_word_Put_7))))
def q_word_Put_8 : List AOper := [
  ⟨(some 26), (.mv (.t 5)), none⟩,
  ⟨(some 4), (.mv (.t 26)), none⟩]
def a_word_Put : AFunc := ⟨[(.tmp 4)], (.seq (.region q_word_Put_0) (.seq (.region q_word_Put_1) (.seq (.seq (.region q_word_Put_2) (.block 0 (.loop q_word_Put_L8))) (.seq (.region q_word_Put_8) .ret))))⟩

def q_word_Zero_0 : List AOper := [
  ⟨(some 2), (.mv (.v (.bool false))), none⟩]
def q_word_Zero_1 : List AOper := [
  ⟨(some 5), (.mv (.t 0)), none⟩,
  ⟨(some 6), (.len false (.t 5)), none⟩,
  ⟨(some 7), (.mv (.v (.int .i64 0))), none⟩]
def q_word_Zero_2 : List AOper := [
  ⟨(some 8), (.bin .lss (.t 7) (.t 6)), none⟩]
def q_word_Zero_3 : List AOper := [
  ⟨(some 9), (.idx 1 (.t 5) (.t 7)), none⟩,
  ⟨(some 10), (.load .sc 1 (.t 9)), none⟩,
  ⟨(some 4), (.mv (.t 10)), none⟩]
def q_word_Zero_4 : List AOper := [
  ⟨(some 11), (.mv (.t 4)), none⟩,
  ⟨(some 12), (.eq .scI true (.t 11) (.v (.int .u8 0))), none⟩]
def q_word_Zero_5 : List AOper := [
  ⟨(some 2), (.mv (.v (.bool false))), none⟩]
def q_word_Zero_6 : List AOper := [
  ⟨(some 13), (.bin .add (.t 7) (.v (.int .i64 1))), none⟩,
  ⟨(some 7), (.mv (.t 13)), none⟩]
def q_word_Zero_L7 : ACode := (.seq (.region q_word_Zero_2) (.seq (.cond (.t 8) .skip (.exit 0)) (.seq (.block 1 (.seq (.region q_word_Zero_3) (.seq (.region q_word_Zero_4) (.cond (.t 12) (.seq (.region q_word_Zero_5) .ret) .skip)))) (.region q_word_Zero_6))))
def q_word_Zero_7 : List AOper := [
  ⟨(some 2), (.mv (.v (.bool true))), none⟩]
def a_word_Zero : AFunc := ⟨[(.tmp 2)], (.seq (.region q_word_Zero_0) (.seq (.seq (.region q_word_Zero_1) (.block 0 (.loop q_word_Zero_L7))) (.seq (.region q_word_Zero_7) .ret)))⟩

def q_word_Whole_0 : List AOper := [
  ⟨(some 2), (.alloc 54 [(.iarr .u8 256 (List.replicate 256 0))]), none⟩]
def q_word_Whole_1 : List AOper := [
  ⟨(some 3), (.alloc 54 [(.iarr .u8 256 (List.replicate 256 0))]), none⟩]
def q_word_Whole_2 : List AOper := [
  ⟨(some 4), (.slcA 256 (.t 3) none none), none⟩,
  ⟨(some 5), (.mv (.t 0)), none⟩,
  ⟨(some 6), (.xx (.cpI .u8) [(.t 4), (.t 5)]), none⟩]
def q_word_Whole_3 : List AOper := [
  ⟨(some 7), (.load (.ia .u8 256) 256 (.t 3)), none⟩,
  ⟨none, (.store (.ia .u8 256) 256 (.t 2) (.t 7)), none⟩]
def a_word_Whole : AFunc := ⟨[(.cell 2 (.ia .u8 256) 256)], (.seq (.region q_word_Whole_0) (.seq (.region q_word_Whole_1) (.seq (.region q_word_Whole_2) (.seq (.region q_word_Whole_3) .ret))))⟩

def q_ref01_Put_0 : List AOper := [
  ⟨(some 4), (.mv (.v .nilS)), none⟩]
def q_ref01_Put_1 : List AOper := [
  ⟨(some 6), (.mv (.t 1)), none⟩,
  ⟨(some 7), (.bin .leq (.t 6) (.v (.int .i64 0))), none⟩]
def q_ref01_Put_2 : List AOper := [
  ⟨(some 4), (.mv (.v .nilS)), none⟩]
def q_ref01_Put_3 : List AOper := [
  ⟨(some 8), (.mv (.t 0)), none⟩,
  ⟨(some 9), (.bin .rem (.t 8) (.v (.int .u64 256))), none⟩,
  ⟨(some 10), (.conv .u8 (.t 9)), none⟩,
  ⟨(some 11), (.bslI 5 .u8 [(.t 10)]), none⟩,
  ⟨(some 5), (.mv (.t 11)), none⟩]
def q_ref01_Put_4 : List AOper := [
  ⟨(some 12), (.mv (.t 5)), none⟩,
  ⟨(some 13), (.mv (.t 0)), none⟩,
  ⟨(some 14), (.bin .quo (.t 13) (.v (.int .u64 256))), none⟩,
  ⟨(some 15), (.mv (.t 1)), none⟩,
  ⟨(some 16), (.bin .sub (.t 15) (.v (.int .i64 1))), none⟩,
  ⟨(some 17), (.call F_ref01_Put [(.sc, (.t 14)), (.sc, (.t 16))]), none⟩,
  ⟨(some 18), (.appI 5 .u8 1 (.t 12) (.t 17)), none⟩,
  ⟨(some 4), (.mv (.t 18)), none⟩]
def a_ref01_Put : AFunc := ⟨[(.tmp 4)], (.seq (.region q_ref01_Put_0) (.seq (.seq (.region q_ref01_Put_1) (.cond (.t 7) (.seq (.region q_ref01_Put_2) .ret) .skip)) (.seq (.region q_ref01_Put_3) (.seq (.region q_ref01_Put_4) .ret))))⟩

def q_ref01_Same_0 : List AOper := [
  ⟨(some 4), (.mv (.v (.bool false))), none⟩]
def q_ref01_Same_1 : List AOper := [
  ⟨(some 5), (.mv (.t 0)), none⟩,
  ⟨(some 6), (.xx .bstr [(.t 5)]), none⟩,
  ⟨(some 7), (.mv (.t 1)), none⟩,
  ⟨(some 8), (.xx .bstr [(.t 7)]), none⟩,
  ⟨(some 9), (.eq .scS false (.t 6) (.t 8)), none⟩,
  ⟨(some 4), (.mv (.t 9)), none⟩]
def a_ref01_Same : AFunc := ⟨[(.tmp 4)], (.seq (.region q_ref01_Same_0) (.seq (.region q_ref01_Same_1) .ret))⟩

def q_ref01_Zero_0 : List AOper := [
  ⟨(some 2), (.mv (.v (.bool false))), none⟩]
def q_ref01_Zero_1 : List AOper := [
  ⟨(some 3), (.mv (.v (.int .i64 0))), none⟩]
def q_ref01_Zero_2 : List AOper := [
  ⟨(some 4), (.mv (.t 3)), none⟩,
  ⟨(some 5), (.mv (.t 0)), none⟩,
  ⟨(some 6), (.len false (.t 5)), none⟩,
  ⟨(some 7), (.bin .lss (.t 4) (.t 6)), none⟩]
def q_ref01_Zero_3 : List AOper := [
  ⟨(some 10), (.mv (.t 0)), none⟩,
  ⟨(some 11), (.mv (.t 3)), none⟩,
  ⟨(some 12), (.idx 1 (.t 10) (.t 11)), none⟩,
  ⟨(some 13), (.load .sc 1 (.t 12)), none⟩,
  ⟨(some 14), (.bin .gtr (.t 13) (.v (.int .u8 0))), none⟩]
def q_ref01_Zero_4 : List AOper := [
  ⟨(some 2), (.mv (.v (.bool false))), none⟩]
def q_ref01_Zero_5 : List AOper := [
  ⟨(some 8), (.mv (.t 3)), none⟩,
  ⟨(some 9), (.bin .add (.t 8) (.v (.int .i64 1))), none⟩,
  ⟨(some 3), (.mv (.t 9)), none⟩]
def q_ref01_Zero_L6 : ACode := (.seq (.seq (.region q_ref01_Zero_2) (.cond (.t 7) .skip (.exit 0))) (.seq (.block 1 (.seq (.region q_ref01_Zero_3) (.cond (.t 14) (.seq (.region q_ref01_Zero_4) .ret) .skip))) (.region q_ref01_Zero_5)))
def q_ref01_Zero_6 : List AOper := [
  ⟨(some 2), (.mv (.v (.bool true))), none⟩]
def a_ref01_Zero : AFunc := ⟨[(.tmp 2)], (.seq (.region q_ref01_Zero_0) (.seq (.seq (.region q_ref01_Zero_1) (.block 0 (.loop q_ref01_Zero_L6))) (.seq (.region q_ref01_Zero_6) .ret)))⟩


theorem c_word_Get : trF Try.prog Try.f133 = some a_word_Get := by kernel_rfl
theorem g_word_Get : Try.prog.funcs[133]? = some Try.f133 := by kernel_rfl
theorem i_word_Get {args : List AV} {A : Heap} {Ko : AOut → Heap → Prop} (hn : args.length ≤ 22)
    (h : ∀ R : APost, (∀ e env A, fpost a_word_Get.res Ko e env A → R e env A) → X Try.prog R a_word_Get.body .done (env0 args) A) : SimX Try.prog F_word_Get args A Ko :=
  X_intro g_word_Get c_word_Get (by rw [Try.ntmps133]; exact hn) h
theorem v_word_Get {args : List AV} {v : AV} (hn : args.length ≤ 22) (h : X Try.prog (fin a_word_Get.res v) a_word_Get.body .done (env0 args) H0) : Gives Try.prog F_word_Get args v :=
  Gives_intro g_word_Get c_word_Get (by rw [Try.ntmps133]; exact hn) h
theorem e_word_Get {args : List AV} {Q : AOut → Prop} (hn : args.length ≤ 22) (h : X Try.prog (finE a_word_Get.res Q) a_word_Get.body .done (env0 args) H0) : Fins Try.prog F_word_Get args Q :=
  Fins_intro g_word_Get c_word_Get (by rw [Try.ntmps133]; exact hn) h
theorem j_word_Get {args : List AV} {A : Heap} {K Kp : AV → Heap → Prop} (hn : args.length ≤ 22) (h : X Try.prog (inl a_word_Get.res K Kp) a_word_Get.body .done (env0 args) A) : SimX Try.prog F_word_Get args A (outK K Kp) :=
  X_inl g_word_Get c_word_Get (by rw [Try.ntmps133]; exact hn) h
theorem d_word_Get {args : List AV} {A : Heap} {Ko : AOut → Heap → Prop} (hn : args.length ≤ 22) (hrf : AVL.Func.hasRF Try.f133 = false)
    (h : ∀ R : APost, (∀ e env A, fpost a_word_Get.res Ko e env A → R e env A) → X Try.prog R a_word_Get.body .done (env0 args) A) : SimD Try.prog F_word_Get args A Ko :=
  X_introD g_word_Get c_word_Get (by rw [Try.ntmps133]; exact hn) hrf h
@[simp] theorem k_word_Get : callable Try.prog F_word_Get = true := by kernel_rfl
theorem c_word_Put : trF Try.prog Try.f96 = some a_word_Put := by kernel_rfl
theorem g_word_Put : Try.prog.funcs[96]? = some Try.f96 := by kernel_rfl
theorem i_word_Put {args : List AV} {A : Heap} {Ko : AOut → Heap → Prop} (hn : args.length ≤ 27)
    (h : ∀ R : APost, (∀ e env A, fpost a_word_Put.res Ko e env A → R e env A) → X Try.prog R a_word_Put.body .done (env0 args) A) : SimX Try.prog F_word_Put args A Ko :=
  X_intro g_word_Put c_word_Put (by rw [Try.ntmps96]; exact hn) h
theorem v_word_Put {args : List AV} {v : AV} (hn : args.length ≤ 27) (h : X Try.prog (fin a_word_Put.res v) a_word_Put.body .done (env0 args) H0) : Gives Try.prog F_word_Put args v :=
  Gives_intro g_word_Put c_word_Put (by rw [Try.ntmps96]; exact hn) h
theorem e_word_Put {args : List AV} {Q : AOut → Prop} (hn : args.length ≤ 27) (h : X Try.prog (finE a_word_Put.res Q) a_word_Put.body .done (env0 args) H0) : Fins Try.prog F_word_Put args Q :=
  Fins_intro g_word_Put c_word_Put (by rw [Try.ntmps96]; exact hn) h
theorem j_word_Put {args : List AV} {A : Heap} {K Kp : AV → Heap → Prop} (hn : args.length ≤ 27) (h : X Try.prog (inl a_word_Put.res K Kp) a_word_Put.body .done (env0 args) A) : SimX Try.prog F_word_Put args A (outK K Kp) :=
  X_inl g_word_Put c_word_Put (by rw [Try.ntmps96]; exact hn) h
theorem d_word_Put {args : List AV} {A : Heap} {Ko : AOut → Heap → Prop} (hn : args.length ≤ 27) (hrf : AVL.Func.hasRF Try.f96 = false)
    (h : ∀ R : APost, (∀ e env A, fpost a_word_Put.res Ko e env A → R e env A) → X Try.prog R a_word_Put.body .done (env0 args) A) : SimD Try.prog F_word_Put args A Ko :=
  X_introD g_word_Put c_word_Put (by rw [Try.ntmps96]; exact hn) hrf h
@[simp] theorem k_word_Put : callable Try.prog F_word_Put = true := by kernel_rfl
theorem c_word_Zero : trF Try.prog Try.f98 = some a_word_Zero := by kernel_rfl
theorem g_word_Zero : Try.prog.funcs[98]? = some Try.f98 := by kernel_rfl
theorem i_word_Zero {args : List AV} {A : Heap} {Ko : AOut → Heap → Prop} (hn : args.length ≤ 14)
    (h : ∀ R : APost, (∀ e env A, fpost a_word_Zero.res Ko e env A → R e env A) → X Try.prog R a_word_Zero.body .done (env0 args) A) : SimX Try.prog F_word_Zero args A Ko :=
  X_intro g_word_Zero c_word_Zero (by rw [Try.ntmps98]; exact hn) h
theorem v_word_Zero {args : List AV} {v : AV} (hn : args.length ≤ 14) (h : X Try.prog (fin a_word_Zero.res v) a_word_Zero.body .done (env0 args) H0) : Gives Try.prog F_word_Zero args v :=
  Gives_intro g_word_Zero c_word_Zero (by rw [Try.ntmps98]; exact hn) h
theorem e_word_Zero {args : List AV} {Q : AOut → Prop} (hn : args.length ≤ 14) (h : X Try.prog (finE a_word_Zero.res Q) a_word_Zero.body .done (env0 args) H0) : Fins Try.prog F_word_Zero args Q :=
  Fins_intro g_word_Zero c_word_Zero (by rw [Try.ntmps98]; exact hn) h
theorem j_word_Zero {args : List AV} {A : Heap} {K Kp : AV → Heap → Prop} (hn : args.length ≤ 14) (h : X Try.prog (inl a_word_Zero.res K Kp) a_word_Zero.body .done (env0 args) A) : SimX Try.prog F_word_Zero args A (outK K Kp) :=
  X_inl g_word_Zero c_word_Zero (by rw [Try.ntmps98]; exact hn) h
theorem d_word_Zero {args : List AV} {A : Heap} {Ko : AOut → Heap → Prop} (hn : args.length ≤ 14) (hrf : AVL.Func.hasRF Try.f98 = false)
    (h : ∀ R : APost, (∀ e env A, fpost a_word_Zero.res Ko e env A → R e env A) → X Try.prog R a_word_Zero.body .done (env0 args) A) : SimD Try.prog F_word_Zero args A Ko :=
  X_introD g_word_Zero c_word_Zero (by rw [Try.ntmps98]; exact hn) hrf h
@[simp] theorem k_word_Zero : callable Try.prog F_word_Zero = true := by kernel_rfl
theorem c_word_Whole : trF Try.prog Try.f86 = some a_word_Whole := by kernel_rfl
theorem g_word_Whole : Try.prog.funcs[86]? = some Try.f86 := by kernel_rfl
theorem i_word_Whole {args : List AV} {A : Heap} {Ko : AOut → Heap → Prop} (hn : args.length ≤ 8)
    (h : ∀ R : APost, (∀ e env A, fpost a_word_Whole.res Ko e env A → R e env A) → X Try.prog R a_word_Whole.body .done (env0 args) A) : SimX Try.prog F_word_Whole args A Ko :=
  X_intro g_word_Whole c_word_Whole (by rw [Try.ntmps86]; exact hn) h
theorem v_word_Whole {args : List AV} {v : AV} (hn : args.length ≤ 8) (h : X Try.prog (fin a_word_Whole.res v) a_word_Whole.body .done (env0 args) H0) : Gives Try.prog F_word_Whole args v :=
  Gives_intro g_word_Whole c_word_Whole (by rw [Try.ntmps86]; exact hn) h
theorem e_word_Whole {args : List AV} {Q : AOut → Prop} (hn : args.length ≤ 8) (h : X Try.prog (finE a_word_Whole.res Q) a_word_Whole.body .done (env0 args) H0) : Fins Try.prog F_word_Whole args Q :=
  Fins_intro g_word_Whole c_word_Whole (by rw [Try.ntmps86]; exact hn) h
theorem j_word_Whole {args : List AV} {A : Heap} {K Kp : AV → Heap → Prop} (hn : args.length ≤ 8) (h : X Try.prog (inl a_word_Whole.res K Kp) a_word_Whole.body .done (env0 args) A) : SimX Try.prog F_word_Whole args A (outK K Kp) :=
  X_inl g_word_Whole c_word_Whole (by rw [Try.ntmps86]; exact hn) h
theorem d_word_Whole {args : List AV} {A : Heap} {Ko : AOut → Heap → Prop} (hn : args.length ≤ 8) (hrf : AVL.Func.hasRF Try.f86 = false)
    (h : ∀ R : APost, (∀ e env A, fpost a_word_Whole.res Ko e env A → R e env A) → X Try.prog R a_word_Whole.body .done (env0 args) A) : SimD Try.prog F_word_Whole args A Ko :=
  X_introD g_word_Whole c_word_Whole (by rw [Try.ntmps86]; exact hn) hrf h
@[simp] theorem k_word_Whole : callable Try.prog F_word_Whole = true := by kernel_rfl
theorem c_ref01_Put : trF Try.prog Try.f78 = some a_ref01_Put := by kernel_rfl
theorem g_ref01_Put : Try.prog.funcs[78]? = some Try.f78 := by kernel_rfl
theorem i_ref01_Put {args : List AV} {A : Heap} {Ko : AOut → Heap → Prop} (hn : args.length ≤ 19)
    (h : ∀ R : APost, (∀ e env A, fpost a_ref01_Put.res Ko e env A → R e env A) → X Try.prog R a_ref01_Put.body .done (env0 args) A) : SimX Try.prog F_ref01_Put args A Ko :=
  X_intro g_ref01_Put c_ref01_Put (by rw [Try.ntmps78]; exact hn) h
theorem v_ref01_Put {args : List AV} {v : AV} (hn : args.length ≤ 19) (h : X Try.prog (fin a_ref01_Put.res v) a_ref01_Put.body .done (env0 args) H0) : Gives Try.prog F_ref01_Put args v :=
  Gives_intro g_ref01_Put c_ref01_Put (by rw [Try.ntmps78]; exact hn) h
theorem e_ref01_Put {args : List AV} {Q : AOut → Prop} (hn : args.length ≤ 19) (h : X Try.prog (finE a_ref01_Put.res Q) a_ref01_Put.body .done (env0 args) H0) : Fins Try.prog F_ref01_Put args Q :=
  Fins_intro g_ref01_Put c_ref01_Put (by rw [Try.ntmps78]; exact hn) h
theorem j_ref01_Put {args : List AV} {A : Heap} {K Kp : AV → Heap → Prop} (hn : args.length ≤ 19) (h : X Try.prog (inl a_ref01_Put.res K Kp) a_ref01_Put.body .done (env0 args) A) : SimX Try.prog F_ref01_Put args A (outK K Kp) :=
  X_inl g_ref01_Put c_ref01_Put (by rw [Try.ntmps78]; exact hn) h
theorem d_ref01_Put {args : List AV} {A : Heap} {Ko : AOut → Heap → Prop} (hn : args.length ≤ 19) (hrf : AVL.Func.hasRF Try.f78 = false)
    (h : ∀ R : APost, (∀ e env A, fpost a_ref01_Put.res Ko e env A → R e env A) → X Try.prog R a_ref01_Put.body .done (env0 args) A) : SimD Try.prog F_ref01_Put args A Ko :=
  X_introD g_ref01_Put c_ref01_Put (by rw [Try.ntmps78]; exact hn) hrf h
@[simp] theorem k_ref01_Put : callable Try.prog F_ref01_Put = true := by kernel_rfl
theorem c_ref01_Same : trF Try.prog Try.f19 = some a_ref01_Same := by kernel_rfl
theorem g_ref01_Same : Try.prog.funcs[19]? = some Try.f19 := by kernel_rfl
theorem i_ref01_Same {args : List AV} {A : Heap} {Ko : AOut → Heap → Prop} (hn : args.length ≤ 10)
    (h : ∀ R : APost, (∀ e env A, fpost a_ref01_Same.res Ko e env A → R e env A) → X Try.prog R a_ref01_Same.body .done (env0 args) A) : SimX Try.prog F_ref01_Same args A Ko :=
  X_intro g_ref01_Same c_ref01_Same (by rw [Try.ntmps19]; exact hn) h
theorem v_ref01_Same {args : List AV} {v : AV} (hn : args.length ≤ 10) (h : X Try.prog (fin a_ref01_Same.res v) a_ref01_Same.body .done (env0 args) H0) : Gives Try.prog F_ref01_Same args v :=
  Gives_intro g_ref01_Same c_ref01_Same (by rw [Try.ntmps19]; exact hn) h
theorem e_ref01_Same {args : List AV} {Q : AOut → Prop} (hn : args.length ≤ 10) (h : X Try.prog (finE a_ref01_Same.res Q) a_ref01_Same.body .done (env0 args) H0) : Fins Try.prog F_ref01_Same args Q :=
  Fins_intro g_ref01_Same c_ref01_Same (by rw [Try.ntmps19]; exact hn) h
theorem j_ref01_Same {args : List AV} {A : Heap} {K Kp : AV → Heap → Prop} (hn : args.length ≤ 10) (h : X Try.prog (inl a_ref01_Same.res K Kp) a_ref01_Same.body .done (env0 args) A) : SimX Try.prog F_ref01_Same args A (outK K Kp) :=
  X_inl g_ref01_Same c_ref01_Same (by rw [Try.ntmps19]; exact hn) h
theorem d_ref01_Same {args : List AV} {A : Heap} {Ko : AOut → Heap → Prop} (hn : args.length ≤ 10) (hrf : AVL.Func.hasRF Try.f19 = false)
    (h : ∀ R : APost, (∀ e env A, fpost a_ref01_Same.res Ko e env A → R e env A) → X Try.prog R a_ref01_Same.body .done (env0 args) A) : SimD Try.prog F_ref01_Same args A Ko :=
  X_introD g_ref01_Same c_ref01_Same (by rw [Try.ntmps19]; exact hn) hrf h
@[simp] theorem k_ref01_Same : callable Try.prog F_ref01_Same = true := by kernel_rfl
theorem c_ref01_Zero : trF Try.prog Try.f99 = some a_ref01_Zero := by kernel_rfl
theorem g_ref01_Zero : Try.prog.funcs[99]? = some Try.f99 := by kernel_rfl
theorem i_ref01_Zero {args : List AV} {A : Heap} {Ko : AOut → Heap → Prop} (hn : args.length ≤ 15)
    (h : ∀ R : APost, (∀ e env A, fpost a_ref01_Zero.res Ko e env A → R e env A) → X Try.prog R a_ref01_Zero.body .done (env0 args) A) : SimX Try.prog F_ref01_Zero args A Ko :=
  X_intro g_ref01_Zero c_ref01_Zero (by rw [Try.ntmps99]; exact hn) h
theorem v_ref01_Zero {args : List AV} {v : AV} (hn : args.length ≤ 15) (h : X Try.prog (fin a_ref01_Zero.res v) a_ref01_Zero.body .done (env0 args) H0) : Gives Try.prog F_ref01_Zero args v :=
  Gives_intro g_ref01_Zero c_ref01_Zero (by rw [Try.ntmps99]; exact hn) h
theorem e_ref01_Zero {args : List AV} {Q : AOut → Prop} (hn : args.length ≤ 15) (h : X Try.prog (finE a_ref01_Zero.res Q) a_ref01_Zero.body .done (env0 args) H0) : Fins Try.prog F_ref01_Zero args Q :=
  Fins_intro g_ref01_Zero c_ref01_Zero (by rw [Try.ntmps99]; exact hn) h
theorem j_ref01_Zero {args : List AV} {A : Heap} {K Kp : AV → Heap → Prop} (hn : args.length ≤ 15) (h : X Try.prog (inl a_ref01_Zero.res K Kp) a_ref01_Zero.body .done (env0 args) A) : SimX Try.prog F_ref01_Zero args A (outK K Kp) :=
  X_inl g_ref01_Zero c_ref01_Zero (by rw [Try.ntmps99]; exact hn) h
theorem d_ref01_Zero {args : List AV} {A : Heap} {Ko : AOut → Heap → Prop} (hn : args.length ≤ 15) (hrf : AVL.Func.hasRF Try.f99 = false)
    (h : ∀ R : APost, (∀ e env A, fpost a_ref01_Zero.res Ko e env A → R e env A) → X Try.prog R a_ref01_Zero.body .done (env0 args) A) : SimD Try.prog F_ref01_Zero args A Ko :=
  X_introD g_ref01_Zero c_ref01_Zero (by rw [Try.ntmps99]; exact hn) hrf h
@[simp] theorem k_ref01_Zero : callable Try.prog F_ref01_Zero = true := by kernel_rfl
end Go.Proofs.Ytfdckjliinpjiaa

/- Words: numbers as bytes; the walks of word.Put, word.Get, the reference's Put and Same. -/
namespace Go.Proofs.Ytfdckjliinpjiaa
open Go AVL
attribute [-simp] AV.isAgg aappI aapp alen
set_option linter.unusedVariables false
set_option linter.unusedSimpArgs false

def Bytes (l : List Nat) : Prop := ∀ x ∈ l, x < 256
theorem bytes_take {l : List Nat} (h : Bytes l) (n : Nat) : Bytes (l.take n) := fun x hx => h x (List.mem_of_mem_take hx)
theorem bytes_drop {l : List Nat} (h : Bytes l) (n : Nat) : Bytes (l.drop n) := fun x hx => h x (List.mem_of_mem_drop hx)
theorem bytes_append {a b : List Nat} (ha : Bytes a) (hb : Bytes b) : Bytes (a ++ b) := fun x hx => (List.mem_append.1 hx).elim (ha x) (hb x)
def leN : List Nat → Nat
  | [] => 0
  | c :: r => c + 256 * leN r
theorem leN_lt : ∀ (l : List Nat), Bytes l → leN l < 256 ^ l.length
  | [], _ => by simp [leN]
  | c :: r, h => by
    have h1 := leN_lt r fun x hx => h x (by simp [hx])
    have h2 := h c (by simp)
    simp only [leN, List.length_cons, Nat.pow_succ]
    omega
theorem leN_lt8 {l : List Nat} (h : Bytes l) (hl : l.length ≤ 8) : leN l < 2 ^ 64 := by
  have h1 := leN_lt l h
  have : 256 ^ l.length ≤ 256 ^ 8 := Nat.pow_le_pow_right (by decide) hl
  omega
theorem strOf_inj {a b : List Nat} (ha : Bytes a) (hb : Bytes b) : (strOf (ints a) = strOf (ints b)) = (a = b) := by
  apply propext
  constructor
  · intro h
    have key : ∀ {x : List Nat}, Bytes x → (strOf (ints x)).data.toList.map UInt8.toNat = x := by
      intro x hx
      simp only [strOf, ints, List.map_map]
      rw [List.map_congr_left (g := id) (fun n hn => by
        have := hx n hn
        simp [UInt8.toNat_ofNat', Nat.mod_eq_of_lt this])]
      simp
    rw [← key ha, ← key hb, h]
  · rintro rfl; rfl
theorem w_ref01_Same (a b : List Nat) (ha : Bytes a) (hb : Bytes b) : Gives Try.prog F_ref01_Same [.isl .u8 (ints a), .isl .u8 (ints b)] (.bool (decide (a = b))) := by
  refine v_ref01_Same (by simp) ?_
  simp -implicitDefEqProofs [a_ref01_Same, q_ref01_Same_0, q_ref01_Same_1, strOf_inj ha hb]
theorem shl8_or (n b : Nat) (hb : b < 256) : n * 256 ||| b = b + 256 * n := by
  have := Nat.two_pow_add_eq_or_of_lt (i := 8) (b := b) (by omega) n
  rw [Nat.mul_comm n 256]; simp only [show (2 : Nat) ^ 8 = 256 from rfl] at this; omega
theorem w_word_Get (l : List Nat) (hl : Bytes l) (h8 : l.length ≤ 8) : Gives Try.prog F_word_Get [.isl .u8 (ints l)] (.int .u64 (leN l)) := by
  refine v_word_Get (by simp) ?_
  simp -implicitDefEqProofs [a_word_Get, q_word_Get_0, q_word_Get_1, q_word_Get_2]
  refine X_lp (fun (k : Nat) env A => k ≤ l.length ∧ env 0 = .isl .u8 (ints l) ∧ env 3 = .int .u64 (leN (l.drop k)) ∧ env 4 = .int .i64 ((k : Int) - 1)) (fun k => k) l.length ⟨Nat.le_refl _, by simp, by simp [leN], ?_⟩ ?_
  · simp
    rw [wrap_i64 (by split <;> omega)]
    split <;> omega
  rintro k env A ⟨h1, h2, h3, h4⟩
  simp -implicitDefEqProofs (disch := first | omega | simp) [q_word_Get_L6, q_word_Get_3, q_word_Get_6, h2, h3, h4]
  refine ⟨fun hk => ?_, fun hk => ?_⟩
  · have hk1 : k - 1 < l.length := by omega
    have eto : ((k : Int) - 1).toNat = k - 1 := by omega
    have hd : l.drop (k - 1) = l[k - 1] :: l.drop k := by
      rw [List.drop_eq_getElem_cons hk1]; congr 2; omega
    have hb := hl _ (List.getElem_mem hk1)
    have hn8 := leN_lt8 (bytes_drop hl (k - 1)) (by simp; omega)
    rw [hd] at hn8
    simp only [leN] at hn8
    have e1 : shlI .u64 ((leN (l.drop k) : Nat) : Int) 8 = ((leN (l.drop k) * 256 : Nat) : Int) := by
      simp only [shlI]
      have : (2 : Int) ^ min (Int.toNat 8) IntKind.u64.bits = 256 := by decide
      rw [this, wrap_u64 (by omega)]; omega
    have e2 : IntKind.u64.wrap ((l[k - 1] : Nat) : Int) = ((l[k - 1] : Nat) : Int) := wrap_u64 (by omega)
    have e3 : bOr .u64 ((leN (l.drop k) * 256 : Nat) : Int) ((l[k - 1] : Nat) : Int) = ((leN (l.drop (k - 1)) : Nat) : Int) := by
      rw [bOr_nat rfl (show leN (l.drop k) * 256 < 2 ^ 64 by omega) (show l[k - 1] < 2 ^ 64 by omega), shl8_or _ _ hb, hd, leN]
    have hs : IntKind.u64.signed = false := rfl
    simp -implicitDefEqProofs (disch := first | omega | simp) [q_word_Get_4, q_word_Get_5, h2, h3, h4, eto, hk1, e1, hs]
    rw [Int.natCast_mul] at e3
    refine ⟨by omega, by omega, lp_next (k - 1) ⟨by omega, by simp [h2], ?_, ?_⟩ (by omega)⟩
    · simp only [upd]
      simp
      rw [e2]; exact e3
    · simp
      rw [wrap_i64 (by omega)]; omega
  · have : k = 0 := by omega
    subst this
    simp
/-- A number's bytes, the lowest first. -/
def le : Nat → Nat → List Nat
  | 0, _ => []
  | m + 1, n => n % 256 :: le m (n / 256)
@[simp] theorem le_length : ∀ m n, (le m n).length = m
  | 0, _ => rfl
  | m + 1, n => by simp [le, le_length m]
theorem le_bytes : ∀ m n, Bytes (le m n)
  | 0, _ => by simp [le, Bytes]
  | m + 1, n => by
    intro x hx
    rcases List.mem_cons.1 hx with rfl | hx
    · exact Nat.mod_lt _ (by decide)
    · exact le_bytes m _ x hx
theorem le_get : ∀ (m n i : Nat) (h : i < (le m n).length), (le m n)[i] = n / 256 ^ i % 256
  | 0, n, i, h => by simp at h
  | m + 1, n, 0, h => by simp [le]
  | m + 1, n, i + 1, h => by
    simp only [le, List.getElem_cons_succ]
    rw [le_get m (n / 256) i (by simpa [le] using h), Nat.div_div_eq_div_mul, Nat.pow_succ, Nat.mul_comm]
theorem leN_le : ∀ (m n : Nat), n < 256 ^ m → leN (le m n) = n
  | 0, n, h => by simp at h; subst h; rfl
  | m + 1, n, h => by
    rw [Nat.pow_succ] at h
    simp only [le, leN, leN_le m (n / 256) (by omega)]
    omega
theorem le_leN : ∀ (l : List Nat), Bytes l → le l.length (leN l) = l
  | [], _ => rfl
  | c :: r, h => by
    have hc := h c (by simp)
    have hr := le_leN r fun x hx => h x (by simp [hx])
    simp only [List.length_cons, le, leN]
    rw [show (c + 256 * leN r) % 256 = c by omega, show (c + 256 * leN r) / 256 = leN r by omega, hr]
theorem fill_set {l : List Nat} {i : Nat} (h : i < l.length) : (l.take i ++ List.replicate (l.length - i) 0).set i l[i] = l.take (i + 1) ++ List.replicate (l.length - (i + 1)) 0 := by
  rw [show l.length - i = (l.length - (i + 1)) + 1 by omega, List.replicate_succ, List.set_append_right _ _ (by simp; omega), List.length_take, show i - min i l.length = 0 by omega]
  simp only [List.set_cons_zero]
  rw [List.take_succ_eq_append_getElem h, List.append_assoc]; rfl
theorem w_word_Put {n m : Nat} (hn : n < 2 ^ 64) (hm : m ≤ 8) : Makes Try.prog F_word_Put [.int .u64 n, .int .i64 m] m (.irow T_uint8 .u8 (ints (le m n))) := by
  refine i_word_Put (by simp) fun R hR => ?_
  simp -implicitDefEqProofs (disch := first | omega | simp) [a_word_Put, q_word_Put_0, q_word_Put_1, q_word_Put_2]
  have hmx : (if (m : Int) < 0 then (0 : Int) else m) = m := by split <;> omega
  rw [hmx]
  refine ⟨by omega, by omega, fun g => ?_⟩
  have h0 : List.replicate (m : Int).toNat (0 : Int) = ints ((le m n).take 0 ++ List.replicate ((le m n).length - 0) 0) := by simp [ints]
  rw [h0]
  refine X_lp (fun (i : Nat) env B => i ≤ m ∧ env 0 = .int .u64 n ∧ env 5 = .own g 0 m ∧ env 11 = .int .i64 m ∧ env 12 = .int .i64 i ∧ B = H0.set g (.irow T_uint8 .u8 (ints ((le m n).take i ++ List.replicate ((le m n).length - i) 0)))) (fun i => m - i) 0
    ⟨by omega, by simp, by simp, by simp, by simp, rfl⟩ ?_
  rintro i env B ⟨hi, e0, e5, e11, e12, rfl⟩
  simp -implicitDefEqProofs (disch := first | omega | simp) [q_word_Put_L8, q_word_Put_3, q_word_Put_4, q_word_Put_5, q_word_Put_7, q_word_Put_8, e0, e5, e11, e12]
  refine ⟨fun hil => ?_, fun hil => ?_⟩
  · have hlt : i < (le m n).length := by simpa using hil
    obtain ⟨q, hq⟩ : ∃ q : Nat, q = n / 256 ^ i := ⟨_, rfl⟩
    have e1 : shrI .u64 (n : Int) (8 * (i : Int)) = (q : Int) := by
      have : (8 * (i : Int)) = ((8 * i : Nat) : Int) := by omega
      rw [this, shrI_nat, show min (8 * i) IntKind.u64.bits = 8 * i from Nat.min_eq_left (by show 8 * i ≤ 64; omega), Nat.pow_mul, hq]
    have e2 : IntKind.u8.wrap (q : Int) = (((le m n)[i] : Nat) : Int) := by
      rw [wrap_u8m, le_get, hq]; omega
    have e3 : IntKind.i64.wrap (8 * (i : Int)) = 8 * (i : Int) := wrap_i64 (by omega)
    have e4 := fill_set hlt
    simp only [le_length] at e4
    have e5' : (i : Int) < 8 := by omega
    have e6 : ¬ (8 : Int) ≤ i := by omega
    simp -implicitDefEqProofs (disch := first | omega | simp) [q_word_Put_6, e0, e5, e11, e12, e1, e2, e3, hil, e5', e6, e4]
    exact ⟨by omega, lp_next (i + 1) ⟨by omega, by simp [e0], by simp [e5], by simp [e11], by simp [wrap_i64 (show -9223372036854775808 ≤ (i : Int) + 1 ∧ (i : Int) + 1 < 9223372036854775808 by omega)], by simp⟩ (by omega)⟩
  · have hie : i = m := by omega
    refine hR _ _ _ ?_
    simp -implicitDefEqProofs [a_word_Put, fpost, outOf]
    rw [hie]
    simp
    rw [List.take_of_length_le (by simp)]
    exact Sub_refl _
theorem w_ref01_Put : ∀ (m n : Nat), n < 2 ^ 64 → m ≤ 8 → MakesS Try.prog F_ref01_Put [.int .u64 n, .int .i64 m] T_uint8 .u8 (ints (le m n))
  | 0, n, hn, hm => by
    refine i_ref01_Put (by simp) fun R hR => ?_
    simp -implicitDefEqProofs [a_ref01_Put, q_ref01_Put_0, q_ref01_Put_1, q_ref01_Put_2]
    refine hR _ _ _ ?_
    simp -implicitDefEqProofs [a_ref01_Put, fpost, outOf, le]
  | m + 1, n, hn, hm => by
    refine i_ref01_Put (by simp) fun R hR => ?_
    have e0 : ¬ ((m : Int) + 1 ≤ 0) := by omega
    have e1 : IntKind.u8.wrap ((n : Int).tmod 256) = ((n % 256 : Nat) : Int) := by rw [wrap_u8m, Int.tmod_eq_emod_of_nonneg (by omega)]; omega
    have e2 : IntKind.i64.wrap (m : Int) = (m : Int) := wrap_i64 (by omega)
    have e3 : IntKind.u64.wrap ((n : Int) / 256) = ((n / 256 : Nat) : Int) := by rw [wrap_u64 (by omega)]; omega
    have ih := w_ref01_Put m (n / 256) (by omega) (by omega)
    simp -implicitDefEqProofs (disch := first | omega | simp) [a_ref01_Put, q_ref01_Put_0, q_ref01_Put_1, q_ref01_Put_3, q_ref01_Put_4, e0, e1, e2, e3]
    intro g
    refine ih.call (.cons (.refl _) rfl (.cons (.refl _) rfl .nil)) fun v B hB => ?_
    have h1 : SlS T_uint8 .u8 (.own g 0 1) (ints [n % 256]) H0 B := (SlS.one (by simp) (by simp)).mono hB.sub
    simp -implicitDefEqProofs
    refine h1.appS (Sub_refl _) (hB.src (Sub_refl _)) (by simp; omega) fun v' C' h' hag => ?_
    simp -implicitDefEqProofs
    refine hR _ _ _ ?_
    simpa -implicitDefEqProofs [fpost, a_ref01_Put, outOf, hag, le] using h'.fin
def il (l : List Nat) : AV := .isl .u8 (ints l)
end Go.Proofs.Ytfdckjliinpjiaa

/- The walks of the trees' texts and sums. -/
namespace Go.Proofs.Ytfdckjliinpjiaa
open Go AVL
attribute [-simp] AV.isAgg aappI aapp alen shp good comps szOK aslc List.reduceReplicate
set_option linter.unusedVariables false
set_option linter.unusedSimpArgs false
set_option maxRecDepth 20000

section
variable {A B C D : Heap} {K Kp : AV → Heap → Prop} {P : Program}
def nodW : List Nat := [110, 111, 100, 101]
def rotW : List Nat := [114, 111, 111, 116]
def lefW : List Nat := [108, 101, 97, 102]
def lefT (i : Nat) (b : List Nat) : List Nat := lefW ++ le 4 i ++ b
def rotT (n : Nat) (a : List Nat) : List Nat := rotW ++ le 4 n ++ a
theorem nodT_eq (a b : List Nat) : nodT a b = nodW ++ a ++ b := rfl
theorem wordW_bytes : Bytes nodW ∧ Bytes rotW ∧ Bytes lefW := by unfold Bytes; decide
theorem w_behind {v : AV} {l a : List Nat} (hv : SlS T_uint8 .u8 v (ints l) A B) (hl : l.length ≤ 100000) (ha : a.length = 32) (hk : ∀ v' C, SlS T_uint8 .u8 v' (ints (l ++ a)) A C → K v' C) :
    SimX Try.prog F_ref31_behind [v, .iarr .u8 32 (ints a)] B (outK K Kp) := by
  refine j_ref31_behind (by simp) ?_
  have hs := hv.scl
  simp -implicitDefEqProofs [a_ref31_behind, q_ref31_behind_0, q_ref31_behind_1, q_ref31_behind_2, ha, hs.size, hs.shp, hs.agg, hs.good, hs.comps, hs.st]
  intro g3 h3
  have nA : A g3 = none := sub_noneL hv.sub h3
  have hv3 := hv.mono (sub_none (c := .var 23 [.iarr .u8 32 (ints a)]) h3)
  refine X_lp (fun (k : Nat) env E => k ≤ 32 ∧ SlS T_uint8 .u8 (env 5) (ints (l ++ a.take k)) A E ∧ E g3 = some (.var 23 [.iarr .u8 32 (ints a)]) ∧ env 3 = .ptr g3 0 ∧ env 6 = .int .i64 k) (fun k => 32 - k) 0
    ⟨by omega, by simpa using hv3, by simp, by simp, by simp⟩ ?_
  clear hv hv3 hs
  rintro k env E ⟨hk', hv, hg3, e3, e6⟩
  obtain ⟨v, e5⟩ : ∃ v, env 5 = v := ⟨_, rfl⟩
  rw [e5] at hv
  have hs := hv.scl
  by_cases hkl : k < 32
  · have hkl' : (k : Int) < 32 := by omega
    have hka : k < a.length := by omega
    have wk : IntKind.i64.wrap ((k : Int) + 1) = (k : Int) + 1 := wrap_i64 (by omega)
    simp -implicitDefEqProofs [q_ref31_behind_L6, q_ref31_behind_3, q_ref31_behind_4, q_ref31_behind_5, e3, e5, e6, hkl, hkl', hka, hg3, ha, wk, hs.size, hs.shp, hs.agg, hs.good, hs.comps, hs.st]
    intro g9 h9
    obtain ⟨Q', q1, q2, q3, q4, q5⟩ := hv.top
    refine q3.appS (ys := [(a[k] : Int)]) (sub_none h9) (srcI_row set_eq' rfl) (by simp; omega) fun v2 C2 hv2 hag2 => ?_
    simp -implicitDefEqProofs [e6, wk]
    have e : ints (l ++ a.take k) ++ [(a[k] : Int)] = ints (l ++ a.take (k + 1)) := by
      rw [List.take_succ_eq_append_getElem hka, ← List.append_assoc]
      simp only [ints, List.map_append, List.map_cons, List.map_nil]
    have hq := hv2.base q1
    rw [e] at hq
    exact lp_next (k + 1) ⟨by omega, by simpa using hq, hv2.sub _ _ (q4 _ _ hg3 (hv.ne hg3 (by intro l; simp))), by simp [e3], by simp⟩ (by omega)
  · have hke : k = 32 := by omega
    subst hke
    rw [List.take_of_length_le (by omega)] at hv
    simp -implicitDefEqProofs [q_ref31_behind_L6, q_ref31_behind_3, q_ref31_behind_6, e5, e6, hs.size, hs.shp, hs.agg, hs.good, hs.comps, hs.st, outOf]
    exact hk v E hv
theorem sim_NodeText {a b : List Nat} (ha : a.length = 32) (hb : b.length = 32) (hk : ∀ v C, SlS T_uint8 .u8 v (ints (nodT a b)) A C → K v C) : SimX Try.prog F_ref31_NodeText [.iarr .u8 32 (ints a), .iarr .u8 32 (ints b)] A (outK K Kp) := by
  refine j_ref31_NodeText (by simp) ?_
  simp -implicitDefEqProofs [a_ref31_NodeText, q_ref31_NodeText_0, q_ref31_NodeText_1, ha, hb]
  intro g2 h2 g3 n3 n3' h3
  simp -implicitDefEqProofs [n3, n3', ha, hb]
  intro g5 n5 n5' m5 m5' h5
  have hA5 : ((A.set g2 (.var 23 [.iarr .u8 32 (ints a)])).set g3 (.var 23 [.iarr .u8 32 (ints b)])) g5 = none := by simp [n5, n5', m5, m5', h5]
  refine w_behind (SlS.one (e := T_uint8) (k := .u8) (l := ints nodW) (n := 4) hA5 rfl) (by simp [nodW]) ha fun v6 C6 hv6 => ?_
  have c6 := hv6.sub g3 _ set_eq'
  simp -implicitDefEqProofs [c6, hv6.scl.agg, n3, n3', n5, n5', hb]
  refine w_behind hv6 (by simp [nodW, ha]) hb fun v7 C7 hv7 => ?_
  simp -implicitDefEqProofs [hv7.scl.agg, outOf]
  exact hk v7 C7 ((hv7.base (sub_none (by simp [n3, n3', h3]))).base (sub_none h2))
theorem sim_RootText {n : Nat} {a : List Nat} (hn : n < 2 ^ 63) (ha : a.length = 32) (hk : ∀ v C, SlS T_uint8 .u8 v (ints (rotT n a)) A C → K v C) : SimX Try.prog F_ref31_RootText [.int .i64 n, .iarr .u8 32 (ints a)] A (outK K Kp) := by
  refine j_ref31_RootText (by simp) ?_
  have wu : IntKind.u64.wrap (n : Int) = (n : Int) := wrap_u64 (by omega)
  simp -implicitDefEqProofs [a_ref31_RootText, q_ref31_RootText_0, q_ref31_RootText_1, q_ref31_RootText_2, ha, wu]
  intro g3 h3 g6 n6 n6' h6
  refine (w_ref01_Put 4 n (by omega) (by decide)).call (.cons (.refl _) rfl (.cons (.refl _) rfl .nil)) fun v2 C2 h2 => ?_
  have hs2 := h2.scl
  simp -implicitDefEqProofs [hs2.agg]
  have hA3 : (A.set g3 (.var 23 [.iarr .u8 32 (ints a)])) g6 = none := by simp [n6, n6', h6]
  refine (SlS.one (e := T_uint8) (k := .u8) (l := ints rotW) (n := 4) hA3 rfl).appS (ys := ints (le 4 n)) h2.sub (h2.src (Sub_refl _)) (by simp [rotW]) fun v3 C3 hv3 hag3 => ?_
  rw [ints_append] at hv3
  have c3 := hv3.sub _ _ set_eq'
  simp -implicitDefEqProofs [q_ref31_RootText_3, c3, hag3, ha]
  refine w_behind hv3 (by simp [rotW]) ha fun v4 C4 hv4 => ?_
  simp -implicitDefEqProofs [hv4.scl.agg, outOf]
  exact hk v4 C4 (hv4.base (sub_none h3))
theorem sim_LeafText {i : Nat} {b : List Nat} (hn : i < 2 ^ 63) (hb : b.length ≤ 90000) {v : AV} (hv : BsV T_uint8 A v b) (hk : ∀ v C, SlS T_uint8 .u8 v (ints (lefT i b)) A C → K v C) : SimX Try.prog F_ref31_LeafText [.int .i64 i, v] A (outK K Kp) := by
  refine j_ref31_LeafText (by simp) ?_
  have wu : IntKind.u64.wrap (i : Int) = (i : Int) := wrap_u64 (by omega)
  have hs := hv.scb
  simp -implicitDefEqProofs [a_ref31_LeafText, q_ref31_LeafText_0, q_ref31_LeafText_1, q_ref31_LeafText_2, wu, hs.size, hs.shp, hs.agg, hs.good, hs.comps, hs.st]
  intro g6 h6
  refine (w_ref01_Put 4 i (by omega) (by decide)).call (.cons (.refl _) rfl (.cons (.refl _) rfl .nil)) fun v2 C2 h2 => ?_
  have hs2 := h2.scl
  simp -implicitDefEqProofs [hs2.agg]
  refine (SlS.one (e := T_uint8) (k := .u8) (l := ints lefW) (n := 4) h6 rfl).appS (ys := ints (le 4 i)) h2.sub (h2.src (Sub_refl _)) (by simp [lefW]) fun v3 C3 hv3 hag3 => ?_
  rw [ints_append] at hv3
  simp -implicitDefEqProofs [q_ref31_LeafText_3, hag3, hs.size, hs.shp, hs.agg, hs.good, hs.comps, hs.st]
  refine hv3.appS (ys := ints b) (Sub_refl _) ((hv.mono hv3.sub).src) (by simp [lefW]; omega) fun v4 C4 hv4 hag4 => ?_
  rw [ints_append] at hv4
  simp -implicitDefEqProofs [hag4, outOf]
  exact hk v4 C4 hv4
theorem w_width {n : Nat} (h2 : 2 ≤ n) (hn : n < 2 ^ 60) : Gives Try.prog F_ref31_width [.int .i64 n] (.int .i64 (wid n)) := by
  refine v_ref31_width (by simp) ?_
  simp -implicitDefEqProofs [a_ref31_width, q_ref31_width_0, q_ref31_width_1]
  refine X_lp (fun (k : Nat) env E => (∃ j, k = 2 ^ j) ∧ k < n ∧ env 0 = .int .i64 n ∧ env 3 = .int .i64 k) (fun k => n - k) 1 ⟨⟨0, rfl⟩, by omega, by simp, by simp⟩ ?_
  rintro k env E ⟨⟨j, hj⟩, hk, e0, e3⟩
  have hp : 0 < k := by rw [hj]; exact Nat.pow_pos (by decide)
  have w2 : IntKind.i64.wrap (2 * (k : Int)) = 2 * (k : Int) := wrap_i64 (by omega)
  by_cases h : 2 * k < n
  · have h' : 2 * (k : Int) < n := by omega
    simp -implicitDefEqProofs [q_ref31_width_L4, q_ref31_width_2, q_ref31_width_3, e0, e3, w2, h, h']
    exact lp_next (2 * k) ⟨⟨j + 1, by rw [Nat.pow_succ, ← hj]; omega⟩, h, by simp [e0], by simp⟩ (by omega)
  · have h' : ¬ 2 * (k : Int) < n := by omega
    have hw := wid_uniq hj hk (by omega)
    simp -implicitDefEqProofs [q_ref31_width_L4, q_ref31_width_2, q_ref31_width_4, e0, e3, w2, h, h', outOf, hw]
end
end Go.Proofs.Ytfdckjliinpjiaa

/- The walks of the tree's sums and rows. -/
namespace Go.Proofs.Ytfdckjliinpjiaa
open Go AVL
attribute [-simp] AV.isAgg aappI aapp alen shp good comps szOK aslc List.reduceReplicate
set_option linter.unusedVariables false
set_option linter.unusedSimpArgs false
set_option maxRecDepth 20000

section
variable {A B C D : Heap} {K Kp : AV → Heap → Prop} {P : Program}
def adV (a : List Nat) : AV := .iarr .u8 32 (ints a)
def ads (L : List (List Nat)) : List AV := L.map adV
@[simp] theorem ads_len (L : List (List Nat)) : (ads L).length = L.length := by simp [ads]
theorem ads_getE {L : List (List Nat)} {i : Nat} (h : i < (ads L).length) : (ads L)[i] = adV (L[i]'(by simpa using h)) := by simp [ads]
theorem ads_noF (L : List (List Nat)) : AV.noFs (ads L) = true := by
  induction L with
  | nil => rfl
  | cons a r ih => simp only [ads, List.map_cons, AV.noFs] at ih ⊢; simp [adV, AV.noF, ih]
/-- Addresses: so many bytes each. -/
def AdL (L : List (List Nat)) : Prop := ∀ a ∈ L, Bytes a ∧ a.length = 32
theorem dig_bytes (l : List Nat) : Bytes (dig l) := fun x hx => by
  simp only [dig, outB, List.mem_map] at hx
  obtain ⟨i, _, rfl⟩ := hx
  exact Nat.mod_lt _ (by decide)
theorem upL_ok : ∀ {D : List (List Nat)}, AdL D → AdL (upL D)
  | [], h => h
  | [a], h => h
  | a :: b :: r, h => fun x hx => by
    simp only [upL] at hx
    rcases List.mem_cons.1 hx with rfl | hx
    · exact ⟨dig_bytes _, nodS_length a b⟩
    · exact upL_ok (D := r) (fun y hy => h y (by simp [hy])) x hx
/-- The lowest row. -/
def lvs : Nat → List (List Nat) → List (List Nat)
  | _, [] => []
  | i, b :: r => dig (lefT i b) :: lvs (i + 1) r
@[simp] theorem lvs_length : ∀ (i : Nat) (L : List (List Nat)), (lvs i L).length = L.length
  | _, [] => rfl
  | i, b :: r => by simp [lvs, lvs_length (i + 1) r]
theorem lvs_ok : ∀ (i : Nat) (L : List (List Nat)), AdL (lvs i L)
  | _, [] => fun a ha => by cases ha
  | i, b :: r => fun a ha => by
    rcases List.mem_cons.1 ha with rfl | ha
    · exact ⟨dig_bytes _, dig_length _⟩
    · exact lvs_ok (i + 1) r a ha
theorem lvs_get : ∀ (i : Nat) (L : List (List Nat)) (k : Nat) (h : k < L.length), (lvs i L)[k]'(by simpa using h) = dig (lefT (i + k) L[k])
  | i, b :: r, 0, h => by simp [lvs]
  | i, b :: r, k + 1, h => by
    simp only [lvs, List.getElem_cons_succ]
    rw [lvs_get (i + 1) r k (by simpa using h)]; congr 2; omega
theorem lvs_take : ∀ (i k : Nat) (L : List (List Nat)), lvs i (L.take k) = (lvs i L).take k
  | i, 0, L => by simp [lvs]
  | i, k + 1, [] => by simp [lvs]
  | i, k + 1, b :: r => by simp [lvs, lvs_take (i + 1) k r]
theorem lvs_drop : ∀ (i k : Nat) (L : List (List Nat)), lvs (i + k) (L.drop k) = (lvs i L).drop k
  | i, 0, L => by simp
  | i, k + 1, [] => by simp [lvs]
  | i, k + 1, b :: r => by
    simp only [List.drop_succ_cons, lvs]
    rw [← lvs_drop (i + 1) k r]; congr 1; omega
def chkL (n : Nat) : Int := if n = 0 then 1 else if 1024 < n then 7 else 0
theorem w_tree_Check {L : List (List Nat)} (hl : L.length < 2 ^ 62) : Gives Try.prog F_tree_Check [.dsl 1 (txts L)] (.int .i64 (chkL L.length)) := by
  refine v_tree_Check (by simp) ?_
  by_cases h0 : L.length = 0
  · have : L = [] := List.length_eq_zero_iff.1 h0
    subst this
    simp -implicitDefEqProofs [a_tree_Check, q_tree_Check_0, q_tree_Check_1, q_tree_Check_2, outOf, chkL]
  · have hb : ¬ L = [] := by rintro rfl; simp at h0
    have h0' : ¬ (L.length : Int) = 0 := by omega
    by_cases h1 : 1024 < L.length
    · have h1' : (1024 : Int) < L.length := by omega
      simp -implicitDefEqProofs [a_tree_Check, q_tree_Check_0, q_tree_Check_1, q_tree_Check_3, q_tree_Check_4, outOf, chkL, hb, h0, h0', h1, h1']
    · have h1' : ¬ (1024 : Int) < L.length := by omega
      simp -implicitDefEqProofs [a_tree_Check, q_tree_Check_0, q_tree_Check_1, q_tree_Check_3, q_tree_Check_5, outOf, chkL, hb, h0, h0', h1, h1']
theorem w_ref31_Check {L : List (List Nat)} (hl : L.length < 2 ^ 62) : Gives Try.prog F_ref31_Check [.dsl 1 (txts L)] (.int .i64 (chkL L.length)) := by
  refine v_ref31_Check (by simp) ?_
  by_cases h0 : L.length = 0
  · have : L = [] := List.length_eq_zero_iff.1 h0
    subst this
    simp -implicitDefEqProofs [a_ref31_Check, q_ref31_Check_0, q_ref31_Check_1, q_ref31_Check_2, outOf, chkL]
  · have hb : ¬ L = [] := by rintro rfl; simp at h0
    have h0' : ¬ (L.length : Int) = 0 := by omega
    by_cases h1 : 1024 < L.length
    · have h1' : (1024 : Int) < L.length := by omega
      simp -implicitDefEqProofs [a_ref31_Check, q_ref31_Check_0, q_ref31_Check_1, q_ref31_Check_3, q_ref31_Check_4, outOf, chkL, hb, h0, h0', h1, h1']
    · have h1' : ¬ (1024 : Int) < L.length := by omega
      simp -implicitDefEqProofs [a_ref31_Check, q_ref31_Check_0, q_ref31_Check_1, q_ref31_Check_3, q_ref31_Check_5, outOf, chkL, hb, h0, h0', h1, h1']
theorem bytes_app {a b : List Nat} (ha : Bytes a) (hb : Bytes b) : Bytes (a ++ b) := fun x hx => by
  rcases List.mem_append.1 hx with h | h
  · exact ha x h
  · exact hb x h
theorem w_tree_Leaf {i : Nat} {b : List Nat} (hi : i < 2 ^ 63) (hb : Bytes b) (hl : b.length ≤ 90000) : Gives Try.prog F_tree_Leaf [.int .i64 i, .isl .u8 (ints b)] (.iarr .u8 32 (ints (dig (lefT i b)))) := by
  refine v_tree_Leaf (by simp) ?_
  have wu : IntKind.u64.wrap (i : Int) = (i : Int) := wrap_u64 (by omega)
  simp -implicitDefEqProofs [a_tree_Leaf, q_tree_Leaf_0, q_tree_Leaf_1, wu]
  intro g4 g5 n5 n5'
  refine (w_word_Put (n := i) (m := 4) (by omega) (by decide)).call (.cons (.refl _) rfl (.cons (.refl _) rfl .nil)) rfl fun g9 h9 => ?_
  simp only [set_none] at h9
  simp -implicitDefEqProofs
  intro g11 m1 m2 m3 m4 m5 m6
  obtain ⟨k1, k2, k3, k4, -⟩ := h9
  have hfl : ([lefW, le 4 i, b] : List (List Nat)).flatten = lefT i b := by simp [lefT]
  obtain ⟨Y, hY⟩ : ∃ Y, ((((H0.set g4 (.var 23 [.iarr .u8 32 (List.replicate 32 0)])).set g5 (.irow 5 .u8 [108, 101, 97, 102])).set g9 (.irow T_uint8 .u8 (ints (le 4 i)))).set g11 (.row 22 1 [.own g5 0 4, .own g9 0 4, .isl .u8 (ints b)])) = Y := ⟨_, rfl⟩
  have f5 : Y g5 = some (.irow 5 .u8 (ints lefW)) := by rw [← hY, set_ne' m4, set_ne' k2, set_eq']; rfl
  have f9 : Y g9 = some (.irow T_uint8 .u8 (ints (le 4 i))) := by rw [← hY, set_ne' m2, set_eq']
  have f11 : Y g11 = some (.row 22 1 [.own g5 0 4, .own g9 0 4, .isl .u8 (ints b)]) := by rw [← hY, set_eq']
  have f4 : Y g4 = some (.var 23 [.iarr .u8 32 (List.replicate 32 0)]) := by rw [← hY, set_ne' m6, set_ne' k4, set_ne' n5', set_eq']
  rw [hY]
  have hv : Vw Y (.own g11 0 3) (.dsl 1 (txts [lefW, le 4 i, b])) :=
    .ownR (i := 0) (n := 3) f11 (by simp) (.cons (vw_irow f5 rfl) (.cons (vw_irow f9 (by simp)) (.cons (.refl _) .nil)))
  refine (w_digest_Of (L := [lefW, le 4 i, b]) (fun x hx => ?_) (by rw [hfl]; simp [lefT, lefW]; omega) (by simp)).call (.cons hv rfl .nil) rfl ?_
  · simp only [List.mem_cons, List.not_mem_nil, or_false] at hx
    rcases hx with rfl | rfl | rfl
    · exact wordW_bytes.2.2
    · exact le_bytes 4 i
    · exact hb
  rw [hfl]
  have h32 := dig_length (lefT i b)
  simp -implicitDefEqProofs [outOf, f4, h32]
theorem w_tree_join {a b : List Nat} (ha : Bytes a) (hb : Bytes b) (hal : a.length = 32) (hbl : b.length = 32) : Gives Try.prog F_tree_join [.iarr .u8 32 (ints a), .iarr .u8 32 (ints b)] (.iarr .u8 32 (ints (nodS a b))) := by
  refine v_tree_join (by simp) ?_
  simp -implicitDefEqProofs [a_tree_join, q_tree_join_0, q_tree_join_1, hal, hbl]
  intro g2 g3 a1 a2 g4 b1 b2 b3 b4 g5 c1 c2 c3 c4 c5 c6 g9 d1 d2 d3 d4 d5 d6 d7 d8
  have hfl : ([nodW, a, b] : List (List Nat)).flatten = nodT a b := by simp [nodT_eq]
  obtain ⟨Y, hY⟩ : ∃ Y, (((((H0.set g2 (.var 23 [.iarr .u8 32 (ints a)])).set g3 (.var 23 [.iarr .u8 32 (ints b)])).set g4 (.var 23 [.iarr .u8 32 (List.replicate 32 0)])).set g5 (.irow 5 .u8 [110, 111, 100, 101])).set g9 (.row 22 1 [.own g5 0 4, .asl g2 0 32 0 32, .asl g3 0 32 0 32])) = Y := ⟨_, rfl⟩
  have f5 : Y g5 = some (.irow 5 .u8 (ints nodW)) := by rw [← hY, set_ne' d2, set_eq']; rfl
  have f2 : Y g2 = some (.var 23 [.iarr .u8 32 (ints a)]) := by rw [← hY, set_ne' d8, set_ne' c6, set_ne' b4, set_ne' a2, set_eq']
  have f3 : Y g3 = some (.var 23 [.iarr .u8 32 (ints b)]) := by rw [← hY, set_ne' d6, set_ne' c4, set_ne' b2, set_eq']
  have f4 : Y g4 = some (.var 23 [.iarr .u8 32 (List.replicate 32 0)]) := by rw [← hY, set_ne' d4, set_ne' c2, set_eq']
  have f9 : Y g9 = some (.row 22 1 [.own g5 0 4, .asl g2 0 32 0 32, .asl g3 0 32 0 32]) := by rw [← hY, set_eq']
  rw [hY]
  have hv : Vw Y (.own g9 0 3) (.dsl 1 (txts [nodW, a, b])) :=
    .ownR (i := 0) (n := 3) f9 (by simp) (.cons (vw_irow f5 rfl) (.cons (vw_arr' f2 (by simp [hal])) (.cons (vw_arr' f3 (by simp [hbl])) .nil)))
  refine (w_digest_Of (L := [nodW, a, b]) (fun x hx => ?_) (by rw [hfl]; simp [nodT, hal, hbl]) (by simp)).call (.cons hv rfl .nil) rfl ?_
  · simp only [List.mem_cons, List.not_mem_nil, or_false] at hx
    rcases hx with rfl | rfl | rfl
    · exact wordW_bytes.1
    · exact ha
    · exact hb
  rw [hfl]
  have h32 := dig_length (nodT a b)
  simp -implicitDefEqProofs [outOf, f4, h32, nodS]
def R5 (v : AV) (A : Heap) : Prop := ∃ g, v = .own g 0 4 ∧ A g = some (.irow 5 .u8 (ints rotW))
def R9 (n : Nat) (v : AV) (A : Heap) : Prop := ∃ g e, v = .own g 0 4 ∧ A g = some (.irow e .u8 (ints (le 4 n)))
def R11 (n g3 : Nat) (v : AV) (A : Heap) : Prop := ∃ g x y, v = .own g 0 3 ∧ A g = some (.row 22 1 [x, y, .asl g3 0 32 0 32]) ∧ R5 x A ∧ R9 n y A
structure CrI (n : Nat) (a : List Nat) (g3 g4 : Nat) (l : Nat → Bool) (env : AEnv) (A : Heap) : Prop where
  e0 : env 0 = .int .i64 n
  e3 : env 3 = .ptr g3 0
  e4 : env 4 = .ptr g4 0
  h3 : A g3 = some (.var 23 [.iarr .u8 32 (ints a)])
  h4 : A g4 = some (.var 23 [.iarr .u8 32 (List.replicate 32 0)])
  e5 : l 0 = true → R5 (env 5) A
  e6 : l 1 = true → R5 (env 6) A
  e7 : l 2 = true → env 7 = .int .i64 n
  e8 : l 3 = true → env 8 = .int .u64 n
  e9 : l 4 = true → R9 n (env 9) A
  e10 : l 5 = true → env 10 = .asl g3 0 32 0 32
  e11 : l 6 = true → R11 n g3 (env 11) A
  e12 : l 7 = true → env 12 = .iarr .u8 32 (ints (dig (rotT n a)))
theorem R5.grow {v : AV} (h : R5 v A) (hs : A.Sub B) : R5 v B := by
  obtain ⟨g, h1, h2⟩ := h; exact ⟨g, h1, hs _ _ h2⟩
theorem R9.grow {n : Nat} {v : AV} (h : R9 n v A) (hs : A.Sub B) : R9 n v B := by
  obtain ⟨g, e, h1, h2⟩ := h; exact ⟨g, e, h1, hs _ _ h2⟩
theorem R11.grow {n g3 : Nat} {v : AV} (h : R11 n g3 v A) (hs : A.Sub B) : R11 n g3 v B := by
  obtain ⟨g, x, y, h1, h2, h3, h4⟩ := h; exact ⟨g, x, y, h1, hs _ _ h2, h3.grow hs, h4.grow hs⟩
theorem CrI.grow {n g3 g4 : Nat} {a : List Nat} {l : Nat → Bool} {env : AEnv} (h : CrI n a g3 g4 l env A) (hs : A.Sub B) : CrI n a g3 g4 l env B :=
  ⟨h.e0, h.e3, h.e4, hs _ _ h.h3, hs _ _ h.h4, fun e => (h.e5 e).grow hs, fun e => (h.e6 e).grow hs, h.e7, h.e8, fun e => (h.e9 e).grow hs, h.e10, fun e => (h.e11 e).grow hs, h.e12⟩
def CrJ (n : Nat) (a : List Nat) (g3 g4 : Nat) (l : Nat → Bool) (env : AEnv) (A : Heap) : Prop :=
  if l 8 = true then (∀ i < 9, l i = true) ∧ env 4 = .ptr g4 0 ∧ A g4 = some (.var 23 [.iarr .u8 32 (ints (dig (rotT n a)))]) else CrI n a g3 g4 l env A
theorem CrJ.of {n g3 g4 : Nat} {a : List Nat} {l : Nat → Bool} {env : AEnv} (h8 : ¬ l 8 = true) (h : CrI n a g3 g4 l env A) : CrJ n a g3 g4 l env A := by
  unfold CrJ; rw [if_neg h8]; exact h
theorem gC_aop {P : Program} {o : AOp} {d : Option Nat} {env : AEnv} (h : aop P o env A K Kp) : gC P ⟨d, o, none⟩ env A K Kp := h
theorem w_tree_crown {n : Nat} {a : List Nat} (hn : n < 2 ^ 63) (ha : Bytes a) (hal : a.length = 32) : Gives Try.prog F_tree_crown [.int .i64 n, .iarr .u8 32 (ints a)] (.iarr .u8 32 (ints (dig (rotT n a)))) := by
  refine v_tree_crown (by simp) ?_
  have wu : IntKind.u64.wrap (n : Int) = (n : Int) := wrap_u64 (by omega)
  simp -implicitDefEqProofs [a_tree_crown, q_tree_crown_0, hal]
  intro g3 g4 a1 a2
  refine XA_any (CrJ n a g3 g4) ?_ ?_ ?_
  · refine CrJ.of (by simp) ⟨by simp, by simp, by simp, ?_, ?_, by simp, by simp, by simp, by simp, by simp, by simp, by simp, by simp⟩
    · rw [set_ne' a2, set_eq']
    · rw [set_eq']
  · intro l env A hI i p hp hi hj
    by_cases h8 : l 8 = true
    · unfold CrJ at hI
      rw [if_pos h8] at hI
      have hlt : i < 9 := by
        have := (List.getElem?_eq_some_iff.1 hp).1
        simpa [q_tree_crown_1] using this
      rw [hI.1 i hlt] at hi; cases hi
    unfold CrJ at hI
    rw [if_neg h8] at hI
    have e0 := hI.e0
    have e3 := hI.e3
    have e4 := hI.e4
    match i, hp with
    | 0, hp =>
      simp [q_tree_crown_1] at hp; subst hp
      refine gC_aop ?_
      simp -implicitDefEqProofs
      intro g hg
      have hG := hI.grow (sub_none (c := .irow 5 .u8 [114, 111, 111, 116]) hg)
      refine CrJ.of (by simp [setL, h8]) ⟨?_, ?_, ?_, ?_, ?_, ?_, ?_, ?_, ?_, ?_, ?_, ?_, ?_⟩ <;> (try simp -implicitDefEqProofs [setL, put, upd]) <;> first | exact hG.e0 | exact hG.e3 | exact hG.e4 | exact hG.h3 | exact hG.h4 | exact hG.e5 | exact hG.e6 | exact hG.e7 | exact hG.e8 | exact hG.e9 | exact hG.e10 | exact hG.e11 | exact hG.e12 | exact ⟨g, rfl, by rw [set_eq']; rfl⟩
    | 1, hp =>
      simp [q_tree_crown_1] at hp; subst hp
      obtain ⟨g, e5, hg⟩ := hI.e5 (hj 0 (by simp))
      refine gC_aop ?_
      simp -implicitDefEqProofs [e5, hg, rotW]
      have hG := hI
      refine CrJ.of (by simp [setL, h8]) ⟨?_, ?_, ?_, ?_, ?_, ?_, ?_, ?_, ?_, ?_, ?_, ?_, ?_⟩ <;> (try simp -implicitDefEqProofs [setL, put, upd]) <;> first | exact hG.e0 | exact hG.e3 | exact hG.e4 | exact hG.h3 | exact hG.h4 | exact hG.e5 | exact hG.e6 | exact hG.e7 | exact hG.e8 | exact hG.e9 | exact hG.e10 | exact hG.e11 | exact hG.e12 | exact ⟨g, rfl, hg⟩
    | 2, hp =>
      simp [q_tree_crown_1] at hp; subst hp
      refine gC_aop ?_
      simp -implicitDefEqProofs [e0]
      have hG := hI
      refine CrJ.of (by simp [setL, h8]) ⟨?_, ?_, ?_, ?_, ?_, ?_, ?_, ?_, ?_, ?_, ?_, ?_, ?_⟩ <;> (try simp -implicitDefEqProofs [setL, put, upd]) <;> first | exact hG.e0 | exact hG.e3 | exact hG.e4 | exact hG.h3 | exact hG.h4 | exact hG.e5 | exact hG.e6 | exact hG.e7 | exact hG.e8 | exact hG.e9 | exact hG.e10 | exact hG.e11 | exact hG.e12 | exact e0
    | 3, hp =>
      simp [q_tree_crown_1] at hp; subst hp
      have e7 := hI.e7 (hj 2 (by simp))
      refine gC_aop ?_
      simp -implicitDefEqProofs [e7, wu]
      have hG := hI
      refine CrJ.of (by simp [setL, h8]) ⟨?_, ?_, ?_, ?_, ?_, ?_, ?_, ?_, ?_, ?_, ?_, ?_, ?_⟩ <;> (try simp -implicitDefEqProofs [setL, put, upd]) <;> first | exact hG.e0 | exact hG.e3 | exact hG.e4 | exact hG.h3 | exact hG.h4 | exact hG.e5 | exact hG.e6 | exact hG.e7 | exact hG.e8 | exact hG.e9 | exact hG.e10 | exact hG.e11 | exact hG.e12 | rfl
    | 4, hp =>
      simp [q_tree_crown_1] at hp; subst hp
      have e8 := hI.e8 (hj 3 (by simp))
      refine gC_aop ?_
      simp -implicitDefEqProofs [e8]
      refine (w_word_Put (n := n) (m := 4) (by omega) (by decide)).call (.cons (.refl _) rfl (.cons (.refl _) rfl .nil)) rfl fun g hg => ?_
      have hG := hI.grow (sub_none (c := .irow T_uint8 .u8 (ints (le 4 n))) hg)
      refine CrJ.of (by simp [setL, h8]) ⟨?_, ?_, ?_, ?_, ?_, ?_, ?_, ?_, ?_, ?_, ?_, ?_, ?_⟩ <;> (try simp -implicitDefEqProofs [setL, put, upd]) <;> first | exact hG.e0 | exact hG.e3 | exact hG.e4 | exact hG.h3 | exact hG.h4 | exact hG.e5 | exact hG.e6 | exact hG.e7 | exact hG.e8 | exact hG.e9 | exact hG.e10 | exact hG.e11 | exact hG.e12 | exact ⟨g, _, rfl, set_eq'⟩
    | 5, hp =>
      simp [q_tree_crown_1] at hp; subst hp
      refine gC_aop ?_
      simp -implicitDefEqProofs [e3]
      have hG := hI
      refine CrJ.of (by simp [setL, h8]) ⟨?_, ?_, ?_, ?_, ?_, ?_, ?_, ?_, ?_, ?_, ?_, ?_, ?_⟩ <;> (try simp -implicitDefEqProofs [setL, put, upd]) <;> first | exact hG.e0 | exact hG.e3 | exact hG.e4 | exact hG.h3 | exact hG.h4 | exact hG.e5 | exact hG.e6 | exact hG.e7 | exact hG.e8 | exact hG.e9 | exact hG.e10 | exact hG.e11 | exact hG.e12 | rfl
    | 6, hp =>
      simp [q_tree_crown_1] at hp; subst hp
      obtain ⟨g, e6, h6⟩ := hI.e6 (hj 1 (by simp))
      obtain ⟨g', e, e9, h9⟩ := hI.e9 (hj 4 (by simp))
      have e10 := hI.e10 (hj 5 (by simp))
      refine gC_aop ?_
      simp -implicitDefEqProofs [e6, e9, e10]
      intro gn hg
      have hs := sub_none (c := .row 22 1 [.own g 0 4, .own g' 0 4, .asl g3 0 32 0 32]) hg
      have hG := hI.grow hs
      refine CrJ.of (by simp [setL, h8]) ⟨?_, ?_, ?_, ?_, ?_, ?_, ?_, ?_, ?_, ?_, ?_, ?_, ?_⟩ <;> (try simp -implicitDefEqProofs [setL, put, upd]) <;> first | exact hG.e0 | exact hG.e3 | exact hG.e4 | exact hG.h3 | exact hG.h4 | exact hG.e5 | exact hG.e6 | exact hG.e7 | exact hG.e8 | exact hG.e9 | exact hG.e10 | exact hG.e11 | exact hG.e12 | exact ⟨gn, _, _, rfl, set_eq', ⟨g, rfl, hs _ _ h6⟩, ⟨g', e, rfl, hs _ _ h9⟩⟩
    | 7, hp =>
      simp [q_tree_crown_1] at hp; subst hp
      obtain ⟨g, x, y, e11, h11, ⟨gx, rfl, hx⟩, ⟨gy, e, rfl, hy⟩⟩ := hI.e11 (hj 6 (by simp))
      have hfl : ([rotW, le 4 n, a] : List (List Nat)).flatten = rotT n a := by simp [rotT]
      have hv : Vw A (.own g 0 3) (.dsl 1 (txts [rotW, le 4 n, a])) :=
        .ownR (i := 0) (n := 3) h11 (by simp) (.cons (vw_irow hx rfl) (.cons (vw_irow hy (by simp)) (.cons (vw_arr' hI.h3 (by simp [hal])) .nil)))
      refine gC_aop ?_
      simp -implicitDefEqProofs [e11]
      refine (w_digest_Of (L := [rotW, le 4 n, a]) (fun x hx => ?_) (by rw [hfl]; simp [rotT, rotW, hal]) (by simp)).call (.cons hv rfl .nil) rfl ?_
      · simp only [List.mem_cons, List.not_mem_nil, or_false] at hx
        rcases hx with rfl | rfl | rfl
        · exact wordW_bytes.2.1
        · exact le_bytes 4 n
        · exact ha
      rw [hfl]
      have hG := hI
      refine CrJ.of (by simp [setL, h8]) ⟨?_, ?_, ?_, ?_, ?_, ?_, ?_, ?_, ?_, ?_, ?_, ?_, ?_⟩ <;> (try simp -implicitDefEqProofs [setL, put, upd]) <;> first | exact hG.e0 | exact hG.e3 | exact hG.e4 | exact hG.h3 | exact hG.h4 | exact hG.e5 | exact hG.e6 | exact hG.e7 | exact hG.e8 | exact hG.e9 | exact hG.e10 | exact hG.e11 | exact hG.e12 | rfl
    | 8, hp =>
      simp [q_tree_crown_1] at hp; subst hp
      have hall : ∀ k < 8, l k = true := fun k hk => by
        rcases (by omega : k = 0 ∨ k = 1 ∨ k = 2 ∨ k = 3 ∨ k = 4 ∨ k = 5 ∨ k = 6 ∨ k = 7) with rfl | rfl | rfl | rfl | rfl | rfl | rfl | rfl <;> exact hj _ (by simp)
      have e12 := hI.e12 (hall 7 (by omega))
      have h32 := dig_length (rotT n a)
      have h4 := hI.h4
      refine gC_aop ?_
      simp -implicitDefEqProofs [e12, e4, h4, h32]
      unfold CrJ
      rw [if_pos (by simp [setL])]
      refine ⟨fun k hk => ?_, e4, ?_⟩
      · simp only [setL]
        by_cases h : k = 8
        · simp [h]
        · rw [if_neg h]; exact hall k (by omega)
      · rw [set_eq']
    | i + 9, hp => simp [q_tree_crown_1] at hp
  · intro l env A hI hl
    have h8 := hl 8 (by simp [q_tree_crown_1])
    unfold CrJ at hI
    rw [if_pos h8] at hI
    obtain ⟨_, e4, h4⟩ := hI
    have h32 := dig_length (rotT n a)
    simp -implicitDefEqProofs [outOf, e4, h4, h32]
end
end Go.Proofs.Ytfdckjliinpjiaa

/- The walks of the tree's rows. -/
namespace Go.Proofs.Ytfdckjliinpjiaa
open Go AVL
attribute [-simp] AV.isAgg aappI aapp alen shp good comps szOK aslc List.reduceReplicate
set_option linter.unusedVariables false
set_option linter.unusedSimpArgs false
set_option maxRecDepth 20000

section
variable {A B C D : Heap} {K Kp : AV → Heap → Prop} {P : Program}
/-- Things to be summed: bytes, not too many of them. -/
def Ths (L : List (List Nat)) : Prop := ∀ b ∈ L, Bytes b ∧ b.length ≤ 90000
theorem ads_app (L M : List (List Nat)) : ads (L ++ M) = ads L ++ ads M := by simp [ads]
theorem ads_one (a : List Nat) : ads [a] = [adV a] := rfl
theorem take_one {α : Type} {L : List α} {k : Nat} (h : k < L.length) : L.take k ++ [L[k]] = L.take (k + 1) := (List.take_succ_eq_append_getElem h).symm
theorem w_tree_leaves {L : List (List Nat)} (hL : Ths L) (hl : L.length ≤ 4096) : MakesR Try.prog F_tree_leaves [.dsl 1 (txts L)] T_32_uint8 32 (ads (lvs 0 L)) := by
  refine MakesR.of (j_tree_leaves (by simp) ?_)
  simp -implicitDefEqProofs [a_tree_leaves, q_tree_leaves_0, q_tree_leaves_1, q_tree_leaves_2]
  refine X_lp (fun (k : Nat) env E => k ≤ L.length ∧ SlR T_32_uint8 32 (env 3) (ads ((lvs 0 L).take k)) H0 E ∧ env 6 = .dsl 1 (txts L) ∧ env 7 = .int .i64 L.length ∧ env 8 = .int .i64 k) (fun k => L.length - k) 0
    ⟨by omega, by simpa [ads] using SlR.nil (Sub_refl H0), by simp, by simp, by simp⟩ ?_
  rintro k env E ⟨hk, hv, e6, e7, e8⟩
  obtain ⟨v, e3⟩ : ∃ v, env 3 = v := ⟨_, rfl⟩
  rw [e3] at hv
  have hs := hv.scl
  by_cases hkl : k < L.length
  · have hkl' : (k : Int) < L.length := by omega
    have wk : IntKind.i64.wrap ((k : Int) + 1) = (k : Int) + 1 := wrap_i64 (by omega)
    have hb := hL L[k] (List.getElem_mem hkl)
    have h32 := dig_length (lefT k L[k])
    simp -implicitDefEqProofs [q_tree_leaves_L7, q_tree_leaves_3, q_tree_leaves_4, q_tree_leaves_5, q_tree_leaves_6, e3, e6, e7, e8, hkl, hkl', wk, hs.size, hs.shp, hs.agg, hs.good, hs.comps, hs.st]
    refine (w_tree_Leaf (by omega) hb.1 hb.2).call (.cons (.refl _) rfl (.cons (.refl _) rfl .nil)) rfl ?_
    simp -implicitDefEqProofs [h32, e8, wk, hs.size, hs.shp, hs.agg, hs.good, hs.comps, hs.st]
    intro g9 h9
    refine hv.appS (ys := [adV (dig (lefT k L[k]))]) (sub_none h9) (src_row set_eq' rfl) rfl (by simp; omega) fun g' n' C2 hn' hv2 => ?_
    simp -implicitDefEqProofs [e8, wk]
    have hq : ads ((lvs 0 L).take k) ++ [adV (dig (lefT k L[k]))] = ads ((lvs 0 L).take (k + 1)) := by
      rw [← take_one (L := lvs 0 L) (by simpa using hkl), ads_app, lvs_get 0 L k hkl, Nat.zero_add]; rfl
    rw [hq] at hv2
    exact lp_next (k + 1) ⟨by omega, by simpa using hv2, by simp [e6], by simp [e7], by simp⟩ (by omega)
  · have hke : k = L.length := by omega
    subst hke
    have hn : ¬ ((L.length : Int) < L.length) := by omega
    simp -implicitDefEqProofs [q_tree_leaves_L7, q_tree_leaves_3, q_tree_leaves_7, e3, e7, e8, hn, hs.size, hs.shp, hs.agg, hs.good, hs.comps, hs.st, outOf]
    rwa [List.take_of_length_le (by simp)] at hv
theorem w_tree_up {D : List (List Nat)} (hD : AdL D) (hl : D.length ≤ 4096) : MakesR Try.prog F_tree_up [.dsl 32 (ads D)] T_32_uint8 32 (ads (upL D)) := by
  refine MakesR.of (j_tree_up (by simp) ?_)
  simp -implicitDefEqProofs [a_tree_up, q_tree_up_0, q_tree_up_1, q_tree_up_2]
  refine X_lp (fun (k : Nat) env E => 2 * k ≤ D.length + 1 ∧ SlR T_32_uint8 32 (env 3) (ads ((upL D).take k)) H0 E ∧ env 0 = .dsl 32 (ads D) ∧ env 4 = .int .i64 (2 * (k : Int))) (fun k => D.length + 1 - k) 0
    ⟨by omega, by simpa [ads] using SlR.nil (Sub_refl H0), by simp, by simp⟩ ?_
  rintro k env E ⟨hk, hv, e0, e4⟩
  obtain ⟨v, e3⟩ : ∃ v, env 3 = v := ⟨_, rfl⟩
  rw [e3] at hv
  have hs := hv.scl
  have hu := upL_length D
  by_cases hkl : 2 * k < D.length
  · have hkl' : 2 * (k : Int) < D.length := by omega
    have wk1 : IntKind.i64.wrap (2 * (k : Int) + 1) = 2 * (k : Int) + 1 := wrap_i64 (by omega)
    have wk2 : IntKind.i64.wrap (2 * (k : Int) + 2) = 2 * (k : Int) + 2 := wrap_i64 (by omega)
    have hku : k < (upL D).length := by omega
    have hg := upL_get D k
    rw [List.getElem?_eq_getElem hku, List.getElem?_eq_getElem hkl] at hg
    have b1 := hD D[2 * k] (List.getElem_mem hkl)
    have n1 : (2 * (k : Int)).toNat = 2 * k := by omega
    have n2 : (2 * (k : Int) + 1).toNat = 2 * k + 1 := by omega
    have p0 : (0 : Int) ≤ 2 * k := by omega
    have p1 : (0 : Int) ≤ 2 * k + 1 := by omega
    have pl : 2 * k < (ads D).length := by simpa using hkl
    have g1 := ads_getE (i := 2 * k) pl
    have hl32 := b1.2
    by_cases hlast : 2 * k + 1 = D.length
    · have hlast' : 2 * (k : Int) + 1 = D.length := by omega
      rw [if_neg (by omega)] at hg
      injection hg with hg
      have wD : IntKind.i64.wrap (D.length : Int) = D.length := wrap_i64 (by omega)
      simp -implicitDefEqProofs [q_tree_up_L8, q_tree_up_3, q_tree_up_4, q_tree_up_5, e0, e3, e4, hkl, hkl', wk1, wD, hlast, hlast', n1, p0, pl, g1, adV, hl32, hs.size, hs.shp, hs.agg, hs.good, hs.comps, hs.st]
      intro g9 h9
      refine hv.appS (ys := [adV (D[2 * k])]) (sub_none h9) (src_row set_eq' rfl) rfl (by simp; omega) fun g' n' C2 hn' hv2 => ?_
      have hq : ads ((upL D).take k) ++ [adV D[2 * k]] = ads (upL D) := by
        rw [← hg, ← ads_one, ← ads_app, take_one hku, List.take_of_length_le (by omega)]
      rw [hq] at hv2
      simp -implicitDefEqProofs [q_tree_up_8, outOf]
      exact hv2
    · have hlast' : ¬ 2 * (k : Int) + 1 = D.length := by omega
      have hk2 : 2 * k + 1 < D.length := by omega
      have hk2' : 2 * (k : Int) + 1 < D.length := by omega
      have pl2 : 2 * k + 1 < (ads D).length := by simpa using hk2
      have g2 := ads_getE (i := 2 * k + 1) pl2
      have b2 := hD D[2 * k + 1] (List.getElem_mem hk2)
      have hl32' := b2.2
      rw [if_pos hk2, List.getElem?_eq_getElem hk2] at hg
      simp only [Option.bind_some, Option.map_some, Option.some.injEq] at hg
      have hn32 := nodS_length D[2 * k] D[2 * k + 1]
      simp -implicitDefEqProofs [q_tree_up_L8, q_tree_up_3, q_tree_up_4, q_tree_up_5, q_tree_up_6, e0, e3, e4, hkl, hkl', hk2, hk2', wk1, hlast, hlast', n1, n2, p0, p1, pl, pl2, g1, g2, adV, hl32, hl32', hs.size, hs.shp, hs.agg, hs.good, hs.comps, hs.st]
      refine (w_tree_join b1.1 b2.1 b1.2 b2.2).call (.cons (.refl _) rfl (.cons (.refl _) rfl .nil)) rfl ?_
      simp -implicitDefEqProofs [hn32, hs.size, hs.shp, hs.agg, hs.good, hs.comps, hs.st]
      intro g9 h9
      refine hv.appS (ys := [adV (nodS D[2 * k] D[2 * k + 1])]) (sub_none h9) (src_row set_eq' rfl) rfl (by simp; omega) fun g' n' C2 hn' hv2 => ?_
      have hq : ads ((upL D).take k) ++ [adV (nodS D[2 * k] D[2 * k + 1])] = ads ((upL D).take (k + 1)) := by
        rw [← hg, ← ads_one, ← ads_app, take_one hku]
      rw [hq] at hv2
      simp -implicitDefEqProofs [q_tree_up_7, e4, wk2]
      exact lp_next (k + 1) ⟨by omega, by simpa using hv2, by simp [e0], by simp; omega⟩ (by omega)
  · have hke : (upL D).take k = upL D := List.take_of_length_le (by omega)
    have hn : ¬ (2 * (k : Int) < D.length) := by omega
    rw [hke] at hv
    simp -implicitDefEqProofs [q_tree_up_L8, q_tree_up_3, q_tree_up_8, e3, e0, e4, hn, hs.size, hs.shp, hs.agg, hs.good, hs.comps, hs.st, outOf]
    exact hv
end
end Go.Proofs.Ytfdckjliinpjiaa

/- The walk of the tree's Root. -/
namespace Go.Proofs.Ytfdckjliinpjiaa
open Go AVL
attribute [-simp] AV.isAgg aappI aapp alen shp good comps szOK aslc List.reduceReplicate
set_option linter.unusedVariables false
set_option linter.unusedSimpArgs false
set_option maxRecDepth 20000

section
variable {A B C D : Heap} {K Kp : AV → Heap → Prop} {P : Program}
theorem Ths.light {L : List (List Nat)} (h : Ths L) : Ths L := h
theorem lvs_one {L : List (List Nat)} (h : 1 ≤ L.length) : 1 ≤ (lvs 0 L).length := by simpa using h
theorem one_get {M : List (List Nat)} (h : M.length = 1) : M = [topD M] := by
  obtain ⟨a, rfl⟩ := one_of h; rw [topD_one]
def zeroA : List Nat := List.replicate 32 0
theorem zeroA_ints : ints zeroA = List.replicate 32 0 := by simp [ints, zeroA]
/-- The sum over all, and what is wrong. -/
def rootR (L : List (List Nat)) : List Nat := if chkL L.length = 0 then dig (rotT L.length (topD (lvs 0 L))) else zeroA
theorem AdL.topD : ∀ (n : Nat) (M : List (List Nat)), M.length = n → 1 ≤ n → AdL M → Bytes (topD M) ∧ (topD M).length = 32 := by
  intro n M hn h1 hM
  by_cases h : 2 ≤ M.length
  · rw [topD_more h]; exact ⟨dig_bytes _, nodS_length _ _⟩
  · rw [one_get (M := M) (by omega)] at hM
    exact hM _ (by simp)
theorem w_tree_Root {L : List (List Nat)} (hL : Ths L) (hl : L.length < 2 ^ 40) : Gives Try.prog F_tree_Root [.dsl 1 (txts L)] (.tuple [adV (rootR L), .int .i64 (chkL L.length)]) := by
  refine v_tree_Root (by simp) ?_
  simp -implicitDefEqProofs [a_tree_Root, q_tree_Root_0, q_tree_Root_1]
  intro g2
  refine (w_tree_Check (L := L) (by omega)).call (.cons (.refl _) rfl .nil) rfl ?_
  by_cases hc : chkL L.length = 0
  · have hr : rootR L = dig (rotT L.length (topD (lvs 0 L))) := by unfold rootR; rw [if_pos hc]
    have hl1 : 1 ≤ L.length ∧ L.length ≤ 1024 := by
      unfold chkL at hc
      split at hc
      · cases hc
      · split at hc
        · cases hc
        · omega
    simp -implicitDefEqProofs [q_tree_Root_2, q_tree_Root_4, hc]
    obtain ⟨Y, hY⟩ : ∃ Y, H0.set g2 (.var 23 [.iarr .u8 32 (List.replicate 32 0)]) = Y := ⟨_, rfl⟩
    have y2 : Y g2 = some (.var 23 [.iarr .u8 32 (List.replicate 32 0)]) := by rw [← hY, set_eq']
    rw [hY]
    refine (w_tree_leaves hL (by omega)).call (.cons (.refl _) rfl .nil) (ads_noF _) fun v5 C5 hv5 => ?_
    have hs5 := hv5.scl
    simp -implicitDefEqProofs [hs5.agg, hs5.size, hs5.shp, hs5.good, hs5.comps, hs5.st]
    refine X_lp (fun (M : List (List Nat)) env E => AdL M ∧ 1 ≤ M.length ∧ M.length ≤ 1024 ∧ topD M = topD (lvs 0 L) ∧ SlR T_32_uint8 32 (env 5) (ads M) Y E ∧ env 0 = .dsl 1 (txts L) ∧ env 2 = .ptr g2 0) (fun M => M.length) (lvs 0 L)
      ⟨lvs_ok 0 L, lvs_one hl1.1, by simp; omega, rfl, by simpa using hv5, by simp, by simp⟩ ?_
    clear hv5 hs5
    rintro M env E ⟨hM, hm1, hm2, ht, hv, e0, e2⟩
    obtain ⟨v, e5⟩ : ∃ v, env 5 = v := ⟨_, rfl⟩
    rw [e5] at hv
    have hs := hv.scl
    by_cases hm : 1 < M.length
    · have hm' : (1 : Int) < M.length := by omega
      simp -implicitDefEqProofs [q_tree_Root_L7, q_tree_Root_5, q_tree_Root_6, e5, hv.len, hm, hm', hs.size, hs.shp, hs.agg, hs.good, hs.comps, hs.st]
      refine (w_tree_up hM (by omega)).call (.cons hv.vw hs.agg .nil) (ads_noF _) fun v8 C8 hv8 => ?_
      have hs8 := hv8.scl
      have hul := upL_length M
      simp -implicitDefEqProofs [hs8.size, hs8.shp, hs8.agg, hs8.good, hs8.comps, hs8.st]
      exact lp_next (upL M) ⟨upL_ok hM, by omega, by omega, by rw [top_up _ M rfl (by omega), ht], by simpa using hv8.base hv.sub, by simp [e0], by simp [e2]⟩ (by omega)
    · obtain ⟨d, rfl⟩ := one_of (by omega : M.length = 1)
      have hd := hM d (by simp)
      have hd2 := hd.2
      obtain ⟨x, rfl, _, hx⟩ := hv.pos (by simp)
      have x2 := hv.sub _ _ y2
      rw [topD_one] at ht
      have h32 := dig_length (rotT L.length d)
      simp only [ads_len, List.length_singleton] at e5
      simp -implicitDefEqProofs [q_tree_Root_L7, q_tree_Root_5, q_tree_Root_7, e0, e5, hx, ads_one, adV, hd2]
      refine (w_tree_crown (by omega) hd.1 hd.2).call (.cons (.refl _) rfl (.cons (.refl _) rfl .nil)) rfl ?_
      simp -implicitDefEqProofs [e2, x2, h32, outOf, hr, ht, adV]
  · have hr : rootR L = zeroA := by unfold rootR; rw [if_neg hc]
    simp -implicitDefEqProofs [q_tree_Root_2, q_tree_Root_3, hc, hr, adV, zeroA_ints, outOf]
end
end Go.Proofs.Ytfdckjliinpjiaa

/- The walk of the tree's Prove. -/
namespace Go.Proofs.Ytfdckjliinpjiaa
open Go AVL
attribute [-simp] AV.isAgg aappI aapp alen shp good comps szOK aslc List.reduceReplicate
set_option linter.unusedVariables false
set_option linter.unusedSimpArgs false
set_option maxRecDepth 20000

section
variable {A B C D : Heap} {K Kp : AV → Heap → Prop} {P : Program}
def prvC (L : List (List Nat)) (at' : Int) : Int := if chkL L.length ≠ 0 then chkL L.length else if at' < 0 ∨ (L.length : Int) ≤ at' then 2 else 0
def prvP (L : List (List Nat)) (at' : Int) : List (List Nat) := if prvC L at' = 0 then pathU (lvs 0 L) at'.toNat else []
def prvA (L : List (List Nat)) (at' : Int) : Int := if prvC L at' = 0 then at' else 0
def prvO (L : List (List Nat)) (at' : Int) : Int := if prvC L at' = 0 then L.length else 0
/-- A proof. -/
def prf (a n : Int) (p : AV) : AV := .agg [.int .i64 a, .int .i64 n, p]
theorem xor1_lt {i : Nat} (h : i < 4096) : bXor .i64 (i : Int) 1 = ((i ^^^ 1 : Nat) : Int) := by
  have h2 : i ^^^ 1 ≤ i + 1 := by rw [xor1]; split <;> omega
  unfold bXor
  rw [BitVec.toNat_xor, ofInt_nat _ _ (by simp [IntKind.bits]; omega), show ((1 : Int) = ((1 : Nat) : Int)) from rfl, ofInt_nat _ _ (by simp [IntKind.bits])]
  exact wrap_i64 (by omega)
theorem chkL_zero {n : Nat} (h : chkL n = 0) : 1 ≤ n ∧ n ≤ 1024 := by
  unfold chkL at h
  split at h
  · cases h
  · split at h
    · cases h
    · omega
theorem ads_get {M : List (List Nat)} (hM : AdL M) {i : Nat} (h : i < M.length) : ∃ b, M[i]? = some b ∧ (ads M)[i]? = some (adV b) ∧ Bytes b ∧ b.length = 32 := by
  refine ⟨M[i], List.getElem?_eq_getElem h, ?_, hM _ (List.getElem_mem h)⟩
  rw [List.getElem?_eq_getElem (by simpa using h), ads_getE (by simpa using h)]
theorem SlR_new_ne {e : TypeId} {sz : Nat} {v : AV} {m : List AV} (h : SlR e sz v m A B) {x : Nat} (hx : B x = none) : ∀ n, v ≠ .own x 0 n := fun n e => by
  rcases h.own with ⟨rfl, _⟩ | ⟨g, rfl, _, hB⟩
  · cases e
  · injection e with e _ _; subst e; rw [hx] at hB; cases hB
theorem del_sub {g : Nat} : (B.del g).Sub B := fun x c hx => by
  rw [del_app] at hx; split at hx
  · cases hx
  · exact hx
theorem SlR_delr {e : TypeId} {sz : Nat} {v : AV} {m : List AV} {g : Nat} {c : Cont} (h : SlR e sz v m A B) (hA : A g = some c) : RowAt e sz v m (B.del g) :=
  h.own.imp id fun ⟨x, h1, h2, h3⟩ => ⟨x, h1, by rw [del_app, if_neg (by rintro rfl; rw [h2] at hA; cases hA)]; exact h3⟩
/-- The row, the sums so far, the place. -/
structure PS where
  M : List (List Nat)
  acc : List (List Nat)
  a : Nat
structure PrvI (at' n : Int) (T : List (List Nat)) (g4 g7 : Nat) (S : PS) (env : AEnv) (E : Heap) : Prop where
  ok : AdL S.M
  m1 : 1 ≤ S.M.length
  m2 : S.acc.length + S.M.length ≤ 1024
  lt : S.a < S.M.length
  eq : S.acc ++ pathU S.M S.a = T
  e1 : env 1 = .int .i64 S.a
  e4 : env 4 = .ptr g4 0
  e7 : env 7 = .ptr g7 0
  ex : ∃ p X, E g7 = some (.var 82 [.int .i64 at', .int .i64 n, p]) ∧ X g7 = none ∧ X g4 = some (.var 82 [.int .i64 0, .int .i64 0, .nilS]) ∧ RowAt T_32_uint8 32 (env 8) (ads S.M) X ∧ SlR T_32_uint8 32 p (ads S.acc) X E
theorem sim_Prove {L : List (List Nat)} (hL : Ths L) (hl : L.length < 2 ^ 40) {at' : Int} (ha1 : -2 ^ 63 ≤ at') (ha2 : at' < 2 ^ 63) (hk : ∀ p C, SlR T_32_uint8 32 p (ads (prvP L at')) H0 C → K (.tuple [prf (prvA L at') (prvO L at') p, .int .i64 (prvC L at')]) C) :
    SimX Try.prog F_tree_Prove [.dsl 1 (txts L), .int .i64 at'] H0 (outK K Kp) := by
  refine j_tree_Prove (by simp) ?_
  simp -implicitDefEqProofs [a_tree_Prove, q_tree_Prove_0, q_tree_Prove_1]
  intro g4
  refine (w_tree_Check (L := L) (by omega)).call (.cons (.refl _) rfl .nil) rfl ?_
  by_cases hc : chkL L.length = 0
  · obtain ⟨hl1, hl2⟩ := chkL_zero hc
    by_cases h0 : at' < 0
    · have hC : prvC L at' = 2 := by unfold prvC; rw [if_neg (by simp [hc]), if_pos (.inl h0)]
      have := hk .nilS (H0.set g4 (.var 82 [.int .i64 0, .int .i64 0, .nilS])) (by unfold prvP; rw [if_neg (by rw [hC]; decide)]; exact SlR.nil (H0_sub _))
      simp [prvA, prvO, hC, prf] at this
      simp -implicitDefEqProofs [q_tree_Prove_2, q_tree_Prove_4, q_tree_Prove_5, hc, h0, outOf]
      exact this
    by_cases h1 : (L.length : Int) ≤ at'
    · have hC : prvC L at' = 2 := by unfold prvC; rw [if_neg (by simp [hc]), if_pos (.inr h1)]
      have := hk .nilS (H0.set g4 (.var 82 [.int .i64 0, .int .i64 0, .nilS])) (by unfold prvP; rw [if_neg (by rw [hC]; decide)]; exact SlR.nil (H0_sub _))
      simp [prvA, prvO, hC, prf] at this
      simp -implicitDefEqProofs [q_tree_Prove_2, q_tree_Prove_4, q_tree_Prove_5, hc, h0, h1, outOf]
      exact this
    have hC : prvC L at' = 0 := by unfold prvC; rw [if_neg (by simp [hc]), if_neg (by omega)]
    have hP : prvP L at' = pathU (lvs 0 L) at'.toNat := by unfold prvP; rw [if_pos hC]
    simp -implicitDefEqProofs [q_tree_Prove_2, q_tree_Prove_4, q_tree_Prove_6, q_tree_Prove_7, hc, h0, h1]
    intro g7 n7 n7'
    obtain ⟨a, rfl⟩ : ∃ a : Nat, at' = a := ⟨at'.toNat, by omega⟩
    rw [Int.toNat_natCast] at hP
    obtain ⟨Y, hY⟩ : ∃ Y, ((H0.set g4 (.var 82 [.int .i64 0, .int .i64 0, .nilS])).set g7 (.var 82 [.int .i64 a, .int .i64 (L.length : Int), .nilS])) = Y := ⟨_, rfl⟩
    have y4 : Y g4 = some (.var 82 [.int .i64 0, .int .i64 0, .nilS]) := by rw [← hY, set_ne' n7', set_eq']
    have y7 : Y g7 = some (.var 82 [.int .i64 a, .int .i64 (L.length : Int), .nilS]) := by rw [← hY, set_eq']
    rw [hY]
    refine (w_tree_leaves hL (by omega)).call (.cons (.refl _) rfl .nil) (ads_noF _) fun v8 C8 hv8 => ?_
    have hs8 := hv8.scl
    simp -implicitDefEqProofs [hs8.agg, hs8.size, hs8.shp, hs8.good, hs8.comps, hs8.st]
    refine X_lp (PrvI a L.length (pathU (lvs 0 L) a) g4 g7) (fun S => S.M.length) ⟨lvs 0 L, [], a⟩
      ⟨lvs_ok 0 L, lvs_one hl1, by simp; omega, by simp; omega, by simp, by simp, by simp, by simp, .nilS, C8.del g7, hv8.sub _ _ y7, by simp [del_app], by rw [del_app, if_neg n7']; exact hv8.sub _ _ y4, by simpa using SlR_delr hv8 y7, SlR.nil del_sub⟩ ?_
    clear hv8 hs8
    rintro ⟨M, acc, a'⟩ env E hI
    have hM := hI.ok
    have hm1 := hI.m1
    have hm2 := hI.m2
    have hlt := hI.lt
    have heq := hI.eq
    have e1 := hI.e1
    have e4 := hI.e4
    have e7 := hI.e7
    obtain ⟨p, X, c7, x7, x4, hr, hp⟩ := hI.ex
    simp only at hM hm1 hm2 hlt heq e1 hr hp
    obtain ⟨gr, e8, xr⟩ := hr.pos (by simp; omega)
    simp only [ads_len] at e8
    have cr := hp.sub _ _ xr
    have c4 := hp.sub _ _ x4
    by_cases hm : 1 < M.length
    · have hm' : (1 : Int) < M.length := by omega
      have hxo := xor1_lt (i := a') (by omega)
      have hul := upL_length M
      have hpm := pathU_more (i := a') (show 2 ≤ M.length by omega)
      have hdv : (a' : Int).tdiv 2 = (a' : Int) / 2 := Int.tdiv_eq_ediv_of_nonneg (by omega)
      have wdv : IntKind.i64.wrap ((a' : Int) / 2) = (a' : Int) / 2 := wrap_i64 (by omega)
      have tail : ∀ (env : AEnv) (E : Heap) (p : AV) (acc2 : List (List Nat)) (X : Heap), env 1 = .int .i64 a' → env 4 = .ptr g4 0 → env 7 = .ptr g7 0 → env 8 = .own gr 0 M.length →
          E g7 = some (.var 82 [.int .i64 a, .int .i64 (L.length : Int), p]) → X g7 = none → X g4 = some (.var 82 [.int .i64 0, .int .i64 0, .nilS]) → X gr = some (.row T_32_uint8 32 (ads M)) → SlR T_32_uint8 32 p (ads acc2) X E →
          acc2.length + (M.length + 1) / 2 ≤ 1024 → acc2 ++ pathU (upL M) (a' / 2) = pathU (lvs 0 L) a →
          XO Try.prog (lp Try.prog (inl [.cell 4 .ag 3, .tmp 5] K Kp) (Kt.blk 0 (Kt.thn ((ACode.region q_tree_Prove_14).seq ACode.ret) Kt.done)) (PrvI (a : Int) (L.length : Int) (pathU (lvs 0 L) a) g4 g7) (fun S => S.M.length) ⟨M, acc, a'⟩)
            q_tree_Prove_12 (Kt.blk 1 (Kt.thn (ACode.region q_tree_Prove_13) Kt.done)) env E := by
        intro env E p acc2 X e1 e4 e7 e8 c7 x7 x4 xr hp hacc heq
        have er := hp.sub _ _ xr
        simp -implicitDefEqProofs [q_tree_Prove_12, q_tree_Prove_13, e1, e8, hdv, wdv]
        refine (w_tree_up hM (by omega)).call (.cons (vw_row er (by simp)) rfl .nil) (ads_noF _) fun v8 C8 hv8 => ?_
        have hs8 := hv8.scl
        obtain ⟨X', q1, q2, q3, q4, q5⟩ := (hp.mono hv8.sub).top
        have hr8 : RowAt T_32_uint8 32 v8 (ads (upL M)) (X'.del g7) := by
          refine hv8.own.imp id fun ⟨x, h1, h2, h3⟩ => ⟨x, h1, ?_⟩
          rw [del_app, if_neg (by rintro rfl; rw [h2] at c7; cases c7)]
          exact q4 _ _ h3 (SlR_new_ne hp h2)
        have hn47 : g4 ≠ g7 := by rintro rfl; rw [x4] at x7; cases x7
        simp -implicitDefEqProofs [hs8.size, hs8.shp, hs8.agg, hs8.good, hs8.comps, hs8.st]
        exact lp_next (⟨upL M, acc2, a' / 2⟩ : PS) ⟨upL_ok hM, by simp only; omega, by simp only; omega, by simp only; omega, heq, by simp, by simp [e4], by simp [e7], p, X'.del g7, hv8.sub _ _ c7, by simp [del_app], by rw [del_app, if_neg hn47]; exact q1 _ _ x4, by simpa using hr8, q3.base del_sub⟩ (by simp only; omega)
      simp -implicitDefEqProofs [q_tree_Prove_L14, q_tree_Prove_8, q_tree_Prove_9, q_tree_Prove_10, e1, e7, e8, hm, hm', hxo]
      refine ⟨fun hx => ?_, fun hx => ?_⟩
      · have hps := hp.scl
        obtain ⟨b, hb1, hb2, hb3, hb4⟩ := ads_get hM hx
        have hx' : ((a' ^^^ 1 : Nat) : Int) < M.length := by omega
        rw [hb1] at hpm
        have pl : a' ^^^ 1 < (ads M).length := by simpa using hx
        have g1 : (ads M)[a' ^^^ 1] = adV b := by
          rw [List.getElem?_eq_getElem pl] at hb2
          exact Option.some.inj hb2
        simp -implicitDefEqProofs [q_tree_Prove_11, e1, e4, e7, e8, c7, cr, hx, hx', g1, adV, hb4, hps.agg, hps.size, hps.shp, hps.good, hps.comps, hps.st]
        intro g9 h9
        obtain ⟨X', q1, q2, q3, q4, q5⟩ := hp.top
        have x7' := q4 _ _ c7 (hp.ne c7 (by intro l; simp))
        refine q3.appS (ys := [adV b]) (sub_none h9) (src_row set_eq' rfl) rfl (by simp; omega) fun g' n' C2 hn' hv2 => ?_
        have w7 := hv2.sub _ _ x7'
        have hn2 := hv2.not_base x7'
        have hn4 : g4 ≠ g7 := by rintro rfl; rw [x4] at x7; cases x7
        have hnr : gr ≠ g7 := by rintro rfl; rw [xr] at x7; cases x7
        rw [← ads_one, ← ads_app] at hv2
        simp -implicitDefEqProofs [e7, w7, hps.agg, hps.size, hps.shp, hps.good, hps.comps, hps.st]
        refine tail _ _ (.own g' 0 n') (acc ++ [b]) (X'.del g7) ?_ ?_ ?_ ?_ ?_ ?_ ?_ ?_ ((hv2.base del_sub).set (by simp [del_app]) hn2) ?_ ?_ <;> try (simp [e1, e4, e7, e8, del_app, hn4, hnr, q1 _ _ x4, q1 _ _ xr]; done)
        · simp; omega
        · rw [hpm] at heq
          simpa using heq
      · rw [List.getElem?_eq_none hx] at hpm
        refine tail _ E p acc X ?_ ?_ ?_ ?_ c7 x7 x4 xr hp (by omega) ?_ <;> try (simp [e1, e4, e7, e8]; done)
        rw [hpm] at heq
        simpa using heq
    · obtain ⟨d, rfl⟩ := one_of (by omega : M.length = 1)
      rw [pathU_one (by simp), List.append_nil] at heq
      have hps := hp.scl
      simp -implicitDefEqProofs [q_tree_Prove_L14, q_tree_Prove_8, q_tree_Prove_14, e1, e4, e7, e8, hm, c7, c4, outOf, hps.agg, hps.size, hps.shp, hps.good, hps.comps, hps.st]
      have hA : prvA L (a : Int) = a := by unfold prvA; rw [if_pos hC]
      have hO : prvO L (a : Int) = L.length := by unfold prvO; rw [if_pos hC]
      have := hk p (E.set g4 (.var 82 [.int .i64 a, .int .i64 (L.length : Int), p])) (by rw [hP, ← heq]; exact (hp.base (H0_sub _)).set rfl (hp.not_base x4))
      rw [hA, hO, hC] at this
      exact this
  · have hC : prvC L at' = chkL L.length := by unfold prvC; rw [if_pos hc]
    have := hk .nilS (H0.set g4 (.var 82 [.int .i64 0, .int .i64 0, .nilS])) (by unfold prvP; rw [if_neg (by rw [hC]; exact hc)]; exact SlR.nil (H0_sub _))
    simp [prvA, prvO, hC, prf, hc] at this
    simp -implicitDefEqProofs [q_tree_Prove_2, q_tree_Prove_3, hc, outOf]
    exact this
end
end Go.Proofs.Ytfdckjliinpjiaa

/- The walk of the tree's Climb. -/
namespace Go.Proofs.Ytfdckjliinpjiaa
open Go AVL
attribute [-simp] AV.isAgg aappI aapp alen shp good comps szOK aslc List.reduceReplicate
set_option linter.unusedVariables false
set_option linter.unusedSimpArgs false
set_option maxRecDepth 20000

section
variable {A B C D : Heap} {K Kp : AV → Heap → Prop} {P : Program}
def clmI (a n : Int) (p : List (List Nat)) (b : List Nat) : Option (List Nat × List (List Nat)) :=
  if n < 1 ∨ 1024 < n ∨ a < 0 ∨ n ≤ a then none else climb n.toNat a.toNat (dig (lefT a.toNat b)) p
def clmA (a n : Int) (p : List (List Nat)) (b : List Nat) : List Nat := match clmI a n p b with
  | some (x, _) => dig (rotT n.toNat x)
  | none => zeroA
def clmB (a n : Int) (p : List (List Nat)) (b : List Nat) : Bool := match clmI a n p b with
  | some (_, r) => decide (r = [])
  | none => false
structure CS where
  n : Nat
  a : Nat
  h : List Nat
  q : List (List Nat)
structure ClI (of : Nat) (T : Option (List Nat × List (List Nat))) (g2 g4 g6 : Nat) (c2 : List AV) (S : CS) (env : AEnv) (E : Heap) : Prop where
  eq : climb S.n S.a S.h S.q = T
  ok : AdL S.q
  hb : Bytes S.h
  h32 : S.h.length = 32
  n2 : S.n ≤ 1024
  ql : S.q.length ≤ 100000
  lt : S.a < S.n
  e2 : env 2 = .ptr g2 0
  e4 : env 4 = .ptr g4 0
  e6 : env 6 = .ptr g6 0
  e7 : env 7 = .int .i64 S.a
  e8 : env 8 = .int .i64 S.n
  e9 : env 9 = .dsl 32 (ads S.q)
  c2 : E g2 = some (.var 82 c2)
  c4 : E g4 = some (.var 23 [.iarr .u8 32 (List.replicate 32 0)])
  c6 : E g6 = some (.var 23 [.iarr .u8 32 (ints S.h)])
theorem w_tree_Climb {a n : Int} {p : List (List Nat)} {b : List Nat} (ha : -2 ^ 63 ≤ a ∧ a < 2 ^ 63) (hn : -2 ^ 63 ≤ n ∧ n < 2 ^ 63) (hp : AdL p) (hpl : p.length ≤ 100000) (hb : Bytes b) (hbl : b.length ≤ 90000) :
    Gives Try.prog F_tree_Climb [prf a n (.dsl 32 (ads p)), .isl .u8 (ints b)] (.tuple [adV (clmA a n p b), .bool (clmB a n p b)]) := by
  refine v_tree_Climb (by simp) ?_
  simp -implicitDefEqProofs [a_tree_Climb, q_tree_Climb_0, prf]
  intro g2 g4 n4 n4'
  by_cases hbad : n < 1 ∨ 1024 < n ∨ a < 0 ∨ n ≤ a
  · have hI : clmI a n p b = none := by unfold clmI; rw [if_pos hbad]
    have hA : clmA a n p b = zeroA := by unfold clmA; rw [hI]
    have hB : clmB a n p b = false := by unfold clmB; rw [hI]
    have fin : ∀ env, env 4 = .ptr g4 0 → XO Try.prog (fin [.cell 4 (.ia .u8 32) 32, .tmp 5] (.tuple [adV (clmA a n p b), .bool (clmB a n p b)])) q_tree_Climb_2 (Kt.thn .ret (Kt.thn ((ACode.regionD q_tree_Climb_3).seq ((ACode.block 0 q_tree_Climb_L13.loop).seq ((ACode.region q_tree_Climb_13).seq ACode.ret))) Kt.done))
        env ((H0.set g2 (.var 82 [.int .i64 a, .int .i64 n, .dsl 32 (ads p)])).set g4 (.var 23 [.iarr .u8 32 (List.replicate 32 0)])) := by
      intro env e4
      simp -implicitDefEqProofs [q_tree_Climb_2, e4, hA, hB, adV, zeroA_ints, outOf]
    by_cases h1 : n < 1
    · simp -implicitDefEqProofs [q_tree_Climb_1, n4, n4', h1]
      exact fin _ (by simp)
    by_cases h2 : 1024 < n
    · simp -implicitDefEqProofs [q_tree_Climb_1, n4, n4', h1, h2]
      exact fin _ (by simp)
    by_cases h3 : a < 0
    · simp -implicitDefEqProofs [q_tree_Climb_1, n4, n4', h1, h2, h3]
      exact fin _ (by simp)
    by_cases h4 : n ≤ a
    · simp -implicitDefEqProofs [q_tree_Climb_1, n4, n4', h1, h2, h3, h4]
      exact fin _ (by simp)
    omega
  · have hb1 : ¬ n < 1 := by omega
    have hb2 : ¬ 1024 < n := by omega
    have hb3 : ¬ a < 0 := by omega
    have hb4 : ¬ n ≤ a := by omega
    obtain ⟨n, rfl⟩ : ∃ m : Nat, n = m := ⟨n.toNat, by omega⟩
    obtain ⟨a, rfl⟩ : ∃ m : Nat, a = m := ⟨a.toNat, by omega⟩
    have hI : clmI a n p b = climb n a (dig (lefT a b)) p := by unfold clmI; rw [if_neg hbad]; simp
    simp -implicitDefEqProofs [q_tree_Climb_1, q_tree_Climb_3, n4, n4', hb1, hb2, hb3, hb4]
    have hl32 := dig_length (lefT a b)
    refine (w_tree_Leaf (by omega) hb hbl).call (.cons (.refl _) rfl (.cons (.refl _) rfl .nil)) rfl ?_
    simp -implicitDefEqProofs [n4, n4', hl32]
    intro g6 a1 a2 a3 a4
    simp -implicitDefEqProofs [n4, n4', a1, a2, a3, a4, hl32]
    refine X_lp (ClI n (climb n a (dig (lefT a b)) p) g2 g4 g6 [.int .i64 a, .int .i64 n, .dsl 32 (ads p)]) (fun S => S.n) ⟨n, a, dig (lefT a b), p⟩
      ⟨rfl, hp, dig_bytes _, hl32, by simp only; omega, hpl, by simp only; omega, by simp, by simp, by simp, by simp, by simp, by simp, by simp [n4, n4', a1, a2, a3, a4], by simp [n4, n4', a1, a2, a3, a4], by simp [n4, n4', a1, a2, a3, a4]⟩ ?_
    rintro ⟨m, x, h, q⟩ env E hS
    have heq := hS.eq
    have hq := hS.ok
    have hhb := hS.hb
    have hh := hS.h32
    have hm2 := hS.n2
    have hql := hS.ql
    have hlt := hS.lt
    have e2 := hS.e2
    have e4 := hS.e4
    have e6 := hS.e6
    have e7 := hS.e7
    have e8 := hS.e8
    have e9 := hS.e9
    have c2 := hS.c2
    have c4 := hS.c4
    have c6 := hS.c6
    simp only at heq hq hhb hh hm2 hql hlt e7 e8 e9 c6
    have n24 : g2 ≠ g4 := by rintro rfl; rw [c2] at c4; cases c4
    have n26 : g2 ≠ g6 := by rintro rfl; rw [c2] at c6; cases c6
    have n46 : g4 ≠ g6 := Ne.symm (by first | exact a1 | exact a3)
    by_cases hm : 1 < m
    · have hm' : (1 : Int) < m := by omega
      have hxo := xor1_lt (i := x) (by omega)
      have hcm := climb_more (i := x) (a := h) (p := q) (show 2 ≤ m by omega)
      have hdv : (x : Int).tdiv 2 = (x : Int) / 2 := Int.tdiv_eq_ediv_of_nonneg (by omega)
      have wdv : IntKind.i64.wrap ((x : Int) / 2) = (x : Int) / 2 := wrap_i64 (by omega)
      have hdv2 : ((m : Int) + 1).tdiv 2 = ((m : Int) + 1) / 2 := Int.tdiv_eq_ediv_of_nonneg (by omega)
      have wdv2 : IntKind.i64.wrap (((m : Int) + 1) / 2) = ((m : Int) + 1) / 2 := wrap_i64 (by omega)
      have wm1 : IntKind.i64.wrap ((m : Int) + 1) = (m : Int) + 1 := wrap_i64 (by omega)
      have tail : ∀ (env : AEnv) (E : Heap) (h2 : List Nat) (q2 : List (List Nat)), climb ((m + 1) / 2) (x / 2) h2 q2 = climb n a (dig (lefT a b)) p → AdL q2 → Bytes h2 → h2.length = 32 → q2.length ≤ 100000 →
          env 2 = .ptr g2 0 → env 4 = .ptr g4 0 → env 6 = .ptr g6 0 → env 7 = .int .i64 x → env 8 = .int .i64 m → env 9 = .dsl 32 (ads q2) → E g2 = some (.var 82 [.int .i64 a, .int .i64 n, .dsl 32 (ads p)]) → E g4 = some (.var 23 [.iarr .u8 32 (List.replicate 32 0)]) → E g6 = some (.var 23 [.iarr .u8 32 (ints h2)]) →
          XO Try.prog (lp Try.prog (AVL.fin [.cell 4 (.ia .u8 32) 32, .tmp 5] (.tuple [adV (clmA a n p b), .bool (clmB a n p b)])) (Kt.blk 0 (Kt.thn ((ACode.region q_tree_Climb_13).seq ACode.ret) Kt.done)) (ClI n (climb n a (dig (lefT a b)) p) g2 g4 g6 [.int .i64 a, .int .i64 n, .dsl 32 (ads p)]) (fun S => S.n) ⟨m, x, h, q⟩)
            q_tree_Climb_12 (Kt.blk 1 Kt.done) env E := by
        intro env E h2 q2 heq hq hhb hh hql e2 e4 e6 e7 e8 e9 c2 c4 c6
        simp -implicitDefEqProofs [q_tree_Climb_12, e7, e8, hdv, wdv, hdv2, wdv2, wm1]
        exact lp_next (⟨(m + 1) / 2, x / 2, h2, q2⟩ : CS) ⟨heq, hq, hhb, hh, by simp only; omega, hql, by simp only; omega, by simp [e2], by simp [e4], by simp [e6], by simp, by simp, by simp [e9], c2, c4, c6⟩ (by simp only; omega)
      simp -implicitDefEqProofs [q_tree_Climb_L13, q_tree_Climb_4, q_tree_Climb_5, e7, e8, hm, hm', hxo]
      refine ⟨fun hx => ?_, fun hx => ?_⟩
      · rw [if_pos hx] at hcm
        have hx' : ((x ^^^ 1 : Nat) : Int) < m := by omega
        cases q with
        | nil =>
          rw [hcm] at heq
          have hA : clmA a n p b = zeroA := by unfold clmA; rw [hI, ← heq]
          have hB : clmB a n p b = false := by unfold clmB; rw [hI, ← heq]
          simp -implicitDefEqProofs [q_tree_Climb_6, q_tree_Climb_7, e4, e9, hx, hx', ads, c4, hA, hB, adV, zeroA_ints, outOf]
        | cons d r =>
          have hd := hq d (by simp)
          have hd2 := hd.2
          simp only at hcm
          rw [hcm] at heq
          have hrm : (x : Int).tmod 2 = (x : Int) % 2 := Int.tmod_eq_emod_of_nonneg (by omega)
          have wrm : IntKind.i64.wrap ((x : Int) % 2) = (x : Int) % 2 := wrap_i64 (by omega)
          have ea : ads (d :: r) = .iarr .u8 32 (ints d) :: ads r := rfl
          have hr0 : ¬ ((r.length : Int) + 1 = 0) := by omega
          have htk : List.take r.length (ads r) = ads r := List.take_of_length_le (by simp)
          by_cases hx2 : x % 2 = 0
          · have hx2' : (x : Int) % 2 = 0 := by omega
            rw [if_pos hx2] at heq
            have hn32 := nodS_length h d
            simp -implicitDefEqProofs [q_tree_Climb_6, q_tree_Climb_8, q_tree_Climb_9, e4, e6, e7, e9, hx, hx', hrm, hx2, hx2', ea, hr0, hd2, c6, hh]
            refine (w_tree_join hhb hd.1 hh hd.2).call (.cons (.refl _) rfl (.cons (.refl _) rfl .nil)) rfl ?_
            simp -implicitDefEqProofs [e6, e9, c6, hn32, ea, q_tree_Climb_11, aslc, szOK]
            refine ⟨by omega, tail _ _ (nodS h d) r heq (fun y hy => hq y (by simp [hy])) (dig_bytes _) hn32 (by simp at hql; omega) ?_ ?_ ?_ ?_ ?_ ?_ ?_ ?_ ?_⟩ <;> simp [e2, e4, e6, e7, e8, c2, c4, n26, n46, Ne.symm n26, Ne.symm n46, htk]
          · have hx2' : ¬ (x : Int) % 2 = 0 := by omega
            rw [if_neg hx2] at heq
            have hn32 := nodS_length d h
            simp -implicitDefEqProofs [q_tree_Climb_6, q_tree_Climb_8, q_tree_Climb_10, e4, e6, e7, e9, hx, hx', hrm, hx2, hx2', ea, hr0, hd2, c6, hh]
            refine (w_tree_join hd.1 hhb hd.2 hh).call (.cons (.refl _) rfl (.cons (.refl _) rfl .nil)) rfl ?_
            simp -implicitDefEqProofs [e6, e9, c6, hn32, ea, q_tree_Climb_11, aslc, szOK]
            refine ⟨by omega, tail _ _ (nodS d h) r heq (fun y hy => hq y (by simp [hy])) (dig_bytes _) hn32 (by simp at hql; omega) ?_ ?_ ?_ ?_ ?_ ?_ ?_ ?_ ?_⟩ <;> simp [e2, e4, e6, e7, e8, c2, c4, n26, n46, Ne.symm n26, Ne.symm n46, htk]
      · rw [if_neg (by omega)] at hcm
        rw [hcm] at heq
        exact tail _ E h q heq hq hhb hh hql (by simp [e2]) (by simp [e4]) (by simp [e6]) (by simp [e7]) (by simp [e8]) (by simp [e9]) c2 c4 c6
    · have hm1 : m = 1 := by omega
      subst hm1
      rw [climb_one (by omega)] at heq
      simp -implicitDefEqProofs [q_tree_Climb_L13, q_tree_Climb_4, q_tree_Climb_13, e2, e4, e6, e7, e8, e9, c2, c4, c6, n24, n26, n46, hh]
      refine (w_tree_crown (by omega) hhb hh).call (.cons (.refl _) rfl (.cons (.refl _) rfl .nil)) rfl ?_
      have h32 := dig_length (rotT n h)
      have hA : clmA a n p b = dig (rotT n h) := by unfold clmA; rw [hI, ← heq]; simp
      have hB : clmB a n p b = decide (q = []) := by unfold clmB; rw [hI, ← heq]
      simp -implicitDefEqProofs [e2, e4, e6, e7, e8, e9, c2, c4, c6, n24, n26, n46, h32, hA, hB, adV, outOf]
end
end Go.Proofs.Ytfdckjliinpjiaa

/- The walks of the tree's Verify, Depth, All. -/
namespace Go.Proofs.Ytfdckjliinpjiaa
open Go AVL
attribute [-simp] AV.isAgg aappI aapp alen shp good comps szOK aslc List.reduceReplicate
set_option linter.unusedVariables false
set_option linter.unusedSimpArgs false
set_option maxRecDepth 20000

section
variable {A B C D : Heap} {K Kp : AV → Heap → Prop} {P : Program}
theorem clmA_len (a n : Int) (p : List (List Nat)) (b : List Nat) : (clmA a n p b).length = 32 := by
  unfold clmA
  split
  · exact dig_length _
  · rfl
theorem clmA_bytes (a n : Int) (p : List (List Nat)) (b : List Nat) : Bytes (clmA a n p b) := by
  unfold clmA
  split
  · exact dig_bytes _
  · intro x hx; simp [zeroA] at hx; omega
theorem ints_inj {a b : List Nat} : ints a = ints b ↔ a = b := by
  constructor
  · intro h
    have := congrArg (List.map Int.toNat) h
    simpa [ints, List.map_map, Function.comp_def] using this
  · rintro rfl; rfl
theorem eqI_ints {a b : List Nat} (ha : a.length = 32) (hb : b.length = 32) : eqI 32 (ints a) (ints b) = decide (a = b) := by
  rw [eqI_iff (by simpa using ha) (by simpa using hb)]
  exact decide_eq_decide.2 ints_inj
theorem w_tree_Verify {r : List Nat} {a n : Int} {p : List (List Nat)} {b : List Nat} (hr : r.length = 32) (ha : -2 ^ 63 ≤ a ∧ a < 2 ^ 63) (hn : -2 ^ 63 ≤ n ∧ n < 2 ^ 63) (hp : AdL p) (hpl : p.length ≤ 100000) (hb : Bytes b) (hbl : b.length ≤ 90000) :
    Gives Try.prog F_tree_Verify [adV r, prf a n (.dsl 32 (ads p)), .isl .u8 (ints b)] (.bool (clmB a n p b && decide (clmA a n p b = r))) := by
  refine v_tree_Verify (by simp) ?_
  simp -implicitDefEqProofs [a_tree_Verify, q_tree_Verify_0, q_tree_Verify_1, adV, prf, hr]
  intro g3 g4 n4 n4'
  refine (w_tree_Climb ha hn hp hpl hb hbl).call (.cons (.refl _) rfl (.cons (.refl _) rfl .nil)) rfl ?_
  have h32 := clmA_len a n p b
  simp -implicitDefEqProofs [adV, h32]
  intro g7 a1 a2 a3 a4
  cases hB : clmB a n p b with
  | false => simp -implicitDefEqProofs [q_tree_Verify_2, hB, outOf]
  | true =>
    simp -implicitDefEqProofs [q_tree_Verify_2, hB, n4, n4', a1, a2, a3, a4, hr, h32, eqI_ints h32 hr, outOf]
theorem dep_bound : ∀ (k n : Nat), n ≤ 2 ^ k → dep n ≤ k
  | 0, n, h => by rw [dep_one (by simpa using h)]; omega
  | k + 1, n, h => by
    by_cases h2 : 2 ≤ n
    · rw [dep_more h2]
      have := dep_bound k ((n + 1) / 2) (by rw [Nat.pow_succ] at h; omega)
      omega
    · rw [dep_one (by omega)]; omega
theorem w_tree_Depth {n : Int} (h1 : -2 ^ 63 ≤ n) (h2 : n ≤ 2 ^ 40) : Gives Try.prog F_tree_Depth [.int .i64 n] (.int .i64 (dep n.toNat)) := by
  refine v_tree_Depth (by simp) ?_
  simp -implicitDefEqProofs [a_tree_Depth, q_tree_Depth_0, q_tree_Depth_1, q_tree_Depth_2]
  have hb := dep_bound 40 n.toNat (by omega)
  refine X_lp (fun (S : Nat × Int) env E => S.1 + dep S.2.toNat = dep n.toNat ∧ -2 ^ 63 ≤ S.2 ∧ S.2 ≤ 2 ^ 40 ∧ env 0 = .int .i64 S.2 ∧ env 3 = .int .i64 S.1 ∧ env 4 = .int .i64 S.1) (fun S => S.2.toNat) (0, n) ⟨by simp, h1, h2, by simp, by simp, by simp⟩ ?_
  rintro ⟨d, m⟩ env E ⟨hd, hm1, hm2, e0, e3, e4⟩
  simp only at hd hm1 hm2 e0 e3 e4
  have hd64 : (d : Int) < 64 := by omega
  have hd64' : d < 64 := by omega
  by_cases hm : m ≤ 1
  · rw [dep_one (n := m.toNat) (by omega)] at hd
    simp -implicitDefEqProofs [q_tree_Depth_L7, q_tree_Depth_3, q_tree_Depth_4, q_tree_Depth_7, e0, e3, e4, hd64, hd64', hm, outOf]
    omega
  · have w1 : IntKind.i64.wrap (m - 1) = m - 1 := wrap_i64 (by omega)
    have hdv : (m - 1).tdiv 2 = (m - 1) / 2 := Int.tdiv_eq_ediv_of_nonneg (by omega)
    have w2 : IntKind.i64.wrap ((m - 1) / 2) = (m - 1) / 2 := wrap_i64 (by omega)
    have w3 : IntKind.i64.wrap ((m - 1) / 2 + 1) = (m - 1) / 2 + 1 := wrap_i64 (by omega)
    have w4 : IntKind.i64.wrap ((d : Int) + 1) = (d : Int) + 1 := wrap_i64 (by omega)
    have hdm := dep_more (n := m.toNat) (by omega)
    have hmn : ((m - 1) / 2 + 1).toNat = (m.toNat + 1) / 2 := by omega
    simp -implicitDefEqProofs [q_tree_Depth_L7, q_tree_Depth_3, q_tree_Depth_4, q_tree_Depth_5, q_tree_Depth_6, e0, e3, e4, hd64, hd64', hm, w1, hdv, w2, w3, w4]
    exact lp_next (d + 1, (m - 1) / 2 + 1) ⟨by simp only; rw [hmn]; omega, by simp only; omega, by simp only; omega, by simp, by simp, by simp⟩ (by simp only; omega)
theorem SlR_join {e : TypeId} {sz : Nat} {v : AV} {m : List AV} (h : SlR e sz v m H0 B) (hn : AV.noFs m = true) (hs : A.Sub C) (hj : ∀ g c, B g = some c → c.noF = true → A g = none ∧ C g = some c) : SlR e sz v m A C :=
  ⟨hs, h.own.imp id fun ⟨g, h1, _, h3⟩ => ⟨g, h1, hj g _ h3 hn⟩⟩
theorem Prove_call {L : List (List Nat)} (hL : Ths L) (hl : L.length < 2 ^ 40) {x : AV} (hx : Vw A x (.dsl 1 (txts L))) (hxa : x.isAgg = false) {at' : Int} (ha1 : -2 ^ 63 ≤ at') (ha2 : at' < 2 ^ 63) (hk : ∀ p C, SlR T_32_uint8 32 p (ads (prvP L at')) A C → K (.tuple [prf (prvA L at') (prvO L at') p, .int .i64 (prvC L at')]) C) :
    SimX Try.prog F_tree_Prove [x, .int .i64 at'] A (outK K Kp) := by
  refine SimX.alone (sim_Prove hL hl ha1 ha2 (K := fun v C => ∃ p, v = .tuple [prf (prvA L at') (prvO L at') p, .int .i64 (prvC L at')] ∧ SlR T_32_uint8 32 p (ads (prvP L at')) H0 C) (Kp := fun _ _ => False) fun p C h => ⟨p, rfl, h⟩) (.cons hx hxa (.cons (.refl _) rfl .nil)) ?_ ?_
  · intro o B ho
    cases o with
    | ret v =>
      obtain ⟨p, rfl, hp⟩ := ho
      rcases hp.own with ⟨rfl, _⟩ | ⟨g, rfl, _⟩ <;> rfl
    | pan v => exact ho.elim
  · intro o B C ho hs hj
    cases o with
    | ret v =>
      obtain ⟨p, rfl, hp⟩ := ho
      exact hk p C (SlR_join hp (ads_noF _) hs hj)
    | pan v => exact ho.elim
/-- Proofs of all things. -/
def PrfAt (L : List (List Nat)) (C : Heap) (v : AV) (i : Nat) : Prop := ∃ p, v = prf i L.length p ∧ RowAt T_32_uint8 32 p (ads (pathU (lvs 0 L) i)) C
theorem PrfAt.mono {L : List (List Nat)} {v : AV} {i : Nat} (h : PrfAt L B v i) (hs : B.Sub C) : PrfAt L C v i := by
  obtain ⟨p, h1, h2⟩ := h; exact ⟨p, h1, h2.keep fun x l hx => hs _ _ hx⟩
theorem PrfAt.st {L : List (List Nat)} {v : AV} {i : Nat} (h : PrfAt L B v i) : v.st = true := by
  obtain ⟨p, rfl, h2⟩ := h
  rcases h2 with ⟨rfl, _⟩ | ⟨g, rfl, _⟩ <;> rfl
theorem sim_All {L : List (List Nat)} (hL : Ths L) (hl : chkL L.length = 0) (hk : ∀ r vs C, RowAt 82 3 r vs C → All2 (PrfAt L C) vs (List.range L.length) → K (.tuple [r, .int .i64 0]) C) :
    SimX Try.prog F_tree_All [.dsl 1 (txts L)] H0 (outK K Kp) := by
  obtain ⟨hl1, hl2⟩ := chkL_zero hl
  refine j_tree_All (by simp) ?_
  simp -implicitDefEqProofs [a_tree_All, q_tree_All_0, q_tree_All_1, q_tree_All_2]
  refine X_lp (fun (k : Nat) env E => k ≤ L.length ∧ env 0 = .dsl 1 (txts L) ∧ env 9 = .int .i64 L.length ∧ env 10 = .int .i64 k ∧ ∃ vs X, SlR 82 3 (env 4) vs X E ∧ All2 (PrfAt L X) vs (List.range k)) (fun k => L.length - k) 0
    ⟨by omega, by simp, by simp, by simp, [], H0, by simpa using SlR.nil (Sub_refl H0), by simp [All2]⟩ ?_
  rintro k env E ⟨hk', e0, e9, e10, vs, X, hv, hall⟩
  obtain ⟨v, e4⟩ : ∃ v, env 4 = v := ⟨_, rfl⟩
  rw [e4] at hv
  have hs := hv.scl
  by_cases hkl : k < L.length
  · have hkl' : (k : Int) < L.length := by omega
    have wk : IntKind.i64.wrap ((k : Int) + 1) = (k : Int) + 1 := wrap_i64 (by omega)
    have hC : prvC L (k : Int) = 0 := by unfold prvC; rw [if_neg (by simp [hl]), if_neg (by omega)]
    have hA : prvA L (k : Int) = k := by unfold prvA; rw [if_pos hC]
    have hO : prvO L (k : Int) = L.length := by unfold prvO; rw [if_pos hC]
    have hP : prvP L (k : Int) = pathU (lvs 0 L) k := by unfold prvP; rw [if_pos hC]; rfl
    simp -implicitDefEqProofs [q_tree_All_L10, q_tree_All_3, q_tree_All_4, q_tree_All_5, e0, e4, e9, e10, hkl, hkl']
    refine Prove_call hL (by omega) (.refl _) rfl (by omega) (by omega) fun p C hp => ?_
    rw [hA, hO, hC]
    rw [hP] at hp
    have hps := hp.scl
    simp -implicitDefEqProofs [prf, hps.size, hps.shp, hps.agg, hps.good, hps.comps, hps.st]
    intro g6 h6
    have hvC := (hv.mono hp.sub).mono (sub_none (c := .var 82 [.int .i64 (k : Int), .int .i64 (L.length : Int), p]) h6)
    simp -implicitDefEqProofs [q_tree_All_6, q_tree_All_8, e4, hs.size, hs.shp, hs.agg, hs.good, hs.comps, hs.st, hps.size, hps.shp, hps.agg, hps.good, hps.comps, hps.st]
    intro g24 m24 m24' h24
    obtain ⟨X', q1, q2, q3, q4, q5⟩ := hvC.top
    refine q3.appS (ys := [prf k L.length p]) (sub_none (by simp [m24, m24', h24])) (src_row set_eq' rfl) (by simp [prf, AV.sts, AV.st, hps.st]) (by have := hall.len; simp at this; simp; omega) fun g' n' C2 hn' hv2 => ?_
    have hp' : RowAt T_32_uint8 32 p (ads (pathU (lvs 0 L) k)) X' := by
      refine hp.own.imp id fun ⟨x, h1, h2, h3⟩ => ⟨x, h1, ?_⟩
      have h3' := sub_none (c := .var 82 [.int .i64 (k : Int), .int .i64 (L.length : Int), p]) h6 _ _ h3
      exact q4 _ _ h3' (hvC.ne h3' (by intro l; simp))
    have hall2 : All2 (PrfAt L X') (vs ++ [prf k L.length p]) (List.range (k + 1)) := by
      rw [List.range_succ]
      exact (hall.imp fun v i h => h.mono q1).app ⟨⟨p, rfl, hp'⟩, trivial⟩
    simp -implicitDefEqProofs [q_tree_All_9, e10, wk]
    exact lp_next (k + 1) ⟨by omega, by simp [e0], by simp [e9], by simp, _, X', by simpa using hv2, hall2⟩ (by omega)
  · have hke : k = L.length := by omega
    subst hke
    have hn : ¬ ((L.length : Int) < L.length) := by omega
    simp -implicitDefEqProofs [q_tree_All_L10, q_tree_All_3, q_tree_All_10, e0, e4, e9, e10, hn, hs.size, hs.shp, hs.agg, hs.good, hs.comps, hs.st]
    refine (w_tree_Check (L := L) (by omega)).call (.cons (.refl _) rfl .nil) rfl ?_
    rw [hl]
    simp -implicitDefEqProofs [outOf, hs.size, hs.shp, hs.agg, hs.good, hs.comps, hs.st]
    exact hk v vs E hv.rowAt (hall.imp fun v i h => h.mono hv.sub)
end
end Go.Proofs.Ytfdckjliinpjiaa

/- The walks of the chapter's tree. -/
namespace Go.Proofs.Ytfdckjliinpjiaa
open Go AVL
attribute [-simp] AV.isAgg aappI aapp alen shp good comps szOK aslc List.reduceReplicate
set_option linter.unusedVariables false
set_option linter.unusedSimpArgs false
set_option maxRecDepth 20000

section
variable {A B C D : Heap} {K Kp : AV → Heap → Prop} {P : Program}
theorem txts_take' (L : List (List Nat)) (i : Nat) : (txts L).take i = txts (L.take i) := by simp [txts, List.map_take]
theorem txts_drop' (L : List (List Nat)) (i : Nat) : (txts L).drop i = txts (L.drop i) := by simp [txts, List.map_drop]
theorem Ths.take {L : List (List Nat)} (h : Ths L) (k : Nat) : Ths (L.take k) := fun b hb => h b (List.mem_of_mem_take hb)
theorem Ths.drop {L : List (List Nat)} (h : Ths L) (k : Nat) : Ths (L.drop k) := fun b hb => h b (List.mem_of_mem_drop hb)
theorem rotT_bytes {n : Nat} {a : List Nat} (h : Bytes a) : Bytes (rotT n a) := bytes_app (bytes_app wordW_bytes.2.1 (le_bytes 4 n)) h
theorem lefT_bytes {n : Nat} {a : List Nat} (h : Bytes a) : Bytes (lefT n a) := bytes_app (bytes_app wordW_bytes.2.2 (le_bytes 4 n)) h
theorem nodT_bytes {a b : List Nat} (h : Bytes a) (k : Bytes b) : Bytes (nodT a b) := bytes_app (bytes_app wordW_bytes.1 h) k
theorem w_ref31_top : ∀ (n : Nat) (L : List (List Nat)) (i : Nat), L.length = n → 1 ≤ n → n ≤ 1024 → i + n ≤ 4000 → Ths L → Gives Try.prog F_ref31_top [.dsl 1 (txts L), .int .i64 i] (.iarr .u8 32 (ints (topD (lvs i L)))) := by
  intro n
  induction n using Nat.strongRecOn with
  | ind n ih =>
  intro L i hn h1 h2 hi hL
  refine v_ref31_top (by simp) ?_
  simp -implicitDefEqProofs [a_ref31_top, q_ref31_top_0, q_ref31_top_1]
  intro g4
  by_cases hone : n = 1
  · obtain ⟨b, rfl⟩ := one_of (hn.trans hone)
    have hb := hL b (by simp)
    have ht : topD (lvs i [b]) = dig (lefT i b) := by simp [lvs, topD_one]
    have ea : txts [b] = [.isl .u8 (ints b)] := rfl
    simp -implicitDefEqProofs [q_ref31_top_2, ea]
    refine sim_LeafText (by omega) hb.2 (.isl b) fun v C hv => ?_
    have hs := hv.scl
    have c4 := hv.sub g4 _ set_eq'
    have h32 := dig_length (lefT i b)
    simp -implicitDefEqProofs [hs.agg, hs.shp, hs.size, hs.good, hs.comps, hs.st]
    refine (w_ref03_Sum (lefT_bytes hb.1) (by have := hb.2; simp [lefT, lefW]; omega)).call (.cons hv.vw hs.agg .nil) rfl ?_
    simp -implicitDefEqProofs [c4, h32, ht, outOf]
  · have hlen : ¬ (L.length : Int) = 1 := by omega
    have hlen' : ¬ L.length = 1 := by omega
    have hw1 := wid_pos L.length
    have hw2 := wid_lt (n := L.length) (by omega)
    simp -implicitDefEqProofs [q_ref31_top_3, hlen, hlen']
    refine (w_width (n := L.length) (by omega) (by omega)).call (.cons (.refl _) rfl .nil) rfl ?_
    obtain ⟨k, hk⟩ : ∃ k, wid L.length = k := ⟨_, rfl⟩
    rw [hk] at hw1 hw2 ⊢
    have wik : IntKind.i64.wrap ((i : Int) + k) = (i : Int) + k := wrap_i64 (by omega)
    have k0 : (0 : Int) ≤ k := by omega
    have kl : (k : Int) ≤ L.length := by omega
    have kl' : k ≤ L.length := by omega
    simp -implicitDefEqProofs [q_ref31_top_4, wik, aslc, szOK, k0, kl, kl', txts_take', txts_drop']
    refine (ih k (by omega) (L.take k) i (by simp; omega) (by omega) (by omega) (by omega) (hL.take k)).call (.cons (.refl _) rfl (.cons (.refl _) rfl .nil)) rfl ?_
    have hd := ih (n - k) (by omega) (L.drop k) (i + k) (by simp; omega) (by omega) (by omega) (by omega) (hL.drop k)
    obtain ⟨b1, l1⟩ := AdL.topD k (lvs i (L.take k)) (by simp; omega) (by omega) (lvs_ok _ _)
    obtain ⟨b2, l2⟩ := AdL.topD (n - k) (lvs (i + k) (L.drop k)) (by simp; omega) (by omega) (lvs_ok _ _)
    have htop : topD (lvs i L) = nodS (topD (lvs i (L.take k))) (topD (lvs (i + k) (L.drop k))) := by
      rw [topD_more (D := lvs i L) (by simp; omega), lvs_length, hk, lvs_take, lvs_drop]
    rw [Int.natCast_add] at hd
    have htk : (L.drop k).take (L.length - k) = L.drop k := List.take_of_length_le (by simp)
    simp -implicitDefEqProofs [txts_take', txts_drop', htk, l1]
    refine hd.call (.cons (.refl _) rfl (.cons (.refl _) rfl .nil)) rfl ?_
    simp -implicitDefEqProofs [l1, l2]
    refine sim_NodeText l1 l2 fun v C hv => ?_
    have hs := hv.scl
    have c4 := hv.sub g4 _ set_eq'
    have h32 := dig_length (nodT (topD (lvs i (L.take k))) (topD (lvs (i + k) (L.drop k))))
    simp -implicitDefEqProofs [hs.agg, hs.shp, hs.size, hs.good, hs.comps, hs.st]
    refine (w_ref03_Sum (nodT_bytes b1 b2) (by simp [nodT, l1, l2])).call (.cons hv.vw hs.agg .nil) rfl ?_
    simp -implicitDefEqProofs [c4, h32, htop, nodS, outOf]
end
end Go.Proofs.Ytfdckjliinpjiaa

/- The walks of the chapter's ways, sums and rows. -/
namespace Go.Proofs.Ytfdckjliinpjiaa
open Go AVL
attribute [-simp] AV.isAgg aappI aapp alen shp good comps szOK aslc List.reduceReplicate
set_option linter.unusedVariables false
set_option linter.unusedSimpArgs false
set_option maxRecDepth 20000

section
variable {A B C D : Heap} {K Kp : AV → Heap → Prop} {P : Program}
theorem pathD_len {M : List (List Nat)} {i : Nat} (h1 : M.length ≤ 1024) (hi : i < M.length) : (pathD M i).length ≤ 10 := by
  rw [← path_eq M.length M i rfl hi]
  exact Nat.le_trans (pathU_length M.length M i rfl) (dep_bound 10 _ (by omega))
theorem w_ref31_path : ∀ (n : Nat) (L : List (List Nat)) (i a : Nat), L.length = n → a < n → n ≤ 1024 → i + n ≤ 4000 → Ths L → MakesR Try.prog F_ref31_path [.dsl 1 (txts L), .int .i64 i, .int .i64 a] T_32_uint8 32 (ads (pathD (lvs i L) a)) := by
  intro n
  induction n using Nat.strongRecOn with
  | ind n ih =>
  intro L i a hn ha h2 hi hL
  refine MakesR.of (j_ref31_path (by simp) ?_)
  simp -implicitDefEqProofs [a_ref31_path, q_ref31_path_0, q_ref31_path_1]
  by_cases hone : n = 1
  · obtain ⟨b, rfl⟩ := one_of (hn.trans hone)
    have ht : pathD (lvs i [b]) a = [] := pathD_one (by simp)
    have ea : txts [b] = [.isl .u8 (ints b)] := rfl
    simp -implicitDefEqProofs [q_ref31_path_2, ea, ht, ads, outOf]
    exact SlR.nil (Sub_refl _)
  · have hlen : ¬ (L.length : Int) = 1 := by omega
    have hlen' : ¬ L.length = 1 := by omega
    have hw1 := wid_pos L.length
    have hw2 := wid_lt (n := L.length) (by omega)
    simp -implicitDefEqProofs [q_ref31_path_3, hlen, hlen']
    refine (w_width (n := L.length) (by omega) (by omega)).call (.cons (.refl _) rfl .nil) rfl ?_
    have hpm := pathD_more (i := a) (show 2 ≤ (lvs i L).length by simp; omega)
    rw [lvs_length] at hpm
    obtain ⟨k, hk⟩ : ∃ k, wid L.length = k := ⟨_, rfl⟩
    rw [hk] at hw1 hw2 hpm ⊢
    have wik : IntKind.i64.wrap ((i : Int) + k) = (i : Int) + k := wrap_i64 (by omega)
    have k0 : (0 : Int) ≤ k := by omega
    have kl : (k : Int) ≤ L.length := by omega
    have kl' : k ≤ L.length := by omega
    have htk : (L.drop k).take (L.length - k) = L.drop k := List.take_of_length_le (by simp)
    rw [← lvs_take, ← lvs_drop] at hpm
    obtain ⟨b1, l1⟩ := AdL.topD k (lvs i (L.take k)) (by simp; omega) (by omega) (lvs_ok _ _)
    obtain ⟨b2, l2⟩ := AdL.topD (n - k) (lvs (i + k) (L.drop k)) (by simp; omega) (by omega) (lvs_ok _ _)
    by_cases hak : a < k
    · have hak' : (a : Int) < k := by omega
      rw [if_pos hak] at hpm
      have hpl := pathD_len (M := lvs i (L.take k)) (i := a) (by simp; omega) (by simp; omega)
      simp -implicitDefEqProofs [q_ref31_path_4, q_ref31_path_5, hak, hak', wik, aslc, szOK, k0, kl, kl', txts_take', txts_drop', htk]
      refine (ih k (by omega) (L.take k) i a (by simp; omega) (by omega) (by omega) (by omega) (hL.take k)).call (.cons (.refl _) rfl (.cons (.refl _) rfl (.cons (.refl _) rfl .nil))) (ads_noF _) fun v C hv => ?_
      have hs := hv.scl
      have hd := w_ref31_top (n - k) (L.drop k) (i + k) (by simp; omega) (by omega) (by omega) (by omega) (hL.drop k)
      rw [Int.natCast_add] at hd
      simp -implicitDefEqProofs [txts_take', txts_drop', htk, l2, hs.agg, hs.shp, hs.size, hs.good, hs.comps, hs.st]
      refine hd.call (.cons (.refl _) rfl (.cons (.refl _) rfl .nil)) rfl ?_
      simp -implicitDefEqProofs [l2, hs.agg, hs.shp, hs.size, hs.good, hs.comps, hs.st]
      intro g9 h9
      refine hv.appS (ys := [adV (topD (lvs (i + k) (L.drop k)))]) (sub_none h9) (src_row set_eq' rfl) rfl (by simp; omega) fun g' n' C2 hn' hv2 => ?_
      rw [← ads_one, ← ads_app, ← hpm] at hv2
      simp -implicitDefEqProofs [outOf]
      exact hv2
    · have hak' : ¬ (a : Int) < k := by omega
      rw [if_neg hak] at hpm
      have hpl := pathD_len (M := lvs (i + k) (L.drop k)) (i := a - k) (by simp; omega) (by simp; omega)
      have wak : IntKind.i64.wrap ((a : Int) - k) = ((a - k : Nat) : Int) := by rw [wrap_i64 (by omega)]; omega
      simp -implicitDefEqProofs [q_ref31_path_4, q_ref31_path_6, hak, hak', wik, wak, aslc, szOK, k0, kl, kl', txts_take', txts_drop', htk]
      have hd := ih (n - k) (by omega) (L.drop k) (i + k) (a - k) (by simp; omega) (by omega) (by omega) (by omega) (hL.drop k)
      rw [Int.natCast_add] at hd
      refine hd.call (.cons (.refl _) rfl (.cons (.refl _) rfl (.cons (.refl _) rfl .nil))) (ads_noF _) fun v C hv => ?_
      have hs := hv.scl
      have hd := w_ref31_top k (L.take k) i (by simp; omega) (by omega) (by omega) (by omega) (hL.take k)
      simp -implicitDefEqProofs [txts_take', txts_drop', htk, l1, hs.agg, hs.shp, hs.size, hs.good, hs.comps, hs.st]
      refine hd.call (.cons (.refl _) rfl (.cons (.refl _) rfl .nil)) rfl ?_
      simp -implicitDefEqProofs [l1, hs.agg, hs.shp, hs.size, hs.good, hs.comps, hs.st]
      intro g9 h9
      refine hv.appS (ys := [adV (topD (lvs i (L.take k)))]) (sub_none h9) (src_row set_eq' rfl) rfl (by simp; omega) fun g' n' C2 hn' hv2 => ?_
      rw [← ads_one, ← ads_app, ← hpm] at hv2
      simp -implicitDefEqProofs [outOf]
      exact hv2
theorem w_ref31_Path {L : List (List Nat)} {a : Nat} (hL : Ths L) (ha : a < L.length) (hl : L.length ≤ 1024) : MakesR Try.prog F_ref31_Path [.dsl 1 (txts L), .int .i64 a] T_32_uint8 32 (ads (pathU (lvs 0 L) a)) := by
  refine MakesR.of (j_ref31_Path (by simp) ?_)
  simp -implicitDefEqProofs [a_ref31_Path, q_ref31_Path_0, q_ref31_Path_1]
  refine (w_ref31_path L.length L 0 a rfl ha hl (by omega) hL).call (.cons (.refl _) rfl (.cons (.refl _) rfl (.cons (.refl _) rfl .nil))) (ads_noF _) fun v C hv => ?_
  have hs := hv.scl
  simp -implicitDefEqProofs [outOf, hs.agg, hs.shp, hs.size, hs.good, hs.comps, hs.st]
  rw [path_eq L.length (lvs 0 L) a (by simp) ha]
  exact hv
theorem w_ref31_Root {L : List (List Nat)} (hL : Ths L) (hl : L.length < 2 ^ 40) : Gives Try.prog F_ref31_Root [.dsl 1 (txts L)] (.tuple [adV (rootR L), .int .i64 (chkL L.length)]) := by
  refine v_ref31_Root (by simp) ?_
  simp -implicitDefEqProofs [a_ref31_Root, q_ref31_Root_0, q_ref31_Root_1]
  intro g2
  refine (w_ref31_Check (L := L) (by omega)).call (.cons (.refl _) rfl .nil) rfl ?_
  by_cases hc : chkL L.length = 0
  · have hr : rootR L = dig (rotT L.length (topD (lvs 0 L))) := by unfold rootR; rw [if_pos hc]
    obtain ⟨hl1, hl2⟩ := chkL_zero hc
    obtain ⟨b1, l1⟩ := AdL.topD L.length (lvs 0 L) (by simp) hl1 (lvs_ok _ _)
    simp -implicitDefEqProofs [q_ref31_Root_2, q_ref31_Root_4, hc]
    refine (w_ref31_top L.length L 0 rfl hl1 hl2 (by omega) hL).call (.cons (.refl _) rfl (.cons (.refl _) rfl .nil)) rfl ?_
    simp -implicitDefEqProofs [l1]
    refine sim_RootText (by omega) l1 fun v C hv => ?_
    have hs := hv.scl
    have c2 := hv.sub g2 _ set_eq'
    have h32 := dig_length (rotT L.length (topD (lvs 0 L)))
    simp -implicitDefEqProofs [hs.agg, hs.shp, hs.size, hs.good, hs.comps, hs.st]
    refine (w_ref03_Sum (rotT_bytes b1) (by simp [rotT, rotW, l1])).call (.cons hv.vw hs.agg .nil) rfl ?_
    simp -implicitDefEqProofs [c2, h32, hr, adV, outOf]
  · have hr : rootR L = zeroA := by unfold rootR; rw [if_neg hc]
    simp -implicitDefEqProofs [q_ref31_Root_2, q_ref31_Root_3, hc, hr, adV, zeroA_ints, outOf]
def RowI (n : Int) (d : Nat) (env : AEnv) (E : Heap) : Prop := (d = 0 ∨ 2 ^ (d - 1) < n.toNat) ∧ d ≤ 40 ∧ env 0 = .int .i64 n ∧ env 3 = .int .i64 d ∧ ∃ k : Nat, env 4 = .int .i64 k ∧ k = 2 ^ d
def SamI (a b : List (List Nat)) (k : Nat) (env : AEnv) (E : Heap) : Prop := k ≤ a.length ∧ a.take k = b.take k ∧ env 0 = .dsl 32 (ads a) ∧ env 1 = .dsl 32 (ads b) ∧ env 5 = .int .i64 k
theorem w_ref31_Rows {n : Int} (h1 : -2 ^ 63 ≤ n) (h2 : n ≤ 2 ^ 40) : Gives Try.prog F_ref31_Rows [.int .i64 n] (.int .i64 (dep n.toNat)) := by
  refine v_ref31_Rows (by simp) ?_
  simp -implicitDefEqProofs [a_ref31_Rows, q_ref31_Rows_0, q_ref31_Rows_1, q_ref31_Rows_2]
  refine X_lp (RowI n) (fun d => 64 - d) 0 ⟨.inl rfl, by omega, by simp, by simp, 1, by simp, rfl⟩ ?_
  rintro d env E ⟨hd, hd2, e0, e3, k, e4, hk⟩
  by_cases hkn : (k : Int) < n
  · have hdlt : d < 40 := by
      rcases Nat.lt_or_ge d 40 with h | h
      · exact h
      · have : 2 ^ 40 ≤ 2 ^ d := Nat.pow_le_pow_right (by decide) h
        omega
    have hk40 : k ≤ 2 ^ 40 := by rw [hk]; exact Nat.pow_le_pow_right (by decide) hd2
    have w1 : IntKind.i64.wrap (2 * (k : Int)) = 2 * (k : Int) := wrap_i64 (by omega)
    have w2 : IntKind.i64.wrap ((d : Int) + 1) = (d : Int) + 1 := wrap_i64 (by omega)
    simp -implicitDefEqProofs [q_ref31_Rows_L6, q_ref31_Rows_3, q_ref31_Rows_4, q_ref31_Rows_5, e0, e3, e4, hkn, w1, w2]
    exact lp_next (d + 1) ⟨.inr (by rw [Nat.add_sub_cancel, ← hk]; omega), by omega, by simp [e0], by simp, 2 * k, by simp, by rw [Nat.pow_succ, ← hk]; omega⟩ (by omega)
  · have hdd := dep_uniq d n.toNat (by omega) hd
    simp -implicitDefEqProofs [q_ref31_Rows_L6, q_ref31_Rows_3, q_ref31_Rows_6, e0, e3, e4, hkn, hdd, outOf]
theorem w_ref31_Same {a b : List (List Nat)} (ha : AdL a) (hb : AdL b) (hal : a.length ≤ 10000) (hbl : b.length ≤ 10000) : Gives Try.prog F_ref31_Same [.dsl 32 (ads a), .dsl 32 (ads b)] (.bool (decide (a = b))) := by
  refine v_ref31_Same (by simp) ?_
  simp -implicitDefEqProofs [a_ref31_Same, q_ref31_Same_0, q_ref31_Same_1]
  refine ⟨fun hl => ?_, fun hl => ?_⟩
  · have hll : a.length = b.length := by omega
    simp -implicitDefEqProofs [q_ref31_Same_3]
    refine X_lp (SamI a b) (fun k => a.length - k) 0 ⟨by omega, by simp, by simp, by simp, by simp⟩ ?_
    rintro k env E ⟨hk, ht, e0, e1, e5⟩
    by_cases hka : k < a.length
    · have hka' : (k : Int) < a.length := by omega
      have hkb : k < b.length := by omega
      have hkb' : (k : Int) < b.length := by omega
      have wk : IntKind.i64.wrap ((k : Int) + 1) = (k : Int) + 1 := wrap_i64 (by omega)
      have pa : k < (ads a).length := by simpa using hka
      have pb : k < (ads b).length := by simpa using hkb
      have ga := ads_getE pa
      have gb := ads_getE pb
      have la := (ha a[k] (List.getElem_mem hka)).2
      have lb := (hb b[k] (List.getElem_mem hkb)).2
      have ha1 := take_one hka
      have hb1 := take_one hkb
      by_cases heq : a[k] = b[k]
      · have hself : eqI 32 (ints b[k]) (ints b[k]) = true := by simp [eqI]
        simp -implicitDefEqProofs [q_ref31_Same_L8, q_ref31_Same_4, q_ref31_Same_5, q_ref31_Same_7, e0, e1, e5, hka, hka', hkb, hkb', ga, gb, adV, la, lb, hself, heq, wk]
        exact lp_next (k + 1) ⟨by omega, by rw [← ha1, ← hb1, ht, heq], by simp [e0], by simp [e1], by simp⟩ (by omega)
      · have hne : ¬ a = b := by rintro rfl; exact heq rfl
        simp -implicitDefEqProofs [q_ref31_Same_L8, q_ref31_Same_4, q_ref31_Same_5, q_ref31_Same_6, e0, e1, e5, hka, hka', hkb, hkb', ga, gb, adV, la, lb, eqI_ints la lb, heq, hne, outOf]
    · have hka' : ¬ (k : Int) < a.length := by omega
      rw [List.take_of_length_le (by omega), List.take_of_length_le (by omega)] at ht
      have hd : decide (a = b) = true := by simpa using ht
      simp -implicitDefEqProofs [q_ref31_Same_L8, q_ref31_Same_4, q_ref31_Same_8, e0, e1, e5, hka, hka', hd, outOf]
  · have hne : ¬ a = b := by rintro rfl; exact hl rfl
    simp -implicitDefEqProofs [q_ref31_Same_2, hne, outOf]
end
end Go.Proofs.Ytfdckjliinpjiaa

/- The walk of the tree's law's works. -/
namespace Go.Proofs.Ytfdckjliinpjiaa
open Go AVL
attribute [-simp] AV.isAgg aappI aapp alen shp good comps szOK aslc List.reduceReplicate
set_option linter.unusedVariables false
set_option linter.unusedSimpArgs false
set_option maxRecDepth 20000

section
variable {A B C D : Heap} {K Kp : AV → Heap → Prop} {P : Program}
theorem rowAt_noF {p : AV} {m : List AV} {e : TypeId} {sz : Nat} (h : RowAt e sz p m B) : p.noF = true := by
  rcases h with ⟨rfl, _⟩ | ⟨g, rfl, _⟩ <;> rfl
theorem all2_noF {L : List (List Nat)} : ∀ {vs : List AV} {is : List Nat}, All2 (PrfAt L B) vs is → AV.noFs vs = true
  | [], [], _ => rfl
  | v :: vs, i :: is, h => by
    obtain ⟨⟨p, rfl, hp⟩, h2⟩ := h
    have := rowAt_noF hp
    have := all2_noF h2
    simp [prf, AV.noFs, AV.noF, *]
  | [], _ :: _, h => h.elim
  | _ :: _, [], h => h.elim
theorem All_call {L : List (List Nat)} (hL : Ths L) (hl : chkL L.length = 0) {x : AV} (hx : Vw A x (.dsl 1 (txts L))) (hxa : x.isAgg = false) (hk : ∀ r vs C, A.Sub C → RowAt 82 3 r vs C → All2 (PrfAt L C) vs (List.range L.length) → K (.tuple [r, .int .i64 0]) C) :
    SimX Try.prog F_tree_All [x] A (outK K Kp) := by
  refine SimX.alone (sim_All hL hl (K := fun v C => ∃ r vs, v = .tuple [r, .int .i64 0] ∧ RowAt 82 3 r vs C ∧ All2 (PrfAt L C) vs (List.range L.length)) (Kp := fun _ _ => False) fun r vs C h1 h2 => ⟨r, vs, rfl, h1, h2⟩) (.cons hx hxa .nil) ?_ ?_
  · intro o B ho
    cases o with
    | ret v =>
      obtain ⟨r, vs, rfl, hr, _⟩ := ho
      have := rowAt_noF hr
      simp [AOut.noF, AV.noF, AV.noFs, this]
    | pan v => exact ho.elim
  · intro o B C ho hs hj
    cases o with
    | ret v =>
      obtain ⟨r, vs, rfl, hr, hall⟩ := ho
      refine hk r vs C hs (hr.imp id fun ⟨g, h1, h2⟩ => ⟨g, h1, (hj g _ h2 (all2_noF hall)).2⟩) (hall.imp fun v i ⟨p, h1, h2⟩ => ⟨p, h1, h2.imp id fun ⟨g, k1, k2⟩ => ⟨g, k1, (hj g _ k2 (ads_noF _)).2⟩⟩)
    | pan v => exact ho.elim
/-! the play's own things -/
def L3 : List (List Nat) := [[97], [98], [99]]
def w3A : List Nat := dig (lefT 0 [97])
def w3B : List Nat := dig (lefT 1 [98])
def w3C : List Nat := dig (lefT 2 [99])
def w3D : List Nat := dig (lefT 2 [100])
def w3N : List Nat := nodS w3A w3B
def w3R : List Nat := dig (rotT 3 (nodS w3N w3C))
theorem w3_ne : dig (rotT 3 (nodS w3N w3D)) ≠ w3R := by decide +kernel
theorem w3_leaf : dig (lefT 0 []) ≠ dig (lefT 1 []) := by decide +kernel
theorem L3_ths : Ths L3 := by
  intro b hb
  simp only [L3, List.mem_cons, List.not_mem_nil, or_false] at hb
  rcases hb with rfl | rfl | rfl <;> exact ⟨by unfold Bytes; decide, by decide⟩
theorem L3_lvs : lvs 0 L3 = [w3A, w3B, w3C] := rfl
theorem wid_three : wid 3 = 2 := by decide
theorem L3_top : topD (lvs 0 L3) = nodS w3N w3C := by
  rw [L3_lvs, topD_more (by simp)]
  have h : wid ([w3A, w3B, w3C] : List (List Nat)).length = 2 := wid_three
  rw [h]
  simp only [List.take_succ_cons, List.take_zero, List.drop_succ_cons, List.drop_zero, topD_one]
  rw [topD_more (by simp)]
  have h : wid ([w3A, w3B] : List (List Nat)).length = 1 := wid_two
  rw [h]
  simp [topD_one, w3N]
theorem L3_root : rootR L3 = w3R := by
  unfold rootR
  rw [if_pos (by decide), L3_top]; rfl
theorem L3_path : pathU (lvs 0 L3) 2 = [w3N] := by
  rw [L3_lvs, pathU_more (by simp)]
  simp only [upL]
  rw [pathU_more (by simp), pathU_one (by simp [upL])]
  rfl
theorem climb3 (h q : List Nat) : climb 3 2 h [q] = some (nodS q h, []) := by
  rw [climb_more (by omega)]
  rw [if_neg (by decide), climb_more (by omega), if_pos (by decide)]
  simp only
  rw [if_neg (by decide), climb_one (by decide)]
theorem clm3 (b : List Nat) : clmI 2 3 [w3N] b = some (nodS w3N (dig (lefT 2 b)), []) := by
  unfold clmI
  rw [if_neg (by omega)]
  exact climb3 _ _
theorem clmA3 (b : List Nat) : clmA 2 3 [w3N] b = dig (rotT 3 (nodS w3N (dig (lefT 2 b)))) := by
  unfold clmA; rw [clm3]; rfl
theorem clmB3 (b : List Nat) : clmB 2 3 [w3N] b = true := by
  unfold clmB; rw [clm3]; rfl
theorem dep3 : dep 3 = 2 := dep_uniq 2 3 (by decide) (.inr (by decide))
end
end Go.Proofs.Ytfdckjliinpjiaa
