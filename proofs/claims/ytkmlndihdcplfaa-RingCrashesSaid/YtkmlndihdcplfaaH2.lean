/- Texts of this claim, in order: Gring Eb Ec Er Ed Ee Ef Eg Eh Ei Ej Ek El. -/
import Derived.Test.YtkmlndihdcplfaaH1
import Derived.Test.YtkmlndihdcplfaaL4
/- Abstract programs; that they are the program's. -/
namespace Go.Proofs.Ytkmlndihdcplfaa
open Go AVL
set_option linter.unusedVariables false
set_option maxRecDepth 20000

def q_ring_Put_0 : List AOper := [
  ⟨(some 4), (.alloc 23 [(.iarr .u8 256 (List.replicate 256 0))]), none⟩,
  ⟨(some 5), (.mv (.v (.int .i64 0))), none⟩]
def q_ring_Put_1 : List AOper := [
  ⟨(some 9), (.mv (.t 0)), none⟩,
  ⟨(some 10), (.bin .lss (.t 9) (.v (.int .i64 0))), none⟩,
  ⟨(some 11), (.mv (.t 10)), none⟩,
  ⟨(some 12), (.mv (.t 0)), (some (11, false))⟩,
  ⟨(some 13), (.bin .gtr (.t 12) (.v (.int .i64 1099511627776))), (some (11, false))⟩,
  ⟨(some 14), (.pick (.t 11) (.v (.bool true)) (.t 13)), none⟩,
  ⟨(some 8), (.mv (.t 14)), none⟩]
def q_ring_Put_2 : List AOper := [
  ⟨(some 15), (.build (.ia .u8 256) [(.iarr .u8 256 (List.replicate 256 0))] []), none⟩,
  ⟨none, (.store (.ia .u8 256) 256 (.t 4) (.t 15)), none⟩,
  ⟨(some 5), (.mv (.v (.int .i64 2))), none⟩]
def q_ring_Put_3 : List AOper := [
  ⟨(some 17), (.mv (.t 1)), none⟩,
  ⟨(some 18), (.len false (.t 17)), none⟩,
  ⟨(some 19), (.bin .gtr (.t 18) (.v (.int .i64 224))), none⟩,
  ⟨(some 16), (.mv (.t 19)), none⟩]
def q_ring_Put_4 : List AOper := [
  ⟨(some 20), (.build (.ia .u8 256) [(.iarr .u8 256 (List.replicate 256 0))] []), none⟩,
  ⟨none, (.store (.ia .u8 256) 256 (.t 4) (.t 20)), none⟩,
  ⟨(some 5), (.mv (.v (.int .i64 15))), none⟩]
def q_ring_Put_5 : List AOper := [
  ⟨(some 21), (.bslI 5 .u8 [(.v (.int .u8 82)), (.v (.int .u8 73)), (.v (.int .u8 78)), (.v (.int .u8 71))]), none⟩,
  ⟨(some 22), (.xx .sealB [(.t 21)]), none⟩,
  ⟨(some 23), (.mv (.t 0)), none⟩,
  ⟨(some 24), (.conv .u64 (.t 23)), none⟩,
  ⟨(some 25), (.call F_word_Put [(.sc, (.t 24)), (.sc, (.v (.int .i64 8)))]), none⟩,
  ⟨(some 26), (.appI 5 .u8 1 (.t 22) (.t 25)), none⟩,
  ⟨(some 6), (.mv (.t 26)), none⟩]
def q_ring_Put_6 : List AOper := [
  ⟨(some 27), (.mv (.t 6)), none⟩,
  ⟨(some 28), (.mv (.t 1)), none⟩,
  ⟨(some 29), (.len false (.t 28)), none⟩,
  ⟨(some 30), (.conv .u8 (.t 29)), none⟩,
  ⟨(some 31), (.bslI 5 .u8 [(.t 30)]), none⟩,
  ⟨(some 32), (.appI 5 .u8 1 (.t 27) (.t 31)), none⟩,
  ⟨(some 6), (.mv (.t 32)), none⟩]
def q_ring_Put_7 : List AOper := [
  ⟨(some 33), (.mv (.t 6)), none⟩,
  ⟨(some 34), (.mv (.t 1)), none⟩,
  ⟨(some 35), (.appI 5 .u8 1 (.t 33) (.t 34)), none⟩,
  ⟨(some 36), (.call F_word_Whole [(.sc, (.t 35))]), none⟩,
  ⟨(some 7), (.alloc 23 [(.iarr .u8 256 (List.replicate 256 0))]), none⟩,
  ⟨none, (.store (.ia .u8 256) 256 (.t 7) (.t 36)), none⟩]
def q_ring_Put_8 : List AOper := [
  ⟨(some 37), (.slcA 256 (.t 7) none (some (.v (.int .i64 252)))), none⟩,
  ⟨(some 38), (.call F_crc_Sealed [(.sc, (.t 37))]), none⟩,
  ⟨(some 39), (.call F_word_Whole [(.sc, (.t 38))]), none⟩,
  ⟨none, (.store (.ia .u8 256) 256 (.t 4) (.t 39)), none⟩,
  ⟨(some 5), (.mv (.v (.int .i64 0))), none⟩]
def a_ring_Put : AFunc := ⟨[(.cell 4 (.ia .u8 256) 256), (.tmp 5)], (.seq (.region q_ring_Put_0) (.seq (.block 0 (.seq (.region q_ring_Put_1) (.cond (.t 8) (.seq (.region q_ring_Put_2) .ret) (.seq (.region q_ring_Put_3) (.cond (.t 16) (.seq (.region q_ring_Put_4) .ret) .skip))))) (.seq (.region q_ring_Put_5) (.seq (.region q_ring_Put_6) (.seq (.region q_ring_Put_7) (.seq (.region q_ring_Put_8) .ret))))))⟩

def q_ring_Get_0 : List AOper := [
  ⟨(some 1), (.box 23 (.ia .u8 256) (.t 0)), none⟩,
  ⟨(some 2), (.mv (.v (.int .i64 0))), none⟩,
  ⟨(some 3), (.mv (.v .nilS)), none⟩,
  ⟨(some 4), (.mv (.v (.bool false))), none⟩]
def q_ring_Get_1 : List AOper := [
  ⟨(some 10), (.slcA 256 (.t 1) none none), none⟩,
  ⟨(some 11), (.call F_crc_Holds [(.sc, (.t 10))]), none⟩,
  ⟨(some 12), (.un .not (.t 11)), none⟩]
def q_ring_Get_2 : List AOper := [
  ⟨(some 2), (.mv (.v (.int .i64 0))), none⟩,
  ⟨(some 3), (.mv (.v .nilS)), none⟩,
  ⟨(some 4), (.mv (.v (.bool false))), none⟩]
def q_ring_Get_3 : List AOper := [
  ⟨(some 13), (.slcA 256 (.t 1) none (some (.v (.int .i64 252)))), none⟩,
  ⟨(some 14), (.call F_word_From [(.sc, (.t 13))]), none⟩,
  ⟨(some 5), (.mv (.t 14)), none⟩]
def q_ring_Get_4 : List DOp := [
  ⟨⟨(some 15), (.mv (.t 5)), none⟩, true, false, none, []⟩,
  ⟨⟨(some 18), (.mv (.t 5)), none⟩, true, false, none, []⟩,
  ⟨⟨(some 20), (.mv (.t 5)), none⟩, true, false, none, []⟩,
  ⟨⟨(some 16), (.call F_Pword_Cursor_Bytes [(.sc, (.t 15)), (.sc, (.v (.int .i64 4)))]), none⟩, false, false, none, []⟩,
  ⟨⟨(some 17), (.xx .bstr [(.t 16)]), none⟩, true, false, none, []⟩,
  ⟨⟨(some 19), (.call F_Pword_Cursor_Num [(.sc, (.t 18)), (.sc, (.v (.int .i64 8)))]), none⟩, false, true, (some [16]), []⟩,
  ⟨⟨(some 21), (.call F_Pword_Cursor_Num [(.sc, (.t 20)), (.sc, (.v (.int .i64 1)))]), none⟩, false, true, (some [16]), []⟩,
  ⟨⟨(some 22), (.conv .i64 (.t 21)), none⟩, true, false, none, []⟩,
  ⟨⟨(some 6), (.mv (.t 17)), none⟩, true, false, none, []⟩,
  ⟨⟨(some 7), (.mv (.t 19)), none⟩, true, false, none, []⟩,
  ⟨⟨(some 8), (.mv (.t 22)), none⟩, true, false, none, []⟩]
def q_ring_Get_5 : List AOper := [
  ⟨(some 23), (.mv (.t 6)), none⟩,
  ⟨(some 24), (.eq .scS true (.t 23) (.v (.str ⟨#[82, 73, 78, 71]⟩))), none⟩,
  ⟨(some 25), (.mv (.t 24)), none⟩,
  ⟨(some 26), (.mv (.t 7)), (some (25, false))⟩,
  ⟨(some 27), (.bin .gtr (.t 26) (.v (.int .u64 1099511627776))), (some (25, false))⟩,
  ⟨(some 28), (.pick (.t 25) (.v (.bool true)) (.t 27)), none⟩,
  ⟨(some 29), (.mv (.t 28)), none⟩,
  ⟨(some 30), (.mv (.t 8)), (some (29, false))⟩,
  ⟨(some 31), (.bin .gtr (.t 30) (.v (.int .i64 224))), (some (29, false))⟩,
  ⟨(some 32), (.pick (.t 29) (.v (.bool true)) (.t 31)), none⟩]
def q_ring_Get_6 : List AOper := [
  ⟨(some 2), (.mv (.v (.int .i64 0))), none⟩,
  ⟨(some 3), (.mv (.v .nilS)), none⟩,
  ⟨(some 4), (.mv (.v (.bool false))), none⟩]
def q_ring_Get_7 : List AOper := [
  ⟨(some 33), (.mv (.t 5)), none⟩,
  ⟨(some 34), (.mv (.t 8)), none⟩,
  ⟨(some 35), (.call F_Pword_Cursor_Bytes [(.sc, (.t 33)), (.sc, (.t 34))]), none⟩,
  ⟨(some 9), (.mv (.t 35)), none⟩]
def q_ring_Get_8 : List AOper := [
  ⟨(some 36), (.mv (.t 7)), none⟩,
  ⟨(some 37), (.conv .i64 (.t 36)), none⟩,
  ⟨(some 38), (.mv (.t 9)), none⟩,
  ⟨(some 39), (.mv (.t 5)), none⟩,
  ⟨(some 40), (.call F_Pword_Cursor_Rest [(.sc, (.t 39))]), none⟩,
  ⟨(some 2), (.mv (.t 37)), none⟩,
  ⟨(some 3), (.mv (.t 38)), none⟩,
  ⟨(some 4), (.mv (.t 40)), none⟩]
def a_ring_Get : AFunc := ⟨[(.tmp 2), (.tmp 3), (.tmp 4)], (.seq (.region q_ring_Get_0) (.seq (.seq (.region q_ring_Get_1) (.cond (.t 12) (.seq (.region q_ring_Get_2) .ret) .skip)) (.seq (.region q_ring_Get_3) (.seq (.regionD q_ring_Get_4) (.seq (.seq (.region q_ring_Get_5) (.cond (.t 32) (.seq (.region q_ring_Get_6) .ret) .skip)) (.seq (.region q_ring_Get_7) (.seq (.region q_ring_Get_8) .ret)))))))⟩

def q_ring_New_0 : List AOper := [
  ⟨(some 6), (.mv (.v .nilP)), none⟩,
  ⟨(some 7), (.mv (.v (.int .i64 0))), none⟩]
def q_ring_New_1 : List AOper := [
  ⟨(some 9), (.mv (.t 0)), none⟩,
  ⟨(some 10), (.xx (.p (.isNil .ptr false)) [(.t 9)]), none⟩,
  ⟨(some 8), (.mv (.t 10)), none⟩]
def q_ring_New_2 : List AOper := [
  ⟨(some 6), (.mv (.v .nilP)), none⟩,
  ⟨(some 7), (.mv (.v (.int .i64 1))), none⟩]
def q_ring_New_3 : List AOper := [
  ⟨(some 12), (.mv (.t 2)), none⟩,
  ⟨(some 13), (.bin .lss (.t 12) (.v (.int .i64 2))), none⟩,
  ⟨(some 14), (.mv (.t 13)), none⟩,
  ⟨(some 15), (.mv (.t 2)), (some (14, false))⟩,
  ⟨(some 16), (.bin .gtr (.t 15) (.v (.int .i64 256))), (some (14, false))⟩,
  ⟨(some 17), (.pick (.t 14) (.v (.bool true)) (.t 16)), none⟩,
  ⟨(some 18), (.mv (.t 17)), none⟩,
  ⟨(some 19), (.mv (.t 1)), (some (18, false))⟩,
  ⟨(some 20), (.bin .lss (.t 19) (.v (.int .i64 0))), (some (18, false))⟩,
  ⟨(some 21), (.pick (.t 18) (.v (.bool true)) (.t 20)), none⟩,
  ⟨(some 22), (.mv (.t 21)), none⟩,
  ⟨(some 23), (.mv (.t 1)), (some (22, false))⟩,
  ⟨(some 24), (.mv (.t 0)), (some (22, false))⟩,
  ⟨(some 25), (.call F_Pdisk_Disk_Size [(.sc, (.t 24))]), (some (22, false))⟩,
  ⟨(some 26), (.mv (.t 2)), (some (22, false))⟩,
  ⟨(some 27), (.bin .sub (.t 25) (.t 26)), (some (22, false))⟩,
  ⟨(some 28), (.bin .gtr (.t 23) (.t 27)), (some (22, false))⟩,
  ⟨(some 29), (.pick (.t 22) (.v (.bool true)) (.t 28)), none⟩,
  ⟨(some 11), (.mv (.t 29)), none⟩]
def q_ring_New_4 : List AOper := [
  ⟨(some 6), (.mv (.v .nilP)), none⟩,
  ⟨(some 7), (.mv (.v (.int .i64 2))), none⟩]
def q_ring_New_5 : List AOper := [
  ⟨(some 30), (.mv (.t 0)), none⟩,
  ⟨(some 31), (.mv (.t 1)), none⟩,
  ⟨(some 32), (.mv (.t 2)), none⟩,
  ⟨(some 33), (.build .ag [.nilP, (.int .i64 0), (.int .i64 0), (.int .i64 0), (.int .i64 0)] [(0, (1, (.t 30))), (1, (1, (.t 31))), (2, (1, (.t 32)))]), none⟩,
  ⟨(some 34), (.box 132 .ag (.t 33)), none⟩,
  ⟨(some 6), (.mv (.t 34)), none⟩,
  ⟨(some 7), (.mv (.v (.int .i64 0))), none⟩]
def a_ring_New : AFunc := ⟨[(.tmp 6), (.tmp 7)], (.seq (.region q_ring_New_0) (.seq (.block 0 (.seq (.region q_ring_New_1) (.cond (.t 8) (.seq (.region q_ring_New_2) .ret) (.seq (.region q_ring_New_3) (.cond (.t 11) (.seq (.region q_ring_New_4) .ret) .skip))))) (.seq (.region q_ring_New_5) .ret)))⟩

def q_ring_Open_0 : List AOper := [
  ⟨(some 8), (.mv (.v .nilP)), none⟩,
  ⟨(some 9), (.mv (.v (.int .i64 0))), none⟩]
def q_ring_Open_1 : List AOper := [
  ⟨(some 19), (.mv (.t 0)), none⟩,
  ⟨(some 20), (.mv (.t 1)), none⟩,
  ⟨(some 21), (.mv (.t 2)), none⟩,
  ⟨(some 22), (.call F_ring_New [(.sc, (.t 19)), (.sc, (.t 20)), (.sc, (.t 21))]), none⟩,
  ⟨(some 18), (.mv (.t 22)), none⟩,
  ⟨(some 23), (.ext 0 (.t 18)), none⟩,
  ⟨(some 24), (.ext 1 (.t 18)), none⟩,
  ⟨(some 10), (.mv (.t 23)), none⟩,
  ⟨(some 11), (.mv (.t 24)), none⟩]
def q_ring_Open_2 : List AOper := [
  ⟨(some 25), (.mv (.t 11)), none⟩,
  ⟨(some 26), (.eq .scI true (.t 25) (.v (.int .i64 0))), none⟩]
def q_ring_Open_3 : List AOper := [
  ⟨(some 27), (.mv (.t 11)), none⟩,
  ⟨(some 8), (.mv (.v .nilP)), none⟩,
  ⟨(some 9), (.mv (.t 27)), none⟩]
def q_ring_Open_4 : List AOper := [
  ⟨(some 28), (.mv (.t 3)), none⟩,
  ⟨(some 29), (.bin .lss (.t 28) (.v (.int .i64 0))), none⟩,
  ⟨(some 30), (.mv (.t 29)), none⟩,
  ⟨(some 31), (.mv (.t 3)), (some (30, false))⟩,
  ⟨(some 32), (.bin .gtr (.t 31) (.v (.int .i64 1099511627776))), (some (30, false))⟩,
  ⟨(some 33), (.pick (.t 30) (.v (.bool true)) (.t 32)), none⟩]
def q_ring_Open_5 : List AOper := [
  ⟨(some 8), (.mv (.v .nilP)), none⟩,
  ⟨(some 9), (.mv (.v (.int .i64 2))), none⟩]
def q_ring_Open_6 : List AOper := [
  ⟨(some 35), (.mv (.t 10)), none⟩,
  ⟨(some 36), (.call F_Pring_Ring_found [(.sc, (.t 35))]), none⟩,
  ⟨(some 34), (.mv (.t 36)), none⟩,
  ⟨(some 37), (.ext 0 (.t 34)), none⟩,
  ⟨(some 38), (.ext 1 (.t 34)), none⟩,
  ⟨(some 39), (.ext 2 (.t 34)), none⟩,
  ⟨(some 40), (.ext 3 (.t 34)), none⟩,
  ⟨(some 12), (.mv (.t 37)), none⟩,
  ⟨(some 13), (.mv (.t 38)), none⟩,
  ⟨(some 14), (.mv (.t 39)), none⟩,
  ⟨(some 11), (.mv (.t 40)), none⟩]
def q_ring_Open_7 : List AOper := [
  ⟨(some 41), (.mv (.t 11)), none⟩,
  ⟨(some 42), (.eq .scI true (.t 41) (.v (.int .i64 0))), none⟩]
def q_ring_Open_8 : List AOper := [
  ⟨(some 43), (.mv (.t 11)), none⟩,
  ⟨(some 8), (.mv (.v .nilP)), none⟩,
  ⟨(some 9), (.mv (.t 43)), none⟩]
def q_ring_Open_9 : List AOper := [
  ⟨(some 44), (.mv (.t 10)), none⟩,
  ⟨(some 45), (.mv (.t 10)), none⟩,
  ⟨(some 46), (.mv (.t 3)), none⟩,
  ⟨(some 47), (.mv (.t 3)), none⟩,
  ⟨(some 48), (.xx (.p .nilCk) [(.t 44)]), none⟩,
  ⟨(some 49), (.fadr 3 1 .sc (.t 48)), none⟩,
  ⟨none, (.store .sc 1 (.t 49) (.t 46)), none⟩,
  ⟨(some 50), (.xx (.p .nilCk) [(.t 45)]), none⟩,
  ⟨(some 51), (.fadr 4 1 .sc (.t 50)), none⟩,
  ⟨none, (.store .sc 1 (.t 51) (.t 47)), none⟩]
def q_ring_Open_10 : List AOper := [
  ⟨(some 52), (.mv (.t 14)), none⟩]
def q_ring_Open_11 : List AOper := [
  ⟨(some 53), (.mv (.t 10)), none⟩,
  ⟨(some 54), (.mv (.t 10)), none⟩,
  ⟨(some 55), (.mv (.t 12)), none⟩,
  ⟨(some 56), (.mv (.t 13)), none⟩,
  ⟨(some 57), (.bin .add (.t 56) (.v (.int .i64 1))), none⟩,
  ⟨(some 58), (.xx (.p .nilCk) [(.t 53)]), none⟩,
  ⟨(some 59), (.fadr 3 1 .sc (.t 58)), none⟩,
  ⟨none, (.store .sc 1 (.t 59) (.t 55)), none⟩,
  ⟨(some 60), (.xx (.p .nilCk) [(.t 54)]), none⟩,
  ⟨(some 61), (.fadr 4 1 .sc (.t 60)), none⟩,
  ⟨none, (.store .sc 1 (.t 61) (.t 57)), none⟩]
def q_ring_Open_12 : List AOper := [
  ⟨(some 62), (.mv (.t 10)), none⟩,
  ⟨(some 63), (.call F_Pring_Ring_Len [(.sc, (.t 62))]), none⟩,
  ⟨(some 64), (.mv (.t 2)), none⟩,
  ⟨(some 65), (.bin .gtr (.t 63) (.t 64)), none⟩]
def q_ring_Open_13 : List AOper := [
  ⟨(some 8), (.mv (.v .nilP)), none⟩,
  ⟨(some 9), (.mv (.v (.int .i64 5))), none⟩]
def q_ring_Open_14 : List AOper := [
  ⟨(some 66), (.mv (.t 10)), none⟩,
  ⟨(some 67), (.xx (.p .nilCk) [(.t 66)]), none⟩,
  ⟨(some 68), (.fadr 3 1 .sc (.t 67)), none⟩,
  ⟨(some 69), (.load .sc 1 (.t 68)), none⟩,
  ⟨(some 15), (.mv (.t 69)), none⟩]
def q_ring_Open_15 : List AOper := [
  ⟨(some 70), (.mv (.t 15)), none⟩,
  ⟨(some 71), (.mv (.t 10)), none⟩,
  ⟨(some 72), (.xx (.p .nilCk) [(.t 71)]), none⟩,
  ⟨(some 73), (.fadr 4 1 .sc (.t 72)), none⟩,
  ⟨(some 74), (.load .sc 1 (.t 73)), none⟩,
  ⟨(some 75), (.bin .lss (.t 70) (.t 74)), none⟩]
def q_ring_Open_16 : List AOper := [
  ⟨(some 79), (.mv (.t 10)), none⟩,
  ⟨(some 80), (.mv (.t 15)), none⟩,
  ⟨(some 81), (.call F_Pring_Ring_Read [(.sc, (.t 79)), (.sc, (.t 80))]), none⟩,
  ⟨(some 78), (.mv (.t 81)), none⟩,
  ⟨(some 82), (.ext 0 (.t 78)), none⟩,
  ⟨(some 83), (.ext 1 (.t 78)), none⟩,
  ⟨(some 16), (.mv (.t 82)), none⟩,
  ⟨(some 17), (.mv (.t 83)), none⟩]
def q_ring_Open_17 : List AOper := [
  ⟨(some 84), (.mv (.t 17)), none⟩,
  ⟨(some 85), (.eq .scI true (.t 84) (.v (.int .i64 0))), none⟩]
def q_ring_Open_18 : List AOper := [
  ⟨(some 86), (.mv (.t 17)), none⟩,
  ⟨(some 87), (.eq .scI false (.t 86) (.v (.int .i64 5))), none⟩]
def q_ring_Open_19 : List AOper := [
  ⟨(some 88), (.mv (.t 17)), none⟩,
  ⟨(some 8), (.mv (.v .nilP)), none⟩,
  ⟨(some 9), (.mv (.t 88)), none⟩]
def q_ring_Open_20 : List AOper := [
  ⟨(some 76), (.mv (.t 15)), none⟩,
  ⟨(some 77), (.bin .add (.t 76) (.v (.int .i64 1))), none⟩,
  ⟨(some 15), (.mv (.t 77)), none⟩]
def q_ring_Open_L21 : ACode := (.seq (.seq (.region q_ring_Open_15) (.cond (.t 75) .skip (.exit 0))) (.seq (.block 1 (.seq (.region q_ring_Open_16) (.seq (.region q_ring_Open_17) (.cond (.t 85) (.seq (.seq (.region q_ring_Open_18) (.cond (.t 87) (.seq (.region q_ring_Open_19) .ret) .skip)) (.exit 0)) .skip)))) (.region q_ring_Open_20)))
def q_ring_Open_21 : List AOper := [
  ⟨(some 89), (.mv (.t 10)), none⟩,
  ⟨(some 90), (.mv (.t 10)), none⟩,
  ⟨(some 91), (.call F_Pring_Ring_scrub [(.sc, (.t 90))]), none⟩,
  ⟨(some 8), (.mv (.t 89)), none⟩,
  ⟨(some 9), (.mv (.t 91)), none⟩]
def a_ring_Open : AFunc := ⟨[(.tmp 8), (.tmp 9)], (.seq (.region q_ring_Open_0) (.seq (.region q_ring_Open_1) (.seq (.seq (.region q_ring_Open_2) (.cond (.t 26) (.seq (.region q_ring_Open_3) .ret) .skip)) (.seq (.seq (.region q_ring_Open_4) (.cond (.t 33) (.seq (.region q_ring_Open_5) .ret) .skip)) (.seq (.region q_ring_Open_6) (.seq (.seq (.region q_ring_Open_7) (.cond (.t 42) (.seq (.region q_ring_Open_8) .ret) .skip)) (.seq (.seq (.region q_ring_Open_9) (.seq (.region q_ring_Open_10) (.cond (.t 52) (.region q_ring_Open_11) .skip))) (.seq (.seq (.region q_ring_Open_12) (.cond (.t 65) (.seq (.region q_ring_Open_13) .ret) .skip)) (.seq .skip (.seq (.seq (.region q_ring_Open_14) (.block 0 (.loop q_ring_Open_L21))) (.seq (.region q_ring_Open_21) .ret)))))))))))⟩

def q_Pring_Ring_Drop_0 : List AOper := [
  ⟨(some 4), (.mv (.v (.int .i64 0))), none⟩,
  ⟨(some 5), (.mv (.v (.int .i64 0))), none⟩]
def q_Pring_Ring_Drop_1 : List AOper := [
  ⟨(some 6), (.mv (.v (.int .i64 0))), none⟩]
def q_Pring_Ring_Drop_2 : List DOp := [
  ⟨⟨(some 9), (.mv (.t 0)), none⟩, true, false, none, []⟩,
  ⟨⟨(some 10), (.xx (.p .nilCk) [(.t 9)]), none⟩, true, false, none, []⟩,
  ⟨⟨(some 11), (.fadr 3 1 .sc (.t 10)), none⟩, true, false, none, []⟩,
  ⟨⟨(some 12), (.load .sc 1 (.t 11)), none⟩, true, false, none, []⟩,
  ⟨⟨(some 13), (.mv (.t 1)), none⟩, true, false, none, []⟩,
  ⟨⟨(some 14), (.mv (.t 0)), none⟩, true, false, none, []⟩,
  ⟨⟨(some 15), (.xx (.p .nilCk) [(.t 14)]), none⟩, true, false, none, []⟩,
  ⟨⟨(some 16), (.fadr 4 1 .sc (.t 15)), none⟩, true, false, none, []⟩,
  ⟨⟨(some 17), (.load .sc 1 (.t 16)), none⟩, true, false, none, []⟩,
  ⟨⟨(some 18), (.xx (.p (.mnI false)) [(.t 13), (.t 17)]), none⟩, true, false, none, []⟩,
  ⟨⟨(some 19), (.bin .lss (.t 12) (.t 18)), none⟩, true, false, none, []⟩]
def q_Pring_Ring_Drop_3 : List DOp := [
  ⟨⟨(some 20), (.mv (.t 0)), none⟩, true, false, none, []⟩,
  ⟨⟨(some 21), (.xx (.p .nilCk) [(.t 20)]), none⟩, true, false, none, []⟩,
  ⟨⟨(some 22), (.fadr 0 1 .sc (.t 21)), none⟩, true, false, none, []⟩,
  ⟨⟨(some 23), (.load .sc 1 (.t 22)), none⟩, true, false, none, []⟩,
  ⟨⟨(some 24), (.mv (.t 0)), none⟩, true, false, none, []⟩,
  ⟨⟨(some 25), (.mv (.t 0)), none⟩, true, false, none, []⟩,
  ⟨⟨(some 26), (.xx (.p .nilCk) [(.t 25)]), none⟩, true, false, none, []⟩,
  ⟨⟨(some 27), (.fadr 3 1 .sc (.t 26)), none⟩, true, false, none, []⟩,
  ⟨⟨(some 28), (.load .sc 1 (.t 27)), none⟩, true, false, none, []⟩,
  ⟨⟨(some 30), (.build (.ia .u8 256) [(.iarr .u8 256 (List.replicate 256 0))] []), none⟩, true, false, none, []⟩,
  ⟨⟨(some 29), (.call F_Pring_Ring_at [(.sc, (.t 24)), (.sc, (.t 28))]), none⟩, false, true, (some [22]), []⟩,
  ⟨⟨(some 31), (.call F_Pdisk_Disk_Write [(.sc, (.t 23)), (.sc, (.t 29)), ((.ia .u8 256), (.t 30))]), none⟩, false, false, none, []⟩,
  ⟨⟨(some 7), (.mv (.t 31)), none⟩, true, false, none, []⟩]
def q_Pring_Ring_Drop_4 : List AOper := [
  ⟨(some 32), (.mv (.t 7)), none⟩,
  ⟨(some 33), (.eq .scI true (.t 32) (.v (.int .i64 0))), none⟩]
def q_Pring_Ring_Drop_5 : List AOper := [
  ⟨(some 34), (.mv (.t 6)), none⟩,
  ⟨(some 35), (.mv (.t 7)), none⟩,
  ⟨(some 4), (.mv (.t 34)), none⟩,
  ⟨(some 5), (.mv (.t 35)), none⟩]
def q_Pring_Ring_Drop_6 : List AOper := [
  ⟨(some 36), (.mv (.t 0)), none⟩,
  ⟨(some 37), (.xx (.p .nilCk) [(.t 36)]), none⟩,
  ⟨(some 38), (.fadr 0 1 .sc (.t 37)), none⟩,
  ⟨(some 39), (.load .sc 1 (.t 38)), none⟩,
  ⟨(some 40), (.call F_Pdisk_Disk_Flush [(.sc, (.t 39))]), none⟩,
  ⟨(some 8), (.mv (.t 40)), none⟩]
def q_Pring_Ring_Drop_7 : List AOper := [
  ⟨(some 41), (.mv (.t 8)), none⟩,
  ⟨(some 42), (.eq .scI true (.t 41) (.v (.int .i64 0))), none⟩]
def q_Pring_Ring_Drop_8 : List AOper := [
  ⟨(some 43), (.mv (.t 6)), none⟩,
  ⟨(some 44), (.mv (.t 8)), none⟩,
  ⟨(some 4), (.mv (.t 43)), none⟩,
  ⟨(some 5), (.mv (.t 44)), none⟩]
def q_Pring_Ring_Drop_9 : List AOper := [
  ⟨(some 45), (.mv (.t 0)), none⟩,
  ⟨(some 46), (.xx (.p .nilCk) [(.t 45)]), none⟩,
  ⟨(some 47), (.fadr 3 1 .sc (.t 46)), none⟩,
  ⟨(some 48), (.load .sc 1 (.t 47)), none⟩,
  ⟨(some 49), (.bin .add (.t 48) (.v (.int .i64 1))), none⟩,
  ⟨(some 50), (.xx (.p .nilCk) [(.t 45)]), none⟩,
  ⟨(some 51), (.fadr 3 1 .sc (.t 50)), none⟩,
  ⟨none, (.store .sc 1 (.t 51) (.t 49)), none⟩]
def q_Pring_Ring_Drop_10 : List AOper := [
  ⟨(some 52), (.mv (.t 6)), none⟩,
  ⟨(some 53), (.bin .add (.t 52) (.v (.int .i64 1))), none⟩,
  ⟨(some 6), (.mv (.t 53)), none⟩]
def q_Pring_Ring_Drop_L11 : ACode := (.seq (.seq (.regionD q_Pring_Ring_Drop_2) (.cond (.t 19) .skip (.exit 0))) (.block 1 (.seq (.seq (.regionD q_Pring_Ring_Drop_3) (.seq (.region q_Pring_Ring_Drop_4) (.cond (.t 33) (.seq (.region q_Pring_Ring_Drop_5) .ret) .skip))) (.seq (.seq (.region q_Pring_Ring_Drop_6) (.seq (.region q_Pring_Ring_Drop_7) (.cond (.t 42) (.seq (.region q_Pring_Ring_Drop_8) .ret) .skip))) (.seq (.region q_Pring_Ring_Drop_9) (.region q_Pring_Ring_Drop_10))))))
def q_Pring_Ring_Drop_11 : List AOper := [
  ⟨(some 54), (.mv (.t 6)), none⟩,
  ⟨(some 4), (.mv (.t 54)), none⟩,
  ⟨(some 5), (.mv (.v (.int .i64 0))), none⟩]
def a_Pring_Ring_Drop : AFunc := ⟨[(.tmp 4), (.tmp 5)], (.seq (.region q_Pring_Ring_Drop_0) (.seq (.region q_Pring_Ring_Drop_1) (.seq (.block 0 (.loop q_Pring_Ring_Drop_L11)) (.seq (.region q_Pring_Ring_Drop_11) .ret))))⟩

def q_Pring_Ring_Append_0 : List AOper := [
  ⟨(some 4), (.mv (.v (.int .i64 0))), none⟩,
  ⟨(some 5), (.mv (.v (.int .i64 0))), none⟩]
def q_Pring_Ring_Append_1 : List DOp := [
  ⟨⟨(some 10), (.mv (.t 0)), none⟩, true, false, none, []⟩,
  ⟨⟨(some 12), (.mv (.t 0)), none⟩, true, false, none, []⟩,
  ⟨⟨(some 13), (.xx (.p .nilCk) [(.t 12)]), none⟩, true, false, none, []⟩,
  ⟨⟨(some 14), (.fadr 2 1 .sc (.t 13)), none⟩, true, false, none, []⟩,
  ⟨⟨(some 15), (.load .sc 1 (.t 14)), none⟩, true, false, none, []⟩,
  ⟨⟨(some 11), (.call F_Pring_Ring_Len [(.sc, (.t 10))]), none⟩, false, true, (some [14]), []⟩,
  ⟨⟨(some 16), (.bin .geq (.t 11) (.t 15)), none⟩, true, false, none, []⟩]
def q_Pring_Ring_Append_2 : List AOper := [
  ⟨(some 4), (.mv (.v (.int .i64 0))), none⟩,
  ⟨(some 5), (.mv (.v (.int .i64 6))), none⟩]
def q_Pring_Ring_Append_3 : List AOper := [
  ⟨(some 18), (.mv (.t 0)), none⟩,
  ⟨(some 19), (.xx (.p .nilCk) [(.t 18)]), none⟩,
  ⟨(some 20), (.fadr 4 1 .sc (.t 19)), none⟩,
  ⟨(some 21), (.load .sc 1 (.t 20)), none⟩,
  ⟨(some 22), (.mv (.t 1)), none⟩,
  ⟨(some 23), (.call F_ring_Put [(.sc, (.t 21)), (.sc, (.t 22))]), none⟩,
  ⟨(some 17), (.mv (.t 23)), none⟩,
  ⟨(some 24), (.ext 0 (.t 17)), none⟩,
  ⟨(some 25), (.ext 1 (.t 17)), none⟩,
  ⟨(some 6), (.alloc 23 [(.iarr .u8 256 (List.replicate 256 0))]), none⟩,
  ⟨none, (.store (.ia .u8 256) 256 (.t 6) (.t 24)), none⟩,
  ⟨(some 7), (.mv (.t 25)), none⟩]
def q_Pring_Ring_Append_4 : List AOper := [
  ⟨(some 26), (.mv (.t 7)), none⟩,
  ⟨(some 27), (.eq .scI true (.t 26) (.v (.int .i64 0))), none⟩]
def q_Pring_Ring_Append_5 : List AOper := [
  ⟨(some 28), (.mv (.t 7)), none⟩,
  ⟨(some 4), (.mv (.v (.int .i64 0))), none⟩,
  ⟨(some 5), (.mv (.t 28)), none⟩]
def q_Pring_Ring_Append_6 : List DOp := [
  ⟨⟨(some 29), (.mv (.t 0)), none⟩, true, false, none, []⟩,
  ⟨⟨(some 30), (.xx (.p .nilCk) [(.t 29)]), none⟩, true, false, none, []⟩,
  ⟨⟨(some 31), (.fadr 0 1 .sc (.t 30)), none⟩, true, false, none, []⟩,
  ⟨⟨(some 32), (.load .sc 1 (.t 31)), none⟩, true, false, none, []⟩,
  ⟨⟨(some 33), (.mv (.t 0)), none⟩, true, false, none, []⟩,
  ⟨⟨(some 34), (.mv (.t 0)), none⟩, true, false, none, []⟩,
  ⟨⟨(some 35), (.xx (.p .nilCk) [(.t 34)]), none⟩, true, false, none, []⟩,
  ⟨⟨(some 36), (.fadr 4 1 .sc (.t 35)), none⟩, true, false, none, []⟩,
  ⟨⟨(some 37), (.load .sc 1 (.t 36)), none⟩, true, false, none, []⟩,
  ⟨⟨(some 39), (.load (.ia .u8 256) 256 (.t 6)), none⟩, true, false, none, []⟩,
  ⟨⟨(some 38), (.call F_Pring_Ring_at [(.sc, (.t 33)), (.sc, (.t 37))]), none⟩, false, true, (some [6, 31]), []⟩,
  ⟨⟨(some 40), (.call F_Pdisk_Disk_Write [(.sc, (.t 32)), (.sc, (.t 38)), ((.ia .u8 256), (.t 39))]), none⟩, false, false, none, []⟩,
  ⟨⟨(some 8), (.mv (.t 40)), none⟩, true, false, none, []⟩]
def q_Pring_Ring_Append_7 : List AOper := [
  ⟨(some 41), (.mv (.t 8)), none⟩,
  ⟨(some 42), (.eq .scI true (.t 41) (.v (.int .i64 0))), none⟩]
def q_Pring_Ring_Append_8 : List AOper := [
  ⟨(some 43), (.mv (.t 8)), none⟩,
  ⟨(some 4), (.mv (.v (.int .i64 0))), none⟩,
  ⟨(some 5), (.mv (.t 43)), none⟩]
def q_Pring_Ring_Append_9 : List AOper := [
  ⟨(some 44), (.mv (.t 0)), none⟩,
  ⟨(some 45), (.xx (.p .nilCk) [(.t 44)]), none⟩,
  ⟨(some 46), (.fadr 0 1 .sc (.t 45)), none⟩,
  ⟨(some 47), (.load .sc 1 (.t 46)), none⟩,
  ⟨(some 48), (.call F_Pdisk_Disk_Flush [(.sc, (.t 47))]), none⟩,
  ⟨(some 9), (.mv (.t 48)), none⟩]
def q_Pring_Ring_Append_10 : List AOper := [
  ⟨(some 49), (.mv (.t 9)), none⟩,
  ⟨(some 50), (.eq .scI true (.t 49) (.v (.int .i64 0))), none⟩]
def q_Pring_Ring_Append_11 : List AOper := [
  ⟨(some 51), (.mv (.t 9)), none⟩,
  ⟨(some 4), (.mv (.v (.int .i64 0))), none⟩,
  ⟨(some 5), (.mv (.t 51)), none⟩]
def q_Pring_Ring_Append_12 : List AOper := [
  ⟨(some 52), (.mv (.t 0)), none⟩,
  ⟨(some 53), (.xx (.p .nilCk) [(.t 52)]), none⟩,
  ⟨(some 54), (.fadr 4 1 .sc (.t 53)), none⟩,
  ⟨(some 55), (.load .sc 1 (.t 54)), none⟩,
  ⟨(some 56), (.bin .add (.t 55) (.v (.int .i64 1))), none⟩,
  ⟨(some 57), (.xx (.p .nilCk) [(.t 52)]), none⟩,
  ⟨(some 58), (.fadr 4 1 .sc (.t 57)), none⟩,
  ⟨none, (.store .sc 1 (.t 58) (.t 56)), none⟩]
def q_Pring_Ring_Append_13 : List AOper := [
  ⟨(some 59), (.mv (.t 0)), none⟩,
  ⟨(some 60), (.xx (.p .nilCk) [(.t 59)]), none⟩,
  ⟨(some 61), (.fadr 4 1 .sc (.t 60)), none⟩,
  ⟨(some 62), (.load .sc 1 (.t 61)), none⟩,
  ⟨(some 63), (.bin .sub (.t 62) (.v (.int .i64 1))), none⟩,
  ⟨(some 4), (.mv (.t 63)), none⟩,
  ⟨(some 5), (.mv (.v (.int .i64 0))), none⟩]
def a_Pring_Ring_Append : AFunc := ⟨[(.tmp 4), (.tmp 5)], (.seq (.region q_Pring_Ring_Append_0) (.seq (.seq (.regionD q_Pring_Ring_Append_1) (.cond (.t 16) (.seq (.region q_Pring_Ring_Append_2) .ret) .skip)) (.seq (.region q_Pring_Ring_Append_3) (.seq (.seq (.region q_Pring_Ring_Append_4) (.cond (.t 27) (.seq (.region q_Pring_Ring_Append_5) .ret) .skip)) (.seq (.seq (.regionD q_Pring_Ring_Append_6) (.seq (.region q_Pring_Ring_Append_7) (.cond (.t 42) (.seq (.region q_Pring_Ring_Append_8) .ret) .skip))) (.seq (.seq (.region q_Pring_Ring_Append_9) (.seq (.region q_Pring_Ring_Append_10) (.cond (.t 50) (.seq (.region q_Pring_Ring_Append_11) .ret) .skip))) (.seq (.region q_Pring_Ring_Append_12) (.seq (.region q_Pring_Ring_Append_13) .ret))))))))⟩

def q_Pring_Ring_Next_0 : List AOper := [
  ⟨(some 2), (.mv (.v (.int .i64 0))), none⟩]
def q_Pring_Ring_Next_1 : List AOper := [
  ⟨(some 3), (.mv (.t 0)), none⟩,
  ⟨(some 4), (.xx (.p .nilCk) [(.t 3)]), none⟩,
  ⟨(some 5), (.fadr 4 1 .sc (.t 4)), none⟩,
  ⟨(some 6), (.load .sc 1 (.t 5)), none⟩,
  ⟨(some 2), (.mv (.t 6)), none⟩]
def a_Pring_Ring_Next : AFunc := ⟨[(.tmp 2)], (.seq (.region q_Pring_Ring_Next_0) (.seq (.region q_Pring_Ring_Next_1) .ret))⟩

def q_Pring_Ring_Len_0 : List AOper := [
  ⟨(some 2), (.mv (.v (.int .i64 0))), none⟩]
def q_Pring_Ring_Len_1 : List DOp := [
  ⟨⟨(some 3), (.mv (.t 0)), none⟩, true, false, none, []⟩,
  ⟨⟨(some 4), (.xx (.p .nilCk) [(.t 3)]), none⟩, true, false, none, []⟩,
  ⟨⟨(some 5), (.fadr 4 1 .sc (.t 4)), none⟩, true, false, none, []⟩,
  ⟨⟨(some 6), (.load .sc 1 (.t 5)), none⟩, true, false, none, []⟩,
  ⟨⟨(some 7), (.mv (.t 0)), none⟩, true, false, none, []⟩,
  ⟨⟨(some 8), (.xx (.p .nilCk) [(.t 7)]), none⟩, true, false, none, []⟩,
  ⟨⟨(some 9), (.fadr 3 1 .sc (.t 8)), none⟩, true, false, none, []⟩,
  ⟨⟨(some 10), (.load .sc 1 (.t 9)), none⟩, true, false, none, []⟩,
  ⟨⟨(some 11), (.bin .sub (.t 6) (.t 10)), none⟩, true, false, none, []⟩,
  ⟨⟨(some 2), (.mv (.t 11)), none⟩, true, false, none, []⟩]
def a_Pring_Ring_Len : AFunc := ⟨[(.tmp 2)], (.seq (.region q_Pring_Ring_Len_0) (.seq (.regionD q_Pring_Ring_Len_1) .ret))⟩

def q_Pring_Ring_First_0 : List AOper := [
  ⟨(some 2), (.mv (.v (.int .i64 0))), none⟩]
def q_Pring_Ring_First_1 : List AOper := [
  ⟨(some 3), (.mv (.t 0)), none⟩,
  ⟨(some 4), (.xx (.p .nilCk) [(.t 3)]), none⟩,
  ⟨(some 5), (.fadr 3 1 .sc (.t 4)), none⟩,
  ⟨(some 6), (.load .sc 1 (.t 5)), none⟩,
  ⟨(some 2), (.mv (.t 6)), none⟩]
def a_Pring_Ring_First : AFunc := ⟨[(.tmp 2)], (.seq (.region q_Pring_Ring_First_0) (.seq (.region q_Pring_Ring_First_1) .ret))⟩

def q_Pring_Ring_Read_0 : List AOper := [
  ⟨(some 4), (.mv (.v .nilS)), none⟩,
  ⟨(some 5), (.mv (.v (.int .i64 0))), none⟩]
def q_Pring_Ring_Read_1 : List AOper := [
  ⟨(some 11), (.mv (.t 1)), none⟩,
  ⟨(some 12), (.mv (.t 0)), none⟩,
  ⟨(some 13), (.xx (.p .nilCk) [(.t 12)]), none⟩,
  ⟨(some 14), (.fadr 3 1 .sc (.t 13)), none⟩,
  ⟨(some 15), (.load .sc 1 (.t 14)), none⟩,
  ⟨(some 16), (.bin .lss (.t 11) (.t 15)), none⟩,
  ⟨(some 17), (.mv (.t 16)), none⟩,
  ⟨(some 18), (.mv (.t 1)), (some (17, false))⟩,
  ⟨(some 19), (.mv (.t 0)), (some (17, false))⟩,
  ⟨(some 20), (.xx (.p .nilCk) [(.t 19)]), (some (17, false))⟩,
  ⟨(some 21), (.fadr 4 1 .sc (.t 20)), (some (17, false))⟩,
  ⟨(some 22), (.load .sc 1 (.t 21)), (some (17, false))⟩,
  ⟨(some 23), (.bin .geq (.t 18) (.t 22)), (some (17, false))⟩,
  ⟨(some 24), (.pick (.t 17) (.v (.bool true)) (.t 23)), none⟩]
def q_Pring_Ring_Read_2 : List AOper := [
  ⟨(some 4), (.mv (.v .nilS)), none⟩,
  ⟨(some 5), (.mv (.v (.int .i64 8))), none⟩]
def q_Pring_Ring_Read_3 : List DOp := [
  ⟨⟨(some 26), (.mv (.t 0)), none⟩, true, false, none, []⟩,
  ⟨⟨(some 27), (.xx (.p .nilCk) [(.t 26)]), none⟩, true, false, none, []⟩,
  ⟨⟨(some 28), (.fadr 0 1 .sc (.t 27)), none⟩, true, false, none, []⟩,
  ⟨⟨(some 29), (.load .sc 1 (.t 28)), none⟩, true, false, none, []⟩,
  ⟨⟨(some 30), (.mv (.t 0)), none⟩, true, false, none, []⟩,
  ⟨⟨(some 31), (.mv (.t 1)), none⟩, true, false, none, []⟩,
  ⟨⟨(some 32), (.call F_Pring_Ring_at [(.sc, (.t 30)), (.sc, (.t 31))]), none⟩, false, true, (some [28]), []⟩,
  ⟨⟨(some 33), (.call F_Pdisk_Disk_Read [(.sc, (.t 29)), (.sc, (.t 32))]), none⟩, false, false, none, []⟩,
  ⟨⟨(some 25), (.mv (.t 33)), none⟩, true, false, none, []⟩,
  ⟨⟨(some 34), (.ext 0 (.t 25)), none⟩, true, false, none, []⟩,
  ⟨⟨(some 35), (.ext 1 (.t 25)), none⟩, true, false, none, []⟩,
  ⟨⟨(some 6), (.alloc 23 [(.iarr .u8 256 (List.replicate 256 0))]), none⟩, false, false, none, []⟩,
  ⟨⟨none, (.store (.ia .u8 256) 256 (.t 6) (.t 34)), none⟩, false, false, none, []⟩,
  ⟨⟨(some 7), (.mv (.t 35)), none⟩, true, false, none, []⟩]
def q_Pring_Ring_Read_4 : List AOper := [
  ⟨(some 36), (.mv (.t 7)), none⟩,
  ⟨(some 37), (.eq .scI true (.t 36) (.v (.int .i64 0))), none⟩]
def q_Pring_Ring_Read_5 : List AOper := [
  ⟨(some 38), (.mv (.t 7)), none⟩,
  ⟨(some 4), (.mv (.v .nilS)), none⟩,
  ⟨(some 5), (.mv (.t 38)), none⟩]
def q_Pring_Ring_Read_6 : List AOper := [
  ⟨(some 40), (.load (.ia .u8 256) 256 (.t 6)), none⟩,
  ⟨(some 41), (.call F_ring_Get [((.ia .u8 256), (.t 40))]), none⟩,
  ⟨(some 39), (.mv (.t 41)), none⟩,
  ⟨(some 42), (.ext 0 (.t 39)), none⟩,
  ⟨(some 43), (.ext 1 (.t 39)), none⟩,
  ⟨(some 44), (.ext 2 (.t 39)), none⟩,
  ⟨(some 8), (.mv (.t 42)), none⟩,
  ⟨(some 9), (.mv (.t 43)), none⟩,
  ⟨(some 10), (.mv (.t 44)), none⟩]
def q_Pring_Ring_Read_7 : List AOper := [
  ⟨(some 45), (.mv (.t 10)), none⟩,
  ⟨(some 46), (.un .not (.t 45)), none⟩,
  ⟨(some 47), (.mv (.t 46)), none⟩,
  ⟨(some 48), (.mv (.t 8)), (some (47, false))⟩,
  ⟨(some 49), (.mv (.t 1)), (some (47, false))⟩,
  ⟨(some 50), (.eq .scI true (.t 48) (.t 49)), (some (47, false))⟩,
  ⟨(some 51), (.pick (.t 47) (.v (.bool true)) (.t 50)), none⟩]
def q_Pring_Ring_Read_8 : List AOper := [
  ⟨(some 4), (.mv (.v .nilS)), none⟩,
  ⟨(some 5), (.mv (.v (.int .i64 5))), none⟩]
def q_Pring_Ring_Read_9 : List AOper := [
  ⟨(some 52), (.mv (.t 9)), none⟩,
  ⟨(some 4), (.mv (.t 52)), none⟩,
  ⟨(some 5), (.mv (.v (.int .i64 0))), none⟩]
def a_Pring_Ring_Read : AFunc := ⟨[(.tmp 4), (.tmp 5)], (.seq (.region q_Pring_Ring_Read_0) (.seq (.seq (.region q_Pring_Ring_Read_1) (.cond (.t 24) (.seq (.region q_Pring_Ring_Read_2) .ret) .skip)) (.seq (.regionD q_Pring_Ring_Read_3) (.seq (.seq (.region q_Pring_Ring_Read_4) (.cond (.t 37) (.seq (.region q_Pring_Ring_Read_5) .ret) .skip)) (.seq (.region q_Pring_Ring_Read_6) (.seq (.seq (.region q_Pring_Ring_Read_7) (.cond (.t 51) (.seq (.region q_Pring_Ring_Read_8) .ret) .skip)) (.seq (.region q_Pring_Ring_Read_9) .ret)))))))⟩

def q_Pring_Ring_Clean_0 : List AOper := [
  ⟨(some 2), (.mv (.v (.bool false))), none⟩]
def q_Pring_Ring_Clean_1 : List AOper := [
  ⟨(some 6), (.mv (.t 0)), none⟩,
  ⟨(some 7), (.xx (.p .nilCk) [(.t 6)]), none⟩,
  ⟨(some 8), (.fadr 4 1 .sc (.t 7)), none⟩,
  ⟨(some 9), (.load .sc 1 (.t 8)), none⟩,
  ⟨(some 3), (.mv (.t 9)), none⟩]
def q_Pring_Ring_Clean_2 : List DOp := [
  ⟨⟨(some 10), (.mv (.t 3)), none⟩, true, false, none, []⟩,
  ⟨⟨(some 11), (.mv (.t 0)), none⟩, true, false, none, []⟩,
  ⟨⟨(some 12), (.xx (.p .nilCk) [(.t 11)]), none⟩, true, false, none, []⟩,
  ⟨⟨(some 13), (.fadr 3 1 .sc (.t 12)), none⟩, true, false, none, []⟩,
  ⟨⟨(some 14), (.load .sc 1 (.t 13)), none⟩, true, false, none, []⟩,
  ⟨⟨(some 15), (.mv (.t 0)), none⟩, true, false, none, []⟩,
  ⟨⟨(some 16), (.xx (.p .nilCk) [(.t 15)]), none⟩, true, false, none, []⟩,
  ⟨⟨(some 17), (.fadr 2 1 .sc (.t 16)), none⟩, true, false, none, []⟩,
  ⟨⟨(some 18), (.load .sc 1 (.t 17)), none⟩, true, false, none, []⟩,
  ⟨⟨(some 19), (.bin .add (.t 14) (.t 18)), none⟩, true, false, none, []⟩,
  ⟨⟨(some 20), (.bin .lss (.t 10) (.t 19)), none⟩, true, false, none, []⟩]
def q_Pring_Ring_Clean_3 : List DOp := [
  ⟨⟨(some 24), (.mv (.t 0)), none⟩, true, false, none, []⟩,
  ⟨⟨(some 25), (.xx (.p .nilCk) [(.t 24)]), none⟩, true, false, none, []⟩,
  ⟨⟨(some 26), (.fadr 0 1 .sc (.t 25)), none⟩, true, false, none, []⟩,
  ⟨⟨(some 27), (.load .sc 1 (.t 26)), none⟩, true, false, none, []⟩,
  ⟨⟨(some 28), (.mv (.t 0)), none⟩, true, false, none, []⟩,
  ⟨⟨(some 29), (.mv (.t 3)), none⟩, true, false, none, []⟩,
  ⟨⟨(some 30), (.call F_Pring_Ring_at [(.sc, (.t 28)), (.sc, (.t 29))]), none⟩, false, true, (some [26]), []⟩,
  ⟨⟨(some 31), (.call F_Pdisk_Disk_Read [(.sc, (.t 27)), (.sc, (.t 30))]), none⟩, false, false, none, []⟩,
  ⟨⟨(some 23), (.mv (.t 31)), none⟩, true, false, none, []⟩,
  ⟨⟨(some 32), (.ext 0 (.t 23)), none⟩, true, false, none, []⟩,
  ⟨⟨(some 33), (.ext 1 (.t 23)), none⟩, true, false, none, []⟩,
  ⟨⟨(some 4), (.alloc 23 [(.iarr .u8 256 (List.replicate 256 0))]), none⟩, false, false, none, []⟩,
  ⟨⟨none, (.store (.ia .u8 256) 256 (.t 4) (.t 32)), none⟩, false, false, none, []⟩,
  ⟨⟨(some 5), (.mv (.t 33)), none⟩, true, false, none, []⟩]
def q_Pring_Ring_Clean_4 : List AOper := [
  ⟨(some 34), (.mv (.t 5)), none⟩,
  ⟨(some 35), (.eq .scI true (.t 34) (.v (.int .i64 0))), none⟩,
  ⟨(some 36), (.mv (.t 35)), none⟩,
  ⟨(some 37), (.load (.ia .u8 256) 256 (.t 4)), (some (36, false))⟩,
  ⟨(some 38), (.build (.ia .u8 256) [(.iarr .u8 256 (List.replicate 256 0))] []), (some (36, false))⟩,
  ⟨(some 39), (.eq (.ia 256) true (.t 37) (.t 38)), (some (36, false))⟩,
  ⟨(some 40), (.pick (.t 36) (.v (.bool true)) (.t 39)), none⟩]
def q_Pring_Ring_Clean_5 : List AOper := [
  ⟨(some 2), (.mv (.v (.bool false))), none⟩]
def q_Pring_Ring_Clean_6 : List AOper := [
  ⟨(some 21), (.mv (.t 3)), none⟩,
  ⟨(some 22), (.bin .add (.t 21) (.v (.int .i64 1))), none⟩,
  ⟨(some 3), (.mv (.t 22)), none⟩]
def q_Pring_Ring_Clean_L7 : ACode := (.seq (.seq (.regionD q_Pring_Ring_Clean_2) (.cond (.t 20) .skip (.exit 0))) (.seq (.block 1 (.seq (.regionD q_Pring_Ring_Clean_3) (.seq (.region q_Pring_Ring_Clean_4) (.cond (.t 40) (.seq (.region q_Pring_Ring_Clean_5) .ret) .skip)))) (.region q_Pring_Ring_Clean_6)))
def q_Pring_Ring_Clean_7 : List AOper := [
  ⟨(some 2), (.mv (.v (.bool true))), none⟩]
def a_Pring_Ring_Clean : AFunc := ⟨[(.tmp 2)], (.seq (.region q_Pring_Ring_Clean_0) (.seq (.seq (.region q_Pring_Ring_Clean_1) (.block 0 (.loop q_Pring_Ring_Clean_L7))) (.seq (.region q_Pring_Ring_Clean_7) .ret)))⟩

def q_Pring_Ring_All_0 : List AOper := [
  ⟨(some 2), (.mv (.v .nilS)), none⟩,
  ⟨(some 3), (.mv (.v (.int .i64 0))), none⟩]
def q_Pring_Ring_All_1 : List AOper := [
  ⟨(some 4), (.mv (.v .nilS)), none⟩]
def q_Pring_Ring_All_2 : List AOper := [
  ⟨(some 8), (.mv (.t 0)), none⟩,
  ⟨(some 9), (.xx (.p .nilCk) [(.t 8)]), none⟩,
  ⟨(some 10), (.fadr 3 1 .sc (.t 9)), none⟩,
  ⟨(some 11), (.load .sc 1 (.t 10)), none⟩,
  ⟨(some 5), (.mv (.t 11)), none⟩]
def q_Pring_Ring_All_3 : List AOper := [
  ⟨(some 12), (.mv (.t 5)), none⟩,
  ⟨(some 13), (.mv (.t 0)), none⟩,
  ⟨(some 14), (.xx (.p .nilCk) [(.t 13)]), none⟩,
  ⟨(some 15), (.fadr 4 1 .sc (.t 14)), none⟩,
  ⟨(some 16), (.load .sc 1 (.t 15)), none⟩,
  ⟨(some 17), (.bin .lss (.t 12) (.t 16)), none⟩]
def q_Pring_Ring_All_4 : List AOper := [
  ⟨(some 21), (.mv (.t 0)), none⟩,
  ⟨(some 22), (.mv (.t 5)), none⟩,
  ⟨(some 23), (.call F_Pring_Ring_Read [(.sc, (.t 21)), (.sc, (.t 22))]), none⟩,
  ⟨(some 20), (.mv (.t 23)), none⟩,
  ⟨(some 24), (.ext 0 (.t 20)), none⟩,
  ⟨(some 25), (.ext 1 (.t 20)), none⟩,
  ⟨(some 6), (.mv (.t 24)), none⟩,
  ⟨(some 7), (.mv (.t 25)), none⟩]
def q_Pring_Ring_All_5 : List AOper := [
  ⟨(some 26), (.mv (.t 7)), none⟩,
  ⟨(some 27), (.eq .scI true (.t 26) (.v (.int .i64 0))), none⟩]
def q_Pring_Ring_All_6 : List AOper := [
  ⟨(some 28), (.mv (.t 7)), none⟩,
  ⟨(some 2), (.mv (.v .nilS)), none⟩,
  ⟨(some 3), (.mv (.t 28)), none⟩]
def q_Pring_Ring_All_7 : List AOper := [
  ⟨(some 29), (.mv (.t 4)), none⟩,
  ⟨(some 30), (.mv (.t 6)), none⟩,
  ⟨(some 31), (.bsl 22 .sc 1 [(.t 30)]), none⟩,
  ⟨(some 32), (.app 22 1 24 (.t 29) (.t 31)), none⟩,
  ⟨(some 4), (.mv (.t 32)), none⟩]
def q_Pring_Ring_All_8 : List AOper := [
  ⟨(some 18), (.mv (.t 5)), none⟩,
  ⟨(some 19), (.bin .add (.t 18) (.v (.int .i64 1))), none⟩,
  ⟨(some 5), (.mv (.t 19)), none⟩]
def q_Pring_Ring_All_L9 : ACode := (.seq (.seq (.region q_Pring_Ring_All_3) (.cond (.t 17) .skip (.exit 0))) (.seq (.block 1 (.seq (.region q_Pring_Ring_All_4) (.seq (.seq (.region q_Pring_Ring_All_5) (.cond (.t 27) (.seq (.region q_Pring_Ring_All_6) .ret) .skip)) (.region q_Pring_Ring_All_7)))) (.region q_Pring_Ring_All_8)))
def q_Pring_Ring_All_9 : List AOper := [
  ⟨(some 33), (.mv (.t 4)), none⟩,
  ⟨(some 2), (.mv (.t 33)), none⟩,
  ⟨(some 3), (.mv (.v (.int .i64 0))), none⟩]
def a_Pring_Ring_All : AFunc := ⟨[(.tmp 2), (.tmp 3)], (.seq (.region q_Pring_Ring_All_0) (.seq (.region q_Pring_Ring_All_1) (.seq (.seq (.region q_Pring_Ring_All_2) (.block 0 (.loop q_Pring_Ring_All_L9))) (.seq (.region q_Pring_Ring_All_9) .ret))))⟩

def q_Pring_Ring_at_0 : List AOper := [
  ⟨(some 4), (.mv (.v (.int .i64 0))), none⟩]
def q_Pring_Ring_at_1 : List DOp := [
  ⟨⟨(some 5), (.mv (.t 0)), none⟩, true, false, none, []⟩,
  ⟨⟨(some 6), (.xx (.p .nilCk) [(.t 5)]), none⟩, true, false, none, []⟩,
  ⟨⟨(some 7), (.fadr 1 1 .sc (.t 6)), none⟩, true, false, none, []⟩,
  ⟨⟨(some 8), (.load .sc 1 (.t 7)), none⟩, true, false, none, []⟩,
  ⟨⟨(some 9), (.mv (.t 1)), none⟩, true, false, none, []⟩,
  ⟨⟨(some 10), (.mv (.t 0)), none⟩, true, false, none, []⟩,
  ⟨⟨(some 11), (.xx (.p .nilCk) [(.t 10)]), none⟩, true, false, none, []⟩,
  ⟨⟨(some 12), (.fadr 2 1 .sc (.t 11)), none⟩, true, false, none, []⟩,
  ⟨⟨(some 13), (.load .sc 1 (.t 12)), none⟩, true, false, none, []⟩,
  ⟨⟨(some 14), (.bin .rem (.t 9) (.t 13)), none⟩, true, false, none, []⟩,
  ⟨⟨(some 15), (.bin .add (.t 8) (.t 14)), none⟩, true, false, none, []⟩,
  ⟨⟨(some 4), (.mv (.t 15)), none⟩, true, false, none, []⟩]
def a_Pring_Ring_at : AFunc := ⟨[(.tmp 4)], (.seq (.region q_Pring_Ring_at_0) (.seq (.regionD q_Pring_Ring_at_1) .ret))⟩

def q_Pring_Ring_found_0 : List AOper := [
  ⟨(some 2), (.mv (.v (.int .i64 0))), none⟩,
  ⟨(some 3), (.mv (.v (.int .i64 0))), none⟩,
  ⟨(some 4), (.mv (.v (.bool false))), none⟩,
  ⟨(some 5), (.mv (.v (.int .i64 0))), none⟩]
def q_Pring_Ring_found_1 : List AOper := [
  ⟨(some 6), (.mv (.v (.int .i64 0))), none⟩,
  ⟨(some 7), (.mv (.v (.int .i64 (-1)))), none⟩,
  ⟨(some 8), (.mv (.v (.bool false))), none⟩]
def q_Pring_Ring_found_2 : List AOper := [
  ⟨(some 15), (.mv (.t 0)), none⟩,
  ⟨(some 16), (.xx (.p .nilCk) [(.t 15)]), none⟩,
  ⟨(some 17), (.fadr 2 1 .sc (.t 16)), none⟩,
  ⟨(some 18), (.load .sc 1 (.t 17)), none⟩,
  ⟨(some 19), (.mv (.v (.int .i64 0))), none⟩]
def q_Pring_Ring_found_3 : List AOper := [
  ⟨(some 20), (.bin .lss (.t 19) (.t 18)), none⟩]
def q_Pring_Ring_found_4 : List AOper := [
  ⟨(some 21), (.mv (.t 19)), none⟩,
  ⟨(some 9), (.mv (.t 21)), none⟩]
def q_Pring_Ring_found_5 : List DOp := [
  ⟨⟨(some 23), (.mv (.t 0)), none⟩, true, false, none, []⟩,
  ⟨⟨(some 24), (.xx (.p .nilCk) [(.t 23)]), none⟩, true, false, none, []⟩,
  ⟨⟨(some 25), (.fadr 0 1 .sc (.t 24)), none⟩, true, false, none, []⟩,
  ⟨⟨(some 26), (.load .sc 1 (.t 25)), none⟩, true, false, none, []⟩,
  ⟨⟨(some 27), (.mv (.t 0)), none⟩, true, false, none, []⟩,
  ⟨⟨(some 28), (.xx (.p .nilCk) [(.t 27)]), none⟩, true, false, none, []⟩,
  ⟨⟨(some 29), (.fadr 1 1 .sc (.t 28)), none⟩, true, false, none, []⟩,
  ⟨⟨(some 30), (.load .sc 1 (.t 29)), none⟩, true, false, none, []⟩,
  ⟨⟨(some 31), (.mv (.t 9)), none⟩, true, false, none, []⟩,
  ⟨⟨(some 32), (.bin .add (.t 30) (.t 31)), none⟩, true, false, none, []⟩,
  ⟨⟨(some 33), (.call F_Pdisk_Disk_Read [(.sc, (.t 26)), (.sc, (.t 32))]), none⟩, false, false, none, []⟩,
  ⟨⟨(some 22), (.mv (.t 33)), none⟩, true, false, none, []⟩,
  ⟨⟨(some 34), (.ext 0 (.t 22)), none⟩, true, false, none, []⟩,
  ⟨⟨(some 35), (.ext 1 (.t 22)), none⟩, true, false, none, []⟩,
  ⟨⟨(some 10), (.alloc 23 [(.iarr .u8 256 (List.replicate 256 0))]), none⟩, false, false, none, []⟩,
  ⟨⟨none, (.store (.ia .u8 256) 256 (.t 10) (.t 34)), none⟩, false, false, none, []⟩,
  ⟨⟨(some 11), (.mv (.t 35)), none⟩, true, false, none, []⟩]
def q_Pring_Ring_found_6 : List AOper := [
  ⟨(some 36), (.mv (.t 11)), none⟩,
  ⟨(some 37), (.eq .scI true (.t 36) (.v (.int .i64 0))), none⟩]
def q_Pring_Ring_found_7 : List AOper := [
  ⟨(some 38), (.mv (.t 11)), none⟩,
  ⟨(some 2), (.mv (.v (.int .i64 0))), none⟩,
  ⟨(some 3), (.mv (.v (.int .i64 0))), none⟩,
  ⟨(some 4), (.mv (.v (.bool false))), none⟩,
  ⟨(some 5), (.mv (.t 38)), none⟩]
def q_Pring_Ring_found_8 : List AOper := [
  ⟨(some 40), (.load (.ia .u8 256) 256 (.t 10)), none⟩,
  ⟨(some 41), (.call F_ring_Get [((.ia .u8 256), (.t 40))]), none⟩,
  ⟨(some 39), (.mv (.t 41)), none⟩,
  ⟨(some 42), (.ext 0 (.t 39)), none⟩,
  ⟨(some 43), (.ext 1 (.t 39)), none⟩,
  ⟨(some 44), (.ext 2 (.t 39)), none⟩,
  ⟨(some 12), (.mv (.t 42)), none⟩,
  ⟨(some 13), (.mv (.t 43)), none⟩,
  ⟨(some 14), (.mv (.t 44)), none⟩]
def q_Pring_Ring_found_9 : List AOper := [
  ⟨(some 45), (.mv (.t 14)), none⟩,
  ⟨(some 46), (.un .not (.t 45)), none⟩,
  ⟨(some 47), (.mv (.t 46)), none⟩,
  ⟨(some 48), (.mv (.t 12)), (some (47, false))⟩,
  ⟨(some 49), (.mv (.t 0)), (some (47, false))⟩,
  ⟨(some 50), (.xx (.p .nilCk) [(.t 49)]), (some (47, false))⟩,
  ⟨(some 51), (.fadr 2 1 .sc (.t 50)), (some (47, false))⟩,
  ⟨(some 52), (.load .sc 1 (.t 51)), (some (47, false))⟩,
  ⟨(some 53), (.bin .rem (.t 48) (.t 52)), (some (47, false))⟩,
  ⟨(some 54), (.mv (.t 9)), (some (47, false))⟩,
  ⟨(some 55), (.eq .scI true (.t 53) (.t 54)), (some (47, false))⟩,
  ⟨(some 56), (.pick (.t 47) (.v (.bool true)) (.t 55)), none⟩]
def q_Pring_Ring_found_10 : List AOper := [
  ⟨(some 57), (.mv (.t 8)), none⟩,
  ⟨(some 58), (.un .not (.t 57)), none⟩,
  ⟨(some 59), (.mv (.t 58)), none⟩,
  ⟨(some 60), (.mv (.t 12)), (some (59, false))⟩,
  ⟨(some 61), (.mv (.t 6)), (some (59, false))⟩,
  ⟨(some 62), (.bin .lss (.t 60) (.t 61)), (some (59, false))⟩,
  ⟨(some 63), (.pick (.t 59) (.v (.bool true)) (.t 62)), none⟩]
def q_Pring_Ring_found_11 : List AOper := [
  ⟨(some 64), (.mv (.t 12)), none⟩,
  ⟨(some 6), (.mv (.t 64)), none⟩]
def q_Pring_Ring_found_12 : List AOper := [
  ⟨(some 65), (.mv (.t 7)), none⟩,
  ⟨(some 66), (.mv (.t 12)), none⟩,
  ⟨(some 67), (.xx (.p (.mnI true)) [(.t 65), (.t 66)]), none⟩,
  ⟨(some 7), (.mv (.t 67)), none⟩,
  ⟨(some 8), (.mv (.v (.bool true))), none⟩]
def q_Pring_Ring_found_13 : List AOper := [
  ⟨(some 68), (.bin .add (.t 19) (.v (.int .i64 1))), none⟩,
  ⟨(some 19), (.mv (.t 68)), none⟩]
def q_Pring_Ring_found_L14 : ACode := (.seq (.region q_Pring_Ring_found_3) (.seq (.cond (.t 20) .skip (.exit 0)) (.seq (.block 1 (.seq (.region q_Pring_Ring_found_4) (.seq (.regionD q_Pring_Ring_found_5) (.seq (.seq (.region q_Pring_Ring_found_6) (.cond (.t 37) (.seq (.region q_Pring_Ring_found_7) .ret) .skip)) (.seq (.region q_Pring_Ring_found_8) (.seq (.seq (.region q_Pring_Ring_found_9) (.cond (.t 56) (.exit 1) .skip)) (.seq (.seq (.region q_Pring_Ring_found_10) (.cond (.t 63) (.region q_Pring_Ring_found_11) .skip)) (.region q_Pring_Ring_found_12)))))))) (.region q_Pring_Ring_found_13))))
def q_Pring_Ring_found_14 : List AOper := [
  ⟨(some 69), (.mv (.t 6)), none⟩,
  ⟨(some 70), (.mv (.t 7)), none⟩,
  ⟨(some 71), (.mv (.t 8)), none⟩,
  ⟨(some 2), (.mv (.t 69)), none⟩,
  ⟨(some 3), (.mv (.t 70)), none⟩,
  ⟨(some 4), (.mv (.t 71)), none⟩,
  ⟨(some 5), (.mv (.v (.int .i64 0))), none⟩]
def a_Pring_Ring_found : AFunc := ⟨[(.tmp 2), (.tmp 3), (.tmp 4), (.tmp 5)], (.seq (.region q_Pring_Ring_found_0) (.seq (.region q_Pring_Ring_found_1) (.seq (.seq (.region q_Pring_Ring_found_2) (.block 0 (.loop q_Pring_Ring_found_L14))) (.seq (.region q_Pring_Ring_found_14) .ret))))⟩

def q_Pring_Ring_scrub_0 : List AOper := [
  ⟨(some 2), (.mv (.v (.int .i64 0))), none⟩]
def q_Pring_Ring_scrub_1 : List AOper := [
  ⟨(some 5), (.mv (.t 0)), none⟩,
  ⟨(some 6), (.xx (.p .nilCk) [(.t 5)]), none⟩,
  ⟨(some 7), (.fadr 4 1 .sc (.t 6)), none⟩,
  ⟨(some 8), (.load .sc 1 (.t 7)), none⟩,
  ⟨(some 3), (.mv (.t 8)), none⟩]
def q_Pring_Ring_scrub_2 : List DOp := [
  ⟨⟨(some 9), (.mv (.t 3)), none⟩, true, false, none, []⟩,
  ⟨⟨(some 10), (.mv (.t 0)), none⟩, true, false, none, []⟩,
  ⟨⟨(some 11), (.xx (.p .nilCk) [(.t 10)]), none⟩, true, false, none, []⟩,
  ⟨⟨(some 12), (.fadr 3 1 .sc (.t 11)), none⟩, true, false, none, []⟩,
  ⟨⟨(some 13), (.load .sc 1 (.t 12)), none⟩, true, false, none, []⟩,
  ⟨⟨(some 14), (.mv (.t 0)), none⟩, true, false, none, []⟩,
  ⟨⟨(some 15), (.xx (.p .nilCk) [(.t 14)]), none⟩, true, false, none, []⟩,
  ⟨⟨(some 16), (.fadr 2 1 .sc (.t 15)), none⟩, true, false, none, []⟩,
  ⟨⟨(some 17), (.load .sc 1 (.t 16)), none⟩, true, false, none, []⟩,
  ⟨⟨(some 18), (.bin .add (.t 13) (.t 17)), none⟩, true, false, none, []⟩,
  ⟨⟨(some 19), (.bin .lss (.t 9) (.t 18)), none⟩, true, false, none, []⟩]
def q_Pring_Ring_scrub_3 : List DOp := [
  ⟨⟨(some 22), (.mv (.t 0)), none⟩, true, false, none, []⟩,
  ⟨⟨(some 23), (.xx (.p .nilCk) [(.t 22)]), none⟩, true, false, none, []⟩,
  ⟨⟨(some 24), (.fadr 0 1 .sc (.t 23)), none⟩, true, false, none, []⟩,
  ⟨⟨(some 25), (.load .sc 1 (.t 24)), none⟩, true, false, none, []⟩,
  ⟨⟨(some 26), (.mv (.t 0)), none⟩, true, false, none, []⟩,
  ⟨⟨(some 27), (.mv (.t 3)), none⟩, true, false, none, []⟩,
  ⟨⟨(some 29), (.build (.ia .u8 256) [(.iarr .u8 256 (List.replicate 256 0))] []), none⟩, true, false, none, []⟩,
  ⟨⟨(some 28), (.call F_Pring_Ring_at [(.sc, (.t 26)), (.sc, (.t 27))]), none⟩, false, true, (some [24]), []⟩,
  ⟨⟨(some 30), (.call F_Pdisk_Disk_Write [(.sc, (.t 25)), (.sc, (.t 28)), ((.ia .u8 256), (.t 29))]), none⟩, false, false, none, []⟩,
  ⟨⟨(some 4), (.mv (.t 30)), none⟩, true, false, none, []⟩]
def q_Pring_Ring_scrub_4 : List AOper := [
  ⟨(some 31), (.mv (.t 4)), none⟩,
  ⟨(some 32), (.eq .scI true (.t 31) (.v (.int .i64 0))), none⟩]
def q_Pring_Ring_scrub_5 : List AOper := [
  ⟨(some 33), (.mv (.t 4)), none⟩,
  ⟨(some 2), (.mv (.t 33)), none⟩]
def q_Pring_Ring_scrub_6 : List AOper := [
  ⟨(some 20), (.mv (.t 3)), none⟩,
  ⟨(some 21), (.bin .add (.t 20) (.v (.int .i64 1))), none⟩,
  ⟨(some 3), (.mv (.t 21)), none⟩]
def q_Pring_Ring_scrub_L7 : ACode := (.seq (.seq (.regionD q_Pring_Ring_scrub_2) (.cond (.t 19) .skip (.exit 0))) (.seq (.block 1 (.seq (.regionD q_Pring_Ring_scrub_3) (.seq (.region q_Pring_Ring_scrub_4) (.cond (.t 32) (.seq (.region q_Pring_Ring_scrub_5) .ret) .skip)))) (.region q_Pring_Ring_scrub_6)))
def q_Pring_Ring_scrub_7 : List AOper := [
  ⟨(some 34), (.mv (.t 0)), none⟩,
  ⟨(some 35), (.xx (.p .nilCk) [(.t 34)]), none⟩,
  ⟨(some 36), (.fadr 0 1 .sc (.t 35)), none⟩,
  ⟨(some 37), (.load .sc 1 (.t 36)), none⟩,
  ⟨(some 38), (.call F_Pdisk_Disk_Flush [(.sc, (.t 37))]), none⟩,
  ⟨(some 2), (.mv (.t 38)), none⟩]
def a_Pring_Ring_scrub : AFunc := ⟨[(.tmp 2)], (.seq (.region q_Pring_Ring_scrub_0) (.seq (.seq (.region q_Pring_Ring_scrub_1) (.block 0 (.loop q_Pring_Ring_scrub_L7))) (.seq (.region q_Pring_Ring_scrub_7) .ret)))⟩

def q_ref36_Put_0 : List AOper := [
  ⟨(some 4), (.alloc 23 [(.iarr .u8 256 (List.replicate 256 0))]), none⟩,
  ⟨(some 5), (.mv (.v (.int .i64 0))), none⟩]
def q_ref36_Put_1 : List AOper := [
  ⟨(some 7), (.mv (.t 0)), none⟩,
  ⟨(some 8), (.bin .lss (.t 7) (.v (.int .i64 0))), none⟩,
  ⟨(some 9), (.mv (.t 8)), none⟩,
  ⟨(some 10), (.mv (.t 0)), (some (9, false))⟩,
  ⟨(some 11), (.bin .gtr (.t 10) (.v (.int .i64 1099511627776))), (some (9, false))⟩,
  ⟨(some 12), (.pick (.t 9) (.v (.bool true)) (.t 11)), none⟩]
def q_ref36_Put_2 : List AOper := [
  ⟨(some 13), (.build (.ia .u8 256) [(.iarr .u8 256 (List.replicate 256 0))] []), none⟩,
  ⟨none, (.store (.ia .u8 256) 256 (.t 4) (.t 13)), none⟩,
  ⟨(some 5), (.mv (.v (.int .i64 2))), none⟩]
def q_ref36_Put_3 : List AOper := [
  ⟨(some 14), (.mv (.t 1)), none⟩,
  ⟨(some 15), (.len false (.t 14)), none⟩,
  ⟨(some 16), (.bin .gtr (.t 15) (.v (.int .i64 224))), none⟩]
def q_ref36_Put_4 : List AOper := [
  ⟨(some 17), (.build (.ia .u8 256) [(.iarr .u8 256 (List.replicate 256 0))] []), none⟩,
  ⟨none, (.store (.ia .u8 256) 256 (.t 4) (.t 17)), none⟩,
  ⟨(some 5), (.mv (.v (.int .i64 15))), none⟩]
def q_ref36_Put_5 : List AOper := [
  ⟨(some 18), (.bslI 5 .u8 [(.v (.int .u8 82)), (.v (.int .u8 73)), (.v (.int .u8 78)), (.v (.int .u8 71))]), none⟩,
  ⟨(some 19), (.xx .sealB [(.t 18)]), none⟩,
  ⟨(some 6), (.mv (.t 19)), none⟩]
def q_ref36_Put_6 : List AOper := [
  ⟨(some 20), (.mv (.t 6)), none⟩,
  ⟨(some 21), (.mv (.t 0)), none⟩,
  ⟨(some 22), (.conv .u64 (.t 21)), none⟩,
  ⟨(some 23), (.call F_ref01_Put [(.sc, (.t 22)), (.sc, (.v (.int .i64 8)))]), none⟩,
  ⟨(some 24), (.appI 5 .u8 1 (.t 20) (.t 23)), none⟩,
  ⟨(some 6), (.mv (.t 24)), none⟩]
def q_ref36_Put_7 : List AOper := [
  ⟨(some 25), (.mv (.t 6)), none⟩,
  ⟨(some 26), (.mv (.t 1)), none⟩,
  ⟨(some 27), (.len false (.t 26)), none⟩,
  ⟨(some 28), (.conv .u8 (.t 27)), none⟩,
  ⟨(some 29), (.bslI 5 .u8 [(.t 28)]), none⟩,
  ⟨(some 30), (.appI 5 .u8 1 (.t 25) (.t 29)), none⟩,
  ⟨(some 6), (.mv (.t 30)), none⟩]
def q_ref36_Put_8 : List AOper := [
  ⟨(some 31), (.mv (.t 6)), none⟩,
  ⟨(some 32), (.mv (.t 1)), none⟩,
  ⟨(some 33), (.appI 5 .u8 1 (.t 31) (.t 32)), none⟩,
  ⟨(some 34), (.call F_ref08_Sealed [(.sc, (.t 33))]), none⟩,
  ⟨none, (.store (.ia .u8 256) 256 (.t 4) (.t 34)), none⟩,
  ⟨(some 5), (.mv (.v (.int .i64 0))), none⟩]
def a_ref36_Put : AFunc := ⟨[(.cell 4 (.ia .u8 256) 256), (.tmp 5)], (.seq (.region q_ref36_Put_0) (.seq (.seq (.region q_ref36_Put_1) (.cond (.t 12) (.seq (.region q_ref36_Put_2) .ret) .skip)) (.seq (.seq (.region q_ref36_Put_3) (.cond (.t 16) (.seq (.region q_ref36_Put_4) .ret) .skip)) (.seq (.region q_ref36_Put_5) (.seq (.region q_ref36_Put_6) (.seq (.region q_ref36_Put_7) (.seq (.region q_ref36_Put_8) .ret)))))))⟩

def q_ref36_Get_0 : List AOper := [
  ⟨(some 1), (.box 23 (.ia .u8 256) (.t 0)), none⟩,
  ⟨(some 2), (.mv (.v (.int .i64 0))), none⟩,
  ⟨(some 3), (.mv (.v .nilS)), none⟩,
  ⟨(some 4), (.mv (.v (.bool false))), none⟩]
def q_ref36_Get_1 : List AOper := [
  ⟨(some 5), (.mv (.v .nilS)), none⟩]
def q_ref36_Get_2 : List AOper := [
  ⟨(some 6), (.mv (.v (.int .i64 0))), none⟩]
def q_ref36_Get_3 : List AOper := [
  ⟨(some 11), (.mv (.t 6)), none⟩,
  ⟨(some 12), (.bin .lss (.t 11) (.v (.int .i64 256))), none⟩]
def q_ref36_Get_4 : List AOper := [
  ⟨(some 15), (.mv (.t 5)), none⟩,
  ⟨(some 16), (.mv (.t 6)), none⟩,
  ⟨(some 17), (.idxA 256 1 true (.t 1) (.t 16)), none⟩,
  ⟨(some 18), (.load .sc 1 (.t 17)), none⟩,
  ⟨(some 19), (.bslI 5 .u8 [(.t 18)]), none⟩,
  ⟨(some 20), (.appI 5 .u8 1 (.t 15) (.t 19)), none⟩,
  ⟨(some 5), (.mv (.t 20)), none⟩]
def q_ref36_Get_5 : List AOper := [
  ⟨(some 13), (.mv (.t 6)), none⟩,
  ⟨(some 14), (.bin .add (.t 13) (.v (.int .i64 1))), none⟩,
  ⟨(some 6), (.mv (.t 14)), none⟩]
def q_ref36_Get_L6 : ACode := (.seq (.seq (.region q_ref36_Get_3) (.cond (.t 12) .skip (.exit 0))) (.seq (.block 1 (.region q_ref36_Get_4)) (.region q_ref36_Get_5)))
def q_ref36_Get_6 : List AOper := [
  ⟨(some 21), (.mv (.t 5)), none⟩,
  ⟨(some 22), (.slc 1 (.t 21) (some (.v (.int .i64 4))) (some (.v (.int .i64 12)))), none⟩,
  ⟨(some 23), (.call F_ref01_Get [(.sc, (.t 22))]), none⟩,
  ⟨(some 7), (.mv (.t 23)), none⟩]
def q_ref36_Get_7 : List AOper := [
  ⟨(some 24), (.mv (.t 5)), none⟩,
  ⟨(some 25), (.idx 1 (.t 24) (.v (.int .i64 12))), none⟩,
  ⟨(some 26), (.load .sc 1 (.t 25)), none⟩,
  ⟨(some 27), (.conv .i64 (.t 26)), none⟩,
  ⟨(some 8), (.mv (.t 27)), none⟩]
def q_ref36_Get_8 : List AOper := [
  ⟨(some 28), (.mv (.t 7)), none⟩,
  ⟨(some 29), (.bin .gtr (.t 28) (.v (.int .u64 1099511627776))), none⟩,
  ⟨(some 30), (.mv (.t 29)), none⟩,
  ⟨(some 31), (.mv (.t 8)), (some (30, false))⟩,
  ⟨(some 32), (.bin .gtr (.t 31) (.v (.int .i64 224))), (some (30, false))⟩,
  ⟨(some 33), (.pick (.t 30) (.v (.bool true)) (.t 32)), none⟩]
def q_ref36_Get_9 : List AOper := [
  ⟨(some 2), (.mv (.v (.int .i64 0))), none⟩,
  ⟨(some 3), (.mv (.v .nilS)), none⟩,
  ⟨(some 4), (.mv (.v (.bool false))), none⟩]
def q_ref36_Get_10 : List AOper := [
  ⟨(some 35), (.mv (.t 7)), none⟩,
  ⟨(some 36), (.conv .i64 (.t 35)), none⟩,
  ⟨(some 37), (.mv (.t 5)), none⟩,
  ⟨(some 38), (.mv (.t 8)), none⟩,
  ⟨(some 39), (.bin .add (.v (.int .i64 13)) (.t 38)), none⟩,
  ⟨(some 40), (.slc 1 (.t 37) (some (.v (.int .i64 13))) (some (.t 39))), none⟩,
  ⟨(some 41), (.call F_ref36_Put [(.sc, (.t 36)), (.sc, (.t 40))]), none⟩,
  ⟨(some 34), (.mv (.t 41)), none⟩,
  ⟨(some 42), (.ext 0 (.t 34)), none⟩,
  ⟨(some 43), (.ext 1 (.t 34)), none⟩,
  ⟨(some 9), (.alloc 23 [(.iarr .u8 256 (List.replicate 256 0))]), none⟩,
  ⟨none, (.store (.ia .u8 256) 256 (.t 9) (.t 42)), none⟩,
  ⟨(some 10), (.mv (.t 43)), none⟩]
def q_ref36_Get_11 : List AOper := [
  ⟨(some 44), (.load (.ia .u8 256) 256 (.t 9)), none⟩,
  ⟨(some 45), (.load (.ia .u8 256) 256 (.t 1)), none⟩,
  ⟨(some 46), (.eq (.ia 256) true (.t 44) (.t 45)), none⟩]
def q_ref36_Get_12 : List AOper := [
  ⟨(some 2), (.mv (.v (.int .i64 0))), none⟩,
  ⟨(some 3), (.mv (.v .nilS)), none⟩,
  ⟨(some 4), (.mv (.v (.bool false))), none⟩]
def q_ref36_Get_13 : List DOp := [
  ⟨⟨(some 47), (.mv (.t 7)), none⟩, true, false, none, []⟩,
  ⟨⟨(some 48), (.conv .i64 (.t 47)), none⟩, true, false, none, []⟩,
  ⟨⟨(some 49), (.mv (.t 5)), none⟩, true, false, none, []⟩,
  ⟨⟨(some 50), (.mv (.t 8)), none⟩, true, false, none, []⟩,
  ⟨⟨(some 51), (.bin .add (.v (.int .i64 13)) (.t 50)), none⟩, true, false, none, []⟩,
  ⟨⟨(some 52), (.slc 1 (.t 49) (some (.v (.int .i64 13))) (some (.t 51))), none⟩, true, false, none, []⟩,
  ⟨⟨(some 2), (.mv (.t 48)), none⟩, true, false, none, []⟩,
  ⟨⟨(some 3), (.mv (.t 52)), none⟩, true, false, none, []⟩,
  ⟨⟨(some 4), (.mv (.v (.bool true))), none⟩, true, false, none, []⟩]
def a_ref36_Get : AFunc := ⟨[(.tmp 2), (.tmp 3), (.tmp 4)], (.seq (.region q_ref36_Get_0) (.seq (.region q_ref36_Get_1) (.seq (.seq (.region q_ref36_Get_2) (.block 0 (.loop q_ref36_Get_L6))) (.seq (.region q_ref36_Get_6) (.seq (.region q_ref36_Get_7) (.seq (.seq (.region q_ref36_Get_8) (.cond (.t 33) (.seq (.region q_ref36_Get_9) .ret) .skip)) (.seq (.region q_ref36_Get_10) (.seq (.seq (.region q_ref36_Get_11) (.cond (.t 46) (.seq (.region q_ref36_Get_12) .ret) .skip)) (.seq (.regionD q_ref36_Get_13) .ret)))))))))⟩

def q_ref36_Drop_0 : List AOper := [
  ⟨(some 2), (.box 42 .ag (.t 0)), none⟩,
  ⟨(some 4), (.alloc 42 [(.int .i64 0), (.int .i64 0), .nilS]), none⟩,
  ⟨(some 5), (.mv (.v (.int .i64 0))), none⟩]
def q_ref36_Drop_1 : List AOper := [
  ⟨(some 8), (.load .ag 3 (.t 2)), none⟩,
  ⟨(some 6), (.alloc 42 [(.int .i64 0), (.int .i64 0), .nilS]), none⟩,
  ⟨none, (.store .ag 3 (.t 6) (.t 8)), none⟩]
def q_ref36_Drop_2 : List AOper := [
  ⟨(some 7), (.mv (.v (.int .i64 0))), none⟩]
def q_ref36_Drop_3 : List AOper := [
  ⟨(some 9), (.fadr 2 1 .sc (.t 6)), none⟩,
  ⟨(some 10), (.load .sc 1 (.t 9)), none⟩,
  ⟨(some 11), (.len false (.t 10)), none⟩,
  ⟨(some 12), (.bin .gtr (.t 11) (.v (.int .i64 0))), none⟩,
  ⟨(some 13), (.mv (.t 12)), none⟩,
  ⟨(some 14), (.fadr 1 1 .sc (.t 6)), (some (13, true))⟩,
  ⟨(some 15), (.load .sc 1 (.t 14)), (some (13, true))⟩,
  ⟨(some 16), (.mv (.t 1)), (some (13, true))⟩,
  ⟨(some 17), (.bin .lss (.t 15) (.t 16)), (some (13, true))⟩,
  ⟨(some 18), (.pick (.t 13) (.t 17) (.v (.bool false))), none⟩]
def q_ref36_Drop_4 : List AOper := [
  ⟨(some 19), (.fadr 2 1 .sc (.t 6)), none⟩,
  ⟨(some 20), (.load .sc 1 (.t 19)), none⟩,
  ⟨(some 21), (.slc 1 (.t 20) (some (.v (.int .i64 1))) none), none⟩,
  ⟨(some 22), (.fadr 2 1 .sc (.t 6)), none⟩,
  ⟨none, (.store .sc 1 (.t 22) (.t 21)), none⟩]
def q_ref36_Drop_5 : List AOper := [
  ⟨(some 23), (.fadr 1 1 .sc (.t 6)), none⟩,
  ⟨(some 24), (.load .sc 1 (.t 23)), none⟩,
  ⟨(some 25), (.bin .add (.t 24) (.v (.int .i64 1))), none⟩,
  ⟨(some 26), (.fadr 1 1 .sc (.t 6)), none⟩,
  ⟨none, (.store .sc 1 (.t 26) (.t 25)), none⟩]
def q_ref36_Drop_6 : List AOper := [
  ⟨(some 27), (.mv (.t 7)), none⟩,
  ⟨(some 28), (.bin .add (.t 27) (.v (.int .i64 1))), none⟩,
  ⟨(some 7), (.mv (.t 28)), none⟩]
def q_ref36_Drop_L7 : ACode := (.seq (.seq (.region q_ref36_Drop_3) (.cond (.t 18) .skip (.exit 0))) (.block 1 (.seq (.region q_ref36_Drop_4) (.seq (.region q_ref36_Drop_5) (.region q_ref36_Drop_6)))))
def q_ref36_Drop_7 : List AOper := [
  ⟨(some 29), (.load .ag 3 (.t 6)), none⟩,
  ⟨(some 30), (.mv (.t 7)), none⟩,
  ⟨none, (.store .ag 3 (.t 4) (.t 29)), none⟩,
  ⟨(some 5), (.mv (.t 30)), none⟩]
def a_ref36_Drop : AFunc := ⟨[(.cell 4 .ag 3), (.tmp 5)], (.seq (.region q_ref36_Drop_0) (.seq (.region q_ref36_Drop_1) (.seq (.region q_ref36_Drop_2) (.seq (.block 0 (.loop q_ref36_Drop_L7)) (.seq (.region q_ref36_Drop_7) .ret)))))⟩

def q_ref36_Append_0 : List AOper := [
  ⟨(some 2), (.box 42 .ag (.t 0)), none⟩,
  ⟨(some 4), (.alloc 42 [(.int .i64 0), (.int .i64 0), .nilS]), none⟩,
  ⟨(some 5), (.mv (.v (.int .i64 0))), none⟩,
  ⟨(some 6), (.mv (.v (.int .i64 0))), none⟩]
def q_ref36_Append_1 : List AOper := [
  ⟨(some 11), (.fadr 2 1 .sc (.t 2)), none⟩,
  ⟨(some 12), (.load .sc 1 (.t 11)), none⟩,
  ⟨(some 13), (.len false (.t 12)), none⟩,
  ⟨(some 14), (.fadr 0 1 .sc (.t 2)), none⟩,
  ⟨(some 15), (.load .sc 1 (.t 14)), none⟩,
  ⟨(some 16), (.bin .geq (.t 13) (.t 15)), none⟩]
def q_ref36_Append_2 : List AOper := [
  ⟨(some 17), (.load .ag 3 (.t 2)), none⟩,
  ⟨none, (.store .ag 3 (.t 4) (.t 17)), none⟩,
  ⟨(some 5), (.mv (.v (.int .i64 0))), none⟩,
  ⟨(some 6), (.mv (.v (.int .i64 6))), none⟩]
def q_ref36_Append_3 : List AOper := [
  ⟨(some 18), (.fadr 1 1 .sc (.t 2)), none⟩,
  ⟨(some 19), (.load .sc 1 (.t 18)), none⟩,
  ⟨(some 20), (.fadr 2 1 .sc (.t 2)), none⟩,
  ⟨(some 21), (.load .sc 1 (.t 20)), none⟩,
  ⟨(some 22), (.len false (.t 21)), none⟩,
  ⟨(some 23), (.bin .add (.t 19) (.t 22)), none⟩,
  ⟨(some 7), (.mv (.t 23)), none⟩]
def q_ref36_Append_4 : List AOper := [
  ⟨(some 25), (.mv (.t 7)), none⟩,
  ⟨(some 26), (.mv (.t 1)), none⟩,
  ⟨(some 27), (.call F_ref36_Put [(.sc, (.t 25)), (.sc, (.t 26))]), none⟩,
  ⟨(some 24), (.mv (.t 27)), none⟩,
  ⟨(some 28), (.ext 0 (.t 24)), none⟩,
  ⟨(some 29), (.ext 1 (.t 24)), none⟩,
  ⟨(some 8), (.alloc 23 [(.iarr .u8 256 (List.replicate 256 0))]), none⟩,
  ⟨none, (.store (.ia .u8 256) 256 (.t 8) (.t 28)), none⟩,
  ⟨(some 9), (.mv (.t 29)), none⟩]
def q_ref36_Append_5 : List AOper := [
  ⟨(some 30), (.mv (.t 9)), none⟩,
  ⟨(some 31), (.eq .scI true (.t 30) (.v (.int .i64 0))), none⟩]
def q_ref36_Append_6 : List AOper := [
  ⟨(some 32), (.load .ag 3 (.t 2)), none⟩,
  ⟨(some 33), (.mv (.t 9)), none⟩,
  ⟨none, (.store .ag 3 (.t 4) (.t 32)), none⟩,
  ⟨(some 5), (.mv (.v (.int .i64 0))), none⟩,
  ⟨(some 6), (.mv (.t 33)), none⟩]
def q_ref36_Append_7 : List AOper := [
  ⟨(some 34), (.fadr 0 1 .sc (.t 2)), none⟩,
  ⟨(some 35), (.load .sc 1 (.t 34)), none⟩,
  ⟨(some 36), (.fadr 1 1 .sc (.t 2)), none⟩,
  ⟨(some 37), (.load .sc 1 (.t 36)), none⟩,
  ⟨(some 38), (.build .ag [(.int .i64 0), (.int .i64 0), .nilS] [(0, (1, (.t 35))), (1, (1, (.t 37)))]), none⟩,
  ⟨(some 10), (.alloc 42 [(.int .i64 0), (.int .i64 0), .nilS]), none⟩,
  ⟨none, (.store .ag 3 (.t 10) (.t 38)), none⟩]
def q_ref36_Append_8 : List AOper := [
  ⟨(some 39), (.fadr 2 1 .sc (.t 10)), none⟩,
  ⟨(some 40), (.load .sc 1 (.t 39)), none⟩,
  ⟨(some 41), (.fadr 2 1 .sc (.t 2)), none⟩,
  ⟨(some 42), (.load .sc 1 (.t 41)), none⟩,
  ⟨(some 43), (.app 22 1 24 (.t 40) (.t 42)), none⟩,
  ⟨(some 44), (.fadr 2 1 .sc (.t 10)), none⟩,
  ⟨none, (.store .sc 1 (.t 44) (.t 43)), none⟩]
def q_ref36_Append_9 : List AOper := [
  ⟨(some 45), (.fadr 2 1 .sc (.t 10)), none⟩,
  ⟨(some 46), (.load .sc 1 (.t 45)), none⟩,
  ⟨(some 47), (.mv (.t 1)), none⟩,
  ⟨(some 48), (.bsl 22 .sc 1 [(.t 47)]), none⟩,
  ⟨(some 49), (.app 22 1 24 (.t 46) (.t 48)), none⟩,
  ⟨(some 50), (.fadr 2 1 .sc (.t 10)), none⟩,
  ⟨none, (.store .sc 1 (.t 50) (.t 49)), none⟩]
def q_ref36_Append_10 : List AOper := [
  ⟨(some 51), (.load .ag 3 (.t 10)), none⟩,
  ⟨(some 52), (.mv (.t 7)), none⟩,
  ⟨none, (.store .ag 3 (.t 4) (.t 51)), none⟩,
  ⟨(some 5), (.mv (.t 52)), none⟩,
  ⟨(some 6), (.mv (.v (.int .i64 0))), none⟩]
def a_ref36_Append : AFunc := ⟨[(.cell 4 .ag 3), (.tmp 5), (.tmp 6)], (.seq (.region q_ref36_Append_0) (.seq (.seq (.region q_ref36_Append_1) (.cond (.t 16) (.seq (.region q_ref36_Append_2) .ret) .skip)) (.seq (.region q_ref36_Append_3) (.seq (.seq (.region q_ref36_Append_4) (.seq (.region q_ref36_Append_5) (.cond (.t 31) (.seq (.region q_ref36_Append_6) .ret) .skip))) (.seq (.region q_ref36_Append_7) (.seq (.region q_ref36_Append_8) (.seq (.region q_ref36_Append_9) (.seq (.region q_ref36_Append_10) .ret))))))))⟩

def q_law36_RingSectors_0 : List AOper := [
  ⟨(some 5), (.box 23 (.ia .u8 256) (.t 2)), none⟩,
  ⟨(some 6), (.mv (.v (.bool false))), none⟩]
def q_law36_RingSectors_1 : List AOper := [
  ⟨(some 17), (.mv (.t 1)), none⟩,
  ⟨(some 18), (.len false (.t 17)), none⟩,
  ⟨(some 19), (.bin .gtr (.t 18) (.v (.int .i64 400))), none⟩]
def q_law36_RingSectors_2 : List AOper := [
  ⟨(some 20), (.call F_law36_works []), none⟩,
  ⟨(some 6), (.mv (.t 20)), none⟩]
def q_law36_RingSectors_3 : List AOper := [
  ⟨(some 22), (.mv (.t 0)), none⟩,
  ⟨(some 23), (.mv (.t 1)), none⟩,
  ⟨(some 24), (.call F_ring_Put [(.sc, (.t 22)), (.sc, (.t 23))]), none⟩,
  ⟨(some 21), (.mv (.t 24)), none⟩,
  ⟨(some 25), (.ext 0 (.t 21)), none⟩,
  ⟨(some 26), (.ext 1 (.t 21)), none⟩,
  ⟨(some 7), (.alloc 23 [(.iarr .u8 256 (List.replicate 256 0))]), none⟩,
  ⟨none, (.store (.ia .u8 256) 256 (.t 7) (.t 25)), none⟩,
  ⟨(some 8), (.mv (.t 26)), none⟩]
def q_law36_RingSectors_4 : List AOper := [
  ⟨(some 28), (.mv (.t 0)), none⟩,
  ⟨(some 29), (.mv (.t 1)), none⟩,
  ⟨(some 30), (.call F_ref36_Put [(.sc, (.t 28)), (.sc, (.t 29))]), none⟩,
  ⟨(some 27), (.mv (.t 30)), none⟩,
  ⟨(some 31), (.ext 0 (.t 27)), none⟩,
  ⟨(some 32), (.ext 1 (.t 27)), none⟩,
  ⟨(some 9), (.alloc 23 [(.iarr .u8 256 (List.replicate 256 0))]), none⟩,
  ⟨none, (.store (.ia .u8 256) 256 (.t 9) (.t 31)), none⟩,
  ⟨(some 10), (.mv (.t 32)), none⟩]
def q_law36_RingSectors_5 : List AOper := [
  ⟨(some 34), (.load (.ia .u8 256) 256 (.t 5)), none⟩,
  ⟨(some 35), (.call F_ring_Get [((.ia .u8 256), (.t 34))]), none⟩,
  ⟨(some 33), (.mv (.t 35)), none⟩,
  ⟨(some 36), (.ext 0 (.t 33)), none⟩,
  ⟨(some 37), (.ext 1 (.t 33)), none⟩,
  ⟨(some 38), (.ext 2 (.t 33)), none⟩,
  ⟨(some 11), (.mv (.t 36)), none⟩,
  ⟨(some 12), (.mv (.t 37)), none⟩,
  ⟨(some 13), (.mv (.t 38)), none⟩]
def q_law36_RingSectors_6 : List AOper := [
  ⟨(some 40), (.load (.ia .u8 256) 256 (.t 5)), none⟩,
  ⟨(some 41), (.call F_ref36_Get [((.ia .u8 256), (.t 40))]), none⟩,
  ⟨(some 39), (.mv (.t 41)), none⟩,
  ⟨(some 42), (.ext 0 (.t 39)), none⟩,
  ⟨(some 43), (.ext 1 (.t 39)), none⟩,
  ⟨(some 44), (.ext 2 (.t 39)), none⟩,
  ⟨(some 14), (.mv (.t 42)), none⟩,
  ⟨(some 15), (.mv (.t 43)), none⟩,
  ⟨(some 16), (.mv (.t 44)), none⟩]
def q_law36_RingSectors_7 : List AOper := [
  ⟨(some 45), (.load (.ia .u8 256) 256 (.t 7)), none⟩,
  ⟨(some 46), (.load (.ia .u8 256) 256 (.t 9)), none⟩,
  ⟨(some 47), (.eq (.ia 256) false (.t 45) (.t 46)), none⟩,
  ⟨(some 48), (.mv (.t 47)), none⟩,
  ⟨(some 49), (.mv (.t 8)), (some (48, true))⟩,
  ⟨(some 50), (.mv (.t 10)), (some (48, true))⟩,
  ⟨(some 51), (.eq .scI false (.t 49) (.t 50)), (some (48, true))⟩,
  ⟨(some 52), (.pick (.t 48) (.t 51) (.v (.bool false))), none⟩,
  ⟨(some 53), (.mv (.t 52)), none⟩,
  ⟨(some 54), (.mv (.t 13)), (some (53, true))⟩,
  ⟨(some 55), (.mv (.t 16)), (some (53, true))⟩,
  ⟨(some 56), (.eq .scB false (.t 54) (.t 55)), (some (53, true))⟩,
  ⟨(some 57), (.pick (.t 53) (.t 56) (.v (.bool false))), none⟩,
  ⟨(some 58), (.mv (.t 57)), none⟩,
  ⟨(some 59), (.mv (.t 13)), (some (58, true))⟩,
  ⟨(some 60), (.un .not (.t 59)), (some (58, true))⟩,
  ⟨(some 61), (.mv (.t 60)), (some (58, true))⟩,
  ⟨(some 62), (.mv (.t 11)), (some (61, false))⟩,
  ⟨(some 63), (.mv (.t 14)), (some (61, false))⟩,
  ⟨(some 64), (.eq .scI false (.t 62) (.t 63)), (some (61, false))⟩,
  ⟨(some 65), (.mv (.t 64)), (some (61, false))⟩,
  ⟨(some 66), (.mv (.t 12)), (some (65, true))⟩,
  ⟨(some 67), (.mv (.t 15)), (some (65, true))⟩,
  ⟨(some 68), (.call F_ref01_Same [(.sc, (.t 66)), (.sc, (.t 67))]), (some (65, true))⟩,
  ⟨(some 69), (.pick (.t 65) (.t 68) (.v (.bool false))), (some (61, false))⟩,
  ⟨(some 70), (.pick (.t 61) (.v (.bool true)) (.t 69)), (some (58, true))⟩,
  ⟨(some 71), (.pick (.t 58) (.t 70) (.v (.bool false))), none⟩,
  ⟨(some 72), (.mv (.t 71)), none⟩,
  ⟨(some 73), (.call F_law36_works []), (some (72, true))⟩,
  ⟨(some 74), (.pick (.t 72) (.t 73) (.v (.bool false))), none⟩,
  ⟨(some 6), (.mv (.t 74)), none⟩]
def a_law36_RingSectors : AFunc := ⟨[(.tmp 6)], (.seq (.region q_law36_RingSectors_0) (.seq (.seq (.region q_law36_RingSectors_1) (.cond (.t 19) (.seq (.region q_law36_RingSectors_2) .ret) .skip)) (.seq (.region q_law36_RingSectors_3) (.seq (.region q_law36_RingSectors_4) (.seq (.region q_law36_RingSectors_5) (.seq (.region q_law36_RingSectors_6) (.seq (.region q_law36_RingSectors_7) .ret)))))))⟩

def q_law36_RingDoes_0 : List AOper := [
  ⟨(some 4), (.mv (.v (.bool false))), none⟩]
def q_law36_RingDoes_1 : List AOper := [
  ⟨(some 23), (.mv (.t 1)), none⟩,
  ⟨(some 24), (.call F_law36_light [(.sc, (.t 23))]), none⟩,
  ⟨(some 25), (.un .not (.t 24)), none⟩]
def q_law36_RingDoes_2 : List AOper := [
  ⟨(some 26), (.call F_law36_works []), none⟩,
  ⟨(some 4), (.mv (.t 26)), none⟩]
def q_law36_RingDoes_3 : List AOper := [
  ⟨(some 27), (.mv (.t 0)), none⟩,
  ⟨(some 28), (.conv .i64 (.t 27)), none⟩,
  ⟨(some 29), (.bin .rem (.t 28) (.v (.int .i64 8))), none⟩,
  ⟨(some 30), (.bin .add (.v (.int .i64 2)) (.t 29)), none⟩,
  ⟨(some 5), (.mv (.t 30)), none⟩]
def q_law36_RingDoes_4 : List AOper := [
  ⟨(some 32), (.mv (.t 5)), none⟩,
  ⟨(some 33), (.bin .add (.t 32) (.v (.int .i64 3))), none⟩,
  ⟨(some 34), (.call F_disk_New [(.sc, (.t 33))]), none⟩,
  ⟨(some 31), (.mv (.t 34)), none⟩,
  ⟨(some 35), (.ext 0 (.t 31)), none⟩,
  ⟨(some 36), (.ext 1 (.t 31)), none⟩,
  ⟨(some 6), (.mv (.t 35)), none⟩,
  ⟨(some 7), (.mv (.t 36)), none⟩]
def q_law36_RingDoes_5 : List AOper := [
  ⟨(some 37), (.mv (.t 6)), none⟩,
  ⟨(some 38), (.xx (.p (.isNil .ptr false)) [(.t 37)]), none⟩,
  ⟨(some 39), (.mv (.t 38)), none⟩,
  ⟨(some 40), (.mv (.t 7)), (some (39, false))⟩,
  ⟨(some 41), (.eq .scI true (.t 40) (.v (.int .i64 0))), (some (39, false))⟩,
  ⟨(some 42), (.pick (.t 39) (.v (.bool true)) (.t 41)), none⟩]
def q_law36_RingDoes_6 : List AOper := [
  ⟨(some 4), (.mv (.v (.bool false))), none⟩]
def q_law36_RingDoes_7 : List AOper := [
  ⟨(some 44), (.mv (.t 6)), none⟩,
  ⟨(some 45), (.mv (.t 5)), none⟩,
  ⟨(some 46), (.call F_ring_New [(.sc, (.t 44)), (.sc, (.v (.int .i64 2))), (.sc, (.t 45))]), none⟩,
  ⟨(some 43), (.mv (.t 46)), none⟩,
  ⟨(some 47), (.ext 0 (.t 43)), none⟩,
  ⟨(some 48), (.ext 1 (.t 43)), none⟩,
  ⟨(some 8), (.mv (.t 47)), none⟩,
  ⟨(some 9), (.mv (.t 48)), none⟩]
def q_law36_RingDoes_8 : List AOper := [
  ⟨(some 49), (.mv (.t 8)), none⟩,
  ⟨(some 50), (.xx (.p (.isNil .ptr false)) [(.t 49)]), none⟩,
  ⟨(some 51), (.mv (.t 50)), none⟩,
  ⟨(some 52), (.mv (.t 9)), (some (51, false))⟩,
  ⟨(some 53), (.eq .scI true (.t 52) (.v (.int .i64 0))), (some (51, false))⟩,
  ⟨(some 54), (.pick (.t 51) (.v (.bool true)) (.t 53)), none⟩]
def q_law36_RingDoes_9 : List AOper := [
  ⟨(some 4), (.mv (.v (.bool false))), none⟩]
def q_law36_RingDoes_10 : List AOper := [
  ⟨(some 55), (.mv (.t 5)), none⟩,
  ⟨(some 56), (.build .ag [(.int .i64 0), (.int .i64 0), .nilS] [(0, (1, (.t 55)))]), none⟩,
  ⟨(some 10), (.alloc 42 [(.int .i64 0), (.int .i64 0), .nilS]), none⟩,
  ⟨none, (.store .ag 3 (.t 10) (.t 56)), none⟩]
def q_law36_RingDoes_11 : List AOper := [
  ⟨(some 11), (.mv (.v (.int .i64 0))), none⟩]
def q_law36_RingDoes_12 : List AOper := [
  ⟨(some 57), (.mv (.t 11)), none⟩,
  ⟨(some 58), (.mv (.t 1)), none⟩,
  ⟨(some 59), (.len false (.t 58)), none⟩,
  ⟨(some 60), (.bin .lss (.t 57) (.t 59)), none⟩]
def q_law36_RingDoes_13 : List AOper := [
  ⟨(some 63), (.mv (.t 1)), none⟩,
  ⟨(some 64), (.mv (.t 11)), none⟩,
  ⟨(some 65), (.idx 6 (.t 63) (.t 64)), none⟩,
  ⟨(some 66), (.fadr 0 1 .sc (.t 65)), none⟩,
  ⟨(some 67), (.load .sc 1 (.t 66)), none⟩,
  ⟨(some 68), (.eq .scI false (.t 67) (.v (.int .i64 2))), none⟩]
def q_law36_RingDoes_14 : List DOp := [
  ⟨⟨(some 70), (.mv (.t 8)), none⟩, true, false, none, []⟩,
  ⟨⟨(some 71), (.fadr 1 1 .sc (.t 10)), none⟩, true, false, none, []⟩,
  ⟨⟨(some 72), (.load .sc 1 (.t 71)), none⟩, true, false, none, []⟩,
  ⟨⟨(some 73), (.mv (.t 1)), none⟩, true, false, none, []⟩,
  ⟨⟨(some 74), (.mv (.t 11)), none⟩, true, false, none, []⟩,
  ⟨⟨(some 75), (.idx 6 (.t 73) (.t 74)), none⟩, true, false, none, []⟩,
  ⟨⟨(some 76), (.fadr 2 1 .sc (.t 75)), none⟩, true, false, none, []⟩,
  ⟨⟨(some 77), (.load .sc 1 (.t 76)), none⟩, true, false, none, []⟩,
  ⟨⟨(some 78), (.conv .i64 (.t 77)), none⟩, true, false, none, []⟩,
  ⟨⟨(some 79), (.bin .rem (.t 78) (.v (.int .i64 12))), none⟩, true, false, none, []⟩,
  ⟨⟨(some 80), (.bin .add (.t 72) (.t 79)), none⟩, true, false, none, []⟩,
  ⟨⟨(some 81), (.call F_Pring_Ring_Drop [(.sc, (.t 70)), (.sc, (.t 80))]), none⟩, false, false, none, []⟩,
  ⟨⟨(some 69), (.mv (.t 81)), none⟩, true, false, none, []⟩,
  ⟨⟨(some 82), (.ext 0 (.t 69)), none⟩, true, false, none, []⟩,
  ⟨⟨(some 83), (.ext 1 (.t 69)), none⟩, true, false, none, []⟩,
  ⟨⟨(some 12), (.mv (.t 82)), none⟩, true, false, none, []⟩,
  ⟨⟨(some 13), (.mv (.t 83)), none⟩, true, false, none, []⟩]
def q_law36_RingDoes_15 : List DOp := [
  ⟨⟨(some 85), (.load .ag 3 (.t 10)), none⟩, true, false, none, []⟩,
  ⟨⟨(some 86), (.fadr 1 1 .sc (.t 10)), none⟩, true, false, none, []⟩,
  ⟨⟨(some 87), (.load .sc 1 (.t 86)), none⟩, true, false, none, []⟩,
  ⟨⟨(some 88), (.mv (.t 1)), none⟩, true, false, none, []⟩,
  ⟨⟨(some 89), (.mv (.t 11)), none⟩, true, false, none, []⟩,
  ⟨⟨(some 90), (.idx 6 (.t 88) (.t 89)), none⟩, true, false, none, []⟩,
  ⟨⟨(some 91), (.fadr 2 1 .sc (.t 90)), none⟩, true, false, none, []⟩,
  ⟨⟨(some 92), (.load .sc 1 (.t 91)), none⟩, true, false, none, []⟩,
  ⟨⟨(some 93), (.conv .i64 (.t 92)), none⟩, true, false, none, []⟩,
  ⟨⟨(some 94), (.bin .rem (.t 93) (.v (.int .i64 12))), none⟩, true, false, none, []⟩,
  ⟨⟨(some 95), (.bin .add (.t 87) (.t 94)), none⟩, true, false, none, []⟩,
  ⟨⟨(some 96), (.call F_ref36_Drop [(.ag, (.t 85)), (.sc, (.t 95))]), none⟩, false, false, none, []⟩,
  ⟨⟨(some 84), (.mv (.t 96)), none⟩, true, false, none, []⟩,
  ⟨⟨(some 97), (.ext 0 (.t 84)), none⟩, true, false, none, []⟩,
  ⟨⟨(some 98), (.ext 1 (.t 84)), none⟩, true, false, none, []⟩,
  ⟨⟨(some 14), (.alloc 42 [(.int .i64 0), (.int .i64 0), .nilS]), none⟩, false, false, none, []⟩,
  ⟨⟨none, (.store .ag 3 (.t 14) (.t 97)), none⟩, false, false, none, []⟩,
  ⟨⟨(some 15), (.mv (.t 98)), none⟩, true, false, none, []⟩]
def q_law36_RingDoes_16 : List AOper := [
  ⟨(some 99), (.load .ag 3 (.t 14)), none⟩,
  ⟨none, (.store .ag 3 (.t 10) (.t 99)), none⟩]
def q_law36_RingDoes_17 : List AOper := [
  ⟨(some 100), (.mv (.t 12)), none⟩,
  ⟨(some 101), (.mv (.t 15)), none⟩,
  ⟨(some 102), (.eq .scI true (.t 100) (.t 101)), none⟩,
  ⟨(some 103), (.mv (.t 102)), none⟩,
  ⟨(some 104), (.mv (.t 13)), (some (103, false))⟩,
  ⟨(some 105), (.eq .scI true (.t 104) (.v (.int .i64 0))), (some (103, false))⟩,
  ⟨(some 106), (.pick (.t 103) (.v (.bool true)) (.t 105)), none⟩]
def q_law36_RingDoes_18 : List AOper := [
  ⟨(some 4), (.mv (.v (.bool false))), none⟩]
def q_law36_RingDoes_19 : List AOper := [
  ⟨(some 108), (.mv (.t 8)), none⟩,
  ⟨(some 109), (.mv (.t 1)), none⟩,
  ⟨(some 110), (.mv (.t 11)), none⟩,
  ⟨(some 111), (.idx 6 (.t 109) (.t 110)), none⟩,
  ⟨(some 112), (.fadr 1 1 .sc (.t 111)), none⟩,
  ⟨(some 113), (.load .sc 1 (.t 112)), none⟩,
  ⟨(some 114), (.call F_Pring_Ring_Append [(.sc, (.t 108)), (.sc, (.t 113))]), none⟩,
  ⟨(some 107), (.mv (.t 114)), none⟩,
  ⟨(some 115), (.ext 0 (.t 107)), none⟩,
  ⟨(some 116), (.ext 1 (.t 107)), none⟩,
  ⟨(some 16), (.mv (.t 115)), none⟩,
  ⟨(some 17), (.mv (.t 116)), none⟩]
def q_law36_RingDoes_20 : List DOp := [
  ⟨⟨(some 118), (.load .ag 3 (.t 10)), none⟩, true, false, none, []⟩,
  ⟨⟨(some 119), (.mv (.t 1)), none⟩, true, false, none, []⟩,
  ⟨⟨(some 120), (.mv (.t 11)), none⟩, true, false, none, []⟩,
  ⟨⟨(some 121), (.idx 6 (.t 119) (.t 120)), none⟩, true, false, none, []⟩,
  ⟨⟨(some 122), (.fadr 1 1 .sc (.t 121)), none⟩, true, false, none, []⟩,
  ⟨⟨(some 123), (.load .sc 1 (.t 122)), none⟩, true, false, none, []⟩,
  ⟨⟨(some 124), (.call F_ref36_Append [(.ag, (.t 118)), (.sc, (.t 123))]), none⟩, false, false, none, []⟩,
  ⟨⟨(some 117), (.mv (.t 124)), none⟩, true, false, none, []⟩,
  ⟨⟨(some 125), (.ext 0 (.t 117)), none⟩, true, false, none, []⟩,
  ⟨⟨(some 126), (.ext 1 (.t 117)), none⟩, true, false, none, []⟩,
  ⟨⟨(some 127), (.ext 2 (.t 117)), none⟩, true, false, none, []⟩,
  ⟨⟨(some 18), (.alloc 42 [(.int .i64 0), (.int .i64 0), .nilS]), none⟩, false, false, none, []⟩,
  ⟨⟨none, (.store .ag 3 (.t 18) (.t 125)), none⟩, false, false, none, []⟩,
  ⟨⟨(some 19), (.mv (.t 126)), none⟩, true, false, none, []⟩,
  ⟨⟨(some 20), (.mv (.t 127)), none⟩, true, false, none, []⟩]
def q_law36_RingDoes_21 : List AOper := [
  ⟨(some 128), (.load .ag 3 (.t 18)), none⟩,
  ⟨none, (.store .ag 3 (.t 10) (.t 128)), none⟩]
def q_law36_RingDoes_22 : List AOper := [
  ⟨(some 129), (.mv (.t 16)), none⟩,
  ⟨(some 130), (.mv (.t 19)), none⟩,
  ⟨(some 131), (.eq .scI true (.t 129) (.t 130)), none⟩,
  ⟨(some 132), (.mv (.t 131)), none⟩,
  ⟨(some 133), (.mv (.t 17)), (some (132, false))⟩,
  ⟨(some 134), (.mv (.t 20)), (some (132, false))⟩,
  ⟨(some 135), (.eq .scI true (.t 133) (.t 134)), (some (132, false))⟩,
  ⟨(some 136), (.pick (.t 132) (.v (.bool true)) (.t 135)), none⟩]
def q_law36_RingDoes_23 : List AOper := [
  ⟨(some 4), (.mv (.v (.bool false))), none⟩]
def q_law36_RingDoes_24 : List AOper := [
  ⟨(some 137), (.mv (.t 8)), none⟩,
  ⟨(some 138), (.load .ag 3 (.t 10)), none⟩,
  ⟨(some 139), (.call F_law36_same [(.sc, (.t 137)), (.ag, (.t 138))]), none⟩,
  ⟨(some 140), (.un .not (.t 139)), none⟩]
def q_law36_RingDoes_25 : List AOper := [
  ⟨(some 4), (.mv (.v (.bool false))), none⟩]
def q_law36_RingDoes_26 : List AOper := [
  ⟨(some 142), (.mv (.t 6)), none⟩,
  ⟨(some 143), (.mv (.t 5)), none⟩,
  ⟨(some 144), (.mv (.t 8)), none⟩,
  ⟨(some 145), (.call F_Pring_Ring_Next [(.sc, (.t 144))]), none⟩,
  ⟨(some 146), (.call F_ring_Open [(.sc, (.t 142)), (.sc, (.v (.int .i64 2))), (.sc, (.t 143)), (.sc, (.t 145))]), none⟩,
  ⟨(some 141), (.mv (.t 146)), none⟩,
  ⟨(some 147), (.ext 0 (.t 141)), none⟩,
  ⟨(some 148), (.ext 1 (.t 141)), none⟩,
  ⟨(some 21), (.mv (.t 147)), none⟩,
  ⟨(some 22), (.mv (.t 148)), none⟩]
def q_law36_RingDoes_27 : List AOper := [
  ⟨(some 149), (.mv (.t 22)), none⟩,
  ⟨(some 150), (.eq .scI true (.t 149) (.v (.int .i64 0))), none⟩,
  ⟨(some 151), (.mv (.t 150)), none⟩,
  ⟨(some 152), (.mv (.t 21)), (some (151, false))⟩,
  ⟨(some 153), (.xx (.p (.isNil .ptr false)) [(.t 152)]), (some (151, false))⟩,
  ⟨(some 154), (.pick (.t 151) (.v (.bool true)) (.t 153)), none⟩,
  ⟨(some 155), (.mv (.t 154)), none⟩,
  ⟨(some 156), (.mv (.t 21)), (some (155, false))⟩,
  ⟨(some 157), (.load .ag 3 (.t 10)), (some (155, false))⟩,
  ⟨(some 158), (.call F_law36_same [(.sc, (.t 156)), (.ag, (.t 157))]), (some (155, false))⟩,
  ⟨(some 159), (.un .not (.t 158)), (some (155, false))⟩,
  ⟨(some 160), (.pick (.t 155) (.v (.bool true)) (.t 159)), none⟩]
def q_law36_RingDoes_28 : List AOper := [
  ⟨(some 4), (.mv (.v (.bool false))), none⟩]
def q_law36_RingDoes_29 : List AOper := [
  ⟨(some 61), (.mv (.t 11)), none⟩,
  ⟨(some 62), (.bin .add (.t 61) (.v (.int .i64 1))), none⟩,
  ⟨(some 11), (.mv (.t 62)), none⟩]
def q_law36_RingDoes_L30 : ACode := (.seq (.seq (.region q_law36_RingDoes_12) (.cond (.t 60) .skip (.exit 0))) (.seq (.block 1 (.seq (.seq (.region q_law36_RingDoes_13) (.cond (.t 68) (.seq (.regionD q_law36_RingDoes_14) (.seq (.regionD q_law36_RingDoes_15) (.seq (.region q_law36_RingDoes_16) (.seq (.region q_law36_RingDoes_17) (.cond (.t 106) (.seq (.region q_law36_RingDoes_18) .ret) .skip))))) (.seq (.region q_law36_RingDoes_19) (.seq (.regionD q_law36_RingDoes_20) (.seq (.region q_law36_RingDoes_21) (.seq (.region q_law36_RingDoes_22) (.cond (.t 136) (.seq (.region q_law36_RingDoes_23) .ret) .skip))))))) (.seq (.seq (.region q_law36_RingDoes_24) (.cond (.t 140) (.seq (.region q_law36_RingDoes_25) .ret) .skip)) (.seq (.region q_law36_RingDoes_26) (.seq (.region q_law36_RingDoes_27) (.cond (.t 160) (.seq (.region q_law36_RingDoes_28) .ret) .skip)))))) (.region q_law36_RingDoes_29)))
def q_law36_RingDoes_30 : List AOper := [
  ⟨(some 161), (.call F_law36_works []), none⟩,
  ⟨(some 4), (.mv (.t 161)), none⟩]
def a_law36_RingDoes : AFunc := ⟨[(.tmp 4)], (.seq (.region q_law36_RingDoes_0) (.seq (.seq (.region q_law36_RingDoes_1) (.cond (.t 25) (.seq (.region q_law36_RingDoes_2) .ret) .skip)) (.seq (.region q_law36_RingDoes_3) (.seq (.region q_law36_RingDoes_4) (.seq (.seq (.region q_law36_RingDoes_5) (.cond (.t 42) (.seq (.region q_law36_RingDoes_6) .ret) .skip)) (.seq (.region q_law36_RingDoes_7) (.seq (.seq (.region q_law36_RingDoes_8) (.cond (.t 54) (.seq (.region q_law36_RingDoes_9) .ret) .skip)) (.seq (.region q_law36_RingDoes_10) (.seq (.seq (.region q_law36_RingDoes_11) (.block 0 (.loop q_law36_RingDoes_L30))) (.seq (.region q_law36_RingDoes_30) .ret))))))))))⟩

def q_law36_RingTurns_0 : List AOper := [
  ⟨(some 4), (.mv (.v (.bool false))), none⟩]
def q_law36_RingTurns_1 : List AOper := [
  ⟨(some 19), (.mv (.t 1)), none⟩,
  ⟨(some 20), (.len false (.t 19)), none⟩,
  ⟨(some 21), (.bin .gtr (.t 20) (.v (.int .i64 100))), none⟩]
def q_law36_RingTurns_2 : List AOper := [
  ⟨(some 22), (.call F_law36_works []), none⟩,
  ⟨(some 4), (.mv (.t 22)), none⟩]
def q_law36_RingTurns_3 : List AOper := [
  ⟨(some 23), (.mv (.t 0)), none⟩,
  ⟨(some 24), (.conv .i64 (.t 23)), none⟩,
  ⟨(some 25), (.bin .rem (.t 24) (.v (.int .i64 8))), none⟩,
  ⟨(some 26), (.bin .add (.v (.int .i64 2)) (.t 25)), none⟩,
  ⟨(some 5), (.mv (.t 26)), none⟩]
def q_law36_RingTurns_4 : List AOper := [
  ⟨(some 28), (.mv (.t 5)), none⟩,
  ⟨(some 29), (.call F_disk_New [(.sc, (.t 28))]), none⟩,
  ⟨(some 27), (.mv (.t 29)), none⟩,
  ⟨(some 30), (.ext 0 (.t 27)), none⟩,
  ⟨(some 31), (.ext 1 (.t 27)), none⟩,
  ⟨(some 6), (.mv (.t 30)), none⟩,
  ⟨(some 7), (.mv (.t 31)), none⟩]
def q_law36_RingTurns_5 : List AOper := [
  ⟨(some 32), (.mv (.t 6)), none⟩,
  ⟨(some 33), (.xx (.p (.isNil .ptr false)) [(.t 32)]), none⟩,
  ⟨(some 34), (.mv (.t 33)), none⟩,
  ⟨(some 35), (.mv (.t 7)), (some (34, false))⟩,
  ⟨(some 36), (.eq .scI true (.t 35) (.v (.int .i64 0))), (some (34, false))⟩,
  ⟨(some 37), (.pick (.t 34) (.v (.bool true)) (.t 36)), none⟩]
def q_law36_RingTurns_6 : List AOper := [
  ⟨(some 4), (.mv (.v (.bool false))), none⟩]
def q_law36_RingTurns_7 : List AOper := [
  ⟨(some 39), (.mv (.t 6)), none⟩,
  ⟨(some 40), (.mv (.t 5)), none⟩,
  ⟨(some 41), (.call F_ring_New [(.sc, (.t 39)), (.sc, (.v (.int .i64 0))), (.sc, (.t 40))]), none⟩,
  ⟨(some 38), (.mv (.t 41)), none⟩,
  ⟨(some 42), (.ext 0 (.t 38)), none⟩,
  ⟨(some 43), (.ext 1 (.t 38)), none⟩,
  ⟨(some 8), (.mv (.t 42)), none⟩,
  ⟨(some 9), (.mv (.t 43)), none⟩]
def q_law36_RingTurns_8 : List AOper := [
  ⟨(some 44), (.mv (.t 8)), none⟩,
  ⟨(some 45), (.xx (.p (.isNil .ptr false)) [(.t 44)]), none⟩,
  ⟨(some 46), (.mv (.t 45)), none⟩,
  ⟨(some 47), (.mv (.t 9)), (some (46, false))⟩,
  ⟨(some 48), (.eq .scI true (.t 47) (.v (.int .i64 0))), (some (46, false))⟩,
  ⟨(some 49), (.pick (.t 46) (.v (.bool true)) (.t 48)), none⟩]
def q_law36_RingTurns_9 : List AOper := [
  ⟨(some 4), (.mv (.v (.bool false))), none⟩]
def q_law36_RingTurns_10 : List AOper := [
  ⟨(some 10), (.mv (.v (.int .i64 0))), none⟩]
def q_law36_RingTurns_11 : List AOper := [
  ⟨(some 50), (.mv (.t 10)), none⟩,
  ⟨(some 51), (.mv (.t 1)), none⟩,
  ⟨(some 52), (.len false (.t 51)), none⟩,
  ⟨(some 53), (.bin .lss (.t 50) (.t 52)), none⟩]
def q_law36_RingTurns_12 : List AOper := [
  ⟨(some 56), (.mv (.t 1)), none⟩,
  ⟨(some 57), (.mv (.t 10)), none⟩,
  ⟨(some 58), (.idx 1 (.t 56) (.t 57)), none⟩,
  ⟨(some 59), (.load .sc 1 (.t 58)), none⟩,
  ⟨(some 60), (.len false (.t 59)), none⟩,
  ⟨(some 61), (.bin .gtr (.t 60) (.v (.int .i64 224))), none⟩]
def q_law36_RingTurns_13 : List AOper := [
  ⟨(some 62), (.call F_law36_works []), none⟩,
  ⟨(some 4), (.mv (.t 62)), none⟩]
def q_law36_RingTurns_14 : List AOper := [
  ⟨(some 63), (.mv (.t 8)), none⟩,
  ⟨(some 64), (.call F_Pring_Ring_Len [(.sc, (.t 63))]), none⟩,
  ⟨(some 65), (.mv (.t 5)), none⟩,
  ⟨(some 66), (.eq .scI false (.t 64) (.t 65)), none⟩]
def q_law36_RingTurns_15 : List AOper := [
  ⟨(some 67), (.mv (.t 8)), none⟩,
  ⟨(some 68), (.mv (.t 8)), none⟩,
  ⟨(some 69), (.call F_Pring_Ring_First [(.sc, (.t 68))]), none⟩,
  ⟨(some 70), (.bin .add (.t 69) (.v (.int .i64 1))), none⟩,
  ⟨(some 71), (.call F_Pring_Ring_Drop [(.sc, (.t 67)), (.sc, (.t 70))]), none⟩]
def q_law36_RingTurns_16 : List AOper := [
  ⟨(some 73), (.mv (.t 8)), none⟩,
  ⟨(some 74), (.mv (.t 1)), none⟩,
  ⟨(some 75), (.mv (.t 10)), none⟩,
  ⟨(some 76), (.idx 1 (.t 74) (.t 75)), none⟩,
  ⟨(some 77), (.load .sc 1 (.t 76)), none⟩,
  ⟨(some 78), (.call F_Pring_Ring_Append [(.sc, (.t 73)), (.sc, (.t 77))]), none⟩,
  ⟨(some 72), (.mv (.t 78)), none⟩,
  ⟨(some 79), (.ext 0 (.t 72)), none⟩,
  ⟨(some 80), (.ext 1 (.t 72)), none⟩,
  ⟨(some 11), (.mv (.t 79)), none⟩,
  ⟨(some 12), (.mv (.t 80)), none⟩]
def q_law36_RingTurns_17 : List AOper := [
  ⟨(some 81), (.mv (.t 11)), none⟩,
  ⟨(some 82), (.mv (.t 10)), none⟩,
  ⟨(some 83), (.eq .scI true (.t 81) (.t 82)), none⟩,
  ⟨(some 84), (.mv (.t 83)), none⟩,
  ⟨(some 85), (.mv (.t 12)), (some (84, false))⟩,
  ⟨(some 86), (.eq .scI true (.t 85) (.v (.int .i64 0))), (some (84, false))⟩,
  ⟨(some 87), (.pick (.t 84) (.v (.bool true)) (.t 86)), none⟩]
def q_law36_RingTurns_18 : List AOper := [
  ⟨(some 4), (.mv (.v (.bool false))), none⟩]
def q_law36_RingTurns_19 : List AOper := [
  ⟨(some 54), (.mv (.t 10)), none⟩,
  ⟨(some 55), (.bin .add (.t 54) (.v (.int .i64 1))), none⟩,
  ⟨(some 10), (.mv (.t 55)), none⟩]
def q_law36_RingTurns_L20 : ACode := (.seq (.seq (.region q_law36_RingTurns_11) (.cond (.t 53) .skip (.exit 0))) (.seq (.block 1 (.seq (.seq (.region q_law36_RingTurns_12) (.cond (.t 61) (.seq (.region q_law36_RingTurns_13) .ret) .skip)) (.seq (.seq (.region q_law36_RingTurns_14) (.cond (.t 66) (.region q_law36_RingTurns_15) .skip)) (.seq (.region q_law36_RingTurns_16) (.seq (.region q_law36_RingTurns_17) (.cond (.t 87) (.seq (.region q_law36_RingTurns_18) .ret) .skip)))))) (.region q_law36_RingTurns_19)))
def q_law36_RingTurns_20 : List AOper := [
  ⟨(some 13), (.mv (.v (.int .i64 0))), none⟩]
def q_law36_RingTurns_21 : List AOper := [
  ⟨(some 88), (.mv (.t 13)), none⟩,
  ⟨(some 89), (.mv (.t 1)), none⟩,
  ⟨(some 90), (.len false (.t 89)), none⟩,
  ⟨(some 91), (.bin .lss (.t 88) (.t 90)), none⟩]
def q_law36_RingTurns_22 : List AOper := [
  ⟨(some 95), (.mv (.t 8)), none⟩,
  ⟨(some 96), (.mv (.t 13)), none⟩,
  ⟨(some 97), (.call F_Pring_Ring_Read [(.sc, (.t 95)), (.sc, (.t 96))]), none⟩,
  ⟨(some 94), (.mv (.t 97)), none⟩,
  ⟨(some 98), (.ext 0 (.t 94)), none⟩,
  ⟨(some 99), (.ext 1 (.t 94)), none⟩,
  ⟨(some 14), (.mv (.t 98)), none⟩,
  ⟨(some 15), (.mv (.t 99)), none⟩]
def q_law36_RingTurns_23 : List AOper := [
  ⟨(some 100), (.mv (.t 13)), none⟩,
  ⟨(some 101), (.mv (.t 1)), none⟩,
  ⟨(some 102), (.len false (.t 101)), none⟩,
  ⟨(some 103), (.mv (.t 5)), none⟩,
  ⟨(some 104), (.bin .sub (.t 102) (.t 103)), none⟩,
  ⟨(some 105), (.bin .geq (.t 100) (.t 104)), none⟩,
  ⟨(some 16), (.mv (.t 105)), none⟩]
def q_law36_RingTurns_24 : List AOper := [
  ⟨(some 106), (.mv (.t 16)), none⟩,
  ⟨(some 107), (.mv (.t 106)), none⟩,
  ⟨(some 108), (.mv (.t 15)), (some (107, true))⟩,
  ⟨(some 109), (.eq .scI true (.t 108) (.v (.int .i64 0))), (some (107, true))⟩,
  ⟨(some 110), (.mv (.t 109)), (some (107, true))⟩,
  ⟨(some 111), (.mv (.t 14)), (some (110, false))⟩,
  ⟨(some 112), (.mv (.t 1)), (some (110, false))⟩,
  ⟨(some 113), (.mv (.t 13)), (some (110, false))⟩,
  ⟨(some 114), (.idx 1 (.t 112) (.t 113)), (some (110, false))⟩,
  ⟨(some 115), (.load .sc 1 (.t 114)), (some (110, false))⟩,
  ⟨(some 116), (.call F_ref01_Same [(.sc, (.t 111)), (.sc, (.t 115))]), (some (110, false))⟩,
  ⟨(some 117), (.un .not (.t 116)), (some (110, false))⟩,
  ⟨(some 118), (.pick (.t 110) (.v (.bool true)) (.t 117)), (some (107, true))⟩,
  ⟨(some 119), (.pick (.t 107) (.t 118) (.v (.bool false))), none⟩,
  ⟨(some 120), (.mv (.t 119)), none⟩,
  ⟨(some 121), (.mv (.t 16)), (some (120, false))⟩,
  ⟨(some 122), (.un .not (.t 121)), (some (120, false))⟩,
  ⟨(some 123), (.mv (.t 122)), (some (120, false))⟩,
  ⟨(some 124), (.mv (.t 15)), (some (123, true))⟩,
  ⟨(some 125), (.eq .scI true (.t 124) (.v (.int .i64 8))), (some (123, true))⟩,
  ⟨(some 126), (.pick (.t 123) (.t 125) (.v (.bool false))), (some (120, false))⟩,
  ⟨(some 127), (.pick (.t 120) (.v (.bool true)) (.t 126)), none⟩]
def q_law36_RingTurns_25 : List AOper := [
  ⟨(some 4), (.mv (.v (.bool false))), none⟩]
def q_law36_RingTurns_26 : List AOper := [
  ⟨(some 92), (.mv (.t 13)), none⟩,
  ⟨(some 93), (.bin .add (.t 92) (.v (.int .i64 1))), none⟩,
  ⟨(some 13), (.mv (.t 93)), none⟩]
def q_law36_RingTurns_L27 : ACode := (.seq (.seq (.region q_law36_RingTurns_21) (.cond (.t 91) .skip (.exit 2))) (.seq (.block 3 (.seq (.region q_law36_RingTurns_22) (.seq (.region q_law36_RingTurns_23) (.seq (.region q_law36_RingTurns_24) (.cond (.t 127) (.seq (.region q_law36_RingTurns_25) .ret) .skip))))) (.region q_law36_RingTurns_26)))
def q_law36_RingTurns_27 : List AOper := [
  ⟨(some 129), (.mv (.t 8)), none⟩,
  ⟨(some 130), (.mv (.t 1)), none⟩,
  ⟨(some 131), (.len false (.t 130)), none⟩,
  ⟨(some 132), (.call F_Pring_Ring_Read [(.sc, (.t 129)), (.sc, (.t 131))]), none⟩,
  ⟨(some 128), (.mv (.t 132)), none⟩,
  ⟨(some 133), (.ext 0 (.t 128)), none⟩,
  ⟨(some 134), (.ext 1 (.t 128)), none⟩,
  ⟨(some 17), (.mv (.t 133)), none⟩,
  ⟨(some 18), (.mv (.t 134)), none⟩]
def q_law36_RingTurns_28 : List AOper := [
  ⟨(some 135), (.mv (.t 18)), none⟩,
  ⟨(some 136), (.eq .scI false (.t 135) (.v (.int .i64 8))), none⟩,
  ⟨(some 137), (.mv (.t 136)), none⟩,
  ⟨(some 138), (.mv (.t 8)), (some (137, true))⟩,
  ⟨(some 139), (.call F_Pring_Ring_Clean [(.sc, (.t 138))]), (some (137, true))⟩,
  ⟨(some 140), (.pick (.t 137) (.t 139) (.v (.bool false))), none⟩,
  ⟨(some 141), (.mv (.t 140)), none⟩,
  ⟨(some 142), (.call F_law36_works []), (some (141, true))⟩,
  ⟨(some 143), (.pick (.t 141) (.t 142) (.v (.bool false))), none⟩,
  ⟨(some 4), (.mv (.t 143)), none⟩]
def a_law36_RingTurns : AFunc := ⟨[(.tmp 4)], (.seq (.region q_law36_RingTurns_0) (.seq (.seq (.region q_law36_RingTurns_1) (.cond (.t 21) (.seq (.region q_law36_RingTurns_2) .ret) .skip)) (.seq (.region q_law36_RingTurns_3) (.seq (.region q_law36_RingTurns_4) (.seq (.seq (.region q_law36_RingTurns_5) (.cond (.t 37) (.seq (.region q_law36_RingTurns_6) .ret) .skip)) (.seq (.region q_law36_RingTurns_7) (.seq (.seq (.region q_law36_RingTurns_8) (.cond (.t 49) (.seq (.region q_law36_RingTurns_9) .ret) .skip)) (.seq (.seq (.region q_law36_RingTurns_10) (.block 0 (.loop q_law36_RingTurns_L20))) (.seq (.seq (.region q_law36_RingTurns_20) (.block 2 (.loop q_law36_RingTurns_L27))) (.seq (.region q_law36_RingTurns_27) (.seq (.region q_law36_RingTurns_28) .ret)))))))))))⟩

def q_law36_RingCrashes_0 : List AOper := [
  ⟨(some 4), (.mv (.v (.bool false))), none⟩]
def q_law36_RingCrashes_1 : List AOper := [
  ⟨(some 18), (.mv (.t 1)), none⟩,
  ⟨(some 19), (.call F_law36_light [(.sc, (.t 18))]), none⟩,
  ⟨(some 20), (.un .not (.t 19)), none⟩]
def q_law36_RingCrashes_2 : List AOper := [
  ⟨(some 21), (.call F_law36_works []), none⟩,
  ⟨(some 4), (.mv (.t 21)), none⟩]
def q_law36_RingCrashes_3 : List AOper := [
  ⟨(some 22), (.mv (.t 0)), none⟩,
  ⟨(some 23), (.conv .i64 (.t 22)), none⟩,
  ⟨(some 24), (.bin .rem (.t 23) (.v (.int .i64 8))), none⟩,
  ⟨(some 25), (.bin .add (.v (.int .i64 2)) (.t 24)), none⟩,
  ⟨(some 5), (.mv (.t 25)), none⟩]
def q_law36_RingCrashes_4 : List AOper := [
  ⟨(some 27), (.mv (.t 5)), none⟩,
  ⟨(some 28), (.call F_disk_New [(.sc, (.t 27))]), none⟩,
  ⟨(some 26), (.mv (.t 28)), none⟩,
  ⟨(some 29), (.ext 0 (.t 26)), none⟩,
  ⟨(some 30), (.ext 1 (.t 26)), none⟩,
  ⟨(some 6), (.mv (.t 29)), none⟩,
  ⟨(some 7), (.mv (.t 30)), none⟩]
def q_law36_RingCrashes_5 : List AOper := [
  ⟨(some 31), (.mv (.t 6)), none⟩,
  ⟨(some 32), (.xx (.p (.isNil .ptr false)) [(.t 31)]), none⟩,
  ⟨(some 33), (.mv (.t 32)), none⟩,
  ⟨(some 34), (.mv (.t 7)), (some (33, false))⟩,
  ⟨(some 35), (.eq .scI true (.t 34) (.v (.int .i64 0))), (some (33, false))⟩,
  ⟨(some 36), (.pick (.t 33) (.v (.bool true)) (.t 35)), none⟩]
def q_law36_RingCrashes_6 : List AOper := [
  ⟨(some 4), (.mv (.v (.bool false))), none⟩]
def q_law36_RingCrashes_7 : List AOper := [
  ⟨(some 38), (.mv (.t 6)), none⟩,
  ⟨(some 39), (.mv (.t 5)), none⟩,
  ⟨(some 40), (.call F_ring_New [(.sc, (.t 38)), (.sc, (.v (.int .i64 0))), (.sc, (.t 39))]), none⟩,
  ⟨(some 37), (.mv (.t 40)), none⟩,
  ⟨(some 41), (.ext 0 (.t 37)), none⟩,
  ⟨(some 42), (.ext 1 (.t 37)), none⟩,
  ⟨(some 8), (.mv (.t 41)), none⟩,
  ⟨(some 9), (.mv (.t 42)), none⟩]
def q_law36_RingCrashes_8 : List AOper := [
  ⟨(some 43), (.mv (.t 8)), none⟩,
  ⟨(some 44), (.xx (.p (.isNil .ptr false)) [(.t 43)]), none⟩,
  ⟨(some 45), (.mv (.t 44)), none⟩,
  ⟨(some 46), (.mv (.t 9)), (some (45, false))⟩,
  ⟨(some 47), (.eq .scI true (.t 46) (.v (.int .i64 0))), (some (45, false))⟩,
  ⟨(some 48), (.pick (.t 45) (.v (.bool true)) (.t 47)), none⟩]
def q_law36_RingCrashes_9 : List AOper := [
  ⟨(some 4), (.mv (.v (.bool false))), none⟩]
def q_law36_RingCrashes_10 : List AOper := [
  ⟨(some 49), (.mv (.t 5)), none⟩,
  ⟨(some 50), (.build .ag [(.int .i64 0), (.int .i64 0), .nilS] [(0, (1, (.t 49)))]), none⟩,
  ⟨(some 10), (.alloc 42 [(.int .i64 0), (.int .i64 0), .nilS]), none⟩,
  ⟨none, (.store .ag 3 (.t 10) (.t 50)), none⟩]
def q_law36_RingCrashes_11 : List AOper := [
  ⟨(some 11), (.mv (.v (.int .i64 0))), none⟩]
def q_law36_RingCrashes_12 : List AOper := [
  ⟨(some 51), (.mv (.t 11)), none⟩,
  ⟨(some 52), (.mv (.t 1)), none⟩,
  ⟨(some 53), (.len false (.t 52)), none⟩,
  ⟨(some 54), (.bin .lss (.t 51) (.t 53)), none⟩]
def q_law36_RingCrashes_13 : List AOper := [
  ⟨(some 57), (.mv (.t 1)), none⟩,
  ⟨(some 58), (.mv (.t 11)), none⟩,
  ⟨(some 59), (.idx 6 (.t 57) (.t 58)), none⟩,
  ⟨(some 60), (.fadr 3 1 .sc (.t 59)), none⟩,
  ⟨(some 61), (.load .sc 1 (.t 60)), none⟩]
def q_law36_RingCrashes_14 : List AOper := [
  ⟨(some 62), (.mv (.t 6)), none⟩,
  ⟨(some 63), (.mv (.t 1)), none⟩,
  ⟨(some 64), (.mv (.t 11)), none⟩,
  ⟨(some 65), (.idx 6 (.t 63) (.t 64)), none⟩,
  ⟨(some 66), (.fadr 4 1 .sc (.t 65)), none⟩,
  ⟨(some 67), (.load .sc 1 (.t 66)), none⟩,
  ⟨(some 68), (.conv .i64 (.t 67)), none⟩,
  ⟨(some 69), (.bin .rem (.t 68) (.v (.int .i64 30))), none⟩,
  ⟨(some 70), (.call F_Pdisk_Disk_Fuse [(.sc, (.t 62)), (.sc, (.t 69))]), none⟩]
def q_law36_RingCrashes_15 : List DOp := [
  ⟨⟨(some 71), (.fadr 1 1 .sc (.t 10)), none⟩, true, false, none, []⟩,
  ⟨⟨(some 72), (.load .sc 1 (.t 71)), none⟩, true, false, none, []⟩,
  ⟨⟨(some 73), (.mv (.t 1)), none⟩, true, false, none, []⟩,
  ⟨⟨(some 74), (.mv (.t 11)), none⟩, true, false, none, []⟩,
  ⟨⟨(some 75), (.idx 6 (.t 73) (.t 74)), none⟩, true, false, none, []⟩,
  ⟨⟨(some 76), (.fadr 2 1 .sc (.t 75)), none⟩, true, false, none, []⟩,
  ⟨⟨(some 77), (.load .sc 1 (.t 76)), none⟩, true, false, none, []⟩,
  ⟨⟨(some 78), (.conv .i64 (.t 77)), none⟩, true, false, none, []⟩,
  ⟨⟨(some 79), (.bin .rem (.t 78) (.v (.int .i64 12))), none⟩, true, false, none, []⟩,
  ⟨⟨(some 80), (.bin .add (.t 72) (.t 79)), none⟩, true, false, none, []⟩,
  ⟨⟨(some 12), (.mv (.t 80)), none⟩, true, false, none, []⟩]
def q_law36_RingCrashes_16 : List AOper := [
  ⟨(some 81), (.load .ag 3 (.t 10)), none⟩,
  ⟨(some 13), (.alloc 42 [(.int .i64 0), (.int .i64 0), .nilS]), none⟩,
  ⟨none, (.store .ag 3 (.t 13) (.t 81)), none⟩]
def q_law36_RingCrashes_17 : List AOper := [
  ⟨(some 82), (.mv (.t 1)), none⟩,
  ⟨(some 83), (.mv (.t 11)), none⟩,
  ⟨(some 84), (.idx 6 (.t 82) (.t 83)), none⟩,
  ⟨(some 85), (.fadr 0 1 .sc (.t 84)), none⟩,
  ⟨(some 86), (.load .sc 1 (.t 85)), none⟩,
  ⟨(some 87), (.eq .scI false (.t 86) (.v (.int .i64 2))), none⟩]
def q_law36_RingCrashes_18 : List AOper := [
  ⟨(some 88), (.mv (.t 8)), none⟩,
  ⟨(some 89), (.mv (.t 12)), none⟩,
  ⟨(some 90), (.call F_Pring_Ring_Drop [(.sc, (.t 88)), (.sc, (.t 89))]), none⟩]
def q_law36_RingCrashes_19 : List AOper := [
  ⟨(some 92), (.load .ag 3 (.t 10)), none⟩,
  ⟨(some 93), (.mv (.t 12)), none⟩,
  ⟨(some 94), (.call F_ref36_Drop [(.ag, (.t 92)), (.sc, (.t 93))]), none⟩,
  ⟨(some 91), (.mv (.t 94)), none⟩,
  ⟨(some 95), (.ext 0 (.t 91)), none⟩,
  ⟨(some 96), (.ext 1 (.t 91)), none⟩,
  ⟨none, (.store .ag 3 (.t 13) (.t 95)), none⟩]
def q_law36_RingCrashes_20 : List AOper := [
  ⟨(some 97), (.mv (.t 8)), none⟩,
  ⟨(some 98), (.mv (.t 1)), none⟩,
  ⟨(some 99), (.mv (.t 11)), none⟩,
  ⟨(some 100), (.idx 6 (.t 98) (.t 99)), none⟩,
  ⟨(some 101), (.fadr 1 1 .sc (.t 100)), none⟩,
  ⟨(some 102), (.load .sc 1 (.t 101)), none⟩,
  ⟨(some 103), (.call F_Pring_Ring_Append [(.sc, (.t 97)), (.sc, (.t 102))]), none⟩]
def q_law36_RingCrashes_21 : List DOp := [
  ⟨⟨(some 105), (.load .ag 3 (.t 10)), none⟩, true, false, none, []⟩,
  ⟨⟨(some 106), (.mv (.t 1)), none⟩, true, false, none, []⟩,
  ⟨⟨(some 107), (.mv (.t 11)), none⟩, true, false, none, []⟩,
  ⟨⟨(some 108), (.idx 6 (.t 106) (.t 107)), none⟩, true, false, none, []⟩,
  ⟨⟨(some 109), (.fadr 1 1 .sc (.t 108)), none⟩, true, false, none, []⟩,
  ⟨⟨(some 110), (.load .sc 1 (.t 109)), none⟩, true, false, none, []⟩,
  ⟨⟨(some 111), (.call F_ref36_Append [(.ag, (.t 105)), (.sc, (.t 110))]), none⟩, false, false, none, []⟩,
  ⟨⟨(some 104), (.mv (.t 111)), none⟩, true, false, none, []⟩,
  ⟨⟨(some 112), (.ext 0 (.t 104)), none⟩, true, false, none, []⟩,
  ⟨⟨(some 113), (.ext 1 (.t 104)), none⟩, true, false, none, []⟩,
  ⟨⟨(some 114), (.ext 2 (.t 104)), none⟩, true, false, none, []⟩,
  ⟨⟨none, (.store .ag 3 (.t 13) (.t 112)), none⟩, false, false, none, []⟩]
def q_law36_RingCrashes_22 : List AOper := [
  ⟨(some 115), (.mv (.t 6)), none⟩,
  ⟨(some 116), (.call F_Pdisk_Disk_Down [(.sc, (.t 115))]), none⟩,
  ⟨(some 117), (.un .not (.t 116)), none⟩]
def q_law36_RingCrashes_23 : List AOper := [
  ⟨(some 118), (.mv (.t 6)), none⟩,
  ⟨(some 119), (.call F_Pdisk_Disk_Fuse [(.sc, (.t 118)), (.sc, (.v (.int .i64 (-1))))]), none⟩]
def q_law36_RingCrashes_24 : List AOper := [
  ⟨(some 120), (.load .ag 3 (.t 13)), none⟩,
  ⟨none, (.store .ag 3 (.t 10) (.t 120)), none⟩]
def q_law36_RingCrashes_25 : List AOper := [
  ⟨(some 121), (.mv (.t 6)), none⟩,
  ⟨(some 122), (.mv (.t 1)), none⟩,
  ⟨(some 123), (.mv (.t 11)), none⟩,
  ⟨(some 124), (.idx 6 (.t 122) (.t 123)), none⟩,
  ⟨(some 125), (.fadr 5 1 .sc (.t 124)), none⟩,
  ⟨(some 126), (.load .sc 1 (.t 125)), none⟩,
  ⟨(some 127), (.bsl 4 .sc 1 [(.t 126)]), none⟩,
  ⟨(some 128), (.call F_Pdisk_Disk_Crash [(.sc, (.t 121)), (.sc, (.t 127))]), none⟩]
def q_law36_RingCrashes_26 : List AOper := [
  ⟨(some 130), (.mv (.t 6)), none⟩,
  ⟨(some 131), (.mv (.t 5)), none⟩,
  ⟨(some 132), (.fadr 1 1 .sc (.t 10)), none⟩,
  ⟨(some 133), (.load .sc 1 (.t 132)), none⟩,
  ⟨(some 134), (.fadr 2 1 .sc (.t 10)), none⟩,
  ⟨(some 135), (.load .sc 1 (.t 134)), none⟩,
  ⟨(some 136), (.len false (.t 135)), none⟩,
  ⟨(some 137), (.bin .add (.t 133) (.t 136)), none⟩,
  ⟨(some 138), (.call F_ring_Open [(.sc, (.t 130)), (.sc, (.v (.int .i64 0))), (.sc, (.t 131)), (.sc, (.t 137))]), none⟩,
  ⟨(some 129), (.mv (.t 138)), none⟩,
  ⟨(some 139), (.ext 0 (.t 129)), none⟩,
  ⟨(some 140), (.ext 1 (.t 129)), none⟩,
  ⟨(some 14), (.mv (.t 139)), none⟩,
  ⟨(some 15), (.mv (.t 140)), none⟩]
def q_law36_RingCrashes_27 : List AOper := [
  ⟨(some 141), (.mv (.t 15)), none⟩,
  ⟨(some 142), (.eq .scI true (.t 141) (.v (.int .i64 0))), none⟩,
  ⟨(some 143), (.mv (.t 142)), none⟩,
  ⟨(some 144), (.mv (.t 14)), (some (143, false))⟩,
  ⟨(some 145), (.xx (.p (.isNil .ptr false)) [(.t 144)]), (some (143, false))⟩,
  ⟨(some 146), (.pick (.t 143) (.v (.bool true)) (.t 145)), none⟩]
def q_law36_RingCrashes_28 : List AOper := [
  ⟨(some 4), (.mv (.v (.bool false))), none⟩]
def q_law36_RingCrashes_29 : List AOper := [
  ⟨(some 147), (.mv (.t 14)), none⟩,
  ⟨(some 8), (.mv (.t 147)), none⟩]
def q_law36_RingCrashes_30 : List AOper := [
  ⟨(some 148), (.mv (.t 8)), none⟩,
  ⟨(some 149), (.load .ag 3 (.t 13)), none⟩,
  ⟨(some 150), (.call F_law36_same [(.sc, (.t 148)), (.ag, (.t 149))]), none⟩,
  ⟨(some 16), (.mv (.t 150)), none⟩]
def q_law36_RingCrashes_31 : List AOper := [
  ⟨(some 151), (.load .ag 3 (.t 10)), none⟩,
  ⟨(some 17), (.alloc 42 [(.int .i64 0), (.int .i64 0), .nilS]), none⟩,
  ⟨none, (.store .ag 3 (.t 17) (.t 151)), none⟩]
def q_law36_RingCrashes_32 : List AOper := [
  ⟨(some 152), (.mv (.t 16)), none⟩,
  ⟨(some 153), (.un .not (.t 152)), none⟩,
  ⟨(some 154), (.mv (.t 153)), none⟩,
  ⟨(some 155), (.fadr 1 1 .sc (.t 17)), (some (154, true))⟩,
  ⟨(some 156), (.load .sc 1 (.t 155)), (some (154, true))⟩,
  ⟨(some 157), (.fadr 1 1 .sc (.t 13)), (some (154, true))⟩,
  ⟨(some 158), (.load .sc 1 (.t 157)), (some (154, true))⟩,
  ⟨(some 159), (.bin .leq (.t 156) (.t 158)), (some (154, true))⟩,
  ⟨(some 160), (.pick (.t 154) (.t 159) (.v (.bool false))), none⟩]
def q_law36_RingCrashes_33 : List AOper := [
  ⟨(some 161), (.mv (.t 8)), none⟩,
  ⟨(some 162), (.load .ag 3 (.t 17)), none⟩,
  ⟨(some 163), (.call F_law36_same [(.sc, (.t 161)), (.ag, (.t 162))]), none⟩,
  ⟨(some 16), (.mv (.t 163)), none⟩]
def q_law36_RingCrashes_34 : List AOper := [
  ⟨(some 164), (.mv (.t 16)), none⟩]
def q_law36_RingCrashes_35 : List AOper := [
  ⟨(some 165), (.load .ag 3 (.t 17)), none⟩,
  ⟨none, (.store .ag 3 (.t 13) (.t 165)), none⟩]
def q_law36_RingCrashes_36 : List AOper := [
  ⟨(some 166), (.fadr 2 1 .sc (.t 17)), none⟩,
  ⟨(some 167), (.load .sc 1 (.t 166)), none⟩,
  ⟨(some 168), (.len false (.t 167)), none⟩,
  ⟨(some 169), (.eq .scI false (.t 168) (.v (.int .i64 0))), none⟩]
def q_law36_RingCrashes_37 : List AOper := [
  ⟨(some 171), (.load .ag 3 (.t 17)), none⟩,
  ⟨(some 172), (.fadr 1 1 .sc (.t 17)), none⟩,
  ⟨(some 173), (.load .sc 1 (.t 172)), none⟩,
  ⟨(some 174), (.bin .add (.t 173) (.v (.int .i64 1))), none⟩,
  ⟨(some 175), (.call F_ref36_Drop [(.ag, (.t 171)), (.sc, (.t 174))]), none⟩,
  ⟨(some 170), (.mv (.t 175)), none⟩,
  ⟨(some 176), (.ext 0 (.t 170)), none⟩,
  ⟨(some 177), (.ext 1 (.t 170)), none⟩,
  ⟨none, (.store .ag 3 (.t 17) (.t 176)), none⟩]
def q_law36_RingCrashes_L38 : ACode := (.seq (.seq (.region q_law36_RingCrashes_32) (.cond (.t 160) .skip (.exit 2))) (.block 3 (.seq (.region q_law36_RingCrashes_33) (.seq (.seq (.region q_law36_RingCrashes_34) (.cond (.t 164) (.region q_law36_RingCrashes_35) .skip)) (.seq (.seq (.region q_law36_RingCrashes_36) (.cond (.t 169) (.exit 2) .skip)) (.region q_law36_RingCrashes_37))))))
def q_law36_RingCrashes_38 : List AOper := [
  ⟨(some 178), (.mv (.t 16)), none⟩,
  ⟨(some 179), (.un .not (.t 178)), none⟩]
def q_law36_RingCrashes_39 : List AOper := [
  ⟨(some 4), (.mv (.v (.bool false))), none⟩]
def q_law36_RingCrashes_40 : List AOper := [
  ⟨(some 180), (.load .ag 3 (.t 13)), none⟩,
  ⟨none, (.store .ag 3 (.t 10) (.t 180)), none⟩]
def q_law36_RingCrashes_41 : List AOper := [
  ⟨(some 55), (.mv (.t 11)), none⟩,
  ⟨(some 56), (.bin .add (.t 55) (.v (.int .i64 1))), none⟩,
  ⟨(some 11), (.mv (.t 56)), none⟩]
def q_law36_RingCrashes_L42 : ACode := (.seq (.seq (.region q_law36_RingCrashes_12) (.cond (.t 54) .skip (.exit 0))) (.seq (.block 1 (.seq (.seq (.region q_law36_RingCrashes_13) (.cond (.t 61) (.region q_law36_RingCrashes_14) .skip)) (.seq (.regionD q_law36_RingCrashes_15) (.seq (.region q_law36_RingCrashes_16) (.seq (.seq (.region q_law36_RingCrashes_17) (.cond (.t 87) (.seq (.region q_law36_RingCrashes_18) (.region q_law36_RingCrashes_19)) (.seq (.region q_law36_RingCrashes_20) (.regionD q_law36_RingCrashes_21)))) (.seq (.seq (.region q_law36_RingCrashes_22) (.cond (.t 117) (.seq (.region q_law36_RingCrashes_23) (.seq (.region q_law36_RingCrashes_24) (.exit 1))) .skip)) (.seq (.region q_law36_RingCrashes_25) (.seq (.region q_law36_RingCrashes_26) (.seq (.seq (.region q_law36_RingCrashes_27) (.cond (.t 146) (.seq (.region q_law36_RingCrashes_28) .ret) .skip)) (.seq (.region q_law36_RingCrashes_29) (.seq (.region q_law36_RingCrashes_30) (.seq (.region q_law36_RingCrashes_31) (.seq (.block 2 (.loop q_law36_RingCrashes_L38)) (.seq (.seq (.region q_law36_RingCrashes_38) (.cond (.t 179) (.seq (.region q_law36_RingCrashes_39) .ret) .skip)) (.region q_law36_RingCrashes_40))))))))))))))) (.region q_law36_RingCrashes_41)))
def q_law36_RingCrashes_42 : List AOper := [
  ⟨(some 181), (.mv (.t 8)), none⟩,
  ⟨(some 182), (.load .ag 3 (.t 10)), none⟩,
  ⟨(some 183), (.call F_law36_same [(.sc, (.t 181)), (.ag, (.t 182))]), none⟩,
  ⟨(some 184), (.mv (.t 183)), none⟩,
  ⟨(some 185), (.call F_law36_works []), (some (184, true))⟩,
  ⟨(some 186), (.pick (.t 184) (.t 185) (.v (.bool false))), none⟩,
  ⟨(some 4), (.mv (.t 186)), none⟩]
def a_law36_RingCrashes : AFunc := ⟨[(.tmp 4)], (.seq (.region q_law36_RingCrashes_0) (.seq (.seq (.region q_law36_RingCrashes_1) (.cond (.t 20) (.seq (.region q_law36_RingCrashes_2) .ret) .skip)) (.seq (.region q_law36_RingCrashes_3) (.seq (.region q_law36_RingCrashes_4) (.seq (.seq (.region q_law36_RingCrashes_5) (.cond (.t 36) (.seq (.region q_law36_RingCrashes_6) .ret) .skip)) (.seq (.region q_law36_RingCrashes_7) (.seq (.seq (.region q_law36_RingCrashes_8) (.cond (.t 48) (.seq (.region q_law36_RingCrashes_9) .ret) .skip)) (.seq (.region q_law36_RingCrashes_10) (.seq (.seq (.region q_law36_RingCrashes_11) (.block 0 (.loop q_law36_RingCrashes_L42))) (.seq (.region q_law36_RingCrashes_42) .ret))))))))))⟩

def q_law36_works_0 : List AOper := [
  ⟨(some 0), (.mv (.v (.bool false))), none⟩]
def q_law36_works_1 : List AOper := [
  ⟨(some 29), (.call F_disk_New [(.sc, (.v (.int .i64 9)))]), none⟩,
  ⟨(some 28), (.mv (.t 29)), none⟩,
  ⟨(some 30), (.ext 0 (.t 28)), none⟩,
  ⟨(some 31), (.ext 1 (.t 28)), none⟩,
  ⟨(some 1), (.mv (.t 30)), none⟩,
  ⟨(some 2), (.mv (.t 31)), none⟩]
def q_law36_works_2 : List AOper := [
  ⟨(some 32), (.mv (.t 1)), none⟩,
  ⟨(some 33), (.xx (.p (.isNil .ptr false)) [(.t 32)]), none⟩]
def q_law36_works_3 : List AOper := [
  ⟨(some 0), (.mv (.v (.bool false))), none⟩]
def q_law36_works_4 : List AOper := [
  ⟨(some 35), (.mv (.t 1)), none⟩,
  ⟨(some 36), (.call F_ring_New [(.sc, (.t 35)), (.sc, (.v (.int .i64 2))), (.sc, (.v (.int .i64 3)))]), none⟩,
  ⟨(some 34), (.mv (.t 36)), none⟩,
  ⟨(some 37), (.ext 0 (.t 34)), none⟩,
  ⟨(some 38), (.ext 1 (.t 34)), none⟩,
  ⟨(some 3), (.mv (.t 37)), none⟩,
  ⟨(some 4), (.mv (.t 38)), none⟩]
def q_law36_works_5 : List AOper := [
  ⟨(some 40), (.mv (.t 1)), none⟩,
  ⟨(some 41), (.call F_ring_New [(.sc, (.t 40)), (.sc, (.v (.int .i64 7))), (.sc, (.v (.int .i64 3)))]), none⟩,
  ⟨(some 39), (.mv (.t 41)), none⟩,
  ⟨(some 42), (.ext 0 (.t 39)), none⟩,
  ⟨(some 43), (.ext 1 (.t 39)), none⟩,
  ⟨(some 5), (.mv (.t 42)), none⟩,
  ⟨(some 6), (.mv (.t 43)), none⟩]
def q_law36_works_6 : List AOper := [
  ⟨(some 45), (.call F_ring_New [(.sc, (.v .nilP)), (.sc, (.v (.int .i64 0))), (.sc, (.v (.int .i64 3)))]), none⟩,
  ⟨(some 44), (.mv (.t 45)), none⟩,
  ⟨(some 46), (.ext 0 (.t 44)), none⟩,
  ⟨(some 47), (.ext 1 (.t 44)), none⟩,
  ⟨(some 7), (.mv (.t 46)), none⟩,
  ⟨(some 8), (.mv (.t 47)), none⟩]
def q_law36_works_7 : List AOper := [
  ⟨(some 48), (.mv (.t 3)), none⟩,
  ⟨(some 49), (.xx (.p (.isNil .ptr false)) [(.t 48)]), none⟩]
def q_law36_works_8 : List AOper := [
  ⟨(some 0), (.mv (.v (.bool false))), none⟩]
def q_law36_works_9 : List AOper := [
  ⟨(some 50), (.mv (.t 3)), none⟩,
  ⟨(some 51), (.bslI 5 .u8 [(.v (.int .u8 97))]), none⟩,
  ⟨(some 52), (.xx .sealB [(.t 51)]), none⟩,
  ⟨(some 53), (.call F_Pring_Ring_Append [(.sc, (.t 50)), (.sc, (.t 52))]), none⟩]
def q_law36_works_10 : List AOper := [
  ⟨(some 55), (.mv (.t 3)), none⟩,
  ⟨(some 56), (.bslI 5 .u8 [(.v (.int .u8 98))]), none⟩,
  ⟨(some 57), (.xx .sealB [(.t 56)]), none⟩,
  ⟨(some 58), (.call F_Pring_Ring_Append [(.sc, (.t 55)), (.sc, (.t 57))]), none⟩,
  ⟨(some 54), (.mv (.t 58)), none⟩,
  ⟨(some 59), (.ext 0 (.t 54)), none⟩,
  ⟨(some 60), (.ext 1 (.t 54)), none⟩,
  ⟨(some 9), (.mv (.t 59)), none⟩,
  ⟨(some 10), (.mv (.t 60)), none⟩]
def q_law36_works_11 : List AOper := [
  ⟨(some 61), (.mv (.t 3)), none⟩,
  ⟨(some 62), (.bslI 5 .u8 [(.v (.int .u8 99))]), none⟩,
  ⟨(some 63), (.xx .sealB [(.t 62)]), none⟩,
  ⟨(some 64), (.call F_Pring_Ring_Append [(.sc, (.t 61)), (.sc, (.t 63))]), none⟩]
def q_law36_works_12 : List AOper := [
  ⟨(some 66), (.mv (.t 3)), none⟩,
  ⟨(some 67), (.bslI 5 .u8 [(.v (.int .u8 100))]), none⟩,
  ⟨(some 68), (.xx .sealB [(.t 67)]), none⟩,
  ⟨(some 69), (.call F_Pring_Ring_Append [(.sc, (.t 66)), (.sc, (.t 68))]), none⟩,
  ⟨(some 65), (.mv (.t 69)), none⟩,
  ⟨(some 70), (.ext 0 (.t 65)), none⟩,
  ⟨(some 71), (.ext 1 (.t 65)), none⟩,
  ⟨(some 11), (.mv (.t 70)), none⟩,
  ⟨(some 12), (.mv (.t 71)), none⟩]
def q_law36_works_13 : List AOper := [
  ⟨(some 73), (.mv (.t 3)), none⟩,
  ⟨(some 74), (.call F_Pring_Ring_Drop [(.sc, (.t 73)), (.sc, (.v (.int .i64 2)))]), none⟩,
  ⟨(some 72), (.mv (.t 74)), none⟩,
  ⟨(some 75), (.ext 0 (.t 72)), none⟩,
  ⟨(some 76), (.ext 1 (.t 72)), none⟩,
  ⟨(some 13), (.mv (.t 75)), none⟩,
  ⟨(some 14), (.mv (.t 76)), none⟩]
def q_law36_works_14 : List AOper := [
  ⟨(some 78), (.mv (.t 3)), none⟩,
  ⟨(some 79), (.call F_Pring_Ring_Read [(.sc, (.t 78)), (.sc, (.v (.int .i64 2)))]), none⟩,
  ⟨(some 77), (.mv (.t 79)), none⟩,
  ⟨(some 80), (.ext 0 (.t 77)), none⟩,
  ⟨(some 81), (.ext 1 (.t 77)), none⟩,
  ⟨(some 15), (.mv (.t 80)), none⟩,
  ⟨(some 16), (.mv (.t 81)), none⟩]
def q_law36_works_15 : List AOper := [
  ⟨(some 83), (.mv (.t 3)), none⟩,
  ⟨(some 84), (.call F_Pring_Ring_Read [(.sc, (.t 83)), (.sc, (.v (.int .i64 1)))]), none⟩,
  ⟨(some 82), (.mv (.t 84)), none⟩,
  ⟨(some 85), (.ext 0 (.t 82)), none⟩,
  ⟨(some 86), (.ext 1 (.t 82)), none⟩,
  ⟨(some 17), (.mv (.t 85)), none⟩,
  ⟨(some 18), (.mv (.t 86)), none⟩]
def q_law36_works_16 : List AOper := [
  ⟨(some 88), (.mv (.t 1)), none⟩,
  ⟨(some 89), (.call F_ring_Open [(.sc, (.t 88)), (.sc, (.v (.int .i64 2))), (.sc, (.v (.int .i64 3))), (.sc, (.v (.int .i64 0)))]), none⟩,
  ⟨(some 87), (.mv (.t 89)), none⟩,
  ⟨(some 90), (.ext 0 (.t 87)), none⟩,
  ⟨(some 91), (.ext 1 (.t 87)), none⟩,
  ⟨(some 19), (.mv (.t 90)), none⟩,
  ⟨(some 20), (.mv (.t 91)), none⟩]
def q_law36_works_17 : List AOper := [
  ⟨(some 92), (.mv (.t 19)), none⟩,
  ⟨(some 93), (.xx (.p (.isNil .ptr false)) [(.t 92)]), none⟩]
def q_law36_works_18 : List AOper := [
  ⟨(some 0), (.mv (.v (.bool false))), none⟩]
def q_law36_works_19 : List AOper := [
  ⟨(some 95), (.mv (.t 19)), none⟩,
  ⟨(some 96), (.call F_Pring_Ring_All [(.sc, (.t 95))]), none⟩,
  ⟨(some 94), (.mv (.t 96)), none⟩,
  ⟨(some 97), (.ext 0 (.t 94)), none⟩,
  ⟨(some 98), (.ext 1 (.t 94)), none⟩,
  ⟨(some 21), (.mv (.t 97)), none⟩,
  ⟨(some 22), (.mv (.t 98)), none⟩]
def q_law36_works_20 : List AOper := [
  ⟨(some 100), (.bslI 5 .u8 [(.v (.int .u8 122))]), none⟩,
  ⟨(some 101), (.xx .sealB [(.t 100)]), none⟩,
  ⟨(some 102), (.call F_ring_Put [(.sc, (.v (.int .i64 7))), (.sc, (.t 101))]), none⟩,
  ⟨(some 99), (.mv (.t 102)), none⟩,
  ⟨(some 103), (.ext 0 (.t 99)), none⟩,
  ⟨(some 104), (.ext 1 (.t 99)), none⟩,
  ⟨(some 23), (.alloc 23 [(.iarr .u8 256 (List.replicate 256 0))]), none⟩,
  ⟨none, (.store (.ia .u8 256) 256 (.t 23) (.t 103)), none⟩,
  ⟨(some 24), (.mv (.t 104)), none⟩]
def q_law36_works_21 : List AOper := [
  ⟨(some 106), (.load (.ia .u8 256) 256 (.t 23)), none⟩,
  ⟨(some 107), (.call F_ring_Get [((.ia .u8 256), (.t 106))]), none⟩,
  ⟨(some 105), (.mv (.t 107)), none⟩,
  ⟨(some 108), (.ext 0 (.t 105)), none⟩,
  ⟨(some 109), (.ext 1 (.t 105)), none⟩,
  ⟨(some 110), (.ext 2 (.t 105)), none⟩,
  ⟨(some 25), (.mv (.t 108)), none⟩,
  ⟨(some 26), (.mv (.t 109)), none⟩,
  ⟨(some 27), (.mv (.t 110)), none⟩]
def q_law36_works_22 : List AOper := [
  ⟨(some 111), (.mv (.t 4)), none⟩,
  ⟨(some 112), (.eq .scI false (.t 111) (.v (.int .i64 0))), none⟩,
  ⟨(some 113), (.mv (.t 112)), none⟩,
  ⟨(some 114), (.mv (.t 6)), (some (113, true))⟩,
  ⟨(some 115), (.eq .scI false (.t 114) (.v (.int .i64 2))), (some (113, true))⟩,
  ⟨(some 116), (.pick (.t 113) (.t 115) (.v (.bool false))), none⟩,
  ⟨(some 117), (.mv (.t 116)), none⟩,
  ⟨(some 118), (.mv (.t 8)), (some (117, true))⟩,
  ⟨(some 119), (.eq .scI false (.t 118) (.v (.int .i64 1))), (some (117, true))⟩,
  ⟨(some 120), (.pick (.t 117) (.t 119) (.v (.bool false))), none⟩,
  ⟨(some 121), (.mv (.t 120)), none⟩,
  ⟨(some 122), (.mv (.t 9)), (some (121, true))⟩,
  ⟨(some 123), (.eq .scI false (.t 122) (.v (.int .i64 1))), (some (121, true))⟩,
  ⟨(some 124), (.pick (.t 121) (.t 123) (.v (.bool false))), none⟩,
  ⟨(some 125), (.mv (.t 124)), none⟩,
  ⟨(some 126), (.mv (.t 10)), (some (125, true))⟩,
  ⟨(some 127), (.eq .scI false (.t 126) (.v (.int .i64 0))), (some (125, true))⟩,
  ⟨(some 128), (.pick (.t 125) (.t 127) (.v (.bool false))), none⟩,
  ⟨(some 129), (.mv (.t 128)), none⟩,
  ⟨(some 130), (.mv (.t 12)), (some (129, true))⟩,
  ⟨(some 131), (.eq .scI false (.t 130) (.v (.int .i64 6))), (some (129, true))⟩,
  ⟨(some 132), (.pick (.t 129) (.t 131) (.v (.bool false))), none⟩,
  ⟨(some 133), (.mv (.t 132)), none⟩,
  ⟨(some 134), (.mv (.t 13)), (some (133, true))⟩,
  ⟨(some 135), (.eq .scI false (.t 134) (.v (.int .i64 2))), (some (133, true))⟩,
  ⟨(some 136), (.pick (.t 133) (.t 135) (.v (.bool false))), none⟩,
  ⟨(some 137), (.mv (.t 136)), none⟩,
  ⟨(some 138), (.mv (.t 14)), (some (137, true))⟩,
  ⟨(some 139), (.eq .scI false (.t 138) (.v (.int .i64 0))), (some (137, true))⟩,
  ⟨(some 140), (.pick (.t 137) (.t 139) (.v (.bool false))), none⟩,
  ⟨(some 141), (.mv (.t 140)), none⟩,
  ⟨(some 142), (.mv (.t 15)), (some (141, true))⟩,
  ⟨(some 143), (.xx .bstr [(.t 142)]), (some (141, true))⟩,
  ⟨(some 144), (.eq .scS false (.t 143) (.v (.str ⟨#[99]⟩))), (some (141, true))⟩,
  ⟨(some 145), (.pick (.t 141) (.t 144) (.v (.bool false))), none⟩,
  ⟨(some 146), (.mv (.t 145)), none⟩,
  ⟨(some 147), (.mv (.t 16)), (some (146, true))⟩,
  ⟨(some 148), (.eq .scI false (.t 147) (.v (.int .i64 0))), (some (146, true))⟩,
  ⟨(some 149), (.pick (.t 146) (.t 148) (.v (.bool false))), none⟩,
  ⟨(some 150), (.mv (.t 149)), none⟩,
  ⟨(some 151), (.mv (.t 18)), (some (150, true))⟩,
  ⟨(some 152), (.eq .scI false (.t 151) (.v (.int .i64 8))), (some (150, true))⟩,
  ⟨(some 153), (.pick (.t 150) (.t 152) (.v (.bool false))), none⟩,
  ⟨(some 154), (.mv (.t 153)), none⟩,
  ⟨(some 155), (.mv (.t 20)), (some (154, true))⟩,
  ⟨(some 156), (.eq .scI false (.t 155) (.v (.int .i64 0))), (some (154, true))⟩,
  ⟨(some 157), (.pick (.t 154) (.t 156) (.v (.bool false))), none⟩,
  ⟨(some 158), (.mv (.t 157)), none⟩,
  ⟨(some 159), (.mv (.t 21)), (some (158, true))⟩,
  ⟨(some 160), (.len false (.t 159)), (some (158, true))⟩,
  ⟨(some 161), (.eq .scI false (.t 160) (.v (.int .i64 1))), (some (158, true))⟩,
  ⟨(some 162), (.pick (.t 158) (.t 161) (.v (.bool false))), none⟩,
  ⟨(some 163), (.mv (.t 162)), none⟩,
  ⟨(some 164), (.mv (.t 22)), (some (163, true))⟩,
  ⟨(some 165), (.eq .scI false (.t 164) (.v (.int .i64 0))), (some (163, true))⟩,
  ⟨(some 166), (.pick (.t 163) (.t 165) (.v (.bool false))), none⟩,
  ⟨(some 167), (.mv (.t 166)), none⟩,
  ⟨(some 168), (.mv (.t 19)), (some (167, true))⟩,
  ⟨(some 169), (.call F_Pring_Ring_First [(.sc, (.t 168))]), (some (167, true))⟩,
  ⟨(some 170), (.eq .scI false (.t 169) (.v (.int .i64 2))), (some (167, true))⟩,
  ⟨(some 171), (.pick (.t 167) (.t 170) (.v (.bool false))), none⟩,
  ⟨(some 172), (.mv (.t 171)), none⟩,
  ⟨(some 173), (.mv (.t 19)), (some (172, true))⟩,
  ⟨(some 174), (.call F_Pring_Ring_Next [(.sc, (.t 173))]), (some (172, true))⟩,
  ⟨(some 175), (.eq .scI false (.t 174) (.v (.int .i64 3))), (some (172, true))⟩,
  ⟨(some 176), (.pick (.t 172) (.t 175) (.v (.bool false))), none⟩,
  ⟨(some 177), (.mv (.t 176)), none⟩,
  ⟨(some 178), (.mv (.t 19)), (some (177, true))⟩,
  ⟨(some 179), (.call F_Pring_Ring_Len [(.sc, (.t 178))]), (some (177, true))⟩,
  ⟨(some 180), (.eq .scI false (.t 179) (.v (.int .i64 1))), (some (177, true))⟩,
  ⟨(some 181), (.pick (.t 177) (.t 180) (.v (.bool false))), none⟩,
  ⟨(some 182), (.mv (.t 181)), none⟩,
  ⟨(some 183), (.mv (.t 3)), (some (182, true))⟩,
  ⟨(some 184), (.call F_Pring_Ring_Clean [(.sc, (.t 183))]), (some (182, true))⟩,
  ⟨(some 185), (.pick (.t 182) (.t 184) (.v (.bool false))), none⟩,
  ⟨(some 186), (.mv (.t 185)), none⟩,
  ⟨(some 187), (.mv (.t 24)), (some (186, true))⟩,
  ⟨(some 188), (.eq .scI false (.t 187) (.v (.int .i64 0))), (some (186, true))⟩,
  ⟨(some 189), (.pick (.t 186) (.t 188) (.v (.bool false))), none⟩,
  ⟨(some 190), (.mv (.t 189)), none⟩,
  ⟨(some 191), (.mv (.t 25)), (some (190, true))⟩,
  ⟨(some 192), (.eq .scI false (.t 191) (.v (.int .i64 7))), (some (190, true))⟩,
  ⟨(some 193), (.pick (.t 190) (.t 192) (.v (.bool false))), none⟩,
  ⟨(some 194), (.mv (.t 193)), none⟩,
  ⟨(some 195), (.mv (.t 26)), (some (194, true))⟩,
  ⟨(some 196), (.xx .bstr [(.t 195)]), (some (194, true))⟩,
  ⟨(some 197), (.eq .scS false (.t 196) (.v (.str ⟨#[122]⟩))), (some (194, true))⟩,
  ⟨(some 198), (.pick (.t 194) (.t 197) (.v (.bool false))), none⟩,
  ⟨(some 199), (.mv (.t 198)), none⟩,
  ⟨(some 200), (.mv (.t 27)), (some (199, true))⟩,
  ⟨(some 201), (.pick (.t 199) (.t 200) (.v (.bool false))), none⟩,
  ⟨(some 0), (.mv (.t 201)), none⟩]
def a_law36_works : AFunc := ⟨[(.tmp 0)], (.seq (.region q_law36_works_0) (.seq (.region q_law36_works_1) (.seq (.seq (.region q_law36_works_2) (.cond (.t 33) (.seq (.region q_law36_works_3) .ret) .skip)) (.seq (.region q_law36_works_4) (.seq (.region q_law36_works_5) (.seq (.region q_law36_works_6) (.seq (.seq (.region q_law36_works_7) (.cond (.t 49) (.seq (.region q_law36_works_8) .ret) .skip)) (.seq (.region q_law36_works_9) (.seq (.region q_law36_works_10) (.seq (.region q_law36_works_11) (.seq (.region q_law36_works_12) (.seq (.region q_law36_works_13) (.seq (.region q_law36_works_14) (.seq (.region q_law36_works_15) (.seq (.region q_law36_works_16) (.seq (.seq (.region q_law36_works_17) (.cond (.t 93) (.seq (.region q_law36_works_18) .ret) .skip)) (.seq (.region q_law36_works_19) (.seq (.region q_law36_works_20) (.seq (.region q_law36_works_21) (.seq (.region q_law36_works_22) .ret))))))))))))))))))))⟩

def q_law36_light_0 : List AOper := [
  ⟨(some 2), (.mv (.v (.bool false))), none⟩]
def q_law36_light_1 : List AOper := [
  ⟨(some 4), (.mv (.t 0)), none⟩,
  ⟨(some 5), (.len false (.t 4)), none⟩,
  ⟨(some 6), (.bin .gtr (.t 5) (.v (.int .i64 60))), none⟩]
def q_law36_light_2 : List AOper := [
  ⟨(some 2), (.mv (.v (.bool false))), none⟩]
def q_law36_light_3 : List AOper := [
  ⟨(some 3), (.mv (.v (.int .i64 0))), none⟩]
def q_law36_light_4 : List AOper := [
  ⟨(some 7), (.mv (.t 3)), none⟩,
  ⟨(some 8), (.mv (.t 0)), none⟩,
  ⟨(some 9), (.len false (.t 8)), none⟩,
  ⟨(some 10), (.bin .lss (.t 7) (.t 9)), none⟩]
def q_law36_light_5 : List AOper := [
  ⟨(some 13), (.mv (.t 0)), none⟩,
  ⟨(some 14), (.mv (.t 3)), none⟩,
  ⟨(some 15), (.idx 6 (.t 13) (.t 14)), none⟩,
  ⟨(some 16), (.fadr 1 1 .sc (.t 15)), none⟩,
  ⟨(some 17), (.load .sc 1 (.t 16)), none⟩,
  ⟨(some 18), (.len false (.t 17)), none⟩,
  ⟨(some 19), (.bin .gtr (.t 18) (.v (.int .i64 300))), none⟩]
def q_law36_light_6 : List AOper := [
  ⟨(some 2), (.mv (.v (.bool false))), none⟩]
def q_law36_light_7 : List AOper := [
  ⟨(some 11), (.mv (.t 3)), none⟩,
  ⟨(some 12), (.bin .add (.t 11) (.v (.int .i64 1))), none⟩,
  ⟨(some 3), (.mv (.t 12)), none⟩]
def q_law36_light_L8 : ACode := (.seq (.seq (.region q_law36_light_4) (.cond (.t 10) .skip (.exit 0))) (.seq (.block 1 (.seq (.region q_law36_light_5) (.cond (.t 19) (.seq (.region q_law36_light_6) .ret) .skip))) (.region q_law36_light_7)))
def q_law36_light_8 : List AOper := [
  ⟨(some 2), (.mv (.v (.bool true))), none⟩]
def a_law36_light : AFunc := ⟨[(.tmp 2)], (.seq (.region q_law36_light_0) (.seq (.seq (.region q_law36_light_1) (.cond (.t 6) (.seq (.region q_law36_light_2) .ret) .skip)) (.seq (.seq (.region q_law36_light_3) (.block 0 (.loop q_law36_light_L8))) (.seq (.region q_law36_light_8) .ret))))⟩

def q_law36_same_0 : List AOper := [
  ⟨(some 3), (.box 42 .ag (.t 1)), none⟩,
  ⟨(some 4), (.mv (.v (.bool false))), none⟩]
def q_law36_same_1 : List AOper := [
  ⟨(some 15), (.mv (.t 0)), none⟩,
  ⟨(some 16), (.call F_Pring_Ring_All [(.sc, (.t 15))]), none⟩,
  ⟨(some 14), (.mv (.t 16)), none⟩,
  ⟨(some 17), (.ext 0 (.t 14)), none⟩,
  ⟨(some 18), (.ext 1 (.t 14)), none⟩,
  ⟨(some 5), (.mv (.t 17)), none⟩,
  ⟨(some 6), (.mv (.t 18)), none⟩]
def q_law36_same_2 : List DOp := [
  ⟨⟨(some 19), (.mv (.t 6)), none⟩, true, false, none, []⟩,
  ⟨⟨(some 20), (.eq .scI true (.t 19) (.v (.int .i64 0))), none⟩, true, false, none, []⟩,
  ⟨⟨(some 21), (.mv (.t 20)), none⟩, true, false, none, []⟩,
  ⟨⟨(some 22), (.mv (.t 5)), (some (21, false))⟩, true, false, none, []⟩,
  ⟨⟨(some 23), (.len false (.t 22)), (some (21, false))⟩, true, false, none, []⟩,
  ⟨⟨(some 24), (.fadr 2 1 .sc (.t 3)), (some (21, false))⟩, true, false, none, []⟩,
  ⟨⟨(some 25), (.load .sc 1 (.t 24)), (some (21, false))⟩, true, false, none, []⟩,
  ⟨⟨(some 26), (.len false (.t 25)), (some (21, false))⟩, true, false, none, []⟩,
  ⟨⟨(some 27), (.eq .scI true (.t 23) (.t 26)), (some (21, false))⟩, true, false, none, []⟩,
  ⟨⟨(some 28), (.pick (.t 21) (.v (.bool true)) (.t 27)), none⟩, true, false, none, []⟩,
  ⟨⟨(some 29), (.mv (.t 28)), none⟩, true, false, none, []⟩,
  ⟨⟨(some 30), (.mv (.t 0)), (some (29, false))⟩, true, false, none, []⟩,
  ⟨⟨(some 32), (.fadr 1 1 .sc (.t 3)), (some (29, false))⟩, true, false, none, []⟩,
  ⟨⟨(some 33), (.load .sc 1 (.t 32)), (some (29, false))⟩, true, false, none, []⟩,
  ⟨⟨(some 31), (.call F_Pring_Ring_First [(.sc, (.t 30))]), (some (29, false))⟩, false, true, (some [32]), []⟩,
  ⟨⟨(some 34), (.eq .scI true (.t 31) (.t 33)), (some (29, false))⟩, true, false, none, []⟩,
  ⟨⟨(some 35), (.pick (.t 29) (.v (.bool true)) (.t 34)), none⟩, true, false, none, []⟩,
  ⟨⟨(some 36), (.mv (.t 35)), none⟩, true, false, none, []⟩,
  ⟨⟨(some 37), (.mv (.t 0)), (some (36, false))⟩, true, false, none, []⟩,
  ⟨⟨(some 39), (.fadr 1 1 .sc (.t 3)), (some (36, false))⟩, true, false, none, []⟩,
  ⟨⟨(some 40), (.load .sc 1 (.t 39)), (some (36, false))⟩, true, false, none, []⟩,
  ⟨⟨(some 41), (.fadr 2 1 .sc (.t 3)), (some (36, false))⟩, true, false, none, []⟩,
  ⟨⟨(some 42), (.load .sc 1 (.t 41)), (some (36, false))⟩, true, false, none, []⟩,
  ⟨⟨(some 43), (.len false (.t 42)), (some (36, false))⟩, true, false, none, []⟩,
  ⟨⟨(some 44), (.bin .add (.t 40) (.t 43)), (some (36, false))⟩, true, false, none, []⟩,
  ⟨⟨(some 38), (.call F_Pring_Ring_Next [(.sc, (.t 37))]), (some (36, false))⟩, false, true, (some [41, 39]), []⟩,
  ⟨⟨(some 45), (.eq .scI true (.t 38) (.t 44)), (some (36, false))⟩, true, false, none, []⟩,
  ⟨⟨(some 46), (.pick (.t 36) (.v (.bool true)) (.t 45)), none⟩, true, false, none, []⟩,
  ⟨⟨(some 47), (.mv (.t 46)), none⟩, true, false, none, []⟩,
  ⟨⟨(some 48), (.mv (.t 0)), (some (47, false))⟩, true, false, none, []⟩,
  ⟨⟨(some 50), (.fadr 2 1 .sc (.t 3)), (some (47, false))⟩, true, false, none, []⟩,
  ⟨⟨(some 51), (.load .sc 1 (.t 50)), (some (47, false))⟩, true, false, none, []⟩,
  ⟨⟨(some 52), (.len false (.t 51)), (some (47, false))⟩, true, false, none, []⟩,
  ⟨⟨(some 49), (.call F_Pring_Ring_Len [(.sc, (.t 48))]), (some (47, false))⟩, false, true, (some [50]), []⟩,
  ⟨⟨(some 53), (.eq .scI true (.t 49) (.t 52)), (some (47, false))⟩, true, false, none, []⟩,
  ⟨⟨(some 54), (.pick (.t 47) (.v (.bool true)) (.t 53)), none⟩, true, false, none, []⟩,
  ⟨⟨(some 55), (.mv (.t 54)), none⟩, true, false, none, []⟩,
  ⟨⟨(some 56), (.mv (.t 0)), (some (55, false))⟩, true, false, none, []⟩,
  ⟨⟨(some 57), (.call F_Pring_Ring_Clean [(.sc, (.t 56))]), (some (55, false))⟩, false, false, none, []⟩,
  ⟨⟨(some 58), (.un .not (.t 57)), (some (55, false))⟩, true, false, none, []⟩,
  ⟨⟨(some 59), (.pick (.t 55) (.v (.bool true)) (.t 58)), none⟩, true, false, none, []⟩]
def q_law36_same_3 : List AOper := [
  ⟨(some 4), (.mv (.v (.bool false))), none⟩]
def q_law36_same_4 : List AOper := [
  ⟨(some 7), (.mv (.v (.int .i64 0))), none⟩]
def q_law36_same_5 : List AOper := [
  ⟨(some 60), (.mv (.t 7)), none⟩,
  ⟨(some 61), (.mv (.t 5)), none⟩,
  ⟨(some 62), (.len false (.t 61)), none⟩,
  ⟨(some 63), (.bin .lss (.t 60) (.t 62)), none⟩]
def q_law36_same_6 : List AOper := [
  ⟨(some 67), (.mv (.t 0)), none⟩,
  ⟨(some 68), (.fadr 1 1 .sc (.t 3)), none⟩,
  ⟨(some 69), (.load .sc 1 (.t 68)), none⟩,
  ⟨(some 70), (.mv (.t 7)), none⟩,
  ⟨(some 71), (.bin .add (.t 69) (.t 70)), none⟩,
  ⟨(some 72), (.call F_Pring_Ring_Read [(.sc, (.t 67)), (.sc, (.t 71))]), none⟩,
  ⟨(some 66), (.mv (.t 72)), none⟩,
  ⟨(some 73), (.ext 0 (.t 66)), none⟩,
  ⟨(some 74), (.ext 1 (.t 66)), none⟩,
  ⟨(some 8), (.mv (.t 73)), none⟩,
  ⟨(some 9), (.mv (.t 74)), none⟩]
def q_law36_same_7 : List DOp := [
  ⟨⟨(some 75), (.mv (.t 5)), none⟩, true, false, none, []⟩,
  ⟨⟨(some 76), (.mv (.t 7)), none⟩, true, false, none, []⟩,
  ⟨⟨(some 77), (.idx 1 (.t 75) (.t 76)), none⟩, true, false, none, []⟩,
  ⟨⟨(some 78), (.load .sc 1 (.t 77)), none⟩, true, false, none, []⟩,
  ⟨⟨(some 79), (.fadr 2 1 .sc (.t 3)), none⟩, true, false, none, []⟩,
  ⟨⟨(some 80), (.load .sc 1 (.t 79)), none⟩, true, false, none, []⟩,
  ⟨⟨(some 81), (.mv (.t 7)), none⟩, true, false, none, []⟩,
  ⟨⟨(some 82), (.idx 1 (.t 80) (.t 81)), none⟩, true, false, none, []⟩,
  ⟨⟨(some 83), (.load .sc 1 (.t 82)), none⟩, true, false, none, []⟩,
  ⟨⟨(some 84), (.call F_ref01_Same [(.sc, (.t 78)), (.sc, (.t 83))]), none⟩, false, false, none, []⟩,
  ⟨⟨(some 85), (.un .not (.t 84)), none⟩, true, false, none, []⟩,
  ⟨⟨(some 86), (.mv (.t 85)), none⟩, true, false, none, []⟩,
  ⟨⟨(some 87), (.mv (.t 9)), (some (86, false))⟩, true, false, none, []⟩,
  ⟨⟨(some 88), (.eq .scI true (.t 87) (.v (.int .i64 0))), (some (86, false))⟩, true, false, none, []⟩,
  ⟨⟨(some 89), (.pick (.t 86) (.v (.bool true)) (.t 88)), none⟩, true, false, none, []⟩,
  ⟨⟨(some 90), (.mv (.t 89)), none⟩, true, false, none, []⟩,
  ⟨⟨(some 91), (.mv (.t 8)), (some (90, false))⟩, true, false, none, []⟩,
  ⟨⟨(some 92), (.fadr 2 1 .sc (.t 3)), (some (90, false))⟩, true, false, none, []⟩,
  ⟨⟨(some 93), (.load .sc 1 (.t 92)), (some (90, false))⟩, true, false, none, []⟩,
  ⟨⟨(some 94), (.mv (.t 7)), (some (90, false))⟩, true, false, none, []⟩,
  ⟨⟨(some 95), (.idx 1 (.t 93) (.t 94)), (some (90, false))⟩, true, false, none, []⟩,
  ⟨⟨(some 96), (.load .sc 1 (.t 95)), (some (90, false))⟩, true, false, none, []⟩,
  ⟨⟨(some 97), (.call F_ref01_Same [(.sc, (.t 91)), (.sc, (.t 96))]), (some (90, false))⟩, false, false, none, []⟩,
  ⟨⟨(some 98), (.un .not (.t 97)), (some (90, false))⟩, true, false, none, []⟩,
  ⟨⟨(some 99), (.pick (.t 90) (.v (.bool true)) (.t 98)), none⟩, true, false, none, []⟩]
def q_law36_same_8 : List AOper := [
  ⟨(some 4), (.mv (.v (.bool false))), none⟩]
def q_law36_same_9 : List AOper := [
  ⟨(some 64), (.mv (.t 7)), none⟩,
  ⟨(some 65), (.bin .add (.t 64) (.v (.int .i64 1))), none⟩,
  ⟨(some 7), (.mv (.t 65)), none⟩]
def q_law36_same_L10 : ACode := (.seq (.seq (.region q_law36_same_5) (.cond (.t 63) .skip (.exit 0))) (.seq (.block 1 (.seq (.region q_law36_same_6) (.seq (.regionD q_law36_same_7) (.cond (.t 99) (.seq (.region q_law36_same_8) .ret) .skip)))) (.region q_law36_same_9)))
def q_law36_same_10 : List AOper := [
  ⟨(some 101), (.mv (.t 0)), none⟩,
  ⟨(some 102), (.fadr 1 1 .sc (.t 3)), none⟩,
  ⟨(some 103), (.load .sc 1 (.t 102)), none⟩,
  ⟨(some 104), (.bin .sub (.t 103) (.v (.int .i64 1))), none⟩,
  ⟨(some 105), (.call F_Pring_Ring_Read [(.sc, (.t 101)), (.sc, (.t 104))]), none⟩,
  ⟨(some 100), (.mv (.t 105)), none⟩,
  ⟨(some 106), (.ext 0 (.t 100)), none⟩,
  ⟨(some 107), (.ext 1 (.t 100)), none⟩,
  ⟨(some 10), (.mv (.t 106)), none⟩,
  ⟨(some 11), (.mv (.t 107)), none⟩]
def q_law36_same_11 : List AOper := [
  ⟨(some 109), (.mv (.t 0)), none⟩,
  ⟨(some 110), (.fadr 1 1 .sc (.t 3)), none⟩,
  ⟨(some 111), (.load .sc 1 (.t 110)), none⟩,
  ⟨(some 112), (.fadr 2 1 .sc (.t 3)), none⟩,
  ⟨(some 113), (.load .sc 1 (.t 112)), none⟩,
  ⟨(some 114), (.len false (.t 113)), none⟩,
  ⟨(some 115), (.bin .add (.t 111) (.t 114)), none⟩,
  ⟨(some 116), (.call F_Pring_Ring_Read [(.sc, (.t 109)), (.sc, (.t 115))]), none⟩,
  ⟨(some 108), (.mv (.t 116)), none⟩,
  ⟨(some 117), (.ext 0 (.t 108)), none⟩,
  ⟨(some 118), (.ext 1 (.t 108)), none⟩,
  ⟨(some 12), (.mv (.t 117)), none⟩,
  ⟨(some 13), (.mv (.t 118)), none⟩]
def q_law36_same_12 : List AOper := [
  ⟨(some 119), (.mv (.t 11)), none⟩,
  ⟨(some 120), (.eq .scI false (.t 119) (.v (.int .i64 8))), none⟩,
  ⟨(some 121), (.mv (.t 120)), none⟩,
  ⟨(some 122), (.mv (.t 13)), (some (121, true))⟩,
  ⟨(some 123), (.eq .scI false (.t 122) (.v (.int .i64 8))), (some (121, true))⟩,
  ⟨(some 124), (.pick (.t 121) (.t 123) (.v (.bool false))), none⟩,
  ⟨(some 4), (.mv (.t 124)), none⟩]
def a_law36_same : AFunc := ⟨[(.tmp 4)], (.seq (.region q_law36_same_0) (.seq (.region q_law36_same_1) (.seq (.seq (.regionD q_law36_same_2) (.cond (.t 59) (.seq (.region q_law36_same_3) .ret) .skip)) (.seq (.seq (.region q_law36_same_4) (.block 0 (.loop q_law36_same_L10))) (.seq (.region q_law36_same_10) (.seq (.region q_law36_same_11) (.seq (.region q_law36_same_12) .ret)))))))⟩


theorem c_ring_Put : trF Try.prog Try.f16 = some a_ring_Put := by kernel_rfl
theorem g_ring_Put : Try.prog.funcs[16]? = some Try.f16 := by kernel_rfl
theorem v_ring_Put {args : List AV} {v : AV} (hn : args.length ≤ 40) (h : X Try.prog (fin a_ring_Put.res v) a_ring_Put.body .done (env0 args) H0) : Gives Try.prog F_ring_Put args v :=
  Gives_intro g_ring_Put c_ring_Put (by rw [Try.ntmps16]; exact hn) h
@[simp] theorem k_ring_Put : callable Try.prog F_ring_Put = true := by kernel_rfl
theorem c_ring_Get : trF Try.prog Try.f18 = some a_ring_Get := by kernel_rfl
theorem g_ring_Get : Try.prog.funcs[18]? = some Try.f18 := by kernel_rfl
theorem j_ring_Get {args : List AV} {A : Heap} {K Kp : AV → Heap → Prop} (hn : args.length ≤ 41) (h : X Try.prog (inl a_ring_Get.res K Kp) a_ring_Get.body .done (env0 args) A) : SimX Try.prog F_ring_Get args A (outK K Kp) :=
  X_inl g_ring_Get c_ring_Get (by rw [Try.ntmps18]; exact hn) h
@[simp] theorem k_ring_Get : callable Try.prog F_ring_Get = true := by kernel_rfl
theorem c_ring_New : trF Try.prog Try.f23 = some a_ring_New := by kernel_rfl
theorem g_ring_New : Try.prog.funcs[23]? = some Try.f23 := by kernel_rfl
theorem j_ring_New {args : List AV} {A : Heap} {K Kp : AV → Heap → Prop} (hn : args.length ≤ 35) (h : X Try.prog (inl a_ring_New.res K Kp) a_ring_New.body .done (env0 args) A) : SimX Try.prog F_ring_New args A (outK K Kp) :=
  X_inl g_ring_New c_ring_New (by rw [Try.ntmps23]; exact hn) h
@[simp] theorem k_ring_New : callable Try.prog F_ring_New = true := by kernel_rfl
theorem c_ring_Open : trF Try.prog Try.f29 = some a_ring_Open := by kernel_rfl
theorem g_ring_Open : Try.prog.funcs[29]? = some Try.f29 := by kernel_rfl
theorem j_ring_Open {args : List AV} {A : Heap} {K Kp : AV → Heap → Prop} (hn : args.length ≤ 92) (h : X Try.prog (inl a_ring_Open.res K Kp) a_ring_Open.body .done (env0 args) A) : SimX Try.prog F_ring_Open args A (outK K Kp) :=
  X_inl g_ring_Open c_ring_Open (by rw [Try.ntmps29]; exact hn) h
@[simp] theorem k_ring_Open : callable Try.prog F_ring_Open = true := by kernel_rfl
theorem c_Pring_Ring_Drop : trF Try.prog Try.f24 = some a_Pring_Ring_Drop := by kernel_rfl
theorem g_Pring_Ring_Drop : Try.prog.funcs[24]? = some Try.f24 := by kernel_rfl
theorem j_Pring_Ring_Drop {args : List AV} {A : Heap} {K Kp : AV → Heap → Prop} (hn : args.length ≤ 55) (h : X Try.prog (inl a_Pring_Ring_Drop.res K Kp) a_Pring_Ring_Drop.body .done (env0 args) A) : SimX Try.prog F_Pring_Ring_Drop args A (outK K Kp) :=
  X_inl g_Pring_Ring_Drop c_Pring_Ring_Drop (by rw [Try.ntmps24]; exact hn) h
@[simp] theorem k_Pring_Ring_Drop : callable Try.prog F_Pring_Ring_Drop = true := by kernel_rfl
theorem c_Pring_Ring_Append : trF Try.prog Try.f26 = some a_Pring_Ring_Append := by kernel_rfl
theorem g_Pring_Ring_Append : Try.prog.funcs[26]? = some Try.f26 := by kernel_rfl
theorem j_Pring_Ring_Append {args : List AV} {A : Heap} {K Kp : AV → Heap → Prop} (hn : args.length ≤ 64) (h : X Try.prog (inl a_Pring_Ring_Append.res K Kp) a_Pring_Ring_Append.body .done (env0 args) A) : SimX Try.prog F_Pring_Ring_Append args A (outK K Kp) :=
  X_inl g_Pring_Ring_Append c_Pring_Ring_Append (by rw [Try.ntmps26]; exact hn) h
@[simp] theorem k_Pring_Ring_Append : callable Try.prog F_Pring_Ring_Append = true := by kernel_rfl
theorem c_Pring_Ring_Next : trF Try.prog Try.f30 = some a_Pring_Ring_Next := by kernel_rfl
theorem g_Pring_Ring_Next : Try.prog.funcs[30]? = some Try.f30 := by kernel_rfl
theorem j_Pring_Ring_Next {args : List AV} {A : Heap} {K Kp : AV → Heap → Prop} (hn : args.length ≤ 7) (h : X Try.prog (inl a_Pring_Ring_Next.res K Kp) a_Pring_Ring_Next.body .done (env0 args) A) : SimX Try.prog F_Pring_Ring_Next args A (outK K Kp) :=
  X_inl g_Pring_Ring_Next c_Pring_Ring_Next (by rw [Try.ntmps30]; exact hn) h
@[simp] theorem k_Pring_Ring_Next : callable Try.prog F_Pring_Ring_Next = true := by kernel_rfl
theorem c_Pring_Ring_Len : trF Try.prog Try.f31 = some a_Pring_Ring_Len := by kernel_rfl
theorem g_Pring_Ring_Len : Try.prog.funcs[31]? = some Try.f31 := by kernel_rfl
theorem j_Pring_Ring_Len {args : List AV} {A : Heap} {K Kp : AV → Heap → Prop} (hn : args.length ≤ 12) (h : X Try.prog (inl a_Pring_Ring_Len.res K Kp) a_Pring_Ring_Len.body .done (env0 args) A) : SimX Try.prog F_Pring_Ring_Len args A (outK K Kp) :=
  X_inl g_Pring_Ring_Len c_Pring_Ring_Len (by rw [Try.ntmps31]; exact hn) h
@[simp] theorem k_Pring_Ring_Len : callable Try.prog F_Pring_Ring_Len = true := by kernel_rfl
theorem c_Pring_Ring_First : trF Try.prog Try.f32 = some a_Pring_Ring_First := by kernel_rfl
theorem g_Pring_Ring_First : Try.prog.funcs[32]? = some Try.f32 := by kernel_rfl
theorem j_Pring_Ring_First {args : List AV} {A : Heap} {K Kp : AV → Heap → Prop} (hn : args.length ≤ 7) (h : X Try.prog (inl a_Pring_Ring_First.res K Kp) a_Pring_Ring_First.body .done (env0 args) A) : SimX Try.prog F_Pring_Ring_First args A (outK K Kp) :=
  X_inl g_Pring_Ring_First c_Pring_Ring_First (by rw [Try.ntmps32]; exact hn) h
@[simp] theorem k_Pring_Ring_First : callable Try.prog F_Pring_Ring_First = true := by kernel_rfl
theorem c_Pring_Ring_Read : trF Try.prog Try.f33 = some a_Pring_Ring_Read := by kernel_rfl
theorem g_Pring_Ring_Read : Try.prog.funcs[33]? = some Try.f33 := by kernel_rfl
theorem j_Pring_Ring_Read {args : List AV} {A : Heap} {K Kp : AV → Heap → Prop} (hn : args.length ≤ 53) (h : X Try.prog (inl a_Pring_Ring_Read.res K Kp) a_Pring_Ring_Read.body .done (env0 args) A) : SimX Try.prog F_Pring_Ring_Read args A (outK K Kp) :=
  X_inl g_Pring_Ring_Read c_Pring_Ring_Read (by rw [Try.ntmps33]; exact hn) h
@[simp] theorem k_Pring_Ring_Read : callable Try.prog F_Pring_Ring_Read = true := by kernel_rfl
theorem c_Pring_Ring_Clean : trF Try.prog Try.f34 = some a_Pring_Ring_Clean := by kernel_rfl
theorem g_Pring_Ring_Clean : Try.prog.funcs[34]? = some Try.f34 := by kernel_rfl
theorem j_Pring_Ring_Clean {args : List AV} {A : Heap} {K Kp : AV → Heap → Prop} (hn : args.length ≤ 41) (h : X Try.prog (inl a_Pring_Ring_Clean.res K Kp) a_Pring_Ring_Clean.body .done (env0 args) A) : SimX Try.prog F_Pring_Ring_Clean args A (outK K Kp) :=
  X_inl g_Pring_Ring_Clean c_Pring_Ring_Clean (by rw [Try.ntmps34]; exact hn) h
@[simp] theorem k_Pring_Ring_Clean : callable Try.prog F_Pring_Ring_Clean = true := by kernel_rfl
theorem c_Pring_Ring_All : trF Try.prog Try.f73 = some a_Pring_Ring_All := by kernel_rfl
theorem g_Pring_Ring_All : Try.prog.funcs[73]? = some Try.f73 := by kernel_rfl
theorem j_Pring_Ring_All {args : List AV} {A : Heap} {K Kp : AV → Heap → Prop} (hn : args.length ≤ 34) (h : X Try.prog (inl a_Pring_Ring_All.res K Kp) a_Pring_Ring_All.body .done (env0 args) A) : SimX Try.prog F_Pring_Ring_All args A (outK K Kp) :=
  X_inl g_Pring_Ring_All c_Pring_Ring_All (by rw [Try.ntmps73]; exact hn) h
@[simp] theorem k_Pring_Ring_All : callable Try.prog F_Pring_Ring_All = true := by kernel_rfl
theorem c_Pring_Ring_at : trF Try.prog Try.f86 = some a_Pring_Ring_at := by kernel_rfl
theorem g_Pring_Ring_at : Try.prog.funcs[86]? = some Try.f86 := by kernel_rfl
theorem j_Pring_Ring_at {args : List AV} {A : Heap} {K Kp : AV → Heap → Prop} (hn : args.length ≤ 16) (h : X Try.prog (inl a_Pring_Ring_at.res K Kp) a_Pring_Ring_at.body .done (env0 args) A) : SimX Try.prog F_Pring_Ring_at args A (outK K Kp) :=
  X_inl g_Pring_Ring_at c_Pring_Ring_at (by rw [Try.ntmps86]; exact hn) h
@[simp] theorem k_Pring_Ring_at : callable Try.prog F_Pring_Ring_at = true := by kernel_rfl
theorem c_Pring_Ring_found : trF Try.prog Try.f87 = some a_Pring_Ring_found := by kernel_rfl
theorem g_Pring_Ring_found : Try.prog.funcs[87]? = some Try.f87 := by kernel_rfl
theorem j_Pring_Ring_found {args : List AV} {A : Heap} {K Kp : AV → Heap → Prop} (hn : args.length ≤ 72) (h : X Try.prog (inl a_Pring_Ring_found.res K Kp) a_Pring_Ring_found.body .done (env0 args) A) : SimX Try.prog F_Pring_Ring_found args A (outK K Kp) :=
  X_inl g_Pring_Ring_found c_Pring_Ring_found (by rw [Try.ntmps87]; exact hn) h
@[simp] theorem k_Pring_Ring_found : callable Try.prog F_Pring_Ring_found = true := by kernel_rfl
theorem c_Pring_Ring_scrub : trF Try.prog Try.f88 = some a_Pring_Ring_scrub := by kernel_rfl
theorem g_Pring_Ring_scrub : Try.prog.funcs[88]? = some Try.f88 := by kernel_rfl
theorem j_Pring_Ring_scrub {args : List AV} {A : Heap} {K Kp : AV → Heap → Prop} (hn : args.length ≤ 39) (h : X Try.prog (inl a_Pring_Ring_scrub.res K Kp) a_Pring_Ring_scrub.body .done (env0 args) A) : SimX Try.prog F_Pring_Ring_scrub args A (outK K Kp) :=
  X_inl g_Pring_Ring_scrub c_Pring_Ring_scrub (by rw [Try.ntmps88]; exact hn) h
@[simp] theorem k_Pring_Ring_scrub : callable Try.prog F_Pring_Ring_scrub = true := by kernel_rfl
theorem c_ref36_Put : trF Try.prog Try.f17 = some a_ref36_Put := by kernel_rfl
theorem g_ref36_Put : Try.prog.funcs[17]? = some Try.f17 := by kernel_rfl
theorem v_ref36_Put {args : List AV} {v : AV} (hn : args.length ≤ 35) (h : X Try.prog (fin a_ref36_Put.res v) a_ref36_Put.body .done (env0 args) H0) : Gives Try.prog F_ref36_Put args v :=
  Gives_intro g_ref36_Put c_ref36_Put (by rw [Try.ntmps17]; exact hn) h
@[simp] theorem k_ref36_Put : callable Try.prog F_ref36_Put = true := by kernel_rfl
theorem c_ref36_Get : trF Try.prog Try.f19 = some a_ref36_Get := by kernel_rfl
theorem g_ref36_Get : Try.prog.funcs[19]? = some Try.f19 := by kernel_rfl
theorem j_ref36_Get {args : List AV} {A : Heap} {K Kp : AV → Heap → Prop} (hn : args.length ≤ 53) (h : X Try.prog (inl a_ref36_Get.res K Kp) a_ref36_Get.body .done (env0 args) A) : SimX Try.prog F_ref36_Get args A (outK K Kp) :=
  X_inl g_ref36_Get c_ref36_Get (by rw [Try.ntmps19]; exact hn) h
@[simp] theorem k_ref36_Get : callable Try.prog F_ref36_Get = true := by kernel_rfl
theorem c_ref36_Drop : trF Try.prog Try.f25 = some a_ref36_Drop := by kernel_rfl
theorem g_ref36_Drop : Try.prog.funcs[25]? = some Try.f25 := by kernel_rfl
theorem j_ref36_Drop {args : List AV} {A : Heap} {K Kp : AV → Heap → Prop} (hn : args.length ≤ 31) (h : X Try.prog (inl a_ref36_Drop.res K Kp) a_ref36_Drop.body .done (env0 args) A) : SimX Try.prog F_ref36_Drop args A (outK K Kp) :=
  X_inl g_ref36_Drop c_ref36_Drop (by rw [Try.ntmps25]; exact hn) h
@[simp] theorem k_ref36_Drop : callable Try.prog F_ref36_Drop = true := by kernel_rfl
theorem c_ref36_Append : trF Try.prog Try.f27 = some a_ref36_Append := by kernel_rfl
theorem g_ref36_Append : Try.prog.funcs[27]? = some Try.f27 := by kernel_rfl
theorem j_ref36_Append {args : List AV} {A : Heap} {K Kp : AV → Heap → Prop} (hn : args.length ≤ 53) (h : X Try.prog (inl a_ref36_Append.res K Kp) a_ref36_Append.body .done (env0 args) A) : SimX Try.prog F_ref36_Append args A (outK K Kp) :=
  X_inl g_ref36_Append c_ref36_Append (by rw [Try.ntmps27]; exact hn) h
@[simp] theorem k_ref36_Append : callable Try.prog F_ref36_Append = true := by kernel_rfl
theorem c_law36_RingSectors : trF Try.prog Try.f3 = some a_law36_RingSectors := by kernel_rfl
theorem g_law36_RingSectors : Try.prog.funcs[3]? = some Try.f3 := by kernel_rfl
theorem v_law36_RingSectors {args : List AV} {v : AV} (hn : args.length ≤ 75) (h : X Try.prog (fin a_law36_RingSectors.res v) a_law36_RingSectors.body .done (env0 args) H0) : Gives Try.prog F_law36_RingSectors args v :=
  Gives_intro g_law36_RingSectors c_law36_RingSectors (by rw [Try.ntmps3]; exact hn) h
@[simp] theorem k_law36_RingSectors : callable Try.prog F_law36_RingSectors = true := by kernel_rfl
theorem c_law36_RingDoes : trF Try.prog Try.f4 = some a_law36_RingDoes := by kernel_rfl
theorem g_law36_RingDoes : Try.prog.funcs[4]? = some Try.f4 := by kernel_rfl
theorem v_law36_RingDoes {args : List AV} {v : AV} (hn : args.length ≤ 162) (h : X Try.prog (fin a_law36_RingDoes.res v) a_law36_RingDoes.body .done (env0 args) H0) : Gives Try.prog F_law36_RingDoes args v :=
  Gives_intro g_law36_RingDoes c_law36_RingDoes (by rw [Try.ntmps4]; exact hn) h
@[simp] theorem k_law36_RingDoes : callable Try.prog F_law36_RingDoes = true := by kernel_rfl
theorem c_law36_RingTurns : trF Try.prog Try.f5 = some a_law36_RingTurns := by kernel_rfl
theorem g_law36_RingTurns : Try.prog.funcs[5]? = some Try.f5 := by kernel_rfl
theorem v_law36_RingTurns {args : List AV} {v : AV} (hn : args.length ≤ 144) (h : X Try.prog (fin a_law36_RingTurns.res v) a_law36_RingTurns.body .done (env0 args) H0) : Gives Try.prog F_law36_RingTurns args v :=
  Gives_intro g_law36_RingTurns c_law36_RingTurns (by rw [Try.ntmps5]; exact hn) h
@[simp] theorem k_law36_RingTurns : callable Try.prog F_law36_RingTurns = true := by kernel_rfl
theorem c_law36_RingCrashes : trF Try.prog Try.f6 = some a_law36_RingCrashes := by kernel_rfl
theorem g_law36_RingCrashes : Try.prog.funcs[6]? = some Try.f6 := by kernel_rfl
theorem v_law36_RingCrashes {args : List AV} {v : AV} (hn : args.length ≤ 187) (h : X Try.prog (fin a_law36_RingCrashes.res v) a_law36_RingCrashes.body .done (env0 args) H0) : Gives Try.prog F_law36_RingCrashes args v :=
  Gives_intro g_law36_RingCrashes c_law36_RingCrashes (by rw [Try.ntmps6]; exact hn) h
@[simp] theorem k_law36_RingCrashes : callable Try.prog F_law36_RingCrashes = true := by kernel_rfl
theorem c_law36_works : trF Try.prog Try.f15 = some a_law36_works := by kernel_rfl
theorem g_law36_works : Try.prog.funcs[15]? = some Try.f15 := by kernel_rfl
theorem v_law36_works {args : List AV} {v : AV} (hn : args.length ≤ 202) (h : X Try.prog (fin a_law36_works.res v) a_law36_works.body .done (env0 args) H0) : Gives Try.prog F_law36_works args v :=
  Gives_intro g_law36_works c_law36_works (by rw [Try.ntmps15]; exact hn) h
@[simp] theorem k_law36_works : callable Try.prog F_law36_works = true := by kernel_rfl
theorem c_law36_light : trF Try.prog Try.f21 = some a_law36_light := by kernel_rfl
theorem g_law36_light : Try.prog.funcs[21]? = some Try.f21 := by kernel_rfl
theorem v_law36_light {args : List AV} {v : AV} (hn : args.length ≤ 20) (h : X Try.prog (fin a_law36_light.res v) a_law36_light.body .done (env0 args) H0) : Gives Try.prog F_law36_light args v :=
  Gives_intro g_law36_light c_law36_light (by rw [Try.ntmps21]; exact hn) h
@[simp] theorem k_law36_light : callable Try.prog F_law36_light = true := by kernel_rfl
theorem c_law36_same : trF Try.prog Try.f28 = some a_law36_same := by kernel_rfl
theorem g_law36_same : Try.prog.funcs[28]? = some Try.f28 := by kernel_rfl
theorem j_law36_same {args : List AV} {A : Heap} {K Kp : AV → Heap → Prop} (hn : args.length ≤ 125) (h : X Try.prog (inl a_law36_same.res K Kp) a_law36_same.body .done (env0 args) A) : SimX Try.prog F_law36_same args A (outK K Kp) :=
  X_inl g_law36_same c_law36_same (by rw [Try.ntmps28]; exact hn) h
@[simp] theorem k_law36_same : callable Try.prog F_law36_same = true := by kernel_rfl
end Go.Proofs.Ytkmlndihdcplfaa

/- The walks of a record's Put and Get. -/
namespace Go.Proofs.Ytkmlndihdcplfaa
open Go AVL
attribute [-simp] AV.isAgg aappI aapp alen szOK aslc List.reduceReplicate
attribute [simp] shp good comps
set_option linter.unusedVariables false
set_option linter.unusedSimpArgs false
set_option maxRecDepth 8000

def putRC (n : Int) (b : List Nat) : Int := if n < 0 ∨ 1099511627776 < n then 2 else if 224 < b.length then 15 else 0
def putRS (n : Int) (b : List Nat) : List Nat := if putRC n b = 0 then recS n.toNat b else z256
theorem z256_ints : (List.replicate 256 (0 : Int)) = ints z256 := by simp [ints, z256]
theorem putRC_ok {n : Int} {b : List Nat} (h : putRC n b = 0) : 0 ≤ n ∧ n ≤ 1099511627776 ∧ b.length ≤ 224 := by
  unfold putRC at h
  split at h
  · omega
  · split at h <;> omega
theorem w_ring_Put_ok {n : Nat} {b : List Nat} (h : RecOK n b) : Gives Try.prog F_ring_Put [.int .i64 n, .isl .u8 (ints b)] (.tuple [.iarr .u8 256 (ints (recS n b)), .int .i64 0]) := by
  have hn := h.num
  have hl := h.len
  have hb := h.byt
  refine v_ring_Put (by simp) ?_
  unfold a_ring_Put
  have hn0 : ¬ (n : Int) < 0 := by omega
  have hn1 : ¬ (1099511627776 : Int) < n := by omega
  have hb1 : ¬ (224 : Int) < b.length := by omega
  have wn : IntKind.u64.wrap (n : Int) = (n : Int) := wrap_u64 (by omega)
  have wl : IntKind.u8.wrap (b.length : Int) = (b.length : Int) := wrap_u8 (by omega)
  obtain ⟨r5, hr5⟩ : ∃ r, r = q_ring_Put_5 := ⟨_, rfl⟩; rw [← hr5]
  obtain ⟨r6, hr6⟩ : ∃ r, r = q_ring_Put_6 := ⟨_, rfl⟩; rw [← hr6]
  obtain ⟨r7, hr7⟩ : ∃ r, r = q_ring_Put_7 := ⟨_, rfl⟩; rw [← hr7]
  obtain ⟨r8, hr8⟩ : ∃ r, r = q_ring_Put_8 := ⟨_, rfl⟩; rw [← hr8]
  simp -implicitDefEqProofs [q_ring_Put_0, q_ring_Put_1, q_ring_Put_3, hn0, hn1, hb1]
  intro g4
  obtain ⟨Y, e1, _, y4⟩ : ∃ Y : Heap, Y = H0.set g4 (.var 23 [.iarr .u8 256 (List.replicate 256 0)]) ∧ True ∧ Y g4 = some (.var 23 [.iarr .u8 256 (List.replicate 256 0)]) := ⟨_, rfl, trivial, set_eq'⟩
  rw [← e1]; clear e1
  simp -implicitDefEqProofs [hr5, q_ring_Put_5, wn]
  intro g21 hg21
  have k21 : SlS T_uint8 .u8 (.own g21 0 4) (ints mkR) Y (Y.set g21 (.irow T_uint8 .u8 (ints mkR))) := SlS.one hg21 rfl
  have hmk : ints mkR = [82, 73, 78, 71] := rfl
  rw [hmk] at k21
  obtain ⟨Z, hZ⟩ : ∃ Z, Z = Y.set g21 (.irow 5 .u8 [82, 73, 78, 71]) := ⟨_, rfl⟩
  have hZ' : Y.set g21 (.irow T_uint8 .u8 [82, 73, 78, 71]) = Z := hZ.symm
  rw [hZ'] at k21
  rw [← hZ]
  clear hZ hZ'
  refine (w_word_Put (n := n) (m := 8) (by omega) (by decide)).call (.cons (.refl _) rfl (.cons (.refl _) rfl .nil)) rfl fun g25 h25 => ?_
  have k25 : SlS T_uint8 .u8 (.own g25 0 8) (ints (le 8 n)) Z (Z.set g25 (.irow T_uint8 .u8 (ints (le 8 n)))) := SlS.one h25 (by simp)
  obtain ⟨W, hW⟩ : ∃ W, W = Z.set g25 (.irow T_uint8 .u8 (ints (le 8 n))) := ⟨_, rfl⟩
  rw [← hW] at k25 ⊢
  clear hW
  simp -implicitDefEqProofs
  refine (k21.mono k25.sub).appS (Sub_refl _) (k25.src (Sub_refl _)) (by simp) fun w1 D1 m1 a1 => ?_
  have s1 := m1.scl
  have d1 := m1.sub _ _ y4
  simp -implicitDefEqProofs [a1]
  simp -implicitDefEqProofs [hr6, q_ring_Put_6, wl, s1.shp, s1.good, s1.comps, s1.agg]
  intro g31 h31
  refine m1.appS (ys := [(b.length : Int)]) (sub_none h31) (srcI_row set_eq' rfl) (by simp) fun w2 D2 m2 a2 => ?_
  have s2 := m2.scl
  simp -implicitDefEqProofs [a2]
  simp -implicitDefEqProofs [hr7, q_ring_Put_7, s2.shp, s2.good, s2.comps, s2.agg]
  refine m2.appS (ys := ints b) (Sub_refl _) srcI_isl (by simp; omega) fun w3 D3 m3 a3 => ?_
  have e3 : [82, 73, 78, 71] ++ ints (le 8 n) ++ [(b.length : Int)] ++ ints b = ints (recB n b) := by
    unfold recB
    have : ints [b.length] = [(b.length : Int)] := rfl
    rw [← hmk, ← this]
    simp only [ints_append, List.append_assoc]
  rw [e3] at m3
  have s3 := m3.scl
  have d3 := m3.sub _ _ y4
  have hbb : Bytes (recB n b) := recB_bytes (by omega) hb
  have hbl := recB_len n b
  unfold recS
  obtain ⟨B, hB⟩ : ∃ B, B = recB n b := ⟨_, rfl⟩
  rw [← hB] at m3 hbb hbl ⊢
  simp -implicitDefEqProofs [a3, s3.shp, s3.good, s3.comps]
  refine (w_word_Whole hbb).call (.cons m3.vw s3.agg .nil) rfl ?_
  have hwl := whole_len B
  simp -implicitDefEqProofs [hwl]
  intro g7 hg7
  have n74 : ¬ g4 = g7 := fun e => by rw [← e, d3] at hg7; cases hg7
  obtain ⟨X, hX⟩ : ∃ X, X = D3.set g7 (.var 23 [.iarr .u8 256 (ints (whole B))]) := ⟨_, rfl⟩
  try simp only [← hX]
  have x7 : X g7 = some (.var 23 [.iarr .u8 256 (ints (whole B))]) := by rw [hX, set_eq']
  have x4 : X g4 = some (.var 23 [.iarr .u8 256 (List.replicate 256 0)]) := by rw [hX, set_ne' n74]; exact d3
  clear hX
  have hwb := whole_bytes hbb
  have hv7 := vw_arr (n := 252) x7 (by simp [hwl])
  rw [ints_take] at hv7
  simp -implicitDefEqProofs [hr8, q_ring_Put_8]
  refine (w_crc_Sealed ((whole B).take 252) (bytes_take hwb 252) (by simp; omega)).call (.cons hv7 rfl .nil) rfl fun g10 hg10 => ?_
  have hwo := sealN_whole (b := B) (by omega)
  have hsb : Bytes ((whole B).take 252 ++ fourN (moreN 0 ((whole B).take 252))) := bytes_append (bytes_take hwb 252) (bytes_four _)
  have x4' : ∀ cc, (X.set g10 cc) g4 = some (.var 23 [.iarr .u8 256 (List.replicate 256 0)]) := fun cc => by
    rw [set_ne' (fun e => by rw [← e, x4] at hg10; cases hg10)]; exact x4
  have l4 : (fourN (moreN 0 ((whole B).take 252))).length = 4 := rfl
  have hsl := sealN_len B
  have hv := vw_irow (A := X.set g10 (.irow 5 .u8 (ints ((whole B).take 252 ++ fourN (moreN 0 ((whole B).take 252)))))) set_eq' (n := min 252 (whole B).length + 4) (by simp [l4])
  have hw2 := w_word_Whole hsb
  rw [hwo] at hw2
  simp -implicitDefEqProofs
  refine hw2.call (.cons hv rfl .nil) rfl ?_
  simp -implicitDefEqProofs [x4', hsl, outOf]
theorem w_ring_Put (n : Int) {b : List Nat} (hb : Bytes b) (hl : b.length < 2 ^ 63) : Gives Try.prog F_ring_Put [.int .i64 n, .isl .u8 (ints b)] (.tuple [.iarr .u8 256 (ints (putRS n b)), .int .i64 (putRC n b)]) := by
  by_cases h : putRC n b = 0
  · obtain ⟨h1, h2, h3⟩ := putRC_ok h
    obtain ⟨m, rfl⟩ : ∃ m : Nat, n = m := ⟨n.toNat, by omega⟩
    have hS : putRS (m : Int) b = recS m b := if_pos h
    rw [hS, h]
    exact w_ring_Put_ok ⟨by omega, h3, hb⟩
  · have hS : putRS n b = z256 := if_neg h
    rw [hS]
    refine v_ring_Put (by simp) ?_
    unfold a_ring_Put
    have hz := z256_ints
    unfold putRC at h ⊢
    by_cases h0 : n < 0
    · rw [if_pos (.inl h0)]
      simp -implicitDefEqProofs [q_ring_Put_0, q_ring_Put_1, q_ring_Put_2, h0, outOf]
      exact hz
    by_cases h1 : 1099511627776 < n
    · rw [if_pos (.inr h1)]
      simp -implicitDefEqProofs [q_ring_Put_0, q_ring_Put_1, q_ring_Put_2, h0, h1, outOf]
      exact hz
    have hno : ¬ (n < 0 ∨ 1099511627776 < n) := by omega
    rw [if_neg hno] at h ⊢
    have h2 : 224 < b.length := by
      by_cases h2 : 224 < b.length
      · exact h2
      · rw [if_neg h2] at h; exact absurd rfl h
    have h2' : (224 : Int) < b.length := by omega
    rw [if_pos h2]
    simp -implicitDefEqProofs [q_ring_Put_0, q_ring_Put_1, q_ring_Put_3, q_ring_Put_4, h0, h1, h2', outOf]
    exact hz
end Go.Proofs.Ytkmlndihdcplfaa

/- The walks of the chapter's Put, and of ring.Get. -/
namespace Go.Proofs.Ytkmlndihdcplfaa
open Go AVL
attribute [-simp] AV.isAgg aappI aapp alen szOK aslc List.reduceReplicate
attribute [simp] shp good comps
set_option linter.unusedVariables false
set_option linter.unusedSimpArgs false
set_option maxRecDepth 8000

theorem w_ref36_Put_ok {n : Nat} {b : List Nat} (h : RecOK n b) : Gives Try.prog F_ref36_Put [.int .i64 n, .isl .u8 (ints b)] (.tuple [.iarr .u8 256 (ints (recS n b)), .int .i64 0]) := by
  have hn := h.num
  have hl := h.len
  have hb := h.byt
  refine v_ref36_Put (by simp) ?_
  unfold a_ref36_Put
  have hn0 : ¬ (n : Int) < 0 := by omega
  have hn1 : ¬ (1099511627776 : Int) < n := by omega
  have hb1 : ¬ (224 : Int) < b.length := by omega
  have wn : IntKind.u64.wrap (n : Int) = (n : Int) := wrap_u64 (by omega)
  have wl : IntKind.u8.wrap (b.length : Int) = (b.length : Int) := wrap_u8 (by omega)
  obtain ⟨r5, hr5⟩ : ∃ r, r = q_ref36_Put_5 := ⟨_, rfl⟩; rw [← hr5]
  obtain ⟨r6, hr6⟩ : ∃ r, r = q_ref36_Put_6 := ⟨_, rfl⟩; rw [← hr6]
  obtain ⟨r7, hr7⟩ : ∃ r, r = q_ref36_Put_7 := ⟨_, rfl⟩; rw [← hr7]
  obtain ⟨r8, hr8⟩ : ∃ r, r = q_ref36_Put_8 := ⟨_, rfl⟩; rw [← hr8]
  simp -implicitDefEqProofs [q_ref36_Put_0, q_ref36_Put_1, q_ref36_Put_3, hn0, hn1, hb1]
  intro g4
  obtain ⟨Y, e1, _, y4⟩ : ∃ Y : Heap, Y = H0.set g4 (.var 23 [.iarr .u8 256 (List.replicate 256 0)]) ∧ True ∧ Y g4 = some (.var 23 [.iarr .u8 256 (List.replicate 256 0)]) := ⟨_, rfl, trivial, set_eq'⟩
  rw [← e1]; clear e1
  simp -implicitDefEqProofs [hr5, q_ref36_Put_5]
  intro g21 hg21
  have k21 : SlS T_uint8 .u8 (.own g21 0 4) (ints mkR) Y (Y.set g21 (.irow T_uint8 .u8 (ints mkR))) := SlS.one hg21 rfl
  have hmk : ints mkR = [82, 73, 78, 71] := rfl
  rw [hmk] at k21
  obtain ⟨Z, hZ⟩ : ∃ Z, Z = Y.set g21 (.irow 5 .u8 [82, 73, 78, 71]) := ⟨_, rfl⟩
  have hZ' : Y.set g21 (.irow T_uint8 .u8 [82, 73, 78, 71]) = Z := hZ.symm
  rw [hZ'] at k21
  rw [← hZ]
  clear hZ hZ'
  simp -implicitDefEqProofs [hr6, q_ref36_Put_6, wn]
  refine (w_ref01_Put 8 n (by omega) (by decide)).call (.cons (.refl _) rfl (.cons (.refl _) rfl .nil)) fun v1 B1 h1 => ?_
  simp -implicitDefEqProofs
  refine (k21.mono h1.sub).appS (Sub_refl _) (h1.src (Sub_refl _)) (by simp) fun w1 D1 m1 a1 => ?_
  have s1 := m1.scl
  simp -implicitDefEqProofs [a1]
  simp -implicitDefEqProofs [hr7, q_ref36_Put_7, wl, s1.shp, s1.good, s1.comps, s1.agg]
  intro g31 h31
  refine m1.appS (ys := [(b.length : Int)]) (sub_none h31) (srcI_row set_eq' rfl) (by simp) fun w2 D2 m2 a2 => ?_
  have s2 := m2.scl
  simp -implicitDefEqProofs [a2]
  simp -implicitDefEqProofs [hr8, q_ref36_Put_8, s2.shp, s2.good, s2.comps, s2.agg]
  refine m2.appS (ys := ints b) (Sub_refl _) srcI_isl (by simp; omega) fun w3 D3 m3 a3 => ?_
  have e3 : [82, 73, 78, 71] ++ ints (le 8 n) ++ [(b.length : Int)] ++ ints b = ints (recB n b) := by
    unfold recB
    have : ints [b.length] = [(b.length : Int)] := rfl
    rw [← hmk, ← this]
    simp only [ints_append, List.append_assoc]
  rw [e3] at m3
  have s3 := m3.scl
  have d3 := m3.sub _ _ y4
  have hbb : Bytes (recB n b) := recB_bytes (by omega) hb
  have hbl := recB_len n b
  have hS := w_ref08_Sealed hbb (by omega)
  have hsl : (recS n b).length = 256 := recS_len n b
  have hSe : sealN (recB n b) = recS n b := rfl
  rw [hSe] at hS
  obtain ⟨S, hSS⟩ : ∃ S, S = recS n b := ⟨_, rfl⟩
  rw [← hSS] at hS hsl ⊢
  simp -implicitDefEqProofs [a3, s3.shp, s3.good, s3.comps]
  refine hS.call (.cons m3.vw s3.agg .nil) rfl ?_
  simp -implicitDefEqProofs [d3, hsl, outOf]
theorem w_ref36_Put (n : Int) {b : List Nat} (hb : Bytes b) (hl : b.length < 2 ^ 63) : Gives Try.prog F_ref36_Put [.int .i64 n, .isl .u8 (ints b)] (.tuple [.iarr .u8 256 (ints (putRS n b)), .int .i64 (putRC n b)]) := by
  by_cases h : putRC n b = 0
  · obtain ⟨h1, h2, h3⟩ := putRC_ok h
    obtain ⟨m, rfl⟩ : ∃ m : Nat, n = m := ⟨n.toNat, by omega⟩
    have hS : putRS (m : Int) b = recS m b := if_pos h
    rw [hS, h]
    exact w_ref36_Put_ok ⟨by omega, h3, hb⟩
  · have hS : putRS n b = z256 := if_neg h
    rw [hS]
    refine v_ref36_Put (by simp) ?_
    unfold a_ref36_Put
    have hz := z256_ints
    unfold putRC at h ⊢
    by_cases h0 : n < 0
    · rw [if_pos (.inl h0)]
      simp -implicitDefEqProofs [q_ref36_Put_0, q_ref36_Put_1, q_ref36_Put_2, h0, outOf]
      exact hz
    by_cases h1 : 1099511627776 < n
    · rw [if_pos (.inr h1)]
      simp -implicitDefEqProofs [q_ref36_Put_0, q_ref36_Put_1, q_ref36_Put_2, h0, h1, outOf]
      exact hz
    have hno : ¬ (n < 0 ∨ 1099511627776 < n) := by omega
    rw [if_neg hno] at h ⊢
    have h2 : 224 < b.length := by
      by_cases h2 : 224 < b.length
      · exact h2
      · rw [if_neg h2] at h; exact absurd rfl h
    have h2' : (224 : Int) < b.length := by omega
    rw [if_pos h2]
    simp -implicitDefEqProofs [q_ref36_Put_0, q_ref36_Put_1, q_ref36_Put_3, q_ref36_Put_4, h0, h1, h2', outOf]
    exact hz
theorem str_mk {T : List Nat} (hT : Bytes T) : ((strOf (ints T)).toList = [82, 73, 78, 71]) = (T = mkR) := by
  have h1 : (strOf (ints T)).toList = T.map UInt8.ofNat := by
    rw [Go.ByteArray.toList_eq, strOf_ints, sN_data]
  rw [h1]
  refine propext ⟨fun h => ?_, fun h => by rw [h]; rfl⟩
  have h2 := congrArg (List.map UInt8.toNat) h
  rw [List.map_map] at h2
  have h3 : T.map (UInt8.toNat ∘ UInt8.ofNat) = T := by
    conv => rhs; rw [← List.map_id T]
    exact List.map_congr_left fun b hb => u8_nat (hT b hb)
  rw [h3] at h2
  exact h2
section
variable {A : Heap} {K Kp : AV → Heap → Prop}
theorem w_ring_Get {x : List Nat} (hx : Sec x) (hk0 : getO x = false → ∀ C v b, A.Sub C → SlS T_uint8 .u8 v (ints b) A C → ∀ n : Int, K (.tuple [.int .i64 n, v, .bool false]) C) (hk1 : getO x = true → ∀ g C, A.Sub C → A g = none → C g = some (.irow T_uint8 .u8 (ints (getB x))) → K (.tuple [.int .i64 (getN x), .own g 0 (getB x).length, .bool true]) C) :
    SimX Try.prog F_ring_Get [.iarr .u8 256 (ints x)] A (outK K Kp) := by
  have hxl := hx.1
  have hxb := hx.2
  refine j_ring_Get (by simp) ?_
  unfold a_ring_Get
  obtain ⟨r4, hr4⟩ : ∃ r, r = q_ring_Get_4 := ⟨_, rfl⟩; rw [← hr4]
  obtain ⟨r5, hr5⟩ : ∃ r, r = q_ring_Get_5 := ⟨_, rfl⟩; rw [← hr5]
  obtain ⟨r6, hr6⟩ : ∃ r, r = q_ring_Get_6 := ⟨_, rfl⟩; rw [← hr6]
  obtain ⟨r7, hr7⟩ : ∃ r, r = q_ring_Get_7 := ⟨_, rfl⟩; rw [← hr7]
  obtain ⟨r8, hr8⟩ : ∃ r, r = q_ring_Get_8 := ⟨_, rfl⟩; rw [← hr8]
  simp -implicitDefEqProofs [q_ring_Get_0, hxl]
  intro g1 hg1
  obtain ⟨Y, e1, kY, y1⟩ : ∃ Y : Heap, Y = A.set g1 (.var 23 [.iarr .u8 256 (ints x)]) ∧ A.Sub Y ∧ Y g1 = some (.var T_256_uint8 [.iarr .u8 256 (ints x)]) := ⟨_, rfl, sub_none hg1, set_eq'⟩
  rw [← e1]; clear e1
  have hv := vw_arr' y1 (by simpa using hxl)
  have hh := w_crc_Holds x hxb (by omega)
  simp -implicitDefEqProofs [q_ring_Get_1, y1, hxl]
  refine hh.call (.cons hv rfl .nil) rfl ?_
  cases hho : holdsN x with
  | false =>
    have hno : getO x = false := by unfold getO; rw [hho]; rfl
    simp -implicitDefEqProofs [q_ring_Get_2, outOf]
    exact hk0 hno Y .nilS [] kY (SlS.nil kY) 0
  | true =>
    simp -implicitDefEqProofs [q_ring_Get_3, hxl]
    refine w_word_From (x := x) (at_ := 0) (m := 252) y1 (by decide) fun gc B hgc hc hs => ?_
    simp -implicitDefEqProofs
    simp -implicitDefEqProofs [hr4, q_ring_Get_4]
    refine w_Cursor_Bytes hxb hxl hc (n := 4) (by decide) fun g' B1 hc1 hg' hb1 k1 => ?_
    have hgg : g' ≠ gc := fun e => by rw [e, hc.cg] at hg'; cases hg'
    have h4 : ((x.drop 0).take 4).length = 4 := by simp; omega
    have hmin : min 4 x.length = 4 := by omega
    simp -implicitDefEqProofs [hb1, hmin]
    refine w_Cursor_Num hxb hxl hc1 (n := 8) (by decide) (by decide) fun B2 hc2 k2 => ?_
    have hb2 := k2 _ _ hgg hb1
    have e12 : B2 g' = B1 g' := by rw [hb1, hb2]
    simp -implicitDefEqProofs [keepC, keepL, keep1, e12]
    refine w_Cursor_Num hxb hxl hc2 (n := 1) (by decide) (by decide) fun B3 hc3 k3 => ?_
    have hb3 := k3 _ _ hgg hb2
    have e23 : B3 g' = B2 g' := by rw [hb2, hb3]
    have hN : leN ((x.drop (0 + 4)).take 8) = getN x := rfl
    have hK : leN ((x.drop (0 + 4 + 8)).take 1) = getK x := rfl
    rw [hN, hK]
    have hkb : getK x < 256 := by have := nmA_lt hxb 12 1; unfold getK; omega
    have hnb : getN x < 18446744073709551616 := by have := nmA_lt hxb 4 8; unfold getN; omega
    have wk : IntKind.i64.wrap ((getK x : Nat) : Int) = ((getK x : Nat) : Int) := wrap_i64 (by omega)
    simp -implicitDefEqProofs [keepC, keepL, keep1, e23, wk]
    have ht4 : (x.take 4).take 4 = x.take 4 := by rw [List.take_take, Nat.min_self]
    have hsm := str_mk (bytes_take hxb 4)
    have hsm3 : ((strOf (ints (mkR.take 4))).toList = [82, 73, 78, 71]) = True := by
      rw [str_mk (by unfold Bytes mkR; decide)]
      exact eq_true rfl
    have kB : A.Sub B := sub_tr kY hs
    have kC : ∀ g2 : Nat, A g2 ≠ none → g2 ≠ gc := fun g2 h e => h (by rw [e]; exact sub_noneL kY hgc)
    have kA : ∀ {C D : Heap}, A.Sub C → (∀ y c, y ≠ gc → C y = some c → D y = some c) → A.Sub D := fun h k y c hy => k y c (kC y (by rw [hy]; simp)) (h y c hy)
    have k3A : A.Sub B3 := kA (kA (kA kB k1) k2) k3
    by_cases hm : x.take 4 = mkR
    · by_cases hn : getN x ≤ 1099511627776
      · by_cases hk : getK x ≤ 224
        · have hn' : ¬ (1099511627776 : Int) < (getN x : Nat) := by omega
          have hk' : ¬ (224 : Int) < (getK x : Nat) := by omega
          have hwn : IntKind.i64.wrap ((getN x : Nat) : Int) = ((getN x : Nat) : Int) := wrap_i64 (by omega)
          simp -implicitDefEqProofs [hr5, q_ring_Get_5, ht4, hsm, hsm3, hm, hn', hk']
          simp -implicitDefEqProofs [hr7, q_ring_Get_7]
          refine w_Cursor_Bytes hxb hxl hc3 (n := getK x) (by omega) fun g2 B4 hc4 hg2 hb4 k4 => ?_
          simp -implicitDefEqProofs
          simp -implicitDefEqProofs [hr8, q_ring_Get_8, hwn]
          refine w_Cursor_Rest hxl hc4 ?_
          have k4A := kA k3A k4
          have hB : (x.drop (0 + 4 + 8 + 1)).take (getK x) = getB x := rfl
          rw [hB] at hb4
          have hbl : (getB x).length = getK x := by unfold getB; simp; omega
          have hz : zeroB ((x.drop (0 + 4 + 8 + 1 + getK x)).take (252 - 4 - 8 - 1 - getK x)) = zeroL ((x.drop (13 + getK x)).take (239 - getK x)) := rfl
          rw [hz]
          cases hzz : zeroL ((x.drop (13 + getK x)).take (239 - getK x)) with
          | true =>
            have hyes : getO x = true := by
              unfold getO
              rw [hho, hzz, decide_eq_true hm, decide_eq_true hn, decide_eq_true hk]; rfl
            simp -implicitDefEqProofs [outOf]
            have := hk1 hyes g2 B4 k4A (sub_noneL k3A hg2) hb4
            rw [hbl] at this
            exact this
          | false =>
            have hno : getO x = false := by
              unfold getO
              rw [hzz]; simp
            simp -implicitDefEqProofs [outOf]
            have hsl : SlS T_uint8 .u8 (.own g2 0 (getK x)) (ints (getB x)) A B4 := ⟨k4A, .inr ⟨g2, by simp [hbl], sub_noneL k3A hg2, hb4⟩⟩
            exact hk0 hno B4 _ (getB x) k4A hsl _
        · have hn' : ¬ (1099511627776 : Int) < (getN x : Nat) := by omega
          have hk' : (224 : Int) < (getK x : Nat) := by omega
          have hno : getO x = false := by
            unfold getO
            rw [decide_eq_false hk]; simp
          simp -implicitDefEqProofs [hr5, q_ring_Get_5, ht4, hsm, hsm3, hm, hn', hk']
          simp -implicitDefEqProofs [hr6, q_ring_Get_6, outOf]
          exact hk0 hno B3 .nilS [] k3A (SlS.nil k3A) 0
      · have hn' : (1099511627776 : Int) < (getN x : Nat) := by omega
        have hno : getO x = false := by
          unfold getO
          rw [decide_eq_false hn]; simp
        simp -implicitDefEqProofs [hr5, q_ring_Get_5, ht4, hsm, hsm3, hm, hn']
        simp -implicitDefEqProofs [hr6, q_ring_Get_6, outOf]
        exact hk0 hno B3 .nilS [] k3A (SlS.nil k3A) 0
    · have hno : getO x = false := by
        unfold getO
        rw [decide_eq_false hm]; simp
      simp -implicitDefEqProofs [hr5, q_ring_Get_5, ht4, hsm, hm]
      simp -implicitDefEqProofs [hr6, q_ring_Get_6, outOf]
      exact hk0 hno B3 .nilS [] k3A (SlS.nil k3A) 0
end
end Go.Proofs.Ytkmlndihdcplfaa

/- The chapter's Get and Same of words. -/
namespace Go.Proofs.Ytkmlndihdcplfaa
open Go AVL
attribute [-simp] AV.isAgg aappI aapp alen List.reduceReplicate
set_option linter.unusedVariables false
set_option linter.unusedSimpArgs false
set_option maxRecDepth 8000

theorem w_ref01_Get : ∀ (l : List Nat), Bytes l → l.length ≤ 8 → Gives Try.prog F_ref01_Get [.isl .u8 (ints l)] (.int .u64 (leN l))
  | [], _, _ => by
    refine v_ref01_Get (by simp) ?_
    simp -implicitDefEqProofs [a_ref01_Get, q_ref01_Get_0, q_ref01_Get_1, q_ref01_Get_2, outOf, leN]
  | x :: r, h, h8 => by
    refine v_ref01_Get (by simp) ?_
    have hx := h x (by simp)
    have hr : Bytes r := fun y hy => h y (by simp [hy])
    have h7 : r.length ≤ 7 := by simpa using h8
    have ih := w_ref01_Get r hr (by omega)
    have hlt := leN_lt r hr
    have h256 : 256 ^ r.length ≤ 256 ^ 7 := Nat.pow_le_pow_right (by decide) h7
    have hlt' : leN r < 256 ^ 7 := by omega
    have e0 : ¬ ((r.length : Int) + 1 = 0) := by omega
    have e1 : ¬ ((8 : Int) < (r.length : Int) + 1) := by omega
    have e2 : IntKind.u64.wrap (x : Int) = (x : Int) := wrap_u64 (by omega)
    have e3 : IntKind.u64.wrap (256 * (leN r : Int)) = 256 * (leN r : Int) := wrap_u64 (by omega)
    have e4 : IntKind.u64.wrap ((x : Int) + 256 * (leN r : Int)) = ((x + 256 * leN r : Nat) : Int) := by rw [wrap_u64 (by omega)]; omega
    have htl : List.take r.length (ints (x :: r)).tail = ints r := by
      show List.take r.length (ints r) = ints r
      rw [List.take_of_length_le (by simp)]
    have hhd : (ints (x :: r))[0]?.getD 0 = (x : Int) := by simp [ints]
    simp -implicitDefEqProofs [a_ref01_Get, q_ref01_Get_0, q_ref01_Get_1, q_ref01_Get_3, q_ref01_Get_5, e0, e1, e2]
    refine ⟨by omega, ?_⟩
    rw [htl]
    refine ih.call (.cons (.refl _) rfl .nil) rfl ?_
    simp -implicitDefEqProofs [e2, e3, e4, leN, outOf, hhd, Sub_refl]
theorem w_ref01_Same (a b : List Nat) (ha : Bytes a) (hb : Bytes b) : Gives Try.prog F_ref01_Same [.isl .u8 (ints a), .isl .u8 (ints b)] (.bool (decide (a = b))) := by
  refine v_ref01_Same (by simp) ?_
  simp -implicitDefEqProofs [a_ref01_Same, q_ref01_Same_0, q_ref01_Same_1, strOf_inj ha hb]
end Go.Proofs.Ytkmlndihdcplfaa

/- The walk of the chapter's Get. -/
namespace Go.Proofs.Ytkmlndihdcplfaa
open Go AVL
attribute [-simp] AV.isAgg aappI aapp alen szOK aslc List.reduceReplicate
attribute [simp] shp good comps
set_option linter.unusedVariables false
set_option linter.unusedSimpArgs false
set_option maxRecDepth 8000

section
variable {A : Heap} {K Kp : AV → Heap → Prop}
structure RgI (g1 : Nat) (x : List Nat) (Y : Heap) (i : Nat) (env : AEnv) (B : Heap) : Prop where
  le : i ≤ 256
  e1 : env 1 = .ptr g1 0
  e6 : env 6 = .int .i64 i
  w : SlS T_uint8 .u8 (env 5) (ints (x.take i)) Y B
theorem putRS_get {x : List Nat} (hx : Sec x) (hn : getN x ≤ 1099511627776) (hk : getK x ≤ 224) : putRS (getN x : Nat) (getB x) = recS (getN x) (getB x) := by
  have hbl : (getB x).length = getK x := by unfold getB; simp [hx.1]; omega
  have hc : putRC (getN x : Nat) (getB x) = 0 := by unfold putRC; rw [if_neg (by omega), if_neg (by omega)]
  unfold putRS
  rw [if_pos hc, Int.toNat_natCast]
theorem w_ref36_Get {x : List Nat} (hx : Sec x) (hk0 : getO x = false → ∀ C, A.Sub C → K (.tuple [.int .i64 0, .nilS, .bool false]) C) (hk1 : getO x = true → ∀ v C, A.Sub C → BsV T_uint8 C v (getB x) → K (.tuple [.int .i64 (getN x), v, .bool true]) C) :
    SimX Try.prog F_ref36_Get [.iarr .u8 256 (ints x)] A (outK K Kp) := by
  have hxl := hx.1
  have hxb := hx.2
  refine j_ref36_Get (by simp) ?_
  unfold a_ref36_Get
  obtain ⟨r6, hr6⟩ : ∃ r, r = q_ref36_Get_6 := ⟨_, rfl⟩; rw [← hr6]
  obtain ⟨r7, hr7⟩ : ∃ r, r = q_ref36_Get_7 := ⟨_, rfl⟩; rw [← hr7]
  obtain ⟨r8, hr8⟩ : ∃ r, r = q_ref36_Get_8 := ⟨_, rfl⟩; rw [← hr8]
  obtain ⟨r9, hr9⟩ : ∃ r, r = q_ref36_Get_9 := ⟨_, rfl⟩; rw [← hr9]
  obtain ⟨r10, hr10⟩ : ∃ r, r = q_ref36_Get_10 := ⟨_, rfl⟩; rw [← hr10]
  obtain ⟨r11, hr11⟩ : ∃ r, r = q_ref36_Get_11 := ⟨_, rfl⟩; rw [← hr11]
  obtain ⟨r12, hr12⟩ : ∃ r, r = q_ref36_Get_12 := ⟨_, rfl⟩; rw [← hr12]
  obtain ⟨r13, hr13⟩ : ∃ r, r = q_ref36_Get_13 := ⟨_, rfl⟩; rw [← hr13]
  simp -implicitDefEqProofs [q_ref36_Get_0, q_ref36_Get_1, q_ref36_Get_2, hxl]
  intro g1 hg1
  obtain ⟨Y, e1, kY, y1⟩ : ∃ Y : Heap, Y = A.set g1 (.var 23 [.iarr .u8 256 (ints x)]) ∧ A.Sub Y ∧ Y g1 = some (.var T_256_uint8 [.iarr .u8 256 (ints x)]) := ⟨_, rfl, sub_none hg1, set_eq'⟩
  rw [← e1]; clear e1
  refine X_lp (RgI g1 x Y) (fun i => 256 - i) 0 ⟨by omega, by simp, by simp, by simpa using SlS.nil (Sub_refl Y)⟩ ?_
  rintro i env B ⟨lei, e1, e6, hw⟩
  have b1 := hw.sub _ _ y1
  have hs := hw.scl
  rw [q_ref36_Get_L6]
  obtain ⟨r5, hr5⟩ : ∃ r, r = q_ref36_Get_5 := ⟨_, rfl⟩; rw [← hr5]
  simp -implicitDefEqProofs [q_ref36_Get_3, e6]
  refine ⟨fun hlt => ?_, fun hge => ?_⟩
  · have hlt' : i < 256 := by omega
    have hix : i < x.length := by omega
    have wi : IntKind.i64.wrap ((i : Int) + 1) = ((i + 1 : Nat) : Int) := by rw [wrap_i64 (by omega)]; simp
    obtain ⟨v, hv⟩ : ∃ v, v = x[i] := ⟨_, rfl⟩
    have hvd : x[i] = v := hv.symm
    have htk : x.take (i + 1) = x.take i ++ [v] := by rw [List.take_succ_eq_append_getElem hix, hv]
    simp -implicitDefEqProofs [q_ref36_Get_4, e1, e6, b1, hlt, hlt', hix, hxl, hvd, hs.shp, hs.good, hs.comps, hs.agg]
    intro g19 hg19
    refine hw.appS (ys := [(v : Int)]) (sub_none hg19) (srcI_row set_eq' rfl) (by simp; omega) fun w2 D2 m2 a2 => ?_
    simp -implicitDefEqProofs [a2]
    simp -implicitDefEqProofs [hr5, q_ref36_Get_5, e6, wi, -Int.natCast_add]
    refine lp_next (i + 1) ⟨by omega, by simp [e1], by simp, ?_⟩ (by omega)
    rw [htk]
    have : ints (x.take i ++ [v]) = ints (x.take i) ++ [(v : Int)] := by rw [← ints_append]; rfl
    rw [this]
    simpa using m2
  · have hi : i = 256 := by omega
    subst hi
    rw [List.take_of_length_le (by omega)] at hw
    obtain ⟨g5, hg5, gY, gB⟩ := hw.pos (by simp [hxl])
    rw [ints_length, hxl] at hg5
    rw [hg5] at hw hs
    have hb : BsV T_uint8 B (.own g5 0 256) x := BsV.row gB hxl.symm
    have hkb : getK x < 256 := by have := nmA_lt hxb 12 1; unfold getK; omega
    have hnb : getN x < 18446744073709551616 := by have := nmA_lt hxb 4 8; unfold getN; omega
    have hAB : A.Sub B := sub_tr kY hw.sub
    simp -implicitDefEqProofs [hr6, q_ref36_Get_6, hg5]
    refine ⟨hb.szOK (Sub_refl B), hb.slc (Sub_refl B) (lo := 4) (hi := 12) (by decide) (by omega) (fun Q hQ => by simpa [bnd] using hQ) (fun Q hQ => by simpa [bnd] using hQ) fun v1 hv1 => ?_⟩
    have hsc1 := hv1.scb
    simp -implicitDefEqProofs [hsc1.shp, hsc1.good, hsc1.comps, hsc1.agg]
    refine (w_ref01_Get ((x.drop 4).take 8) (bytes_take (bytes_drop hxb 4) 8) (by simp; omega)).call (.cons hv1.vw hsc1.agg .nil) rfl ?_
    have hN : leN ((x.drop 4).take 8) = getN x := rfl
    rw [hN]
    have h12 : 12 < x.length := by omega
    have hK : x[12] = getK x := by
      have h1 : (x.drop 12).take 1 = [x[12]] := by rw [List.drop_eq_getElem_cons h12]; rfl
      unfold getK nmA
      rw [h1]
      simp [leN]
    have wk : IntKind.i64.wrap ((getK x : Nat) : Int) = ((getK x : Nat) : Int) := wrap_i64 (by omega)
    simp -implicitDefEqProofs [hr7, q_ref36_Get_7, hg5, gB, h12, hK, wk]
    by_cases hn : getN x ≤ 1099511627776
    · have hn' : ¬ (1099511627776 : Int) < (getN x : Nat) := by omega
      by_cases hk : getK x ≤ 224
      · have hk' : ¬ (224 : Int) < (getK x : Nat) := by omega
        have hwn : IntKind.i64.wrap ((getN x : Nat) : Int) = ((getN x : Nat) : Int) := wrap_i64 (by omega)
        have w13 : IntKind.i64.wrap (13 + ((getK x : Nat) : Int)) = ((13 + getK x : Nat) : Int) := by rw [wrap_i64 (by omega)]; omega
        have hbb : Bytes (getB x) := bytes_take (bytes_drop hxb _) _
        have hbl : (getB x).length = getK x := by unfold getB; simp; omega
        have hgb : (x.drop 13).take (13 + getK x - 13) = getB x := by rw [show 13 + getK x - 13 = getK x by omega]; rfl
        have hP := w_ref36_Put (getN x : Nat) hbb (by omega)
        rw [putRS_get hx hn hk] at hP
        obtain ⟨cc, hcc⟩ : ∃ cc, cc = putRC (getN x : Nat) (getB x) := ⟨_, rfl⟩
        rw [← hcc] at hP
        have hSl : (recS (getN x) (getB x)).length = 256 := recS_len _ _
        have hSe : eqI 256 (ints (recS (getN x) (getB x))) (ints x) = decide (getO x = true) := by
          rw [eqI_ints hSl hxl]
          have := getO_iff hxb hxl
          cases ho : getO x with
          | true =>
            have h3 := (this.1 ho).2.2
            rw [h3]; simp
          | false =>
            have : ¬ recS (getN x) (getB x) = x := fun e => by rw [this.2 ⟨hn, hk, e⟩] at ho; cases ho
            simpa using this
        obtain ⟨S, hS⟩ : ∃ S, S = recS (getN x) (getB x) := ⟨_, rfl⟩
        rw [← hS] at hP hSl hSe
        obtain ⟨E13, hE13⟩ : ∃ e : Nat, e = 13 + getK x := ⟨_, rfl⟩
        rw [← hE13] at w13 hgb
        simp -implicitDefEqProofs [hr8, q_ref36_Get_8, hn', hk']
        simp -implicitDefEqProofs [hr10, q_ref36_Get_10, hg5, hwn, w13]
        refine ⟨hb.szOK (Sub_refl B), hb.slc (Sub_refl B) (lo := 13) (hi := E13) (by omega) (by omega) (fun Q hQ => by simpa [bnd] using hQ) (fun Q hQ => by simpa [bnd] using hQ) fun v2 hv2 => ?_⟩
        rw [hgb] at hv2
        have hsc2 := hv2.scb
        simp -implicitDefEqProofs [hsc2.shp, hsc2.good, hsc2.comps, hsc2.agg]
        refine hP.call (.cons (.refl _) rfl (.cons hv2.vw hsc2.agg .nil)) rfl ?_
        simp -implicitDefEqProofs [hSl]
        intro g9 hg9
        have n91 : ¬ g1 = g9 := fun e => by rw [← e, b1] at hg9; cases hg9
        obtain ⟨C, hC⟩ : ∃ C, C = B.set g9 (.var 23 [.iarr .u8 256 (ints S)]) := ⟨_, rfl⟩
        try simp only [← hC]
        have c9 : C g9 = some (.var 23 [.iarr .u8 256 (ints S)]) := by rw [hC, set_eq']
        have kC : B.Sub C := by rw [hC]; exact sub_none hg9
        have c1 := kC _ _ b1
        clear hC
        have hbC := hb.mono kC
        simp -implicitDefEqProofs [hr11, q_ref36_Get_11, e1, c9, c1, hSl, hxl, hSe]
        cases ho : getO x with
        | false =>
          simp -implicitDefEqProofs [hr12, q_ref36_Get_12, outOf]
          exact hk0 ho C (sub_tr hAB kC)
        | true =>
          simp -implicitDefEqProofs [hr13, q_ref36_Get_13, hg5, hwn, w13]
          refine ⟨hbC.szOK (Sub_refl C), hbC.slc (Sub_refl C) (lo := 13) (hi := E13) (by omega) (by omega) (fun Q hQ => by simpa [bnd] using hQ) (fun Q hQ => by simpa [bnd] using hQ) fun v3 hv3 => ?_⟩
          rw [hgb] at hv3
          have hsc3 := hv3.scb
          simp -implicitDefEqProofs [hsc3.shp, hsc3.good, hsc3.comps, hsc3.agg, outOf]
          exact hk1 ho v3 C (sub_tr hAB kC) hv3
      · have hk' : (224 : Int) < (getK x : Nat) := by omega
        have hno : getO x = false := by
          unfold getO
          rw [decide_eq_false hk]; simp
        simp -implicitDefEqProofs [hr8, q_ref36_Get_8, hn', hk']
        simp -implicitDefEqProofs [hr9, q_ref36_Get_9, outOf]
        exact hk0 hno B hAB
    · have hn' : (1099511627776 : Int) < (getN x : Nat) := by omega
      have hno : getO x = false := by
        unfold getO
        rw [decide_eq_false hn]; simp
      simp -implicitDefEqProofs [hr8, q_ref36_Get_8, hn']
      simp -implicitDefEqProofs [hr9, q_ref36_Get_9, outOf]
      exact hk0 hno B hAB
end
end Go.Proofs.Ytkmlndihdcplfaa

/- A ring on a disk, plainly. -/
namespace Go.Proofs.Ytkmlndihdcplfaa
open Go AVL
set_option linter.unusedVariables false
set_option linter.unusedSimpArgs false
set_option maxRecDepth 8000

theorem mod2 {a s : Nat} (h : a < 2 * s) : a % s = if a < s then a else a - s := by
  split
  · exact Nat.mod_eq_of_lt (by assumption)
  · rw [Nat.mod_eq_sub_mod (by omega), Nat.mod_eq_of_lt (by omega)]
/-- How far behind the tail a sector is. -/
def ixR (size tail i : Nat) : Nat := (i + size - tail % size) % size
theorem ixR_lt {size tail i : Nat} (hs : 0 < size) : ixR size tail i < size := Nat.mod_lt _ hs
theorem ixR_at {size tail k : Nat} (hk : k < size) : ixR size tail ((tail + k) % size) = k := by
  have ht : tail % size < size := Nat.mod_lt _ (by omega)
  have e : (tail + k) % size = (tail % size + k) % size := by simp [Nat.add_mod]
  unfold ixR
  rw [e, mod2 (a := tail % size + k) (by omega)]
  split
  · rw [mod2 (by omega)]; split <;> omega
  · rw [mod2 (by omega)]; split <;> omega
theorem at_ixR {size tail i : Nat} (hi : i < size) : (tail + ixR size tail i) % size = i := by
  have ht : tail % size < size := Nat.mod_lt _ (by omega)
  have e : (tail + ixR size tail i) % size = (tail % size + ixR size tail i) % size := by simp [Nat.add_mod]
  rw [e]
  unfold ixR
  rw [mod2 (a := i + size - tail % size) (by omega)]
  split
  · rw [mod2 (by omega)]; split <;> omega
  · rw [mod2 (by omega)]; split <;> omega
theorem ixR_eq {size tail i k : Nat} (hi : i < size) (hk : k < size) : ixR size tail i = k ↔ i = (tail + k) % size := by
  constructor
  · intro h; rw [← h, at_ixR hi]
  · intro h; rw [h, ixR_at hk]
theorem ixR_next {size tail i : Nat} (hi : i < size) (hn : i ≠ tail % size) : ixR size tail i = ixR size (tail + 1) i + 1 := by
  have h1 := at_ixR (tail := tail) hi
  have hlt := ixR_lt (size := size) (tail := tail) (i := i) (by omega)
  have h0 : ixR size tail i ≠ 0 := fun e => by rw [e] at h1; exact hn h1.symm
  have : ixR size (tail + 1) i = ixR size tail i - 1 := by
    rw [ixR_eq hi (by omega), show tail + 1 + (ixR size tail i - 1) = tail + ixR size tail i by omega, h1]
  omega
theorem ixR_last {size tail : Nat} (hs : 0 < size) : ixR size (tail + 1) (tail % size) = size - 1 := by
  rw [ixR_eq (Nat.mod_lt _ hs) (by omega), show tail + 1 + (size - 1) = tail + size by omega, Nat.add_mod_right]
/-- What stands in a sector of the ring. -/
def secR (size tail : Nat) (L : List (List Nat)) (i : Nat) : List Nat := match L[ixR size tail i]? with
  | some b => recS (tail + ixR size tail i) b
  | none => z256
theorem secR_rec {size tail k : Nat} {L : List (List Nat)} (hk : k < size) (hl : k < L.length) : secR size tail L ((tail + k) % size) = recS (tail + k) L[k] := by
  unfold secR
  rw [ixR_at hk, List.getElem?_eq_getElem hl]
theorem secR_none {size tail k : Nat} {L : List (List Nat)} (hk : k < size) (hl : L.length ≤ k) : secR size tail L ((tail + k) % size) = z256 := by
  unfold secR
  rw [ixR_at hk, List.getElem?_eq_none hl]
theorem secR_app {size tail i : Nat} {L : List (List Nat)} {b : List Nat} (hi : i < size) (hl : L.length < size) : secR size tail (L ++ [b]) i = if i = (tail + L.length) % size then recS (tail + L.length) b else secR size tail L i := by
  by_cases h : i = (tail + L.length) % size
  · rw [if_pos h]
    have := (ixR_eq (tail := tail) hi hl).2 h
    unfold secR
    rw [this]; simp
  · rw [if_neg h]
    have : ixR size tail i ≠ L.length := fun e => h ((ixR_eq hi hl).1 e)
    unfold secR
    rw [List.getElem?_append]
    by_cases h2 : ixR size tail i < L.length
    · rw [if_pos h2]
    · rw [if_neg h2, List.getElem?_eq_none (by simp; omega), List.getElem?_eq_none (by omega)]
theorem secR_drop {size tail i : Nat} {L : List (List Nat)} (hi : i < size) (hl : L.length ≤ size) (hp : 0 < L.length) : secR size (tail + 1) (L.drop 1) i = if i = tail % size then z256 else secR size tail L i := by
  by_cases h : i = tail % size
  · rw [if_pos h]
    have := ixR_last (size := size) (tail := tail) (by omega)
    unfold secR
    rw [h, this, List.getElem?_eq_none (by simp; omega)]
  · rw [if_neg h]
    have := ixR_next hi h
    unfold secR
    rw [this, List.getElem?_drop, show 1 + ixR size (tail + 1) i = ixR size (tail + 1) i + 1 by omega]
    split
    · rw [show tail + (ixR size (tail + 1) i + 1) = tail + 1 + ixR size (tail + 1) i by omega]
    · rfl
/-- A ring, on the sectors that last. -/
structure RgL (W : List (List Nat)) (fr size tail : Nat) (L : List (List Nat)) : Prop where
  fit : fr + size ≤ W.length
  pos : 2 ≤ size
  big : size ≤ 256
  len : L.length ≤ size
  rcs : ∀ b ∈ L, b.length ≤ 224 ∧ Bytes b
  num : tail + L.length ≤ 1073741824
  secs : ∀ i, i < size → W.getD (fr + i) [] = secR size tail L i
theorem getD_set {W : List (List Nat)} {a : Nat} {s : List Nat} (ha : a < W.length) (b : Nat) : (W.set a s).getD b [] = if b = a then s else W.getD b [] := by
  rw [List.getD_eq_getElem?_getD, List.getElem?_set, List.getD_eq_getElem?_getD]
  by_cases h : a = b
  · subst h; simp [ha]
  · rw [if_neg h, if_neg (fun e => h e.symm)]
section
variable {W : List (List Nat)} {fr size tail : Nat} {L : List (List Nat)}
theorem RgL.recOK (h : RgL W fr size tail L) {k : Nat} (hk : k < L.length) : RecOK (tail + k) L[k] := by
  have := h.rcs _ (List.getElem_mem hk)
  have hn := h.num
  exact ⟨by omega, this.1, this.2⟩
theorem RgL.app (h : RgL W fr size tail L) (hl : L.length < size) {b : List Nat} (hb : b.length ≤ 224) (hbb : Bytes b) (hn : tail + L.length < 1073741824) : RgL (W.set (fr + (tail + L.length) % size) (recS (tail + L.length) b)) fr size tail (L ++ [b]) where
  fit := by simpa using h.fit
  pos := h.pos
  big := h.big
  len := by simp; omega
  rcs := fun c hc => by
    rcases List.mem_append.1 hc with hc | hc
    · exact h.rcs c hc
    · simp only [List.mem_singleton] at hc; subst hc; exact ⟨hb, hbb⟩
  num := by simp; omega
  secs := fun i hi => by
    have hm : (tail + L.length) % size < size := Nat.mod_lt _ (by omega)
    have hf := h.fit
    rw [getD_set (by omega), secR_app hi hl, h.secs i hi]
    by_cases he : i = (tail + L.length) % size
    · rw [if_pos (by omega), if_pos he]
    · rw [if_neg (by omega), if_neg he]
theorem RgL.drop1 (h : RgL W fr size tail L) (hp : 0 < L.length) : RgL (W.set (fr + tail % size) z256) fr size (tail + 1) (L.drop 1) where
  fit := by simpa using h.fit
  pos := h.pos
  big := h.big
  len := by have := h.len; simp; omega
  rcs := fun c hc => h.rcs c (List.mem_of_mem_drop hc)
  num := by have := h.num; simp; omega
  secs := fun i hi => by
    have hm : tail % size < size := Nat.mod_lt _ (by have := h.pos; omega)
    have hf := h.fit
    rw [getD_set (by omega), secR_drop hi h.len hp, h.secs i hi]
    by_cases he : i = tail % size
    · rw [if_pos (by omega), if_pos he]
    · rw [if_neg (by omega), if_neg he]
/-- Noughts, where there is no record, change nothing. -/
theorem RgL.zero (h : RgL W fr size tail L) {k : Nat} (h1 : L.length ≤ k) (h2 : k < size) : W.set (fr + (tail + k) % size) z256 = W := by
  have hm : (tail + k) % size < size := Nat.mod_lt _ (by omega)
  have hf := h.fit
  have hs := h.secs _ hm
  rw [secR_none h2 h1] at hs
  refine List.ext_getElem (by simp) fun i hi hi' => ?_
  rw [List.getElem_set]
  split
  · rename_i e
    subst e
    rw [List.getD_eq_getElem?_getD, List.getElem?_eq_getElem hi'] at hs
    exact hs.symm
  · rfl
theorem RgL.same (h : RgL W fr size tail L) {t : Nat} {M : List (List Nat)} (k : RgL W fr size t M) (hne : L ≠ [] ∨ t = tail) : t = tail ∧ M = L := by
  have key : ∀ {t1 t2 : Nat} {L1 L2 : List (List Nat)}, RgL W fr size t1 L1 → RgL W fr size t2 L2 → ∀ j (hj : j < L1.length), ∃ i, ∃ hi : i < L2.length, t1 + j = t2 + i ∧ L1[j] = L2[i] := by
    intro t1 t2 L1 L2 h1 h2 j hj
    have hs := h1.pos
    have hl := h1.len
    have hm : (t1 + j) % size < size := Nat.mod_lt _ (by omega)
    have e1 := h1.secs _ hm
    rw [secR_rec (by omega) hj] at e1
    have e2 := h2.secs _ hm
    rw [e1] at e2
    have ho := get_rec (h1.recOK hj)
    unfold secR at e2
    split at e2
    · rename_i b hb
      obtain ⟨hi, hb'⟩ := List.getElem?_eq_some_iff.1 hb
      have hr := h2.recOK hi
      rw [hb'] at hr
      obtain ⟨n1, n2⟩ := recS_inj (h1.recOK hj) hr e2
      exact ⟨_, hi, n1, by rw [hb']; exact n2⟩
    · rw [e2] at ho
      have hz : getO z256 = false := getO_z
      rw [hz] at ho; cases ho.1
  rcases Nat.eq_zero_or_pos L.length with h0 | h0
  · have hLe : L = [] := List.eq_nil_of_length_eq_zero h0
    have htt : t = tail := by
      rcases hne with h1 | h1
      · exact absurd hLe h1
      · exact h1
    refine ⟨htt, ?_⟩
    rcases Nat.eq_zero_or_pos M.length with h2 | h2
    · rw [hLe]; exact List.eq_nil_of_length_eq_zero h2
    · obtain ⟨i, hi, _⟩ := key k h 0 h2
      omega
  · obtain ⟨i, hi, e1, _⟩ := key h k 0 h0
    obtain ⟨j, hj, e2, _⟩ := key k h 0 (by omega)
    have htt : t = tail := by omega
    subst htt
    refine ⟨rfl, ?_⟩
    have hll : M.length = L.length := by
      obtain ⟨i1, hi1, e3, _⟩ := key h k (L.length - 1) (by omega)
      obtain ⟨i2, hi2, e4, _⟩ := key k h (M.length - 1) (by omega)
      omega
    refine List.ext_getElem hll fun q h1 h2 => ?_
    obtain ⟨i3, hi3, e5, e6⟩ := key k h q h1
    have : i3 = q := by omega
    subst this
    exact e6
end
/-! the disk behind a write and a flush -/
/-- A disk at rest. -/
structure Rest (D : Dsk) : Prop where
  wait : D.wait = []
  down : D.down = false
def Dsk.put (D : Dsk) (a : Nat) (s : List Nat) : Dsk × Int := if D.ok then ((D.write a s).flush, codeOf (D.write a s).ok) else (D.write a s, 4)
theorem Dsk.put_ok {D : Dsk} (h : Rest D) {a : Nat} {s : List Nat} (hc : (D.put a s).2 = 0) : Rest (D.put a s).1 ∧ (D.put a s).1.last = D.last.set a s := by
  unfold Dsk.put at hc ⊢
  cases h1 : D.ok with
  | false => rw [h1] at hc; cases hc
  | true =>
    rw [h1] at hc
    simp only [if_true] at hc ⊢
    cases h2 : (D.write a s).ok with
    | false => rw [h2] at hc; cases hc
    | true =>
      have hd : ∀ E : Dsk, E.ok = true → E.step.down = E.down := fun E hE => by
        unfold Dsk.ok at hE
        simp at hE
        unfold Dsk.step
        rw [if_neg (by simp [hE])]
      have hw : D.write a s = { D.step with wait := [(a, s)] } := by unfold Dsk.write; rw [h1, h.wait]; rfl
      have hwd : (D.write a s).down = false := by rw [hw]; show D.step.down = false; rw [hd D h1, h.down]
      have hwl : (D.write a s).last = D.last := by rw [hw]; exact D.step_last
      have hww : (D.write a s).wait = [(a, s)] := by rw [hw]
      have hf : (D.write a s).flush = (D.write a s).step.settle (fun _ => true) := by unfold Dsk.flush; rw [h2]; rfl
      rw [hf]
      refine ⟨⟨rfl, ?_⟩, ?_⟩
      · show (D.write a s).step.down = false
        rw [hd _ h2, hwd]
      · show stl (fun _ => true) (D.write a s).step.wait (D.write a s).step.last (D.write a s).step.wait.length = _
        rw [Dsk.step_wait, Dsk.step_last, hww, hwl]
        rfl
theorem Dsk.put_bad {D : Dsk} (h : Rest D) {a : Nat} {s : List Nat} (hc : (D.put a s).2 ≠ 0) : (D.put a s).2 = 4 ∧ (D.put a s).1.down = true ∧ (D.put a s).1.wait.length ≤ 1 ∧ ∀ k : Bool, ((D.put a s).1.crash [k]).last = D.last ∨ ((D.put a s).1.crash [k]).last = D.last.set a s := by
  have hd : ∀ E : Dsk, E.ok = false → E.step.down = true := fun E hE => by
    unfold Dsk.ok at hE
    simp at hE
    have : E.down = true ∨ E.fuse = 0 := by
      cases h1 : E.down with
      | true => exact .inl rfl
      | false => exact .inr (hE h1)
    unfold Dsk.step
    rw [if_pos this]
  unfold Dsk.put at hc ⊢
  cases h1 : D.ok with
  | false =>
    have hw : D.write a s = D.step := by unfold Dsk.write; rw [h1]; rfl
    rw [hw]
    refine ⟨rfl, hd D h1, ?_, fun k => .inl ?_⟩
    · show D.step.wait.length ≤ 1
      rw [Dsk.step_wait, h.wait]; simp
    · show stl _ D.step.wait D.step.last D.step.wait.length = _
      rw [Dsk.step_wait, Dsk.step_last, h.wait]; rfl
  | true =>
    rw [h1] at hc
    simp only [if_true] at hc ⊢
    cases h2 : (D.write a s).ok with
    | true => rw [h2] at hc; exact absurd rfl hc
    | false =>
      have hw : D.write a s = { D.step with wait := [(a, s)] } := by unfold Dsk.write; rw [h1, h.wait]; rfl
      have hwl : (D.write a s).last = D.last := by rw [hw]; exact D.step_last
      have hww : (D.write a s).wait = [(a, s)] := by rw [hw]
      have hf : (D.write a s).flush = (D.write a s).step := by unfold Dsk.flush; rw [h2]; rfl
      rw [hf]
      refine ⟨rfl, hd _ h2, ?_, fun k => ?_⟩
      · rw [Dsk.step_wait, hww]; simp
      · have : ((D.write a s).step.crash [k]).last = if k then D.last.set a s else D.last := by
          show stl _ (D.write a s).step.wait (D.write a s).step.last (D.write a s).step.wait.length = _
          rw [Dsk.step_wait, Dsk.step_last, hww, hwl]
          simp only [List.length_singleton, stl, keeps]
          rfl
        rw [this]
        cases k
        · exact .inl rfl
        · exact .inr rfl
theorem Dsk.step_steps (D : Dsk) : D.step.steps ≤ D.steps + 1 := by unfold Dsk.step; split <;> simp
theorem Dsk.put_steps (D : Dsk) (a : Nat) (s : List Nat) : (D.put a s).1.steps ≤ D.steps + 2 := by
  have hw : (D.write a s).steps ≤ D.steps + 1 := by unfold Dsk.write; split <;> exact D.step_steps
  have hf : (D.write a s).flush.steps ≤ (D.write a s).steps + 1 := by unfold Dsk.flush; split <;> exact Dsk.step_steps _
  unfold Dsk.put
  split
  · show (D.write a s).flush.steps ≤ _; omega
  · show (D.write a s).steps ≤ _; omega
/-- Without a fuse there is power. -/
theorem Dsk.put_free {D : Dsk} (h : Rest D) (hf : D.fuse < 0) (a : Nat) (s : List Nat) : (D.put a s).2 = 0 ∧ (D.put a s).1.fuse = D.fuse := by
  have h1 : D.ok = true := by unfold Dsk.ok; rw [h.down]; simp; omega
  have hs : ∀ E : Dsk, E.fuse < 0 → E.ok = true → E.step.fuse = E.fuse := fun E h1 h2 => by
    unfold Dsk.ok at h2
    simp at h2
    unfold Dsk.step
    rw [if_neg (by simp [h2])]
    simp; omega
  have hw : D.write a s = { D.step with wait := [(a, s)] } := by unfold Dsk.write; rw [h1, h.wait]; rfl
  have hwf : (D.write a s).fuse = D.fuse := by rw [hw]; exact hs D hf h1
  have hwd : (D.write a s).down = false := by
    rw [hw]
    show D.step.down = false
    have h2 := h1
    unfold Dsk.ok at h2
    simp at h2
    unfold Dsk.step
    rw [if_neg (by simp [h2])]; exact h.down
  have h2 : (D.write a s).ok = true := by unfold Dsk.ok; rw [hwd, hwf]; simp; omega
  have hff : (D.write a s).flush = (D.write a s).step.settle (fun _ => true) := by unfold Dsk.flush; rw [h2]; rfl
  unfold Dsk.put
  rw [h1]
  simp only [if_true]
  refine ⟨by rw [h2]; rfl, ?_⟩
  rw [hff]
  show (D.write a s).step.fuse = _
  rw [hs _ (by rw [hwf]; exact hf) h2, hwf]
theorem Rest.crash {D : Dsk} (k : List Bool) : Rest (D.crash k) := ⟨rfl, rfl⟩
theorem Rest.val {D : Dsk} (h : Rest D) (a : Nat) : D.val a = D.last.getD a [] := by unfold Dsk.val; rw [h.wait]; rfl
/-- What is read. -/
theorem Rest.rd {D : Dsk} (h : Rest D) {a : Nat} (ha : a < D.last.length) : D.rd (a : Int) = (D.last.getD a [], 0) := by
  have hi : D.inside (a : Int) = true := by unfold Dsk.inside; simp; omega
  unfold Dsk.rd
  rw [hi, h.down, ← h.val]
  simp
end Go.Proofs.Ytkmlndihdcplfaa

/- The walks of a ring's small functions, and of Read. -/
namespace Go.Proofs.Ytkmlndihdcplfaa
open Go AVL
attribute [-simp] AV.isAgg aappI aapp alen szOK aslc List.reduceReplicate
attribute [simp] shp good comps
set_option linter.unusedVariables false
set_option linter.unusedSimpArgs false
set_option maxRecDepth 8000

def rgC (gd fr size tail head : Nat) : Cont := .var 132 [.ptr gd 0, .int .i64 fr, .int .i64 size, .int .i64 tail, .int .i64 head]
/-- A ring in memory. -/
structure RgAt (A : Heap) (gr gd fr size tail head : Nat) (L : List (List Nat)) (D : Dsk) (B : Heap) : Prop where
  ar : A gr = some (rgC gd fr size tail head)
  hd : head = tail + L.length
  dk : DskAt A gd D B
  rest : Rest D
  on : RgL D.last fr size tail L
section
variable {A B : Heap} {K Kp : AV → Heap → Prop} {gr gd fr size tail head : Nat} {L : List (List Nat)} {D : Dsk}
theorem RgAt.br (h : RgAt A gr gd fr size tail head L D B) : B gr = some (rgC gd fr size tail head) := h.dk.sub _ _ h.ar
theorem RgAt.mono (h : RgAt A gr gd fr size tail head L D B) {C : Heap} (hs : B.Sub C) : RgAt A gr gd fr size tail head L D C := ⟨h.ar, h.hd, h.dk.mono hs, h.rest, h.on⟩
theorem RgAt.bnd (h : RgAt A gr gd fr size tail head L D B) : fr + size ≤ 4096 ∧ head ≤ 1073741824 ∧ tail ≤ head ∧ head ≤ tail + size ∧ 2 ≤ size ∧ size ≤ 256 := by
  have h1 := h.on.fit
  have h2 := h.dk.wf.size
  have h3 := h.on.num
  have h4 := h.on.len
  have h5 := h.hd
  exact ⟨by omega, by omega, by omega, by omega, h.on.pos, h.on.big⟩
theorem w_ring_at (hB : B gr = some (rgC gd fr size tail head)) {n : Nat} (hn : n < 2 ^ 40) (hfr : fr < 2 ^ 20) (hs0 : 0 < size) (hs : size < 2 ^ 20) (hk : K (.int .i64 ((fr + n % size : Nat) : Int)) B) : SimX Try.prog F_Pring_Ring_at [.ptr gr 0, .int .i64 n] B (outK K Kp) := by
  unfold rgC at hB
  refine j_Pring_Ring_at (by simp) ?_
  have hm : n % size < size := Nat.mod_lt _ hs0
  have e1 : (n : Int).tmod (size : Int) = ((n % size : Nat) : Int) := (Int.ofNat_tmod n size).symm
  obtain ⟨q, hq⟩ : ∃ q, q = n % size := ⟨_, rfl⟩
  rw [← hq] at hm e1 hk
  have e2 : IntKind.i64.wrap ((q : Nat) : Int) = (q : Int) := wrap_i64 (by omega)
  have e3 : IntKind.i64.wrap ((fr : Int) + (q : Int)) = ((fr + q : Nat) : Int) := by rw [wrap_i64 (by omega)]; omega
  have e4 : ¬ (size : Int) = 0 := by omega
  have e5 : ¬ size = 0 := by omega
  simp -implicitDefEqProofs [a_Pring_Ring_at, q_Pring_Ring_at_0, q_Pring_Ring_at_1, hB, e1, e2, e3, e4, e5, outOf, -Int.natCast_add]
  exact hk
theorem w_ring_Len (hB : B gr = some (rgC gd fr size tail head)) (h1 : tail ≤ head) (h2 : head < 2 ^ 40) (hk : K (.int .i64 ((head - tail : Nat) : Int)) B) : SimX Try.prog F_Pring_Ring_Len [.ptr gr 0] B (outK K Kp) := by
  unfold rgC at hB
  refine j_Pring_Ring_Len (by simp) ?_
  have e1 : IntKind.i64.wrap ((head : Int) - (tail : Int)) = ((head - tail : Nat) : Int) := by rw [wrap_i64 (by omega)]; omega
  simp -implicitDefEqProofs [a_Pring_Ring_Len, q_Pring_Ring_Len_0, q_Pring_Ring_Len_1, hB, e1, outOf]
  exact hk
theorem w_ring_Next (hB : B gr = some (rgC gd fr size tail head)) (hk : K (.int .i64 head) B) : SimX Try.prog F_Pring_Ring_Next [.ptr gr 0] B (outK K Kp) := by
  unfold rgC at hB
  refine j_Pring_Ring_Next (by simp) ?_
  simp -implicitDefEqProofs [a_Pring_Ring_Next, q_Pring_Ring_Next_0, q_Pring_Ring_Next_1, hB, outOf]
  exact hk
theorem w_ring_First (hB : B gr = some (rgC gd fr size tail head)) (hk : K (.int .i64 tail) B) : SimX Try.prog F_Pring_Ring_First [.ptr gr 0] B (outK K Kp) := by
  unfold rgC at hB
  refine j_Pring_Ring_First (by simp) ?_
  simp -implicitDefEqProofs [a_Pring_Ring_First, q_Pring_Ring_First_0, q_Pring_Ring_First_1, hB, outOf]
  exact hk
theorem w_disk_Size (h : DskAt A gd D B) (hk : K (.int .i64 D.last.length) B) : SimX Try.prog F_Pdisk_Disk_Size [.ptr gd 0] B (outK K Kp) := by
  obtain ⟨gl, v, gm, h⟩ := h
  refine j_Pdisk_Disk_Size (by simp) ?_
  have h1 := h.at'
  unfold dskC at h1
  have hs := h.wait.scl
  simp -implicitDefEqProofs [a_Pdisk_Disk_Size, q_Pdisk_Disk_Size_0, q_Pdisk_Disk_Size_1, h1, hs.size, hs.shp, hs.agg, hs.good, hs.comps, outOf]
  exact hk
theorem w_disk_Down (h : DskAt A gd D B) (hk : K (.bool D.down) B) : SimX Try.prog F_Pdisk_Disk_Down [.ptr gd 0] B (outK K Kp) := by
  obtain ⟨gl, v, gm, h⟩ := h
  refine j_Pdisk_Disk_Down (by simp) ?_
  have h1 := h.at'
  unfold dskC at h1
  have hs := h.wait.scl
  simp -implicitDefEqProofs [a_Pdisk_Disk_Down, q_Pdisk_Disk_Down_0, q_Pdisk_Disk_Down_1, h1, hs.size, hs.shp, hs.agg, hs.good, hs.comps, outOf]
  exact hk
/-- What is read of the ring's sectors. -/
theorem RgAt.rd (h : RgAt A gr gd fr size tail head L D B) {k : Nat} (hk : k < size) : D.rd ((fr + (tail + k) % size : Nat) : Int) = (secR size tail L ((tail + k) % size), 0) := by
  have hm : (tail + k) % size < size := Nat.mod_lt _ (by omega)
  have hf := h.on.fit
  rw [h.rest.rd (by omega), h.on.secs _ hm]
theorem secR_sec (h : RgL D.last fr size tail L) {i : Nat} (hi : i < size) : Sec (secR size tail L i) := by
  unfold secR
  split
  · rename_i b hb
    obtain ⟨hi, rfl⟩ := List.getElem?_eq_some_iff.1 hb
    exact ⟨recS_len _ _, recS_bytes (h.recOK hi)⟩
  · exact sec_z
theorem w_ring_Read (h : RgAt A gr gd fr size tail head L D B) (n : Int) (hk0 : n < tail ∨ head ≤ n → K (.tuple [.nilS, .int .i64 8]) B)
    (hk1 : ∀ k (hk : k < L.length), n = ((tail + k : Nat) : Int) → ∀ g C, B.Sub C → B g = none → C g = some (.irow T_uint8 .u8 (ints L[k])) → K (.tuple [.own g 0 L[k].length, .int .i64 0]) C) : SimX Try.prog F_Pring_Ring_Read [.ptr gr 0, .int .i64 n] B (outK K Kp) := by
  have hB := h.br
  obtain ⟨b1, b2, b3, b4, b5, b6⟩ := h.bnd
  refine j_Pring_Ring_Read (by simp) ?_
  unfold a_Pring_Ring_Read
  have hB' := hB
  unfold rgC at hB'
  by_cases h1 : n < tail
  · simp -implicitDefEqProofs [q_Pring_Ring_Read_0, q_Pring_Ring_Read_1, q_Pring_Ring_Read_2, hB', h1, outOf]
    exact hk0 (.inl h1)
  by_cases h2 : (head : Int) ≤ n
  · simp -implicitDefEqProofs [q_Pring_Ring_Read_0, q_Pring_Ring_Read_1, q_Pring_Ring_Read_2, hB', h1, h2, outOf]
    exact hk0 (.inr h2)
  have hhd := h.hd
  obtain ⟨k, hk⟩ : ∃ k : Nat, n = ((tail + k : Nat) : Int) := ⟨(n - tail).toNat, by omega⟩
  have hkl : k < L.length := by omega
  have hks : k < size := by omega
  have hrd := h.rd hks
  have hrec := h.on.recOK hkl
  have hget := get_rec hrec
  have hsec : Sec (recS (tail + k) L[k]) := ⟨recS_len _ _, recS_bytes hrec⟩
  rw [secR_rec hks hkl] at hrd
  obtain ⟨N, hN⟩ : ∃ N, N = tail + k := ⟨_, rfl⟩
  have hk1 := hk1 k hkl hk
  obtain ⟨b, hb⟩ : ∃ b, b = L[k] := ⟨_, rfl⟩
  rw [← hN, ← hb] at hget hsec hrd
  rw [← hb] at hk1
  rw [← hN] at hk
  obtain ⟨q, hq⟩ : ∃ q, q = fr + N % size := ⟨_, rfl⟩
  rw [← hq] at hrd
  obtain ⟨S, hS⟩ : ∃ S, S = recS N b := ⟨_, rfl⟩
  rw [← hS] at hget hsec hrd
  obtain ⟨r3, hr3⟩ : ∃ r, r = q_Pring_Ring_Read_3 := ⟨_, rfl⟩; rw [← hr3]
  obtain ⟨r4, hr4⟩ : ∃ r, r = q_Pring_Ring_Read_4 := ⟨_, rfl⟩; rw [← hr4]
  obtain ⟨r6, hr6⟩ : ∃ r, r = q_Pring_Ring_Read_6 := ⟨_, rfl⟩; rw [← hr6]
  obtain ⟨r7, hr7⟩ : ∃ r, r = q_Pring_Ring_Read_7 := ⟨_, rfl⟩; rw [← hr7]
  obtain ⟨r9, hr9⟩ : ∃ r, r = q_Pring_Ring_Read_9 := ⟨_, rfl⟩; rw [← hr9]
  simp -implicitDefEqProofs [q_Pring_Ring_Read_0, q_Pring_Ring_Read_1, hB', h1, h2]
  rw [hk]
  simp -implicitDefEqProofs [hr3, q_Pring_Ring_Read_3, hB']
  refine w_ring_at hB (by omega) (by omega) (by omega) (by omega) ?_
  rw [← hq]
  simp -implicitDefEqProofs [keepC, Sub_refl]
  refine w_disk_Read h.dk fun C kC => ?_
  rw [hrd]
  simp -implicitDefEqProofs [secV, hsec.1]
  intro g6 hg6
  obtain ⟨Z, e1, kZ, z6⟩ : ∃ Z : Heap, Z = C.set g6 (.var 23 [.iarr .u8 256 (ints S)]) ∧ C.Sub Z ∧ Z g6 = some (.var 23 [.iarr .u8 256 (ints S)]) := ⟨_, rfl, sub_none hg6, set_eq'⟩
  rw [← e1]; clear e1
  simp -implicitDefEqProofs [hr4, q_Pring_Ring_Read_4]
  simp -implicitDefEqProofs [hr6, q_Pring_Ring_Read_6, z6, hsec.1]
  refine w_ring_Get hsec (fun hno => by rw [hget.1] at hno; cases hno) fun _ g E kE hg hE => ?_
  rw [hget.2.1, hget.2.2.1]
  rw [hget.2.2.1] at hE
  simp -implicitDefEqProofs
  simp -implicitDefEqProofs [hr7, q_Pring_Ring_Read_7]
  simp -implicitDefEqProofs [hr9, q_Pring_Ring_Read_9, outOf]
  exact hk1 g E (sub_tr kC (sub_tr kZ kE)) (sub_noneL (sub_tr kC kZ) hg) hE
end
end Go.Proofs.Ytkmlndihdcplfaa

/- The walks of a ring's All and Clean. -/
namespace Go.Proofs.Ytkmlndihdcplfaa
open Go AVL
attribute [-simp] AV.isAgg aappI aapp alen szOK aslc List.reduceReplicate
attribute [simp] shp good comps
set_option linter.unusedVariables false
set_option linter.unusedSimpArgs false
set_option maxRecDepth 8000

section
variable {A B : Heap} {K Kp : AV → Heap → Prop} {gr gd fr size tail head : Nat} {L : List (List Nat)} {D : Dsk}
structure AlI (gr tail : Nat) (L : List (List Nat)) (B0 : Heap) (i : Nat) (env : AEnv) (B : Heap) : Prop where
  le : i ≤ L.length
  e0 : env 0 = .ptr gr 0
  e5 : env 5 = .int .i64 ((tail + i : Nat) : Int)
  w : ∃ vs, SlR T_L_uint8 1 (env 4) vs B0 B ∧ All2 (RsV T_uint8 .u8 B) vs (L.take i)
theorem w_ring_All (h : RgAt A gr gd fr size tail head L D B) (hk : ∀ v C vs, B.Sub C → SlR T_L_uint8 1 v vs B C → All2 (RsV T_uint8 .u8 C) vs L → K (.tuple [v, .int .i64 0]) C) : SimX Try.prog F_Pring_Ring_All [.ptr gr 0] B (outK K Kp) := by
  have hB := h.br
  obtain ⟨b1, b2, b3, b4, b5, b6⟩ := h.bnd
  have hhd := h.hd
  refine j_Pring_Ring_All (by simp) ?_
  unfold a_Pring_Ring_All
  have hB' := hB
  unfold rgC at hB'
  obtain ⟨r9, hr9⟩ : ∃ r, r = q_Pring_Ring_All_9 := ⟨_, rfl⟩; rw [← hr9]
  simp -implicitDefEqProofs [q_Pring_Ring_All_0, q_Pring_Ring_All_1, q_Pring_Ring_All_2, hB']
  refine X_lp (AlI gr tail L B) (fun i => L.length - i) 0 ⟨by omega, by simp, by simp, ⟨[], by simpa using SlR.nil (Sub_refl B), by simp [All2]⟩⟩ ?_
  rintro i env C ⟨lei, e0, e5, ⟨vs, hw, hrs⟩⟩
  have kC := hw.sub
  have hC := kC _ _ hB
  have hC' := hC
  unfold rgC at hC'
  have hs := hw.scl
  rw [q_Pring_Ring_All_L9]
  obtain ⟨r4, hr4⟩ : ∃ r, r = q_Pring_Ring_All_4 := ⟨_, rfl⟩; rw [← hr4]
  obtain ⟨r5, hr5⟩ : ∃ r, r = q_Pring_Ring_All_5 := ⟨_, rfl⟩; rw [← hr5]
  obtain ⟨r7, hr7⟩ : ∃ r, r = q_Pring_Ring_All_7 := ⟨_, rfl⟩; rw [← hr7]
  obtain ⟨r8, hr8⟩ : ∃ r, r = q_Pring_Ring_All_8 := ⟨_, rfl⟩; rw [← hr8]
  obtain ⟨N, hN⟩ : ∃ N, N = tail + i := ⟨_, rfl⟩
  rw [← hN] at e5
  simp -implicitDefEqProofs [q_Pring_Ring_All_3, e0, e5, hC']
  refine ⟨fun hlt => ?_, fun hge => ?_⟩
  · have hil : i < L.length := by omega
    have wi : IntKind.i64.wrap ((N : Int) + 1) = ((N + 1 : Nat) : Int) := by rw [wrap_i64 (by omega)]; simp
    simp -implicitDefEqProofs [hr4, q_Pring_Ring_All_4, e0, e5]
    refine w_ring_Read (h.mono kC) N (fun hb => by omega) fun k hk hNk g E kE hg hE => ?_
    have hki : k = i := by omega
    subst hki
    obtain ⟨b, hb⟩ : ∃ b, b = L[k] := ⟨_, rfl⟩
    have htk : L.take (k + 1) = L.take k ++ [b] := by rw [List.take_succ_eq_append_getElem hil, hb]
    rw [← hb] at hE ⊢
    have hwE := hw.mono kE
    obtain ⟨X, hBX, hXE, hwX, hoth, _⟩ := hwE.top
    have xg := hoth g _ hE (hwE.ne hE (fun l e => by cases e))
    have hsE := hwE.scl
    simp -implicitDefEqProofs
    simp -implicitDefEqProofs [hr5, q_Pring_Ring_All_5]
    simp -implicitDefEqProofs [hr7, q_Pring_Ring_All_7, hs.shp, hs.good, hs.comps, hs.agg]
    intro g31 hg31
    have hap := fun K hk => hwX.app (K := K) (bytes := 24) (ys := [.own g 0 b.length]) (g1 := g31) (C := E.set g31 (.row T_L_uint8 1 [.own g 0 b.length])) set_eq' rfl (sub_none hg31) hg31 (by have := hrs.len; simp at this ⊢; omega) hk
    refine hap _ fun v' C' h1 h2 => ?_
    simp -implicitDefEqProofs [h2]
    simp -implicitDefEqProofs [hr8, q_Pring_Ring_All_8, e5, wi, -Int.natCast_add]
    refine lp_next (k + 1) ⟨by omega, by simp [e0], by simp; omega, ⟨vs ++ [.own g 0 b.length], by simpa using h1.base hBX, ?_⟩⟩ (by omega)
    rw [htk]
    refine All2.app ?_ ?_
    · refine hrs.imp fun v l hr => ?_
      refine RsV.keep hr fun x m hx => ?_
      have hxE := kE _ _ hx
      exact h1.sub _ _ (hoth x _ hxE (hwE.ne hxE (fun l e => by cases e)))
    · exact ⟨⟨g, rfl, h1.sub _ _ xg⟩, trivial⟩
  · have hil : i = L.length := by omega
    subst hil
    rw [List.take_length] at hrs
    simp -implicitDefEqProofs [hr9, q_Pring_Ring_All_9, hs.shp, hs.good, hs.comps, hs.agg, outOf]
    exact hk _ C vs kC hw hrs
structure ClI (gr gd fr size tail head : Nat) (L : List (List Nat)) (D : Dsk) (A B0 : Heap) (i : Nat) (env : AEnv) (B : Heap) : Prop where
  le : L.length + i ≤ size
  e0 : env 0 = .ptr gr 0
  e3 : env 3 = .int .i64 ((head + i : Nat) : Int)
  kB : B0.Sub B
theorem w_ring_Clean (h : RgAt A gr gd fr size tail head L D B) (hk : ∀ C, B.Sub C → K (.bool true) C) : SimX Try.prog F_Pring_Ring_Clean [.ptr gr 0] B (outK K Kp) := by
  have hB := h.br
  obtain ⟨b1, b2, b3, b4, b5, b6⟩ := h.bnd
  have hhd := h.hd
  have hll := h.on.len
  refine j_Pring_Ring_Clean (by simp) ?_
  unfold a_Pring_Ring_Clean
  have hB' := hB
  unfold rgC at hB'
  obtain ⟨r7, hr7⟩ : ∃ r, r = q_Pring_Ring_Clean_7 := ⟨_, rfl⟩; rw [← hr7]
  simp -implicitDefEqProofs [q_Pring_Ring_Clean_0, q_Pring_Ring_Clean_1, hB']
  refine X_lp (ClI gr gd fr size tail head L D A B) (fun i => size - i) 0 ⟨by omega, by simp, by simp, Sub_refl B⟩ ?_
  rintro i env C ⟨lei, e0, e3, kC⟩
  have hC := kC _ _ hB
  have hC' := hC
  unfold rgC at hC'
  rw [q_Pring_Ring_Clean_L7]
  obtain ⟨r3, hr3⟩ : ∃ r, r = q_Pring_Ring_Clean_3 := ⟨_, rfl⟩; rw [← hr3]
  obtain ⟨r4, hr4⟩ : ∃ r, r = q_Pring_Ring_Clean_4 := ⟨_, rfl⟩; rw [← hr4]
  obtain ⟨r6, hr6⟩ : ∃ r, r = q_Pring_Ring_Clean_6 := ⟨_, rfl⟩; rw [← hr6]
  have w1 : IntKind.i64.wrap ((tail : Int) + (size : Int)) = (tail : Int) + size := wrap_i64 (by omega)
  obtain ⟨N, hN⟩ : ∃ N, N = head + i := ⟨_, rfl⟩
  rw [← hN] at e3
  simp -implicitDefEqProofs [q_Pring_Ring_Clean_2, e0, e3, hC', w1]
  refine ⟨fun hlt => ?_, fun hge => ?_⟩
  · have hks : L.length + i < size := by omega
    have wi : IntKind.i64.wrap ((N : Int) + 1) = ((N + 1 : Nat) : Int) := by rw [wrap_i64 (by omega)]; simp
    have hNk : N = tail + (L.length + i) := by omega
    have hrd := h.rd hks
    rw [secR_none hks (by omega), ← hNk] at hrd
    obtain ⟨q, hq⟩ : ∃ q, q = fr + N % size := ⟨_, rfl⟩
    rw [← hq] at hrd
    have hzl : z256.length = 256 := by simp [z256]
    have hze : eqI 256 (ints z256) (List.replicate 256 0) = true := by
      rw [z256_ints, eqI_ints hzl hzl]; simp
    simp -implicitDefEqProofs [hr3, q_Pring_Ring_Clean_3, e0, e3, hC']
    refine w_ring_at hC (by omega) (by omega) (by omega) (by omega) ?_
    rw [← hq]
    simp -implicitDefEqProofs [keepC, Sub_refl]
    refine w_disk_Read (h.dk.mono kC) fun E kE => ?_
    rw [hrd]
    simp -implicitDefEqProofs [secV, hzl]
    intro g4 hg4
    obtain ⟨Z, e1, kZ, z4⟩ : ∃ Z : Heap, Z = E.set g4 (.var 23 [.iarr .u8 256 (ints z256)]) ∧ E.Sub Z ∧ Z g4 = some (.var 23 [.iarr .u8 256 (ints z256)]) := ⟨_, rfl, sub_none hg4, set_eq'⟩
    rw [← e1]; clear e1
    simp -implicitDefEqProofs [hr4, q_Pring_Ring_Clean_4, z4, hzl, hze]
    simp -implicitDefEqProofs [hr6, q_Pring_Ring_Clean_6, e3, wi, -Int.natCast_add]
    exact lp_next (i + 1) ⟨by omega, by simp [e0], by simp; omega, sub_tr kC (sub_tr kE kZ)⟩ (by omega)
  · simp -implicitDefEqProofs [hr7, q_Pring_Ring_Clean_7, outOf]
    exact hk C kC
end
end Go.Proofs.Ytkmlndihdcplfaa

/- The walks of a ring's Append and Drop. -/
namespace Go.Proofs.Ytkmlndihdcplfaa
open Go AVL
attribute [-simp] AV.isAgg aappI aapp alen szOK aslc List.reduceReplicate
attribute [simp] shp good comps
set_option linter.unusedVariables false
set_option linter.unusedSimpArgs false
set_option maxRecDepth 8000

section
variable {A B : Heap} {K Kp : AV → Heap → Prop} {gr gd fr size tail head : Nat} {L : List (List Nat)} {D : Dsk}
theorem w_ring_Append (h : RgAt A gr gd fr size tail head L D B) (hst : D.steps < 2 ^ 61) (hnum : head < 1073741824) {vb : AV} {b : List Nat} (hvb : BsV T_uint8 B vb b) (hb : Bytes b) (hbl : b.length < 2 ^ 62)
    (hk1 : size ≤ L.length → K (.tuple [.int .i64 0, .int .i64 6]) B) (hk2 : L.length < size → 224 < b.length → ∀ C, B.Sub C → K (.tuple [.int .i64 0, .int .i64 15]) C)
    (hk3 : L.length < size → b.length ≤ 224 → (D.put (fr + head % size) (recS head b)).2 = 0 → ∀ B', RgAt (A.set gr (rgC gd fr size tail (head + 1))) gr gd fr size tail (head + 1) (L ++ [b]) (D.put (fr + head % size) (recS head b)).1 B' → K (.tuple [.int .i64 head, .int .i64 0]) B')
    (hk4 : L.length < size → b.length ≤ 224 → (D.put (fr + head % size) (recS head b)).2 ≠ 0 → ∀ B', DskAt A gd (D.put (fr + head % size) (recS head b)).1 B' → K (.tuple [.int .i64 0, .int .i64 4]) B') :
    SimX Try.prog F_Pring_Ring_Append [.ptr gr 0, vb] B (outK K Kp) := by
  have hB := h.br
  obtain ⟨b1, b2, b3, b4, b5, b6⟩ := h.bnd
  have hhd := h.hd
  have hsb := hvb.scb
  refine j_Pring_Ring_Append (by simp) ?_
  unfold a_Pring_Ring_Append
  have hB' := hB
  unfold rgC at hB'
  obtain ⟨r1, hr1⟩ : ∃ r, r = q_Pring_Ring_Append_1 := ⟨_, rfl⟩; rw [← hr1]
  obtain ⟨r3, hr3⟩ : ∃ r, r = q_Pring_Ring_Append_3 := ⟨_, rfl⟩; rw [← hr3]
  obtain ⟨r4, hr4⟩ : ∃ r, r = q_Pring_Ring_Append_4 := ⟨_, rfl⟩; rw [← hr4]
  obtain ⟨r5, hr5⟩ : ∃ r, r = q_Pring_Ring_Append_5 := ⟨_, rfl⟩; rw [← hr5]
  obtain ⟨r6, hr6⟩ : ∃ r, r = q_Pring_Ring_Append_6 := ⟨_, rfl⟩; rw [← hr6]
  obtain ⟨r7, hr7⟩ : ∃ r, r = q_Pring_Ring_Append_7 := ⟨_, rfl⟩; rw [← hr7]
  obtain ⟨r8, hr8⟩ : ∃ r, r = q_Pring_Ring_Append_8 := ⟨_, rfl⟩; rw [← hr8]
  obtain ⟨r9, hr9⟩ : ∃ r, r = q_Pring_Ring_Append_9 := ⟨_, rfl⟩; rw [← hr9]
  obtain ⟨r10, hr10⟩ : ∃ r, r = q_Pring_Ring_Append_10 := ⟨_, rfl⟩; rw [← hr10]
  obtain ⟨r11, hr11⟩ : ∃ r, r = q_Pring_Ring_Append_11 := ⟨_, rfl⟩; rw [← hr11]
  obtain ⟨r12, hr12⟩ : ∃ r, r = q_Pring_Ring_Append_12 := ⟨_, rfl⟩; rw [← hr12]
  obtain ⟨r13, hr13⟩ : ∃ r, r = q_Pring_Ring_Append_13 := ⟨_, rfl⟩; rw [← hr13]
  simp -implicitDefEqProofs [q_Pring_Ring_Append_0, hr1, q_Pring_Ring_Append_1, hB', hsb.shp, hsb.good, hsb.comps, hsb.agg]
  refine w_ring_Len hB (by omega) (by omega) ?_
  have hlen : head - tail = L.length := by omega
  rw [hlen]
  by_cases hfull : size ≤ L.length
  · have hf' : (size : Int) ≤ L.length := by omega
    simp -implicitDefEqProofs [keepC, Sub_refl, hfull, hf', q_Pring_Ring_Append_2, outOf]
    exact hk1 hfull
  have hf' : ¬ (size : Int) ≤ L.length := by omega
  have hk2 := hk2 (by omega)
  have hk3 := hk3 (by omega)
  have hk4 := hk4 (by omega)
  have hP := w_ring_Put (head : Nat) hb (by omega)
  have hbv := hvb.vw
  simp -implicitDefEqProofs [keepC, Sub_refl, hfull, hf']
  simp -implicitDefEqProofs [hr3, q_Pring_Ring_Append_3, hB', hsb.shp, hsb.good, hsb.comps, hsb.agg]
  by_cases hbig : 224 < b.length
  · have hc : putRC (head : Nat) b = 15 := by unfold putRC; rw [if_neg (by omega), if_pos hbig]
    have hS : putRS (head : Nat) b = z256 := by unfold putRS; rw [hc]; rfl
    rw [hc, hS] at hP
    have hzl : z256.length = 256 := by simp [z256]
    refine hP.call (.cons (.refl _) rfl (.cons hbv hsb.agg .nil)) rfl ?_
    simp -implicitDefEqProofs [hzl]
    intro g6 hg6
    simp -implicitDefEqProofs [hr4, q_Pring_Ring_Append_4]
    simp -implicitDefEqProofs [hr5, q_Pring_Ring_Append_5, outOf]
    exact hk2 hbig _ (sub_none hg6)
  have hbl2 : b.length ≤ 224 := by omega
  have hk3 := hk3 hbl2
  have hk4 := hk4 hbl2
  have hrok : RecOK head b := ⟨by omega, hbl2, hb⟩
  have hc : putRC (head : Nat) b = 0 := by unfold putRC; rw [if_neg (by omega), if_neg hbig]
  have hS : putRS (head : Nat) b = recS head b := by unfold putRS; rw [if_pos hc, Int.toNat_natCast]
  rw [hc, hS] at hP
  have hsec : Sec (recS head b) := ⟨recS_len _ _, recS_bytes hrok⟩
  have hmm : head % size < size := Nat.mod_lt _ (by omega)
  have hon := h.on
  have hfit := hon.fit
  have happ : RgL (D.last.set (fr + head % size) (recS head b)) fr size tail (L ++ [b]) := by
    have := hon.app (by omega) hbl2 hb (by omega)
    rwa [← hhd] at this
  obtain ⟨S, hSS⟩ : ∃ S, S = recS head b := ⟨_, rfl⟩
  obtain ⟨q, hq⟩ : ∃ q, q = fr + head % size := ⟨_, rfl⟩
  have hql : q < D.last.length := by omega
  rw [← hSS] at hP hsec
  rw [← hSS, ← hq] at hk3 hk4 happ
  have hins : D.inside ((q : Nat) : Int) = true := by unfold Dsk.inside; simp; omega
  refine hP.call (.cons (.refl _) rfl (.cons hbv hsb.agg .nil)) rfl ?_
  simp -implicitDefEqProofs [hsec.1]
  intro g6 hg6
  obtain ⟨Z, e1, kZ, z6⟩ : ∃ Z : Heap, Z = B.set g6 (.var 23 [.iarr .u8 256 (ints S)]) ∧ B.Sub Z ∧ Z g6 = some (.var 23 [.iarr .u8 256 (ints S)]) := ⟨_, rfl, sub_none hg6, set_eq'⟩
  rw [← e1]; clear e1
  have hZ := kZ _ _ hB
  have hZ' := hZ
  unfold rgC at hZ'
  have dZ := h.dk.mono kZ
  simp -implicitDefEqProofs [hr4, q_Pring_Ring_Append_4]
  simp -implicitDefEqProofs [hr6, q_Pring_Ring_Append_6, hZ', z6, hsec.1]
  refine w_ring_at hZ (by omega) (by omega) (by omega) (by omega) ?_
  rw [← hq]
  simp -implicitDefEqProofs [keepC, Sub_refl]
  have hwl : D.wait.length = 0 := by rw [h.rest.wait]; rfl
  refine w_disk_Write (s := S) dZ (by omega) (by omega) hsec fun B1 d1 => ?_
  rw [hins] at d1 ⊢
  simp only [if_true, Int.toNat_natCast] at d1 ⊢
  unfold Dsk.put at hk3 hk4
  have hA1 := d1.sub _ _ h.ar
  unfold rgC at hA1
  cases hok : D.ok with
  | false =>
    rw [hok] at hk3 hk4
    simp -implicitDefEqProofs [codeOf]
    simp -implicitDefEqProofs [hr7, q_Pring_Ring_Append_7]
    simp -implicitDefEqProofs [hr8, q_Pring_Ring_Append_8, outOf]
    exact hk4 (by simp) B1 d1
  | true =>
    rw [hok] at hk3 hk4
    simp only [if_true] at hk3 hk4
    simp -implicitDefEqProofs [codeOf]
    simp -implicitDefEqProofs [hr7, q_Pring_Ring_Append_7]
    simp -implicitDefEqProofs [hr9, q_Pring_Ring_Append_9, hA1]
    have hst1 : (D.write q S).steps ≤ D.steps + 1 := by unfold Dsk.write; split <;> exact D.step_steps
    have hww : (D.write q S).wait.length ≤ 1 := by
      unfold Dsk.write
      rw [hok]
      simp [h.rest.wait]
    refine w_disk_Flush d1 (by omega) (by omega) fun B2 d2 => ?_
    have hA2 := d2.sub _ _ h.ar
    unfold rgC at hA2
    cases hok2 : (D.write q S).ok with
    | false =>
      rw [hok2] at hk3 hk4
      simp -implicitDefEqProofs [codeOf]
      simp -implicitDefEqProofs [hr10, q_Pring_Ring_Append_10]
      simp -implicitDefEqProofs [hr11, q_Pring_Ring_Append_11, outOf]
      exact hk4 (by simp [codeOf]) B2 d2
    | true =>
      rw [hok2] at hk3 hk4
      have hput : D.put q S = ((D.write q S).flush, 0) := by unfold Dsk.put; rw [hok, hok2]; rfl
      have hpo := Dsk.put_ok (a := q) (s := S) h.rest (by rw [hput])
      rw [hput] at hpo
      have w1 : IntKind.i64.wrap ((head : Int) + 1) = ((head + 1 : Nat) : Int) := by rw [wrap_i64 (by omega)]; simp
      have w2 : IntKind.i64.wrap (((head + 1 : Nat) : Int) - 1) = (head : Int) := by rw [wrap_i64 (by omega)]; omega
      simp -implicitDefEqProofs [codeOf]
      simp -implicitDefEqProofs [hr10, q_Pring_Ring_Append_10]
      have hrg : RgAt (A.set gr (rgC gd fr size tail (head + 1))) gr gd fr size tail (head + 1) (L ++ [b]) (D.write q S).flush (B2.set gr (rgC gd fr size tail (head + 1))) :=
        ⟨set_eq', by simp; omega, d2.poke h.ar, hpo.1, by rw [hpo.2]; exact happ⟩
      have hfin := hk3 rfl _ hrg
      unfold rgC at hfin
      obtain ⟨H1, hH1⟩ : ∃ H1 : Nat, H1 = head + 1 := ⟨_, rfl⟩
      rw [← hH1] at w1 w2 hfin
      simp -implicitDefEqProofs [hr12, q_Pring_Ring_Append_12, hA2, w1]
      simp -implicitDefEqProofs [hr13, q_Pring_Ring_Append_13, w2, outOf]
      exact hfin
/-- Where a drop ends. -/
def endT (tail head : Nat) (to : Int) : Nat := tail + (min to (head : Int) - tail).toNat
structure DrI (A : Heap) (gr gd fr size tail head : Nat) (L : List (List Nat)) (D : Dsk) (to : Int) (j : Nat) (env : AEnv) (B : Heap) : Prop where
  le : tail + j ≤ endT tail head to
  e0 : env 0 = .ptr gr 0
  e1 : env 1 = .int .i64 to
  e6 : env 6 = .int .i64 (j : Nat)
  md : ∃ D', RgAt (A.set gr (rgC gd fr size (tail + j) head)) gr gd fr size (tail + j) head (L.drop j) D' B ∧ D'.steps ≤ D.steps + 2 * j ∧ (D.fuse < 0 → D'.fuse = D.fuse)
theorem w_ring_Drop (h : RgAt A gr gd fr size tail head L D B) (hst : D.steps < 2 ^ 60) (to : Int)
    (hk0 : ∀ j D' B', tail + j = endT tail head to → RgAt (A.set gr (rgC gd fr size (tail + j) head)) gr gd fr size (tail + j) head (L.drop j) D' B' → D'.steps ≤ D.steps + 2 * j → (D.fuse < 0 → D'.fuse = D.fuse) → K (.tuple [.int .i64 (j : Nat), .int .i64 0]) B')
    (hk1 : ¬ D.fuse < 0 → ∀ j c D' B', tail + j < endT tail head to → j < L.length → DskAt (A.set gr c) gd D' B' → D'.down = true → D'.wait.length ≤ 1 → D'.steps ≤ D.steps + 2 * j + 2 → (∀ k : Bool, RgL (D'.crash [k]).last fr size (tail + j) (L.drop j) ∨ RgL (D'.crash [k]).last fr size (tail + j + 1) (L.drop (j + 1))) → K (.tuple [.int .i64 (j : Nat), .int .i64 4]) B') :
    SimX Try.prog F_Pring_Ring_Drop [.ptr gr 0, .int .i64 to] B (outK K Kp) := by
  have hB := h.br
  obtain ⟨b1, b2, b3, b4, b5, b6⟩ := h.bnd
  have hhd := h.hd
  have hend : endT tail head to ≤ head := by unfold endT; omega
  refine j_Pring_Ring_Drop (by simp) ?_
  unfold a_Pring_Ring_Drop
  obtain ⟨r11, hr11⟩ : ∃ r, r = q_Pring_Ring_Drop_11 := ⟨_, rfl⟩; rw [← hr11]
  simp -implicitDefEqProofs [q_Pring_Ring_Drop_0, q_Pring_Ring_Drop_1]
  have h0 : RgAt (A.set gr (rgC gd fr size (tail + 0) head)) gr gd fr size (tail + 0) head (L.drop 0) D B := by
    have : A.set gr (rgC gd fr size (tail + 0) head) = A := set_same h.ar
    rw [this]
    exact h
  refine X_lp (DrI A gr gd fr size tail head L D to) (fun j => head - j) 0 ⟨by unfold endT; omega, by simp, by simp, by simp, ⟨D, h0, by omega, fun _ => rfl⟩⟩ ?_
  clear h0
  rintro j env C ⟨lej, e0, e1, e6, ⟨D1, hr, hs1, hf1⟩⟩
  have hC := hr.br
  have hC' := hC
  unfold rgC at hC'
  obtain ⟨T, hT⟩ : ∃ T, T = tail + j := ⟨_, rfl⟩
  rw [← hT] at hr hC hC' lej
  rw [q_Pring_Ring_Drop_L11]
  obtain ⟨r3, hr3⟩ : ∃ r, r = q_Pring_Ring_Drop_3 := ⟨_, rfl⟩; rw [← hr3]
  obtain ⟨r4, hr4⟩ : ∃ r, r = q_Pring_Ring_Drop_4 := ⟨_, rfl⟩; rw [← hr4]
  obtain ⟨r5, hr5⟩ : ∃ r, r = q_Pring_Ring_Drop_5 := ⟨_, rfl⟩; rw [← hr5]
  obtain ⟨r6, hr6⟩ : ∃ r, r = q_Pring_Ring_Drop_6 := ⟨_, rfl⟩; rw [← hr6]
  obtain ⟨r7, hr7⟩ : ∃ r, r = q_Pring_Ring_Drop_7 := ⟨_, rfl⟩; rw [← hr7]
  obtain ⟨r8, hr8⟩ : ∃ r, r = q_Pring_Ring_Drop_8 := ⟨_, rfl⟩; rw [← hr8]
  obtain ⟨r9, hr9⟩ : ∃ r, r = q_Pring_Ring_Drop_9 := ⟨_, rfl⟩; rw [← hr9]
  obtain ⟨r10, hr10⟩ : ∃ r, r = q_Pring_Ring_Drop_10 := ⟨_, rfl⟩; rw [← hr10]
  have hmin : (if (head : Int) < to then (head : Int) else to) = min to (head : Int) := by
    by_cases h : (head : Int) < to
    · rw [if_pos h]; omega
    · rw [if_neg h]; omega
  by_cases hlt : T < endT tail head to
  · have hlt' : (T : Int) < min to (head : Int) := by unfold endT at hlt; omega
    have hjl : j < L.length := by omega
    have hLd : 0 < (L.drop j).length := by simp; omega
    have hon := hr.on
    have hfit := hon.fit
    have hmm : T % size < size := Nat.mod_lt _ (by omega)
    have hdr := hon.drop1 hLd
    rw [List.drop_drop] at hdr
    obtain ⟨q, hq⟩ : ∃ q, q = fr + T % size := ⟨_, rfl⟩
    rw [← hq] at hdr
    have hql : q < D1.last.length := by omega
    have hins : D1.inside ((q : Nat) : Int) = true := by unfold Dsk.inside; simp; omega
    have hwl : D1.wait.length = 0 := by rw [hr.rest.wait]; rfl
    have hz : Sec z256 := sec_z
    have hlt2 : (T : Int) < to ∧ T < head := by omega
    have hlt3 : (T : Int) < head := by omega
    obtain ⟨M, hM⟩ : ∃ M : Int, M = min to (head : Int) := ⟨_, rfl⟩
    rw [← hM] at hlt' hmin
    simp -implicitDefEqProofs [q_Pring_Ring_Drop_2, e0, e1, hC', hlt2, hlt3, hmin, hlt']
    simp -implicitDefEqProofs [hr3, q_Pring_Ring_Drop_3, e0, hC']
    refine w_ring_at hC (by omega) (by omega) (by omega) (by omega) ?_
    rw [← hq]
    simp -implicitDefEqProofs [keepC, Sub_refl]
    have hzi := z256_ints
    have hzv : (.iarr .u8 256 (List.replicate 256 0) : AV) = secV z256 := by unfold secV; rw [hzi]
    rw [hzv]
    refine w_disk_Write (s := z256) (a := ((q : Nat) : Int)) hr.dk (by omega) (by omega) hz fun B1 d1 => ?_
    rw [hins] at d1 ⊢
    simp only [if_true, Int.toNat_natCast] at d1 ⊢
    have hA1 := d1.sub _ _ hr.ar
    unfold rgC at hA1
    have wn : IntKind.i64.wrap ((j : Int) + 1) = ((j + 1 : Nat) : Int) := by rw [wrap_i64 (by omega)]; simp
    have wT : IntKind.i64.wrap ((T : Int) + 1) = ((T + 1 : Nat) : Int) := by rw [wrap_i64 (by omega)]; simp
    have hfu : D1.fuse < 0 → (D1.put q z256).2 = 0 ∧ (D1.put q z256).1.fuse = D1.fuse := fun h => Dsk.put_free hr.rest h q z256
    have hbad : (D1.put q z256).2 ≠ 0 → ∀ B', DskAt (A.set gr (rgC gd fr size T head)) gd (D1.put q z256).1 B' → K (.tuple [.int .i64 (j : Nat), .int .i64 4]) B' := fun hne B' hd' => by
      have hpb := Dsk.put_bad (a := q) (s := z256) hr.rest hne
      have hst2 := D1.put_steps q z256
      refine hk1 (fun hf => hne (hfu (by rw [hf1 hf]; exact hf)).1) j _ _ B' (by rw [← hT]; exact hlt) hjl hd' hpb.2.1 hpb.2.2.1 (by omega) fun k => ?_
      rcases hpb.2.2.2 k with h | h
      · rw [h, ← hT]; exact .inl hon
      · rw [h, ← hT]; exact .inr hdr
    cases hok : D1.ok with
    | false =>
      have hput : D1.put q z256 = (D1.write q z256, 4) := by unfold Dsk.put; rw [hok]; rfl
      rw [hput] at hbad
      simp -implicitDefEqProofs [codeOf]
      simp -implicitDefEqProofs [hr4, q_Pring_Ring_Drop_4]
      simp -implicitDefEqProofs [hr5, q_Pring_Ring_Drop_5, e6, outOf]
      exact hbad (by simp) B1 d1
    | true =>
      simp -implicitDefEqProofs [codeOf]
      simp -implicitDefEqProofs [hr4, q_Pring_Ring_Drop_4]
      simp -implicitDefEqProofs [hr6, q_Pring_Ring_Drop_6, e0, hA1]
      have hst1 : (D1.write q z256).steps ≤ D1.steps + 1 := by unfold Dsk.write; split <;> exact D1.step_steps
      have hww : (D1.write q z256).wait.length ≤ 1 := by
        unfold Dsk.write
        rw [hok]
        simp [hr.rest.wait]
      refine w_disk_Flush d1 (by omega) (by omega) fun B2 d2 => ?_
      have hA2 := d2.sub _ _ hr.ar
      unfold rgC at hA2
      cases hok2 : (D1.write q z256).ok with
      | false =>
        have hput : D1.put q z256 = ((D1.write q z256).flush, 4) := by unfold Dsk.put; rw [hok, hok2]; rfl
        rw [hput] at hbad
        simp -implicitDefEqProofs [codeOf]
        simp -implicitDefEqProofs [hr7, q_Pring_Ring_Drop_7]
        simp -implicitDefEqProofs [hr8, q_Pring_Ring_Drop_8, e6, outOf]
        exact hbad (by simp) B2 d2
      | true =>
        have hput : D1.put q z256 = ((D1.write q z256).flush, 0) := by unfold Dsk.put; rw [hok, hok2]; rfl
        have hpo := Dsk.put_ok (a := q) (s := z256) hr.rest (by rw [hput])
        have hst2 := D1.put_steps q z256
        rw [hput] at hpo hfu hst2
        have hset : (A.set gr (rgC gd fr size T head)).set gr (rgC gd fr size (T + 1) head) = A.set gr (rgC gd fr size (T + 1) head) := by
          funext x
          rw [set_app, set_app, set_app]
          split <;> rfl
        have hpk := d2.poke (c := rgC gd fr size (T + 1) head) hr.ar
        rw [hset] at hpk
        have hrg : RgAt (A.set gr (rgC gd fr size (T + 1) head)) gr gd fr size (T + 1) head (L.drop (j + 1)) (D1.write q z256).flush (B2.set gr (rgC gd fr size (T + 1) head)) :=
          ⟨set_eq', by simp; omega, hpk, hpo.1, by rw [hpo.2]; exact hdr⟩
        have hT1 : T + 1 = tail + (j + 1) := by omega
        simp -implicitDefEqProofs [codeOf]
        simp -implicitDefEqProofs [hr7, q_Pring_Ring_Drop_7]
        obtain ⟨T1, hTT⟩ : ∃ T1 : Nat, T1 = T + 1 := ⟨_, rfl⟩
        rw [← hTT] at hrg wT hT1
        unfold rgC at hrg
        simp -implicitDefEqProofs [hr9, q_Pring_Ring_Drop_9, e0, hA2, wT]
        simp -implicitDefEqProofs [hr10, q_Pring_Ring_Drop_10, e6, wn, -Int.natCast_add]
        refine lp_next (j + 1) ⟨by omega, by simp [e0], by simp [e1], by simp, ⟨(D1.write q z256).flush, ?_, ?_, fun hf => ?_⟩⟩ (by omega)
        · rw [← hT1]
          exact hrg
        · have : (D1.write q z256).flush.steps ≤ D1.steps + 2 := hst2
          omega
        · have h1 := hf1 hf
          have := (hfu (by rw [h1]; exact hf)).2
          rw [← h1]; exact this
  · have hge : ¬ (T : Int) < min to (head : Int) := by unfold endT at hlt; omega
    have hTe : tail + j = endT tail head to := by omega
    obtain ⟨M, hM⟩ : ∃ M : Int, M = min to (head : Int) := ⟨_, rfl⟩
    rw [← hM] at hge hmin
    simp -implicitDefEqProofs [q_Pring_Ring_Drop_2, e0, e1, hC', hmin, hge]
    simp -implicitDefEqProofs [hr11, q_Pring_Ring_Drop_11, e6, outOf]
    exact hk0 j D1 C hTe (by rw [← hT]; exact hr) hs1 hf1
end
end Go.Proofs.Ytkmlndihdcplfaa

/- The walks of a ring's New, found, scrub. -/
namespace Go.Proofs.Ytkmlndihdcplfaa
open Go AVL
attribute [-simp] AV.isAgg aappI aapp alen szOK aslc List.reduceReplicate
attribute [simp] shp good comps
set_option linter.unusedVariables false
set_option linter.unusedSimpArgs false
set_option maxRecDepth 8000

theorem stl_same {W : List (List Nat)} {w : List (Nat × List Nat)} (h : ∀ p ∈ w, W.set p.1 p.2 = W) : ∀ i, i ≤ w.length → stl (fun _ => true) w W i = W
  | 0, _ => rfl
  | i + 1, hi => by
    rw [stl_succ (by omega), stl_same h i (by omega)]
    simp only [if_true]
    exact h _ (List.getElem_mem _)
section
variable {A B : Heap} {K Kp : AV → Heap → Prop} {gr gd fr size tail head : Nat} {L : List (List Nat)} {D : Dsk}
theorem w_ring_New_nil {a b : Int} (hk : K (.tuple [.nilP, .int .i64 1]) B) : SimX Try.prog F_ring_New [.nilP, .int .i64 a, .int .i64 b] B (outK K Kp) := by
  refine j_ring_New (by simp) ?_
  simp -implicitDefEqProofs [a_ring_New, q_ring_New_0, q_ring_New_1, q_ring_New_2, outOf]
  exact hk
theorem w_ring_New (h : DskAt A gd D B) {fr size : Nat} (hs : 2 ≤ size) (hs2 : size ≤ 256) (hfr : fr ≤ 4096) (hk0 : D.last.length < fr + size → K (.tuple [.nilP, .int .i64 2]) B)
    (hk1 : fr + size ≤ D.last.length → ∀ g, B g = none → K (.tuple [.ptr g 0, .int .i64 0]) (B.set g (rgC gd fr size 0 0))) : SimX Try.prog F_ring_New [.ptr gd 0, .int .i64 fr, .int .i64 size] B (outK K Kp) := by
  refine j_ring_New (by simp) ?_
  have hwf := h.wf.size
  have c1 : ¬ (size : Int) < 2 := by omega
  have c2 : ¬ (256 : Int) < size := by omega
  have c3 : ¬ (fr : Int) < 0 := by omega
  have c4 : IntKind.i64.wrap ((D.last.length : Int) - size) = (D.last.length : Int) - size := wrap_i64 (by omega)
  unfold a_ring_New
  obtain ⟨r5, hr5⟩ : ∃ r, r = q_ring_New_5 := ⟨_, rfl⟩; rw [← hr5]
  obtain ⟨Q, hQ⟩ : ∃ Q : Int, Q = (D.last.length : Int) - size := ⟨_, rfl⟩
  rw [← hQ] at c4
  simp -implicitDefEqProofs [q_ring_New_0, q_ring_New_1, q_ring_New_3, c1, c2, c3]
  refine w_disk_Size h ?_
  by_cases hfit : fr + size ≤ D.last.length
  · have c5 : ¬ Q < (fr : Int) := by omega
    simp -implicitDefEqProofs [← hQ, c4, c5]
    simp -implicitDefEqProofs [hr5, q_ring_New_5, outOf]
    intro g hg
    have := hk1 hfit g hg
    unfold rgC at this
    exact this
  · have c5 : Q < (fr : Int) := by omega
    simp -implicitDefEqProofs [← hQ, c4, c5, q_ring_New_4, outOf]
    exact hk0 (by omega)
/-- What was found so far. -/
def FnP (size tail : Nat) (L : List (List Nat)) (i : Nat) (lo hi : Int) (ok : Bool) : Prop :=
  (ok = false ∧ lo = 0 ∧ hi = -1 ∧ ∀ k, k < L.length → i ≤ (tail + k) % size) ∨
  (ok = true ∧ ∃ kl kh : Nat, kl < L.length ∧ kh < L.length ∧ lo = ((tail + kl : Nat) : Int) ∧ hi = ((tail + kh : Nat) : Int) ∧ ∀ k, k < L.length → (tail + k) % size < i → kl ≤ k ∧ k ≤ kh)
theorem FnP.none {i : Nat} {lo hi : Int} {ok : Bool} (h : FnP size tail L i lo hi ok) (hi' : i < size) (hn : ¬ ixR size tail i < L.length) (hl : L.length ≤ size) : FnP size tail L (i + 1) lo hi ok := by
  have hne : ∀ k, k < L.length → (tail + k) % size ≠ i := fun k hk e => by
    have := (ixR_eq (tail := tail) hi' (show k < size by omega)).2 e.symm
    omega
  rcases h with ⟨h1, h2, h3, h4⟩ | ⟨h1, kl, kh, h2, h3, h4, h5, h6⟩
  · exact .inl ⟨h1, h2, h3, fun k hk => by have := h4 k hk; have := hne k hk; omega⟩
  · exact .inr ⟨h1, kl, kh, h2, h3, h4, h5, fun k hk hlt => h6 k hk (by have := hne k hk; omega)⟩
theorem FnP.some {i : Nat} {lo hi : Int} {ok : Bool} (h : FnP size tail L i lo hi ok) (hi' : i < size) (hn : ixR size tail i < L.length) (hl : L.length ≤ size) :
    FnP size tail L (i + 1) (if ok = false ∨ ((tail + ixR size tail i : Nat) : Int) < lo then ((tail + ixR size tail i : Nat) : Int) else lo) (max hi ((tail + ixR size tail i : Nat) : Int)) true := by
  obtain ⟨q, hq⟩ : ∃ q, q = ixR size tail i := ⟨_, rfl⟩
  rw [← hq] at hn ⊢
  have heq : ∀ k, k < L.length → (tail + k) % size = i → k = q := fun k hk e => by
    have := (ixR_eq (tail := tail) hi' (show k < size by omega)).2 e.symm
    omega
  rcases h with ⟨h1, h2, h3, h4⟩ | ⟨h1, kl, kh, h2, h3, h4, h5, h6⟩
  · refine .inr ⟨rfl, q, q, hn, hn, by rw [if_pos (.inl h1)], by omega, fun k hk hlt => ?_⟩
    have := h4 k hk
    have := heq k hk (by omega)
    omega
  · subst h1
    refine .inr ⟨rfl, if q < kl then q else kl, if kh < q then q else kh, by split <;> omega, by split <;> omega, ?_, ?_, fun k hk hlt => ?_⟩
    · by_cases hlt : q < kl
      · rw [if_pos hlt, if_pos (.inr (by omega))]
      · rw [if_neg hlt, if_neg (by simp; omega)]; exact h4
    · by_cases hlt : kh < q
      · rw [if_pos hlt]; omega
      · rw [if_neg hlt]; omega
    · by_cases he : (tail + k) % size = i
      · have := heq k hk he
        constructor <;> split <;> omega
      · have := h6 k hk (by omega)
        constructor <;> split <;> omega
theorem FnP.fin {lo hi : Int} {ok : Bool} (h : FnP size tail L size lo hi ok) (hs : 0 < size) : (L = [] ∧ lo = 0 ∧ hi = -1 ∧ ok = false) ∨ (L ≠ [] ∧ lo = tail ∧ hi = ((tail + L.length : Nat) : Int) - 1 ∧ ok = true) := by
  have hm : ∀ k, (tail + k) % size < size := fun k => Nat.mod_lt _ hs
  rcases h with ⟨h1, h2, h3, h4⟩ | ⟨h1, kl, kh, h2, h3, h4, h5, h6⟩
  · refine .inl ⟨List.eq_nil_of_length_eq_zero ?_, h2, h3, h1⟩
    rcases Nat.eq_zero_or_pos L.length with h | h
    · exact h
    · have := h4 0 h; have := hm 0; omega
  · have a1 := h6 0 (by omega) (hm 0)
    have a2 := h6 (L.length - 1) (by omega) (hm _)
    refine .inr ⟨fun e => by rw [e] at h2; simp at h2, by omega, by omega, h1⟩
structure FnI (gr size tail : Nat) (L : List (List Nat)) (B0 : Heap) (i : Nat) (env : AEnv) (B : Heap) : Prop where
  le : i ≤ size
  e0 : env 0 = .ptr gr 0
  e18 : env 18 = .int .i64 size
  e19 : env 19 = .int .i64 i
  w : ∃ lo hi ok, env 6 = .int .i64 lo ∧ env 7 = .int .i64 hi ∧ env 8 = .bool ok ∧ FnP size tail L i lo hi ok
  kB : B0.Sub B
theorem w_ring_found {t0 h0 : Nat} (hA : A gr = some (rgC gd fr size t0 h0)) (hd : DskAt A gd D B) (hre : Rest D) (on : RgL D.last fr size tail L) (hk : ∀ lo hi ok C, B.Sub C → ((L = [] ∧ ok = false) ∨ (L ≠ [] ∧ lo = (tail : Int) ∧ hi = ((tail + L.length : Nat) : Int) - 1 ∧ ok = true)) → K (.tuple [.int .i64 lo, .int .i64 hi, .bool ok, .int .i64 0]) C) :
    SimX Try.prog F_Pring_Ring_found [.ptr gr 0] B (outK K Kp) := by
  have hB := hd.sub _ _ hA
  have hfit := on.fit
  have hpos := on.pos
  have hbig := on.big
  have hnum := on.num
  have hll := on.len
  have hwf := hd.wf.size
  refine j_Pring_Ring_found (by simp) ?_
  unfold a_Pring_Ring_found
  have hB' := hB
  unfold rgC at hB'
  obtain ⟨r14, hr14⟩ : ∃ r, r = q_Pring_Ring_found_14 := ⟨_, rfl⟩; rw [← hr14]
  simp -implicitDefEqProofs [q_Pring_Ring_found_0, q_Pring_Ring_found_1, q_Pring_Ring_found_2, hB']
  refine X_lp (FnI gr size tail L B) (fun i => size - i) 0 ⟨by omega, by simp, by simp, by simp, ⟨0, -1, false, by simp, by simp, by simp, .inl ⟨rfl, rfl, rfl, fun k hk => Nat.zero_le _⟩⟩, Sub_refl B⟩ ?_
  rintro i env C ⟨lei, e0, e18, e19, ⟨lo, hi, ok, e6, e7, e8, hP⟩, kC⟩
  have hC := kC _ _ hB
  have hC' := hC
  unfold rgC at hC'
  rw [q_Pring_Ring_found_L14]
  obtain ⟨r5, hr5⟩ : ∃ r, r = q_Pring_Ring_found_5 := ⟨_, rfl⟩; rw [← hr5]
  obtain ⟨r6, hr6⟩ : ∃ r, r = q_Pring_Ring_found_6 := ⟨_, rfl⟩; rw [← hr6]
  obtain ⟨r8, hr8⟩ : ∃ r, r = q_Pring_Ring_found_8 := ⟨_, rfl⟩; rw [← hr8]
  obtain ⟨r9, hr9⟩ : ∃ r, r = q_Pring_Ring_found_9 := ⟨_, rfl⟩; rw [← hr9]
  obtain ⟨r10, hr10⟩ : ∃ r, r = q_Pring_Ring_found_10 := ⟨_, rfl⟩; rw [← hr10]
  obtain ⟨r11, hr11⟩ : ∃ r, r = q_Pring_Ring_found_11 := ⟨_, rfl⟩; rw [← hr11]
  obtain ⟨r12, hr12⟩ : ∃ r, r = q_Pring_Ring_found_12 := ⟨_, rfl⟩; rw [← hr12]
  obtain ⟨r13, hr13⟩ : ∃ r, r = q_Pring_Ring_found_13 := ⟨_, rfl⟩; rw [← hr13]
  simp -implicitDefEqProofs [q_Pring_Ring_found_3, e18, e19]
  refine ⟨fun hlt => ?_, fun hge => ?_⟩
  · have his : i < size := by omega
    have hsec := secR_sec on his
    have hrd : D.rd ((fr + i : Nat) : Int) = (secR size tail L i, 0) := by
      rw [hre.rd (by omega), on.secs i his]
    obtain ⟨S, hS⟩ : ∃ S, S = secR size tail L i := ⟨_, rfl⟩
    rw [← hS] at hrd hsec
    have w1 : IntKind.i64.wrap ((fr : Int) + (i : Int)) = ((fr + i : Nat) : Int) := by rw [wrap_i64 (by omega)]; omega
    have wi : IntKind.i64.wrap ((i : Int) + 1) = ((i + 1 : Nat) : Int) := by rw [wrap_i64 (by omega)]; simp
    obtain ⟨q, hq⟩ : ∃ q, q = fr + i := ⟨_, rfl⟩
    rw [← hq] at hrd w1
    simp -implicitDefEqProofs [q_Pring_Ring_found_4, e19]
    simp -implicitDefEqProofs [hr5, q_Pring_Ring_found_5, e0, hC', w1]
    refine w_disk_Read (hd.mono kC) fun E kE => ?_
    rw [hrd]
    simp -implicitDefEqProofs [secV, hsec.1]
    intro g10 hg10
    obtain ⟨Z, e1, kZ, z10⟩ : ∃ Z : Heap, Z = E.set g10 (.var 23 [.iarr .u8 256 (ints S)]) ∧ E.Sub Z ∧ Z g10 = some (.var 23 [.iarr .u8 256 (ints S)]) := ⟨_, rfl, sub_none hg10, set_eq'⟩
    rw [← e1]; clear e1
    simp -implicitDefEqProofs [hr6, q_Pring_Ring_found_6]
    simp -implicitDefEqProofs [hr8, q_Pring_Ring_found_8, z10, hsec.1]
    by_cases hkl : ixR size tail i < L.length
    · have hSr : S = recS (tail + ixR size tail i) L[ixR size tail i] := by
        rw [hS]; unfold secR; rw [List.getElem?_eq_getElem hkl]
      have hget := get_rec (on.recOK hkl)
      rw [← hSr] at hget
      have hPn := hP.some his hkl hll
      have hat := at_ixR (tail := tail) his
      obtain ⟨N, hN⟩ : ∃ N, N = tail + ixR size tail i := ⟨_, rfl⟩
      rw [← hN] at hget hPn hat
      have hNb : N < 2147483648 := by omega
      have e1 : (N : Int).tmod (size : Int) = (i : Int) := by rw [← Int.ofNat_tmod, hat]
      have e2 : IntKind.i64.wrap (i : Int) = (i : Int) := wrap_i64 (by omega)
      have e3 : ¬ (size : Int) = 0 := by omega
      have e4 : ¬ size = 0 := by omega
      refine w_ring_Get hsec (fun hno => by rw [hget.1] at hno; cases hno) fun _ g F kF hg hF => ?_
      rw [hget.2.1]
      have hF' := kF _ _ (kZ _ _ (kE _ _ hC'))
      have kBF := sub_tr kC (sub_tr kE (sub_tr kZ kF))
      simp -implicitDefEqProofs
      simp -implicitDefEqProofs [hr9, q_Pring_Ring_found_9, e0, hF', e1, e2, e3, e4]
      have hmx : max hi (N : Int) = (if hi < (N : Int) then (N : Int) else hi) := by split <;> omega
      rw [hmx] at hPn
      have tl : ∀ (env' : AEnv) (lo' : Int), env' 0 = .ptr gr 0 → env' 18 = .int .i64 size → env' 19 = .int .i64 i → env' 6 = .int .i64 lo' → env' 7 = .int .i64 hi → env' 12 = .int .i64 N → FnP size tail L (i + 1) lo' (if hi < (N : Int) then (N : Int) else hi) true →
          XO Try.prog (lp Try.prog (inl [ARes.tmp 2, ARes.tmp 3, ARes.tmp 4, ARes.tmp 5] K Kp) (Kt.blk 0 (Kt.thn ((ACode.region r14).seq ACode.ret) Kt.done)) (FnI gr size tail L B) (fun i => size - i) i) r12 (Kt.blk 1 (Kt.thn (ACode.region r13) Kt.done)) env' F := by
        intro env' lo' f0 f18 f19 f6 f7 f12 hPP
        simp -implicitDefEqProofs [hr12, q_Pring_Ring_found_12, f7, f12]
        simp -implicitDefEqProofs [hr13, q_Pring_Ring_found_13, f19, wi, -Int.natCast_add]
        refine lp_next (i + 1) ⟨by omega, by simp [f0], by simp [f18], by simp, ⟨lo', _, true, by simp [f6], rfl, by simp, ?_⟩, kBF⟩ (by omega)
        exact hPP
      cases ok with
      | false =>
        rw [if_pos (.inl rfl)] at hPn
        simp -implicitDefEqProofs [hr10, q_Pring_Ring_found_10, e8]
        simp -implicitDefEqProofs [hr11, q_Pring_Ring_found_11]
        exact tl _ _ (by simp [e0]) (by simp [e18]) (by simp [e19]) (by simp) (by simp [e7]) (by simp) hPn
      | true =>
        by_cases hlo : (N : Int) < lo
        · rw [if_pos (.inr hlo)] at hPn
          simp -implicitDefEqProofs [hr10, q_Pring_Ring_found_10, e6, e8, hlo]
          simp -implicitDefEqProofs [hr11, q_Pring_Ring_found_11]
          exact tl _ _ (by simp [e0]) (by simp [e18]) (by simp [e19]) (by simp) (by simp [e7]) (by simp) hPn
        · rw [if_neg (by simp; omega)] at hPn
          simp -implicitDefEqProofs [hr10, q_Pring_Ring_found_10, e6, e8, hlo]
          exact tl _ lo (by simp [e0]) (by simp [e18]) (by simp [e19]) (by simp [e6]) (by simp [e7]) (by simp) hPn
    · have hSz : S = z256 := by
        rw [hS]; unfold secR; rw [List.getElem?_eq_none (by omega)]
      have hno : getO S = false := by rw [hSz]; exact getO_z
      refine w_ring_Get hsec (fun _ F v b kF hv n => ?_) fun hyes => by rw [hno] at hyes; cases hyes
      have hsv := hv.scl
      simp -implicitDefEqProofs [hsv.shp, hsv.good, hsv.comps, hsv.agg]
      simp -implicitDefEqProofs [hr9, q_Pring_Ring_found_9]
      simp -implicitDefEqProofs [hr13, q_Pring_Ring_found_13, e19, wi, -Int.natCast_add]
      exact lp_next (i + 1) ⟨by omega, by simp [e0], by simp [e18], by simp, ⟨lo, hi, ok, by simp [e6], by simp [e7], by simp [e8], hP.none his hkl hll⟩, sub_tr kC (sub_tr kE (sub_tr kZ kF))⟩ (by omega)
  · have his : i = size := by omega
    subst his
    simp -implicitDefEqProofs [hr14, q_Pring_Ring_found_14, e6, e7, e8, outOf]
    refine hk lo hi ok C kC ?_
    rcases hP.fin (by omega) with ⟨h1, h2, h3, h4⟩ | h
    · exact .inl ⟨h1, h4⟩
    · exact .inr h
end
end Go.Proofs.Ytkmlndihdcplfaa

/- The walks of a ring's scrub and Open. -/
namespace Go.Proofs.Ytkmlndihdcplfaa
open Go AVL
attribute [-simp] AV.isAgg aappI aapp alen szOK aslc List.reduceReplicate
attribute [simp] shp good comps
set_option linter.unusedVariables false
set_option linter.unusedSimpArgs false
set_option maxRecDepth 8000

/-- A disk to which writes that change nothing wait. -/
structure Idle (W : List (List Nat)) (f : Int) (D : Dsk) : Prop where
  last : D.last = W
  wait : ∀ p ∈ D.wait, W.set p.1 p.2 = W
  down : D.down = false
  fuse : D.fuse = f
theorem Idle.ok {W : List (List Nat)} {f : Int} {D : Dsk} (h : Idle W f D) (hf : f < 0) : D.ok = true := by
  unfold Dsk.ok; rw [h.down, h.fuse]; simp; omega
theorem Idle.step {W : List (List Nat)} {f : Int} {D : Dsk} (h : Idle W f D) (hf : f < 0) : D.step.down = false ∧ D.step.fuse = f ∧ D.step.steps = D.steps + 1 := by
  have h2 := h.ok hf
  have h3 := h.fuse
  unfold Dsk.ok at h2
  simp at h2
  unfold Dsk.step
  rw [if_neg (by simp [h2])]
  exact ⟨h.down, by simp; omega, rfl⟩
theorem Idle.write {W : List (List Nat)} {f : Int} {D : Dsk} (h : Idle W f D) (hf : f < 0) {a : Nat} {s : List Nat} (hs : W.set a s = W) : Idle W f (D.write a s) ∧ (D.write a s).steps = D.steps + 1 ∧ (D.write a s).wait.length = D.wait.length + 1 := by
  have hst := h.step hf
  have hw : D.write a s = { D.step with wait := D.wait ++ [(a, s)] } := by unfold Dsk.write; rw [h.ok hf]; rfl
  rw [hw]
  refine ⟨⟨by rw [← h.last]; exact D.step_last, fun p hp => ?_, hst.1, hst.2.1⟩, hst.2.2, by simp⟩
  rcases List.mem_append.1 hp with hp | hp
  · exact h.wait p hp
  · simp only [List.mem_singleton] at hp; subst hp; exact hs
theorem Idle.flush {W : List (List Nat)} {f : Int} {D : Dsk} (h : Idle W f D) (hf : f < 0) : Rest D.flush ∧ D.flush.last = W ∧ D.flush.fuse = f ∧ D.flush.steps = D.steps + 1 := by
  have hst := h.step hf
  have hw : D.flush = D.step.settle (fun _ => true) := by unfold Dsk.flush; rw [h.ok hf]; rfl
  rw [hw]
  refine ⟨⟨rfl, hst.1⟩, ?_, hst.2.1, hst.2.2⟩
  show stl (fun _ => true) D.step.wait D.step.last D.step.wait.length = W
  rw [Dsk.step_wait, Dsk.step_last, h.last]
  exact stl_same h.wait _ (Nat.le_refl _)
section
variable {A B : Heap} {K Kp : AV → Heap → Prop} {gr gd fr size tail head : Nat} {L : List (List Nat)} {D : Dsk}
structure SbI (A : Heap) (gr gd size head : Nat) (L : List (List Nat)) (D : Dsk) (i : Nat) (env : AEnv) (B : Heap) : Prop where
  le : L.length + i ≤ size
  e0 : env 0 = .ptr gr 0
  e3 : env 3 = .int .i64 ((head + i : Nat) : Int)
  md : ∃ D', DskAt A gd D' B ∧ Idle D.last D.fuse D' ∧ D'.steps ≤ D.steps + i ∧ D'.wait.length ≤ i
theorem w_ring_scrub (h : RgAt A gr gd fr size tail head L D B) (hf : D.fuse < 0) (hst : D.steps < 2 ^ 60) (hk : ∀ D' B', RgAt A gr gd fr size tail head L D' B' → D'.last = D.last → D'.fuse = D.fuse → D'.steps ≤ D.steps + size + 1 → K (.int .i64 0) B') : SimX Try.prog F_Pring_Ring_scrub [.ptr gr 0] B (outK K Kp) := by
  have hB := h.br
  obtain ⟨b1, b2, b3, b4, b5, b6⟩ := h.bnd
  have hhd := h.hd
  have hll := h.on.len
  have hfit := h.on.fit
  refine j_Pring_Ring_scrub (by simp) ?_
  unfold a_Pring_Ring_scrub
  have hB' := hB
  unfold rgC at hB'
  obtain ⟨r7, hr7⟩ : ∃ r, r = q_Pring_Ring_scrub_7 := ⟨_, rfl⟩; rw [← hr7]
  simp -implicitDefEqProofs [q_Pring_Ring_scrub_0, q_Pring_Ring_scrub_1, hB']
  have hwl0 : D.wait.length = 0 := by rw [h.rest.wait]; rfl
  refine X_lp (SbI A gr gd size head L D) (fun i => size - i) 0 ⟨by omega, by simp, by simp, ⟨D, h.dk, ⟨rfl, by rw [h.rest.wait]; simp, h.rest.down, rfl⟩, by omega, by omega⟩⟩ ?_
  rintro i env C ⟨lei, e0, e3, ⟨D1, hd1, hid, hs1, hw1⟩⟩
  have hC := hd1.sub _ _ h.ar
  have hC' := hC
  unfold rgC at hC'
  rw [q_Pring_Ring_scrub_L7]
  obtain ⟨r3, hr3⟩ : ∃ r, r = q_Pring_Ring_scrub_3 := ⟨_, rfl⟩; rw [← hr3]
  obtain ⟨r4, hr4⟩ : ∃ r, r = q_Pring_Ring_scrub_4 := ⟨_, rfl⟩; rw [← hr4]
  obtain ⟨r6, hr6⟩ : ∃ r, r = q_Pring_Ring_scrub_6 := ⟨_, rfl⟩; rw [← hr6]
  have w1 : IntKind.i64.wrap ((tail : Int) + (size : Int)) = (tail : Int) + size := wrap_i64 (by omega)
  obtain ⟨N, hN⟩ : ∃ N, N = head + i := ⟨_, rfl⟩
  rw [← hN] at e3
  simp -implicitDefEqProofs [q_Pring_Ring_scrub_2, e0, e3, hC', w1]
  refine ⟨fun hlt => ?_, fun hge => ?_⟩
  · have hks : L.length + i < size := by omega
    have wi : IntKind.i64.wrap ((N : Int) + 1) = ((N + 1 : Nat) : Int) := by rw [wrap_i64 (by omega)]; simp
    have hNk : N = tail + (L.length + i) := by omega
    have hz := h.on.zero (k := L.length + i) (by omega) hks
    rw [← hNk] at hz
    have hmm : N % size < size := Nat.mod_lt _ (by omega)
    obtain ⟨q, hq⟩ : ∃ q, q = fr + N % size := ⟨_, rfl⟩
    rw [← hq] at hz
    have hll1 : D1.last.length = D.last.length := by rw [hid.last]
    have hins : D1.inside ((q : Nat) : Int) = true := by unfold Dsk.inside; simp; omega
    have hzi := z256_ints
    have hzv : (.iarr .u8 256 (List.replicate 256 0) : AV) = secV z256 := by unfold secV; rw [hzi]
    simp -implicitDefEqProofs [hr3, q_Pring_Ring_scrub_3, e0, e3, hC']
    refine w_ring_at hC (by omega) (by omega) (by omega) (by omega) ?_
    rw [← hq]
    simp -implicitDefEqProofs [keepC, Sub_refl]
    rw [hzv]
    refine w_disk_Write (s := z256) (a := ((q : Nat) : Int)) hd1 (by omega) (by omega) sec_z fun B1 d1 => ?_
    rw [hins] at d1 ⊢
    simp only [if_true, Int.toNat_natCast] at d1 ⊢
    rw [hid.ok hf]
    have hwr := hid.write hf hz
    simp -implicitDefEqProofs [codeOf]
    simp -implicitDefEqProofs [hr4, q_Pring_Ring_scrub_4]
    simp -implicitDefEqProofs [hr6, q_Pring_Ring_scrub_6, e3, wi, -Int.natCast_add]
    exact lp_next (i + 1) ⟨by omega, by simp [e0], by simp; omega, ⟨_, d1, hwr.1, by omega, by omega⟩⟩ (by omega)
  · have hfl := hid.flush hf
    simp -implicitDefEqProofs [hr7, q_Pring_Ring_scrub_7, e0, hC']
    refine w_disk_Flush hd1 (by omega) (by omega) fun B1 d1 => ?_
    rw [hid.ok hf]
    simp -implicitDefEqProofs [codeOf, outOf]
    refine hk D1.flush B1 ⟨h.ar, h.hd, d1, hfl.1, by rw [hfl.2.1]; exact h.on⟩ hfl.2.1 hfl.2.2.1 (by omega)
structure OpI (gr tail : Nat) (L : List (List Nat)) (B0 : Heap) (i : Nat) (env : AEnv) (B : Heap) : Prop where
  le : i ≤ L.length
  e10 : env 10 = .ptr gr 0
  e15 : env 15 = .int .i64 ((tail + i : Nat) : Int)
  kB : B0.Sub B
theorem w_ring_Open (hd : DskAt A gd D B) (hre : Rest D) (on : RgL D.last fr size tail L) (hf : D.fuse < 0) (hst : D.steps < 2 ^ 59) {next : Nat} (hnx : L = [] → next = tail) (hnb : next ≤ 1073741824)
    (hk : ∀ go D' B', A go = none → RgAt (A.set go (rgC gd fr size tail (tail + L.length))) go gd fr size tail (tail + L.length) L D' B' → D'.fuse = D.fuse → D'.steps ≤ D.steps + size + 1 → K (.tuple [.ptr go 0, .int .i64 0]) B') :
    SimX Try.prog F_ring_Open [.ptr gd 0, .int .i64 fr, .int .i64 size, .int .i64 next] B (outK K Kp) := by
  have hfit := on.fit
  have hpos := on.pos
  have hbig := on.big
  have hnum := on.num
  have hll := on.len
  have hwf := hd.wf.size
  refine j_ring_Open (by simp) ?_
  unfold a_ring_Open
  obtain ⟨r2, hr2⟩ : ∃ r, r = q_ring_Open_2 := ⟨_, rfl⟩; rw [← hr2]
  obtain ⟨r4, hr4⟩ : ∃ r, r = q_ring_Open_4 := ⟨_, rfl⟩; rw [← hr4]
  obtain ⟨r6, hr6⟩ : ∃ r, r = q_ring_Open_6 := ⟨_, rfl⟩; rw [← hr6]
  obtain ⟨r7, hr7⟩ : ∃ r, r = q_ring_Open_7 := ⟨_, rfl⟩; rw [← hr7]
  obtain ⟨r9, hr9⟩ : ∃ r, r = q_ring_Open_9 := ⟨_, rfl⟩; rw [← hr9]
  obtain ⟨r10, hr10⟩ : ∃ r, r = q_ring_Open_10 := ⟨_, rfl⟩; rw [← hr10]
  obtain ⟨r11, hr11⟩ : ∃ r, r = q_ring_Open_11 := ⟨_, rfl⟩; rw [← hr11]
  obtain ⟨r12, hr12⟩ : ∃ r, r = q_ring_Open_12 := ⟨_, rfl⟩; rw [← hr12]
  obtain ⟨r14, hr14⟩ : ∃ r, r = q_ring_Open_14 := ⟨_, rfl⟩; rw [← hr14]
  obtain ⟨r21, hr21⟩ : ∃ r, r = q_ring_Open_21 := ⟨_, rfl⟩; rw [← hr21]
  have c1 : ¬ (next : Int) < 0 := by omega
  have c2 : ¬ (1099511627776 : Int) < next := by omega
  simp -implicitDefEqProofs [q_ring_Open_0, q_ring_Open_1]
  refine w_ring_New hd hpos hbig (by omega) (fun h => by omega) fun _ go hgo => ?_
  have hAo : A go = none := sub_noneL hd.sub hgo
  simp -implicitDefEqProofs
  simp -implicitDefEqProofs [hr2, q_ring_Open_2]
  simp -implicitDefEqProofs [hr4, q_ring_Open_4, c1, c2]
  have d1 := hd.rebase (c := rgC gd fr size 0 0) hgo
  have a1 : (A.set go (rgC gd fr size 0 0)) go = some (rgC gd fr size 0 0) := set_eq'
  obtain ⟨A1, hA1⟩ : ∃ A1, A1 = A.set go (rgC gd fr size 0 0) := ⟨_, rfl⟩
  obtain ⟨B1, hB1⟩ : ∃ B1, B1 = B.set go (rgC gd fr size 0 0) := ⟨_, rfl⟩
  rw [← hA1, ← hB1] at d1
  rw [← hA1] at a1
  try simp only [← hB1]
  have hAs : ∀ c, A1.set go c = A.set go c := fun c => by
    rw [hA1]; funext x; rw [set_app, set_app, set_app]; split <;> rfl
  clear hB1
  simp -implicitDefEqProofs [hr6, q_ring_Open_6]
  refine w_ring_found a1 d1 hre on fun lo hi ok C kC hfo => ?_
  have d2 := d1.mono kC
  have b2 := d2.sub _ _ a1
  have b2' := b2
  unfold rgC at b2'
  simp -implicitDefEqProofs
  simp -implicitDefEqProofs [hr7, q_ring_Open_7]
  simp -implicitDefEqProofs [hr9, q_ring_Open_9, b2']
  -- the ring, told
  have fin : ∀ (env' : AEnv) (E : Heap), env' 2 = .int .i64 size → env' 10 = .ptr go 0 → RgAt (A.set go (rgC gd fr size tail (tail + L.length))) go gd fr size tail (tail + L.length) L D E →
      AVL.X Try.prog (inl [ARes.tmp 8, ARes.tmp 9] K Kp) (.seq (.seq (.region r12) (.cond (.t 65) (.seq (.region q_ring_Open_13) .ret) .skip)) (.seq .skip (.seq (.seq (.region r14) (.block 0 (.loop q_ring_Open_L21))) (.seq (.region r21) .ret)))) .done env' E := by
    intro env' E f2 f10 hrg
    have hE := hrg.br
    have hE' := hE
    unfold rgC at hE'
    have g1 : ¬ (size : Int) < ((tail + L.length - tail : Nat) : Int) := by omega
    obtain ⟨Q, hQ⟩ : ∃ Q, Q = tail + L.length - tail := ⟨_, rfl⟩
    rw [← hQ] at g1
    simp -implicitDefEqProofs [hr12, q_ring_Open_12, f2, f10]
    refine w_ring_Len hE (by omega) (by omega) ?_
    rw [← hQ]
    have g2 : ¬ size < Q := by omega
    simp -implicitDefEqProofs [f2, g1, g2]
    obtain ⟨H, hH⟩ : ∃ H, H = tail + L.length := ⟨_, rfl⟩
    rw [← hH] at hE'
    simp -implicitDefEqProofs [hr14, q_ring_Open_14, f10, hE']
    refine X_lp (OpI go tail L E) (fun i => L.length - i) 0 ⟨by omega, by simp [f10], by simp, Sub_refl E⟩ ?_
    clear f2 f10
    rintro i env F ⟨lei, f10, f15, kF⟩
    have hF := kF _ _ hE'
    obtain ⟨N, hN⟩ : ∃ N, N = tail + i := ⟨_, rfl⟩
    rw [← hN] at f15
    rw [q_ring_Open_L21]
    obtain ⟨r16, hr16⟩ : ∃ r, r = q_ring_Open_16 := ⟨_, rfl⟩; rw [← hr16]
    obtain ⟨r17, hr17⟩ : ∃ r, r = q_ring_Open_17 := ⟨_, rfl⟩; rw [← hr17]
    obtain ⟨r20, hr20⟩ : ∃ r, r = q_ring_Open_20 := ⟨_, rfl⟩; rw [← hr20]
    simp -implicitDefEqProofs [q_ring_Open_15, f10, f15, hF]
    refine ⟨fun hlt => ?_, fun hge => ?_⟩
    · have wi : IntKind.i64.wrap ((N : Int) + 1) = ((N + 1 : Nat) : Int) := by rw [wrap_i64 (by omega)]; simp
      simp -implicitDefEqProofs [hr16, q_ring_Open_16, f10, f15]
      refine w_ring_Read (hrg.mono kF) N (fun hb => by omega) fun k hk hNk g G kG hg hG => ?_
      simp -implicitDefEqProofs
      simp -implicitDefEqProofs [hr17, q_ring_Open_17]
      simp -implicitDefEqProofs [hr20, q_ring_Open_20, f15, wi, -Int.natCast_add]
      exact lp_next (i + 1) ⟨by omega, by simp [f10], by simp; omega, sub_tr kF kG⟩ (by omega)
    · simp -implicitDefEqProofs [hr21, q_ring_Open_21, f10]
      refine w_ring_scrub (hrg.mono kF) hf (by omega) fun D' B' hr' hl' hfu' hs' => ?_
      simp -implicitDefEqProofs [outOf]
      exact hk go D' B' hAo hr' hfu' hs'
  have hmk : ∀ E : Heap, DskAt (A.set go (rgC gd fr size tail (tail + L.length))) gd D E → RgAt (A.set go (rgC gd fr size tail (tail + L.length))) go gd fr size tail (tail + L.length) L D E := fun E hE => ⟨set_eq', rfl, hE, hre, on⟩
  have p3 := d2.poke (c := rgC gd fr size next next) a1
  rw [hAs] at p3
  rcases hfo with ⟨hL, hok⟩ | ⟨hL, hlo, hhi, hok⟩
  · have hnt := hnx hL
    have hL0 : tail + L.length = tail := by rw [hL]; simp
    subst hok
    rw [hnt] at p3
    have hfin := fun env' h2 h10 => fin env' (C.set go (rgC gd fr size tail tail)) h2 h10 (hmk _ (by rw [hL0]; exact p3))
    unfold rgC at hfin
    rw [hnt]
    simp -implicitDefEqProofs [hr10, q_ring_Open_10]
    exact hfin _ (by simp) (by simp)
  · subst hok
    have p4 := p3.poke (c := rgC gd fr size tail (tail + L.length)) set_eq'
    have hss : (A.set go (rgC gd fr size next next)).set go (rgC gd fr size tail (tail + L.length)) = A.set go (rgC gd fr size tail (tail + L.length)) := by
      funext x; rw [set_app, set_app, set_app]; split <;> rfl
    have hss2 : (C.set go (rgC gd fr size next next)).set go (rgC gd fr size tail (tail + L.length)) = C.set go (rgC gd fr size tail (tail + L.length)) := by
      funext x; rw [set_app, set_app, set_app]; split <;> rfl
    rw [hss, hss2] at p4
    have w1 : IntKind.i64.wrap (hi + 1) = ((tail + L.length : Nat) : Int) := by rw [wrap_i64 (by omega)]; omega
    have hfin := fun env' h2 h10 => fin env' _ h2 h10 (hmk _ p4)
    unfold rgC at hfin
    obtain ⟨H, hH⟩ : ∃ H, H = tail + L.length := ⟨_, rfl⟩
    rw [← hH] at w1 hfin
    simp -implicitDefEqProofs [hr10, q_ring_Open_10]
    simp -implicitDefEqProofs [hr11, q_ring_Open_11, hlo, w1]
    exact hfin _ (by simp) (by simp)
end
end Go.Proofs.Ytkmlndihdcplfaa

/- The walks of the chapter's Append and Drop. -/
namespace Go.Proofs.Ytkmlndihdcplfaa
open Go AVL
attribute [-simp] AV.isAgg aappI aapp alen shp good comps szOK aslc List.reduceReplicate
set_option linter.unusedVariables false
set_option linter.unusedSimpArgs false
set_option maxRecDepth 8000

/-- Slices of bytes that are given. -/
def bV (b : List Nat) : AV := .isl .u8 (ints b)
def LsV (C : Heap) (v : AV) (L : List (List Nat)) : Prop := (v = .nilS ∧ L = []) ∨ ∃ (g i n : Nat) (R : List (List Nat)), v = .own g i n ∧ C g = some (.row T_L_uint8 1 (R.map bV)) ∧ i + n ≤ R.length ∧ L = (R.drop i).take n
theorem bVs_sts : ∀ L : List (List Nat), AV.sts (L.map bV) = true
  | [] => rfl
  | b :: L => by simp only [List.map_cons, AV.sts, bVs_sts L, Bool.and_true]; rfl
section
variable {A B C : Heap} {K Kp : AV → Heap → Prop} {v : AV} {L : List (List Nat)}
theorem LsV.nil (C : Heap) : LsV C .nilS [] := .inl ⟨rfl, rfl⟩
theorem LsV.mono (h : LsV B v L) (hs : B.Sub C) : LsV C v L := h.imp id fun ⟨g, i, n, R, h1, h2, h3⟩ => ⟨g, i, n, R, h1, hs _ _ h2, h3⟩
theorem LsV.scb (h : LsV C v L) : Scb v := by
  rcases h with ⟨rfl, _⟩ | ⟨g, i, n, R, rfl, _⟩ <;> exact ⟨rfl, rfl, rfl, rfl, rfl, rfl⟩
theorem LsV.len (h : LsV C v L) {F : AV → Prop} : alen false v F = F (.int .i64 L.length) := by
  rcases h with ⟨rfl, rfl⟩ | ⟨g, i, n, R, rfl, h1, h2, rfl⟩
  · simp
  · have : ((R.drop i).take n).length = n := by simp; omega
    rw [this]; simp
theorem LsV.src (h : LsV C v L) : ∀ Q : List AV → Prop, Q (L.map bV) → srcG 1 v C Q := by
  intro Q hQ
  rcases h with ⟨rfl, rfl⟩ | ⟨g, i, n, R, rfl, h1, h2, rfl⟩
  · exact hQ
  · refine src_part h1 (by simpa using h2) Q ?_
    rw [← List.map_drop, ← List.map_take]
    exact hQ
theorem LsV.row {g n : Nat} {R : List (List Nat)} (h : C g = some (.row T_L_uint8 1 (R.map bV))) (hn : n = R.length) : LsV C (.own g 0 n) R := .inr ⟨g, 0, n, R, rfl, h, by omega, by subst hn; simp⟩
theorem LsV.ofR (h : SlR T_L_uint8 1 v (L.map bV) A C) : LsV C v L := by
  rcases h.own with ⟨rfl, h2⟩ | ⟨g, rfl, _, h3⟩
  · exact .inl ⟨rfl, by simpa using h2⟩
  · exact .row h3 (by simp)
theorem LsV.pos (h : LsV C v L) (hp : 0 < L.length) : ∃ (g i n : Nat) (R : List (List Nat)), v = .own g i n ∧ C g = some (.row T_L_uint8 1 (R.map bV)) ∧ i + n ≤ R.length ∧ L = (R.drop i).take n := by
  rcases h with ⟨_, rfl⟩ | h
  · simp at hp
  · exact h
def rfV (size tail : Nat) (v : AV) : AV := .agg [.int .i64 size, .int .i64 tail, v]
def apC (size tail : Nat) (L : List (List Nat)) (b : List Nat) : Int := if size ≤ L.length then 6 else putRC ((tail + L.length : Nat) : Int) b
theorem w_ref36_Append {size tail : Nat} (hv : LsV A v L) {b : List Nat} (hb : Bytes b) (hbl : b.length < 2 ^ 62) (hs : size ≤ 256) (hl : L.length ≤ size) (hn : tail + L.length ≤ 1073741824)
    (hk0 : apC size tail L b ≠ 0 → ∀ C, A.Sub C → K (.tuple [rfV size tail v, .int .i64 0, .int .i64 (apC size tail L b)]) C)
    (hk1 : apC size tail L b = 0 → ∀ v' C, A.Sub C → LsV C v' (L ++ [b]) → K (.tuple [rfV size tail v', .int .i64 ((tail + L.length : Nat) : Int), .int .i64 0]) C) :
    SimX Try.prog F_ref36_Append [rfV size tail v, bV b] A (outK K Kp) := by
  have hsv := hv.scb
  refine j_ref36_Append (by simp) ?_
  unfold a_ref36_Append rfV bV
  unfold rfV at hk0 hk1
  obtain ⟨r1, hr1⟩ : ∃ r, r = q_ref36_Append_1 := ⟨_, rfl⟩; rw [← hr1]
  obtain ⟨r3, hr3⟩ : ∃ r, r = q_ref36_Append_3 := ⟨_, rfl⟩; rw [← hr3]
  obtain ⟨r4, hr4⟩ : ∃ r, r = q_ref36_Append_4 := ⟨_, rfl⟩; rw [← hr4]
  obtain ⟨r5, hr5⟩ : ∃ r, r = q_ref36_Append_5 := ⟨_, rfl⟩; rw [← hr5]
  obtain ⟨r6, hr6⟩ : ∃ r, r = q_ref36_Append_6 := ⟨_, rfl⟩; rw [← hr6]
  obtain ⟨r7, hr7⟩ : ∃ r, r = q_ref36_Append_7 := ⟨_, rfl⟩; rw [← hr7]
  obtain ⟨r8, hr8⟩ : ∃ r, r = q_ref36_Append_8 := ⟨_, rfl⟩; rw [← hr8]
  obtain ⟨r9, hr9⟩ : ∃ r, r = q_ref36_Append_9 := ⟨_, rfl⟩; rw [← hr9]
  obtain ⟨r10, hr10⟩ : ∃ r, r = q_ref36_Append_10 := ⟨_, rfl⟩; rw [← hr10]
  simp -implicitDefEqProofs [q_ref36_Append_0, hsv.shp, hsv.good, hsv.comps, hsv.agg, hsv.st, hsv.size]
  intro g2 hg2
  intro g4 n24 n42 hg4
  obtain ⟨Y, hY⟩ : ∃ Y, Y = (A.set g2 (.var 42 [.int .i64 size, .int .i64 tail, v])).set g4 (.var 42 [.int .i64 0, .int .i64 0, .nilS]) := ⟨_, rfl⟩
  rw [← hY]
  have y2 : Y g2 = some (.var 42 [.int .i64 size, .int .i64 tail, v]) := by rw [hY]; simp [*]
  have y4 : Y g4 = some (.var 42 [.int .i64 0, .int .i64 0, .nilS]) := by rw [hY, set_eq']
  have kY : A.Sub Y := by rw [hY]; exact sub_new (sub_none hg2) (by simp [*])
  have a4 : A g4 = none := hg4
  have kY4 : ∀ c, A.Sub (Y.set g4 c) := fun c => sub_set' kY a4
  have n24 : ¬ g2 = g4 := by assumption
  have n42 : ¬ g4 = g2 := fun e => n24 e.symm
  clear hY
  have hlen : ∀ F : AV → Prop, alen false v F = F (.int .i64 L.length) := fun F => hv.len
  by_cases hfull : size ≤ L.length
  · have hf' : (size : Int) ≤ L.length := by omega
    have hc : apC size tail L b = 6 := if_pos hfull
    rw [hc] at hk0
    simp -implicitDefEqProofs [hr1, q_ref36_Append_1, y2, hlen, hfull, hf', hsv.shp, hsv.good, hsv.comps, hsv.agg, hsv.size]
    simp -implicitDefEqProofs [q_ref36_Append_2, y2, y4, n42, hsv.shp, hsv.good, hsv.comps, hsv.agg, hsv.st, hsv.size, outOf]
    exact hk0 (by decide) _ (kY4 _)
  have hf' : ¬ (size : Int) ≤ L.length := by omega
  have hca : apC size tail L b = putRC ((tail + L.length : Nat) : Int) b := if_neg hfull
  obtain ⟨H, hH⟩ : ∃ H, H = tail + L.length := ⟨_, rfl⟩
  rw [hca, ← hH] at hk0 hk1
  have hP := w_ref36_Put (H : Nat) hb (by omega)
  have hSs : (putRS (H : Nat) b).length = 256 := by
    unfold putRS
    split
    · exact recS_len _ _
    · simp [z256]
  obtain ⟨c, hc⟩ : ∃ c, c = putRC (H : Nat) b := ⟨_, rfl⟩
  obtain ⟨S, hS⟩ : ∃ S, S = putRS (H : Nat) b := ⟨_, rfl⟩
  rw [← hc] at hk0 hk1
  rw [← hc, ← hS] at hP
  rw [← hS] at hSs
  have w1 : IntKind.i64.wrap ((tail : Int) + (L.length : Int)) = (H : Int) := by rw [wrap_i64 (by omega)]; omega
  simp -implicitDefEqProofs [hr1, q_ref36_Append_1, y2, hlen, hfull, hf', hsv.shp, hsv.good, hsv.comps, hsv.agg, hsv.size]
  simp -implicitDefEqProofs [hr3, q_ref36_Append_3, y2, hlen, w1, hsv.shp, hsv.good, hsv.comps, hsv.agg, hsv.size]
  simp -implicitDefEqProofs [hr4, q_ref36_Append_4]
  refine hP.call (.cons (.refl _) rfl (.cons (.refl _) rfl .nil)) rfl ?_
  simp -implicitDefEqProofs [hSs]
  intro g8 hg8
  have n28 : ¬ g2 = g8 := fun e => by rw [← e, y2] at hg8; cases hg8
  have n48 : ¬ g4 = g8 := fun e => by rw [← e, y4] at hg8; cases hg8
  obtain ⟨Z, hZ⟩ : ∃ Z, Z = Y.set g8 (.var 23 [.iarr .u8 256 (ints S)]) := ⟨_, rfl⟩
  rw [← hZ]
  have z2 : Z g2 = some (.var 42 [.int .i64 size, .int .i64 tail, v]) := by rw [hZ, set_ne' n28]; exact y2
  have z4 : Z g4 = some (.var 42 [.int .i64 0, .int .i64 0, .nilS]) := by rw [hZ, set_ne' n48]; exact y4
  have kZ : A.Sub Z := by rw [hZ]; exact sub_new kY hg8
  clear hZ
  by_cases hc0 : c = 0
  · rw [hc0]
    simp -implicitDefEqProofs [hr5, q_ref36_Append_5]
    simp -implicitDefEqProofs [hr7, q_ref36_Append_7, z2, hsv.shp, hsv.good, hsv.comps, hsv.agg, hsv.size]
    intro g10 hg10
    have n210 : ¬ g2 = g10 := fun e => by rw [← e, z2] at hg10; cases hg10
    have n410 : ¬ g4 = g10 := fun e => by rw [← e, z4] at hg10; cases hg10
    obtain ⟨W, hW⟩ : ∃ W, W = Z.set g10 (.var 42 [.int .i64 size, .int .i64 tail, .nilS]) := ⟨_, rfl⟩
    rw [← hW]
    have w2 : W g2 = some (.var 42 [.int .i64 size, .int .i64 tail, v]) := by rw [hW, set_ne' n210]; exact z2
    have w4 : W g4 = some (.var 42 [.int .i64 0, .int .i64 0, .nilS]) := by rw [hW, set_ne' n410]; exact z4
    have w10 : W g10 = some (.var 42 [.int .i64 size, .int .i64 tail, .nilS]) := by rw [hW, set_eq']
    have kW : A.Sub W := by rw [hW]; exact sub_new kZ hg10
    have a10 : A g10 = none := sub_noneL kZ hg10
    clear hW
    have hvW := hv.mono kW
    simp -implicitDefEqProofs [hr8, q_ref36_Append_8, w2, w10, hsv.shp, hsv.good, hsv.comps, hsv.agg, hsv.size]
    refine (SlR.nil (e := T_L_uint8) (sz := 1) (Sub_refl W)).appS (ys := L.map bV) (Sub_refl W) hvW.src (bVs_sts L) (by simp; omega) fun g' n C' hn h1 => ?_
    rw [List.nil_append] at h1
    have c2 := h1.sub _ _ w2
    have c4 := h1.sub _ _ w4
    have c10 := h1.sub _ _ w10
    have ng' : g' ≠ g10 := fun e => h1.not_base w10 n (by rw [e])
    have hs1 := h1.scl
    simp -implicitDefEqProofs [c10, hs1.shp, hs1.good, hs1.comps, hs1.agg, hs1.st, hs1.size]
    obtain ⟨X, hX⟩ : ∃ X, X = C'.set g10 (.var 42 [.int .i64 size, .int .i64 tail, .own g' 0 n]) := ⟨_, rfl⟩
    rw [← hX]
    have x4 : X g4 = some (.var 42 [.int .i64 0, .int .i64 0, .nilS]) := by rw [hX, set_ne' n410]; exact c4
    have x10 : X g10 = some (.var 42 [.int .i64 size, .int .i64 tail, .own g' 0 n]) := by rw [hX, set_eq']
    have hwX : SlR T_L_uint8 1 (.own g' 0 n) (L.map bV) A X := by
      rw [hX]
      exact (h1.base kW).set a10 (h1.not_base w10)
    clear hX
    simp -implicitDefEqProofs [hr9, q_ref36_Append_9, x10]
    intro g48 hg48
    have n4048 : ¬ g10 = g48 := fun e => by rw [← e, x10] at hg48; cases hg48
    have n448 : ¬ g4 = g48 := fun e => by rw [← e, x4] at hg48; cases hg48
    obtain ⟨T, hAT, hTX, hwT, hoth, _⟩ := hwX.top
    have t4 := hoth g4 _ x4 (hwX.ne x4 (fun l e => by cases e))
    have t10 := hoth g10 _ x10 (hwX.ne x10 (fun l e => by cases e))
    have hap := fun K hk => hwT.app (K := K) (bytes := 24) (ys := [bV b]) (g1 := g48) (C := X.set g48 (.row T_L_uint8 1 [bV b])) set_eq' rfl (sub_none hg48) hg48 (by simp; omega) hk
    refine hap _ fun v' D h3 h4 => ?_
    have hs3 := h3.scl
    have d4 := h3.sub _ _ t4
    have d10 := h3.sub _ _ t10
    simp -implicitDefEqProofs [d10, hs3.shp, hs3.good, hs3.comps, hs3.agg, hs3.st, hs3.size, h4]
    have n104 : ¬ g10 = g4 := fun e => n410 e.symm
    simp -implicitDefEqProofs [hr10, q_ref36_Append_10, n410, n104, d4, hs3.shp, hs3.good, hs3.comps, hs3.agg, hs3.st, hs3.size, outOf]
    have hfin : ∀ c1 c2, SlR T_L_uint8 1 v' (L.map bV ++ [bV b]) A ((D.set g10 c1).set g4 c2) := fun c1 c2 =>
      ((h3.base hAT).set a10 (h3.not_base t10)).set a4 (h3.not_base t4)
    have hml : L.map bV ++ [bV b] = (L ++ [b]).map bV := by simp
    refine hk1 hc0 v' _ (hfin _ _).sub (LsV.ofR (A := A) ?_)
    rw [← hml]
    exact hfin _ _
  · simp -implicitDefEqProofs [hr5, q_ref36_Append_5, hc0]
    simp -implicitDefEqProofs [hr6, q_ref36_Append_6, z2, z4, n42, hsv.shp, hsv.good, hsv.comps, hsv.agg, hsv.st, hsv.size, outOf]
    exact hk0 hc0 _ (sub_set' kZ a4)
end
end Go.Proofs.Ytkmlndihdcplfaa

/- The walk of the chapter's Drop, and of light. -/
namespace Go.Proofs.Ytkmlndihdcplfaa
open Go AVL
attribute [-simp] AV.isAgg aappI aapp alen shp good comps szOK aslc List.reduceReplicate
set_option linter.unusedVariables false
set_option linter.unusedSimpArgs false
set_option maxRecDepth 8000

section
variable {A B C : Heap} {K Kp : AV → Heap → Prop} {v : AV} {L : List (List Nat)}
theorem LsV.szOK (h : LsV C v L) : AVL.szOK 1 v C := by
  rcases h with ⟨rfl, rfl⟩ | ⟨g, i, n, R, rfl, h1, h2, rfl⟩
  · trivial
  · simp only [AVL.szOK, h1]
theorem LsV.tail1 (h : LsV C v L) (hp : 0 < L.length) (hk : ∀ v', LsV C v' (L.drop 1) → K v' C) : aslc v (some (.int .i64 1)) none C K := by
  obtain ⟨g, i, n, R, rfl, h1, h2, h3⟩ := h.pos hp
  have hl : L.length = n := by rw [h3]; simp; omega
  simp only [aslc, bnd]
  refine ⟨by omega, by omega, by omega, ?_⟩
  refine hk _ (.inr ⟨g, i + 1, n - 1, R, ?_, h1, by omega, ?_⟩)
  · simp
  · rw [h3, List.drop_take, List.drop_drop]
structure RdD (size tail : Nat) (L : List (List Nat)) (to : Int) (g4 g6 : Nat) (Y : Heap) (j : Nat) (env : AEnv) (B : Heap) : Prop where
  le : tail + j ≤ endT tail (tail + L.length) to
  e1 : env 1 = .int .i64 to
  e4 : env 4 = .ptr g4 0
  e6 : env 6 = .ptr g6 0
  e7 : env 7 = .int .i64 (j : Nat)
  w : ∃ v, LsV Y v (L.drop j) ∧ B = Y.set g6 (.var 42 [.int .i64 size, .int .i64 ((tail + j : Nat) : Int), v])
theorem w_ref36_Drop {size tail : Nat} (hv : LsV A v L) (hn : tail + L.length ≤ 1073741824) (to : Int)
    (hk : ∀ j v' C, tail + j = endT tail (tail + L.length) to → A.Sub C → LsV C v' (L.drop j) → K (.tuple [rfV size (tail + j) v', .int .i64 (j : Nat)]) C) :
    SimX Try.prog F_ref36_Drop [rfV size tail v, .int .i64 to] A (outK K Kp) := by
  have hsv := hv.scb
  refine j_ref36_Drop (by simp) ?_
  unfold a_ref36_Drop rfV
  unfold rfV at hk
  obtain ⟨r7, hr7⟩ : ∃ r, r = q_ref36_Drop_7 := ⟨_, rfl⟩; rw [← hr7]
  simp -implicitDefEqProofs [q_ref36_Drop_0, hsv.shp, hsv.good, hsv.comps, hsv.agg, hsv.st, hsv.size]
  intro g2 hg2
  intro g4 n24 n42 hg4
  have n24' : ¬ g2 = g4 := by assumption
  obtain ⟨Y, hY⟩ : ∃ Y, Y = (A.set g2 (.var 42 [.int .i64 size, .int .i64 tail, v])).set g4 (.var 42 [.int .i64 0, .int .i64 0, .nilS]) := ⟨_, rfl⟩
  rw [← hY]
  have y2 : Y g2 = some (.var 42 [.int .i64 size, .int .i64 tail, v]) := by rw [hY]; simp [*]
  have y4 : Y g4 = some (.var 42 [.int .i64 0, .int .i64 0, .nilS]) := by rw [hY, set_eq']
  have kY : A.Sub Y := by rw [hY]; exact sub_new (sub_none hg2) (by simp [*])
  have a4 : A g4 = none := hg4
  clear hY
  simp -implicitDefEqProofs [q_ref36_Drop_1, q_ref36_Drop_2, y2, hsv.shp, hsv.good, hsv.comps, hsv.agg, hsv.st, hsv.size]
  intro g6 hg6
  have n46 : ¬ g4 = g6 := fun e => by rw [← e, y4] at hg6; cases hg6
  have hvY := hv.mono kY
  refine X_lp (RdD size tail L to g4 g6 Y) (fun j => L.length - j) 0 ⟨by unfold endT; omega, by simp, by simp, by simp, by simp, ⟨v, by simpa using hvY, by simp⟩⟩ ?_
  rintro j env B ⟨lej, e1, e4, e6, e7, ⟨u, hu, hB⟩⟩
  have hus := hu.scb
  have hlen : ∀ F : AV → Prop, alen false u F = F (.int .i64 (L.drop j).length) := fun F => hu.len
  have hdl : (L.drop j).length = L.length - j := by simp
  have hend : endT tail (tail + L.length) to ≤ tail + L.length := by unfold endT; omega
  have huB : LsV B u (L.drop j) := by rw [hB]; exact hu.mono (sub_none hg6)
  have b4 : B g4 = some (.var 42 [.int .i64 0, .int .i64 0, .nilS]) := by rw [hB, set_ne' n46]; exact y4
  have b6 : B g6 = some (.var 42 [.int .i64 size, .int .i64 ((tail + j : Nat) : Int), u]) := by rw [hB, set_eq']
  have kB : A.Sub B := by rw [hB]; exact sub_new kY hg6
  have hBset : ∀ c, B.set g6 c = Y.set g6 c := fun c => by
    rw [hB]; funext x; rw [set_app, set_app, set_app]; split <;> rfl
  rw [hdl] at hlen
  obtain ⟨T, hT⟩ : ∃ T, T = tail + j := ⟨_, rfl⟩
  rw [← hT] at b6 lej
  rw [q_ref36_Drop_L7]
  obtain ⟨r4, hr4⟩ : ∃ r, r = q_ref36_Drop_4 := ⟨_, rfl⟩; rw [← hr4]
  obtain ⟨r5, hr5⟩ : ∃ r, r = q_ref36_Drop_5 := ⟨_, rfl⟩; rw [← hr5]
  obtain ⟨r6, hr6⟩ : ∃ r, r = q_ref36_Drop_6 := ⟨_, rfl⟩; rw [← hr6]
  obtain ⟨M, hM⟩ : ∃ M, M = L.length - j := ⟨_, rfl⟩
  rw [← hM] at hlen
  by_cases hlt : T < endT tail (tail + L.length) to
  · have hT1 : (T : Int) < to := by unfold endT at hlt; omega
    have hM0 : (0 : Int) < M := by omega
    have hM0' : 0 < M := by omega
    have wT : IntKind.i64.wrap ((T : Int) + 1) = ((T + 1 : Nat) : Int) := by rw [wrap_i64 (by omega)]; simp
    have wj : IntKind.i64.wrap ((j : Int) + 1) = ((j + 1 : Nat) : Int) := by rw [wrap_i64 (by omega)]; simp
    simp -implicitDefEqProofs [q_ref36_Drop_3, e1, e6, b6, hlen, hM0, hM0', hT1, hus.shp, hus.good, hus.comps, hus.agg, hus.size]
    simp -implicitDefEqProofs [hr4, q_ref36_Drop_4, e6, b6, hus.shp, hus.good, hus.comps, hus.agg, hus.size]
    refine ⟨huB.szOK, huB.tail1 (by omega) fun w hw => ?_⟩
    have hws := hw.scb
    obtain ⟨w', hw'⟩ : ∃ w', w' = w := ⟨_, rfl⟩
    have hwY : LsV Y w (L.drop (j + 1)) := by
      rw [List.drop_drop] at hw
      rcases hw with h | ⟨g, i, n, R, h1, h2, h3, h4⟩
      · exact .inl h
      · refine .inr ⟨g, i, n, R, h1, ?_, h3, h4⟩
        rw [hB, set_app] at h2
        split at h2
        · cases h2
        · exact h2
    obtain ⟨T1, hTT⟩ : ∃ T1, T1 = T + 1 := ⟨_, rfl⟩
    rw [← hTT] at wT
    simp -implicitDefEqProofs [e6, b6, hus.size, hws.shp, hws.good, hws.comps, hws.agg, hws.st, hws.size]
    simp -implicitDefEqProofs [hr5, q_ref36_Drop_5, e6, wT, hws.shp, hws.good, hws.comps, hws.agg, hws.st, hws.size]
    simp -implicitDefEqProofs [hr6, q_ref36_Drop_6, e7, wj, -Int.natCast_add]
    refine lp_next (j + 1) ⟨by omega, by simp [e1], by simp [e4], by simp [e6], by simp, ⟨w, hwY, ?_⟩⟩ (by omega)
    rw [show tail + (j + 1) = T1 by omega, hBset]
  · have hTe : tail + j = endT tail (tail + L.length) to := by omega
    have hfin : ∀ (env' : AEnv), env' 4 = .ptr g4 0 → env' 6 = .ptr g6 0 → env' 7 = .int .i64 (j : Nat) → AVL.X Try.prog (inl [ARes.cell 4 .ag 3, ARes.tmp 5] K Kp) (.seq (.region r7) .ret) .done env' B := by
      intro env' f4 f6 f7
      have n64 : ¬ g6 = g4 := fun e => n46 e.symm
      simp -implicitDefEqProofs [hr7, q_ref36_Drop_7, f4, f6, f7, b4, b6, n64, hus.shp, hus.good, hus.comps, hus.agg, hus.st, hus.size, outOf]
      have := hk j u (B.set g4 (.var 42 [.int .i64 size, .int .i64 T, u])) hTe (sub_set' kB a4) ?_
      · rw [← hT] at this
        exact this
      · rcases huB with h | ⟨g, i, n, R, h1, h2, h3, h4⟩
        · exact .inl h
        · refine .inr ⟨g, i, n, R, h1, ?_, h3, h4⟩
          rw [set_ne' (fun e => by rw [e, b4] at h2; cases h2)]
          exact h2
    by_cases hM0' : 0 < M
    · have hM0 : (0 : Int) < M := by omega
      have hT1 : ¬ (T : Int) < to := by unfold endT at hlt; omega
      simp -implicitDefEqProofs [q_ref36_Drop_3, e1, e6, b6, hlen, hM0, hM0', hT1, hus.shp, hus.good, hus.comps, hus.agg, hus.size]
      exact hfin _ (by simp [e4]) (by simp [e6]) (by simp [e7])
    · have hM0 : ¬ (0 : Int) < M := by omega
      simp -implicitDefEqProofs [q_ref36_Drop_3, e1, e6, b6, hlen, hM0, hM0', hus.shp, hus.good, hus.comps, hus.agg, hus.size]
      exact hfin _ (by simp [e4]) (by simp [e6]) (by simp [e7])
end
/-- An act among the arguments. -/
structure RgO where
  kind : Int
  b : List Nat
  to : Nat
  power : Bool
  fuse : Nat
  keep : Bool
def roA (o : RgO) : AV := .agg [.int .i64 o.kind, bV o.b, .int .u8 o.to, .bool o.power, .int .u8 o.fuse, .bool o.keep]
def lightR (l : List RgO) : Bool := decide (l.length ≤ 60) && l.all fun o => decide (o.b.length ≤ 300)
theorem w_law36_light (l : List RgO) (hl : l.length < 2 ^ 63) : Gives Try.prog F_law36_light [.dsl 6 (l.map roA)] (.bool (lightR l)) := by
  refine v_law36_light (by simp) ?_
  unfold a_law36_light
  by_cases h60 : (60 : Int) < l.length
  · have : lightR l = false := by unfold lightR; rw [decide_eq_false (by omega)]; rfl
    simp -implicitDefEqProofs [q_law36_light_0, q_law36_light_1, q_law36_light_2, h60, this, outOf]
  obtain ⟨r8, hr8⟩ : ∃ r, r = q_law36_light_8 := ⟨_, rfl⟩; rw [← hr8]
  simp -implicitDefEqProofs [q_law36_light_0, q_law36_light_1, q_law36_light_3, h60]
  refine X_lp (fun (i : Nat) env B => i ≤ l.length ∧ env 0 = .dsl 6 (l.map roA) ∧ env 3 = .int .i64 i ∧ (l.all fun o => decide (o.b.length ≤ 300)) = ((l.drop i).all fun o => decide (o.b.length ≤ 300))) (fun i => l.length - i) 0 ⟨by omega, by simp, by simp, by simp⟩ ?_
  rintro i env B ⟨hi, e0, e3, heq⟩
  rw [q_law36_light_L8]
  obtain ⟨r7, hr7⟩ : ∃ r, r = q_law36_light_7 := ⟨_, rfl⟩; rw [← hr7]
  simp -implicitDefEqProofs [q_law36_light_4, e0, e3]
  refine ⟨fun hlt => ?_, fun hge => ?_⟩
  · have hii : (i : Int) < l.length := by omega
    have wi : IntKind.i64.wrap ((i : Int) + 1) = ((i + 1 : Nat) : Int) := by rw [wrap_i64 (by omega)]; simp
    rw [List.drop_eq_getElem_cons hlt] at heq
    obtain ⟨o, ho⟩ : ∃ o, o = l[i] := ⟨_, rfl⟩
    have hE : roA l[i] = .agg [.int .i64 o.kind, .isl .u8 (ints o.b), .int .u8 o.to, .bool o.power, .int .u8 o.fuse, .bool o.keep] := by rw [ho]; rfl
    rw [← ho] at heq
    by_cases hb : (300 : Int) < o.b.length
    · have hno : lightR l = false := by
        unfold lightR
        rw [heq]
        simp; omega
      simp -implicitDefEqProofs [q_law36_light_5, q_law36_light_6, e0, e3, hlt, hii]
      rw [hE]
      simp -implicitDefEqProofs [hb, hno, outOf, shp, good, comps]
    · have heq2 : (l.all fun o => decide (o.b.length ≤ 300)) = ((l.drop (i + 1)).all fun o => decide (o.b.length ≤ 300)) := by
        rw [heq]
        simp; omega
      simp -implicitDefEqProofs [q_law36_light_5, e0, e3, hlt, hii]
      rw [hE]
      simp -implicitDefEqProofs [hb, shp, good, comps]
      simp -implicitDefEqProofs [hr7, q_law36_light_7, e3, wi, -Int.natCast_add]
      exact lp_next (i + 1) ⟨by omega, by simp [e0], by simp, heq2⟩ (by omega)
  · have hyes : lightR l = true := by
      unfold lightR
      rw [heq, List.drop_of_length_le (by omega)]
      simp; omega
    simp -implicitDefEqProofs [hr8, q_law36_light_8, hyes, outOf]
end Go.Proofs.Ytkmlndihdcplfaa
