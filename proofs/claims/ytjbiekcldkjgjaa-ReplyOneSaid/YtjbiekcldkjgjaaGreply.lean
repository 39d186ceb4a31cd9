/- Abstract programs; that they are the program's. -/
import Derived.Test.YtjbiekcldkjgjaaFn
namespace Go.Proofs.Ytjbiekcldkjgjaa
open Go AVL
set_option linter.unusedVariables false

def q_reply_Put_0 : List AOper := [
  ⟨(some 1), (.box 47 .ag (.t 0)), none⟩,
  ⟨(some 2), (.mv (.v .nilS)), none⟩,
  ⟨(some 3), (.mv (.v (.int .i64 0))), none⟩]
def q_reply_Put_1 : List AOper := [
  ⟨(some 9), (.load .ag 37 (.t 1)), none⟩,
  ⟨(some 10), (.call F_reply_Check [(.ag, (.t 9))]), none⟩,
  ⟨(some 4), (.mv (.t 10)), none⟩]
def q_reply_Put_2 : List AOper := [
  ⟨(some 11), (.mv (.t 4)), none⟩,
  ⟨(some 12), (.eq .scI true (.t 11) (.v (.int .i64 0))), none⟩]
def q_reply_Put_3 : List AOper := [
  ⟨(some 13), (.mv (.t 4)), none⟩,
  ⟨(some 2), (.mv (.v .nilS)), none⟩,
  ⟨(some 3), (.mv (.t 13)), none⟩]
def q_reply_Put_4 : List AOper := [
  ⟨(some 5), (.mv (.v (.int .u8 45))), none⟩]
def q_reply_Put_5 : List AOper := [
  ⟨(some 14), (.fadr 36 1 .sc (.t 1)), none⟩,
  ⟨(some 15), (.load .sc 1 (.t 14)), none⟩]
def q_reply_Put_6 : List AOper := [
  ⟨(some 5), (.mv (.v (.int .u8 43))), none⟩]
def q_reply_Put_7 : List DOp := [
  ⟨⟨(some 16), (.fadr 0 1 .sc (.t 1)), none⟩, true, false, []⟩,
  ⟨⟨(some 17), (.load .sc 1 (.t 16)), none⟩, true, false, []⟩,
  ⟨⟨(some 18), (.conv .u8 (.t 17)), none⟩, true, false, []⟩,
  ⟨⟨(some 19), (.mv (.t 5)), none⟩, true, false, []⟩,
  ⟨⟨(some 21), (.fadr 35 1 .sc (.t 1)), none⟩, true, false, []⟩,
  ⟨⟨(some 22), (.load .sc 1 (.t 21)), none⟩, true, false, []⟩,
  ⟨⟨(some 23), (.conv .u64 (.t 22)), none⟩, true, false, []⟩,
  ⟨⟨(some 25), (.fadr 1 32 (.ia .u8 32) (.t 1)), none⟩, true, false, []⟩,
  ⟨⟨(some 26), (.slcA 32 (.t 25) none none), none⟩, true, false, []⟩,
  ⟨⟨(some 27), (.fadr 33 1 .sc (.t 1)), none⟩, true, false, []⟩,
  ⟨⟨(some 28), (.load .sc 1 (.t 27)), none⟩, true, false, []⟩,
  ⟨⟨(some 29), (.len false (.t 28)), none⟩, true, false, []⟩,
  ⟨⟨(some 30), (.conv .u64 (.t 29)), none⟩, true, false, []⟩,
  ⟨⟨(some 32), (.fadr 33 1 .sc (.t 1)), none⟩, true, false, []⟩,
  ⟨⟨(some 33), (.load .sc 1 (.t 32)), none⟩, true, false, []⟩,
  ⟨⟨(some 34), (.fadr 34 1 .sc (.t 1)), none⟩, true, false, []⟩,
  ⟨⟨(some 35), (.load .sc 1 (.t 34)), none⟩, true, false, []⟩,
  ⟨⟨(some 36), (.len false (.t 35)), none⟩, true, false, []⟩,
  ⟨⟨(some 37), (.conv .u8 (.t 36)), none⟩, true, false, []⟩,
  ⟨⟨(some 24), (.call F_word_Put [(.sc, (.t 23)), (.sc, (.v (.int .i64 6)))]), none⟩, false, true, [20, 38]⟩,
  ⟨⟨(some 31), (.call F_word_Put [(.sc, (.t 30)), (.sc, (.v (.int .i64 2)))]), none⟩, false, true, [20, 38]⟩,
  ⟨⟨(some 20), (.bslI 5 .u8 [(.v (.int .u8 65)), (.t 18), (.t 19)]), none⟩, false, false, [38]⟩,
  ⟨⟨(some 38), (.bslI 5 .u8 [(.t 37)]), none⟩, false, false, []⟩,
  ⟨⟨(some 39), (.bsl 34 .sc 1 [(.t 20), (.t 24), (.t 26), (.t 31), (.t 33), (.t 38)]), none⟩, false, false, []⟩,
  ⟨⟨(some 40), (.call F_reply_join [(.sc, (.t 39))]), none⟩, false, false, []⟩,
  ⟨⟨(some 6), (.mv (.t 40)), none⟩, true, false, []⟩]
def q_reply_Put_8 : List AOper := [
  ⟨(some 41), (.fadr 34 1 .sc (.t 1)), none⟩,
  ⟨(some 42), (.load .sc 1 (.t 41)), none⟩,
  ⟨(some 43), (.len false (.t 42)), none⟩,
  ⟨(some 44), (.mv (.v (.int .i64 0))), none⟩]
def q_reply_Put_9 : List AOper := [
  ⟨(some 45), (.bin .lss (.t 44) (.t 43)), none⟩]
def q_reply_Put_10 : List AOper := [
  ⟨(some 46), (.idx 32 (.t 42) (.t 44)), none⟩,
  ⟨(some 47), (.load (.ia .u8 32) 32 (.t 46)), none⟩,
  ⟨(some 8), (.alloc 39 [(.iarr .u8 32 (List.replicate 32 0))]), none⟩,
  ⟨none, (.store (.ia .u8 32) 32 (.t 8) (.t 47)), none⟩]
def q_reply_Put_11 : List AOper := [
  ⟨(some 48), (.mv (.t 6)), none⟩,
  ⟨(some 49), (.slcA 32 (.t 8) none none), none⟩,
  ⟨(some 50), (.appI 5 .u8 1 (.t 48) (.t 49)), none⟩,
  ⟨(some 6), (.mv (.t 50)), none⟩]
def q_reply_Put_12 : List AOper := [
  ⟨(some 51), (.bin .add (.t 44) (.v (.int .i64 1))), none⟩,
  ⟨(some 44), (.mv (.t 51)), none⟩]
def q_reply_Put_L13 : ACode := (.seq (.region q_reply_Put_9) (.seq (.cond (.t 45) .skip (.exit 0)) (.seq (.block 1 (.seq (.region q_reply_Put_10) (.region q_reply_Put_11))) (.region q_reply_Put_12))))
def q_reply_Put_13 : List AOper := [
  ⟨(some 52), (.mv (.t 6)), none⟩,
  ⟨(some 2), (.mv (.t 52)), none⟩,
  ⟨(some 3), (.mv (.v (.int .i64 0))), none⟩]
def a_reply_Put : AFunc := ⟨[(.tmp 2), (.tmp 3)], (.seq (.region q_reply_Put_0) (.seq (.seq (.region q_reply_Put_1) (.seq (.region q_reply_Put_2) (.cond (.t 12) (.seq (.region q_reply_Put_3) .ret) .skip))) (.seq (.region q_reply_Put_4) (.seq (.seq (.region q_reply_Put_5) (.cond (.t 15) (.region q_reply_Put_6) .skip)) (.seq (.regionD q_reply_Put_7) (.seq (.seq (.region q_reply_Put_8) (.block 0 (.loop q_reply_Put_L13))) (.seq (.region q_reply_Put_13) .ret)))))))⟩

def q_reply_Check_0 : List AOper := [
  ⟨(some 1), (.box 47 .ag (.t 0)), none⟩,
  ⟨(some 2), (.mv (.v (.int .i64 0))), none⟩]
def q_reply_Check_1 : List AOper := [
  ⟨(some 4), (.fadr 0 1 .sc (.t 1)), none⟩,
  ⟨(some 5), (.load .sc 1 (.t 4)), none⟩,
  ⟨(some 6), (.bin .lss (.t 5) (.v (.int .i64 0))), none⟩,
  ⟨(some 7), (.mv (.t 6)), none⟩,
  ⟨(some 8), (.fadr 0 1 .sc (.t 1)), (some (7, false))⟩,
  ⟨(some 9), (.load .sc 1 (.t 8)), (some (7, false))⟩,
  ⟨(some 10), (.bin .gtr (.t 9) (.v (.int .i64 17))), (some (7, false))⟩,
  ⟨(some 11), (.pick (.t 7) (.v (.bool true)) (.t 10)), none⟩,
  ⟨(some 12), (.mv (.t 11)), none⟩,
  ⟨(some 13), (.fadr 35 1 .sc (.t 1)), (some (12, false))⟩,
  ⟨(some 14), (.load .sc 1 (.t 13)), (some (12, false))⟩,
  ⟨(some 15), (.bin .lss (.t 14) (.v (.int .i64 0))), (some (12, false))⟩,
  ⟨(some 16), (.pick (.t 12) (.v (.bool true)) (.t 15)), none⟩,
  ⟨(some 17), (.mv (.t 16)), none⟩,
  ⟨(some 18), (.fadr 35 1 .sc (.t 1)), (some (17, false))⟩,
  ⟨(some 19), (.load .sc 1 (.t 18)), (some (17, false))⟩,
  ⟨(some 20), (.bin .gtr (.t 19) (.v (.int .i64 2199023255552))), (some (17, false))⟩,
  ⟨(some 21), (.pick (.t 17) (.v (.bool true)) (.t 20)), none⟩,
  ⟨(some 3), (.mv (.t 21)), none⟩]
def q_reply_Check_2 : List AOper := [
  ⟨(some 2), (.mv (.v (.int .i64 2))), none⟩]
def q_reply_Check_3 : List AOper := [
  ⟨(some 23), (.fadr 33 1 .sc (.t 1)), none⟩,
  ⟨(some 24), (.load .sc 1 (.t 23)), none⟩,
  ⟨(some 25), (.len false (.t 24)), none⟩,
  ⟨(some 26), (.bin .gtr (.t 25) (.v (.int .i64 16384))), none⟩,
  ⟨(some 22), (.mv (.t 26)), none⟩]
def q_reply_Check_4 : List AOper := [
  ⟨(some 2), (.mv (.v (.int .i64 15))), none⟩]
def q_reply_Check_5 : List AOper := [
  ⟨(some 28), (.fadr 34 1 .sc (.t 1)), none⟩,
  ⟨(some 29), (.load .sc 1 (.t 28)), none⟩,
  ⟨(some 30), (.len false (.t 29)), none⟩,
  ⟨(some 31), (.bin .gtr (.t 30) (.v (.int .i64 255))), none⟩,
  ⟨(some 27), (.mv (.t 31)), none⟩]
def q_reply_Check_6 : List AOper := [
  ⟨(some 2), (.mv (.v (.int .i64 7))), none⟩]
def q_reply_Check_7 : List AOper := [
  ⟨(some 2), (.mv (.v (.int .i64 0))), none⟩]
def a_reply_Check : AFunc := ⟨[(.tmp 2)], (.seq (.region q_reply_Check_0) (.seq (.block 0 (.seq (.region q_reply_Check_1) (.cond (.t 3) (.seq (.region q_reply_Check_2) .ret) (.seq (.region q_reply_Check_3) (.cond (.t 22) (.seq (.region q_reply_Check_4) .ret) (.seq (.region q_reply_Check_5) (.cond (.t 27) (.seq (.region q_reply_Check_6) .ret) .skip))))))) (.seq (.region q_reply_Check_7) .ret)))⟩

def q_reply_Short_0 : List AOper := [
  ⟨(some 2), (.mv (.v .nilS)), none⟩]
def q_reply_Short_1 : List AOper := [
  ⟨(some 6), (.mv (.t 0)), none⟩,
  ⟨(some 7), (.build .ag [(.int .i64 0), (.iarr .u8 32 (List.replicate 32 0)), .nilS, .nilS, (.int .i64 0), (.bool false)] [(0, (1, (.t 6)))]), none⟩,
  ⟨(some 8), (.call F_reply_Put [(.ag, (.t 7))]), none⟩,
  ⟨(some 5), (.mv (.t 8)), none⟩,
  ⟨(some 9), (.ext 0 (.t 5)), none⟩,
  ⟨(some 10), (.ext 1 (.t 5)), none⟩,
  ⟨(some 3), (.mv (.t 9)), none⟩,
  ⟨(some 4), (.mv (.t 10)), none⟩]
def q_reply_Short_2 : List AOper := [
  ⟨(some 11), (.mv (.t 4)), none⟩,
  ⟨(some 12), (.eq .scI true (.t 11) (.v (.int .i64 0))), none⟩]
def q_reply_Short_3 : List AOper := [
  ⟨(some 14), (.mv (.t 4)), none⟩,
  ⟨(some 15), (.build .ag [(.int .i64 0), (.iarr .u8 32 (List.replicate 32 0)), .nilS, .nilS, (.int .i64 0), (.bool false)] [(0, (1, (.t 14)))]), none⟩,
  ⟨(some 16), (.call F_reply_Put [(.ag, (.t 15))]), none⟩,
  ⟨(some 13), (.mv (.t 16)), none⟩,
  ⟨(some 17), (.ext 0 (.t 13)), none⟩,
  ⟨(some 18), (.ext 1 (.t 13)), none⟩,
  ⟨(some 3), (.mv (.t 17)), none⟩]
def q_reply_Short_4 : List AOper := [
  ⟨(some 19), (.mv (.t 3)), none⟩,
  ⟨(some 2), (.mv (.t 19)), none⟩]
def a_reply_Short : AFunc := ⟨[(.tmp 2)], (.seq (.region q_reply_Short_0) (.seq (.region q_reply_Short_1) (.seq (.seq (.region q_reply_Short_2) (.cond (.t 12) (.region q_reply_Short_3) .skip)) (.seq (.region q_reply_Short_4) .ret))))⟩

def q_reply_Get_0 : List AOper := [
  ⟨(some 2), (.alloc 47 [(.int .i64 0), (.iarr .u8 32 (List.replicate 32 0)), .nilS, .nilS, (.int .i64 0), (.bool false)]), none⟩,
  ⟨(some 3), (.mv (.v (.int .i64 0))), none⟩]
def q_reply_Get_1 : List AOper := [
  ⟨(some 4), (.mv (.v (.func (.func F_reply_Get_1) [] []))), none⟩]
def q_reply_Get_2 : List AOper := [
  ⟨(some 8), (.mv (.t 0)), none⟩,
  ⟨(some 9), (.len false (.t 8)), none⟩,
  ⟨(some 10), (.bin .lss (.t 9) (.v (.int .i64 44))), none⟩,
  ⟨(some 11), (.mv (.t 10)), none⟩,
  ⟨(some 12), (.mv (.t 0)), (some (11, false))⟩,
  ⟨(some 13), (.idx 1 (.t 12) (.v (.int .i64 0))), (some (11, false))⟩,
  ⟨(some 14), (.load .sc 1 (.t 13)), (some (11, false))⟩,
  ⟨(some 15), (.eq .scI true (.t 14) (.v (.int .u8 65))), (some (11, false))⟩,
  ⟨(some 16), (.pick (.t 11) (.v (.bool true)) (.t 15)), none⟩,
  ⟨(some 17), (.mv (.t 16)), none⟩,
  ⟨(some 18), (.mv (.t 0)), (some (17, false))⟩,
  ⟨(some 19), (.idx 1 (.t 18) (.v (.int .i64 2))), (some (17, false))⟩,
  ⟨(some 20), (.load .sc 1 (.t 19)), (some (17, false))⟩,
  ⟨(some 21), (.eq .scI true (.t 20) (.v (.int .u8 43))), (some (17, false))⟩,
  ⟨(some 22), (.mv (.t 21)), (some (17, false))⟩,
  ⟨(some 23), (.mv (.t 0)), (some (22, true))⟩,
  ⟨(some 24), (.idx 1 (.t 23) (.v (.int .i64 2))), (some (22, true))⟩,
  ⟨(some 25), (.load .sc 1 (.t 24)), (some (22, true))⟩,
  ⟨(some 26), (.eq .scI true (.t 25) (.v (.int .u8 45))), (some (22, true))⟩,
  ⟨(some 27), (.pick (.t 22) (.t 26) (.v (.bool false))), (some (17, false))⟩,
  ⟨(some 28), (.pick (.t 17) (.v (.bool true)) (.t 27)), none⟩]
def q_reply_Get_3 : List AOper := [
  ⟨(some 29), (.mv (.t 4)), none⟩,
  ⟨(some 30), (.callV (.t 29) []), none⟩,
  ⟨(some 31), (.ext 0 (.t 30)), none⟩,
  ⟨(some 32), (.ext 1 (.t 30)), none⟩,
  ⟨none, (.store .ag 37 (.t 2) (.t 31)), none⟩,
  ⟨(some 3), (.mv (.t 32)), none⟩]
def q_reply_Get_4 : List DOp := [
  ⟨⟨(some 33), (.mv (.t 0)), none⟩, true, false, []⟩,
  ⟨⟨(some 34), (.idx 1 (.t 33) (.v (.int .i64 1))), none⟩, true, false, []⟩,
  ⟨⟨(some 35), (.load .sc 1 (.t 34)), none⟩, true, false, []⟩,
  ⟨⟨(some 36), (.conv .i64 (.t 35)), none⟩, true, false, []⟩,
  ⟨⟨(some 37), (.mv (.t 0)), none⟩, true, false, []⟩,
  ⟨⟨(some 38), (.idx 1 (.t 37) (.v (.int .i64 2))), none⟩, true, false, []⟩,
  ⟨⟨(some 39), (.load .sc 1 (.t 38)), none⟩, true, false, []⟩,
  ⟨⟨(some 40), (.eq .scI false (.t 39) (.v (.int .u8 43))), none⟩, true, false, []⟩,
  ⟨⟨(some 41), (.mv (.t 0)), none⟩, true, false, []⟩,
  ⟨⟨(some 42), (.slc 1 (.t 41) (some (.v (.int .i64 3))) (some (.v (.int .i64 9)))), none⟩, true, false, []⟩,
  ⟨⟨(some 45), (.mv (.t 0)), none⟩, true, false, []⟩,
  ⟨⟨(some 46), (.slc 1 (.t 45) (some (.v (.int .i64 9))) (some (.v (.int .i64 41)))), none⟩, true, false, []⟩,
  ⟨⟨(some 47), (.s2a 32 (.t 46)), none⟩, true, false, []⟩,
  ⟨⟨(some 48), (.load (.ia .u8 32) 32 (.t 47)), none⟩, true, false, []⟩,
  ⟨⟨(some 43), (.call F_word_Get [(.sc, (.t 42))]), none⟩, false, true, []⟩,
  ⟨⟨(some 44), (.conv .i64 (.t 43)), none⟩, true, false, []⟩,
  ⟨⟨(some 49), (.build .ag [(.int .i64 0), (.iarr .u8 32 (List.replicate 32 0)), .nilS, .nilS, (.int .i64 0), (.bool false)] [(0, (1, (.t 36))), (36, (1, (.t 40))), (35, (1, (.t 44))), (1, (32, (.t 48)))]), none⟩, true, false, []⟩,
  ⟨⟨(some 5), (.alloc 47 [(.int .i64 0), (.iarr .u8 32 (List.replicate 32 0)), .nilS, .nilS, (.int .i64 0), (.bool false)]), none⟩, false, false, []⟩,
  ⟨⟨none, (.store .ag 37 (.t 5) (.t 49)), none⟩, false, false, []⟩]
def q_reply_Get_5 : List AOper := [
  ⟨(some 50), (.mv (.t 0)), none⟩,
  ⟨(some 51), (.slc 1 (.t 50) (some (.v (.int .i64 41))) (some (.v (.int .i64 43)))), none⟩,
  ⟨(some 52), (.call F_word_Get [(.sc, (.t 51))]), none⟩,
  ⟨(some 53), (.conv .i64 (.t 52)), none⟩,
  ⟨(some 6), (.mv (.t 53)), none⟩]
def q_reply_Get_6 : List AOper := [
  ⟨(some 54), (.mv (.t 0)), none⟩,
  ⟨(some 55), (.slc 1 (.t 54) (some (.v (.int .i64 43))) none), none⟩,
  ⟨(some 0), (.mv (.t 55)), none⟩]
def q_reply_Get_7 : List AOper := [
  ⟨(some 56), (.mv (.t 0)), none⟩,
  ⟨(some 57), (.len false (.t 56)), none⟩,
  ⟨(some 58), (.mv (.t 6)), none⟩,
  ⟨(some 59), (.bin .add (.t 58) (.v (.int .i64 1))), none⟩,
  ⟨(some 60), (.bin .lss (.t 57) (.t 59)), none⟩]
def q_reply_Get_8 : List AOper := [
  ⟨(some 61), (.mv (.t 4)), none⟩,
  ⟨(some 62), (.callV (.t 61) []), none⟩,
  ⟨(some 63), (.ext 0 (.t 62)), none⟩,
  ⟨(some 64), (.ext 1 (.t 62)), none⟩,
  ⟨none, (.store .ag 37 (.t 2) (.t 63)), none⟩,
  ⟨(some 3), (.mv (.t 64)), none⟩]
def q_reply_Get_9 : List AOper := [
  ⟨(some 65), (.bslI 5 .u8 []), none⟩,
  ⟨(some 66), (.mv (.t 0)), none⟩,
  ⟨(some 67), (.mv (.t 6)), none⟩,
  ⟨(some 68), (.slc 1 (.t 66) none (some (.t 67))), none⟩,
  ⟨(some 69), (.appI 5 .u8 1 (.t 65) (.t 68)), none⟩,
  ⟨(some 70), (.fadr 33 1 .sc (.t 5)), none⟩,
  ⟨none, (.store .sc 1 (.t 70) (.t 69)), none⟩]
def q_reply_Get_10 : List AOper := [
  ⟨(some 71), (.mv (.t 0)), none⟩,
  ⟨(some 72), (.mv (.t 6)), none⟩,
  ⟨(some 73), (.idx 1 (.t 71) (.t 72)), none⟩,
  ⟨(some 74), (.load .sc 1 (.t 73)), none⟩,
  ⟨(some 75), (.conv .i64 (.t 74)), none⟩,
  ⟨(some 7), (.mv (.t 75)), none⟩]
def q_reply_Get_11 : List AOper := [
  ⟨(some 76), (.mv (.t 0)), none⟩,
  ⟨(some 77), (.mv (.t 6)), none⟩,
  ⟨(some 78), (.bin .add (.t 77) (.v (.int .i64 1))), none⟩,
  ⟨(some 79), (.slc 1 (.t 76) (some (.t 78)) none), none⟩,
  ⟨(some 0), (.mv (.t 79)), none⟩]
def q_reply_Get_12 : List AOper := [
  ⟨(some 80), (.mv (.t 0)), none⟩,
  ⟨(some 81), (.len false (.t 80)), none⟩,
  ⟨(some 82), (.mv (.t 7)), none⟩,
  ⟨(some 83), (.bin .mul (.v (.int .i64 32)) (.t 82)), none⟩,
  ⟨(some 84), (.eq .scI true (.t 81) (.t 83)), none⟩]
def q_reply_Get_13 : List AOper := [
  ⟨(some 85), (.mv (.t 4)), none⟩,
  ⟨(some 86), (.callV (.t 85) []), none⟩,
  ⟨(some 87), (.ext 0 (.t 86)), none⟩,
  ⟨(some 88), (.ext 1 (.t 86)), none⟩,
  ⟨none, (.store .ag 37 (.t 2) (.t 87)), none⟩,
  ⟨(some 3), (.mv (.t 88)), none⟩]
def q_reply_Get_14 : List AOper := [
  ⟨(some 89), (.mv (.t 7)), none⟩,
  ⟨(some 90), (.mv (.v (.int .i64 0))), none⟩]
def q_reply_Get_15 : List AOper := [
  ⟨(some 91), (.bin .lss (.t 90) (.t 89)), none⟩]
def q_reply_Get_16 : List DOp := [
  ⟨⟨(some 92), (.fadr 34 1 .sc (.t 5)), none⟩, true, false, []⟩,
  ⟨⟨(some 93), (.load .sc 1 (.t 92)), none⟩, true, false, []⟩,
  ⟨⟨(some 94), (.mv (.t 0)), none⟩, true, false, []⟩,
  ⟨⟨(some 95), (.slc 1 (.t 94) none (some (.v (.int .i64 32)))), none⟩, true, false, []⟩,
  ⟨⟨(some 96), (.s2a 32 (.t 95)), none⟩, true, false, []⟩,
  ⟨⟨(some 97), (.load (.ia .u8 32) 32 (.t 96)), none⟩, true, false, []⟩,
  ⟨⟨(some 98), (.bsl 39 (.ia .u8 32) 32 [(.t 97)]), none⟩, false, false, []⟩,
  ⟨⟨(some 99), (.app 39 32 32 (.t 93) (.t 98)), none⟩, false, false, []⟩,
  ⟨⟨(some 100), (.fadr 34 1 .sc (.t 5)), none⟩, true, false, []⟩,
  ⟨⟨none, (.store .sc 1 (.t 100) (.t 99)), none⟩, false, false, []⟩]
def q_reply_Get_17 : List AOper := [
  ⟨(some 101), (.mv (.t 0)), none⟩,
  ⟨(some 102), (.slc 1 (.t 101) (some (.v (.int .i64 32))) none), none⟩,
  ⟨(some 0), (.mv (.t 102)), none⟩]
def q_reply_Get_18 : List AOper := [
  ⟨(some 103), (.bin .add (.t 90) (.v (.int .i64 1))), none⟩,
  ⟨(some 90), (.mv (.t 103)), none⟩]
def q_reply_Get_L19 : ACode := (.seq (.region q_reply_Get_15) (.seq (.cond (.t 91) .skip (.exit 0)) (.seq (.block 1 (.seq (.regionD q_reply_Get_16) (.region q_reply_Get_17))) (.region q_reply_Get_18))))
def q_reply_Get_19 : List AOper := [
  ⟨(some 104), (.load .ag 37 (.t 5)), none⟩,
  ⟨(some 105), (.call F_reply_Check [(.ag, (.t 104))]), none⟩,
  ⟨(some 106), (.eq .scI true (.t 105) (.v (.int .i64 0))), none⟩]
def q_reply_Get_20 : List AOper := [
  ⟨(some 107), (.mv (.t 4)), none⟩,
  ⟨(some 108), (.callV (.t 107) []), none⟩,
  ⟨(some 109), (.ext 0 (.t 108)), none⟩,
  ⟨(some 110), (.ext 1 (.t 108)), none⟩,
  ⟨none, (.store .ag 37 (.t 2) (.t 109)), none⟩,
  ⟨(some 3), (.mv (.t 110)), none⟩]
def q_reply_Get_21 : List AOper := [
  ⟨(some 111), (.load .ag 37 (.t 5)), none⟩,
  ⟨none, (.store .ag 37 (.t 2) (.t 111)), none⟩,
  ⟨(some 3), (.mv (.v (.int .i64 0))), none⟩]
def a_reply_Get : AFunc := ⟨[(.cell 2 .ag 37), (.tmp 3)], (.seq (.region q_reply_Get_0) (.seq (.region q_reply_Get_1) (.seq (.seq (.region q_reply_Get_2) (.cond (.t 28) (.seq (.region q_reply_Get_3) .ret) .skip)) (.seq (.regionD q_reply_Get_4) (.seq (.region q_reply_Get_5) (.seq (.region q_reply_Get_6) (.seq (.seq (.region q_reply_Get_7) (.cond (.t 60) (.seq (.region q_reply_Get_8) .ret) .skip)) (.seq (.region q_reply_Get_9) (.seq (.region q_reply_Get_10) (.seq (.region q_reply_Get_11) (.seq (.seq (.region q_reply_Get_12) (.cond (.t 84) (.seq (.region q_reply_Get_13) .ret) .skip)) (.seq (.seq (.region q_reply_Get_14) (.block 0 (.loop q_reply_Get_L19))) (.seq (.seq (.region q_reply_Get_19) (.cond (.t 106) (.seq (.region q_reply_Get_20) .ret) .skip)) (.seq (.region q_reply_Get_21) .ret))))))))))))))⟩

def q_reply_join_0 : List AOper := [
  ⟨(some 2), (.mv (.v .nilS)), none⟩]
def q_reply_join_1 : List AOper := [
  ⟨(some 3), (.mv (.v .nilS)), none⟩]
def q_reply_join_2 : List AOper := [
  ⟨(some 6), (.mv (.t 0)), none⟩,
  ⟨(some 7), (.len false (.t 6)), none⟩,
  ⟨(some 8), (.mv (.v (.int .i64 0))), none⟩]
def q_reply_join_3 : List AOper := [
  ⟨(some 9), (.bin .lss (.t 8) (.t 7)), none⟩]
def q_reply_join_4 : List AOper := [
  ⟨(some 10), (.idx 1 (.t 6) (.t 8)), none⟩,
  ⟨(some 11), (.load .sc 1 (.t 10)), none⟩,
  ⟨(some 5), (.mv (.t 11)), none⟩]
def q_reply_join_5 : List AOper := [
  ⟨(some 12), (.mv (.t 3)), none⟩,
  ⟨(some 13), (.mv (.t 5)), none⟩,
  ⟨(some 14), (.appI 5 .u8 1 (.t 12) (.t 13)), none⟩,
  ⟨(some 3), (.mv (.t 14)), none⟩]
def q_reply_join_6 : List AOper := [
  ⟨(some 15), (.bin .add (.t 8) (.v (.int .i64 1))), none⟩,
  ⟨(some 8), (.mv (.t 15)), none⟩]
def q_reply_join_L7 : ACode := (.seq (.region q_reply_join_3) (.seq (.cond (.t 9) .skip (.exit 0)) (.seq (.block 1 (.seq (.region q_reply_join_4) (.region q_reply_join_5))) (.region q_reply_join_6))))
def q_reply_join_7 : List AOper := [
  ⟨(some 16), (.mv (.t 3)), none⟩,
  ⟨(some 2), (.mv (.t 16)), none⟩]
def a_reply_join : AFunc := ⟨[(.tmp 2)], (.seq (.region q_reply_join_0) (.seq (.region q_reply_join_1) (.seq (.seq (.region q_reply_join_2) (.block 0 (.loop q_reply_join_L7))) (.seq (.region q_reply_join_7) .ret))))⟩

def q_reply_Get_1_0 : List AOper := [
  ⟨(some 0), (.alloc 47 [(.int .i64 0), (.iarr .u8 32 (List.replicate 32 0)), .nilS, .nilS, (.int .i64 0), (.bool false)]), none⟩,
  ⟨(some 1), (.mv (.v (.int .i64 0))), none⟩]
def q_reply_Get_1_1 : List AOper := [
  ⟨(some 2), (.build .ag [(.int .i64 0), (.iarr .u8 32 (List.replicate 32 0)), .nilS, .nilS, (.int .i64 0), (.bool false)] []), none⟩,
  ⟨none, (.store .ag 37 (.t 0) (.t 2)), none⟩,
  ⟨(some 1), (.mv (.v (.int .i64 3))), none⟩]
def a_reply_Get_1 : AFunc := ⟨[(.cell 0 .ag 37), (.tmp 1)], (.seq (.region q_reply_Get_1_0) (.seq (.region q_reply_Get_1_1) .ret))⟩

def q_ref25_Put_0 : List AOper := [
  ⟨(some 1), (.box 47 .ag (.t 0)), none⟩,
  ⟨(some 2), (.mv (.v .nilS)), none⟩,
  ⟨(some 3), (.mv (.v (.int .i64 0))), none⟩]
def q_ref25_Put_1 : List AOper := [
  ⟨(some 7), (.load .ag 37 (.t 1)), none⟩,
  ⟨(some 8), (.call F_ref25_Check [(.ag, (.t 7))]), none⟩,
  ⟨(some 4), (.mv (.t 8)), none⟩]
def q_ref25_Put_2 : List AOper := [
  ⟨(some 9), (.mv (.t 4)), none⟩,
  ⟨(some 10), (.eq .scI true (.t 9) (.v (.int .i64 0))), none⟩]
def q_ref25_Put_3 : List AOper := [
  ⟨(some 11), (.mv (.t 4)), none⟩,
  ⟨(some 2), (.mv (.v .nilS)), none⟩,
  ⟨(some 3), (.mv (.t 11)), none⟩]
def q_ref25_Put_4 : List AOper := [
  ⟨(some 12), (.fadr 0 1 .sc (.t 1)), none⟩,
  ⟨(some 13), (.load .sc 1 (.t 12)), none⟩,
  ⟨(some 14), (.conv .u8 (.t 13)), none⟩,
  ⟨(some 15), (.bslI 5 .u8 [(.v (.int .u8 65)), (.t 14), (.v (.int .u8 45))]), none⟩,
  ⟨(some 5), (.mv (.t 15)), none⟩]
def q_ref25_Put_5 : List AOper := [
  ⟨(some 16), (.fadr 36 1 .sc (.t 1)), none⟩,
  ⟨(some 17), (.load .sc 1 (.t 16)), none⟩]
def q_ref25_Put_6 : List AOper := [
  ⟨(some 18), (.fadr 0 1 .sc (.t 1)), none⟩,
  ⟨(some 19), (.load .sc 1 (.t 18)), none⟩,
  ⟨(some 20), (.conv .u8 (.t 19)), none⟩,
  ⟨(some 21), (.bslI 5 .u8 [(.v (.int .u8 65)), (.t 20), (.v (.int .u8 43))]), none⟩,
  ⟨(some 5), (.mv (.t 21)), none⟩]
def q_ref25_Put_7 : List AOper := [
  ⟨(some 22), (.mv (.t 5)), none⟩,
  ⟨(some 23), (.fadr 35 1 .sc (.t 1)), none⟩,
  ⟨(some 24), (.load .sc 1 (.t 23)), none⟩,
  ⟨(some 25), (.conv .u64 (.t 24)), none⟩,
  ⟨(some 26), (.call F_ref01_Put [(.sc, (.t 25)), (.sc, (.v (.int .i64 6)))]), none⟩,
  ⟨(some 27), (.appI 5 .u8 1 (.t 22) (.t 26)), none⟩,
  ⟨(some 5), (.mv (.t 27)), none⟩]
def q_ref25_Put_8 : List AOper := [
  ⟨(some 28), (.mv (.t 5)), none⟩,
  ⟨(some 29), (.fadr 1 32 (.ia .u8 32) (.t 1)), none⟩,
  ⟨(some 30), (.load (.ia .u8 32) 32 (.t 29)), none⟩,
  ⟨(some 31), (.call F_ref25_addr [(.sc, (.t 28)), ((.ia .u8 32), (.t 30))]), none⟩,
  ⟨(some 5), (.mv (.t 31)), none⟩]
def q_ref25_Put_9 : List AOper := [
  ⟨(some 32), (.mv (.t 5)), none⟩,
  ⟨(some 33), (.fadr 33 1 .sc (.t 1)), none⟩,
  ⟨(some 34), (.load .sc 1 (.t 33)), none⟩,
  ⟨(some 35), (.len false (.t 34)), none⟩,
  ⟨(some 36), (.conv .u64 (.t 35)), none⟩,
  ⟨(some 37), (.call F_ref01_Put [(.sc, (.t 36)), (.sc, (.v (.int .i64 2)))]), none⟩,
  ⟨(some 38), (.appI 5 .u8 1 (.t 32) (.t 37)), none⟩,
  ⟨(some 5), (.mv (.t 38)), none⟩]
def q_ref25_Put_10 : List AOper := [
  ⟨(some 39), (.mv (.t 5)), none⟩,
  ⟨(some 40), (.fadr 33 1 .sc (.t 1)), none⟩,
  ⟨(some 41), (.load .sc 1 (.t 40)), none⟩,
  ⟨(some 42), (.appI 5 .u8 1 (.t 39) (.t 41)), none⟩,
  ⟨(some 5), (.mv (.t 42)), none⟩]
def q_ref25_Put_11 : List AOper := [
  ⟨(some 43), (.mv (.t 5)), none⟩,
  ⟨(some 44), (.fadr 34 1 .sc (.t 1)), none⟩,
  ⟨(some 45), (.load .sc 1 (.t 44)), none⟩,
  ⟨(some 46), (.len false (.t 45)), none⟩,
  ⟨(some 47), (.conv .u8 (.t 46)), none⟩,
  ⟨(some 48), (.bslI 5 .u8 [(.t 47)]), none⟩,
  ⟨(some 49), (.appI 5 .u8 1 (.t 43) (.t 48)), none⟩,
  ⟨(some 5), (.mv (.t 49)), none⟩]
def q_ref25_Put_12 : List AOper := [
  ⟨(some 6), (.mv (.v (.int .i64 0))), none⟩]
def q_ref25_Put_13 : List AOper := [
  ⟨(some 50), (.mv (.t 6)), none⟩,
  ⟨(some 51), (.fadr 34 1 .sc (.t 1)), none⟩,
  ⟨(some 52), (.load .sc 1 (.t 51)), none⟩,
  ⟨(some 53), (.len false (.t 52)), none⟩,
  ⟨(some 54), (.bin .lss (.t 50) (.t 53)), none⟩]
def q_ref25_Put_14 : List AOper := [
  ⟨(some 57), (.mv (.t 5)), none⟩,
  ⟨(some 58), (.fadr 34 1 .sc (.t 1)), none⟩,
  ⟨(some 59), (.load .sc 1 (.t 58)), none⟩,
  ⟨(some 60), (.mv (.t 6)), none⟩,
  ⟨(some 61), (.idx 32 (.t 59) (.t 60)), none⟩,
  ⟨(some 62), (.load (.ia .u8 32) 32 (.t 61)), none⟩,
  ⟨(some 63), (.call F_ref25_addr [(.sc, (.t 57)), ((.ia .u8 32), (.t 62))]), none⟩,
  ⟨(some 5), (.mv (.t 63)), none⟩]
def q_ref25_Put_15 : List AOper := [
  ⟨(some 55), (.mv (.t 6)), none⟩,
  ⟨(some 56), (.bin .add (.t 55) (.v (.int .i64 1))), none⟩,
  ⟨(some 6), (.mv (.t 56)), none⟩]
def q_ref25_Put_L16 : ACode := (.seq (.seq (.region q_ref25_Put_13) (.cond (.t 54) .skip (.exit 0))) (.seq (.block 1 (.region q_ref25_Put_14)) (.region q_ref25_Put_15)))
def q_ref25_Put_16 : List AOper := [
  ⟨(some 64), (.mv (.t 5)), none⟩,
  ⟨(some 2), (.mv (.t 64)), none⟩,
  ⟨(some 3), (.mv (.v (.int .i64 0))), none⟩]
def a_ref25_Put : AFunc := ⟨[(.tmp 2), (.tmp 3)], (.seq (.region q_ref25_Put_0) (.seq (.seq (.region q_ref25_Put_1) (.seq (.region q_ref25_Put_2) (.cond (.t 10) (.seq (.region q_ref25_Put_3) .ret) .skip))) (.seq (.region q_ref25_Put_4) (.seq (.seq (.region q_ref25_Put_5) (.cond (.t 17) (.region q_ref25_Put_6) .skip)) (.seq (.region q_ref25_Put_7) (.seq (.region q_ref25_Put_8) (.seq (.region q_ref25_Put_9) (.seq (.region q_ref25_Put_10) (.seq (.region q_ref25_Put_11) (.seq (.seq (.region q_ref25_Put_12) (.block 0 (.loop q_ref25_Put_L16))) (.seq (.region q_ref25_Put_16) .ret)))))))))))⟩

def q_ref25_Check_0 : List AOper := [
  ⟨(some 1), (.box 47 .ag (.t 0)), none⟩,
  ⟨(some 2), (.mv (.v (.int .i64 0))), none⟩]
def q_ref25_Check_1 : List AOper := [
  ⟨(some 3), (.fadr 0 1 .sc (.t 1)), none⟩,
  ⟨(some 4), (.load .sc 1 (.t 3)), none⟩,
  ⟨(some 5), (.bin .lss (.t 4) (.v (.int .i64 0))), none⟩,
  ⟨(some 6), (.mv (.t 5)), none⟩,
  ⟨(some 7), (.fadr 0 1 .sc (.t 1)), (some (6, false))⟩,
  ⟨(some 8), (.load .sc 1 (.t 7)), (some (6, false))⟩,
  ⟨(some 9), (.bin .gtr (.t 8) (.v (.int .i64 17))), (some (6, false))⟩,
  ⟨(some 10), (.pick (.t 6) (.v (.bool true)) (.t 9)), none⟩,
  ⟨(some 11), (.mv (.t 10)), none⟩,
  ⟨(some 12), (.fadr 35 1 .sc (.t 1)), (some (11, false))⟩,
  ⟨(some 13), (.load .sc 1 (.t 12)), (some (11, false))⟩,
  ⟨(some 14), (.bin .lss (.t 13) (.v (.int .i64 0))), (some (11, false))⟩,
  ⟨(some 15), (.pick (.t 11) (.v (.bool true)) (.t 14)), none⟩,
  ⟨(some 16), (.mv (.t 15)), none⟩,
  ⟨(some 17), (.fadr 35 1 .sc (.t 1)), (some (16, false))⟩,
  ⟨(some 18), (.load .sc 1 (.t 17)), (some (16, false))⟩,
  ⟨(some 19), (.bin .gtr (.t 18) (.v (.int .i64 2199023255552))), (some (16, false))⟩,
  ⟨(some 20), (.pick (.t 16) (.v (.bool true)) (.t 19)), none⟩]
def q_ref25_Check_2 : List AOper := [
  ⟨(some 2), (.mv (.v (.int .i64 2))), none⟩]
def q_ref25_Check_3 : List AOper := [
  ⟨(some 21), (.fadr 33 1 .sc (.t 1)), none⟩,
  ⟨(some 22), (.load .sc 1 (.t 21)), none⟩,
  ⟨(some 23), (.len false (.t 22)), none⟩,
  ⟨(some 24), (.bin .gtr (.t 23) (.v (.int .i64 16384))), none⟩]
def q_ref25_Check_4 : List AOper := [
  ⟨(some 2), (.mv (.v (.int .i64 15))), none⟩]
def q_ref25_Check_5 : List AOper := [
  ⟨(some 25), (.fadr 34 1 .sc (.t 1)), none⟩,
  ⟨(some 26), (.load .sc 1 (.t 25)), none⟩,
  ⟨(some 27), (.len false (.t 26)), none⟩,
  ⟨(some 28), (.bin .gtr (.t 27) (.v (.int .i64 255))), none⟩]
def q_ref25_Check_6 : List AOper := [
  ⟨(some 2), (.mv (.v (.int .i64 7))), none⟩]
def q_ref25_Check_7 : List AOper := [
  ⟨(some 2), (.mv (.v (.int .i64 0))), none⟩]
def a_ref25_Check : AFunc := ⟨[(.tmp 2)], (.seq (.region q_ref25_Check_0) (.seq (.seq (.region q_ref25_Check_1) (.cond (.t 20) (.seq (.region q_ref25_Check_2) .ret) .skip)) (.seq (.seq (.region q_ref25_Check_3) (.cond (.t 24) (.seq (.region q_ref25_Check_4) .ret) .skip)) (.seq (.seq (.region q_ref25_Check_5) (.cond (.t 28) (.seq (.region q_ref25_Check_6) .ret) .skip)) (.seq (.region q_ref25_Check_7) .ret)))))⟩

def q_ref25_Bytes_0 : List AOper := [
  ⟨(some 1), (.box 47 .ag (.t 0)), none⟩,
  ⟨(some 2), (.mv (.v .nilS)), none⟩]
def q_ref25_Bytes_1 : List AOper := [
  ⟨(some 8), (.load .ag 37 (.t 1)), none⟩,
  ⟨(some 9), (.call F_ref25_Put [(.ag, (.t 8))]), none⟩,
  ⟨(some 7), (.mv (.t 9)), none⟩,
  ⟨(some 10), (.ext 0 (.t 7)), none⟩,
  ⟨(some 11), (.ext 1 (.t 7)), none⟩,
  ⟨(some 3), (.mv (.t 10)), none⟩,
  ⟨(some 4), (.mv (.t 11)), none⟩]
def q_ref25_Bytes_2 : List AOper := [
  ⟨(some 12), (.mv (.t 4)), none⟩,
  ⟨(some 13), (.eq .scI false (.t 12) (.v (.int .i64 0))), none⟩]
def q_ref25_Bytes_3 : List AOper := [
  ⟨(some 14), (.mv (.t 3)), none⟩,
  ⟨(some 2), (.mv (.t 14)), none⟩]
def q_ref25_Bytes_4 : List AOper := [
  ⟨(some 16), (.mv (.t 4)), none⟩,
  ⟨(some 17), (.build .ag [(.int .i64 0), (.iarr .u8 32 (List.replicate 32 0)), .nilS, .nilS, (.int .i64 0), (.bool false)] [(0, (1, (.t 16)))]), none⟩,
  ⟨(some 18), (.call F_ref25_Put [(.ag, (.t 17))]), none⟩,
  ⟨(some 15), (.mv (.t 18)), none⟩,
  ⟨(some 19), (.ext 0 (.t 15)), none⟩,
  ⟨(some 20), (.ext 1 (.t 15)), none⟩,
  ⟨(some 5), (.mv (.t 19)), none⟩,
  ⟨(some 6), (.mv (.t 20)), none⟩]
def q_ref25_Bytes_5 : List AOper := [
  ⟨(some 21), (.mv (.t 5)), none⟩,
  ⟨(some 2), (.mv (.t 21)), none⟩]
def a_ref25_Bytes : AFunc := ⟨[(.tmp 2)], (.seq (.region q_ref25_Bytes_0) (.seq (.region q_ref25_Bytes_1) (.seq (.seq (.region q_ref25_Bytes_2) (.cond (.t 13) (.seq (.region q_ref25_Bytes_3) .ret) .skip)) (.seq (.region q_ref25_Bytes_4) (.seq (.region q_ref25_Bytes_5) .ret)))))⟩

def q_ref25_addr_0 : List AOper := [
  ⟨(some 3), (.box 39 (.ia .u8 32) (.t 1)), none⟩,
  ⟨(some 4), (.mv (.v .nilS)), none⟩]
def q_ref25_addr_1 : List AOper := [
  ⟨(some 7), (.mv (.t 0)), none⟩,
  ⟨(some 5), (.mv (.t 7)), none⟩]
def q_ref25_addr_2 : List AOper := [
  ⟨(some 6), (.mv (.v (.int .i64 0))), none⟩]
def q_ref25_addr_3 : List AOper := [
  ⟨(some 8), (.mv (.t 6)), none⟩,
  ⟨(some 9), (.bin .lss (.t 8) (.v (.int .i64 32))), none⟩]
def q_ref25_addr_4 : List AOper := [
  ⟨(some 12), (.mv (.t 5)), none⟩,
  ⟨(some 13), (.mv (.t 6)), none⟩,
  ⟨(some 14), (.idxA 32 1 true (.t 3) (.t 13)), none⟩,
  ⟨(some 15), (.load .sc 1 (.t 14)), none⟩,
  ⟨(some 16), (.bslI 5 .u8 [(.t 15)]), none⟩,
  ⟨(some 17), (.appI 5 .u8 1 (.t 12) (.t 16)), none⟩,
  ⟨(some 5), (.mv (.t 17)), none⟩]
def q_ref25_addr_5 : List AOper := [
  ⟨(some 10), (.mv (.t 6)), none⟩,
  ⟨(some 11), (.bin .add (.t 10) (.v (.int .i64 1))), none⟩,
  ⟨(some 6), (.mv (.t 11)), none⟩]
def q_ref25_addr_L6 : ACode := (.seq (.seq (.region q_ref25_addr_3) (.cond (.t 9) .skip (.exit 0))) (.seq (.block 1 (.region q_ref25_addr_4)) (.region q_ref25_addr_5)))
def q_ref25_addr_6 : List AOper := [
  ⟨(some 18), (.mv (.t 5)), none⟩,
  ⟨(some 4), (.mv (.t 18)), none⟩]
def a_ref25_addr : AFunc := ⟨[(.tmp 4)], (.seq (.region q_ref25_addr_0) (.seq (.region q_ref25_addr_1) (.seq (.seq (.region q_ref25_addr_2) (.block 0 (.loop q_ref25_addr_L6))) (.seq (.region q_ref25_addr_6) .ret))))⟩

def q_law25_ReplyPuts_0 : List AOper := [
  ⟨(some 2), (.box 47 .ag (.t 0)), none⟩,
  ⟨(some 4), (.mv (.v (.bool false))), none⟩]
def q_law25_ReplyPuts_1 : List AOper := [
  ⟨(some 9), (.load .ag 37 (.t 2)), none⟩,
  ⟨(some 10), (.call F_law25_light [(.ag, (.t 9))]), none⟩,
  ⟨(some 11), (.un .not (.t 10)), none⟩]
def q_law25_ReplyPuts_2 : List AOper := [
  ⟨(some 12), (.call F_law25_works []), none⟩,
  ⟨(some 4), (.mv (.t 12)), none⟩]
def q_law25_ReplyPuts_3 : List AOper := [
  ⟨(some 14), (.load .ag 37 (.t 2)), none⟩,
  ⟨(some 15), (.call F_reply_Put [(.ag, (.t 14))]), none⟩,
  ⟨(some 13), (.mv (.t 15)), none⟩,
  ⟨(some 16), (.ext 0 (.t 13)), none⟩,
  ⟨(some 17), (.ext 1 (.t 13)), none⟩,
  ⟨(some 5), (.mv (.t 16)), none⟩,
  ⟨(some 6), (.mv (.t 17)), none⟩]
def q_law25_ReplyPuts_4 : List AOper := [
  ⟨(some 19), (.load .ag 37 (.t 2)), none⟩,
  ⟨(some 20), (.call F_ref25_Put [(.ag, (.t 19))]), none⟩,
  ⟨(some 18), (.mv (.t 20)), none⟩,
  ⟨(some 21), (.ext 0 (.t 18)), none⟩,
  ⟨(some 22), (.ext 1 (.t 18)), none⟩,
  ⟨(some 7), (.mv (.t 21)), none⟩,
  ⟨(some 8), (.mv (.t 22)), none⟩]
def q_law25_ReplyPuts_5 : List DOp := [
  ⟨⟨(some 23), (.mv (.t 5)), none⟩, true, false, []⟩,
  ⟨⟨(some 24), (.mv (.t 7)), none⟩, true, false, []⟩,
  ⟨⟨(some 25), (.call F_ref01_Same [(.sc, (.t 23)), (.sc, (.t 24))]), none⟩, false, false, []⟩,
  ⟨⟨(some 26), (.mv (.t 25)), none⟩, true, false, []⟩,
  ⟨⟨(some 27), (.mv (.t 6)), (some (26, true))⟩, true, false, []⟩,
  ⟨⟨(some 28), (.mv (.t 8)), (some (26, true))⟩, true, false, []⟩,
  ⟨⟨(some 29), (.eq .scI false (.t 27) (.t 28)), (some (26, true))⟩, true, false, []⟩,
  ⟨⟨(some 30), (.pick (.t 26) (.t 29) (.v (.bool false))), none⟩, true, false, []⟩,
  ⟨⟨(some 31), (.mv (.t 30)), none⟩, true, false, []⟩,
  ⟨⟨(some 32), (.load .ag 37 (.t 2)), (some (31, true))⟩, true, false, []⟩,
  ⟨⟨(some 34), (.load .ag 37 (.t 2)), (some (31, true))⟩, true, false, []⟩,
  ⟨⟨(some 33), (.call F_reply_Check [(.ag, (.t 32))]), (some (31, true))⟩, false, true, []⟩,
  ⟨⟨(some 35), (.call F_ref25_Check [(.ag, (.t 34))]), (some (31, true))⟩, false, false, []⟩,
  ⟨⟨(some 36), (.eq .scI false (.t 33) (.t 35)), (some (31, true))⟩, true, false, []⟩,
  ⟨⟨(some 37), (.pick (.t 31) (.t 36) (.v (.bool false))), none⟩, true, false, []⟩,
  ⟨⟨(some 38), (.mv (.t 37)), none⟩, true, false, []⟩,
  ⟨⟨(some 39), (.mv (.t 1)), (some (38, true))⟩, true, false, []⟩,
  ⟨⟨(some 41), (.mv (.t 1)), (some (38, true))⟩, true, false, []⟩,
  ⟨⟨(some 42), (.build .ag [(.int .i64 0), (.iarr .u8 32 (List.replicate 32 0)), .nilS, .nilS, (.int .i64 0), (.bool false)] [(0, (1, (.t 41)))]), (some (38, true))⟩, true, false, []⟩,
  ⟨⟨(some 40), (.call F_reply_Short [(.sc, (.t 39))]), (some (38, true))⟩, false, false, []⟩,
  ⟨⟨(some 43), (.call F_ref25_Bytes [(.ag, (.t 42))]), (some (38, true))⟩, false, false, []⟩,
  ⟨⟨(some 44), (.call F_ref01_Same [(.sc, (.t 40)), (.sc, (.t 43))]), (some (38, true))⟩, false, false, []⟩,
  ⟨⟨(some 45), (.pick (.t 38) (.t 44) (.v (.bool false))), none⟩, true, false, []⟩,
  ⟨⟨(some 46), (.mv (.t 45)), none⟩, true, false, []⟩,
  ⟨⟨(some 47), (.call F_law25_works []), (some (46, true))⟩, false, false, []⟩,
  ⟨⟨(some 48), (.pick (.t 46) (.t 47) (.v (.bool false))), none⟩, true, false, []⟩,
  ⟨⟨(some 4), (.mv (.t 48)), none⟩, true, false, []⟩]
def a_law25_ReplyPuts : AFunc := ⟨[(.tmp 4)], (.seq (.region q_law25_ReplyPuts_0) (.seq (.seq (.region q_law25_ReplyPuts_1) (.cond (.t 11) (.seq (.region q_law25_ReplyPuts_2) .ret) .skip)) (.seq (.region q_law25_ReplyPuts_3) (.seq (.region q_law25_ReplyPuts_4) (.seq (.regionD q_law25_ReplyPuts_5) .ret)))))⟩

def q_law25_ReplyBack_0 : List AOper := [
  ⟨(some 2), (.box 47 .ag (.t 0)), none⟩,
  ⟨(some 3), (.box 47 .ag (.t 1)), none⟩,
  ⟨(some 4), (.mv (.v (.bool false))), none⟩]
def q_law25_ReplyBack_1 : List AOper := [
  ⟨(some 11), (.load .ag 37 (.t 2)), none⟩,
  ⟨(some 12), (.call F_law25_light [(.ag, (.t 11))]), none⟩,
  ⟨(some 13), (.un .not (.t 12)), none⟩,
  ⟨(some 14), (.mv (.t 13)), none⟩,
  ⟨(some 15), (.load .ag 37 (.t 3)), (some (14, false))⟩,
  ⟨(some 16), (.call F_law25_light [(.ag, (.t 15))]), (some (14, false))⟩,
  ⟨(some 17), (.un .not (.t 16)), (some (14, false))⟩,
  ⟨(some 18), (.pick (.t 14) (.v (.bool true)) (.t 17)), none⟩]
def q_law25_ReplyBack_2 : List AOper := [
  ⟨(some 19), (.call F_law25_works []), none⟩,
  ⟨(some 4), (.mv (.t 19)), none⟩]
def q_law25_ReplyBack_3 : List AOper := [
  ⟨(some 21), (.load .ag 37 (.t 2)), none⟩,
  ⟨(some 22), (.call F_reply_Put [(.ag, (.t 21))]), none⟩,
  ⟨(some 20), (.mv (.t 22)), none⟩,
  ⟨(some 23), (.ext 0 (.t 20)), none⟩,
  ⟨(some 24), (.ext 1 (.t 20)), none⟩,
  ⟨(some 5), (.mv (.t 23)), none⟩,
  ⟨(some 6), (.mv (.t 24)), none⟩]
def q_law25_ReplyBack_4 : List AOper := [
  ⟨(some 25), (.mv (.t 6)), none⟩,
  ⟨(some 26), (.eq .scI true (.t 25) (.v (.int .i64 0))), none⟩]
def q_law25_ReplyBack_5 : List AOper := [
  ⟨(some 27), (.call F_law25_works []), none⟩,
  ⟨(some 4), (.mv (.t 27)), none⟩]
def q_law25_ReplyBack_6 : List AOper := [
  ⟨(some 29), (.mv (.t 5)), none⟩,
  ⟨(some 30), (.call F_reply_Get [(.sc, (.t 29))]), none⟩,
  ⟨(some 28), (.mv (.t 30)), none⟩,
  ⟨(some 31), (.ext 0 (.t 28)), none⟩,
  ⟨(some 32), (.ext 1 (.t 28)), none⟩,
  ⟨(some 7), (.alloc 47 [(.int .i64 0), (.iarr .u8 32 (List.replicate 32 0)), .nilS, .nilS, (.int .i64 0), (.bool false)]), none⟩,
  ⟨none, (.store .ag 37 (.t 7) (.t 31)), none⟩,
  ⟨(some 8), (.mv (.t 32)), none⟩]
def q_law25_ReplyBack_7 : List AOper := [
  ⟨(some 33), (.mv (.t 8)), none⟩,
  ⟨(some 34), (.eq .scI true (.t 33) (.v (.int .i64 0))), none⟩,
  ⟨(some 35), (.mv (.t 34)), none⟩,
  ⟨(some 36), (.load .ag 37 (.t 2)), (some (35, false))⟩,
  ⟨(some 37), (.load .ag 37 (.t 7)), (some (35, false))⟩,
  ⟨(some 38), (.call F_ref21_Same [(.ag, (.t 36)), (.ag, (.t 37))]), (some (35, false))⟩,
  ⟨(some 39), (.un .not (.t 38)), (some (35, false))⟩,
  ⟨(some 40), (.pick (.t 35) (.v (.bool true)) (.t 39)), none⟩]
def q_law25_ReplyBack_8 : List AOper := [
  ⟨(some 4), (.mv (.v (.bool false))), none⟩]
def q_law25_ReplyBack_9 : List AOper := [
  ⟨(some 42), (.load .ag 37 (.t 3)), none⟩,
  ⟨(some 43), (.call F_reply_Put [(.ag, (.t 42))]), none⟩,
  ⟨(some 41), (.mv (.t 43)), none⟩,
  ⟨(some 44), (.ext 0 (.t 41)), none⟩,
  ⟨(some 45), (.ext 1 (.t 41)), none⟩,
  ⟨(some 9), (.mv (.t 44)), none⟩,
  ⟨(some 10), (.mv (.t 45)), none⟩]
def q_law25_ReplyBack_10 : List DOp := [
  ⟨⟨(some 46), (.mv (.t 10)), none⟩, true, false, []⟩,
  ⟨⟨(some 47), (.eq .scI true (.t 46) (.v (.int .i64 0))), none⟩, true, false, []⟩,
  ⟨⟨(some 48), (.mv (.t 47)), none⟩, true, false, []⟩,
  ⟨⟨(some 49), (.mv (.t 5)), (some (48, false))⟩, true, false, []⟩,
  ⟨⟨(some 50), (.mv (.t 9)), (some (48, false))⟩, true, false, []⟩,
  ⟨⟨(some 52), (.load .ag 37 (.t 2)), (some (48, false))⟩, true, false, []⟩,
  ⟨⟨(some 53), (.load .ag 37 (.t 3)), (some (48, false))⟩, true, false, []⟩,
  ⟨⟨(some 51), (.call F_ref01_Same [(.sc, (.t 49)), (.sc, (.t 50))]), (some (48, false))⟩, false, true, []⟩,
  ⟨⟨(some 54), (.call F_ref21_Same [(.ag, (.t 52)), (.ag, (.t 53))]), (some (48, false))⟩, false, false, []⟩,
  ⟨⟨(some 55), (.eq .scB false (.t 51) (.t 54)), (some (48, false))⟩, true, false, []⟩,
  ⟨⟨(some 56), (.pick (.t 48) (.v (.bool true)) (.t 55)), none⟩, true, false, []⟩,
  ⟨⟨(some 57), (.mv (.t 56)), none⟩, true, false, []⟩,
  ⟨⟨(some 58), (.call F_law25_works []), (some (57, true))⟩, false, false, []⟩,
  ⟨⟨(some 59), (.pick (.t 57) (.t 58) (.v (.bool false))), none⟩, true, false, []⟩,
  ⟨⟨(some 4), (.mv (.t 59)), none⟩, true, false, []⟩]
def a_law25_ReplyBack : AFunc := ⟨[(.tmp 4)], (.seq (.region q_law25_ReplyBack_0) (.seq (.seq (.region q_law25_ReplyBack_1) (.cond (.t 18) (.seq (.region q_law25_ReplyBack_2) .ret) .skip)) (.seq (.region q_law25_ReplyBack_3) (.seq (.seq (.region q_law25_ReplyBack_4) (.cond (.t 26) (.seq (.region q_law25_ReplyBack_5) .ret) .skip)) (.seq (.region q_law25_ReplyBack_6) (.seq (.seq (.region q_law25_ReplyBack_7) (.cond (.t 40) (.seq (.region q_law25_ReplyBack_8) .ret) .skip)) (.seq (.region q_law25_ReplyBack_9) (.seq (.regionD q_law25_ReplyBack_10) .ret))))))))⟩

def q_law25_ReplyOne_0 : List AOper := [
  ⟨(some 2), (.mv (.v (.bool false))), none⟩]
def q_law25_ReplyOne_1 : List AOper := [
  ⟨(some 7), (.mv (.t 0)), none⟩,
  ⟨(some 8), (.len false (.t 7)), none⟩,
  ⟨(some 9), (.bin .gtr (.t 8) (.v (.int .i64 4000))), none⟩]
def q_law25_ReplyOne_2 : List AOper := [
  ⟨(some 10), (.call F_law25_works []), none⟩,
  ⟨(some 2), (.mv (.t 10)), none⟩]
def q_law25_ReplyOne_3 : List AOper := [
  ⟨(some 12), (.mv (.t 0)), none⟩,
  ⟨(some 13), (.call F_reply_Get [(.sc, (.t 12))]), none⟩,
  ⟨(some 11), (.mv (.t 13)), none⟩,
  ⟨(some 14), (.ext 0 (.t 11)), none⟩,
  ⟨(some 15), (.ext 1 (.t 11)), none⟩,
  ⟨(some 3), (.alloc 47 [(.int .i64 0), (.iarr .u8 32 (List.replicate 32 0)), .nilS, .nilS, (.int .i64 0), (.bool false)]), none⟩,
  ⟨none, (.store .ag 37 (.t 3) (.t 14)), none⟩,
  ⟨(some 4), (.mv (.t 15)), none⟩]
def q_law25_ReplyOne_4 : List AOper := [
  ⟨(some 16), (.mv (.t 4)), none⟩,
  ⟨(some 17), (.eq .scI true (.t 16) (.v (.int .i64 0))), none⟩]
def q_law25_ReplyOne_5 : List AOper := [
  ⟨(some 18), (.mv (.t 4)), none⟩,
  ⟨(some 19), (.eq .scI false (.t 18) (.v (.int .i64 3))), none⟩,
  ⟨(some 20), (.mv (.t 19)), none⟩,
  ⟨(some 21), (.load .ag 37 (.t 3)), (some (20, true))⟩,
  ⟨(some 22), (.build .ag [(.int .i64 0), (.iarr .u8 32 (List.replicate 32 0)), .nilS, .nilS, (.int .i64 0), (.bool false)] []), (some (20, true))⟩,
  ⟨(some 23), (.call F_ref21_Same [(.ag, (.t 21)), (.ag, (.t 22))]), (some (20, true))⟩,
  ⟨(some 24), (.pick (.t 20) (.t 23) (.v (.bool false))), none⟩,
  ⟨(some 25), (.mv (.t 24)), none⟩,
  ⟨(some 26), (.call F_law25_works []), (some (25, true))⟩,
  ⟨(some 27), (.pick (.t 25) (.t 26) (.v (.bool false))), none⟩,
  ⟨(some 2), (.mv (.t 27)), none⟩]
def q_law25_ReplyOne_6 : List AOper := [
  ⟨(some 29), (.load .ag 37 (.t 3)), none⟩,
  ⟨(some 30), (.call F_reply_Put [(.ag, (.t 29))]), none⟩,
  ⟨(some 28), (.mv (.t 30)), none⟩,
  ⟨(some 31), (.ext 0 (.t 28)), none⟩,
  ⟨(some 32), (.ext 1 (.t 28)), none⟩,
  ⟨(some 5), (.mv (.t 31)), none⟩,
  ⟨(some 6), (.mv (.t 32)), none⟩]
def q_law25_ReplyOne_7 : List AOper := [
  ⟨(some 33), (.mv (.t 6)), none⟩,
  ⟨(some 34), (.eq .scI false (.t 33) (.v (.int .i64 0))), none⟩,
  ⟨(some 35), (.mv (.t 34)), none⟩,
  ⟨(some 36), (.mv (.t 0)), (some (35, true))⟩,
  ⟨(some 37), (.mv (.t 5)), (some (35, true))⟩,
  ⟨(some 38), (.call F_ref01_Same [(.sc, (.t 36)), (.sc, (.t 37))]), (some (35, true))⟩,
  ⟨(some 39), (.pick (.t 35) (.t 38) (.v (.bool false))), none⟩,
  ⟨(some 40), (.mv (.t 39)), none⟩,
  ⟨(some 41), (.call F_law25_works []), (some (40, true))⟩,
  ⟨(some 42), (.pick (.t 40) (.t 41) (.v (.bool false))), none⟩,
  ⟨(some 2), (.mv (.t 42)), none⟩]
def a_law25_ReplyOne : AFunc := ⟨[(.tmp 2)], (.seq (.region q_law25_ReplyOne_0) (.seq (.seq (.region q_law25_ReplyOne_1) (.cond (.t 9) (.seq (.region q_law25_ReplyOne_2) .ret) .skip)) (.seq (.region q_law25_ReplyOne_3) (.seq (.seq (.region q_law25_ReplyOne_4) (.cond (.t 17) (.seq (.region q_law25_ReplyOne_5) .ret) .skip)) (.seq (.region q_law25_ReplyOne_6) (.seq (.region q_law25_ReplyOne_7) .ret))))))⟩

def q_law25_light_0 : List AOper := [
  ⟨(some 1), (.box 47 .ag (.t 0)), none⟩,
  ⟨(some 2), (.mv (.v (.bool false))), none⟩]
def q_law25_light_1 : List AOper := [
  ⟨(some 3), (.fadr 33 1 .sc (.t 1)), none⟩,
  ⟨(some 4), (.load .sc 1 (.t 3)), none⟩,
  ⟨(some 5), (.len false (.t 4)), none⟩,
  ⟨(some 6), (.bin .leq (.t 5) (.v (.int .i64 17000))), none⟩,
  ⟨(some 7), (.mv (.t 6)), none⟩,
  ⟨(some 8), (.fadr 34 1 .sc (.t 1)), (some (7, true))⟩,
  ⟨(some 9), (.load .sc 1 (.t 8)), (some (7, true))⟩,
  ⟨(some 10), (.len false (.t 9)), (some (7, true))⟩,
  ⟨(some 11), (.bin .leq (.t 10) (.v (.int .i64 300))), (some (7, true))⟩,
  ⟨(some 12), (.pick (.t 7) (.t 11) (.v (.bool false))), none⟩,
  ⟨(some 2), (.mv (.t 12)), none⟩]
def a_law25_light : AFunc := ⟨[(.tmp 2)], (.seq (.region q_law25_light_0) (.seq (.region q_law25_light_1) .ret))⟩

def q_law25_works_0 : List AOper := [
  ⟨(some 0), (.mv (.v (.bool false))), none⟩]
def q_law25_works_1 : List AOper := [
  ⟨(some 12), (.build (.ia .u8 32) [(.iarr .u8 32 (List.replicate 32 0))] [(0, (1, (.v (.int .u8 1))))]), none⟩,
  ⟨(some 13), (.bslI 5 .u8 [(.v (.int .u8 97)), (.v (.int .u8 98)), (.v (.int .u8 99))]), none⟩,
  ⟨(some 14), (.xx .sealB [(.t 13)]), none⟩,
  ⟨(some 15), (.build (.ia .u8 32) [(.iarr .u8 32 (List.replicate 32 0))] [(0, (1, (.v (.int .u8 2))))]), none⟩,
  ⟨(some 16), (.bsl 39 (.ia .u8 32) 32 [(.t 15)]), none⟩,
  ⟨(some 17), (.build .ag [(.int .i64 0), (.iarr .u8 32 (List.replicate 32 0)), .nilS, .nilS, (.int .i64 0), (.bool false)] [(0, (1, (.v (.int .i64 11)))), (35, (1, (.v (.int .i64 5)))), (36, (1, (.v (.bool true)))), (1, (32, (.t 12))), (33, (1, (.t 14))), (34, (1, (.t 16)))]), none⟩,
  ⟨(some 1), (.alloc 47 [(.int .i64 0), (.iarr .u8 32 (List.replicate 32 0)), .nilS, .nilS, (.int .i64 0), (.bool false)]), none⟩,
  ⟨none, (.store .ag 37 (.t 1) (.t 17)), none⟩]
def q_law25_works_2 : List AOper := [
  ⟨(some 19), (.load .ag 37 (.t 1)), none⟩,
  ⟨(some 20), (.call F_reply_Put [(.ag, (.t 19))]), none⟩,
  ⟨(some 18), (.mv (.t 20)), none⟩,
  ⟨(some 21), (.ext 0 (.t 18)), none⟩,
  ⟨(some 22), (.ext 1 (.t 18)), none⟩,
  ⟨(some 2), (.mv (.t 21)), none⟩,
  ⟨(some 3), (.mv (.t 22)), none⟩]
def q_law25_works_3 : List AOper := [
  ⟨(some 24), (.mv (.t 2)), none⟩,
  ⟨(some 25), (.call F_reply_Get [(.sc, (.t 24))]), none⟩,
  ⟨(some 23), (.mv (.t 25)), none⟩,
  ⟨(some 26), (.ext 0 (.t 23)), none⟩,
  ⟨(some 27), (.ext 1 (.t 23)), none⟩,
  ⟨(some 4), (.alloc 47 [(.int .i64 0), (.iarr .u8 32 (List.replicate 32 0)), .nilS, .nilS, (.int .i64 0), (.bool false)]), none⟩,
  ⟨none, (.store .ag 37 (.t 4) (.t 26)), none⟩,
  ⟨(some 5), (.mv (.t 27)), none⟩]
def q_law25_works_4 : List AOper := [
  ⟨(some 29), (.mv (.t 2)), none⟩,
  ⟨(some 30), (.bslI 5 .u8 [(.v (.int .u8 1))]), none⟩,
  ⟨(some 31), (.appI 5 .u8 1 (.t 29) (.t 30)), none⟩,
  ⟨(some 32), (.call F_reply_Get [(.sc, (.t 31))]), none⟩,
  ⟨(some 28), (.mv (.t 32)), none⟩,
  ⟨(some 33), (.ext 0 (.t 28)), none⟩,
  ⟨(some 34), (.ext 1 (.t 28)), none⟩,
  ⟨(some 6), (.alloc 47 [(.int .i64 0), (.iarr .u8 32 (List.replicate 32 0)), .nilS, .nilS, (.int .i64 0), (.bool false)]), none⟩,
  ⟨none, (.store .ag 37 (.t 6) (.t 33)), none⟩,
  ⟨(some 7), (.mv (.t 34)), none⟩]
def q_law25_works_5 : List AOper := [
  ⟨(some 36), (.call F_reply_Short [(.sc, (.v (.int .i64 6)))]), none⟩,
  ⟨(some 37), (.call F_reply_Get [(.sc, (.t 36))]), none⟩,
  ⟨(some 35), (.mv (.t 37)), none⟩,
  ⟨(some 38), (.ext 0 (.t 35)), none⟩,
  ⟨(some 39), (.ext 1 (.t 35)), none⟩,
  ⟨(some 8), (.alloc 47 [(.int .i64 0), (.iarr .u8 32 (List.replicate 32 0)), .nilS, .nilS, (.int .i64 0), (.bool false)]), none⟩,
  ⟨none, (.store .ag 37 (.t 8) (.t 38)), none⟩,
  ⟨(some 9), (.mv (.t 39)), none⟩]
def q_law25_works_6 : List AOper := [
  ⟨(some 41), (.call F_reply_Short [(.sc, (.v (.int .i64 99)))]), none⟩,
  ⟨(some 42), (.call F_reply_Get [(.sc, (.t 41))]), none⟩,
  ⟨(some 40), (.mv (.t 42)), none⟩,
  ⟨(some 43), (.ext 0 (.t 40)), none⟩,
  ⟨(some 44), (.ext 1 (.t 40)), none⟩,
  ⟨(some 10), (.alloc 47 [(.int .i64 0), (.iarr .u8 32 (List.replicate 32 0)), .nilS, .nilS, (.int .i64 0), (.bool false)]), none⟩,
  ⟨none, (.store .ag 37 (.t 10) (.t 43)), none⟩,
  ⟨(some 11), (.mv (.t 44)), none⟩]
def q_law25_works_7 : List AOper := [
  ⟨(some 45), (.mv (.t 3)), none⟩,
  ⟨(some 46), (.eq .scI false (.t 45) (.v (.int .i64 0))), none⟩,
  ⟨(some 47), (.mv (.t 46)), none⟩,
  ⟨(some 48), (.mv (.t 2)), (some (47, true))⟩,
  ⟨(some 49), (.len false (.t 48)), (some (47, true))⟩,
  ⟨(some 50), (.eq .scI false (.t 49) (.v (.int .i64 79))), (some (47, true))⟩,
  ⟨(some 51), (.pick (.t 47) (.t 50) (.v (.bool false))), none⟩,
  ⟨(some 52), (.mv (.t 51)), none⟩,
  ⟨(some 53), (.mv (.t 5)), (some (52, true))⟩,
  ⟨(some 54), (.eq .scI false (.t 53) (.v (.int .i64 0))), (some (52, true))⟩,
  ⟨(some 55), (.pick (.t 52) (.t 54) (.v (.bool false))), none⟩,
  ⟨(some 56), (.mv (.t 55)), none⟩,
  ⟨(some 57), (.load .ag 37 (.t 1)), (some (56, true))⟩,
  ⟨(some 58), (.load .ag 37 (.t 4)), (some (56, true))⟩,
  ⟨(some 59), (.call F_ref21_Same [(.ag, (.t 57)), (.ag, (.t 58))]), (some (56, true))⟩,
  ⟨(some 60), (.pick (.t 56) (.t 59) (.v (.bool false))), none⟩,
  ⟨(some 61), (.mv (.t 60)), none⟩,
  ⟨(some 62), (.mv (.t 7)), (some (61, true))⟩,
  ⟨(some 63), (.eq .scI false (.t 62) (.v (.int .i64 3))), (some (61, true))⟩,
  ⟨(some 64), (.pick (.t 61) (.t 63) (.v (.bool false))), none⟩,
  ⟨(some 65), (.mv (.t 64)), none⟩,
  ⟨(some 66), (.mv (.t 9)), (some (65, true))⟩,
  ⟨(some 67), (.eq .scI false (.t 66) (.v (.int .i64 0))), (some (65, true))⟩,
  ⟨(some 68), (.pick (.t 65) (.t 67) (.v (.bool false))), none⟩,
  ⟨(some 69), (.mv (.t 68)), none⟩,
  ⟨(some 70), (.fadr 0 1 .sc (.t 8)), (some (69, true))⟩,
  ⟨(some 71), (.load .sc 1 (.t 70)), (some (69, true))⟩,
  ⟨(some 72), (.eq .scI false (.t 71) (.v (.int .i64 6))), (some (69, true))⟩,
  ⟨(some 73), (.pick (.t 69) (.t 72) (.v (.bool false))), none⟩,
  ⟨(some 74), (.mv (.t 73)), none⟩,
  ⟨(some 75), (.mv (.t 11)), (some (74, true))⟩,
  ⟨(some 76), (.eq .scI false (.t 75) (.v (.int .i64 0))), (some (74, true))⟩,
  ⟨(some 77), (.pick (.t 74) (.t 76) (.v (.bool false))), none⟩,
  ⟨(some 78), (.mv (.t 77)), none⟩,
  ⟨(some 79), (.fadr 0 1 .sc (.t 10)), (some (78, true))⟩,
  ⟨(some 80), (.load .sc 1 (.t 79)), (some (78, true))⟩,
  ⟨(some 81), (.eq .scI false (.t 80) (.v (.int .i64 2))), (some (78, true))⟩,
  ⟨(some 82), (.pick (.t 78) (.t 81) (.v (.bool false))), none⟩,
  ⟨(some 83), (.mv (.t 82)), none⟩,
  ⟨(some 84), (.build .ag [(.int .i64 0), (.iarr .u8 32 (List.replicate 32 0)), .nilS, .nilS, (.int .i64 0), (.bool false)] [(35, (1, (.v (.int .i64 (-1)))))]), (some (83, true))⟩,
  ⟨(some 85), (.call F_reply_Check [(.ag, (.t 84))]), (some (83, true))⟩,
  ⟨(some 86), (.eq .scI false (.t 85) (.v (.int .i64 2))), (some (83, true))⟩,
  ⟨(some 87), (.pick (.t 83) (.t 86) (.v (.bool false))), none⟩,
  ⟨(some 0), (.mv (.t 87)), none⟩]
def a_law25_works : AFunc := ⟨[(.tmp 0)], (.seq (.region q_law25_works_0) (.seq (.region q_law25_works_1) (.seq (.region q_law25_works_2) (.seq (.region q_law25_works_3) (.seq (.region q_law25_works_4) (.seq (.region q_law25_works_5) (.seq (.region q_law25_works_6) (.seq (.region q_law25_works_7) .ret))))))))⟩


theorem c_reply_Put : trF Try.prog Try.f33 = some a_reply_Put := by kernel_rfl
theorem g_reply_Put : Try.prog.funcs[33]? = some Try.f33 := by kernel_rfl
theorem i_reply_Put {args : List AV} {A : Heap} {Ko : AOut → Heap → Prop} (hn : args.length ≤ 53)
    (h : ∀ R : APost, (∀ e env A, fpost a_reply_Put.res Ko e env A → R e env A) → X Try.prog R a_reply_Put.body .done (env0 args) A) : SimX Try.prog F_reply_Put args A Ko :=
  X_intro g_reply_Put c_reply_Put (by rw [Try.ntmps33]; exact hn) h
theorem v_reply_Put {args : List AV} {v : AV} (hn : args.length ≤ 53) (h : X Try.prog (fin a_reply_Put.res v) a_reply_Put.body .done (env0 args) H0) : Gives Try.prog F_reply_Put args v :=
  Gives_intro g_reply_Put c_reply_Put (by rw [Try.ntmps33]; exact hn) h
theorem e_reply_Put {args : List AV} {Q : AOut → Prop} (hn : args.length ≤ 53) (h : X Try.prog (finE a_reply_Put.res Q) a_reply_Put.body .done (env0 args) H0) : Fins Try.prog F_reply_Put args Q :=
  Fins_intro g_reply_Put c_reply_Put (by rw [Try.ntmps33]; exact hn) h
theorem j_reply_Put {args : List AV} {A : Heap} {K Kp : AV → Heap → Prop} (hn : args.length ≤ 53) (h : X Try.prog (inl a_reply_Put.res K Kp) a_reply_Put.body .done (env0 args) A) : SimX Try.prog F_reply_Put args A (outK K Kp) :=
  X_inl g_reply_Put c_reply_Put (by rw [Try.ntmps33]; exact hn) h
theorem d_reply_Put {args : List AV} {A : Heap} {Ko : AOut → Heap → Prop} (hn : args.length ≤ 53)
    (h : ∀ R : APost, (∀ e env A, fpost a_reply_Put.res Ko e env A → R e env A) → X Try.prog R a_reply_Put.body .done (env0 args) A) : SimD Try.prog F_reply_Put args A Ko :=
  X_introD g_reply_Put c_reply_Put (by rw [Try.ntmps33]; exact hn) h
@[simp] theorem k_reply_Put : callable Try.prog F_reply_Put = true := by kernel_rfl
theorem c_reply_Check : trF Try.prog Try.f35 = some a_reply_Check := by kernel_rfl
theorem g_reply_Check : Try.prog.funcs[35]? = some Try.f35 := by kernel_rfl
theorem i_reply_Check {args : List AV} {A : Heap} {Ko : AOut → Heap → Prop} (hn : args.length ≤ 32)
    (h : ∀ R : APost, (∀ e env A, fpost a_reply_Check.res Ko e env A → R e env A) → X Try.prog R a_reply_Check.body .done (env0 args) A) : SimX Try.prog F_reply_Check args A Ko :=
  X_intro g_reply_Check c_reply_Check (by rw [Try.ntmps35]; exact hn) h
theorem v_reply_Check {args : List AV} {v : AV} (hn : args.length ≤ 32) (h : X Try.prog (fin a_reply_Check.res v) a_reply_Check.body .done (env0 args) H0) : Gives Try.prog F_reply_Check args v :=
  Gives_intro g_reply_Check c_reply_Check (by rw [Try.ntmps35]; exact hn) h
theorem e_reply_Check {args : List AV} {Q : AOut → Prop} (hn : args.length ≤ 32) (h : X Try.prog (finE a_reply_Check.res Q) a_reply_Check.body .done (env0 args) H0) : Fins Try.prog F_reply_Check args Q :=
  Fins_intro g_reply_Check c_reply_Check (by rw [Try.ntmps35]; exact hn) h
theorem j_reply_Check {args : List AV} {A : Heap} {K Kp : AV → Heap → Prop} (hn : args.length ≤ 32) (h : X Try.prog (inl a_reply_Check.res K Kp) a_reply_Check.body .done (env0 args) A) : SimX Try.prog F_reply_Check args A (outK K Kp) :=
  X_inl g_reply_Check c_reply_Check (by rw [Try.ntmps35]; exact hn) h
theorem d_reply_Check {args : List AV} {A : Heap} {Ko : AOut → Heap → Prop} (hn : args.length ≤ 32)
    (h : ∀ R : APost, (∀ e env A, fpost a_reply_Check.res Ko e env A → R e env A) → X Try.prog R a_reply_Check.body .done (env0 args) A) : SimD Try.prog F_reply_Check args A Ko :=
  X_introD g_reply_Check c_reply_Check (by rw [Try.ntmps35]; exact hn) h
@[simp] theorem k_reply_Check : callable Try.prog F_reply_Check = true := by kernel_rfl
theorem c_reply_Short : trF Try.prog Try.f37 = some a_reply_Short := by kernel_rfl
theorem g_reply_Short : Try.prog.funcs[37]? = some Try.f37 := by kernel_rfl
theorem i_reply_Short {args : List AV} {A : Heap} {Ko : AOut → Heap → Prop} (hn : args.length ≤ 20)
    (h : ∀ R : APost, (∀ e env A, fpost a_reply_Short.res Ko e env A → R e env A) → X Try.prog R a_reply_Short.body .done (env0 args) A) : SimX Try.prog F_reply_Short args A Ko :=
  X_intro g_reply_Short c_reply_Short (by rw [Try.ntmps37]; exact hn) h
theorem v_reply_Short {args : List AV} {v : AV} (hn : args.length ≤ 20) (h : X Try.prog (fin a_reply_Short.res v) a_reply_Short.body .done (env0 args) H0) : Gives Try.prog F_reply_Short args v :=
  Gives_intro g_reply_Short c_reply_Short (by rw [Try.ntmps37]; exact hn) h
theorem e_reply_Short {args : List AV} {Q : AOut → Prop} (hn : args.length ≤ 20) (h : X Try.prog (finE a_reply_Short.res Q) a_reply_Short.body .done (env0 args) H0) : Fins Try.prog F_reply_Short args Q :=
  Fins_intro g_reply_Short c_reply_Short (by rw [Try.ntmps37]; exact hn) h
theorem j_reply_Short {args : List AV} {A : Heap} {K Kp : AV → Heap → Prop} (hn : args.length ≤ 20) (h : X Try.prog (inl a_reply_Short.res K Kp) a_reply_Short.body .done (env0 args) A) : SimX Try.prog F_reply_Short args A (outK K Kp) :=
  X_inl g_reply_Short c_reply_Short (by rw [Try.ntmps37]; exact hn) h
theorem d_reply_Short {args : List AV} {A : Heap} {Ko : AOut → Heap → Prop} (hn : args.length ≤ 20)
    (h : ∀ R : APost, (∀ e env A, fpost a_reply_Short.res Ko e env A → R e env A) → X Try.prog R a_reply_Short.body .done (env0 args) A) : SimD Try.prog F_reply_Short args A Ko :=
  X_introD g_reply_Short c_reply_Short (by rw [Try.ntmps37]; exact hn) h
@[simp] theorem k_reply_Short : callable Try.prog F_reply_Short = true := by kernel_rfl
theorem c_reply_Get : trF Try.prog Try.f39 = some a_reply_Get := by kernel_rfl
theorem g_reply_Get : Try.prog.funcs[39]? = some Try.f39 := by kernel_rfl
theorem i_reply_Get {args : List AV} {A : Heap} {Ko : AOut → Heap → Prop} (hn : args.length ≤ 112)
    (h : ∀ R : APost, (∀ e env A, fpost a_reply_Get.res Ko e env A → R e env A) → X Try.prog R a_reply_Get.body .done (env0 args) A) : SimX Try.prog F_reply_Get args A Ko :=
  X_intro g_reply_Get c_reply_Get (by rw [Try.ntmps39]; exact hn) h
theorem v_reply_Get {args : List AV} {v : AV} (hn : args.length ≤ 112) (h : X Try.prog (fin a_reply_Get.res v) a_reply_Get.body .done (env0 args) H0) : Gives Try.prog F_reply_Get args v :=
  Gives_intro g_reply_Get c_reply_Get (by rw [Try.ntmps39]; exact hn) h
theorem e_reply_Get {args : List AV} {Q : AOut → Prop} (hn : args.length ≤ 112) (h : X Try.prog (finE a_reply_Get.res Q) a_reply_Get.body .done (env0 args) H0) : Fins Try.prog F_reply_Get args Q :=
  Fins_intro g_reply_Get c_reply_Get (by rw [Try.ntmps39]; exact hn) h
theorem j_reply_Get {args : List AV} {A : Heap} {K Kp : AV → Heap → Prop} (hn : args.length ≤ 112) (h : X Try.prog (inl a_reply_Get.res K Kp) a_reply_Get.body .done (env0 args) A) : SimX Try.prog F_reply_Get args A (outK K Kp) :=
  X_inl g_reply_Get c_reply_Get (by rw [Try.ntmps39]; exact hn) h
theorem d_reply_Get {args : List AV} {A : Heap} {Ko : AOut → Heap → Prop} (hn : args.length ≤ 112)
    (h : ∀ R : APost, (∀ e env A, fpost a_reply_Get.res Ko e env A → R e env A) → X Try.prog R a_reply_Get.body .done (env0 args) A) : SimD Try.prog F_reply_Get args A Ko :=
  X_introD g_reply_Get c_reply_Get (by rw [Try.ntmps39]; exact hn) h
@[simp] theorem k_reply_Get : callable Try.prog F_reply_Get = true := by kernel_rfl
theorem c_reply_join : trF Try.prog Try.f74 = some a_reply_join := by kernel_rfl
theorem g_reply_join : Try.prog.funcs[74]? = some Try.f74 := by kernel_rfl
theorem i_reply_join {args : List AV} {A : Heap} {Ko : AOut → Heap → Prop} (hn : args.length ≤ 17)
    (h : ∀ R : APost, (∀ e env A, fpost a_reply_join.res Ko e env A → R e env A) → X Try.prog R a_reply_join.body .done (env0 args) A) : SimX Try.prog F_reply_join args A Ko :=
  X_intro g_reply_join c_reply_join (by rw [Try.ntmps74]; exact hn) h
theorem v_reply_join {args : List AV} {v : AV} (hn : args.length ≤ 17) (h : X Try.prog (fin a_reply_join.res v) a_reply_join.body .done (env0 args) H0) : Gives Try.prog F_reply_join args v :=
  Gives_intro g_reply_join c_reply_join (by rw [Try.ntmps74]; exact hn) h
theorem e_reply_join {args : List AV} {Q : AOut → Prop} (hn : args.length ≤ 17) (h : X Try.prog (finE a_reply_join.res Q) a_reply_join.body .done (env0 args) H0) : Fins Try.prog F_reply_join args Q :=
  Fins_intro g_reply_join c_reply_join (by rw [Try.ntmps74]; exact hn) h
theorem j_reply_join {args : List AV} {A : Heap} {K Kp : AV → Heap → Prop} (hn : args.length ≤ 17) (h : X Try.prog (inl a_reply_join.res K Kp) a_reply_join.body .done (env0 args) A) : SimX Try.prog F_reply_join args A (outK K Kp) :=
  X_inl g_reply_join c_reply_join (by rw [Try.ntmps74]; exact hn) h
theorem d_reply_join {args : List AV} {A : Heap} {Ko : AOut → Heap → Prop} (hn : args.length ≤ 17)
    (h : ∀ R : APost, (∀ e env A, fpost a_reply_join.res Ko e env A → R e env A) → X Try.prog R a_reply_join.body .done (env0 args) A) : SimD Try.prog F_reply_join args A Ko :=
  X_introD g_reply_join c_reply_join (by rw [Try.ntmps74]; exact hn) h
@[simp] theorem k_reply_join : callable Try.prog F_reply_join = true := by kernel_rfl
theorem c_reply_Get_1 : trF Try.prog Try.f78 = some a_reply_Get_1 := by kernel_rfl
theorem g_reply_Get_1 : Try.prog.funcs[78]? = some Try.f78 := by kernel_rfl
theorem i_reply_Get_1 {args : List AV} {A : Heap} {Ko : AOut → Heap → Prop} (hn : args.length ≤ 3)
    (h : ∀ R : APost, (∀ e env A, fpost a_reply_Get_1.res Ko e env A → R e env A) → X Try.prog R a_reply_Get_1.body .done (env0 args) A) : SimX Try.prog F_reply_Get_1 args A Ko :=
  X_intro g_reply_Get_1 c_reply_Get_1 (by rw [Try.ntmps78]; exact hn) h
theorem v_reply_Get_1 {args : List AV} {v : AV} (hn : args.length ≤ 3) (h : X Try.prog (fin a_reply_Get_1.res v) a_reply_Get_1.body .done (env0 args) H0) : Gives Try.prog F_reply_Get_1 args v :=
  Gives_intro g_reply_Get_1 c_reply_Get_1 (by rw [Try.ntmps78]; exact hn) h
theorem e_reply_Get_1 {args : List AV} {Q : AOut → Prop} (hn : args.length ≤ 3) (h : X Try.prog (finE a_reply_Get_1.res Q) a_reply_Get_1.body .done (env0 args) H0) : Fins Try.prog F_reply_Get_1 args Q :=
  Fins_intro g_reply_Get_1 c_reply_Get_1 (by rw [Try.ntmps78]; exact hn) h
theorem j_reply_Get_1 {args : List AV} {A : Heap} {K Kp : AV → Heap → Prop} (hn : args.length ≤ 3) (h : X Try.prog (inl a_reply_Get_1.res K Kp) a_reply_Get_1.body .done (env0 args) A) : SimX Try.prog F_reply_Get_1 args A (outK K Kp) :=
  X_inl g_reply_Get_1 c_reply_Get_1 (by rw [Try.ntmps78]; exact hn) h
theorem d_reply_Get_1 {args : List AV} {A : Heap} {Ko : AOut → Heap → Prop} (hn : args.length ≤ 3)
    (h : ∀ R : APost, (∀ e env A, fpost a_reply_Get_1.res Ko e env A → R e env A) → X Try.prog R a_reply_Get_1.body .done (env0 args) A) : SimD Try.prog F_reply_Get_1 args A Ko :=
  X_introD g_reply_Get_1 c_reply_Get_1 (by rw [Try.ntmps78]; exact hn) h
@[simp] theorem k_reply_Get_1 : callable Try.prog F_reply_Get_1 = true := by kernel_rfl
theorem c_ref25_Put : trF Try.prog Try.f34 = some a_ref25_Put := by kernel_rfl
theorem g_ref25_Put : Try.prog.funcs[34]? = some Try.f34 := by kernel_rfl
theorem i_ref25_Put {args : List AV} {A : Heap} {Ko : AOut → Heap → Prop} (hn : args.length ≤ 65)
    (h : ∀ R : APost, (∀ e env A, fpost a_ref25_Put.res Ko e env A → R e env A) → X Try.prog R a_ref25_Put.body .done (env0 args) A) : SimX Try.prog F_ref25_Put args A Ko :=
  X_intro g_ref25_Put c_ref25_Put (by rw [Try.ntmps34]; exact hn) h
theorem v_ref25_Put {args : List AV} {v : AV} (hn : args.length ≤ 65) (h : X Try.prog (fin a_ref25_Put.res v) a_ref25_Put.body .done (env0 args) H0) : Gives Try.prog F_ref25_Put args v :=
  Gives_intro g_ref25_Put c_ref25_Put (by rw [Try.ntmps34]; exact hn) h
theorem e_ref25_Put {args : List AV} {Q : AOut → Prop} (hn : args.length ≤ 65) (h : X Try.prog (finE a_ref25_Put.res Q) a_ref25_Put.body .done (env0 args) H0) : Fins Try.prog F_ref25_Put args Q :=
  Fins_intro g_ref25_Put c_ref25_Put (by rw [Try.ntmps34]; exact hn) h
theorem j_ref25_Put {args : List AV} {A : Heap} {K Kp : AV → Heap → Prop} (hn : args.length ≤ 65) (h : X Try.prog (inl a_ref25_Put.res K Kp) a_ref25_Put.body .done (env0 args) A) : SimX Try.prog F_ref25_Put args A (outK K Kp) :=
  X_inl g_ref25_Put c_ref25_Put (by rw [Try.ntmps34]; exact hn) h
theorem d_ref25_Put {args : List AV} {A : Heap} {Ko : AOut → Heap → Prop} (hn : args.length ≤ 65)
    (h : ∀ R : APost, (∀ e env A, fpost a_ref25_Put.res Ko e env A → R e env A) → X Try.prog R a_ref25_Put.body .done (env0 args) A) : SimD Try.prog F_ref25_Put args A Ko :=
  X_introD g_ref25_Put c_ref25_Put (by rw [Try.ntmps34]; exact hn) h
@[simp] theorem k_ref25_Put : callable Try.prog F_ref25_Put = true := by kernel_rfl
theorem c_ref25_Check : trF Try.prog Try.f36 = some a_ref25_Check := by kernel_rfl
theorem g_ref25_Check : Try.prog.funcs[36]? = some Try.f36 := by kernel_rfl
theorem i_ref25_Check {args : List AV} {A : Heap} {Ko : AOut → Heap → Prop} (hn : args.length ≤ 29)
    (h : ∀ R : APost, (∀ e env A, fpost a_ref25_Check.res Ko e env A → R e env A) → X Try.prog R a_ref25_Check.body .done (env0 args) A) : SimX Try.prog F_ref25_Check args A Ko :=
  X_intro g_ref25_Check c_ref25_Check (by rw [Try.ntmps36]; exact hn) h
theorem v_ref25_Check {args : List AV} {v : AV} (hn : args.length ≤ 29) (h : X Try.prog (fin a_ref25_Check.res v) a_ref25_Check.body .done (env0 args) H0) : Gives Try.prog F_ref25_Check args v :=
  Gives_intro g_ref25_Check c_ref25_Check (by rw [Try.ntmps36]; exact hn) h
theorem e_ref25_Check {args : List AV} {Q : AOut → Prop} (hn : args.length ≤ 29) (h : X Try.prog (finE a_ref25_Check.res Q) a_ref25_Check.body .done (env0 args) H0) : Fins Try.prog F_ref25_Check args Q :=
  Fins_intro g_ref25_Check c_ref25_Check (by rw [Try.ntmps36]; exact hn) h
theorem j_ref25_Check {args : List AV} {A : Heap} {K Kp : AV → Heap → Prop} (hn : args.length ≤ 29) (h : X Try.prog (inl a_ref25_Check.res K Kp) a_ref25_Check.body .done (env0 args) A) : SimX Try.prog F_ref25_Check args A (outK K Kp) :=
  X_inl g_ref25_Check c_ref25_Check (by rw [Try.ntmps36]; exact hn) h
theorem d_ref25_Check {args : List AV} {A : Heap} {Ko : AOut → Heap → Prop} (hn : args.length ≤ 29)
    (h : ∀ R : APost, (∀ e env A, fpost a_ref25_Check.res Ko e env A → R e env A) → X Try.prog R a_ref25_Check.body .done (env0 args) A) : SimD Try.prog F_ref25_Check args A Ko :=
  X_introD g_ref25_Check c_ref25_Check (by rw [Try.ntmps36]; exact hn) h
@[simp] theorem k_ref25_Check : callable Try.prog F_ref25_Check = true := by kernel_rfl
theorem c_ref25_Bytes : trF Try.prog Try.f38 = some a_ref25_Bytes := by kernel_rfl
theorem g_ref25_Bytes : Try.prog.funcs[38]? = some Try.f38 := by kernel_rfl
theorem i_ref25_Bytes {args : List AV} {A : Heap} {Ko : AOut → Heap → Prop} (hn : args.length ≤ 22)
    (h : ∀ R : APost, (∀ e env A, fpost a_ref25_Bytes.res Ko e env A → R e env A) → X Try.prog R a_ref25_Bytes.body .done (env0 args) A) : SimX Try.prog F_ref25_Bytes args A Ko :=
  X_intro g_ref25_Bytes c_ref25_Bytes (by rw [Try.ntmps38]; exact hn) h
theorem v_ref25_Bytes {args : List AV} {v : AV} (hn : args.length ≤ 22) (h : X Try.prog (fin a_ref25_Bytes.res v) a_ref25_Bytes.body .done (env0 args) H0) : Gives Try.prog F_ref25_Bytes args v :=
  Gives_intro g_ref25_Bytes c_ref25_Bytes (by rw [Try.ntmps38]; exact hn) h
theorem e_ref25_Bytes {args : List AV} {Q : AOut → Prop} (hn : args.length ≤ 22) (h : X Try.prog (finE a_ref25_Bytes.res Q) a_ref25_Bytes.body .done (env0 args) H0) : Fins Try.prog F_ref25_Bytes args Q :=
  Fins_intro g_ref25_Bytes c_ref25_Bytes (by rw [Try.ntmps38]; exact hn) h
theorem j_ref25_Bytes {args : List AV} {A : Heap} {K Kp : AV → Heap → Prop} (hn : args.length ≤ 22) (h : X Try.prog (inl a_ref25_Bytes.res K Kp) a_ref25_Bytes.body .done (env0 args) A) : SimX Try.prog F_ref25_Bytes args A (outK K Kp) :=
  X_inl g_ref25_Bytes c_ref25_Bytes (by rw [Try.ntmps38]; exact hn) h
theorem d_ref25_Bytes {args : List AV} {A : Heap} {Ko : AOut → Heap → Prop} (hn : args.length ≤ 22)
    (h : ∀ R : APost, (∀ e env A, fpost a_ref25_Bytes.res Ko e env A → R e env A) → X Try.prog R a_ref25_Bytes.body .done (env0 args) A) : SimD Try.prog F_ref25_Bytes args A Ko :=
  X_introD g_ref25_Bytes c_ref25_Bytes (by rw [Try.ntmps38]; exact hn) h
@[simp] theorem k_ref25_Bytes : callable Try.prog F_ref25_Bytes = true := by kernel_rfl
theorem c_ref25_addr : trF Try.prog Try.f77 = some a_ref25_addr := by kernel_rfl
theorem g_ref25_addr : Try.prog.funcs[77]? = some Try.f77 := by kernel_rfl
theorem i_ref25_addr {args : List AV} {A : Heap} {Ko : AOut → Heap → Prop} (hn : args.length ≤ 19)
    (h : ∀ R : APost, (∀ e env A, fpost a_ref25_addr.res Ko e env A → R e env A) → X Try.prog R a_ref25_addr.body .done (env0 args) A) : SimX Try.prog F_ref25_addr args A Ko :=
  X_intro g_ref25_addr c_ref25_addr (by rw [Try.ntmps77]; exact hn) h
theorem v_ref25_addr {args : List AV} {v : AV} (hn : args.length ≤ 19) (h : X Try.prog (fin a_ref25_addr.res v) a_ref25_addr.body .done (env0 args) H0) : Gives Try.prog F_ref25_addr args v :=
  Gives_intro g_ref25_addr c_ref25_addr (by rw [Try.ntmps77]; exact hn) h
theorem e_ref25_addr {args : List AV} {Q : AOut → Prop} (hn : args.length ≤ 19) (h : X Try.prog (finE a_ref25_addr.res Q) a_ref25_addr.body .done (env0 args) H0) : Fins Try.prog F_ref25_addr args Q :=
  Fins_intro g_ref25_addr c_ref25_addr (by rw [Try.ntmps77]; exact hn) h
theorem j_ref25_addr {args : List AV} {A : Heap} {K Kp : AV → Heap → Prop} (hn : args.length ≤ 19) (h : X Try.prog (inl a_ref25_addr.res K Kp) a_ref25_addr.body .done (env0 args) A) : SimX Try.prog F_ref25_addr args A (outK K Kp) :=
  X_inl g_ref25_addr c_ref25_addr (by rw [Try.ntmps77]; exact hn) h
theorem d_ref25_addr {args : List AV} {A : Heap} {Ko : AOut → Heap → Prop} (hn : args.length ≤ 19)
    (h : ∀ R : APost, (∀ e env A, fpost a_ref25_addr.res Ko e env A → R e env A) → X Try.prog R a_ref25_addr.body .done (env0 args) A) : SimD Try.prog F_ref25_addr args A Ko :=
  X_introD g_ref25_addr c_ref25_addr (by rw [Try.ntmps77]; exact hn) h
@[simp] theorem k_ref25_addr : callable Try.prog F_ref25_addr = true := by kernel_rfl
theorem c_law25_ReplyPuts : trF Try.prog Try.f6 = some a_law25_ReplyPuts := by kernel_rfl
theorem g_law25_ReplyPuts : Try.prog.funcs[6]? = some Try.f6 := by kernel_rfl
theorem i_law25_ReplyPuts {args : List AV} {A : Heap} {Ko : AOut → Heap → Prop} (hn : args.length ≤ 49)
    (h : ∀ R : APost, (∀ e env A, fpost a_law25_ReplyPuts.res Ko e env A → R e env A) → X Try.prog R a_law25_ReplyPuts.body .done (env0 args) A) : SimX Try.prog F_law25_ReplyPuts args A Ko :=
  X_intro g_law25_ReplyPuts c_law25_ReplyPuts (by rw [Try.ntmps6]; exact hn) h
theorem v_law25_ReplyPuts {args : List AV} {v : AV} (hn : args.length ≤ 49) (h : X Try.prog (fin a_law25_ReplyPuts.res v) a_law25_ReplyPuts.body .done (env0 args) H0) : Gives Try.prog F_law25_ReplyPuts args v :=
  Gives_intro g_law25_ReplyPuts c_law25_ReplyPuts (by rw [Try.ntmps6]; exact hn) h
theorem e_law25_ReplyPuts {args : List AV} {Q : AOut → Prop} (hn : args.length ≤ 49) (h : X Try.prog (finE a_law25_ReplyPuts.res Q) a_law25_ReplyPuts.body .done (env0 args) H0) : Fins Try.prog F_law25_ReplyPuts args Q :=
  Fins_intro g_law25_ReplyPuts c_law25_ReplyPuts (by rw [Try.ntmps6]; exact hn) h
theorem j_law25_ReplyPuts {args : List AV} {A : Heap} {K Kp : AV → Heap → Prop} (hn : args.length ≤ 49) (h : X Try.prog (inl a_law25_ReplyPuts.res K Kp) a_law25_ReplyPuts.body .done (env0 args) A) : SimX Try.prog F_law25_ReplyPuts args A (outK K Kp) :=
  X_inl g_law25_ReplyPuts c_law25_ReplyPuts (by rw [Try.ntmps6]; exact hn) h
theorem d_law25_ReplyPuts {args : List AV} {A : Heap} {Ko : AOut → Heap → Prop} (hn : args.length ≤ 49)
    (h : ∀ R : APost, (∀ e env A, fpost a_law25_ReplyPuts.res Ko e env A → R e env A) → X Try.prog R a_law25_ReplyPuts.body .done (env0 args) A) : SimD Try.prog F_law25_ReplyPuts args A Ko :=
  X_introD g_law25_ReplyPuts c_law25_ReplyPuts (by rw [Try.ntmps6]; exact hn) h
@[simp] theorem k_law25_ReplyPuts : callable Try.prog F_law25_ReplyPuts = true := by kernel_rfl
theorem c_law25_ReplyBack : trF Try.prog Try.f7 = some a_law25_ReplyBack := by kernel_rfl
theorem g_law25_ReplyBack : Try.prog.funcs[7]? = some Try.f7 := by kernel_rfl
theorem i_law25_ReplyBack {args : List AV} {A : Heap} {Ko : AOut → Heap → Prop} (hn : args.length ≤ 60)
    (h : ∀ R : APost, (∀ e env A, fpost a_law25_ReplyBack.res Ko e env A → R e env A) → X Try.prog R a_law25_ReplyBack.body .done (env0 args) A) : SimX Try.prog F_law25_ReplyBack args A Ko :=
  X_intro g_law25_ReplyBack c_law25_ReplyBack (by rw [Try.ntmps7]; exact hn) h
theorem v_law25_ReplyBack {args : List AV} {v : AV} (hn : args.length ≤ 60) (h : X Try.prog (fin a_law25_ReplyBack.res v) a_law25_ReplyBack.body .done (env0 args) H0) : Gives Try.prog F_law25_ReplyBack args v :=
  Gives_intro g_law25_ReplyBack c_law25_ReplyBack (by rw [Try.ntmps7]; exact hn) h
theorem e_law25_ReplyBack {args : List AV} {Q : AOut → Prop} (hn : args.length ≤ 60) (h : X Try.prog (finE a_law25_ReplyBack.res Q) a_law25_ReplyBack.body .done (env0 args) H0) : Fins Try.prog F_law25_ReplyBack args Q :=
  Fins_intro g_law25_ReplyBack c_law25_ReplyBack (by rw [Try.ntmps7]; exact hn) h
theorem j_law25_ReplyBack {args : List AV} {A : Heap} {K Kp : AV → Heap → Prop} (hn : args.length ≤ 60) (h : X Try.prog (inl a_law25_ReplyBack.res K Kp) a_law25_ReplyBack.body .done (env0 args) A) : SimX Try.prog F_law25_ReplyBack args A (outK K Kp) :=
  X_inl g_law25_ReplyBack c_law25_ReplyBack (by rw [Try.ntmps7]; exact hn) h
theorem d_law25_ReplyBack {args : List AV} {A : Heap} {Ko : AOut → Heap → Prop} (hn : args.length ≤ 60)
    (h : ∀ R : APost, (∀ e env A, fpost a_law25_ReplyBack.res Ko e env A → R e env A) → X Try.prog R a_law25_ReplyBack.body .done (env0 args) A) : SimD Try.prog F_law25_ReplyBack args A Ko :=
  X_introD g_law25_ReplyBack c_law25_ReplyBack (by rw [Try.ntmps7]; exact hn) h
@[simp] theorem k_law25_ReplyBack : callable Try.prog F_law25_ReplyBack = true := by kernel_rfl
theorem c_law25_ReplyOne : trF Try.prog Try.f8 = some a_law25_ReplyOne := by kernel_rfl
theorem g_law25_ReplyOne : Try.prog.funcs[8]? = some Try.f8 := by kernel_rfl
theorem i_law25_ReplyOne {args : List AV} {A : Heap} {Ko : AOut → Heap → Prop} (hn : args.length ≤ 43)
    (h : ∀ R : APost, (∀ e env A, fpost a_law25_ReplyOne.res Ko e env A → R e env A) → X Try.prog R a_law25_ReplyOne.body .done (env0 args) A) : SimX Try.prog F_law25_ReplyOne args A Ko :=
  X_intro g_law25_ReplyOne c_law25_ReplyOne (by rw [Try.ntmps8]; exact hn) h
theorem v_law25_ReplyOne {args : List AV} {v : AV} (hn : args.length ≤ 43) (h : X Try.prog (fin a_law25_ReplyOne.res v) a_law25_ReplyOne.body .done (env0 args) H0) : Gives Try.prog F_law25_ReplyOne args v :=
  Gives_intro g_law25_ReplyOne c_law25_ReplyOne (by rw [Try.ntmps8]; exact hn) h
theorem e_law25_ReplyOne {args : List AV} {Q : AOut → Prop} (hn : args.length ≤ 43) (h : X Try.prog (finE a_law25_ReplyOne.res Q) a_law25_ReplyOne.body .done (env0 args) H0) : Fins Try.prog F_law25_ReplyOne args Q :=
  Fins_intro g_law25_ReplyOne c_law25_ReplyOne (by rw [Try.ntmps8]; exact hn) h
theorem j_law25_ReplyOne {args : List AV} {A : Heap} {K Kp : AV → Heap → Prop} (hn : args.length ≤ 43) (h : X Try.prog (inl a_law25_ReplyOne.res K Kp) a_law25_ReplyOne.body .done (env0 args) A) : SimX Try.prog F_law25_ReplyOne args A (outK K Kp) :=
  X_inl g_law25_ReplyOne c_law25_ReplyOne (by rw [Try.ntmps8]; exact hn) h
theorem d_law25_ReplyOne {args : List AV} {A : Heap} {Ko : AOut → Heap → Prop} (hn : args.length ≤ 43)
    (h : ∀ R : APost, (∀ e env A, fpost a_law25_ReplyOne.res Ko e env A → R e env A) → X Try.prog R a_law25_ReplyOne.body .done (env0 args) A) : SimD Try.prog F_law25_ReplyOne args A Ko :=
  X_introD g_law25_ReplyOne c_law25_ReplyOne (by rw [Try.ntmps8]; exact hn) h
@[simp] theorem k_law25_ReplyOne : callable Try.prog F_law25_ReplyOne = true := by kernel_rfl
theorem c_law25_light : trF Try.prog Try.f31 = some a_law25_light := by kernel_rfl
theorem g_law25_light : Try.prog.funcs[31]? = some Try.f31 := by kernel_rfl
theorem i_law25_light {args : List AV} {A : Heap} {Ko : AOut → Heap → Prop} (hn : args.length ≤ 13)
    (h : ∀ R : APost, (∀ e env A, fpost a_law25_light.res Ko e env A → R e env A) → X Try.prog R a_law25_light.body .done (env0 args) A) : SimX Try.prog F_law25_light args A Ko :=
  X_intro g_law25_light c_law25_light (by rw [Try.ntmps31]; exact hn) h
theorem v_law25_light {args : List AV} {v : AV} (hn : args.length ≤ 13) (h : X Try.prog (fin a_law25_light.res v) a_law25_light.body .done (env0 args) H0) : Gives Try.prog F_law25_light args v :=
  Gives_intro g_law25_light c_law25_light (by rw [Try.ntmps31]; exact hn) h
theorem e_law25_light {args : List AV} {Q : AOut → Prop} (hn : args.length ≤ 13) (h : X Try.prog (finE a_law25_light.res Q) a_law25_light.body .done (env0 args) H0) : Fins Try.prog F_law25_light args Q :=
  Fins_intro g_law25_light c_law25_light (by rw [Try.ntmps31]; exact hn) h
theorem j_law25_light {args : List AV} {A : Heap} {K Kp : AV → Heap → Prop} (hn : args.length ≤ 13) (h : X Try.prog (inl a_law25_light.res K Kp) a_law25_light.body .done (env0 args) A) : SimX Try.prog F_law25_light args A (outK K Kp) :=
  X_inl g_law25_light c_law25_light (by rw [Try.ntmps31]; exact hn) h
theorem d_law25_light {args : List AV} {A : Heap} {Ko : AOut → Heap → Prop} (hn : args.length ≤ 13)
    (h : ∀ R : APost, (∀ e env A, fpost a_law25_light.res Ko e env A → R e env A) → X Try.prog R a_law25_light.body .done (env0 args) A) : SimD Try.prog F_law25_light args A Ko :=
  X_introD g_law25_light c_law25_light (by rw [Try.ntmps31]; exact hn) h
@[simp] theorem k_law25_light : callable Try.prog F_law25_light = true := by kernel_rfl
theorem c_law25_works : trF Try.prog Try.f32 = some a_law25_works := by kernel_rfl
theorem g_law25_works : Try.prog.funcs[32]? = some Try.f32 := by kernel_rfl
theorem i_law25_works {args : List AV} {A : Heap} {Ko : AOut → Heap → Prop} (hn : args.length ≤ 88)
    (h : ∀ R : APost, (∀ e env A, fpost a_law25_works.res Ko e env A → R e env A) → X Try.prog R a_law25_works.body .done (env0 args) A) : SimX Try.prog F_law25_works args A Ko :=
  X_intro g_law25_works c_law25_works (by rw [Try.ntmps32]; exact hn) h
theorem v_law25_works {args : List AV} {v : AV} (hn : args.length ≤ 88) (h : X Try.prog (fin a_law25_works.res v) a_law25_works.body .done (env0 args) H0) : Gives Try.prog F_law25_works args v :=
  Gives_intro g_law25_works c_law25_works (by rw [Try.ntmps32]; exact hn) h
theorem e_law25_works {args : List AV} {Q : AOut → Prop} (hn : args.length ≤ 88) (h : X Try.prog (finE a_law25_works.res Q) a_law25_works.body .done (env0 args) H0) : Fins Try.prog F_law25_works args Q :=
  Fins_intro g_law25_works c_law25_works (by rw [Try.ntmps32]; exact hn) h
theorem j_law25_works {args : List AV} {A : Heap} {K Kp : AV → Heap → Prop} (hn : args.length ≤ 88) (h : X Try.prog (inl a_law25_works.res K Kp) a_law25_works.body .done (env0 args) A) : SimX Try.prog F_law25_works args A (outK K Kp) :=
  X_inl g_law25_works c_law25_works (by rw [Try.ntmps32]; exact hn) h
theorem d_law25_works {args : List AV} {A : Heap} {Ko : AOut → Heap → Prop} (hn : args.length ≤ 88)
    (h : ∀ R : APost, (∀ e env A, fpost a_law25_works.res Ko e env A → R e env A) → X Try.prog R a_law25_works.body .done (env0 args) A) : SimD Try.prog F_law25_works args A Ko :=
  X_introD g_law25_works c_law25_works (by rw [Try.ntmps32]; exact hn) h
@[simp] theorem k_law25_works : callable Try.prog F_law25_works = true := by kernel_rfl
end Go.Proofs.Ytjbiekcldkjgjaa
