/- Abstract programs; that they are the program's. -/
import Derived.Test.YtfdckjliinpjiaaFn
namespace Go.Proofs.Ytfdckjliinpjiaa
open Go AVL
set_option linter.unusedVariables false
set_option maxRecDepth 20000

def q_parcel_Put_0 : List AOper := [
  ⟨(some 1), (.box 26 .ag (.t 0)), none⟩,
  ⟨(some 2), (.mv (.v .nilS)), none⟩,
  ⟨(some 3), (.mv (.v (.int .i64 0))), none⟩]
def q_parcel_Put_1 : List AOper := [
  ⟨(some 4), (.xx (.p (.mkF (.func F_parcel_Put_1) 0)) [(.t 1)]), none⟩,
  ⟨(some 5), (.call F_trap_Try_byte [(.sc, (.t 4))]), none⟩,
  ⟨(some 6), (.ext 0 (.t 5)), none⟩,
  ⟨(some 7), (.ext 1 (.t 5)), none⟩,
  ⟨(some 2), (.mv (.t 6)), none⟩,
  ⟨(some 3), (.mv (.t 7)), none⟩]
def a_parcel_Put : AFunc := ⟨[(.tmp 2), (.tmp 3)], (.seq (.region q_parcel_Put_0) (.seq (.region q_parcel_Put_1) .ret))⟩

def q_parcel_Same_0 : List AOper := [
  ⟨(some 2), (.box 26 .ag (.t 0)), none⟩,
  ⟨(some 3), (.box 26 .ag (.t 1)), none⟩,
  ⟨(some 4), (.mv (.v (.bool false))), none⟩]
def q_parcel_Same_1 : List AOper := [
  ⟨(some 6), (.fadr 40 1 .sc (.t 2)), none⟩,
  ⟨(some 7), (.load .sc 1 (.t 6)), none⟩,
  ⟨(some 8), (.len false (.t 7)), none⟩,
  ⟨(some 9), (.fadr 40 1 .sc (.t 3)), none⟩,
  ⟨(some 10), (.load .sc 1 (.t 9)), none⟩,
  ⟨(some 11), (.len false (.t 10)), none⟩,
  ⟨(some 12), (.eq .scI true (.t 8) (.t 11)), none⟩]
def q_parcel_Same_2 : List AOper := [
  ⟨(some 4), (.mv (.v (.bool false))), none⟩]
def q_parcel_Same_3 : List AOper := [
  ⟨(some 13), (.fadr 40 1 .sc (.t 2)), none⟩,
  ⟨(some 14), (.load .sc 1 (.t 13)), none⟩,
  ⟨(some 15), (.len false (.t 14)), none⟩,
  ⟨(some 16), (.mv (.v (.int .i64 0))), none⟩]
def q_parcel_Same_4 : List AOper := [
  ⟨(some 17), (.bin .lss (.t 16) (.t 15)), none⟩]
def q_parcel_Same_5 : List AOper := [
  ⟨(some 18), (.mv (.t 16)), none⟩,
  ⟨(some 5), (.mv (.t 18)), none⟩]
def q_parcel_Same_6 : List DOp := [
  ⟨⟨(some 19), (.fadr 40 1 .sc (.t 2)), none⟩, true, false, none, []⟩,
  ⟨⟨(some 20), (.load .sc 1 (.t 19)), none⟩, true, false, none, []⟩,
  ⟨⟨(some 21), (.mv (.t 5)), none⟩, true, false, none, []⟩,
  ⟨⟨(some 22), (.idx 32 (.t 20) (.t 21)), none⟩, true, false, none, []⟩,
  ⟨⟨(some 23), (.load (.ia .u8 32) 32 (.t 22)), none⟩, true, false, none, []⟩,
  ⟨⟨(some 24), (.fadr 40 1 .sc (.t 3)), none⟩, true, false, none, []⟩,
  ⟨⟨(some 25), (.load .sc 1 (.t 24)), none⟩, true, false, none, []⟩,
  ⟨⟨(some 26), (.mv (.t 5)), none⟩, true, false, none, []⟩,
  ⟨⟨(some 27), (.idx 32 (.t 25) (.t 26)), none⟩, true, false, none, []⟩,
  ⟨⟨(some 28), (.load (.ia .u8 32) 32 (.t 27)), none⟩, true, false, none, []⟩,
  ⟨⟨(some 29), (.eq (.ia 32) true (.t 23) (.t 28)), none⟩, true, false, none, []⟩]
def q_parcel_Same_7 : List AOper := [
  ⟨(some 4), (.mv (.v (.bool false))), none⟩]
def q_parcel_Same_8 : List AOper := [
  ⟨(some 30), (.bin .add (.t 16) (.v (.int .i64 1))), none⟩,
  ⟨(some 16), (.mv (.t 30)), none⟩]
def q_parcel_Same_L9 : ACode := (.seq (.region q_parcel_Same_4) (.seq (.cond (.t 17) .skip (.exit 0)) (.seq (.block 1 (.seq (.region q_parcel_Same_5) (.seq (.regionD q_parcel_Same_6) (.cond (.t 29) (.seq (.region q_parcel_Same_7) .ret) .skip)))) (.region q_parcel_Same_8))))
def q_parcel_Same_9 : List AOper := [
  ⟨(some 31), (.fadr 0 1 .sc (.t 2)), none⟩,
  ⟨(some 32), (.load .sc 1 (.t 31)), none⟩,
  ⟨(some 33), (.fadr 0 1 .sc (.t 3)), none⟩,
  ⟨(some 34), (.load .sc 1 (.t 33)), none⟩,
  ⟨(some 35), (.eq .scI false (.t 32) (.t 34)), none⟩,
  ⟨(some 36), (.mv (.t 35)), none⟩,
  ⟨(some 37), (.fadr 1 1 .sc (.t 2)), (some (36, true))⟩,
  ⟨(some 38), (.load .sc 1 (.t 37)), (some (36, true))⟩,
  ⟨(some 39), (.fadr 1 1 .sc (.t 3)), (some (36, true))⟩,
  ⟨(some 40), (.load .sc 1 (.t 39)), (some (36, true))⟩,
  ⟨(some 41), (.eq .scS false (.t 38) (.t 40)), (some (36, true))⟩,
  ⟨(some 42), (.pick (.t 36) (.t 41) (.v (.bool false))), none⟩,
  ⟨(some 43), (.mv (.t 42)), none⟩,
  ⟨(some 44), (.fadr 2 1 .sc (.t 2)), (some (43, true))⟩,
  ⟨(some 45), (.load .sc 1 (.t 44)), (some (43, true))⟩,
  ⟨(some 46), (.fadr 2 1 .sc (.t 3)), (some (43, true))⟩,
  ⟨(some 47), (.load .sc 1 (.t 46)), (some (43, true))⟩,
  ⟨(some 48), (.eq .scS false (.t 45) (.t 47)), (some (43, true))⟩,
  ⟨(some 49), (.pick (.t 43) (.t 48) (.v (.bool false))), none⟩,
  ⟨(some 50), (.mv (.t 49)), none⟩,
  ⟨(some 51), (.fadr 3 1 .sc (.t 2)), (some (50, true))⟩,
  ⟨(some 52), (.load .sc 1 (.t 51)), (some (50, true))⟩,
  ⟨(some 53), (.fadr 3 1 .sc (.t 3)), (some (50, true))⟩,
  ⟨(some 54), (.load .sc 1 (.t 53)), (some (50, true))⟩,
  ⟨(some 55), (.eq .scS false (.t 52) (.t 54)), (some (50, true))⟩,
  ⟨(some 56), (.pick (.t 50) (.t 55) (.v (.bool false))), none⟩,
  ⟨(some 57), (.mv (.t 56)), none⟩,
  ⟨(some 58), (.fadr 4 1 .sc (.t 2)), (some (57, true))⟩,
  ⟨(some 59), (.load .sc 1 (.t 58)), (some (57, true))⟩,
  ⟨(some 60), (.fadr 4 1 .sc (.t 3)), (some (57, true))⟩,
  ⟨(some 61), (.load .sc 1 (.t 60)), (some (57, true))⟩,
  ⟨(some 62), (.eq .scI false (.t 59) (.t 61)), (some (57, true))⟩,
  ⟨(some 63), (.pick (.t 57) (.t 62) (.v (.bool false))), none⟩,
  ⟨(some 64), (.mv (.t 63)), none⟩,
  ⟨(some 65), (.fadr 5 1 .sc (.t 2)), (some (64, true))⟩,
  ⟨(some 66), (.load .sc 1 (.t 65)), (some (64, true))⟩,
  ⟨(some 67), (.fadr 5 1 .sc (.t 3)), (some (64, true))⟩,
  ⟨(some 68), (.load .sc 1 (.t 67)), (some (64, true))⟩,
  ⟨(some 69), (.eq .scB false (.t 66) (.t 68)), (some (64, true))⟩,
  ⟨(some 70), (.pick (.t 64) (.t 69) (.v (.bool false))), none⟩,
  ⟨(some 71), (.mv (.t 70)), none⟩,
  ⟨(some 72), (.fadr 6 1 .sc (.t 2)), (some (71, true))⟩,
  ⟨(some 73), (.load .sc 1 (.t 72)), (some (71, true))⟩,
  ⟨(some 74), (.fadr 6 1 .sc (.t 3)), (some (71, true))⟩,
  ⟨(some 75), (.load .sc 1 (.t 74)), (some (71, true))⟩,
  ⟨(some 76), (.eq .scB false (.t 73) (.t 75)), (some (71, true))⟩,
  ⟨(some 77), (.pick (.t 71) (.t 76) (.v (.bool false))), none⟩,
  ⟨(some 78), (.mv (.t 77)), none⟩,
  ⟨(some 79), (.fadr 7 1 .sc (.t 2)), (some (78, true))⟩,
  ⟨(some 80), (.load .sc 1 (.t 79)), (some (78, true))⟩,
  ⟨(some 81), (.xx .bstr [(.t 80)]), (some (78, true))⟩,
  ⟨(some 82), (.fadr 7 1 .sc (.t 3)), (some (78, true))⟩,
  ⟨(some 83), (.load .sc 1 (.t 82)), (some (78, true))⟩,
  ⟨(some 84), (.xx .bstr [(.t 83)]), (some (78, true))⟩,
  ⟨(some 85), (.eq .scS false (.t 81) (.t 84)), (some (78, true))⟩,
  ⟨(some 86), (.pick (.t 78) (.t 85) (.v (.bool false))), none⟩,
  ⟨(some 87), (.mv (.t 86)), none⟩,
  ⟨(some 88), (.fadr 8 32 (.ia .u8 32) (.t 2)), (some (87, true))⟩,
  ⟨(some 89), (.load (.ia .u8 32) 32 (.t 88)), (some (87, true))⟩,
  ⟨(some 90), (.fadr 8 32 (.ia .u8 32) (.t 3)), (some (87, true))⟩,
  ⟨(some 91), (.load (.ia .u8 32) 32 (.t 90)), (some (87, true))⟩,
  ⟨(some 92), (.eq (.ia 32) false (.t 89) (.t 91)), (some (87, true))⟩,
  ⟨(some 93), (.pick (.t 87) (.t 92) (.v (.bool false))), none⟩,
  ⟨(some 4), (.mv (.t 93)), none⟩]
def a_parcel_Same : AFunc := ⟨[(.tmp 4)], (.seq (.region q_parcel_Same_0) (.seq (.seq (.region q_parcel_Same_1) (.cond (.t 12) (.seq (.region q_parcel_Same_2) .ret) .skip)) (.seq (.seq (.region q_parcel_Same_3) (.block 0 (.loop q_parcel_Same_L9))) (.seq (.region q_parcel_Same_9) .ret))))⟩

def q_parcel_Get_0 : List AOper := [
  ⟨(some 2), (.alloc 26 [(.int .i64 0), (.str ⟨#[]⟩), (.str ⟨#[]⟩), (.str ⟨#[]⟩), (.int .i64 0), (.bool false), (.bool false), .nilS, (.iarr .u8 32 (List.replicate 32 0)), .nilS]), none⟩,
  ⟨(some 3), (.mv (.v (.int .i64 0))), none⟩]
def q_parcel_Get_1 : List AOper := [
  ⟨(some 5), (.mv (.t 0)), none⟩,
  ⟨(some 6), (.build .ag [.nilS] [(0, (1, (.t 5)))]), none⟩,
  ⟨(some 7), (.box 107 .ag (.t 6)), none⟩,
  ⟨(some 4), (.mv (.t 7)), none⟩]
def q_parcel_Get_2 : List AOper := [
  ⟨(some 8), (.mv (.t 4)), none⟩,
  ⟨(some 9), (.xx (.p (.mkF (.func F_Pparcel_eye_get) 1)) [(.t 8)]), none⟩,
  ⟨(some 10), (.call F_trap_Try_api_Request [(.sc, (.t 9))]), none⟩,
  ⟨(some 11), (.ext 0 (.t 10)), none⟩,
  ⟨(some 12), (.ext 1 (.t 10)), none⟩,
  ⟨none, (.store .ag 41 (.t 2) (.t 11)), none⟩,
  ⟨(some 3), (.mv (.t 12)), none⟩]
def a_parcel_Get : AFunc := ⟨[(.cell 2 .ag 41), (.tmp 3)], (.seq (.region q_parcel_Get_0) (.seq (.region q_parcel_Get_1) (.seq (.region q_parcel_Get_2) .ret)))⟩

def q_parcel_Put_1_0 : List AOper := [
  ⟨(some 1), (.mv (.v .nilS)), none⟩]
def q_parcel_Put_1_1 : List AOper := [
  ⟨(some 2), (.load .ag 41 (.t 0)), none⟩,
  ⟨(some 3), (.call F_parcel_put [(.ag, (.t 2))]), none⟩,
  ⟨(some 1), (.mv (.t 3)), none⟩]
def a_parcel_Put_1 : AFunc := ⟨[(.tmp 1)], (.seq (.region q_parcel_Put_1_0) (.seq (.region q_parcel_Put_1_1) .ret))⟩

def q_parcel_put_0 : List AOper := [
  ⟨(some 1), (.box 26 .ag (.t 0)), none⟩,
  ⟨(some 2), (.mv (.v .nilS)), none⟩]
def q_parcel_put_1 : List AOper := [
  ⟨(some 12), (.call F_parcel_mark []), none⟩,
  ⟨(some 3), (.alloc 141 [(.iarr .u8 2 [0, 0])]), none⟩,
  ⟨none, (.store (.ia .u8 2) 2 (.t 3) (.t 12)), none⟩]
def q_parcel_put_2 : List DOp := [
  ⟨⟨(some 13), (.slcA 2 (.t 3) none none), none⟩, true, false, none, []⟩,
  ⟨⟨(some 14), (.fadr 0 1 .sc (.t 1)), none⟩, true, false, none, []⟩,
  ⟨⟨(some 15), (.load .sc 1 (.t 14)), none⟩, true, false, none, []⟩,
  ⟨⟨(some 16), (.conv .u64 (.t 15)), none⟩, true, false, none, []⟩,
  ⟨⟨(some 17), (.call F_word_Put [(.sc, (.t 16)), (.sc, (.v (.int .i64 8)))]), none⟩, false, false, none, []⟩,
  ⟨⟨(some 18), (.appI 5 .u8 1 (.t 13) (.t 17)), none⟩, false, false, none, []⟩,
  ⟨⟨(some 4), (.mv (.t 18)), none⟩, true, false, none, []⟩]
def q_parcel_put_3 : List AOper := [
  ⟨(some 19), (.fadr 1 1 .sc (.t 1)), none⟩,
  ⟨(some 20), (.load .sc 1 (.t 19)), none⟩,
  ⟨(some 21), (.fadr 2 1 .sc (.t 1)), none⟩,
  ⟨(some 22), (.load .sc 1 (.t 21)), none⟩,
  ⟨(some 23), (.fadr 3 1 .sc (.t 1)), none⟩,
  ⟨(some 24), (.load .sc 1 (.t 23)), none⟩,
  ⟨(some 25), (.build .ag [(.str ⟨#[]⟩), (.str ⟨#[]⟩), (.str ⟨#[]⟩)] [(0, (1, (.t 20))), (1, (1, (.t 22))), (2, (1, (.t 24)))]), none⟩,
  ⟨(some 26), (.mv (.v (.int .i64 0))), none⟩]
def q_parcel_put_4 : List AOper := [
  ⟨(some 27), (.bin .lss (.t 26) (.v (.int .i64 3))), none⟩]
def q_parcel_put_5 : List AOper := [
  ⟨(some 28), (.xx (.idxV 3 1 .sc) [(.t 25), (.t 26)]), none⟩,
  ⟨(some 6), (.mv (.t 28)), none⟩]
def q_parcel_put_6 : List AOper := [
  ⟨(some 29), (.mv (.t 4)), none⟩,
  ⟨(some 30), (.mv (.t 6)), none⟩,
  ⟨(some 31), (.call F_parcel_text [(.sc, (.t 30)), (.sc, (.v (.int .i64 63)))]), none⟩,
  ⟨(some 32), (.appI 5 .u8 1 (.t 29) (.t 31)), none⟩,
  ⟨(some 4), (.mv (.t 32)), none⟩]
def q_parcel_put_7 : List AOper := [
  ⟨(some 33), (.bin .add (.t 26) (.v (.int .i64 1))), none⟩,
  ⟨(some 26), (.mv (.t 33)), none⟩]
def q_parcel_put_L8 : ACode := (.seq (.region q_parcel_put_4) (.seq (.cond (.t 27) .skip (.exit 0)) (.seq (.block 1 (.seq (.region q_parcel_put_5) (.region q_parcel_put_6))) (.region q_parcel_put_7))))
def q_parcel_put_8 : List AOper := [
  ⟨(some 34), (.mv (.t 4)), none⟩,
  ⟨(some 35), (.fadr 4 1 .sc (.t 1)), none⟩,
  ⟨(some 36), (.load .sc 1 (.t 35)), none⟩,
  ⟨(some 37), (.conv .u64 (.t 36)), none⟩,
  ⟨(some 38), (.call F_word_Put [(.sc, (.t 37)), (.sc, (.v (.int .i64 8)))]), none⟩,
  ⟨(some 39), (.appI 5 .u8 1 (.t 34) (.t 38)), none⟩,
  ⟨(some 4), (.mv (.t 39)), none⟩]
def q_parcel_put_9 : List AOper := [
  ⟨(some 7), (.mv (.v (.int .u8 0))), none⟩]
def q_parcel_put_10 : List AOper := [
  ⟨(some 40), (.fadr 5 1 .sc (.t 1)), none⟩,
  ⟨(some 41), (.load .sc 1 (.t 40)), none⟩,
  ⟨(some 42), (.fadr 6 1 .sc (.t 1)), none⟩,
  ⟨(some 43), (.load .sc 1 (.t 42)), none⟩,
  ⟨(some 44), (.build .ag [(.bool false), (.bool false)] [(0, (1, (.t 41))), (1, (1, (.t 43)))]), none⟩,
  ⟨(some 45), (.mv (.v (.int .i64 0))), none⟩]
def q_parcel_put_11 : List AOper := [
  ⟨(some 46), (.bin .lss (.t 45) (.v (.int .i64 2))), none⟩]
def q_parcel_put_12 : List AOper := [
  ⟨(some 47), (.mv (.t 45)), none⟩,
  ⟨(some 48), (.xx (.idxV 2 1 .sc) [(.t 44), (.t 45)]), none⟩,
  ⟨(some 8), (.mv (.t 47)), none⟩,
  ⟨(some 9), (.mv (.t 48)), none⟩]
def q_parcel_put_13 : List AOper := [
  ⟨(some 49), (.mv (.t 9)), none⟩]
def q_parcel_put_14 : List AOper := [
  ⟨(some 50), (.mv (.t 7)), none⟩,
  ⟨(some 51), (.mv (.t 8)), none⟩,
  ⟨(some 52), (.bin .shl (.v (.int .u8 1)) (.t 51)), none⟩,
  ⟨(some 53), (.bin .or (.t 50) (.t 52)), none⟩,
  ⟨(some 7), (.mv (.t 53)), none⟩]
def q_parcel_put_15 : List AOper := [
  ⟨(some 54), (.bin .add (.t 45) (.v (.int .i64 1))), none⟩,
  ⟨(some 45), (.mv (.t 54)), none⟩]
def q_parcel_put_L16 : ACode := (.seq (.region q_parcel_put_11) (.seq (.cond (.t 46) .skip (.exit 2)) (.seq (.block 3 (.seq (.region q_parcel_put_12) (.seq (.region q_parcel_put_13) (.cond (.t 49) (.region q_parcel_put_14) .skip)))) (.region q_parcel_put_15))))
def q_parcel_put_16 : List DOp := [
  ⟨⟨(some 55), (.mv (.t 4)), none⟩, true, false, none, []⟩,
  ⟨⟨(some 56), (.mv (.t 7)), none⟩, true, false, none, []⟩,
  ⟨⟨(some 59), (.fadr 7 1 .sc (.t 1)), none⟩, true, false, none, []⟩,
  ⟨⟨(some 60), (.load .sc 1 (.t 59)), none⟩, true, false, none, []⟩,
  ⟨⟨(some 61), (.xx .bstr [(.t 60)]), none⟩, true, false, none, []⟩,
  ⟨⟨(some 57), (.bslI 5 .u8 [(.t 56)]), none⟩, false, false, none, []⟩,
  ⟨⟨(some 58), (.appI 5 .u8 1 (.t 55) (.t 57)), none⟩, false, true, (some [60, 59]), []⟩,
  ⟨⟨(some 62), (.call F_parcel_text [(.sc, (.t 61)), (.sc, (.v (.int .i64 2049)))]), none⟩, false, false, none, []⟩,
  ⟨⟨(some 63), (.appI 5 .u8 1 (.t 58) (.t 62)), none⟩, false, false, none, []⟩,
  ⟨⟨(some 4), (.mv (.t 63)), none⟩, true, false, none, []⟩]
def q_parcel_put_17 : List AOper := [
  ⟨(some 64), (.mv (.t 4)), none⟩,
  ⟨(some 65), (.fadr 8 32 (.ia .u8 32) (.t 1)), none⟩,
  ⟨(some 66), (.slcA 32 (.t 65) none none), none⟩,
  ⟨(some 67), (.appI 5 .u8 1 (.t 64) (.t 66)), none⟩,
  ⟨(some 4), (.mv (.t 67)), none⟩]
def q_parcel_put_18 : List AOper := [
  ⟨(some 68), (.fadr 40 1 .sc (.t 1)), none⟩,
  ⟨(some 69), (.load .sc 1 (.t 68)), none⟩,
  ⟨(some 70), (.len false (.t 69)), none⟩,
  ⟨(some 71), (.bin .gtr (.t 70) (.v (.int .i64 15))), none⟩]
def q_parcel_put_19 : List AOper := [
  ⟨(some 72), (.call F_trap_Throw [(.sc, (.v (.int .i64 7)))]), none⟩]
def q_parcel_put_20 : List AOper := [
  ⟨(some 73), (.mv (.t 4)), none⟩,
  ⟨(some 74), (.fadr 40 1 .sc (.t 1)), none⟩,
  ⟨(some 75), (.load .sc 1 (.t 74)), none⟩,
  ⟨(some 76), (.len false (.t 75)), none⟩,
  ⟨(some 77), (.conv .u8 (.t 76)), none⟩,
  ⟨(some 78), (.bslI 5 .u8 [(.t 77)]), none⟩,
  ⟨(some 79), (.appI 5 .u8 1 (.t 73) (.t 78)), none⟩,
  ⟨(some 4), (.mv (.t 79)), none⟩]
def q_parcel_put_21 : List AOper := [
  ⟨(some 80), (.fadr 40 1 .sc (.t 1)), none⟩,
  ⟨(some 81), (.load .sc 1 (.t 80)), none⟩,
  ⟨(some 82), (.len false (.t 81)), none⟩,
  ⟨(some 83), (.mv (.v (.int .i64 0))), none⟩]
def q_parcel_put_22 : List AOper := [
  ⟨(some 84), (.bin .lss (.t 83) (.t 82)), none⟩]
def q_parcel_put_23 : List AOper := [
  ⟨(some 85), (.idx 32 (.t 81) (.t 83)), none⟩,
  ⟨(some 86), (.load (.ia .u8 32) 32 (.t 85)), none⟩,
  ⟨(some 11), (.alloc 23 [(.iarr .u8 32 (List.replicate 32 0))]), none⟩,
  ⟨none, (.store (.ia .u8 32) 32 (.t 11) (.t 86)), none⟩]
def q_parcel_put_24 : List AOper := [
  ⟨(some 87), (.mv (.t 4)), none⟩,
  ⟨(some 88), (.slcA 32 (.t 11) none none), none⟩,
  ⟨(some 89), (.appI 5 .u8 1 (.t 87) (.t 88)), none⟩,
  ⟨(some 4), (.mv (.t 89)), none⟩]
def q_parcel_put_25 : List AOper := [
  ⟨(some 90), (.bin .add (.t 83) (.v (.int .i64 1))), none⟩,
  ⟨(some 83), (.mv (.t 90)), none⟩]
def q_parcel_put_L26 : ACode := (.seq (.region q_parcel_put_22) (.seq (.cond (.t 84) .skip (.exit 4)) (.seq (.block 5 (.seq (.region q_parcel_put_23) (.region q_parcel_put_24))) (.region q_parcel_put_25))))
def q_parcel_put_26 : List AOper := [
  ⟨(some 91), (.mv (.t 4)), none⟩,
  ⟨(some 2), (.mv (.t 91)), none⟩]
def a_parcel_put : AFunc := ⟨[(.tmp 2)], (.seq (.region q_parcel_put_0) (.seq (.region q_parcel_put_1) (.seq (.regionD q_parcel_put_2) (.seq (.seq (.region q_parcel_put_3) (.block 0 (.loop q_parcel_put_L8))) (.seq (.region q_parcel_put_8) (.seq (.region q_parcel_put_9) (.seq (.seq (.region q_parcel_put_10) (.block 2 (.loop q_parcel_put_L16))) (.seq (.regionD q_parcel_put_16) (.seq (.region q_parcel_put_17) (.seq (.seq (.region q_parcel_put_18) (.cond (.t 71) (.region q_parcel_put_19) .skip)) (.seq (.region q_parcel_put_20) (.seq (.seq (.region q_parcel_put_21) (.block 4 (.loop q_parcel_put_L26))) (.seq (.region q_parcel_put_26) .ret)))))))))))))⟩

def q_parcel_mark_0 : List AOper := [
  ⟨(some 0), (.alloc 141 [(.iarr .u8 2 [0, 0])]), none⟩]
def q_parcel_mark_1 : List AOper := [
  ⟨(some 1), (.build (.ia .u8 2) [(.iarr .u8 2 [0, 0])] [(0, (1, (.v (.int .u8 82)))), (1, (1, (.v (.int .u8 1))))]), none⟩,
  ⟨none, (.store (.ia .u8 2) 2 (.t 0) (.t 1)), none⟩]
def a_parcel_mark : AFunc := ⟨[(.cell 0 (.ia .u8 2) 2)], (.seq (.region q_parcel_mark_0) (.seq (.region q_parcel_mark_1) .ret))⟩

def q_parcel_text_0 : List AOper := [
  ⟨(some 4), (.mv (.v .nilS)), none⟩]
def q_parcel_text_1 : List AOper := [
  ⟨(some 5), (.mv (.t 0)), none⟩,
  ⟨(some 6), (.len true (.t 5)), none⟩,
  ⟨(some 7), (.mv (.t 1)), none⟩,
  ⟨(some 8), (.bin .gtr (.t 6) (.t 7)), none⟩]
def q_parcel_text_2 : List AOper := [
  ⟨(some 9), (.call F_trap_Throw [(.sc, (.v (.int .i64 15)))]), none⟩]
def q_parcel_text_3 : List AOper := [
  ⟨(some 10), (.mv (.t 0)), none⟩,
  ⟨(some 11), (.len true (.t 10)), none⟩,
  ⟨(some 12), (.conv .u64 (.t 11)), none⟩,
  ⟨(some 13), (.call F_word_Put [(.sc, (.t 12)), (.sc, (.v (.int .i64 2)))]), none⟩,
  ⟨(some 14), (.mv (.t 0)), none⟩,
  ⟨(some 15), (.appI 5 .u8 1 (.t 13) (.t 14)), none⟩,
  ⟨(some 4), (.mv (.t 15)), none⟩]
def a_parcel_text : AFunc := ⟨[(.tmp 4)], (.seq (.region q_parcel_text_0) (.seq (.seq (.region q_parcel_text_1) (.cond (.t 8) (.region q_parcel_text_2) .skip)) (.seq (.region q_parcel_text_3) .ret)))⟩

def q_Pparcel_eye_get_0 : List AOper := [
  ⟨(some 2), (.alloc 26 [(.int .i64 0), (.str ⟨#[]⟩), (.str ⟨#[]⟩), (.str ⟨#[]⟩), (.int .i64 0), (.bool false), (.bool false), .nilS, (.iarr .u8 32 (List.replicate 32 0)), .nilS]), none⟩]
def q_Pparcel_eye_get_1 : List DOp := [
  ⟨⟨(some 6), (.mv (.t 0)), none⟩, true, false, none, []⟩,
  ⟨⟨(some 7), (.call F_Pparcel_eye_take [(.sc, (.t 6)), (.sc, (.v (.int .i64 2)))]), none⟩, false, false, none, []⟩,
  ⟨⟨(some 8), (.s2a 2 (.t 7)), none⟩, true, false, none, []⟩,
  ⟨⟨(some 9), (.load (.ia .u8 2) 2 (.t 8)), none⟩, true, false, none, []⟩,
  ⟨⟨(some 10), (.call F_parcel_mark []), none⟩, false, true, (some [8]), []⟩,
  ⟨⟨(some 11), (.eq (.ia 2) true (.t 9) (.t 10)), none⟩, true, false, none, []⟩]
def q_Pparcel_eye_get_2 : List AOper := [
  ⟨(some 12), (.call F_trap_Throw [(.sc, (.v (.int .i64 3)))]), none⟩]
def q_Pparcel_eye_get_3 : List AOper := [
  ⟨(some 13), (.mv (.t 0)), none⟩,
  ⟨(some 14), (.call F_Pparcel_eye_num [(.sc, (.t 13)), (.sc, (.v (.int .i64 8)))]), none⟩,
  ⟨(some 15), (.conv .i64 (.t 14)), none⟩,
  ⟨(some 16), (.mv (.t 0)), none⟩,
  ⟨(some 17), (.call F_Pparcel_eye_text [(.sc, (.t 16)), (.sc, (.v (.int .i64 63)))]), none⟩,
  ⟨(some 18), (.mv (.t 0)), none⟩,
  ⟨(some 19), (.call F_Pparcel_eye_text [(.sc, (.t 18)), (.sc, (.v (.int .i64 63)))]), none⟩,
  ⟨(some 20), (.mv (.t 0)), none⟩,
  ⟨(some 21), (.call F_Pparcel_eye_text [(.sc, (.t 20)), (.sc, (.v (.int .i64 63)))]), none⟩,
  ⟨(some 22), (.mv (.t 0)), none⟩,
  ⟨(some 23), (.call F_Pparcel_eye_num [(.sc, (.t 22)), (.sc, (.v (.int .i64 8)))]), none⟩,
  ⟨(some 24), (.conv .i64 (.t 23)), none⟩,
  ⟨(some 25), (.build .ag [(.int .i64 0), (.str ⟨#[]⟩), (.str ⟨#[]⟩), (.str ⟨#[]⟩), (.int .i64 0), (.bool false), (.bool false), .nilS, (.iarr .u8 32 (List.replicate 32 0)), .nilS] [(0, (1, (.t 15))), (1, (1, (.t 17))), (2, (1, (.t 19))), (3, (1, (.t 21))), (4, (1, (.t 24)))]), none⟩,
  ⟨(some 3), (.alloc 26 [(.int .i64 0), (.str ⟨#[]⟩), (.str ⟨#[]⟩), (.str ⟨#[]⟩), (.int .i64 0), (.bool false), (.bool false), .nilS, (.iarr .u8 32 (List.replicate 32 0)), .nilS]), none⟩,
  ⟨none, (.store .ag 41 (.t 3) (.t 25)), none⟩]
def q_Pparcel_eye_get_4 : List AOper := [
  ⟨(some 26), (.mv (.t 0)), none⟩,
  ⟨(some 27), (.call F_Pparcel_eye_num [(.sc, (.t 26)), (.sc, (.v (.int .i64 1)))]), none⟩,
  ⟨(some 4), (.mv (.t 27)), none⟩]
def q_Pparcel_eye_get_5 : List AOper := [
  ⟨(some 28), (.mv (.t 4)), none⟩,
  ⟨(some 29), (.bin .and (.t 28) (.v (.int .u64 1))), none⟩,
  ⟨(some 30), (.eq .scI false (.t 29) (.v (.int .u64 1))), none⟩,
  ⟨(some 31), (.mv (.t 4)), none⟩,
  ⟨(some 32), (.bin .and (.t 31) (.v (.int .u64 2))), none⟩,
  ⟨(some 33), (.eq .scI false (.t 32) (.v (.int .u64 2))), none⟩,
  ⟨(some 34), (.fadr 5 1 .sc (.t 3)), none⟩,
  ⟨none, (.store .sc 1 (.t 34) (.t 30)), none⟩,
  ⟨(some 35), (.fadr 6 1 .sc (.t 3)), none⟩,
  ⟨none, (.store .sc 1 (.t 35) (.t 33)), none⟩]
def q_Pparcel_eye_get_6 : List AOper := [
  ⟨(some 36), (.mv (.t 0)), none⟩,
  ⟨(some 37), (.call F_Pparcel_eye_text [(.sc, (.t 36)), (.sc, (.v (.int .i64 2049)))]), none⟩,
  ⟨(some 38), (.xx (.strB 5) [(.t 37)]), none⟩,
  ⟨(some 39), (.fadr 7 1 .sc (.t 3)), none⟩,
  ⟨none, (.store .sc 1 (.t 39) (.t 38)), none⟩]
def q_Pparcel_eye_get_7 : List AOper := [
  ⟨(some 40), (.mv (.t 0)), none⟩,
  ⟨(some 41), (.call F_Pparcel_eye_addr [(.sc, (.t 40))]), none⟩,
  ⟨(some 42), (.fadr 8 32 (.ia .u8 32) (.t 3)), none⟩,
  ⟨none, (.store (.ia .u8 32) 32 (.t 42) (.t 41)), none⟩]
def q_Pparcel_eye_get_8 : List AOper := [
  ⟨(some 43), (.mv (.t 0)), none⟩,
  ⟨(some 44), (.call F_Pparcel_eye_num [(.sc, (.t 43)), (.sc, (.v (.int .i64 1)))]), none⟩,
  ⟨(some 45), (.conv .i64 (.t 44)), none⟩,
  ⟨(some 5), (.mv (.t 45)), none⟩]
def q_Pparcel_eye_get_9 : List AOper := [
  ⟨(some 46), (.mv (.t 4)), none⟩,
  ⟨(some 47), (.bin .gtr (.t 46) (.v (.int .u64 3))), none⟩,
  ⟨(some 48), (.mv (.t 47)), none⟩,
  ⟨(some 49), (.mv (.t 5)), (some (48, false))⟩,
  ⟨(some 50), (.bin .gtr (.t 49) (.v (.int .i64 15))), (some (48, false))⟩,
  ⟨(some 51), (.pick (.t 48) (.v (.bool true)) (.t 50)), none⟩]
def q_Pparcel_eye_get_10 : List AOper := [
  ⟨(some 52), (.call F_trap_Throw [(.sc, (.v (.int .i64 3)))]), none⟩]
def q_Pparcel_eye_get_11 : List AOper := [
  ⟨(some 53), (.mv (.t 5)), none⟩,
  ⟨(some 54), (.mv (.v (.int .i64 0))), none⟩]
def q_Pparcel_eye_get_12 : List AOper := [
  ⟨(some 55), (.bin .lss (.t 54) (.t 53)), none⟩]
def q_Pparcel_eye_get_13 : List DOp := [
  ⟨⟨(some 56), (.fadr 40 1 .sc (.t 3)), none⟩, true, false, none, []⟩,
  ⟨⟨(some 57), (.load .sc 1 (.t 56)), none⟩, true, false, none, []⟩,
  ⟨⟨(some 58), (.mv (.t 0)), none⟩, true, false, none, []⟩,
  ⟨⟨(some 59), (.call F_Pparcel_eye_addr [(.sc, (.t 58))]), none⟩, false, true, (some [56]), []⟩,
  ⟨⟨(some 60), (.bsl 23 (.ia .u8 32) 32 [(.t 59)]), none⟩, false, false, none, []⟩,
  ⟨⟨(some 61), (.app 23 32 32 (.t 57) (.t 60)), none⟩, false, false, none, []⟩,
  ⟨⟨(some 62), (.fadr 40 1 .sc (.t 3)), none⟩, true, false, none, []⟩,
  ⟨⟨none, (.store .sc 1 (.t 62) (.t 61)), none⟩, false, false, none, []⟩]
def q_Pparcel_eye_get_14 : List AOper := [
  ⟨(some 63), (.bin .add (.t 54) (.v (.int .i64 1))), none⟩,
  ⟨(some 54), (.mv (.t 63)), none⟩]
def q_Pparcel_eye_get_L15 : ACode := (.seq (.region q_Pparcel_eye_get_12) (.seq (.cond (.t 55) .skip (.exit 0)) (.seq (.block 1 (.regionD q_Pparcel_eye_get_13)) (.region q_Pparcel_eye_get_14))))
def q_Pparcel_eye_get_15 : List AOper := [
  ⟨(some 64), (.mv (.t 0)), none⟩,
  ⟨(some 65), (.xx (.p .nilCk) [(.t 64)]), none⟩,
  ⟨(some 66), (.fadr 0 1 .sc (.t 65)), none⟩,
  ⟨(some 67), (.load .sc 1 (.t 66)), none⟩,
  ⟨(some 68), (.len false (.t 67)), none⟩,
  ⟨(some 69), (.bin .gtr (.t 68) (.v (.int .i64 0))), none⟩]
def q_Pparcel_eye_get_16 : List AOper := [
  ⟨(some 70), (.call F_trap_Throw [(.sc, (.v (.int .i64 3)))]), none⟩]
def q_Pparcel_eye_get_17 : List AOper := [
  ⟨(some 71), (.load .ag 41 (.t 3)), none⟩,
  ⟨none, (.store .ag 41 (.t 2) (.t 71)), none⟩]
def a_Pparcel_eye_get : AFunc := ⟨[(.cell 2 .ag 41)], (.seq (.region q_Pparcel_eye_get_0) (.seq (.seq (.regionD q_Pparcel_eye_get_1) (.cond (.t 11) (.region q_Pparcel_eye_get_2) .skip)) (.seq (.region q_Pparcel_eye_get_3) (.seq (.region q_Pparcel_eye_get_4) (.seq (.region q_Pparcel_eye_get_5) (.seq (.region q_Pparcel_eye_get_6) (.seq (.region q_Pparcel_eye_get_7) (.seq (.region q_Pparcel_eye_get_8) (.seq (.seq (.region q_Pparcel_eye_get_9) (.cond (.t 51) (.region q_Pparcel_eye_get_10) .skip)) (.seq (.seq (.region q_Pparcel_eye_get_11) (.block 0 (.loop q_Pparcel_eye_get_L15))) (.seq (.seq (.region q_Pparcel_eye_get_15) (.cond (.t 69) (.region q_Pparcel_eye_get_16) .skip)) (.seq (.region q_Pparcel_eye_get_17) .ret))))))))))))⟩

def q_Pparcel_eye_take_0 : List AOper := [
  ⟨(some 4), (.mv (.v .nilS)), none⟩]
def q_Pparcel_eye_take_1 : List AOper := [
  ⟨(some 6), (.mv (.t 1)), none⟩,
  ⟨(some 7), (.mv (.t 0)), none⟩,
  ⟨(some 8), (.xx (.p .nilCk) [(.t 7)]), none⟩,
  ⟨(some 9), (.fadr 0 1 .sc (.t 8)), none⟩,
  ⟨(some 10), (.load .sc 1 (.t 9)), none⟩,
  ⟨(some 11), (.len false (.t 10)), none⟩,
  ⟨(some 12), (.bin .gtr (.t 6) (.t 11)), none⟩]
def q_Pparcel_eye_take_2 : List AOper := [
  ⟨(some 13), (.call F_trap_Throw [(.sc, (.v (.int .i64 3)))]), none⟩]
def q_Pparcel_eye_take_3 : List AOper := [
  ⟨(some 14), (.mv (.t 0)), none⟩,
  ⟨(some 15), (.xx (.p .nilCk) [(.t 14)]), none⟩,
  ⟨(some 16), (.fadr 0 1 .sc (.t 15)), none⟩,
  ⟨(some 17), (.load .sc 1 (.t 16)), none⟩,
  ⟨(some 18), (.mv (.t 1)), none⟩,
  ⟨(some 19), (.slc 1 (.t 17) none (some (.t 18))), none⟩,
  ⟨(some 5), (.mv (.t 19)), none⟩]
def q_Pparcel_eye_take_4 : List AOper := [
  ⟨(some 20), (.mv (.t 0)), none⟩,
  ⟨(some 21), (.mv (.t 0)), none⟩,
  ⟨(some 22), (.xx (.p .nilCk) [(.t 21)]), none⟩,
  ⟨(some 23), (.fadr 0 1 .sc (.t 22)), none⟩,
  ⟨(some 24), (.load .sc 1 (.t 23)), none⟩,
  ⟨(some 25), (.mv (.t 1)), none⟩,
  ⟨(some 26), (.slc 1 (.t 24) (some (.t 25)) none), none⟩,
  ⟨(some 27), (.xx (.p .nilCk) [(.t 20)]), none⟩,
  ⟨(some 28), (.fadr 0 1 .sc (.t 27)), none⟩,
  ⟨none, (.store .sc 1 (.t 28) (.t 26)), none⟩]
def q_Pparcel_eye_take_5 : List AOper := [
  ⟨(some 29), (.mv (.t 5)), none⟩,
  ⟨(some 4), (.mv (.t 29)), none⟩]
def a_Pparcel_eye_take : AFunc := ⟨[(.tmp 4)], (.seq (.region q_Pparcel_eye_take_0) (.seq (.seq (.region q_Pparcel_eye_take_1) (.cond (.t 12) (.region q_Pparcel_eye_take_2) .skip)) (.seq (.region q_Pparcel_eye_take_3) (.seq (.region q_Pparcel_eye_take_4) (.seq (.region q_Pparcel_eye_take_5) .ret)))))⟩

def q_Pparcel_eye_num_0 : List AOper := [
  ⟨(some 4), (.mv (.v (.int .u64 0))), none⟩]
def q_Pparcel_eye_num_1 : List AOper := [
  ⟨(some 5), (.mv (.t 0)), none⟩,
  ⟨(some 6), (.mv (.t 1)), none⟩,
  ⟨(some 7), (.call F_Pparcel_eye_take [(.sc, (.t 5)), (.sc, (.t 6))]), none⟩,
  ⟨(some 8), (.call F_word_Get [(.sc, (.t 7))]), none⟩,
  ⟨(some 4), (.mv (.t 8)), none⟩]
def a_Pparcel_eye_num : AFunc := ⟨[(.tmp 4)], (.seq (.region q_Pparcel_eye_num_0) (.seq (.region q_Pparcel_eye_num_1) .ret))⟩

def q_Pparcel_eye_text_0 : List AOper := [
  ⟨(some 4), (.mv (.v (.str ⟨#[]⟩))), none⟩]
def q_Pparcel_eye_text_1 : List AOper := [
  ⟨(some 6), (.mv (.t 0)), none⟩,
  ⟨(some 7), (.call F_Pparcel_eye_num [(.sc, (.t 6)), (.sc, (.v (.int .i64 2)))]), none⟩,
  ⟨(some 8), (.conv .i64 (.t 7)), none⟩,
  ⟨(some 5), (.mv (.t 8)), none⟩]
def q_Pparcel_eye_text_2 : List AOper := [
  ⟨(some 9), (.mv (.t 5)), none⟩,
  ⟨(some 10), (.mv (.t 1)), none⟩,
  ⟨(some 11), (.bin .gtr (.t 9) (.t 10)), none⟩]
def q_Pparcel_eye_text_3 : List AOper := [
  ⟨(some 12), (.call F_trap_Throw [(.sc, (.v (.int .i64 3)))]), none⟩]
def q_Pparcel_eye_text_4 : List AOper := [
  ⟨(some 13), (.mv (.t 0)), none⟩,
  ⟨(some 14), (.mv (.t 5)), none⟩,
  ⟨(some 15), (.call F_Pparcel_eye_take [(.sc, (.t 13)), (.sc, (.t 14))]), none⟩,
  ⟨(some 16), (.xx .bstr [(.t 15)]), none⟩,
  ⟨(some 4), (.mv (.t 16)), none⟩]
def a_Pparcel_eye_text : AFunc := ⟨[(.tmp 4)], (.seq (.region q_Pparcel_eye_text_0) (.seq (.region q_Pparcel_eye_text_1) (.seq (.seq (.region q_Pparcel_eye_text_2) (.cond (.t 11) (.region q_Pparcel_eye_text_3) .skip)) (.seq (.region q_Pparcel_eye_text_4) .ret))))⟩

def q_Pparcel_eye_addr_0 : List AOper := [
  ⟨(some 2), (.alloc 23 [(.iarr .u8 32 (List.replicate 32 0))]), none⟩]
def q_Pparcel_eye_addr_1 : List AOper := [
  ⟨(some 3), (.mv (.t 0)), none⟩,
  ⟨(some 4), (.call F_Pparcel_eye_take [(.sc, (.t 3)), (.sc, (.v (.int .i64 32)))]), none⟩,
  ⟨(some 5), (.s2a 32 (.t 4)), none⟩,
  ⟨(some 6), (.load (.ia .u8 32) 32 (.t 5)), none⟩,
  ⟨none, (.store (.ia .u8 32) 32 (.t 2) (.t 6)), none⟩]
def a_Pparcel_eye_addr : AFunc := ⟨[(.cell 2 (.ia .u8 32) 32)], (.seq (.region q_Pparcel_eye_addr_0) (.seq (.region q_Pparcel_eye_addr_1) .ret))⟩

def q_ref24_Put_0 : List AOper := [
  ⟨(some 1), (.box 26 .ag (.t 0)), none⟩,
  ⟨(some 2), (.mv (.v .nilS)), none⟩,
  ⟨(some 3), (.mv (.v (.int .i64 0))), none⟩]
def q_ref24_Put_1 : List AOper := [
  ⟨(some 10), (.load .ag 41 (.t 1)), none⟩,
  ⟨(some 11), (.call F_ref24_wrong [(.ag, (.t 10))]), none⟩,
  ⟨(some 4), (.mv (.t 11)), none⟩]
def q_ref24_Put_2 : List AOper := [
  ⟨(some 12), (.mv (.t 4)), none⟩,
  ⟨(some 13), (.eq .scI true (.t 12) (.v (.int .i64 0))), none⟩]
def q_ref24_Put_3 : List AOper := [
  ⟨(some 14), (.mv (.t 4)), none⟩,
  ⟨(some 2), (.mv (.v .nilS)), none⟩,
  ⟨(some 3), (.mv (.t 14)), none⟩]
def q_ref24_Put_4 : List AOper := [
  ⟨(some 15), (.bslI 5 .u8 [(.v (.int .u8 82)), (.v (.int .u8 1))]), none⟩,
  ⟨(some 5), (.mv (.t 15)), none⟩]
def q_ref24_Put_5 : List AOper := [
  ⟨(some 16), (.mv (.t 5)), none⟩,
  ⟨(some 17), (.fadr 0 1 .sc (.t 1)), none⟩,
  ⟨(some 18), (.load .sc 1 (.t 17)), none⟩,
  ⟨(some 19), (.conv .u64 (.t 18)), none⟩,
  ⟨(some 20), (.call F_ref01_Put [(.sc, (.t 19)), (.sc, (.v (.int .i64 8)))]), none⟩,
  ⟨(some 21), (.appI 5 .u8 1 (.t 16) (.t 20)), none⟩,
  ⟨(some 5), (.mv (.t 21)), none⟩]
def q_ref24_Put_6 : List DOp := [
  ⟨⟨(some 22), (.mv (.t 5)), none⟩, true, false, none, []⟩,
  ⟨⟨(some 23), (.fadr 1 1 .sc (.t 1)), none⟩, true, false, none, []⟩,
  ⟨⟨(some 24), (.load .sc 1 (.t 23)), none⟩, true, false, none, []⟩,
  ⟨⟨(some 26), (.fadr 2 1 .sc (.t 1)), none⟩, true, false, none, []⟩,
  ⟨⟨(some 27), (.load .sc 1 (.t 26)), none⟩, true, false, none, []⟩,
  ⟨⟨(some 29), (.fadr 3 1 .sc (.t 1)), none⟩, true, false, none, []⟩,
  ⟨⟨(some 30), (.load .sc 1 (.t 29)), none⟩, true, false, none, []⟩,
  ⟨⟨(some 25), (.call F_ref24_text [(.sc, (.t 22)), (.sc, (.t 24))]), none⟩, false, true, (some [29, 26]), []⟩,
  ⟨⟨(some 28), (.call F_ref24_text [(.sc, (.t 25)), (.sc, (.t 27))]), none⟩, false, true, (some [29]), []⟩,
  ⟨⟨(some 31), (.call F_ref24_text [(.sc, (.t 28)), (.sc, (.t 30))]), none⟩, false, false, none, []⟩,
  ⟨⟨(some 5), (.mv (.t 31)), none⟩, true, false, none, []⟩]
def q_ref24_Put_7 : List AOper := [
  ⟨(some 32), (.mv (.t 5)), none⟩,
  ⟨(some 33), (.fadr 4 1 .sc (.t 1)), none⟩,
  ⟨(some 34), (.load .sc 1 (.t 33)), none⟩,
  ⟨(some 35), (.conv .u64 (.t 34)), none⟩,
  ⟨(some 36), (.call F_ref01_Put [(.sc, (.t 35)), (.sc, (.v (.int .i64 8)))]), none⟩,
  ⟨(some 37), (.appI 5 .u8 1 (.t 32) (.t 36)), none⟩,
  ⟨(some 5), (.mv (.t 37)), none⟩]
def q_ref24_Put_8 : List AOper := [
  ⟨(some 6), (.mv (.v (.int .u8 0))), none⟩]
def q_ref24_Put_9 : List AOper := [
  ⟨(some 38), (.fadr 5 1 .sc (.t 1)), none⟩,
  ⟨(some 39), (.load .sc 1 (.t 38)), none⟩]
def q_ref24_Put_10 : List AOper := [
  ⟨(some 40), (.mv (.t 6)), none⟩,
  ⟨(some 41), (.bin .add (.t 40) (.v (.int .u8 1))), none⟩,
  ⟨(some 6), (.mv (.t 41)), none⟩]
def q_ref24_Put_11 : List AOper := [
  ⟨(some 42), (.fadr 6 1 .sc (.t 1)), none⟩,
  ⟨(some 43), (.load .sc 1 (.t 42)), none⟩]
def q_ref24_Put_12 : List AOper := [
  ⟨(some 44), (.mv (.t 6)), none⟩,
  ⟨(some 45), (.bin .add (.t 44) (.v (.int .u8 2))), none⟩,
  ⟨(some 6), (.mv (.t 45)), none⟩]
def q_ref24_Put_13 : List AOper := [
  ⟨(some 46), (.mv (.t 5)), none⟩,
  ⟨(some 47), (.mv (.t 6)), none⟩,
  ⟨(some 48), (.bslI 5 .u8 [(.t 47)]), none⟩,
  ⟨(some 49), (.appI 5 .u8 1 (.t 46) (.t 48)), none⟩,
  ⟨(some 5), (.mv (.t 49)), none⟩]
def q_ref24_Put_14 : List AOper := [
  ⟨(some 50), (.mv (.t 5)), none⟩,
  ⟨(some 51), (.fadr 7 1 .sc (.t 1)), none⟩,
  ⟨(some 52), (.load .sc 1 (.t 51)), none⟩,
  ⟨(some 53), (.xx .bstr [(.t 52)]), none⟩,
  ⟨(some 54), (.call F_ref24_text [(.sc, (.t 50)), (.sc, (.t 53))]), none⟩,
  ⟨(some 5), (.mv (.t 54)), none⟩]
def q_ref24_Put_15 : List AOper := [
  ⟨(some 7), (.mv (.v (.int .i64 0))), none⟩]
def q_ref24_Put_16 : List AOper := [
  ⟨(some 55), (.mv (.t 7)), none⟩,
  ⟨(some 56), (.bin .lss (.t 55) (.v (.int .i64 32))), none⟩]
def q_ref24_Put_17 : List AOper := [
  ⟨(some 59), (.mv (.t 5)), none⟩,
  ⟨(some 60), (.mv (.t 7)), none⟩,
  ⟨(some 61), (.fadr 8 32 (.ia .u8 32) (.t 1)), none⟩,
  ⟨(some 62), (.idxA 32 1 true (.t 61) (.t 60)), none⟩,
  ⟨(some 63), (.load .sc 1 (.t 62)), none⟩,
  ⟨(some 64), (.bslI 5 .u8 [(.t 63)]), none⟩,
  ⟨(some 65), (.appI 5 .u8 1 (.t 59) (.t 64)), none⟩,
  ⟨(some 5), (.mv (.t 65)), none⟩]
def q_ref24_Put_18 : List AOper := [
  ⟨(some 57), (.mv (.t 7)), none⟩,
  ⟨(some 58), (.bin .add (.t 57) (.v (.int .i64 1))), none⟩,
  ⟨(some 7), (.mv (.t 58)), none⟩]
def q_ref24_Put_L19 : ACode := (.seq (.seq (.region q_ref24_Put_16) (.cond (.t 56) .skip (.exit 0))) (.seq (.block 1 (.region q_ref24_Put_17)) (.region q_ref24_Put_18)))
def q_ref24_Put_19 : List AOper := [
  ⟨(some 66), (.mv (.t 5)), none⟩,
  ⟨(some 67), (.fadr 40 1 .sc (.t 1)), none⟩,
  ⟨(some 68), (.load .sc 1 (.t 67)), none⟩,
  ⟨(some 69), (.len false (.t 68)), none⟩,
  ⟨(some 70), (.conv .u8 (.t 69)), none⟩,
  ⟨(some 71), (.bslI 5 .u8 [(.t 70)]), none⟩,
  ⟨(some 72), (.appI 5 .u8 1 (.t 66) (.t 71)), none⟩,
  ⟨(some 5), (.mv (.t 72)), none⟩]
def q_ref24_Put_20 : List AOper := [
  ⟨(some 8), (.mv (.v (.int .i64 0))), none⟩]
def q_ref24_Put_21 : List AOper := [
  ⟨(some 73), (.mv (.t 8)), none⟩,
  ⟨(some 74), (.fadr 40 1 .sc (.t 1)), none⟩,
  ⟨(some 75), (.load .sc 1 (.t 74)), none⟩,
  ⟨(some 76), (.len false (.t 75)), none⟩,
  ⟨(some 77), (.bin .lss (.t 73) (.t 76)), none⟩]
def q_ref24_Put_22 : List AOper := [
  ⟨(some 9), (.mv (.v (.int .i64 0))), none⟩]
def q_ref24_Put_23 : List AOper := [
  ⟨(some 80), (.mv (.t 9)), none⟩,
  ⟨(some 81), (.bin .lss (.t 80) (.v (.int .i64 32))), none⟩]
def q_ref24_Put_24 : List AOper := [
  ⟨(some 84), (.mv (.t 5)), none⟩,
  ⟨(some 85), (.fadr 40 1 .sc (.t 1)), none⟩,
  ⟨(some 86), (.load .sc 1 (.t 85)), none⟩,
  ⟨(some 87), (.mv (.t 8)), none⟩,
  ⟨(some 88), (.mv (.t 9)), none⟩,
  ⟨(some 89), (.idx 32 (.t 86) (.t 87)), none⟩,
  ⟨(some 90), (.idxA 32 1 true (.t 89) (.t 88)), none⟩,
  ⟨(some 91), (.load .sc 1 (.t 90)), none⟩,
  ⟨(some 92), (.bslI 5 .u8 [(.t 91)]), none⟩,
  ⟨(some 93), (.appI 5 .u8 1 (.t 84) (.t 92)), none⟩,
  ⟨(some 5), (.mv (.t 93)), none⟩]
def q_ref24_Put_25 : List AOper := [
  ⟨(some 82), (.mv (.t 9)), none⟩,
  ⟨(some 83), (.bin .add (.t 82) (.v (.int .i64 1))), none⟩,
  ⟨(some 9), (.mv (.t 83)), none⟩]
def q_ref24_Put_L26 : ACode := (.seq (.seq (.region q_ref24_Put_23) (.cond (.t 81) .skip (.exit 4))) (.seq (.block 5 (.region q_ref24_Put_24)) (.region q_ref24_Put_25)))
def q_ref24_Put_26 : List AOper := [
  ⟨(some 78), (.mv (.t 8)), none⟩,
  ⟨(some 79), (.bin .add (.t 78) (.v (.int .i64 1))), none⟩,
  ⟨(some 8), (.mv (.t 79)), none⟩]
def q_ref24_Put_L27 : ACode := (.seq (.seq (.region q_ref24_Put_21) (.cond (.t 77) .skip (.exit 2))) (.seq (.block 3 (.seq (.region q_ref24_Put_22) (.block 4 (.loop q_ref24_Put_L26)))) (.region q_ref24_Put_26)))
def q_ref24_Put_27 : List AOper := [
  ⟨(some 94), (.mv (.t 5)), none⟩,
  ⟨(some 2), (.mv (.t 94)), none⟩,
  ⟨(some 3), (.mv (.v (.int .i64 0))), none⟩]
def a_ref24_Put : AFunc := ⟨[(.tmp 2), (.tmp 3)], (.seq (.region q_ref24_Put_0) (.seq (.seq (.region q_ref24_Put_1) (.seq (.region q_ref24_Put_2) (.cond (.t 13) (.seq (.region q_ref24_Put_3) .ret) .skip))) (.seq (.region q_ref24_Put_4) (.seq (.region q_ref24_Put_5) (.seq (.regionD q_ref24_Put_6) (.seq (.region q_ref24_Put_7) (.seq (.region q_ref24_Put_8) (.seq (.seq (.region q_ref24_Put_9) (.cond (.t 39) (.region q_ref24_Put_10) .skip)) (.seq (.seq (.region q_ref24_Put_11) (.cond (.t 43) (.region q_ref24_Put_12) .skip)) (.seq (.region q_ref24_Put_13) (.seq (.region q_ref24_Put_14) (.seq (.seq (.region q_ref24_Put_15) (.block 0 (.loop q_ref24_Put_L19))) (.seq (.region q_ref24_Put_19) (.seq (.seq (.region q_ref24_Put_20) (.block 2 (.loop q_ref24_Put_L27))) (.seq (.region q_ref24_Put_27) .ret)))))))))))))))⟩

def q_ref24_Same_0 : List AOper := [
  ⟨(some 2), (.box 26 .ag (.t 0)), none⟩,
  ⟨(some 3), (.box 26 .ag (.t 1)), none⟩,
  ⟨(some 4), (.mv (.v (.bool false))), none⟩]
def q_ref24_Same_1 : List AOper := [
  ⟨(some 6), (.fadr 0 1 .sc (.t 2)), none⟩,
  ⟨(some 7), (.load .sc 1 (.t 6)), none⟩,
  ⟨(some 8), (.fadr 0 1 .sc (.t 3)), none⟩,
  ⟨(some 9), (.load .sc 1 (.t 8)), none⟩,
  ⟨(some 10), (.eq .scI true (.t 7) (.t 9)), none⟩,
  ⟨(some 11), (.mv (.t 10)), none⟩,
  ⟨(some 12), (.fadr 1 1 .sc (.t 2)), (some (11, false))⟩,
  ⟨(some 13), (.load .sc 1 (.t 12)), (some (11, false))⟩,
  ⟨(some 14), (.fadr 1 1 .sc (.t 3)), (some (11, false))⟩,
  ⟨(some 15), (.load .sc 1 (.t 14)), (some (11, false))⟩,
  ⟨(some 16), (.eq .scS true (.t 13) (.t 15)), (some (11, false))⟩,
  ⟨(some 17), (.pick (.t 11) (.v (.bool true)) (.t 16)), none⟩,
  ⟨(some 18), (.mv (.t 17)), none⟩,
  ⟨(some 19), (.fadr 2 1 .sc (.t 2)), (some (18, false))⟩,
  ⟨(some 20), (.load .sc 1 (.t 19)), (some (18, false))⟩,
  ⟨(some 21), (.fadr 2 1 .sc (.t 3)), (some (18, false))⟩,
  ⟨(some 22), (.load .sc 1 (.t 21)), (some (18, false))⟩,
  ⟨(some 23), (.eq .scS true (.t 20) (.t 22)), (some (18, false))⟩,
  ⟨(some 24), (.pick (.t 18) (.v (.bool true)) (.t 23)), none⟩,
  ⟨(some 25), (.mv (.t 24)), none⟩,
  ⟨(some 26), (.fadr 3 1 .sc (.t 2)), (some (25, false))⟩,
  ⟨(some 27), (.load .sc 1 (.t 26)), (some (25, false))⟩,
  ⟨(some 28), (.fadr 3 1 .sc (.t 3)), (some (25, false))⟩,
  ⟨(some 29), (.load .sc 1 (.t 28)), (some (25, false))⟩,
  ⟨(some 30), (.eq .scS true (.t 27) (.t 29)), (some (25, false))⟩,
  ⟨(some 31), (.pick (.t 25) (.v (.bool true)) (.t 30)), none⟩,
  ⟨(some 32), (.mv (.t 31)), none⟩,
  ⟨(some 33), (.fadr 4 1 .sc (.t 2)), (some (32, false))⟩,
  ⟨(some 34), (.load .sc 1 (.t 33)), (some (32, false))⟩,
  ⟨(some 35), (.fadr 4 1 .sc (.t 3)), (some (32, false))⟩,
  ⟨(some 36), (.load .sc 1 (.t 35)), (some (32, false))⟩,
  ⟨(some 37), (.eq .scI true (.t 34) (.t 36)), (some (32, false))⟩,
  ⟨(some 38), (.pick (.t 32) (.v (.bool true)) (.t 37)), none⟩,
  ⟨(some 39), (.mv (.t 38)), none⟩,
  ⟨(some 40), (.fadr 5 1 .sc (.t 2)), (some (39, false))⟩,
  ⟨(some 41), (.load .sc 1 (.t 40)), (some (39, false))⟩,
  ⟨(some 42), (.fadr 5 1 .sc (.t 3)), (some (39, false))⟩,
  ⟨(some 43), (.load .sc 1 (.t 42)), (some (39, false))⟩,
  ⟨(some 44), (.eq .scB true (.t 41) (.t 43)), (some (39, false))⟩,
  ⟨(some 45), (.pick (.t 39) (.v (.bool true)) (.t 44)), none⟩,
  ⟨(some 46), (.mv (.t 45)), none⟩,
  ⟨(some 47), (.fadr 6 1 .sc (.t 2)), (some (46, false))⟩,
  ⟨(some 48), (.load .sc 1 (.t 47)), (some (46, false))⟩,
  ⟨(some 49), (.fadr 6 1 .sc (.t 3)), (some (46, false))⟩,
  ⟨(some 50), (.load .sc 1 (.t 49)), (some (46, false))⟩,
  ⟨(some 51), (.eq .scB true (.t 48) (.t 50)), (some (46, false))⟩,
  ⟨(some 52), (.pick (.t 46) (.v (.bool true)) (.t 51)), none⟩,
  ⟨(some 53), (.mv (.t 52)), none⟩,
  ⟨(some 54), (.fadr 7 1 .sc (.t 2)), (some (53, false))⟩,
  ⟨(some 55), (.load .sc 1 (.t 54)), (some (53, false))⟩,
  ⟨(some 56), (.xx .bstr [(.t 55)]), (some (53, false))⟩,
  ⟨(some 57), (.fadr 7 1 .sc (.t 3)), (some (53, false))⟩,
  ⟨(some 58), (.load .sc 1 (.t 57)), (some (53, false))⟩,
  ⟨(some 59), (.xx .bstr [(.t 58)]), (some (53, false))⟩,
  ⟨(some 60), (.eq .scS true (.t 56) (.t 59)), (some (53, false))⟩,
  ⟨(some 61), (.pick (.t 53) (.v (.bool true)) (.t 60)), none⟩,
  ⟨(some 62), (.mv (.t 61)), none⟩,
  ⟨(some 63), (.fadr 8 32 (.ia .u8 32) (.t 2)), (some (62, false))⟩,
  ⟨(some 64), (.load (.ia .u8 32) 32 (.t 63)), (some (62, false))⟩,
  ⟨(some 65), (.fadr 8 32 (.ia .u8 32) (.t 3)), (some (62, false))⟩,
  ⟨(some 66), (.load (.ia .u8 32) 32 (.t 65)), (some (62, false))⟩,
  ⟨(some 67), (.eq (.ia 32) true (.t 64) (.t 66)), (some (62, false))⟩,
  ⟨(some 68), (.pick (.t 62) (.v (.bool true)) (.t 67)), none⟩,
  ⟨(some 69), (.mv (.t 68)), none⟩,
  ⟨(some 70), (.fadr 40 1 .sc (.t 2)), (some (69, false))⟩,
  ⟨(some 71), (.load .sc 1 (.t 70)), (some (69, false))⟩,
  ⟨(some 72), (.len false (.t 71)), (some (69, false))⟩,
  ⟨(some 73), (.fadr 40 1 .sc (.t 3)), (some (69, false))⟩,
  ⟨(some 74), (.load .sc 1 (.t 73)), (some (69, false))⟩,
  ⟨(some 75), (.len false (.t 74)), (some (69, false))⟩,
  ⟨(some 76), (.eq .scI true (.t 72) (.t 75)), (some (69, false))⟩,
  ⟨(some 77), (.pick (.t 69) (.v (.bool true)) (.t 76)), none⟩]
def q_ref24_Same_2 : List AOper := [
  ⟨(some 4), (.mv (.v (.bool false))), none⟩]
def q_ref24_Same_3 : List AOper := [
  ⟨(some 5), (.mv (.v (.int .i64 0))), none⟩]
def q_ref24_Same_4 : List AOper := [
  ⟨(some 78), (.mv (.t 5)), none⟩,
  ⟨(some 79), (.fadr 40 1 .sc (.t 2)), none⟩,
  ⟨(some 80), (.load .sc 1 (.t 79)), none⟩,
  ⟨(some 81), (.len false (.t 80)), none⟩,
  ⟨(some 82), (.bin .lss (.t 78) (.t 81)), none⟩]
def q_ref24_Same_5 : List DOp := [
  ⟨⟨(some 85), (.fadr 40 1 .sc (.t 2)), none⟩, true, false, none, []⟩,
  ⟨⟨(some 86), (.load .sc 1 (.t 85)), none⟩, true, false, none, []⟩,
  ⟨⟨(some 87), (.mv (.t 5)), none⟩, true, false, none, []⟩,
  ⟨⟨(some 88), (.idx 32 (.t 86) (.t 87)), none⟩, true, false, none, []⟩,
  ⟨⟨(some 89), (.load (.ia .u8 32) 32 (.t 88)), none⟩, true, false, none, []⟩,
  ⟨⟨(some 90), (.fadr 40 1 .sc (.t 3)), none⟩, true, false, none, []⟩,
  ⟨⟨(some 91), (.load .sc 1 (.t 90)), none⟩, true, false, none, []⟩,
  ⟨⟨(some 92), (.mv (.t 5)), none⟩, true, false, none, []⟩,
  ⟨⟨(some 93), (.idx 32 (.t 91) (.t 92)), none⟩, true, false, none, []⟩,
  ⟨⟨(some 94), (.load (.ia .u8 32) 32 (.t 93)), none⟩, true, false, none, []⟩,
  ⟨⟨(some 95), (.eq (.ia 32) true (.t 89) (.t 94)), none⟩, true, false, none, []⟩]
def q_ref24_Same_6 : List AOper := [
  ⟨(some 4), (.mv (.v (.bool false))), none⟩]
def q_ref24_Same_7 : List AOper := [
  ⟨(some 83), (.mv (.t 5)), none⟩,
  ⟨(some 84), (.bin .add (.t 83) (.v (.int .i64 1))), none⟩,
  ⟨(some 5), (.mv (.t 84)), none⟩]
def q_ref24_Same_L8 : ACode := (.seq (.seq (.region q_ref24_Same_4) (.cond (.t 82) .skip (.exit 0))) (.seq (.block 1 (.seq (.regionD q_ref24_Same_5) (.cond (.t 95) (.seq (.region q_ref24_Same_6) .ret) .skip))) (.region q_ref24_Same_7)))
def q_ref24_Same_8 : List AOper := [
  ⟨(some 4), (.mv (.v (.bool true))), none⟩]
def a_ref24_Same : AFunc := ⟨[(.tmp 4)], (.seq (.region q_ref24_Same_0) (.seq (.seq (.region q_ref24_Same_1) (.cond (.t 77) (.seq (.region q_ref24_Same_2) .ret) .skip)) (.seq (.seq (.region q_ref24_Same_3) (.block 0 (.loop q_ref24_Same_L8))) (.seq (.region q_ref24_Same_8) .ret))))⟩

def q_ref24_wrong_0 : List AOper := [
  ⟨(some 1), (.box 26 .ag (.t 0)), none⟩,
  ⟨(some 2), (.mv (.v (.int .i64 0))), none⟩]
def q_ref24_wrong_1 : List AOper := [
  ⟨(some 3), (.fadr 1 1 .sc (.t 1)), none⟩,
  ⟨(some 4), (.load .sc 1 (.t 3)), none⟩,
  ⟨(some 5), (.len true (.t 4)), none⟩,
  ⟨(some 6), (.bin .gtr (.t 5) (.v (.int .i64 63))), none⟩,
  ⟨(some 7), (.mv (.t 6)), none⟩,
  ⟨(some 8), (.fadr 2 1 .sc (.t 1)), (some (7, false))⟩,
  ⟨(some 9), (.load .sc 1 (.t 8)), (some (7, false))⟩,
  ⟨(some 10), (.len true (.t 9)), (some (7, false))⟩,
  ⟨(some 11), (.bin .gtr (.t 10) (.v (.int .i64 63))), (some (7, false))⟩,
  ⟨(some 12), (.pick (.t 7) (.v (.bool true)) (.t 11)), none⟩,
  ⟨(some 13), (.mv (.t 12)), none⟩,
  ⟨(some 14), (.fadr 3 1 .sc (.t 1)), (some (13, false))⟩,
  ⟨(some 15), (.load .sc 1 (.t 14)), (some (13, false))⟩,
  ⟨(some 16), (.len true (.t 15)), (some (13, false))⟩,
  ⟨(some 17), (.bin .gtr (.t 16) (.v (.int .i64 63))), (some (13, false))⟩,
  ⟨(some 18), (.pick (.t 13) (.v (.bool true)) (.t 17)), none⟩,
  ⟨(some 19), (.mv (.t 18)), none⟩,
  ⟨(some 20), (.fadr 7 1 .sc (.t 1)), (some (19, false))⟩,
  ⟨(some 21), (.load .sc 1 (.t 20)), (some (19, false))⟩,
  ⟨(some 22), (.len false (.t 21)), (some (19, false))⟩,
  ⟨(some 23), (.bin .gtr (.t 22) (.v (.int .i64 2049))), (some (19, false))⟩,
  ⟨(some 24), (.pick (.t 19) (.v (.bool true)) (.t 23)), none⟩]
def q_ref24_wrong_2 : List AOper := [
  ⟨(some 2), (.mv (.v (.int .i64 15))), none⟩]
def q_ref24_wrong_3 : List AOper := [
  ⟨(some 25), (.fadr 40 1 .sc (.t 1)), none⟩,
  ⟨(some 26), (.load .sc 1 (.t 25)), none⟩,
  ⟨(some 27), (.len false (.t 26)), none⟩,
  ⟨(some 28), (.bin .gtr (.t 27) (.v (.int .i64 15))), none⟩]
def q_ref24_wrong_4 : List AOper := [
  ⟨(some 2), (.mv (.v (.int .i64 7))), none⟩]
def q_ref24_wrong_5 : List AOper := [
  ⟨(some 2), (.mv (.v (.int .i64 0))), none⟩]
def a_ref24_wrong : AFunc := ⟨[(.tmp 2)], (.seq (.region q_ref24_wrong_0) (.seq (.seq (.region q_ref24_wrong_1) (.cond (.t 24) (.seq (.region q_ref24_wrong_2) .ret) .skip)) (.seq (.seq (.region q_ref24_wrong_3) (.cond (.t 28) (.seq (.region q_ref24_wrong_4) .ret) .skip)) (.seq (.region q_ref24_wrong_5) .ret))))⟩

def q_ref24_text_0 : List AOper := [
  ⟨(some 4), (.mv (.v .nilS)), none⟩]
def q_ref24_text_1 : List AOper := [
  ⟨(some 6), (.mv (.t 0)), none⟩,
  ⟨(some 7), (.mv (.t 1)), none⟩,
  ⟨(some 8), (.len true (.t 7)), none⟩,
  ⟨(some 9), (.conv .u64 (.t 8)), none⟩,
  ⟨(some 10), (.call F_ref01_Put [(.sc, (.t 9)), (.sc, (.v (.int .i64 2)))]), none⟩,
  ⟨(some 11), (.appI 5 .u8 1 (.t 6) (.t 10)), none⟩,
  ⟨(some 5), (.mv (.t 11)), none⟩]
def q_ref24_text_2 : List AOper := [
  ⟨(some 12), (.mv (.t 5)), none⟩,
  ⟨(some 13), (.mv (.t 1)), none⟩,
  ⟨(some 14), (.appI 5 .u8 1 (.t 12) (.t 13)), none⟩,
  ⟨(some 4), (.mv (.t 14)), none⟩]
def a_ref24_text : AFunc := ⟨[(.tmp 4)], (.seq (.region q_ref24_text_0) (.seq (.region q_ref24_text_1) (.seq (.region q_ref24_text_2) .ret)))⟩

def q_law24_ParcelPuts_0 : List AOper := [
  ⟨(some 2), (.box 26 .ag (.t 0)), none⟩,
  ⟨(some 3), (.box 26 .ag (.t 1)), none⟩,
  ⟨(some 4), (.mv (.v (.bool false))), none⟩]
def q_law24_ParcelPuts_1 : List AOper := [
  ⟨(some 9), (.load .ag 41 (.t 2)), none⟩,
  ⟨(some 10), (.call F_law24_Light [(.ag, (.t 9))]), none⟩,
  ⟨(some 11), (.bin .gtr (.t 10) (.v (.int .i64 0))), none⟩,
  ⟨(some 12), (.mv (.t 11)), none⟩,
  ⟨(some 13), (.load .ag 41 (.t 3)), (some (12, false))⟩,
  ⟨(some 14), (.call F_law24_Light [(.ag, (.t 13))]), (some (12, false))⟩,
  ⟨(some 15), (.bin .gtr (.t 14) (.v (.int .i64 0))), (some (12, false))⟩,
  ⟨(some 16), (.pick (.t 12) (.v (.bool true)) (.t 15)), none⟩]
def q_law24_ParcelPuts_2 : List AOper := [
  ⟨(some 17), (.call F_law24_works []), none⟩,
  ⟨(some 4), (.mv (.t 17)), none⟩]
def q_law24_ParcelPuts_3 : List AOper := [
  ⟨(some 19), (.load .ag 41 (.t 2)), none⟩,
  ⟨(some 20), (.call F_parcel_Put [(.ag, (.t 19))]), none⟩,
  ⟨(some 18), (.mv (.t 20)), none⟩,
  ⟨(some 21), (.ext 0 (.t 18)), none⟩,
  ⟨(some 22), (.ext 1 (.t 18)), none⟩,
  ⟨(some 5), (.mv (.t 21)), none⟩,
  ⟨(some 6), (.mv (.t 22)), none⟩]
def q_law24_ParcelPuts_4 : List AOper := [
  ⟨(some 24), (.load .ag 41 (.t 2)), none⟩,
  ⟨(some 25), (.call F_ref24_Put [(.ag, (.t 24))]), none⟩,
  ⟨(some 23), (.mv (.t 25)), none⟩,
  ⟨(some 26), (.ext 0 (.t 23)), none⟩,
  ⟨(some 27), (.ext 1 (.t 23)), none⟩,
  ⟨(some 7), (.mv (.t 26)), none⟩,
  ⟨(some 8), (.mv (.t 27)), none⟩]
def q_law24_ParcelPuts_5 : List DOp := [
  ⟨⟨(some 28), (.mv (.t 5)), none⟩, true, false, none, []⟩,
  ⟨⟨(some 29), (.mv (.t 7)), none⟩, true, false, none, []⟩,
  ⟨⟨(some 30), (.call F_ref01_Same [(.sc, (.t 28)), (.sc, (.t 29))]), none⟩, false, false, none, []⟩,
  ⟨⟨(some 31), (.mv (.t 30)), none⟩, true, false, none, []⟩,
  ⟨⟨(some 32), (.mv (.t 6)), (some (31, true))⟩, true, false, none, []⟩,
  ⟨⟨(some 33), (.mv (.t 8)), (some (31, true))⟩, true, false, none, []⟩,
  ⟨⟨(some 34), (.eq .scI false (.t 32) (.t 33)), (some (31, true))⟩, true, false, none, []⟩,
  ⟨⟨(some 35), (.pick (.t 31) (.t 34) (.v (.bool false))), none⟩, true, false, none, []⟩,
  ⟨⟨(some 36), (.mv (.t 35)), none⟩, true, false, none, []⟩,
  ⟨⟨(some 37), (.load .ag 41 (.t 2)), (some (36, true))⟩, true, false, none, []⟩,
  ⟨⟨(some 38), (.load .ag 41 (.t 3)), (some (36, true))⟩, true, false, none, []⟩,
  ⟨⟨(some 40), (.load .ag 41 (.t 2)), (some (36, true))⟩, true, false, none, []⟩,
  ⟨⟨(some 41), (.load .ag 41 (.t 3)), (some (36, true))⟩, true, false, none, []⟩,
  ⟨⟨(some 39), (.call F_parcel_Same [(.ag, (.t 37)), (.ag, (.t 38))]), (some (36, true))⟩, false, true, (some [3, 2]), []⟩,
  ⟨⟨(some 42), (.call F_ref24_Same [(.ag, (.t 40)), (.ag, (.t 41))]), (some (36, true))⟩, false, false, none, []⟩,
  ⟨⟨(some 43), (.eq .scB false (.t 39) (.t 42)), (some (36, true))⟩, true, false, none, []⟩,
  ⟨⟨(some 44), (.pick (.t 36) (.t 43) (.v (.bool false))), none⟩, true, false, none, []⟩,
  ⟨⟨(some 45), (.mv (.t 44)), none⟩, true, false, none, []⟩,
  ⟨⟨(some 46), (.call F_law24_works []), (some (45, true))⟩, false, false, none, []⟩,
  ⟨⟨(some 47), (.pick (.t 45) (.t 46) (.v (.bool false))), none⟩, true, false, none, []⟩,
  ⟨⟨(some 4), (.mv (.t 47)), none⟩, true, false, none, []⟩]
def a_law24_ParcelPuts : AFunc := ⟨[(.tmp 4)], (.seq (.region q_law24_ParcelPuts_0) (.seq (.seq (.region q_law24_ParcelPuts_1) (.cond (.t 16) (.seq (.region q_law24_ParcelPuts_2) .ret) .skip)) (.seq (.region q_law24_ParcelPuts_3) (.seq (.region q_law24_ParcelPuts_4) (.seq (.regionD q_law24_ParcelPuts_5) .ret)))))⟩

def q_law24_ParcelBack_0 : List AOper := [
  ⟨(some 2), (.box 26 .ag (.t 0)), none⟩,
  ⟨(some 3), (.box 26 .ag (.t 1)), none⟩,
  ⟨(some 4), (.mv (.v (.bool false))), none⟩]
def q_law24_ParcelBack_1 : List AOper := [
  ⟨(some 11), (.load .ag 41 (.t 2)), none⟩,
  ⟨(some 12), (.call F_law24_Light [(.ag, (.t 11))]), none⟩,
  ⟨(some 13), (.bin .gtr (.t 12) (.v (.int .i64 0))), none⟩,
  ⟨(some 14), (.mv (.t 13)), none⟩,
  ⟨(some 15), (.load .ag 41 (.t 3)), (some (14, false))⟩,
  ⟨(some 16), (.call F_law24_Light [(.ag, (.t 15))]), (some (14, false))⟩,
  ⟨(some 17), (.bin .gtr (.t 16) (.v (.int .i64 0))), (some (14, false))⟩,
  ⟨(some 18), (.pick (.t 14) (.v (.bool true)) (.t 17)), none⟩]
def q_law24_ParcelBack_2 : List AOper := [
  ⟨(some 19), (.call F_law24_works []), none⟩,
  ⟨(some 4), (.mv (.t 19)), none⟩]
def q_law24_ParcelBack_3 : List AOper := [
  ⟨(some 21), (.load .ag 41 (.t 2)), none⟩,
  ⟨(some 22), (.call F_parcel_Put [(.ag, (.t 21))]), none⟩,
  ⟨(some 20), (.mv (.t 22)), none⟩,
  ⟨(some 23), (.ext 0 (.t 20)), none⟩,
  ⟨(some 24), (.ext 1 (.t 20)), none⟩,
  ⟨(some 5), (.mv (.t 23)), none⟩,
  ⟨(some 6), (.mv (.t 24)), none⟩]
def q_law24_ParcelBack_4 : List AOper := [
  ⟨(some 26), (.load .ag 41 (.t 3)), none⟩,
  ⟨(some 27), (.call F_parcel_Put [(.ag, (.t 26))]), none⟩,
  ⟨(some 25), (.mv (.t 27)), none⟩,
  ⟨(some 28), (.ext 0 (.t 25)), none⟩,
  ⟨(some 29), (.ext 1 (.t 25)), none⟩,
  ⟨(some 7), (.mv (.t 28)), none⟩,
  ⟨(some 8), (.mv (.t 29)), none⟩]
def q_law24_ParcelBack_5 : List AOper := [
  ⟨(some 30), (.mv (.t 6)), none⟩,
  ⟨(some 31), (.eq .scI true (.t 30) (.v (.int .i64 0))), none⟩]
def q_law24_ParcelBack_6 : List AOper := [
  ⟨(some 32), (.call F_law24_works []), none⟩,
  ⟨(some 4), (.mv (.t 32)), none⟩]
def q_law24_ParcelBack_7 : List AOper := [
  ⟨(some 34), (.mv (.t 5)), none⟩,
  ⟨(some 35), (.call F_parcel_Get [(.sc, (.t 34))]), none⟩,
  ⟨(some 33), (.mv (.t 35)), none⟩,
  ⟨(some 36), (.ext 0 (.t 33)), none⟩,
  ⟨(some 37), (.ext 1 (.t 33)), none⟩,
  ⟨(some 9), (.alloc 26 [(.int .i64 0), (.str ⟨#[]⟩), (.str ⟨#[]⟩), (.str ⟨#[]⟩), (.int .i64 0), (.bool false), (.bool false), .nilS, (.iarr .u8 32 (List.replicate 32 0)), .nilS]), none⟩,
  ⟨none, (.store .ag 41 (.t 9) (.t 36)), none⟩,
  ⟨(some 10), (.mv (.t 37)), none⟩]
def q_law24_ParcelBack_8 : List AOper := [
  ⟨(some 38), (.mv (.t 10)), none⟩,
  ⟨(some 39), (.eq .scI true (.t 38) (.v (.int .i64 0))), none⟩,
  ⟨(some 40), (.mv (.t 39)), none⟩,
  ⟨(some 41), (.load .ag 41 (.t 2)), (some (40, false))⟩,
  ⟨(some 42), (.load .ag 41 (.t 9)), (some (40, false))⟩,
  ⟨(some 43), (.call F_ref24_Same [(.ag, (.t 41)), (.ag, (.t 42))]), (some (40, false))⟩,
  ⟨(some 44), (.un .not (.t 43)), (some (40, false))⟩,
  ⟨(some 45), (.pick (.t 40) (.v (.bool true)) (.t 44)), none⟩]
def q_law24_ParcelBack_9 : List AOper := [
  ⟨(some 4), (.mv (.v (.bool false))), none⟩]
def q_law24_ParcelBack_10 : List DOp := [
  ⟨⟨(some 46), (.mv (.t 8)), none⟩, true, false, none, []⟩,
  ⟨⟨(some 47), (.eq .scI true (.t 46) (.v (.int .i64 0))), none⟩, true, false, none, []⟩,
  ⟨⟨(some 48), (.mv (.t 47)), none⟩, true, false, none, []⟩,
  ⟨⟨(some 49), (.mv (.t 5)), (some (48, false))⟩, true, false, none, []⟩,
  ⟨⟨(some 50), (.mv (.t 7)), (some (48, false))⟩, true, false, none, []⟩,
  ⟨⟨(some 52), (.load .ag 41 (.t 2)), (some (48, false))⟩, true, false, none, []⟩,
  ⟨⟨(some 53), (.load .ag 41 (.t 3)), (some (48, false))⟩, true, false, none, []⟩,
  ⟨⟨(some 51), (.call F_ref01_Same [(.sc, (.t 49)), (.sc, (.t 50))]), (some (48, false))⟩, false, true, (some [3, 2]), []⟩,
  ⟨⟨(some 54), (.call F_ref24_Same [(.ag, (.t 52)), (.ag, (.t 53))]), (some (48, false))⟩, false, false, none, []⟩,
  ⟨⟨(some 55), (.eq .scB false (.t 51) (.t 54)), (some (48, false))⟩, true, false, none, []⟩,
  ⟨⟨(some 56), (.pick (.t 48) (.v (.bool true)) (.t 55)), none⟩, true, false, none, []⟩,
  ⟨⟨(some 57), (.mv (.t 56)), none⟩, true, false, none, []⟩,
  ⟨⟨(some 58), (.call F_law24_works []), (some (57, true))⟩, false, false, none, []⟩,
  ⟨⟨(some 59), (.pick (.t 57) (.t 58) (.v (.bool false))), none⟩, true, false, none, []⟩,
  ⟨⟨(some 4), (.mv (.t 59)), none⟩, true, false, none, []⟩]
def a_law24_ParcelBack : AFunc := ⟨[(.tmp 4)], (.seq (.region q_law24_ParcelBack_0) (.seq (.seq (.region q_law24_ParcelBack_1) (.cond (.t 18) (.seq (.region q_law24_ParcelBack_2) .ret) .skip)) (.seq (.region q_law24_ParcelBack_3) (.seq (.region q_law24_ParcelBack_4) (.seq (.seq (.region q_law24_ParcelBack_5) (.cond (.t 31) (.seq (.region q_law24_ParcelBack_6) .ret) .skip)) (.seq (.region q_law24_ParcelBack_7) (.seq (.seq (.region q_law24_ParcelBack_8) (.cond (.t 45) (.seq (.region q_law24_ParcelBack_9) .ret) .skip)) (.seq (.regionD q_law24_ParcelBack_10) .ret))))))))⟩

def q_law24_ParcelOne_0 : List AOper := [
  ⟨(some 2), (.mv (.v (.bool false))), none⟩]
def q_law24_ParcelOne_1 : List AOper := [
  ⟨(some 7), (.mv (.t 0)), none⟩,
  ⟨(some 8), (.len false (.t 7)), none⟩,
  ⟨(some 9), (.bin .gtr (.t 8) (.v (.int .i64 4000))), none⟩]
def q_law24_ParcelOne_2 : List AOper := [
  ⟨(some 10), (.call F_law24_works []), none⟩,
  ⟨(some 2), (.mv (.t 10)), none⟩]
def q_law24_ParcelOne_3 : List AOper := [
  ⟨(some 12), (.mv (.t 0)), none⟩,
  ⟨(some 13), (.call F_parcel_Get [(.sc, (.t 12))]), none⟩,
  ⟨(some 11), (.mv (.t 13)), none⟩,
  ⟨(some 14), (.ext 0 (.t 11)), none⟩,
  ⟨(some 15), (.ext 1 (.t 11)), none⟩,
  ⟨(some 3), (.alloc 26 [(.int .i64 0), (.str ⟨#[]⟩), (.str ⟨#[]⟩), (.str ⟨#[]⟩), (.int .i64 0), (.bool false), (.bool false), .nilS, (.iarr .u8 32 (List.replicate 32 0)), .nilS]), none⟩,
  ⟨none, (.store .ag 41 (.t 3) (.t 14)), none⟩,
  ⟨(some 4), (.mv (.t 15)), none⟩]
def q_law24_ParcelOne_4 : List AOper := [
  ⟨(some 16), (.mv (.t 4)), none⟩,
  ⟨(some 17), (.eq .scI true (.t 16) (.v (.int .i64 0))), none⟩]
def q_law24_ParcelOne_5 : List AOper := [
  ⟨(some 18), (.mv (.t 4)), none⟩,
  ⟨(some 19), (.eq .scI false (.t 18) (.v (.int .i64 3))), none⟩,
  ⟨(some 20), (.mv (.t 19)), none⟩,
  ⟨(some 21), (.load .ag 41 (.t 3)), (some (20, true))⟩,
  ⟨(some 22), (.build .ag [(.int .i64 0), (.str ⟨#[]⟩), (.str ⟨#[]⟩), (.str ⟨#[]⟩), (.int .i64 0), (.bool false), (.bool false), .nilS, (.iarr .u8 32 (List.replicate 32 0)), .nilS] []), (some (20, true))⟩,
  ⟨(some 23), (.call F_ref24_Same [(.ag, (.t 21)), (.ag, (.t 22))]), (some (20, true))⟩,
  ⟨(some 24), (.pick (.t 20) (.t 23) (.v (.bool false))), none⟩,
  ⟨(some 25), (.mv (.t 24)), none⟩,
  ⟨(some 26), (.call F_law24_works []), (some (25, true))⟩,
  ⟨(some 27), (.pick (.t 25) (.t 26) (.v (.bool false))), none⟩,
  ⟨(some 2), (.mv (.t 27)), none⟩]
def q_law24_ParcelOne_6 : List AOper := [
  ⟨(some 29), (.load .ag 41 (.t 3)), none⟩,
  ⟨(some 30), (.call F_parcel_Put [(.ag, (.t 29))]), none⟩,
  ⟨(some 28), (.mv (.t 30)), none⟩,
  ⟨(some 31), (.ext 0 (.t 28)), none⟩,
  ⟨(some 32), (.ext 1 (.t 28)), none⟩,
  ⟨(some 5), (.mv (.t 31)), none⟩,
  ⟨(some 6), (.mv (.t 32)), none⟩]
def q_law24_ParcelOne_7 : List AOper := [
  ⟨(some 33), (.mv (.t 6)), none⟩,
  ⟨(some 34), (.eq .scI false (.t 33) (.v (.int .i64 0))), none⟩,
  ⟨(some 35), (.mv (.t 34)), none⟩,
  ⟨(some 36), (.mv (.t 0)), (some (35, true))⟩,
  ⟨(some 37), (.mv (.t 5)), (some (35, true))⟩,
  ⟨(some 38), (.call F_ref01_Same [(.sc, (.t 36)), (.sc, (.t 37))]), (some (35, true))⟩,
  ⟨(some 39), (.pick (.t 35) (.t 38) (.v (.bool false))), none⟩,
  ⟨(some 40), (.mv (.t 39)), none⟩,
  ⟨(some 41), (.call F_law24_works []), (some (40, true))⟩,
  ⟨(some 42), (.pick (.t 40) (.t 41) (.v (.bool false))), none⟩,
  ⟨(some 2), (.mv (.t 42)), none⟩]
def a_law24_ParcelOne : AFunc := ⟨[(.tmp 2)], (.seq (.region q_law24_ParcelOne_0) (.seq (.seq (.region q_law24_ParcelOne_1) (.cond (.t 9) (.seq (.region q_law24_ParcelOne_2) .ret) .skip)) (.seq (.region q_law24_ParcelOne_3) (.seq (.seq (.region q_law24_ParcelOne_4) (.cond (.t 17) (.seq (.region q_law24_ParcelOne_5) .ret) .skip)) (.seq (.region q_law24_ParcelOne_6) (.seq (.region q_law24_ParcelOne_7) .ret))))))⟩

def q_law24_Light_0 : List AOper := [
  ⟨(some 1), (.box 26 .ag (.t 0)), none⟩,
  ⟨(some 2), (.mv (.v (.int .i64 0))), none⟩]
def q_law24_Light_1 : List AOper := [
  ⟨(some 3), (.fadr 1 1 .sc (.t 1)), none⟩,
  ⟨(some 4), (.load .sc 1 (.t 3)), none⟩,
  ⟨(some 5), (.len true (.t 4)), none⟩,
  ⟨(some 6), (.bin .gtr (.t 5) (.v (.int .i64 200))), none⟩,
  ⟨(some 7), (.mv (.t 6)), none⟩,
  ⟨(some 8), (.fadr 2 1 .sc (.t 1)), (some (7, false))⟩,
  ⟨(some 9), (.load .sc 1 (.t 8)), (some (7, false))⟩,
  ⟨(some 10), (.len true (.t 9)), (some (7, false))⟩,
  ⟨(some 11), (.bin .gtr (.t 10) (.v (.int .i64 200))), (some (7, false))⟩,
  ⟨(some 12), (.pick (.t 7) (.v (.bool true)) (.t 11)), none⟩,
  ⟨(some 13), (.mv (.t 12)), none⟩,
  ⟨(some 14), (.fadr 3 1 .sc (.t 1)), (some (13, false))⟩,
  ⟨(some 15), (.load .sc 1 (.t 14)), (some (13, false))⟩,
  ⟨(some 16), (.len true (.t 15)), (some (13, false))⟩,
  ⟨(some 17), (.bin .gtr (.t 16) (.v (.int .i64 200))), (some (13, false))⟩,
  ⟨(some 18), (.pick (.t 13) (.v (.bool true)) (.t 17)), none⟩,
  ⟨(some 19), (.mv (.t 18)), none⟩,
  ⟨(some 20), (.fadr 7 1 .sc (.t 1)), (some (19, false))⟩,
  ⟨(some 21), (.load .sc 1 (.t 20)), (some (19, false))⟩,
  ⟨(some 22), (.len false (.t 21)), (some (19, false))⟩,
  ⟨(some 23), (.bin .gtr (.t 22) (.v (.int .i64 3000))), (some (19, false))⟩,
  ⟨(some 24), (.pick (.t 19) (.v (.bool true)) (.t 23)), none⟩,
  ⟨(some 25), (.mv (.t 24)), none⟩,
  ⟨(some 26), (.fadr 40 1 .sc (.t 1)), (some (25, false))⟩,
  ⟨(some 27), (.load .sc 1 (.t 26)), (some (25, false))⟩,
  ⟨(some 28), (.len false (.t 27)), (some (25, false))⟩,
  ⟨(some 29), (.bin .gtr (.t 28) (.v (.int .i64 30))), (some (25, false))⟩,
  ⟨(some 30), (.pick (.t 25) (.v (.bool true)) (.t 29)), none⟩]
def q_law24_Light_2 : List AOper := [
  ⟨(some 2), (.mv (.v (.int .i64 1))), none⟩]
def q_law24_Light_3 : List AOper := [
  ⟨(some 2), (.mv (.v (.int .i64 0))), none⟩]
def a_law24_Light : AFunc := ⟨[(.tmp 2)], (.seq (.region q_law24_Light_0) (.seq (.seq (.region q_law24_Light_1) (.cond (.t 30) (.seq (.region q_law24_Light_2) .ret) .skip)) (.seq (.region q_law24_Light_3) .ret)))⟩

def q_law24_works_0 : List AOper := [
  ⟨(some 0), (.mv (.v (.bool false))), none⟩]
def q_law24_works_1 : List AOper := [
  ⟨(some 12), (.bslI 5 .u8 [(.v (.int .u8 120))]), none⟩,
  ⟨(some 13), (.xx .sealB [(.t 12)]), none⟩,
  ⟨(some 14), (.build (.ia .u8 32) [(.iarr .u8 32 (List.replicate 32 0))] [(0, (1, (.v (.int .u8 1))))]), none⟩,
  ⟨(some 15), (.build (.ia .u8 32) [(.iarr .u8 32 (List.replicate 32 0))] [(0, (1, (.v (.int .u8 2))))]), none⟩,
  ⟨(some 16), (.build (.ia .u8 32) [(.iarr .u8 32 (List.replicate 32 0))] [(0, (1, (.v (.int .u8 3))))]), none⟩,
  ⟨(some 17), (.bsl 23 (.ia .u8 32) 32 [(.t 15), (.t 16)]), none⟩,
  ⟨(some 18), (.build .ag [(.int .i64 0), (.str ⟨#[]⟩), (.str ⟨#[]⟩), (.str ⟨#[]⟩), (.int .i64 0), (.bool false), (.bool false), .nilS, (.iarr .u8 32 (List.replicate 32 0)), .nilS] [(0, (1, (.v (.int .i64 5)))), (1, (1, (.v (.str ⟨#[116, 97, 120]⟩)))), (4, (1, (.v (.int .i64 (-1))))), (6, (1, (.v (.bool true)))), (7, (1, (.t 13))), (8, (32, (.t 14))), (40, (1, (.t 17)))]), none⟩,
  ⟨(some 1), (.alloc 26 [(.int .i64 0), (.str ⟨#[]⟩), (.str ⟨#[]⟩), (.str ⟨#[]⟩), (.int .i64 0), (.bool false), (.bool false), .nilS, (.iarr .u8 32 (List.replicate 32 0)), .nilS]), none⟩,
  ⟨none, (.store .ag 41 (.t 1) (.t 18)), none⟩]
def q_law24_works_2 : List AOper := [
  ⟨(some 20), (.load .ag 41 (.t 1)), none⟩,
  ⟨(some 21), (.call F_parcel_Put [(.ag, (.t 20))]), none⟩,
  ⟨(some 19), (.mv (.t 21)), none⟩,
  ⟨(some 22), (.ext 0 (.t 19)), none⟩,
  ⟨(some 23), (.ext 1 (.t 19)), none⟩,
  ⟨(some 2), (.mv (.t 22)), none⟩,
  ⟨(some 3), (.mv (.t 23)), none⟩]
def q_law24_works_3 : List AOper := [
  ⟨(some 25), (.mv (.t 2)), none⟩,
  ⟨(some 26), (.call F_parcel_Get [(.sc, (.t 25))]), none⟩,
  ⟨(some 24), (.mv (.t 26)), none⟩,
  ⟨(some 27), (.ext 0 (.t 24)), none⟩,
  ⟨(some 28), (.ext 1 (.t 24)), none⟩,
  ⟨(some 4), (.alloc 26 [(.int .i64 0), (.str ⟨#[]⟩), (.str ⟨#[]⟩), (.str ⟨#[]⟩), (.int .i64 0), (.bool false), (.bool false), .nilS, (.iarr .u8 32 (List.replicate 32 0)), .nilS]), none⟩,
  ⟨none, (.store .ag 41 (.t 4) (.t 27)), none⟩,
  ⟨(some 5), (.mv (.t 28)), none⟩]
def q_law24_works_4 : List AOper := [
  ⟨(some 30), (.mv (.t 2)), none⟩,
  ⟨(some 31), (.bslI 5 .u8 [(.v (.int .u8 0))]), none⟩,
  ⟨(some 32), (.appI 5 .u8 1 (.t 30) (.t 31)), none⟩,
  ⟨(some 33), (.call F_parcel_Get [(.sc, (.t 32))]), none⟩,
  ⟨(some 29), (.mv (.t 33)), none⟩,
  ⟨(some 34), (.ext 0 (.t 29)), none⟩,
  ⟨(some 35), (.ext 1 (.t 29)), none⟩,
  ⟨(some 6), (.alloc 26 [(.int .i64 0), (.str ⟨#[]⟩), (.str ⟨#[]⟩), (.str ⟨#[]⟩), (.int .i64 0), (.bool false), (.bool false), .nilS, (.iarr .u8 32 (List.replicate 32 0)), .nilS]), none⟩,
  ⟨none, (.store .ag 41 (.t 6) (.t 34)), none⟩,
  ⟨(some 7), (.mv (.t 35)), none⟩]
def q_law24_works_5 : List AOper := [
  ⟨(some 37), (.mkI 5 .u8 1 (.v (.int .i64 64)) (.v (.int .i64 64))), none⟩,
  ⟨(some 38), (.xx .bstr [(.t 37)]), none⟩,
  ⟨(some 39), (.build .ag [(.int .i64 0), (.str ⟨#[]⟩), (.str ⟨#[]⟩), (.str ⟨#[]⟩), (.int .i64 0), (.bool false), (.bool false), .nilS, (.iarr .u8 32 (List.replicate 32 0)), .nilS] [(1, (1, (.t 38)))]), none⟩,
  ⟨(some 40), (.call F_parcel_Put [(.ag, (.t 39))]), none⟩,
  ⟨(some 36), (.mv (.t 40)), none⟩,
  ⟨(some 41), (.ext 0 (.t 36)), none⟩,
  ⟨(some 42), (.ext 1 (.t 36)), none⟩,
  ⟨(some 8), (.mv (.t 41)), none⟩,
  ⟨(some 9), (.mv (.t 42)), none⟩]
def q_law24_works_6 : List AOper := [
  ⟨(some 44), (.mk 23 32 32 (.iarr .u8 32 (List.replicate 32 0)) (.v (.int .i64 16)) (.v (.int .i64 16))), none⟩,
  ⟨(some 45), (.build .ag [(.int .i64 0), (.str ⟨#[]⟩), (.str ⟨#[]⟩), (.str ⟨#[]⟩), (.int .i64 0), (.bool false), (.bool false), .nilS, (.iarr .u8 32 (List.replicate 32 0)), .nilS] [(40, (1, (.t 44)))]), none⟩,
  ⟨(some 46), (.call F_parcel_Put [(.ag, (.t 45))]), none⟩,
  ⟨(some 43), (.mv (.t 46)), none⟩,
  ⟨(some 47), (.ext 0 (.t 43)), none⟩,
  ⟨(some 48), (.ext 1 (.t 43)), none⟩,
  ⟨(some 10), (.mv (.t 47)), none⟩,
  ⟨(some 11), (.mv (.t 48)), none⟩]
def q_law24_works_7 : List AOper := [
  ⟨(some 49), (.mv (.t 3)), none⟩,
  ⟨(some 50), (.eq .scI false (.t 49) (.v (.int .i64 0))), none⟩,
  ⟨(some 51), (.mv (.t 50)), none⟩,
  ⟨(some 52), (.mv (.t 5)), (some (51, true))⟩,
  ⟨(some 53), (.eq .scI false (.t 52) (.v (.int .i64 0))), (some (51, true))⟩,
  ⟨(some 54), (.pick (.t 51) (.t 53) (.v (.bool false))), none⟩,
  ⟨(some 55), (.mv (.t 54)), none⟩,
  ⟨(some 56), (.load .ag 41 (.t 1)), (some (55, true))⟩,
  ⟨(some 57), (.load .ag 41 (.t 4)), (some (55, true))⟩,
  ⟨(some 58), (.call F_ref24_Same [(.ag, (.t 56)), (.ag, (.t 57))]), (some (55, true))⟩,
  ⟨(some 59), (.pick (.t 55) (.t 58) (.v (.bool false))), none⟩,
  ⟨(some 60), (.mv (.t 59)), none⟩,
  ⟨(some 61), (.mv (.t 7)), (some (60, true))⟩,
  ⟨(some 62), (.eq .scI false (.t 61) (.v (.int .i64 3))), (some (60, true))⟩,
  ⟨(some 63), (.pick (.t 60) (.t 62) (.v (.bool false))), none⟩,
  ⟨(some 64), (.mv (.t 63)), none⟩,
  ⟨(some 65), (.mv (.t 9)), (some (64, true))⟩,
  ⟨(some 66), (.eq .scI false (.t 65) (.v (.int .i64 15))), (some (64, true))⟩,
  ⟨(some 67), (.pick (.t 64) (.t 66) (.v (.bool false))), none⟩,
  ⟨(some 68), (.mv (.t 67)), none⟩,
  ⟨(some 69), (.mv (.t 11)), (some (68, true))⟩,
  ⟨(some 70), (.eq .scI false (.t 69) (.v (.int .i64 7))), (some (68, true))⟩,
  ⟨(some 71), (.pick (.t 68) (.t 70) (.v (.bool false))), none⟩,
  ⟨(some 72), (.mv (.t 71)), none⟩,
  ⟨(some 73), (.load .ag 41 (.t 1)), (some (72, true))⟩,
  ⟨(some 74), (.load .ag 41 (.t 4)), (some (72, true))⟩,
  ⟨(some 75), (.call F_parcel_Same [(.ag, (.t 73)), (.ag, (.t 74))]), (some (72, true))⟩,
  ⟨(some 76), (.pick (.t 72) (.t 75) (.v (.bool false))), none⟩,
  ⟨(some 77), (.mv (.t 76)), none⟩,
  ⟨(some 78), (.load .ag 41 (.t 1)), (some (77, true))⟩,
  ⟨(some 79), (.build .ag [(.int .i64 0), (.str ⟨#[]⟩), (.str ⟨#[]⟩), (.str ⟨#[]⟩), (.int .i64 0), (.bool false), (.bool false), .nilS, (.iarr .u8 32 (List.replicate 32 0)), .nilS] []), (some (77, true))⟩,
  ⟨(some 80), (.call F_parcel_Same [(.ag, (.t 78)), (.ag, (.t 79))]), (some (77, true))⟩,
  ⟨(some 81), (.un .not (.t 80)), (some (77, true))⟩,
  ⟨(some 82), (.pick (.t 77) (.t 81) (.v (.bool false))), none⟩,
  ⟨(some 0), (.mv (.t 82)), none⟩]
def a_law24_works : AFunc := ⟨[(.tmp 0)], (.seq (.region q_law24_works_0) (.seq (.region q_law24_works_1) (.seq (.region q_law24_works_2) (.seq (.region q_law24_works_3) (.seq (.region q_law24_works_4) (.seq (.region q_law24_works_5) (.seq (.region q_law24_works_6) (.seq (.region q_law24_works_7) .ret))))))))⟩


theorem c_parcel_Put : trF Try.prog Try.f17 = some a_parcel_Put := by kernel_rfl
theorem g_parcel_Put : Try.prog.funcs[17]? = some Try.f17 := by kernel_rfl
theorem i_parcel_Put {args : List AV} {A : Heap} {Ko : AOut → Heap → Prop} (hn : args.length ≤ 8)
    (h : ∀ R : APost, (∀ e env A, fpost a_parcel_Put.res Ko e env A → R e env A) → X Try.prog R a_parcel_Put.body .done (env0 args) A) : SimX Try.prog F_parcel_Put args A Ko :=
  X_intro g_parcel_Put c_parcel_Put (by rw [Try.ntmps17]; exact hn) h
theorem v_parcel_Put {args : List AV} {v : AV} (hn : args.length ≤ 8) (h : X Try.prog (fin a_parcel_Put.res v) a_parcel_Put.body .done (env0 args) H0) : Gives Try.prog F_parcel_Put args v :=
  Gives_intro g_parcel_Put c_parcel_Put (by rw [Try.ntmps17]; exact hn) h
theorem e_parcel_Put {args : List AV} {Q : AOut → Prop} (hn : args.length ≤ 8) (h : X Try.prog (finE a_parcel_Put.res Q) a_parcel_Put.body .done (env0 args) H0) : Fins Try.prog F_parcel_Put args Q :=
  Fins_intro g_parcel_Put c_parcel_Put (by rw [Try.ntmps17]; exact hn) h
theorem j_parcel_Put {args : List AV} {A : Heap} {K Kp : AV → Heap → Prop} (hn : args.length ≤ 8) (h : X Try.prog (inl a_parcel_Put.res K Kp) a_parcel_Put.body .done (env0 args) A) : SimX Try.prog F_parcel_Put args A (outK K Kp) :=
  X_inl g_parcel_Put c_parcel_Put (by rw [Try.ntmps17]; exact hn) h
theorem d_parcel_Put {args : List AV} {A : Heap} {Ko : AOut → Heap → Prop} (hn : args.length ≤ 8)
    (h : ∀ R : APost, (∀ e env A, fpost a_parcel_Put.res Ko e env A → R e env A) → X Try.prog R a_parcel_Put.body .done (env0 args) A) : SimD Try.prog F_parcel_Put args A Ko :=
  X_introD g_parcel_Put c_parcel_Put (by rw [Try.ntmps17]; exact hn) h
@[simp] theorem k_parcel_Put : callable Try.prog F_parcel_Put = true := by kernel_rfl
theorem c_parcel_Same : trF Try.prog Try.f20 = some a_parcel_Same := by kernel_rfl
theorem g_parcel_Same : Try.prog.funcs[20]? = some Try.f20 := by kernel_rfl
theorem i_parcel_Same {args : List AV} {A : Heap} {Ko : AOut → Heap → Prop} (hn : args.length ≤ 94)
    (h : ∀ R : APost, (∀ e env A, fpost a_parcel_Same.res Ko e env A → R e env A) → X Try.prog R a_parcel_Same.body .done (env0 args) A) : SimX Try.prog F_parcel_Same args A Ko :=
  X_intro g_parcel_Same c_parcel_Same (by rw [Try.ntmps20]; exact hn) h
theorem v_parcel_Same {args : List AV} {v : AV} (hn : args.length ≤ 94) (h : X Try.prog (fin a_parcel_Same.res v) a_parcel_Same.body .done (env0 args) H0) : Gives Try.prog F_parcel_Same args v :=
  Gives_intro g_parcel_Same c_parcel_Same (by rw [Try.ntmps20]; exact hn) h
theorem e_parcel_Same {args : List AV} {Q : AOut → Prop} (hn : args.length ≤ 94) (h : X Try.prog (finE a_parcel_Same.res Q) a_parcel_Same.body .done (env0 args) H0) : Fins Try.prog F_parcel_Same args Q :=
  Fins_intro g_parcel_Same c_parcel_Same (by rw [Try.ntmps20]; exact hn) h
theorem j_parcel_Same {args : List AV} {A : Heap} {K Kp : AV → Heap → Prop} (hn : args.length ≤ 94) (h : X Try.prog (inl a_parcel_Same.res K Kp) a_parcel_Same.body .done (env0 args) A) : SimX Try.prog F_parcel_Same args A (outK K Kp) :=
  X_inl g_parcel_Same c_parcel_Same (by rw [Try.ntmps20]; exact hn) h
theorem d_parcel_Same {args : List AV} {A : Heap} {Ko : AOut → Heap → Prop} (hn : args.length ≤ 94)
    (h : ∀ R : APost, (∀ e env A, fpost a_parcel_Same.res Ko e env A → R e env A) → X Try.prog R a_parcel_Same.body .done (env0 args) A) : SimD Try.prog F_parcel_Same args A Ko :=
  X_introD g_parcel_Same c_parcel_Same (by rw [Try.ntmps20]; exact hn) h
@[simp] theorem k_parcel_Same : callable Try.prog F_parcel_Same = true := by kernel_rfl
theorem c_parcel_Get : trF Try.prog Try.f22 = some a_parcel_Get := by kernel_rfl
theorem g_parcel_Get : Try.prog.funcs[22]? = some Try.f22 := by kernel_rfl
theorem i_parcel_Get {args : List AV} {A : Heap} {Ko : AOut → Heap → Prop} (hn : args.length ≤ 13)
    (h : ∀ R : APost, (∀ e env A, fpost a_parcel_Get.res Ko e env A → R e env A) → X Try.prog R a_parcel_Get.body .done (env0 args) A) : SimX Try.prog F_parcel_Get args A Ko :=
  X_intro g_parcel_Get c_parcel_Get (by rw [Try.ntmps22]; exact hn) h
theorem v_parcel_Get {args : List AV} {v : AV} (hn : args.length ≤ 13) (h : X Try.prog (fin a_parcel_Get.res v) a_parcel_Get.body .done (env0 args) H0) : Gives Try.prog F_parcel_Get args v :=
  Gives_intro g_parcel_Get c_parcel_Get (by rw [Try.ntmps22]; exact hn) h
theorem e_parcel_Get {args : List AV} {Q : AOut → Prop} (hn : args.length ≤ 13) (h : X Try.prog (finE a_parcel_Get.res Q) a_parcel_Get.body .done (env0 args) H0) : Fins Try.prog F_parcel_Get args Q :=
  Fins_intro g_parcel_Get c_parcel_Get (by rw [Try.ntmps22]; exact hn) h
theorem j_parcel_Get {args : List AV} {A : Heap} {K Kp : AV → Heap → Prop} (hn : args.length ≤ 13) (h : X Try.prog (inl a_parcel_Get.res K Kp) a_parcel_Get.body .done (env0 args) A) : SimX Try.prog F_parcel_Get args A (outK K Kp) :=
  X_inl g_parcel_Get c_parcel_Get (by rw [Try.ntmps22]; exact hn) h
theorem d_parcel_Get {args : List AV} {A : Heap} {Ko : AOut → Heap → Prop} (hn : args.length ≤ 13)
    (h : ∀ R : APost, (∀ e env A, fpost a_parcel_Get.res Ko e env A → R e env A) → X Try.prog R a_parcel_Get.body .done (env0 args) A) : SimD Try.prog F_parcel_Get args A Ko :=
  X_introD g_parcel_Get c_parcel_Get (by rw [Try.ntmps22]; exact hn) h
@[simp] theorem k_parcel_Get : callable Try.prog F_parcel_Get = true := by kernel_rfl
theorem c_parcel_Put_1 : trF Try.prog Try.f75 = some a_parcel_Put_1 := by kernel_rfl
theorem g_parcel_Put_1 : Try.prog.funcs[75]? = some Try.f75 := by kernel_rfl
theorem i_parcel_Put_1 {args : List AV} {A : Heap} {Ko : AOut → Heap → Prop} (hn : args.length ≤ 4)
    (h : ∀ R : APost, (∀ e env A, fpost a_parcel_Put_1.res Ko e env A → R e env A) → X Try.prog R a_parcel_Put_1.body .done (env0 args) A) : SimX Try.prog F_parcel_Put_1 args A Ko :=
  X_intro g_parcel_Put_1 c_parcel_Put_1 (by rw [Try.ntmps75]; exact hn) h
theorem v_parcel_Put_1 {args : List AV} {v : AV} (hn : args.length ≤ 4) (h : X Try.prog (fin a_parcel_Put_1.res v) a_parcel_Put_1.body .done (env0 args) H0) : Gives Try.prog F_parcel_Put_1 args v :=
  Gives_intro g_parcel_Put_1 c_parcel_Put_1 (by rw [Try.ntmps75]; exact hn) h
theorem e_parcel_Put_1 {args : List AV} {Q : AOut → Prop} (hn : args.length ≤ 4) (h : X Try.prog (finE a_parcel_Put_1.res Q) a_parcel_Put_1.body .done (env0 args) H0) : Fins Try.prog F_parcel_Put_1 args Q :=
  Fins_intro g_parcel_Put_1 c_parcel_Put_1 (by rw [Try.ntmps75]; exact hn) h
theorem j_parcel_Put_1 {args : List AV} {A : Heap} {K Kp : AV → Heap → Prop} (hn : args.length ≤ 4) (h : X Try.prog (inl a_parcel_Put_1.res K Kp) a_parcel_Put_1.body .done (env0 args) A) : SimX Try.prog F_parcel_Put_1 args A (outK K Kp) :=
  X_inl g_parcel_Put_1 c_parcel_Put_1 (by rw [Try.ntmps75]; exact hn) h
theorem d_parcel_Put_1 {args : List AV} {A : Heap} {Ko : AOut → Heap → Prop} (hn : args.length ≤ 4)
    (h : ∀ R : APost, (∀ e env A, fpost a_parcel_Put_1.res Ko e env A → R e env A) → X Try.prog R a_parcel_Put_1.body .done (env0 args) A) : SimD Try.prog F_parcel_Put_1 args A Ko :=
  X_introD g_parcel_Put_1 c_parcel_Put_1 (by rw [Try.ntmps75]; exact hn) h
@[simp] theorem k_parcel_Put_1 : callable Try.prog F_parcel_Put_1 = true := by kernel_rfl
theorem c_parcel_put : trF Try.prog Try.f76 = some a_parcel_put := by kernel_rfl
theorem g_parcel_put : Try.prog.funcs[76]? = some Try.f76 := by kernel_rfl
theorem i_parcel_put {args : List AV} {A : Heap} {Ko : AOut → Heap → Prop} (hn : args.length ≤ 92)
    (h : ∀ R : APost, (∀ e env A, fpost a_parcel_put.res Ko e env A → R e env A) → X Try.prog R a_parcel_put.body .done (env0 args) A) : SimX Try.prog F_parcel_put args A Ko :=
  X_intro g_parcel_put c_parcel_put (by rw [Try.ntmps76]; exact hn) h
theorem v_parcel_put {args : List AV} {v : AV} (hn : args.length ≤ 92) (h : X Try.prog (fin a_parcel_put.res v) a_parcel_put.body .done (env0 args) H0) : Gives Try.prog F_parcel_put args v :=
  Gives_intro g_parcel_put c_parcel_put (by rw [Try.ntmps76]; exact hn) h
theorem e_parcel_put {args : List AV} {Q : AOut → Prop} (hn : args.length ≤ 92) (h : X Try.prog (finE a_parcel_put.res Q) a_parcel_put.body .done (env0 args) H0) : Fins Try.prog F_parcel_put args Q :=
  Fins_intro g_parcel_put c_parcel_put (by rw [Try.ntmps76]; exact hn) h
theorem j_parcel_put {args : List AV} {A : Heap} {K Kp : AV → Heap → Prop} (hn : args.length ≤ 92) (h : X Try.prog (inl a_parcel_put.res K Kp) a_parcel_put.body .done (env0 args) A) : SimX Try.prog F_parcel_put args A (outK K Kp) :=
  X_inl g_parcel_put c_parcel_put (by rw [Try.ntmps76]; exact hn) h
theorem d_parcel_put {args : List AV} {A : Heap} {Ko : AOut → Heap → Prop} (hn : args.length ≤ 92)
    (h : ∀ R : APost, (∀ e env A, fpost a_parcel_put.res Ko e env A → R e env A) → X Try.prog R a_parcel_put.body .done (env0 args) A) : SimD Try.prog F_parcel_put args A Ko :=
  X_introD g_parcel_put c_parcel_put (by rw [Try.ntmps76]; exact hn) h
@[simp] theorem k_parcel_put : callable Try.prog F_parcel_put = true := by kernel_rfl
theorem c_parcel_mark : trF Try.prog Try.f115 = some a_parcel_mark := by kernel_rfl
theorem g_parcel_mark : Try.prog.funcs[115]? = some Try.f115 := by kernel_rfl
theorem i_parcel_mark {args : List AV} {A : Heap} {Ko : AOut → Heap → Prop} (hn : args.length ≤ 2)
    (h : ∀ R : APost, (∀ e env A, fpost a_parcel_mark.res Ko e env A → R e env A) → X Try.prog R a_parcel_mark.body .done (env0 args) A) : SimX Try.prog F_parcel_mark args A Ko :=
  X_intro g_parcel_mark c_parcel_mark (by rw [Try.ntmps115]; exact hn) h
theorem v_parcel_mark {args : List AV} {v : AV} (hn : args.length ≤ 2) (h : X Try.prog (fin a_parcel_mark.res v) a_parcel_mark.body .done (env0 args) H0) : Gives Try.prog F_parcel_mark args v :=
  Gives_intro g_parcel_mark c_parcel_mark (by rw [Try.ntmps115]; exact hn) h
theorem e_parcel_mark {args : List AV} {Q : AOut → Prop} (hn : args.length ≤ 2) (h : X Try.prog (finE a_parcel_mark.res Q) a_parcel_mark.body .done (env0 args) H0) : Fins Try.prog F_parcel_mark args Q :=
  Fins_intro g_parcel_mark c_parcel_mark (by rw [Try.ntmps115]; exact hn) h
theorem j_parcel_mark {args : List AV} {A : Heap} {K Kp : AV → Heap → Prop} (hn : args.length ≤ 2) (h : X Try.prog (inl a_parcel_mark.res K Kp) a_parcel_mark.body .done (env0 args) A) : SimX Try.prog F_parcel_mark args A (outK K Kp) :=
  X_inl g_parcel_mark c_parcel_mark (by rw [Try.ntmps115]; exact hn) h
theorem d_parcel_mark {args : List AV} {A : Heap} {Ko : AOut → Heap → Prop} (hn : args.length ≤ 2)
    (h : ∀ R : APost, (∀ e env A, fpost a_parcel_mark.res Ko e env A → R e env A) → X Try.prog R a_parcel_mark.body .done (env0 args) A) : SimD Try.prog F_parcel_mark args A Ko :=
  X_introD g_parcel_mark c_parcel_mark (by rw [Try.ntmps115]; exact hn) h
@[simp] theorem k_parcel_mark : callable Try.prog F_parcel_mark = true := by kernel_rfl
theorem c_parcel_text : trF Try.prog Try.f116 = some a_parcel_text := by kernel_rfl
theorem g_parcel_text : Try.prog.funcs[116]? = some Try.f116 := by kernel_rfl
theorem i_parcel_text {args : List AV} {A : Heap} {Ko : AOut → Heap → Prop} (hn : args.length ≤ 16)
    (h : ∀ R : APost, (∀ e env A, fpost a_parcel_text.res Ko e env A → R e env A) → X Try.prog R a_parcel_text.body .done (env0 args) A) : SimX Try.prog F_parcel_text args A Ko :=
  X_intro g_parcel_text c_parcel_text (by rw [Try.ntmps116]; exact hn) h
theorem v_parcel_text {args : List AV} {v : AV} (hn : args.length ≤ 16) (h : X Try.prog (fin a_parcel_text.res v) a_parcel_text.body .done (env0 args) H0) : Gives Try.prog F_parcel_text args v :=
  Gives_intro g_parcel_text c_parcel_text (by rw [Try.ntmps116]; exact hn) h
theorem e_parcel_text {args : List AV} {Q : AOut → Prop} (hn : args.length ≤ 16) (h : X Try.prog (finE a_parcel_text.res Q) a_parcel_text.body .done (env0 args) H0) : Fins Try.prog F_parcel_text args Q :=
  Fins_intro g_parcel_text c_parcel_text (by rw [Try.ntmps116]; exact hn) h
theorem j_parcel_text {args : List AV} {A : Heap} {K Kp : AV → Heap → Prop} (hn : args.length ≤ 16) (h : X Try.prog (inl a_parcel_text.res K Kp) a_parcel_text.body .done (env0 args) A) : SimX Try.prog F_parcel_text args A (outK K Kp) :=
  X_inl g_parcel_text c_parcel_text (by rw [Try.ntmps116]; exact hn) h
theorem d_parcel_text {args : List AV} {A : Heap} {Ko : AOut → Heap → Prop} (hn : args.length ≤ 16)
    (h : ∀ R : APost, (∀ e env A, fpost a_parcel_text.res Ko e env A → R e env A) → X Try.prog R a_parcel_text.body .done (env0 args) A) : SimD Try.prog F_parcel_text args A Ko :=
  X_introD g_parcel_text c_parcel_text (by rw [Try.ntmps116]; exact hn) h
@[simp] theorem k_parcel_text : callable Try.prog F_parcel_text = true := by kernel_rfl
theorem c_Pparcel_eye_get : trF Try.prog Try.f81 = some a_Pparcel_eye_get := by kernel_rfl
theorem g_Pparcel_eye_get : Try.prog.funcs[81]? = some Try.f81 := by kernel_rfl
theorem i_Pparcel_eye_get {args : List AV} {A : Heap} {Ko : AOut → Heap → Prop} (hn : args.length ≤ 72)
    (h : ∀ R : APost, (∀ e env A, fpost a_Pparcel_eye_get.res Ko e env A → R e env A) → X Try.prog R a_Pparcel_eye_get.body .done (env0 args) A) : SimX Try.prog F_Pparcel_eye_get args A Ko :=
  X_intro g_Pparcel_eye_get c_Pparcel_eye_get (by rw [Try.ntmps81]; exact hn) h
theorem v_Pparcel_eye_get {args : List AV} {v : AV} (hn : args.length ≤ 72) (h : X Try.prog (fin a_Pparcel_eye_get.res v) a_Pparcel_eye_get.body .done (env0 args) H0) : Gives Try.prog F_Pparcel_eye_get args v :=
  Gives_intro g_Pparcel_eye_get c_Pparcel_eye_get (by rw [Try.ntmps81]; exact hn) h
theorem e_Pparcel_eye_get {args : List AV} {Q : AOut → Prop} (hn : args.length ≤ 72) (h : X Try.prog (finE a_Pparcel_eye_get.res Q) a_Pparcel_eye_get.body .done (env0 args) H0) : Fins Try.prog F_Pparcel_eye_get args Q :=
  Fins_intro g_Pparcel_eye_get c_Pparcel_eye_get (by rw [Try.ntmps81]; exact hn) h
theorem j_Pparcel_eye_get {args : List AV} {A : Heap} {K Kp : AV → Heap → Prop} (hn : args.length ≤ 72) (h : X Try.prog (inl a_Pparcel_eye_get.res K Kp) a_Pparcel_eye_get.body .done (env0 args) A) : SimX Try.prog F_Pparcel_eye_get args A (outK K Kp) :=
  X_inl g_Pparcel_eye_get c_Pparcel_eye_get (by rw [Try.ntmps81]; exact hn) h
theorem d_Pparcel_eye_get {args : List AV} {A : Heap} {Ko : AOut → Heap → Prop} (hn : args.length ≤ 72)
    (h : ∀ R : APost, (∀ e env A, fpost a_Pparcel_eye_get.res Ko e env A → R e env A) → X Try.prog R a_Pparcel_eye_get.body .done (env0 args) A) : SimD Try.prog F_Pparcel_eye_get args A Ko :=
  X_introD g_Pparcel_eye_get c_Pparcel_eye_get (by rw [Try.ntmps81]; exact hn) h
@[simp] theorem k_Pparcel_eye_get : callable Try.prog F_Pparcel_eye_get = true := by kernel_rfl
theorem c_Pparcel_eye_take : trF Try.prog Try.f119 = some a_Pparcel_eye_take := by kernel_rfl
theorem g_Pparcel_eye_take : Try.prog.funcs[119]? = some Try.f119 := by kernel_rfl
theorem i_Pparcel_eye_take {args : List AV} {A : Heap} {Ko : AOut → Heap → Prop} (hn : args.length ≤ 30)
    (h : ∀ R : APost, (∀ e env A, fpost a_Pparcel_eye_take.res Ko e env A → R e env A) → X Try.prog R a_Pparcel_eye_take.body .done (env0 args) A) : SimX Try.prog F_Pparcel_eye_take args A Ko :=
  X_intro g_Pparcel_eye_take c_Pparcel_eye_take (by rw [Try.ntmps119]; exact hn) h
theorem v_Pparcel_eye_take {args : List AV} {v : AV} (hn : args.length ≤ 30) (h : X Try.prog (fin a_Pparcel_eye_take.res v) a_Pparcel_eye_take.body .done (env0 args) H0) : Gives Try.prog F_Pparcel_eye_take args v :=
  Gives_intro g_Pparcel_eye_take c_Pparcel_eye_take (by rw [Try.ntmps119]; exact hn) h
theorem e_Pparcel_eye_take {args : List AV} {Q : AOut → Prop} (hn : args.length ≤ 30) (h : X Try.prog (finE a_Pparcel_eye_take.res Q) a_Pparcel_eye_take.body .done (env0 args) H0) : Fins Try.prog F_Pparcel_eye_take args Q :=
  Fins_intro g_Pparcel_eye_take c_Pparcel_eye_take (by rw [Try.ntmps119]; exact hn) h
theorem j_Pparcel_eye_take {args : List AV} {A : Heap} {K Kp : AV → Heap → Prop} (hn : args.length ≤ 30) (h : X Try.prog (inl a_Pparcel_eye_take.res K Kp) a_Pparcel_eye_take.body .done (env0 args) A) : SimX Try.prog F_Pparcel_eye_take args A (outK K Kp) :=
  X_inl g_Pparcel_eye_take c_Pparcel_eye_take (by rw [Try.ntmps119]; exact hn) h
theorem d_Pparcel_eye_take {args : List AV} {A : Heap} {Ko : AOut → Heap → Prop} (hn : args.length ≤ 30)
    (h : ∀ R : APost, (∀ e env A, fpost a_Pparcel_eye_take.res Ko e env A → R e env A) → X Try.prog R a_Pparcel_eye_take.body .done (env0 args) A) : SimD Try.prog F_Pparcel_eye_take args A Ko :=
  X_introD g_Pparcel_eye_take c_Pparcel_eye_take (by rw [Try.ntmps119]; exact hn) h
@[simp] theorem k_Pparcel_eye_take : callable Try.prog F_Pparcel_eye_take = true := by kernel_rfl
theorem c_Pparcel_eye_num : trF Try.prog Try.f120 = some a_Pparcel_eye_num := by kernel_rfl
theorem g_Pparcel_eye_num : Try.prog.funcs[120]? = some Try.f120 := by kernel_rfl
theorem i_Pparcel_eye_num {args : List AV} {A : Heap} {Ko : AOut → Heap → Prop} (hn : args.length ≤ 9)
    (h : ∀ R : APost, (∀ e env A, fpost a_Pparcel_eye_num.res Ko e env A → R e env A) → X Try.prog R a_Pparcel_eye_num.body .done (env0 args) A) : SimX Try.prog F_Pparcel_eye_num args A Ko :=
  X_intro g_Pparcel_eye_num c_Pparcel_eye_num (by rw [Try.ntmps120]; exact hn) h
theorem v_Pparcel_eye_num {args : List AV} {v : AV} (hn : args.length ≤ 9) (h : X Try.prog (fin a_Pparcel_eye_num.res v) a_Pparcel_eye_num.body .done (env0 args) H0) : Gives Try.prog F_Pparcel_eye_num args v :=
  Gives_intro g_Pparcel_eye_num c_Pparcel_eye_num (by rw [Try.ntmps120]; exact hn) h
theorem e_Pparcel_eye_num {args : List AV} {Q : AOut → Prop} (hn : args.length ≤ 9) (h : X Try.prog (finE a_Pparcel_eye_num.res Q) a_Pparcel_eye_num.body .done (env0 args) H0) : Fins Try.prog F_Pparcel_eye_num args Q :=
  Fins_intro g_Pparcel_eye_num c_Pparcel_eye_num (by rw [Try.ntmps120]; exact hn) h
theorem j_Pparcel_eye_num {args : List AV} {A : Heap} {K Kp : AV → Heap → Prop} (hn : args.length ≤ 9) (h : X Try.prog (inl a_Pparcel_eye_num.res K Kp) a_Pparcel_eye_num.body .done (env0 args) A) : SimX Try.prog F_Pparcel_eye_num args A (outK K Kp) :=
  X_inl g_Pparcel_eye_num c_Pparcel_eye_num (by rw [Try.ntmps120]; exact hn) h
theorem d_Pparcel_eye_num {args : List AV} {A : Heap} {Ko : AOut → Heap → Prop} (hn : args.length ≤ 9)
    (h : ∀ R : APost, (∀ e env A, fpost a_Pparcel_eye_num.res Ko e env A → R e env A) → X Try.prog R a_Pparcel_eye_num.body .done (env0 args) A) : SimD Try.prog F_Pparcel_eye_num args A Ko :=
  X_introD g_Pparcel_eye_num c_Pparcel_eye_num (by rw [Try.ntmps120]; exact hn) h
@[simp] theorem k_Pparcel_eye_num : callable Try.prog F_Pparcel_eye_num = true := by kernel_rfl
theorem c_Pparcel_eye_text : trF Try.prog Try.f121 = some a_Pparcel_eye_text := by kernel_rfl
theorem g_Pparcel_eye_text : Try.prog.funcs[121]? = some Try.f121 := by kernel_rfl
theorem i_Pparcel_eye_text {args : List AV} {A : Heap} {Ko : AOut → Heap → Prop} (hn : args.length ≤ 17)
    (h : ∀ R : APost, (∀ e env A, fpost a_Pparcel_eye_text.res Ko e env A → R e env A) → X Try.prog R a_Pparcel_eye_text.body .done (env0 args) A) : SimX Try.prog F_Pparcel_eye_text args A Ko :=
  X_intro g_Pparcel_eye_text c_Pparcel_eye_text (by rw [Try.ntmps121]; exact hn) h
theorem v_Pparcel_eye_text {args : List AV} {v : AV} (hn : args.length ≤ 17) (h : X Try.prog (fin a_Pparcel_eye_text.res v) a_Pparcel_eye_text.body .done (env0 args) H0) : Gives Try.prog F_Pparcel_eye_text args v :=
  Gives_intro g_Pparcel_eye_text c_Pparcel_eye_text (by rw [Try.ntmps121]; exact hn) h
theorem e_Pparcel_eye_text {args : List AV} {Q : AOut → Prop} (hn : args.length ≤ 17) (h : X Try.prog (finE a_Pparcel_eye_text.res Q) a_Pparcel_eye_text.body .done (env0 args) H0) : Fins Try.prog F_Pparcel_eye_text args Q :=
  Fins_intro g_Pparcel_eye_text c_Pparcel_eye_text (by rw [Try.ntmps121]; exact hn) h
theorem j_Pparcel_eye_text {args : List AV} {A : Heap} {K Kp : AV → Heap → Prop} (hn : args.length ≤ 17) (h : X Try.prog (inl a_Pparcel_eye_text.res K Kp) a_Pparcel_eye_text.body .done (env0 args) A) : SimX Try.prog F_Pparcel_eye_text args A (outK K Kp) :=
  X_inl g_Pparcel_eye_text c_Pparcel_eye_text (by rw [Try.ntmps121]; exact hn) h
theorem d_Pparcel_eye_text {args : List AV} {A : Heap} {Ko : AOut → Heap → Prop} (hn : args.length ≤ 17)
    (h : ∀ R : APost, (∀ e env A, fpost a_Pparcel_eye_text.res Ko e env A → R e env A) → X Try.prog R a_Pparcel_eye_text.body .done (env0 args) A) : SimD Try.prog F_Pparcel_eye_text args A Ko :=
  X_introD g_Pparcel_eye_text c_Pparcel_eye_text (by rw [Try.ntmps121]; exact hn) h
@[simp] theorem k_Pparcel_eye_text : callable Try.prog F_Pparcel_eye_text = true := by kernel_rfl
theorem c_Pparcel_eye_addr : trF Try.prog Try.f122 = some a_Pparcel_eye_addr := by kernel_rfl
theorem g_Pparcel_eye_addr : Try.prog.funcs[122]? = some Try.f122 := by kernel_rfl
theorem i_Pparcel_eye_addr {args : List AV} {A : Heap} {Ko : AOut → Heap → Prop} (hn : args.length ≤ 7)
    (h : ∀ R : APost, (∀ e env A, fpost a_Pparcel_eye_addr.res Ko e env A → R e env A) → X Try.prog R a_Pparcel_eye_addr.body .done (env0 args) A) : SimX Try.prog F_Pparcel_eye_addr args A Ko :=
  X_intro g_Pparcel_eye_addr c_Pparcel_eye_addr (by rw [Try.ntmps122]; exact hn) h
theorem v_Pparcel_eye_addr {args : List AV} {v : AV} (hn : args.length ≤ 7) (h : X Try.prog (fin a_Pparcel_eye_addr.res v) a_Pparcel_eye_addr.body .done (env0 args) H0) : Gives Try.prog F_Pparcel_eye_addr args v :=
  Gives_intro g_Pparcel_eye_addr c_Pparcel_eye_addr (by rw [Try.ntmps122]; exact hn) h
theorem e_Pparcel_eye_addr {args : List AV} {Q : AOut → Prop} (hn : args.length ≤ 7) (h : X Try.prog (finE a_Pparcel_eye_addr.res Q) a_Pparcel_eye_addr.body .done (env0 args) H0) : Fins Try.prog F_Pparcel_eye_addr args Q :=
  Fins_intro g_Pparcel_eye_addr c_Pparcel_eye_addr (by rw [Try.ntmps122]; exact hn) h
theorem j_Pparcel_eye_addr {args : List AV} {A : Heap} {K Kp : AV → Heap → Prop} (hn : args.length ≤ 7) (h : X Try.prog (inl a_Pparcel_eye_addr.res K Kp) a_Pparcel_eye_addr.body .done (env0 args) A) : SimX Try.prog F_Pparcel_eye_addr args A (outK K Kp) :=
  X_inl g_Pparcel_eye_addr c_Pparcel_eye_addr (by rw [Try.ntmps122]; exact hn) h
theorem d_Pparcel_eye_addr {args : List AV} {A : Heap} {Ko : AOut → Heap → Prop} (hn : args.length ≤ 7)
    (h : ∀ R : APost, (∀ e env A, fpost a_Pparcel_eye_addr.res Ko e env A → R e env A) → X Try.prog R a_Pparcel_eye_addr.body .done (env0 args) A) : SimD Try.prog F_Pparcel_eye_addr args A Ko :=
  X_introD g_Pparcel_eye_addr c_Pparcel_eye_addr (by rw [Try.ntmps122]; exact hn) h
@[simp] theorem k_Pparcel_eye_addr : callable Try.prog F_Pparcel_eye_addr = true := by kernel_rfl
theorem c_ref24_Put : trF Try.prog Try.f18 = some a_ref24_Put := by kernel_rfl
theorem g_ref24_Put : Try.prog.funcs[18]? = some Try.f18 := by kernel_rfl
theorem i_ref24_Put {args : List AV} {A : Heap} {Ko : AOut → Heap → Prop} (hn : args.length ≤ 95)
    (h : ∀ R : APost, (∀ e env A, fpost a_ref24_Put.res Ko e env A → R e env A) → X Try.prog R a_ref24_Put.body .done (env0 args) A) : SimX Try.prog F_ref24_Put args A Ko :=
  X_intro g_ref24_Put c_ref24_Put (by rw [Try.ntmps18]; exact hn) h
theorem v_ref24_Put {args : List AV} {v : AV} (hn : args.length ≤ 95) (h : X Try.prog (fin a_ref24_Put.res v) a_ref24_Put.body .done (env0 args) H0) : Gives Try.prog F_ref24_Put args v :=
  Gives_intro g_ref24_Put c_ref24_Put (by rw [Try.ntmps18]; exact hn) h
theorem e_ref24_Put {args : List AV} {Q : AOut → Prop} (hn : args.length ≤ 95) (h : X Try.prog (finE a_ref24_Put.res Q) a_ref24_Put.body .done (env0 args) H0) : Fins Try.prog F_ref24_Put args Q :=
  Fins_intro g_ref24_Put c_ref24_Put (by rw [Try.ntmps18]; exact hn) h
theorem j_ref24_Put {args : List AV} {A : Heap} {K Kp : AV → Heap → Prop} (hn : args.length ≤ 95) (h : X Try.prog (inl a_ref24_Put.res K Kp) a_ref24_Put.body .done (env0 args) A) : SimX Try.prog F_ref24_Put args A (outK K Kp) :=
  X_inl g_ref24_Put c_ref24_Put (by rw [Try.ntmps18]; exact hn) h
theorem d_ref24_Put {args : List AV} {A : Heap} {Ko : AOut → Heap → Prop} (hn : args.length ≤ 95)
    (h : ∀ R : APost, (∀ e env A, fpost a_ref24_Put.res Ko e env A → R e env A) → X Try.prog R a_ref24_Put.body .done (env0 args) A) : SimD Try.prog F_ref24_Put args A Ko :=
  X_introD g_ref24_Put c_ref24_Put (by rw [Try.ntmps18]; exact hn) h
@[simp] theorem k_ref24_Put : callable Try.prog F_ref24_Put = true := by kernel_rfl
theorem c_ref24_Same : trF Try.prog Try.f21 = some a_ref24_Same := by kernel_rfl
theorem g_ref24_Same : Try.prog.funcs[21]? = some Try.f21 := by kernel_rfl
theorem i_ref24_Same {args : List AV} {A : Heap} {Ko : AOut → Heap → Prop} (hn : args.length ≤ 96)
    (h : ∀ R : APost, (∀ e env A, fpost a_ref24_Same.res Ko e env A → R e env A) → X Try.prog R a_ref24_Same.body .done (env0 args) A) : SimX Try.prog F_ref24_Same args A Ko :=
  X_intro g_ref24_Same c_ref24_Same (by rw [Try.ntmps21]; exact hn) h
theorem v_ref24_Same {args : List AV} {v : AV} (hn : args.length ≤ 96) (h : X Try.prog (fin a_ref24_Same.res v) a_ref24_Same.body .done (env0 args) H0) : Gives Try.prog F_ref24_Same args v :=
  Gives_intro g_ref24_Same c_ref24_Same (by rw [Try.ntmps21]; exact hn) h
theorem e_ref24_Same {args : List AV} {Q : AOut → Prop} (hn : args.length ≤ 96) (h : X Try.prog (finE a_ref24_Same.res Q) a_ref24_Same.body .done (env0 args) H0) : Fins Try.prog F_ref24_Same args Q :=
  Fins_intro g_ref24_Same c_ref24_Same (by rw [Try.ntmps21]; exact hn) h
theorem j_ref24_Same {args : List AV} {A : Heap} {K Kp : AV → Heap → Prop} (hn : args.length ≤ 96) (h : X Try.prog (inl a_ref24_Same.res K Kp) a_ref24_Same.body .done (env0 args) A) : SimX Try.prog F_ref24_Same args A (outK K Kp) :=
  X_inl g_ref24_Same c_ref24_Same (by rw [Try.ntmps21]; exact hn) h
theorem d_ref24_Same {args : List AV} {A : Heap} {Ko : AOut → Heap → Prop} (hn : args.length ≤ 96)
    (h : ∀ R : APost, (∀ e env A, fpost a_ref24_Same.res Ko e env A → R e env A) → X Try.prog R a_ref24_Same.body .done (env0 args) A) : SimD Try.prog F_ref24_Same args A Ko :=
  X_introD g_ref24_Same c_ref24_Same (by rw [Try.ntmps21]; exact hn) h
@[simp] theorem k_ref24_Same : callable Try.prog F_ref24_Same = true := by kernel_rfl
theorem c_ref24_wrong : trF Try.prog Try.f77 = some a_ref24_wrong := by kernel_rfl
theorem g_ref24_wrong : Try.prog.funcs[77]? = some Try.f77 := by kernel_rfl
theorem i_ref24_wrong {args : List AV} {A : Heap} {Ko : AOut → Heap → Prop} (hn : args.length ≤ 29)
    (h : ∀ R : APost, (∀ e env A, fpost a_ref24_wrong.res Ko e env A → R e env A) → X Try.prog R a_ref24_wrong.body .done (env0 args) A) : SimX Try.prog F_ref24_wrong args A Ko :=
  X_intro g_ref24_wrong c_ref24_wrong (by rw [Try.ntmps77]; exact hn) h
theorem v_ref24_wrong {args : List AV} {v : AV} (hn : args.length ≤ 29) (h : X Try.prog (fin a_ref24_wrong.res v) a_ref24_wrong.body .done (env0 args) H0) : Gives Try.prog F_ref24_wrong args v :=
  Gives_intro g_ref24_wrong c_ref24_wrong (by rw [Try.ntmps77]; exact hn) h
theorem e_ref24_wrong {args : List AV} {Q : AOut → Prop} (hn : args.length ≤ 29) (h : X Try.prog (finE a_ref24_wrong.res Q) a_ref24_wrong.body .done (env0 args) H0) : Fins Try.prog F_ref24_wrong args Q :=
  Fins_intro g_ref24_wrong c_ref24_wrong (by rw [Try.ntmps77]; exact hn) h
theorem j_ref24_wrong {args : List AV} {A : Heap} {K Kp : AV → Heap → Prop} (hn : args.length ≤ 29) (h : X Try.prog (inl a_ref24_wrong.res K Kp) a_ref24_wrong.body .done (env0 args) A) : SimX Try.prog F_ref24_wrong args A (outK K Kp) :=
  X_inl g_ref24_wrong c_ref24_wrong (by rw [Try.ntmps77]; exact hn) h
theorem d_ref24_wrong {args : List AV} {A : Heap} {Ko : AOut → Heap → Prop} (hn : args.length ≤ 29)
    (h : ∀ R : APost, (∀ e env A, fpost a_ref24_wrong.res Ko e env A → R e env A) → X Try.prog R a_ref24_wrong.body .done (env0 args) A) : SimD Try.prog F_ref24_wrong args A Ko :=
  X_introD g_ref24_wrong c_ref24_wrong (by rw [Try.ntmps77]; exact hn) h
@[simp] theorem k_ref24_wrong : callable Try.prog F_ref24_wrong = true := by kernel_rfl
theorem c_ref24_text : trF Try.prog Try.f79 = some a_ref24_text := by kernel_rfl
theorem g_ref24_text : Try.prog.funcs[79]? = some Try.f79 := by kernel_rfl
theorem i_ref24_text {args : List AV} {A : Heap} {Ko : AOut → Heap → Prop} (hn : args.length ≤ 15)
    (h : ∀ R : APost, (∀ e env A, fpost a_ref24_text.res Ko e env A → R e env A) → X Try.prog R a_ref24_text.body .done (env0 args) A) : SimX Try.prog F_ref24_text args A Ko :=
  X_intro g_ref24_text c_ref24_text (by rw [Try.ntmps79]; exact hn) h
theorem v_ref24_text {args : List AV} {v : AV} (hn : args.length ≤ 15) (h : X Try.prog (fin a_ref24_text.res v) a_ref24_text.body .done (env0 args) H0) : Gives Try.prog F_ref24_text args v :=
  Gives_intro g_ref24_text c_ref24_text (by rw [Try.ntmps79]; exact hn) h
theorem e_ref24_text {args : List AV} {Q : AOut → Prop} (hn : args.length ≤ 15) (h : X Try.prog (finE a_ref24_text.res Q) a_ref24_text.body .done (env0 args) H0) : Fins Try.prog F_ref24_text args Q :=
  Fins_intro g_ref24_text c_ref24_text (by rw [Try.ntmps79]; exact hn) h
theorem j_ref24_text {args : List AV} {A : Heap} {K Kp : AV → Heap → Prop} (hn : args.length ≤ 15) (h : X Try.prog (inl a_ref24_text.res K Kp) a_ref24_text.body .done (env0 args) A) : SimX Try.prog F_ref24_text args A (outK K Kp) :=
  X_inl g_ref24_text c_ref24_text (by rw [Try.ntmps79]; exact hn) h
theorem d_ref24_text {args : List AV} {A : Heap} {Ko : AOut → Heap → Prop} (hn : args.length ≤ 15)
    (h : ∀ R : APost, (∀ e env A, fpost a_ref24_text.res Ko e env A → R e env A) → X Try.prog R a_ref24_text.body .done (env0 args) A) : SimD Try.prog F_ref24_text args A Ko :=
  X_introD g_ref24_text c_ref24_text (by rw [Try.ntmps79]; exact hn) h
@[simp] theorem k_ref24_text : callable Try.prog F_ref24_text = true := by kernel_rfl
theorem c_law24_ParcelPuts : trF Try.prog Try.f3 = some a_law24_ParcelPuts := by kernel_rfl
theorem g_law24_ParcelPuts : Try.prog.funcs[3]? = some Try.f3 := by kernel_rfl
theorem i_law24_ParcelPuts {args : List AV} {A : Heap} {Ko : AOut → Heap → Prop} (hn : args.length ≤ 48)
    (h : ∀ R : APost, (∀ e env A, fpost a_law24_ParcelPuts.res Ko e env A → R e env A) → X Try.prog R a_law24_ParcelPuts.body .done (env0 args) A) : SimX Try.prog F_law24_ParcelPuts args A Ko :=
  X_intro g_law24_ParcelPuts c_law24_ParcelPuts (by rw [Try.ntmps3]; exact hn) h
theorem v_law24_ParcelPuts {args : List AV} {v : AV} (hn : args.length ≤ 48) (h : X Try.prog (fin a_law24_ParcelPuts.res v) a_law24_ParcelPuts.body .done (env0 args) H0) : Gives Try.prog F_law24_ParcelPuts args v :=
  Gives_intro g_law24_ParcelPuts c_law24_ParcelPuts (by rw [Try.ntmps3]; exact hn) h
theorem e_law24_ParcelPuts {args : List AV} {Q : AOut → Prop} (hn : args.length ≤ 48) (h : X Try.prog (finE a_law24_ParcelPuts.res Q) a_law24_ParcelPuts.body .done (env0 args) H0) : Fins Try.prog F_law24_ParcelPuts args Q :=
  Fins_intro g_law24_ParcelPuts c_law24_ParcelPuts (by rw [Try.ntmps3]; exact hn) h
theorem j_law24_ParcelPuts {args : List AV} {A : Heap} {K Kp : AV → Heap → Prop} (hn : args.length ≤ 48) (h : X Try.prog (inl a_law24_ParcelPuts.res K Kp) a_law24_ParcelPuts.body .done (env0 args) A) : SimX Try.prog F_law24_ParcelPuts args A (outK K Kp) :=
  X_inl g_law24_ParcelPuts c_law24_ParcelPuts (by rw [Try.ntmps3]; exact hn) h
theorem d_law24_ParcelPuts {args : List AV} {A : Heap} {Ko : AOut → Heap → Prop} (hn : args.length ≤ 48)
    (h : ∀ R : APost, (∀ e env A, fpost a_law24_ParcelPuts.res Ko e env A → R e env A) → X Try.prog R a_law24_ParcelPuts.body .done (env0 args) A) : SimD Try.prog F_law24_ParcelPuts args A Ko :=
  X_introD g_law24_ParcelPuts c_law24_ParcelPuts (by rw [Try.ntmps3]; exact hn) h
@[simp] theorem k_law24_ParcelPuts : callable Try.prog F_law24_ParcelPuts = true := by kernel_rfl
theorem c_law24_ParcelBack : trF Try.prog Try.f4 = some a_law24_ParcelBack := by kernel_rfl
theorem g_law24_ParcelBack : Try.prog.funcs[4]? = some Try.f4 := by kernel_rfl
theorem i_law24_ParcelBack {args : List AV} {A : Heap} {Ko : AOut → Heap → Prop} (hn : args.length ≤ 60)
    (h : ∀ R : APost, (∀ e env A, fpost a_law24_ParcelBack.res Ko e env A → R e env A) → X Try.prog R a_law24_ParcelBack.body .done (env0 args) A) : SimX Try.prog F_law24_ParcelBack args A Ko :=
  X_intro g_law24_ParcelBack c_law24_ParcelBack (by rw [Try.ntmps4]; exact hn) h
theorem v_law24_ParcelBack {args : List AV} {v : AV} (hn : args.length ≤ 60) (h : X Try.prog (fin a_law24_ParcelBack.res v) a_law24_ParcelBack.body .done (env0 args) H0) : Gives Try.prog F_law24_ParcelBack args v :=
  Gives_intro g_law24_ParcelBack c_law24_ParcelBack (by rw [Try.ntmps4]; exact hn) h
theorem e_law24_ParcelBack {args : List AV} {Q : AOut → Prop} (hn : args.length ≤ 60) (h : X Try.prog (finE a_law24_ParcelBack.res Q) a_law24_ParcelBack.body .done (env0 args) H0) : Fins Try.prog F_law24_ParcelBack args Q :=
  Fins_intro g_law24_ParcelBack c_law24_ParcelBack (by rw [Try.ntmps4]; exact hn) h
theorem j_law24_ParcelBack {args : List AV} {A : Heap} {K Kp : AV → Heap → Prop} (hn : args.length ≤ 60) (h : X Try.prog (inl a_law24_ParcelBack.res K Kp) a_law24_ParcelBack.body .done (env0 args) A) : SimX Try.prog F_law24_ParcelBack args A (outK K Kp) :=
  X_inl g_law24_ParcelBack c_law24_ParcelBack (by rw [Try.ntmps4]; exact hn) h
theorem d_law24_ParcelBack {args : List AV} {A : Heap} {Ko : AOut → Heap → Prop} (hn : args.length ≤ 60)
    (h : ∀ R : APost, (∀ e env A, fpost a_law24_ParcelBack.res Ko e env A → R e env A) → X Try.prog R a_law24_ParcelBack.body .done (env0 args) A) : SimD Try.prog F_law24_ParcelBack args A Ko :=
  X_introD g_law24_ParcelBack c_law24_ParcelBack (by rw [Try.ntmps4]; exact hn) h
@[simp] theorem k_law24_ParcelBack : callable Try.prog F_law24_ParcelBack = true := by kernel_rfl
theorem c_law24_ParcelOne : trF Try.prog Try.f5 = some a_law24_ParcelOne := by kernel_rfl
theorem g_law24_ParcelOne : Try.prog.funcs[5]? = some Try.f5 := by kernel_rfl
theorem i_law24_ParcelOne {args : List AV} {A : Heap} {Ko : AOut → Heap → Prop} (hn : args.length ≤ 43)
    (h : ∀ R : APost, (∀ e env A, fpost a_law24_ParcelOne.res Ko e env A → R e env A) → X Try.prog R a_law24_ParcelOne.body .done (env0 args) A) : SimX Try.prog F_law24_ParcelOne args A Ko :=
  X_intro g_law24_ParcelOne c_law24_ParcelOne (by rw [Try.ntmps5]; exact hn) h
theorem v_law24_ParcelOne {args : List AV} {v : AV} (hn : args.length ≤ 43) (h : X Try.prog (fin a_law24_ParcelOne.res v) a_law24_ParcelOne.body .done (env0 args) H0) : Gives Try.prog F_law24_ParcelOne args v :=
  Gives_intro g_law24_ParcelOne c_law24_ParcelOne (by rw [Try.ntmps5]; exact hn) h
theorem e_law24_ParcelOne {args : List AV} {Q : AOut → Prop} (hn : args.length ≤ 43) (h : X Try.prog (finE a_law24_ParcelOne.res Q) a_law24_ParcelOne.body .done (env0 args) H0) : Fins Try.prog F_law24_ParcelOne args Q :=
  Fins_intro g_law24_ParcelOne c_law24_ParcelOne (by rw [Try.ntmps5]; exact hn) h
theorem j_law24_ParcelOne {args : List AV} {A : Heap} {K Kp : AV → Heap → Prop} (hn : args.length ≤ 43) (h : X Try.prog (inl a_law24_ParcelOne.res K Kp) a_law24_ParcelOne.body .done (env0 args) A) : SimX Try.prog F_law24_ParcelOne args A (outK K Kp) :=
  X_inl g_law24_ParcelOne c_law24_ParcelOne (by rw [Try.ntmps5]; exact hn) h
theorem d_law24_ParcelOne {args : List AV} {A : Heap} {Ko : AOut → Heap → Prop} (hn : args.length ≤ 43)
    (h : ∀ R : APost, (∀ e env A, fpost a_law24_ParcelOne.res Ko e env A → R e env A) → X Try.prog R a_law24_ParcelOne.body .done (env0 args) A) : SimD Try.prog F_law24_ParcelOne args A Ko :=
  X_introD g_law24_ParcelOne c_law24_ParcelOne (by rw [Try.ntmps5]; exact hn) h
@[simp] theorem k_law24_ParcelOne : callable Try.prog F_law24_ParcelOne = true := by kernel_rfl
theorem c_law24_Light : trF Try.prog Try.f15 = some a_law24_Light := by kernel_rfl
theorem g_law24_Light : Try.prog.funcs[15]? = some Try.f15 := by kernel_rfl
theorem i_law24_Light {args : List AV} {A : Heap} {Ko : AOut → Heap → Prop} (hn : args.length ≤ 31)
    (h : ∀ R : APost, (∀ e env A, fpost a_law24_Light.res Ko e env A → R e env A) → X Try.prog R a_law24_Light.body .done (env0 args) A) : SimX Try.prog F_law24_Light args A Ko :=
  X_intro g_law24_Light c_law24_Light (by rw [Try.ntmps15]; exact hn) h
theorem v_law24_Light {args : List AV} {v : AV} (hn : args.length ≤ 31) (h : X Try.prog (fin a_law24_Light.res v) a_law24_Light.body .done (env0 args) H0) : Gives Try.prog F_law24_Light args v :=
  Gives_intro g_law24_Light c_law24_Light (by rw [Try.ntmps15]; exact hn) h
theorem e_law24_Light {args : List AV} {Q : AOut → Prop} (hn : args.length ≤ 31) (h : X Try.prog (finE a_law24_Light.res Q) a_law24_Light.body .done (env0 args) H0) : Fins Try.prog F_law24_Light args Q :=
  Fins_intro g_law24_Light c_law24_Light (by rw [Try.ntmps15]; exact hn) h
theorem j_law24_Light {args : List AV} {A : Heap} {K Kp : AV → Heap → Prop} (hn : args.length ≤ 31) (h : X Try.prog (inl a_law24_Light.res K Kp) a_law24_Light.body .done (env0 args) A) : SimX Try.prog F_law24_Light args A (outK K Kp) :=
  X_inl g_law24_Light c_law24_Light (by rw [Try.ntmps15]; exact hn) h
theorem d_law24_Light {args : List AV} {A : Heap} {Ko : AOut → Heap → Prop} (hn : args.length ≤ 31)
    (h : ∀ R : APost, (∀ e env A, fpost a_law24_Light.res Ko e env A → R e env A) → X Try.prog R a_law24_Light.body .done (env0 args) A) : SimD Try.prog F_law24_Light args A Ko :=
  X_introD g_law24_Light c_law24_Light (by rw [Try.ntmps15]; exact hn) h
@[simp] theorem k_law24_Light : callable Try.prog F_law24_Light = true := by kernel_rfl
theorem c_law24_works : trF Try.prog Try.f16 = some a_law24_works := by kernel_rfl
theorem g_law24_works : Try.prog.funcs[16]? = some Try.f16 := by kernel_rfl
theorem i_law24_works {args : List AV} {A : Heap} {Ko : AOut → Heap → Prop} (hn : args.length ≤ 83)
    (h : ∀ R : APost, (∀ e env A, fpost a_law24_works.res Ko e env A → R e env A) → X Try.prog R a_law24_works.body .done (env0 args) A) : SimX Try.prog F_law24_works args A Ko :=
  X_intro g_law24_works c_law24_works (by rw [Try.ntmps16]; exact hn) h
theorem v_law24_works {args : List AV} {v : AV} (hn : args.length ≤ 83) (h : X Try.prog (fin a_law24_works.res v) a_law24_works.body .done (env0 args) H0) : Gives Try.prog F_law24_works args v :=
  Gives_intro g_law24_works c_law24_works (by rw [Try.ntmps16]; exact hn) h
theorem e_law24_works {args : List AV} {Q : AOut → Prop} (hn : args.length ≤ 83) (h : X Try.prog (finE a_law24_works.res Q) a_law24_works.body .done (env0 args) H0) : Fins Try.prog F_law24_works args Q :=
  Fins_intro g_law24_works c_law24_works (by rw [Try.ntmps16]; exact hn) h
theorem j_law24_works {args : List AV} {A : Heap} {K Kp : AV → Heap → Prop} (hn : args.length ≤ 83) (h : X Try.prog (inl a_law24_works.res K Kp) a_law24_works.body .done (env0 args) A) : SimX Try.prog F_law24_works args A (outK K Kp) :=
  X_inl g_law24_works c_law24_works (by rw [Try.ntmps16]; exact hn) h
theorem d_law24_works {args : List AV} {A : Heap} {Ko : AOut → Heap → Prop} (hn : args.length ≤ 83)
    (h : ∀ R : APost, (∀ e env A, fpost a_law24_works.res Ko e env A → R e env A) → X Try.prog R a_law24_works.body .done (env0 args) A) : SimD Try.prog F_law24_works args A Ko :=
  X_introD g_law24_works c_law24_works (by rw [Try.ntmps16]; exact hn) h
@[simp] theorem k_law24_works : callable Try.prog F_law24_works = true := by kernel_rfl
end Go.Proofs.Ytfdckjliinpjiaa
