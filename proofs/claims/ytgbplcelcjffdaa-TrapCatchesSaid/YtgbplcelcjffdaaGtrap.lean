/- Abstract programs; that they are the program's. -/
import Derived.Test.YtgbplcelcjffdaaFn
namespace Go.Proofs.Ytgbplcelcjffdaa
open Go AVL
set_option linter.unusedVariables false

-- NOT: function 21
def q_trap_Try_int_0 : List AOper := [
  ⟨(some 1), (.box 42 .sc (.t 0)), none⟩,
  ⟨(some 2), (.alloc 3 [(.int .i64 0)]), none⟩,
  ⟨(some 3), (.mv (.v (.int .i64 0))), none⟩]
def q_trap_Try_int_1 : List AOper := [
  ⟨(some 5), (.load .sc 1 (.t 1)), none⟩,
  ⟨(some 6), (.xx (.p (.isNil .fn false)) [(.t 5)]), none⟩]
def q_trap_Try_int_2 : List AOper := [
  ⟨(some 7), (.load .sc 1 (.t 2)), none⟩,
  ⟨none, (.store .sc 1 (.t 2) (.t 7)), none⟩,
  ⟨(some 3), (.mv (.v (.int .i64 1))), none⟩]
def q_trap_Try_int_3 : List AOper := [
  ⟨(some 8), (.xx (.p (.mkF (.func F_trap_Try_int_1) 0)) [(.t 1), (.t 2)]), none⟩,
  ⟨(some 9), (.call F_trap_Catch [(.sc, (.t 8))]), none⟩,
  ⟨(some 3), (.mv (.t 9)), none⟩]
def q_trap_Try_int_4 : List AOper := [
  ⟨(some 10), (.mv (.t 3)), none⟩,
  ⟨(some 11), (.eq .scI true (.t 10) (.v (.int .i64 0))), none⟩]
def q_trap_Try_int_5 : List AOper := [
  ⟨(some 4), (.mv (.v (.int .i64 0))), none⟩]
def q_trap_Try_int_6 : List AOper := [
  ⟨(some 12), (.mv (.t 4)), none⟩,
  ⟨(some 13), (.mv (.t 3)), none⟩,
  ⟨none, (.store .sc 1 (.t 2) (.t 12)), none⟩,
  ⟨(some 3), (.mv (.t 13)), none⟩]
def q_trap_Try_int_7 : List AOper := [
  ⟨(some 14), (.load .sc 1 (.t 2)), none⟩,
  ⟨none, (.store .sc 1 (.t 2) (.t 14)), none⟩,
  ⟨(some 3), (.mv (.v (.int .i64 0))), none⟩]
def a_trap_Try_int : AFunc := ⟨[(.cell 2 .sc 1), (.tmp 3)], (.seq (.region q_trap_Try_int_0) (.seq (.seq (.region q_trap_Try_int_1) (.cond (.t 6) (.seq (.region q_trap_Try_int_2) .ret) .skip)) (.seq (.region q_trap_Try_int_3) (.seq (.seq (.region q_trap_Try_int_4) (.cond (.t 11) (.seq (.region q_trap_Try_int_5) (.seq (.region q_trap_Try_int_6) .ret)) .skip)) (.seq (.region q_trap_Try_int_7) .ret)))))⟩

def q_trap_Each_0 : List AOper := [
  ⟨(some 2), (.box 3 .sc (.t 0)), none⟩,
  ⟨(some 3), (.box 41 .sc (.t 1)), none⟩,
  ⟨(some 4), (.mv (.v (.int .i64 0))), none⟩,
  ⟨(some 5), (.mv (.v (.int .i64 0))), none⟩]
def q_trap_Each_1 : List AOper := [
  ⟨(some 6), (.alloc 3 [(.int .i64 0)]), none⟩,
  ⟨none, (.store .sc 1 (.t 6) (.v (.int .i64 0))), none⟩]
def q_trap_Each_2 : List AOper := [
  ⟨(some 8), (.xx (.p (.mkF (.func F_trap_Each_1) 0)) [(.t 2), (.t 3), (.t 6)]), none⟩,
  ⟨(some 9), (.call F_trap_Catch [(.sc, (.t 8))]), none⟩,
  ⟨(some 7), (.mv (.t 9)), none⟩]
def q_trap_Each_3 : List AOper := [
  ⟨(some 10), (.load .sc 1 (.t 6)), none⟩,
  ⟨(some 11), (.mv (.t 7)), none⟩,
  ⟨(some 4), (.mv (.t 10)), none⟩,
  ⟨(some 5), (.mv (.t 11)), none⟩]
def a_trap_Each : AFunc := ⟨[(.tmp 4), (.tmp 5)], (.seq (.region q_trap_Each_0) (.seq (.region q_trap_Each_1) (.seq (.region q_trap_Each_2) (.seq (.region q_trap_Each_3) .ret))))⟩

def q_trap_First_0 : List AOper := [
  ⟨(some 2), (.mv (.v (.int .i64 0))), none⟩]
def q_trap_First_1 : List AOper := [
  ⟨(some 6), (.mv (.t 0)), none⟩,
  ⟨(some 7), (.len false (.t 6)), none⟩,
  ⟨(some 8), (.mv (.v (.int .i64 0))), none⟩]
def q_trap_First_2 : List AOper := [
  ⟨(some 9), (.bin .lss (.t 8) (.t 7)), none⟩]
def q_trap_First_3 : List AOper := [
  ⟨(some 10), (.idx 1 (.t 6) (.t 8)), none⟩,
  ⟨(some 11), (.load .sc 1 (.t 10)), none⟩,
  ⟨(some 4), (.mv (.t 11)), none⟩]
def q_trap_First_4 : List AOper := [
  ⟨(some 12), (.mv (.t 4)), none⟩,
  ⟨(some 13), (.call F_trap_Catch [(.sc, (.t 12))]), none⟩,
  ⟨(some 5), (.mv (.t 13)), none⟩]
def q_trap_First_5 : List AOper := [
  ⟨(some 14), (.mv (.t 5)), none⟩,
  ⟨(some 15), (.eq .scI true (.t 14) (.v (.int .i64 0))), none⟩]
def q_trap_First_6 : List AOper := [
  ⟨(some 16), (.mv (.t 5)), none⟩,
  ⟨(some 2), (.mv (.t 16)), none⟩]
def q_trap_First_7 : List AOper := [
  ⟨(some 17), (.bin .add (.t 8) (.v (.int .i64 1))), none⟩,
  ⟨(some 8), (.mv (.t 17)), none⟩]
def q_trap_First_L8 : ACode := (.seq (.region q_trap_First_2) (.seq (.cond (.t 9) .skip (.exit 0)) (.seq (.block 1 (.seq (.region q_trap_First_3) (.seq (.region q_trap_First_4) (.seq (.region q_trap_First_5) (.cond (.t 15) (.seq (.region q_trap_First_6) .ret) .skip))))) (.region q_trap_First_7))))
def q_trap_First_8 : List AOper := [
  ⟨(some 2), (.mv (.v (.int .i64 0))), none⟩]
def a_trap_First : AFunc := ⟨[(.tmp 2)], (.seq (.region q_trap_First_0) (.seq (.seq (.region q_trap_First_1) (.block 0 (.loop q_trap_First_L8))) (.seq (.region q_trap_First_8) .ret)))⟩

-- NOT: function 37
-- NOT: function 55
def q_trap_caught_0 : List AOper := [
  ⟨(some 2), (.mv (.v (.int .i64 0))), none⟩]
def q_trap_caught_1 : List AOper := [
  ⟨(some 5), (.mv (.t 0)), none⟩]
def q_trap_caught_2 : List AOper := [
  ⟨(some 6), (.xx (.p (.isNil .ifc false)) [(.t 5)]), none⟩]
def q_trap_caught_3 : List AOper := [
  ⟨(some 3), (.mv (.t 5)), none⟩]
def q_trap_caught_4 : List AOper := [
  ⟨(some 2), (.mv (.v (.int .i64 0))), none⟩]
def q_trap_caught_5 : List AOper := [
  ⟨(some 7), (.xx (.p (.asrt 78 (.agg [(.int .i64 0)]))) [(.t 5)]), none⟩,
  ⟨(some 8), (.ext 1 (.t 7)), none⟩,
  ⟨(some 9), (.ext 0 (.t 7)), none⟩]
def q_trap_caught_6 : List AOper := [
  ⟨(some 4), (.alloc 78 [(.int .i64 0)]), none⟩,
  ⟨none, (.store .ag 1 (.t 4) (.t 9)), none⟩]
def q_trap_caught_7 : List AOper := [
  ⟨(some 10), (.fadr 0 1 .sc (.t 4)), none⟩,
  ⟨(some 11), (.load .sc 1 (.t 10)), none⟩,
  ⟨(some 2), (.mv (.t 11)), none⟩]
def q_trap_caught_8 : List AOper := [
  ⟨(some 2), (.mv (.v (.int .i64 17))), none⟩]
def a_trap_caught : AFunc := ⟨[(.tmp 2)], (.seq (.region q_trap_caught_0) (.seq (.seq (.region q_trap_caught_1) (.block 0 (.seq (.region q_trap_caught_2) (.cond (.t 6) (.seq (.region q_trap_caught_3) (.seq (.region q_trap_caught_4) .ret)) (.seq (.region q_trap_caught_5) (.cond (.t 8) (.seq (.region q_trap_caught_6) (.seq (.region q_trap_caught_7) .ret)) .skip)))))) (.seq (.region q_trap_caught_8) .ret)))⟩

def q_trap_Try_int_1_0 : List AOper := [
  ⟨(some 2), (.load .sc 1 (.t 0)), none⟩,
  ⟨(some 3), (.callV (.t 2) []), none⟩,
  ⟨none, (.store .sc 1 (.t 1) (.t 3)), none⟩]
def a_trap_Try_int_1 : AFunc := ⟨[], (.region q_trap_Try_int_1_0)⟩

def q_trap_Must_0 : List AOper := [
  ⟨(some 2), (.mv (.t 0)), none⟩,
  ⟨(some 3), (.eq .scI true (.t 2) (.v (.int .i64 0))), none⟩]
def q_trap_Must_1 : List AOper := [
  ⟨(some 4), (.mv (.t 0)), none⟩,
  ⟨(some 5), (.call F_trap_Throw [(.sc, (.t 4))]), none⟩]
def a_trap_Must : AFunc := ⟨[], (.seq (.region q_trap_Must_0) (.cond (.t 3) (.region q_trap_Must_1) .skip))⟩

def q_trap_Throw_0 : List AOper := [
  ⟨(some 2), (.mv (.t 0)), none⟩,
  ⟨(some 3), (.build .ag [(.int .i64 0)] [(0, (1, (.t 2)))]), none⟩,
  ⟨(some 4), (.xx (.p (.ifc 78)) [(.t 3)]), none⟩,
  ⟨none, (.pnc (.t 4)), none⟩]
def a_trap_Throw : AFunc := ⟨[], (.region q_trap_Throw_0)⟩

def q_trap_Each_1_0 : List AOper := [
  ⟨(some 4), (.load .sc 1 (.t 0)), none⟩,
  ⟨(some 5), (.mv (.v (.int .i64 0))), none⟩]
def q_trap_Each_1_1 : List AOper := [
  ⟨(some 6), (.bin .lss (.t 5) (.t 4)), none⟩]
def q_trap_Each_1_2 : List AOper := [
  ⟨(some 7), (.mv (.t 5)), none⟩,
  ⟨(some 3), (.mv (.t 7)), none⟩]
def q_trap_Each_1_3 : List AOper := [
  ⟨(some 8), (.load .sc 1 (.t 1)), none⟩,
  ⟨(some 9), (.mv (.t 3)), none⟩,
  ⟨(some 10), (.callV (.t 8) [(.sc, (.t 9))]), none⟩]
def q_trap_Each_1_4 : List AOper := [
  ⟨(some 11), (.load .sc 1 (.t 2)), none⟩,
  ⟨(some 12), (.bin .add (.t 11) (.v (.int .i64 1))), none⟩,
  ⟨none, (.store .sc 1 (.t 2) (.t 12)), none⟩]
def q_trap_Each_1_5 : List AOper := [
  ⟨(some 13), (.bin .add (.t 5) (.v (.int .i64 1))), none⟩,
  ⟨(some 5), (.mv (.t 13)), none⟩]
def q_trap_Each_1_L6 : ACode := (.seq (.region q_trap_Each_1_1) (.seq (.cond (.t 6) .skip (.exit 0)) (.seq (.block 1 (.seq (.region q_trap_Each_1_2) (.seq (.region q_trap_Each_1_3) (.region q_trap_Each_1_4)))) (.region q_trap_Each_1_5))))
def a_trap_Each_1 : AFunc := ⟨[], (.seq (.region q_trap_Each_1_0) (.block 0 (.loop q_trap_Each_1_L6)))⟩

def q_law05_TrapCatches_0 : List AOper := [
  ⟨(some 2), (.box 3 .sc (.t 0)), none⟩,
  ⟨(some 3), (.box 5 .sc (.t 1)), none⟩,
  ⟨(some 4), (.mv (.v (.bool false))), none⟩]
def q_law05_TrapCatches_1 : List AOper := [
  ⟨(some 9), (.xx (.p (.mkF (.func F_law05_TrapCatches_1) 0)) [(.t 2), (.t 3)]), none⟩,
  ⟨(some 10), (.call F_trap_Catch [(.sc, (.t 9))]), none⟩,
  ⟨(some 5), (.mv (.t 10)), none⟩]
def q_law05_TrapCatches_2 : List AOper := [
  ⟨(some 12), (.xx (.p (.mkF (.func F_law05_TrapCatches_2) 0)) [(.t 2)]), none⟩,
  ⟨(some 13), (.call F_trap_Try_int [(.sc, (.t 12))]), none⟩,
  ⟨(some 11), (.mv (.t 13)), none⟩,
  ⟨(some 14), (.ext 0 (.t 11)), none⟩,
  ⟨(some 15), (.ext 1 (.t 11)), none⟩,
  ⟨(some 6), (.mv (.t 14)), none⟩,
  ⟨(some 7), (.mv (.t 15)), none⟩]
def q_law05_TrapCatches_3 : List AOper := [
  ⟨(some 16), (.load .sc 1 (.t 2)), none⟩,
  ⟨(some 17), (.call F_ref05_Code [(.sc, (.t 16))]), none⟩,
  ⟨(some 8), (.mv (.t 17)), none⟩]
def q_law05_TrapCatches_4 : List AOper := [
  ⟨(some 18), (.mv (.t 5)), none⟩,
  ⟨(some 19), (.mv (.t 8)), none⟩,
  ⟨(some 20), (.eq .scI false (.t 18) (.t 19)), none⟩,
  ⟨(some 21), (.mv (.t 20)), none⟩,
  ⟨(some 22), (.mv (.t 7)), (some (21, true))⟩,
  ⟨(some 23), (.mv (.t 8)), (some (21, true))⟩,
  ⟨(some 24), (.eq .scI false (.t 22) (.t 23)), (some (21, true))⟩,
  ⟨(some 25), (.pick (.t 21) (.t 24) (.v (.bool false))), none⟩,
  ⟨(some 26), (.mv (.t 25)), none⟩,
  ⟨(some 27), (.mv (.t 6)), (some (26, true))⟩,
  ⟨(some 28), (.eq .scI false (.t 27) (.v (.int .i64 5))), (some (26, true))⟩,
  ⟨(some 29), (.mv (.t 8)), (some (26, true))⟩,
  ⟨(some 30), (.eq .scI false (.t 29) (.v (.int .i64 0))), (some (26, true))⟩,
  ⟨(some 31), (.eq .scB false (.t 28) (.t 30)), (some (26, true))⟩,
  ⟨(some 32), (.pick (.t 26) (.t 31) (.v (.bool false))), none⟩,
  ⟨(some 33), (.mv (.t 32)), none⟩,
  ⟨(some 34), (.mv (.t 6)), (some (33, true))⟩,
  ⟨(some 35), (.eq .scI false (.t 34) (.v (.int .i64 5))), (some (33, true))⟩,
  ⟨(some 36), (.mv (.t 35)), (some (33, true))⟩,
  ⟨(some 37), (.mv (.t 6)), (some (36, false))⟩,
  ⟨(some 38), (.eq .scI false (.t 37) (.v (.int .i64 0))), (some (36, false))⟩,
  ⟨(some 39), (.pick (.t 36) (.v (.bool true)) (.t 38)), (some (33, true))⟩,
  ⟨(some 40), (.pick (.t 33) (.t 39) (.v (.bool false))), none⟩,
  ⟨(some 41), (.mv (.t 40)), none⟩,
  ⟨(some 42), (.call F_law05_works []), (some (41, true))⟩,
  ⟨(some 43), (.pick (.t 41) (.t 42) (.v (.bool false))), none⟩,
  ⟨(some 4), (.mv (.t 43)), none⟩]
def a_law05_TrapCatches : AFunc := ⟨[(.tmp 4)], (.seq (.region q_law05_TrapCatches_0) (.seq (.region q_law05_TrapCatches_1) (.seq (.region q_law05_TrapCatches_2) (.seq (.region q_law05_TrapCatches_3) (.seq (.region q_law05_TrapCatches_4) .ret)))))⟩

def q_law05_TrapEach_0 : List AOper := [
  ⟨(some 1), (.box 45 .sc (.t 0)), none⟩,
  ⟨(some 2), (.mv (.v (.bool false))), none⟩]
def q_law05_TrapEach_1 : List AOper := [
  ⟨(some 14), (.load .sc 1 (.t 1)), none⟩,
  ⟨(some 15), (.len false (.t 14)), none⟩,
  ⟨(some 16), (.bin .gtr (.t 15) (.v (.int .i64 200))), none⟩]
def q_law05_TrapEach_2 : List AOper := [
  ⟨(some 17), (.call F_law05_works []), none⟩,
  ⟨(some 2), (.mv (.t 17)), none⟩]
def q_law05_TrapEach_3 : List AOper := [
  ⟨(some 3), (.alloc 3 [(.int .i64 0)]), none⟩,
  ⟨none, (.store .sc 1 (.t 3) (.v (.int .i64 0))), none⟩]
def q_law05_TrapEach_4 : List AOper := [
  ⟨(some 19), (.load .sc 1 (.t 1)), none⟩,
  ⟨(some 20), (.len false (.t 19)), none⟩,
  ⟨(some 21), (.xx (.p (.mkF (.func F_law05_TrapEach_1) 0)) [(.t 1), (.t 3)]), none⟩,
  ⟨(some 22), (.call F_trap_Each [(.sc, (.t 20)), (.sc, (.t 21))]), none⟩,
  ⟨(some 18), (.mv (.t 22)), none⟩,
  ⟨(some 23), (.ext 0 (.t 18)), none⟩,
  ⟨(some 24), (.ext 1 (.t 18)), none⟩,
  ⟨(some 4), (.mv (.t 23)), none⟩,
  ⟨(some 5), (.mv (.t 24)), none⟩]
def q_law05_TrapEach_5 : List AOper := [
  ⟨(some 26), (.load .sc 1 (.t 1)), none⟩,
  ⟨(some 27), (.call F_ref05_Each [(.sc, (.t 26))]), none⟩,
  ⟨(some 25), (.mv (.t 27)), none⟩,
  ⟨(some 28), (.ext 0 (.t 25)), none⟩,
  ⟨(some 29), (.ext 1 (.t 25)), none⟩,
  ⟨(some 6), (.mv (.t 28)), none⟩,
  ⟨(some 7), (.mv (.t 29)), none⟩]
def q_law05_TrapEach_6 : List AOper := [
  ⟨(some 30), (.mv (.t 4)), none⟩,
  ⟨(some 31), (.mv (.t 6)), none⟩,
  ⟨(some 32), (.eq .scI true (.t 30) (.t 31)), none⟩,
  ⟨(some 33), (.mv (.t 32)), none⟩,
  ⟨(some 34), (.load .sc 1 (.t 3)), (some (33, false))⟩,
  ⟨(some 35), (.mv (.t 6)), (some (33, false))⟩,
  ⟨(some 36), (.eq .scI true (.t 34) (.t 35)), (some (33, false))⟩,
  ⟨(some 37), (.pick (.t 33) (.v (.bool true)) (.t 36)), none⟩,
  ⟨(some 38), (.mv (.t 37)), none⟩,
  ⟨(some 39), (.mv (.t 5)), (some (38, false))⟩,
  ⟨(some 40), (.mv (.t 7)), (some (38, false))⟩,
  ⟨(some 41), (.eq .scI true (.t 39) (.t 40)), (some (38, false))⟩,
  ⟨(some 42), (.pick (.t 38) (.v (.bool true)) (.t 41)), none⟩]
def q_law05_TrapEach_7 : List AOper := [
  ⟨(some 2), (.mv (.v (.bool false))), none⟩]
def q_law05_TrapEach_8 : List AOper := [
  ⟨(some 8), (.alloc 3 [(.int .i64 0)]), none⟩,
  ⟨(some 9), (.alloc 3 [(.int .i64 0)]), none⟩,
  ⟨(some 10), (.alloc 3 [(.int .i64 0)]), none⟩,
  ⟨none, (.store .sc 1 (.t 8) (.v (.int .i64 0))), none⟩,
  ⟨none, (.store .sc 1 (.t 9) (.v (.int .i64 0))), none⟩,
  ⟨none, (.store .sc 1 (.t 10) (.v (.int .i64 0))), none⟩]
def q_law05_TrapEach_9 : List AOper := [
  ⟨(some 43), (.load .sc 1 (.t 1)), none⟩,
  ⟨(some 44), (.len false (.t 43)), none⟩,
  ⟨(some 45), (.bin .gtr (.t 44) (.v (.int .i64 2))), none⟩]
def q_law05_TrapEach_10 : List DOp := [
  ⟨⟨(some 46), (.load .sc 1 (.t 1)), none⟩, true, false⟩,
  ⟨⟨(some 47), (.idx 1 (.t 46) (.v (.int .i64 0))), none⟩, true, false⟩,
  ⟨⟨(some 48), (.load .sc 1 (.t 47)), none⟩, true, false⟩,
  ⟨⟨(some 49), (.load .sc 1 (.t 1)), none⟩, true, false⟩,
  ⟨⟨(some 50), (.idx 1 (.t 49) (.v (.int .i64 1))), none⟩, true, false⟩,
  ⟨⟨(some 51), (.load .sc 1 (.t 50)), none⟩, true, false⟩,
  ⟨⟨(some 52), (.load .sc 1 (.t 1)), none⟩, true, false⟩,
  ⟨⟨(some 53), (.idx 1 (.t 52) (.v (.int .i64 2))), none⟩, true, false⟩,
  ⟨⟨(some 54), (.load .sc 1 (.t 53)), none⟩, true, false⟩,
  ⟨⟨none, (.store .sc 1 (.t 8) (.t 48)), none⟩, false, true⟩,
  ⟨⟨none, (.store .sc 1 (.t 9) (.t 51)), none⟩, false, true⟩,
  ⟨⟨none, (.store .sc 1 (.t 10) (.t 54)), none⟩, false, false⟩]
def q_law05_TrapEach_11 : List AOper := [
  ⟨(some 55), (.xx (.p (.mkF (.func F_law05_TrapEach_2) 0)) [(.t 8)]), none⟩,
  ⟨(some 56), (.xx (.p (.mkF (.func F_law05_TrapEach_3) 0)) [(.t 9)]), none⟩,
  ⟨(some 57), (.xx (.p (.mkF (.func F_law05_TrapEach_4) 0)) [(.t 10)]), none⟩,
  ⟨(some 58), (.bsl 1 .sc 1 [(.t 55), (.t 56), (.t 57)]), none⟩,
  ⟨(some 59), (.call F_trap_First [(.sc, (.t 58))]), none⟩,
  ⟨(some 11), (.mv (.t 59)), none⟩]
def q_law05_TrapEach_12 : List AOper := [
  ⟨(some 61), (.load .sc 1 (.t 8)), none⟩,
  ⟨(some 62), (.load .sc 1 (.t 9)), none⟩,
  ⟨(some 63), (.load .sc 1 (.t 10)), none⟩,
  ⟨(some 64), (.bslI 3 .i64 [(.t 61), (.t 62), (.t 63)]), none⟩,
  ⟨(some 65), (.call F_ref05_Each [(.sc, (.t 64))]), none⟩,
  ⟨(some 60), (.mv (.t 65)), none⟩,
  ⟨(some 66), (.ext 0 (.t 60)), none⟩,
  ⟨(some 67), (.ext 1 (.t 60)), none⟩,
  ⟨(some 12), (.mv (.t 66)), none⟩,
  ⟨(some 13), (.mv (.t 67)), none⟩]
def q_law05_TrapEach_13 : List AOper := [
  ⟨(some 68), (.mv (.t 11)), none⟩,
  ⟨(some 69), (.mv (.t 13)), none⟩,
  ⟨(some 70), (.eq .scI false (.t 68) (.t 69)), none⟩,
  ⟨(some 71), (.mv (.t 70)), none⟩,
  ⟨(some 72), (.call F_law05_works []), (some (71, true))⟩,
  ⟨(some 73), (.pick (.t 71) (.t 72) (.v (.bool false))), none⟩,
  ⟨(some 2), (.mv (.t 73)), none⟩]
def a_law05_TrapEach : AFunc := ⟨[(.tmp 2)], (.seq (.region q_law05_TrapEach_0) (.seq (.seq (.region q_law05_TrapEach_1) (.cond (.t 16) (.seq (.region q_law05_TrapEach_2) .ret) .skip)) (.seq (.region q_law05_TrapEach_3) (.seq (.region q_law05_TrapEach_4) (.seq (.region q_law05_TrapEach_5) (.seq (.seq (.region q_law05_TrapEach_6) (.cond (.t 42) (.seq (.region q_law05_TrapEach_7) .ret) .skip)) (.seq (.region q_law05_TrapEach_8) (.seq (.seq (.region q_law05_TrapEach_9) (.cond (.t 45) (.regionD q_law05_TrapEach_10) .skip)) (.seq (.region q_law05_TrapEach_11) (.seq (.region q_law05_TrapEach_12) (.seq (.region q_law05_TrapEach_13) .ret)))))))))))⟩

def q_law05_TrapNests_0 : List AOper := [
  ⟨(some 2), (.box 3 .sc (.t 0)), none⟩,
  ⟨(some 3), (.box 3 .sc (.t 1)), none⟩,
  ⟨(some 4), (.mv (.v (.bool false))), none⟩]
def q_law05_TrapNests_1 : List AOper := [
  ⟨(some 5), (.alloc 3 [(.int .i64 0)]), none⟩,
  ⟨none, (.store .sc 1 (.t 5) (.v (.int .i64 0))), none⟩]
def q_law05_TrapNests_2 : List AOper := [
  ⟨(some 6), (.alloc 36 [(.int .i64 0)]), none⟩]
def q_law05_TrapNests_3 : List AOper := [
  ⟨(some 9), (.xx (.p (.mkF (.func F_law05_TrapNests_1) 0)) [(.t 2), (.t 6), (.t 3), (.t 5)]), none⟩,
  ⟨(some 10), (.call F_trap_Catch [(.sc, (.t 9))]), none⟩,
  ⟨(some 7), (.mv (.t 10)), none⟩]
def q_law05_TrapNests_4 : List AOper := [
  ⟨(some 8), (.mv (.v (.int .i64 1))), none⟩]
def q_law05_TrapNests_5 : List AOper := [
  ⟨(some 11), (.load .sc 1 (.t 3)), none⟩,
  ⟨(some 12), (.eq .scI false (.t 11) (.v (.int .i64 0))), none⟩]
def q_law05_TrapNests_6 : List AOper := [
  ⟨(some 8), (.mv (.v (.int .i64 11))), none⟩]
def q_law05_TrapNests_7 : List DOp := [
  ⟨⟨(some 13), (.load .sc 1 (.t 6)), none⟩, true, false⟩,
  ⟨⟨(some 14), (.load .sc 1 (.t 2)), none⟩, true, false⟩,
  ⟨⟨(some 15), (.call F_ref05_Code [(.sc, (.t 14))]), none⟩, false, true⟩,
  ⟨⟨(some 16), (.eq .scI false (.t 13) (.t 15)), none⟩, true, false⟩,
  ⟨⟨(some 17), (.mv (.t 16)), none⟩, true, false⟩,
  ⟨⟨(some 18), (.mv (.t 7)), (some (17, true))⟩, true, false⟩,
  ⟨⟨(some 19), (.load .sc 1 (.t 3)), (some (17, true))⟩, true, false⟩,
  ⟨⟨(some 20), (.call F_ref05_Code [(.sc, (.t 19))]), (some (17, true))⟩, false, false⟩,
  ⟨⟨(some 21), (.eq .scI false (.t 18) (.t 20)), (some (17, true))⟩, true, false⟩,
  ⟨⟨(some 22), (.pick (.t 17) (.t 21) (.v (.bool false))), none⟩, true, false⟩,
  ⟨⟨(some 23), (.mv (.t 22)), none⟩, true, false⟩,
  ⟨⟨(some 24), (.load .sc 1 (.t 5)), (some (23, true))⟩, true, false⟩,
  ⟨⟨(some 25), (.mv (.t 8)), (some (23, true))⟩, true, false⟩,
  ⟨⟨(some 26), (.eq .scI false (.t 24) (.t 25)), (some (23, true))⟩, true, false⟩,
  ⟨⟨(some 27), (.pick (.t 23) (.t 26) (.v (.bool false))), none⟩, true, false⟩,
  ⟨⟨(some 28), (.mv (.t 27)), none⟩, true, false⟩,
  ⟨⟨(some 29), (.call F_law05_works []), (some (28, true))⟩, false, false⟩,
  ⟨⟨(some 30), (.pick (.t 28) (.t 29) (.v (.bool false))), none⟩, true, false⟩,
  ⟨⟨(some 4), (.mv (.t 30)), none⟩, true, false⟩]
def a_law05_TrapNests : AFunc := ⟨[(.tmp 4)], (.seq (.region q_law05_TrapNests_0) (.seq (.region q_law05_TrapNests_1) (.seq (.region q_law05_TrapNests_2) (.seq (.region q_law05_TrapNests_3) (.seq (.region q_law05_TrapNests_4) (.seq (.seq (.region q_law05_TrapNests_5) (.cond (.t 12) (.region q_law05_TrapNests_6) .skip)) (.seq (.regionD q_law05_TrapNests_7) .ret)))))))⟩

def q_law05_TrapCatches_1_0 : List AOper := [
  ⟨(some 2), (.load .sc 1 (.t 0)), none⟩,
  ⟨(some 3), (.load .sc 1 (.t 1)), none⟩,
  ⟨(some 4), (.conv .i64 (.t 3)), none⟩,
  ⟨(some 5), (.call F_law05_deep [(.sc, (.t 2)), (.sc, (.t 4))]), none⟩]
def a_law05_TrapCatches_1 : AFunc := ⟨[], (.region q_law05_TrapCatches_1_0)⟩

def q_law05_deep_0 : List AOper := [
  ⟨(some 4), (.mv (.t 1)), none⟩,
  ⟨(some 5), (.bin .gtr (.t 4) (.v (.int .i64 0))), none⟩]
def q_law05_deep_1 : List AOper := [
  ⟨(some 6), (.mv (.t 0)), none⟩,
  ⟨(some 7), (.mv (.t 1)), none⟩,
  ⟨(some 8), (.bin .sub (.t 7) (.v (.int .i64 1))), none⟩,
  ⟨(some 9), (.call F_law05_deep [(.sc, (.t 6)), (.sc, (.t 8))]), none⟩]
def q_law05_deep_2 : List AOper := [
  ⟨(some 10), (.mv (.t 0)), none⟩,
  ⟨(some 11), (.call F_law05_step [(.sc, (.t 10))]), none⟩]
def a_law05_deep : AFunc := ⟨[], (.seq (.seq (.region q_law05_deep_0) (.cond (.t 5) (.seq (.region q_law05_deep_1) .ret) .skip)) (.region q_law05_deep_2))⟩

def q_law05_TrapCatches_2_0 : List AOper := [
  ⟨(some 1), (.mv (.v (.int .i64 0))), none⟩]
def q_law05_TrapCatches_2_1 : List AOper := [
  ⟨(some 2), (.load .sc 1 (.t 0)), none⟩,
  ⟨(some 3), (.call F_law05_step [(.sc, (.t 2))]), none⟩]
def q_law05_TrapCatches_2_2 : List AOper := [
  ⟨(some 1), (.mv (.v (.int .i64 5))), none⟩]
def a_law05_TrapCatches_2 : AFunc := ⟨[(.tmp 1)], (.seq (.region q_law05_TrapCatches_2_0) (.seq (.region q_law05_TrapCatches_2_1) (.seq (.region q_law05_TrapCatches_2_2) .ret)))⟩

def q_law05_step_0 : List AOper := [
  ⟨(some 3), (.mv (.t 0)), none⟩,
  ⟨(some 4), (.bin .lss (.t 3) (.v (.int .i64 0))), none⟩]
def q_law05_step_1 : List AOper := [
  ⟨(some 2), (.mv (.v .nilS)), none⟩]
def q_law05_step_2 : List AOper := [
  ⟨(some 5), (.mv (.t 2)), none⟩,
  ⟨(some 6), (.mv (.t 2)), none⟩,
  ⟨(some 7), (.len false (.t 6)), none⟩,
  ⟨(some 8), (.mv (.t 0)), none⟩,
  ⟨(some 9), (.bin .rem (.t 8) (.v (.int .i64 2))), none⟩,
  ⟨(some 10), (.bin .sub (.t 7) (.t 9)), none⟩,
  ⟨(some 11), (.idx 1 (.t 5) (.t 10)), none⟩,
  ⟨none, (.store .sc 1 (.t 11) (.v (.int .i64 1))), none⟩]
def q_law05_step_3 : List AOper := [
  ⟨(some 12), (.mv (.t 0)), none⟩,
  ⟨(some 13), (.call F_trap_Must [(.sc, (.t 12))]), none⟩]
def a_law05_step : AFunc := ⟨[], (.seq (.seq (.region q_law05_step_0) (.cond (.t 4) (.seq (.region q_law05_step_1) (.region q_law05_step_2)) .skip)) (.region q_law05_step_3))⟩

def q_law05_works_0 : List AOper := [
  ⟨(some 0), (.mv (.v (.bool false))), none⟩]
def q_law05_works_1 : List AOper := [
  ⟨(some 13), (.call F_trap_Catch [(.sc, (.v (.func (.func F_law05_works_1) [] [])))]), none⟩,
  ⟨(some 1), (.mv (.t 13)), none⟩]
def q_law05_works_2 : List AOper := [
  ⟨(some 14), (.call F_trap_Catch [(.sc, (.v (.func (.func F_law05_works_2) [] [])))]), none⟩,
  ⟨(some 2), (.mv (.t 14)), none⟩]
def q_law05_works_3 : List AOper := [
  ⟨(some 15), (.call F_trap_Catch [(.sc, (.v .nilF))]), none⟩,
  ⟨(some 3), (.mv (.t 15)), none⟩]
def q_law05_works_4 : List AOper := [
  ⟨(some 17), (.call F_trap_Try_int [(.sc, (.v (.func (.func F_law05_works_3) [] [])))]), none⟩,
  ⟨(some 16), (.mv (.t 17)), none⟩,
  ⟨(some 18), (.ext 0 (.t 16)), none⟩,
  ⟨(some 19), (.ext 1 (.t 16)), none⟩,
  ⟨(some 4), (.mv (.t 18)), none⟩,
  ⟨(some 5), (.mv (.t 19)), none⟩]
def q_law05_works_5 : List AOper := [
  ⟨(some 21), (.call F_trap_Try_int [(.sc, (.v (.func (.func F_law05_works_4) [] [])))]), none⟩,
  ⟨(some 20), (.mv (.t 21)), none⟩,
  ⟨(some 22), (.ext 0 (.t 20)), none⟩,
  ⟨(some 23), (.ext 1 (.t 20)), none⟩,
  ⟨(some 6), (.mv (.t 22)), none⟩,
  ⟨(some 7), (.mv (.t 23)), none⟩]
def q_law05_works_6 : List AOper := [
  ⟨(some 25), (.call F_trap_Each [(.sc, (.v (.int .i64 3))), (.sc, (.v (.func (.func F_law05_works_5) [] [])))]), none⟩,
  ⟨(some 24), (.mv (.t 25)), none⟩,
  ⟨(some 26), (.ext 0 (.t 24)), none⟩,
  ⟨(some 27), (.ext 1 (.t 24)), none⟩,
  ⟨(some 8), (.mv (.t 26)), none⟩,
  ⟨(some 9), (.mv (.t 27)), none⟩]
def q_law05_works_7 : List AOper := [
  ⟨(some 28), (.bsl 1 .sc 1 [(.v (.func (.func F_law05_works_6) [] [])), (.v (.func (.func F_law05_works_7) [] [])), (.v .nilF)]), none⟩,
  ⟨(some 29), (.call F_trap_First [(.sc, (.t 28))]), none⟩,
  ⟨(some 10), (.mv (.t 29)), none⟩]
def q_law05_works_8 : List AOper := [
  ⟨(some 11), (.alloc 4 [(.bool false)]), none⟩,
  ⟨none, (.store .sc 1 (.t 11) (.v (.bool false))), none⟩]
def q_law05_works_9 : List AOper := [
  ⟨(some 30), (.xx (.p (.mkF (.func F_law05_works_8) 0)) [(.t 11)]), none⟩,
  ⟨(some 31), (.call F_trap_Catch [(.sc, (.t 30))]), none⟩,
  ⟨(some 12), (.mv (.t 31)), none⟩]
def q_law05_works_10 : List AOper := [
  ⟨(some 32), (.mv (.t 1)), none⟩,
  ⟨(some 33), (.eq .scI false (.t 32) (.v (.int .i64 6))), none⟩,
  ⟨(some 34), (.mv (.t 33)), none⟩,
  ⟨(some 35), (.mv (.t 2)), (some (34, true))⟩,
  ⟨(some 36), (.eq .scI false (.t 35) (.v (.int .i64 17))), (some (34, true))⟩,
  ⟨(some 37), (.pick (.t 34) (.t 36) (.v (.bool false))), none⟩,
  ⟨(some 38), (.mv (.t 37)), none⟩,
  ⟨(some 39), (.mv (.t 3)), (some (38, true))⟩,
  ⟨(some 40), (.eq .scI false (.t 39) (.v (.int .i64 1))), (some (38, true))⟩,
  ⟨(some 41), (.pick (.t 38) (.t 40) (.v (.bool false))), none⟩,
  ⟨(some 42), (.mv (.t 41)), none⟩,
  ⟨(some 43), (.mv (.t 4)), (some (42, true))⟩,
  ⟨(some 44), (.eq .scI false (.t 43) (.v (.int .i64 7))), (some (42, true))⟩,
  ⟨(some 45), (.pick (.t 42) (.t 44) (.v (.bool false))), none⟩,
  ⟨(some 46), (.mv (.t 45)), none⟩,
  ⟨(some 47), (.mv (.t 5)), (some (46, true))⟩,
  ⟨(some 48), (.eq .scI false (.t 47) (.v (.int .i64 0))), (some (46, true))⟩,
  ⟨(some 49), (.pick (.t 46) (.t 48) (.v (.bool false))), none⟩,
  ⟨(some 50), (.mv (.t 49)), none⟩,
  ⟨(some 51), (.mv (.t 6)), (some (50, true))⟩,
  ⟨(some 52), (.eq .scI false (.t 51) (.v (.int .i64 0))), (some (50, true))⟩,
  ⟨(some 53), (.pick (.t 50) (.t 52) (.v (.bool false))), none⟩,
  ⟨(some 54), (.mv (.t 53)), none⟩,
  ⟨(some 55), (.mv (.t 7)), (some (54, true))⟩,
  ⟨(some 56), (.eq .scI false (.t 55) (.v (.int .i64 12))), (some (54, true))⟩,
  ⟨(some 57), (.pick (.t 54) (.t 56) (.v (.bool false))), none⟩,
  ⟨(some 58), (.mv (.t 57)), none⟩,
  ⟨(some 59), (.mv (.t 8)), (some (58, true))⟩,
  ⟨(some 60), (.eq .scI false (.t 59) (.v (.int .i64 2))), (some (58, true))⟩,
  ⟨(some 61), (.pick (.t 58) (.t 60) (.v (.bool false))), none⟩,
  ⟨(some 62), (.mv (.t 61)), none⟩,
  ⟨(some 63), (.mv (.t 9)), (some (62, true))⟩,
  ⟨(some 64), (.eq .scI false (.t 63) (.v (.int .i64 5))), (some (62, true))⟩,
  ⟨(some 65), (.pick (.t 62) (.t 64) (.v (.bool false))), none⟩,
  ⟨(some 66), (.mv (.t 65)), none⟩,
  ⟨(some 67), (.mv (.t 10)), (some (66, true))⟩,
  ⟨(some 68), (.eq .scI false (.t 67) (.v (.int .i64 10))), (some (66, true))⟩,
  ⟨(some 69), (.pick (.t 66) (.t 68) (.v (.bool false))), none⟩,
  ⟨(some 70), (.mv (.t 69)), none⟩,
  ⟨(some 71), (.mv (.t 12)), (some (70, true))⟩,
  ⟨(some 72), (.eq .scI false (.t 71) (.v (.int .i64 11))), (some (70, true))⟩,
  ⟨(some 73), (.pick (.t 70) (.t 72) (.v (.bool false))), none⟩,
  ⟨(some 74), (.mv (.t 73)), none⟩,
  ⟨(some 75), (.load .sc 1 (.t 11)), (some (74, true))⟩,
  ⟨(some 76), (.pick (.t 74) (.t 75) (.v (.bool false))), none⟩,
  ⟨(some 0), (.mv (.t 76)), none⟩]
def a_law05_works : AFunc := ⟨[(.tmp 0)], (.seq (.region q_law05_works_0) (.seq (.region q_law05_works_1) (.seq (.region q_law05_works_2) (.seq (.region q_law05_works_3) (.seq (.region q_law05_works_4) (.seq (.region q_law05_works_5) (.seq (.region q_law05_works_6) (.seq (.region q_law05_works_7) (.seq (.region q_law05_works_8) (.seq (.region q_law05_works_9) (.seq (.region q_law05_works_10) .ret)))))))))))⟩

def q_law05_TrapEach_1_0 : List AOper := [
  ⟨(some 4), (.load .sc 1 (.t 1)), none⟩,
  ⟨(some 5), (.mv (.t 0)), none⟩,
  ⟨(some 6), (.idx 1 (.t 4) (.t 5)), none⟩,
  ⟨(some 7), (.load .sc 1 (.t 6)), none⟩,
  ⟨(some 8), (.call F_law05_step [(.sc, (.t 7))]), none⟩]
def q_law05_TrapEach_1_1 : List AOper := [
  ⟨(some 9), (.load .sc 1 (.t 2)), none⟩,
  ⟨(some 10), (.bin .add (.t 9) (.v (.int .i64 1))), none⟩,
  ⟨none, (.store .sc 1 (.t 2) (.t 10)), none⟩]
def a_law05_TrapEach_1 : AFunc := ⟨[], (.seq (.region q_law05_TrapEach_1_0) (.region q_law05_TrapEach_1_1))⟩

def q_law05_TrapEach_2_0 : List AOper := [
  ⟨(some 1), (.load .sc 1 (.t 0)), none⟩,
  ⟨(some 2), (.call F_law05_step [(.sc, (.t 1))]), none⟩]
def a_law05_TrapEach_2 : AFunc := ⟨[], (.region q_law05_TrapEach_2_0)⟩

def q_law05_TrapEach_3_0 : List AOper := [
  ⟨(some 1), (.load .sc 1 (.t 0)), none⟩,
  ⟨(some 2), (.call F_law05_step [(.sc, (.t 1))]), none⟩]
def a_law05_TrapEach_3 : AFunc := ⟨[], (.region q_law05_TrapEach_3_0)⟩

def q_law05_TrapEach_4_0 : List AOper := [
  ⟨(some 1), (.load .sc 1 (.t 0)), none⟩,
  ⟨(some 2), (.call F_law05_step [(.sc, (.t 1))]), none⟩]
def a_law05_TrapEach_4 : AFunc := ⟨[], (.region q_law05_TrapEach_4_0)⟩

def q_law05_TrapNests_1_0 : List AOper := [
  ⟨(some 4), (.xx (.p (.mkF (.func F_law05_TrapNests_1_1) 0)) [(.t 0), (.t 1), (.t 2), (.t 3)]), none⟩,
  ⟨(some 5), (.xx (.p (.mkF (.func F_law05_TrapNests_1_2) 0)) [(.t 3)]), none⟩,
  ⟨(some 6), (.call F_trap_Always [(.sc, (.t 4)), (.sc, (.t 5))]), none⟩]
def a_law05_TrapNests_1 : AFunc := ⟨[], (.region q_law05_TrapNests_1_0)⟩

def q_law05_TrapNests_1_1_0 : List AOper := [
  ⟨(some 4), (.xx (.p (.mkF (.func F_law05_TrapNests_1_1_1) 0)) [(.t 0)]), none⟩,
  ⟨(some 5), (.call F_trap_Catch [(.sc, (.t 4))]), none⟩,
  ⟨none, (.store .sc 1 (.t 1) (.t 5)), none⟩]
def q_law05_TrapNests_1_1_1 : List AOper := [
  ⟨(some 6), (.load .sc 1 (.t 2)), none⟩,
  ⟨(some 7), (.call F_law05_step [(.sc, (.t 6))]), none⟩]
def q_law05_TrapNests_1_1_2 : List AOper := [
  ⟨(some 8), (.load .sc 1 (.t 3)), none⟩,
  ⟨(some 9), (.bin .add (.t 8) (.v (.int .i64 10))), none⟩,
  ⟨none, (.store .sc 1 (.t 3) (.t 9)), none⟩]
def a_law05_TrapNests_1_1 : AFunc := ⟨[], (.seq (.region q_law05_TrapNests_1_1_0) (.seq (.region q_law05_TrapNests_1_1_1) (.region q_law05_TrapNests_1_1_2)))⟩

def q_law05_TrapNests_1_1_1_0 : List AOper := [
  ⟨(some 1), (.load .sc 1 (.t 0)), none⟩,
  ⟨(some 2), (.call F_law05_step [(.sc, (.t 1))]), none⟩]
def a_law05_TrapNests_1_1_1 : AFunc := ⟨[], (.region q_law05_TrapNests_1_1_1_0)⟩

def q_law05_TrapNests_1_2_0 : List AOper := [
  ⟨(some 1), (.load .sc 1 (.t 0)), none⟩,
  ⟨(some 2), (.bin .add (.t 1) (.v (.int .i64 1))), none⟩,
  ⟨none, (.store .sc 1 (.t 0) (.t 2)), none⟩]
def a_law05_TrapNests_1_2 : AFunc := ⟨[], (.region q_law05_TrapNests_1_2_0)⟩

def q_law05_works_1_0 : List AOper := [
  ⟨(some 0), (.call F_trap_Throw [(.sc, (.v (.int .i64 6)))]), none⟩]
def a_law05_works_1 : AFunc := ⟨[], (.region q_law05_works_1_0)⟩

def q_law05_works_2_0 : List AOper := [
  ⟨(some 0), (.call F_law05_step [(.sc, (.v (.int .i64 (-1))))]), none⟩]
def a_law05_works_2 : AFunc := ⟨[], (.region q_law05_works_2_0)⟩

def q_law05_works_3_0 : List AOper := [
  ⟨(some 0), (.mv (.v (.int .i64 0))), none⟩]
def q_law05_works_3_1 : List AOper := [
  ⟨(some 0), (.mv (.v (.int .i64 7))), none⟩]
def a_law05_works_3 : AFunc := ⟨[(.tmp 0)], (.seq (.region q_law05_works_3_0) (.seq (.region q_law05_works_3_1) .ret))⟩

def q_law05_works_4_0 : List AOper := [
  ⟨(some 0), (.mv (.v (.int .i64 0))), none⟩]
def q_law05_works_4_1 : List AOper := [
  ⟨(some 1), (.call F_trap_Must [(.sc, (.v (.int .i64 12)))]), none⟩]
def q_law05_works_4_2 : List AOper := [
  ⟨(some 0), (.mv (.v (.int .i64 7))), none⟩]
def a_law05_works_4 : AFunc := ⟨[(.tmp 0)], (.seq (.region q_law05_works_4_0) (.seq (.region q_law05_works_4_1) (.seq (.region q_law05_works_4_2) .ret)))⟩

def q_law05_works_5_0 : List AOper := [
  ⟨(some 2), (.mv (.t 0)), none⟩,
  ⟨(some 3), (.bin .quo (.t 2) (.v (.int .i64 2))), none⟩,
  ⟨(some 4), (.bin .mul (.t 3) (.v (.int .i64 5))), none⟩,
  ⟨(some 5), (.call F_law05_step [(.sc, (.t 4))]), none⟩]
def a_law05_works_5 : AFunc := ⟨[], (.region q_law05_works_5_0)⟩


def a_law05_works_6 : AFunc := ⟨[], .skip⟩

def q_law05_works_7_0 : List AOper := [
  ⟨(some 0), (.call F_trap_Throw [(.sc, (.v (.int .i64 10)))]), none⟩]
def a_law05_works_7 : AFunc := ⟨[], (.region q_law05_works_7_0)⟩

def q_law05_works_8_0 : List AOper := [
  ⟨(some 1), (.xx (.p (.mkF (.func F_law05_works_8_2) 0)) [(.t 0)]), none⟩,
  ⟨(some 2), (.call F_trap_Always [(.sc, (.v (.func (.func F_law05_works_8_1) [] []))), (.sc, (.t 1))]), none⟩]
def a_law05_works_8 : AFunc := ⟨[], (.region q_law05_works_8_0)⟩

def q_law05_works_8_1_0 : List AOper := [
  ⟨(some 0), (.call F_trap_Throw [(.sc, (.v (.int .i64 11)))]), none⟩]
def a_law05_works_8_1 : AFunc := ⟨[], (.region q_law05_works_8_1_0)⟩

def q_law05_works_8_2_0 : List AOper := [
  ⟨none, (.store .sc 1 (.t 0) (.v (.bool true))), none⟩]
def a_law05_works_8_2 : AFunc := ⟨[], (.region q_law05_works_8_2_0)⟩

def q_ref05_Code_0 : List AOper := [
  ⟨(some 2), (.mv (.v (.int .i64 0))), none⟩]
def q_ref05_Code_1 : List AOper := [
  ⟨(some 3), (.mv (.t 0)), none⟩,
  ⟨(some 4), (.bin .lss (.t 3) (.v (.int .i64 0))), none⟩]
def q_ref05_Code_2 : List AOper := [
  ⟨(some 2), (.mv (.v (.int .i64 17))), none⟩]
def q_ref05_Code_3 : List AOper := [
  ⟨(some 5), (.mv (.t 0)), none⟩,
  ⟨(some 2), (.mv (.t 5)), none⟩]
def a_ref05_Code : AFunc := ⟨[(.tmp 2)], (.seq (.region q_ref05_Code_0) (.seq (.seq (.region q_ref05_Code_1) (.cond (.t 4) (.seq (.region q_ref05_Code_2) .ret) .skip)) (.seq (.region q_ref05_Code_3) .ret)))⟩

def q_ref05_Each_0 : List AOper := [
  ⟨(some 2), (.mv (.v (.int .i64 0))), none⟩,
  ⟨(some 3), (.mv (.v (.int .i64 0))), none⟩]
def q_ref05_Each_1 : List AOper := [
  ⟨(some 4), (.mv (.v (.int .i64 0))), none⟩]
def q_ref05_Each_2 : List AOper := [
  ⟨(some 5), (.mv (.t 4)), none⟩,
  ⟨(some 6), (.mv (.t 0)), none⟩,
  ⟨(some 7), (.len false (.t 6)), none⟩,
  ⟨(some 8), (.bin .lss (.t 5) (.t 7)), none⟩]
def q_ref05_Each_3 : List AOper := [
  ⟨(some 11), (.mv (.t 0)), none⟩,
  ⟨(some 12), (.mv (.t 4)), none⟩,
  ⟨(some 13), (.idx 1 (.t 11) (.t 12)), none⟩,
  ⟨(some 14), (.load .sc 1 (.t 13)), none⟩,
  ⟨(some 15), (.eq .scI true (.t 14) (.v (.int .i64 0))), none⟩]
def q_ref05_Each_4 : List AOper := [
  ⟨(some 16), (.mv (.t 4)), none⟩,
  ⟨(some 17), (.mv (.t 0)), none⟩,
  ⟨(some 18), (.mv (.t 4)), none⟩,
  ⟨(some 19), (.idx 1 (.t 17) (.t 18)), none⟩,
  ⟨(some 20), (.load .sc 1 (.t 19)), none⟩,
  ⟨(some 21), (.call F_ref05_Code [(.sc, (.t 20))]), none⟩,
  ⟨(some 2), (.mv (.t 16)), none⟩,
  ⟨(some 3), (.mv (.t 21)), none⟩]
def q_ref05_Each_5 : List AOper := [
  ⟨(some 9), (.mv (.t 4)), none⟩,
  ⟨(some 10), (.bin .add (.t 9) (.v (.int .i64 1))), none⟩,
  ⟨(some 4), (.mv (.t 10)), none⟩]
def q_ref05_Each_L6 : ACode := (.seq (.seq (.region q_ref05_Each_2) (.cond (.t 8) .skip (.exit 0))) (.seq (.block 1 (.seq (.region q_ref05_Each_3) (.cond (.t 15) (.seq (.region q_ref05_Each_4) .ret) .skip))) (.region q_ref05_Each_5)))
def q_ref05_Each_6 : List AOper := [
  ⟨(some 22), (.mv (.t 0)), none⟩,
  ⟨(some 23), (.len false (.t 22)), none⟩,
  ⟨(some 2), (.mv (.t 23)), none⟩,
  ⟨(some 3), (.mv (.v (.int .i64 0))), none⟩]
def a_ref05_Each : AFunc := ⟨[(.tmp 2), (.tmp 3)], (.seq (.region q_ref05_Each_0) (.seq (.seq (.region q_ref05_Each_1) (.block 0 (.loop q_ref05_Each_L6))) (.seq (.region q_ref05_Each_6) .ret)))⟩


theorem c_trap_Try_int : trF Try.prog Try.f24 = some a_trap_Try_int := by kernel_rfl
theorem g_trap_Try_int : Try.prog.funcs[24]? = some Try.f24 := by kernel_rfl
theorem i_trap_Try_int {args : List AV} {A : Heap} {Ko : AOut → Heap → Prop} (hn : args.length ≤ 15)
    (h : ∀ R : APost, (∀ e env A, fpost a_trap_Try_int.res Ko e env A → R e env A) → X Try.prog R a_trap_Try_int.body .done (env0 args) A) : SimX Try.prog F_trap_Try_int args A Ko :=
  X_intro g_trap_Try_int c_trap_Try_int (by rw [Try.ntmps24]; exact hn) h
theorem v_trap_Try_int {args : List AV} {v : AV} (hn : args.length ≤ 15) (h : X Try.prog (fin a_trap_Try_int.res v) a_trap_Try_int.body .done (env0 args) H0) : Gives Try.prog F_trap_Try_int args v :=
  Gives_intro g_trap_Try_int c_trap_Try_int (by rw [Try.ntmps24]; exact hn) h
theorem e_trap_Try_int {args : List AV} {Q : AOut → Prop} (hn : args.length ≤ 15) (h : X Try.prog (finE a_trap_Try_int.res Q) a_trap_Try_int.body .done (env0 args) H0) : Fins Try.prog F_trap_Try_int args Q :=
  Fins_intro g_trap_Try_int c_trap_Try_int (by rw [Try.ntmps24]; exact hn) h
theorem j_trap_Try_int {args : List AV} {A : Heap} {K Kp : AV → Heap → Prop} (hn : args.length ≤ 15) (h : X Try.prog (inl a_trap_Try_int.res K Kp) a_trap_Try_int.body .done (env0 args) A) : SimX Try.prog F_trap_Try_int args A (outK K Kp) :=
  X_inl g_trap_Try_int c_trap_Try_int (by rw [Try.ntmps24]; exact hn) h
theorem d_trap_Try_int {args : List AV} {A : Heap} {Ko : AOut → Heap → Prop} (hn : args.length ≤ 15)
    (h : ∀ R : APost, (∀ e env A, fpost a_trap_Try_int.res Ko e env A → R e env A) → X Try.prog R a_trap_Try_int.body .done (env0 args) A) : SimD Try.prog F_trap_Try_int args A Ko :=
  X_introD g_trap_Try_int c_trap_Try_int (by rw [Try.ntmps24]; exact hn) h
@[simp] theorem k_trap_Try_int : callable Try.prog F_trap_Try_int = true := by kernel_rfl
theorem c_trap_Each : trF Try.prog Try.f29 = some a_trap_Each := by kernel_rfl
theorem g_trap_Each : Try.prog.funcs[29]? = some Try.f29 := by kernel_rfl
theorem i_trap_Each {args : List AV} {A : Heap} {Ko : AOut → Heap → Prop} (hn : args.length ≤ 12)
    (h : ∀ R : APost, (∀ e env A, fpost a_trap_Each.res Ko e env A → R e env A) → X Try.prog R a_trap_Each.body .done (env0 args) A) : SimX Try.prog F_trap_Each args A Ko :=
  X_intro g_trap_Each c_trap_Each (by rw [Try.ntmps29]; exact hn) h
theorem v_trap_Each {args : List AV} {v : AV} (hn : args.length ≤ 12) (h : X Try.prog (fin a_trap_Each.res v) a_trap_Each.body .done (env0 args) H0) : Gives Try.prog F_trap_Each args v :=
  Gives_intro g_trap_Each c_trap_Each (by rw [Try.ntmps29]; exact hn) h
theorem e_trap_Each {args : List AV} {Q : AOut → Prop} (hn : args.length ≤ 12) (h : X Try.prog (finE a_trap_Each.res Q) a_trap_Each.body .done (env0 args) H0) : Fins Try.prog F_trap_Each args Q :=
  Fins_intro g_trap_Each c_trap_Each (by rw [Try.ntmps29]; exact hn) h
theorem j_trap_Each {args : List AV} {A : Heap} {K Kp : AV → Heap → Prop} (hn : args.length ≤ 12) (h : X Try.prog (inl a_trap_Each.res K Kp) a_trap_Each.body .done (env0 args) A) : SimX Try.prog F_trap_Each args A (outK K Kp) :=
  X_inl g_trap_Each c_trap_Each (by rw [Try.ntmps29]; exact hn) h
theorem d_trap_Each {args : List AV} {A : Heap} {Ko : AOut → Heap → Prop} (hn : args.length ≤ 12)
    (h : ∀ R : APost, (∀ e env A, fpost a_trap_Each.res Ko e env A → R e env A) → X Try.prog R a_trap_Each.body .done (env0 args) A) : SimD Try.prog F_trap_Each args A Ko :=
  X_introD g_trap_Each c_trap_Each (by rw [Try.ntmps29]; exact hn) h
@[simp] theorem k_trap_Each : callable Try.prog F_trap_Each = true := by kernel_rfl
theorem c_trap_First : trF Try.prog Try.f32 = some a_trap_First := by kernel_rfl
theorem g_trap_First : Try.prog.funcs[32]? = some Try.f32 := by kernel_rfl
theorem i_trap_First {args : List AV} {A : Heap} {Ko : AOut → Heap → Prop} (hn : args.length ≤ 18)
    (h : ∀ R : APost, (∀ e env A, fpost a_trap_First.res Ko e env A → R e env A) → X Try.prog R a_trap_First.body .done (env0 args) A) : SimX Try.prog F_trap_First args A Ko :=
  X_intro g_trap_First c_trap_First (by rw [Try.ntmps32]; exact hn) h
theorem v_trap_First {args : List AV} {v : AV} (hn : args.length ≤ 18) (h : X Try.prog (fin a_trap_First.res v) a_trap_First.body .done (env0 args) H0) : Gives Try.prog F_trap_First args v :=
  Gives_intro g_trap_First c_trap_First (by rw [Try.ntmps32]; exact hn) h
theorem e_trap_First {args : List AV} {Q : AOut → Prop} (hn : args.length ≤ 18) (h : X Try.prog (finE a_trap_First.res Q) a_trap_First.body .done (env0 args) H0) : Fins Try.prog F_trap_First args Q :=
  Fins_intro g_trap_First c_trap_First (by rw [Try.ntmps32]; exact hn) h
theorem j_trap_First {args : List AV} {A : Heap} {K Kp : AV → Heap → Prop} (hn : args.length ≤ 18) (h : X Try.prog (inl a_trap_First.res K Kp) a_trap_First.body .done (env0 args) A) : SimX Try.prog F_trap_First args A (outK K Kp) :=
  X_inl g_trap_First c_trap_First (by rw [Try.ntmps32]; exact hn) h
theorem d_trap_First {args : List AV} {A : Heap} {Ko : AOut → Heap → Prop} (hn : args.length ≤ 18)
    (h : ∀ R : APost, (∀ e env A, fpost a_trap_First.res Ko e env A → R e env A) → X Try.prog R a_trap_First.body .done (env0 args) A) : SimD Try.prog F_trap_First args A Ko :=
  X_introD g_trap_First c_trap_First (by rw [Try.ntmps32]; exact hn) h
@[simp] theorem k_trap_First : callable Try.prog F_trap_First = true := by kernel_rfl
theorem c_trap_caught : trF Try.prog Try.f56 = some a_trap_caught := by kernel_rfl
theorem g_trap_caught : Try.prog.funcs[56]? = some Try.f56 := by kernel_rfl
theorem i_trap_caught {args : List AV} {A : Heap} {Ko : AOut → Heap → Prop} (hn : args.length ≤ 12)
    (h : ∀ R : APost, (∀ e env A, fpost a_trap_caught.res Ko e env A → R e env A) → X Try.prog R a_trap_caught.body .done (env0 args) A) : SimX Try.prog F_trap_caught args A Ko :=
  X_intro g_trap_caught c_trap_caught (by rw [Try.ntmps56]; exact hn) h
theorem v_trap_caught {args : List AV} {v : AV} (hn : args.length ≤ 12) (h : X Try.prog (fin a_trap_caught.res v) a_trap_caught.body .done (env0 args) H0) : Gives Try.prog F_trap_caught args v :=
  Gives_intro g_trap_caught c_trap_caught (by rw [Try.ntmps56]; exact hn) h
theorem e_trap_caught {args : List AV} {Q : AOut → Prop} (hn : args.length ≤ 12) (h : X Try.prog (finE a_trap_caught.res Q) a_trap_caught.body .done (env0 args) H0) : Fins Try.prog F_trap_caught args Q :=
  Fins_intro g_trap_caught c_trap_caught (by rw [Try.ntmps56]; exact hn) h
theorem j_trap_caught {args : List AV} {A : Heap} {K Kp : AV → Heap → Prop} (hn : args.length ≤ 12) (h : X Try.prog (inl a_trap_caught.res K Kp) a_trap_caught.body .done (env0 args) A) : SimX Try.prog F_trap_caught args A (outK K Kp) :=
  X_inl g_trap_caught c_trap_caught (by rw [Try.ntmps56]; exact hn) h
theorem d_trap_caught {args : List AV} {A : Heap} {Ko : AOut → Heap → Prop} (hn : args.length ≤ 12)
    (h : ∀ R : APost, (∀ e env A, fpost a_trap_caught.res Ko e env A → R e env A) → X Try.prog R a_trap_caught.body .done (env0 args) A) : SimD Try.prog F_trap_caught args A Ko :=
  X_introD g_trap_caught c_trap_caught (by rw [Try.ntmps56]; exact hn) h
@[simp] theorem k_trap_caught : callable Try.prog F_trap_caught = true := by kernel_rfl
theorem c_trap_Try_int_1 : trF Try.prog Try.f57 = some a_trap_Try_int_1 := by kernel_rfl
theorem g_trap_Try_int_1 : Try.prog.funcs[57]? = some Try.f57 := by kernel_rfl
theorem i_trap_Try_int_1 {args : List AV} {A : Heap} {Ko : AOut → Heap → Prop} (hn : args.length ≤ 4)
    (h : ∀ R : APost, (∀ e env A, fpost a_trap_Try_int_1.res Ko e env A → R e env A) → X Try.prog R a_trap_Try_int_1.body .done (env0 args) A) : SimX Try.prog F_trap_Try_int_1 args A Ko :=
  X_intro g_trap_Try_int_1 c_trap_Try_int_1 (by rw [Try.ntmps57]; exact hn) h
theorem v_trap_Try_int_1 {args : List AV} {v : AV} (hn : args.length ≤ 4) (h : X Try.prog (fin a_trap_Try_int_1.res v) a_trap_Try_int_1.body .done (env0 args) H0) : Gives Try.prog F_trap_Try_int_1 args v :=
  Gives_intro g_trap_Try_int_1 c_trap_Try_int_1 (by rw [Try.ntmps57]; exact hn) h
theorem e_trap_Try_int_1 {args : List AV} {Q : AOut → Prop} (hn : args.length ≤ 4) (h : X Try.prog (finE a_trap_Try_int_1.res Q) a_trap_Try_int_1.body .done (env0 args) H0) : Fins Try.prog F_trap_Try_int_1 args Q :=
  Fins_intro g_trap_Try_int_1 c_trap_Try_int_1 (by rw [Try.ntmps57]; exact hn) h
theorem j_trap_Try_int_1 {args : List AV} {A : Heap} {K Kp : AV → Heap → Prop} (hn : args.length ≤ 4) (h : X Try.prog (inl a_trap_Try_int_1.res K Kp) a_trap_Try_int_1.body .done (env0 args) A) : SimX Try.prog F_trap_Try_int_1 args A (outK K Kp) :=
  X_inl g_trap_Try_int_1 c_trap_Try_int_1 (by rw [Try.ntmps57]; exact hn) h
theorem d_trap_Try_int_1 {args : List AV} {A : Heap} {Ko : AOut → Heap → Prop} (hn : args.length ≤ 4)
    (h : ∀ R : APost, (∀ e env A, fpost a_trap_Try_int_1.res Ko e env A → R e env A) → X Try.prog R a_trap_Try_int_1.body .done (env0 args) A) : SimD Try.prog F_trap_Try_int_1 args A Ko :=
  X_introD g_trap_Try_int_1 c_trap_Try_int_1 (by rw [Try.ntmps57]; exact hn) h
@[simp] theorem k_trap_Try_int_1 : callable Try.prog F_trap_Try_int_1 = true := by kernel_rfl
theorem c_trap_Must : trF Try.prog Try.f58 = some a_trap_Must := by kernel_rfl
theorem g_trap_Must : Try.prog.funcs[58]? = some Try.f58 := by kernel_rfl
theorem i_trap_Must {args : List AV} {A : Heap} {Ko : AOut → Heap → Prop} (hn : args.length ≤ 6)
    (h : ∀ R : APost, (∀ e env A, fpost a_trap_Must.res Ko e env A → R e env A) → X Try.prog R a_trap_Must.body .done (env0 args) A) : SimX Try.prog F_trap_Must args A Ko :=
  X_intro g_trap_Must c_trap_Must (by rw [Try.ntmps58]; exact hn) h
theorem v_trap_Must {args : List AV} {v : AV} (hn : args.length ≤ 6) (h : X Try.prog (fin a_trap_Must.res v) a_trap_Must.body .done (env0 args) H0) : Gives Try.prog F_trap_Must args v :=
  Gives_intro g_trap_Must c_trap_Must (by rw [Try.ntmps58]; exact hn) h
theorem e_trap_Must {args : List AV} {Q : AOut → Prop} (hn : args.length ≤ 6) (h : X Try.prog (finE a_trap_Must.res Q) a_trap_Must.body .done (env0 args) H0) : Fins Try.prog F_trap_Must args Q :=
  Fins_intro g_trap_Must c_trap_Must (by rw [Try.ntmps58]; exact hn) h
theorem j_trap_Must {args : List AV} {A : Heap} {K Kp : AV → Heap → Prop} (hn : args.length ≤ 6) (h : X Try.prog (inl a_trap_Must.res K Kp) a_trap_Must.body .done (env0 args) A) : SimX Try.prog F_trap_Must args A (outK K Kp) :=
  X_inl g_trap_Must c_trap_Must (by rw [Try.ntmps58]; exact hn) h
theorem d_trap_Must {args : List AV} {A : Heap} {Ko : AOut → Heap → Prop} (hn : args.length ≤ 6)
    (h : ∀ R : APost, (∀ e env A, fpost a_trap_Must.res Ko e env A → R e env A) → X Try.prog R a_trap_Must.body .done (env0 args) A) : SimD Try.prog F_trap_Must args A Ko :=
  X_introD g_trap_Must c_trap_Must (by rw [Try.ntmps58]; exact hn) h
@[simp] theorem k_trap_Must : callable Try.prog F_trap_Must = true := by kernel_rfl
theorem c_trap_Throw : trF Try.prog Try.f60 = some a_trap_Throw := by kernel_rfl
theorem g_trap_Throw : Try.prog.funcs[60]? = some Try.f60 := by kernel_rfl
theorem i_trap_Throw {args : List AV} {A : Heap} {Ko : AOut → Heap → Prop} (hn : args.length ≤ 5)
    (h : ∀ R : APost, (∀ e env A, fpost a_trap_Throw.res Ko e env A → R e env A) → X Try.prog R a_trap_Throw.body .done (env0 args) A) : SimX Try.prog F_trap_Throw args A Ko :=
  X_intro g_trap_Throw c_trap_Throw (by rw [Try.ntmps60]; exact hn) h
theorem v_trap_Throw {args : List AV} {v : AV} (hn : args.length ≤ 5) (h : X Try.prog (fin a_trap_Throw.res v) a_trap_Throw.body .done (env0 args) H0) : Gives Try.prog F_trap_Throw args v :=
  Gives_intro g_trap_Throw c_trap_Throw (by rw [Try.ntmps60]; exact hn) h
theorem e_trap_Throw {args : List AV} {Q : AOut → Prop} (hn : args.length ≤ 5) (h : X Try.prog (finE a_trap_Throw.res Q) a_trap_Throw.body .done (env0 args) H0) : Fins Try.prog F_trap_Throw args Q :=
  Fins_intro g_trap_Throw c_trap_Throw (by rw [Try.ntmps60]; exact hn) h
theorem j_trap_Throw {args : List AV} {A : Heap} {K Kp : AV → Heap → Prop} (hn : args.length ≤ 5) (h : X Try.prog (inl a_trap_Throw.res K Kp) a_trap_Throw.body .done (env0 args) A) : SimX Try.prog F_trap_Throw args A (outK K Kp) :=
  X_inl g_trap_Throw c_trap_Throw (by rw [Try.ntmps60]; exact hn) h
theorem d_trap_Throw {args : List AV} {A : Heap} {Ko : AOut → Heap → Prop} (hn : args.length ≤ 5)
    (h : ∀ R : APost, (∀ e env A, fpost a_trap_Throw.res Ko e env A → R e env A) → X Try.prog R a_trap_Throw.body .done (env0 args) A) : SimD Try.prog F_trap_Throw args A Ko :=
  X_introD g_trap_Throw c_trap_Throw (by rw [Try.ntmps60]; exact hn) h
@[simp] theorem k_trap_Throw : callable Try.prog F_trap_Throw = true := by kernel_rfl
theorem c_trap_Each_1 : trF Try.prog Try.f70 = some a_trap_Each_1 := by kernel_rfl
theorem g_trap_Each_1 : Try.prog.funcs[70]? = some Try.f70 := by kernel_rfl
theorem i_trap_Each_1 {args : List AV} {A : Heap} {Ko : AOut → Heap → Prop} (hn : args.length ≤ 14)
    (h : ∀ R : APost, (∀ e env A, fpost a_trap_Each_1.res Ko e env A → R e env A) → X Try.prog R a_trap_Each_1.body .done (env0 args) A) : SimX Try.prog F_trap_Each_1 args A Ko :=
  X_intro g_trap_Each_1 c_trap_Each_1 (by rw [Try.ntmps70]; exact hn) h
theorem v_trap_Each_1 {args : List AV} {v : AV} (hn : args.length ≤ 14) (h : X Try.prog (fin a_trap_Each_1.res v) a_trap_Each_1.body .done (env0 args) H0) : Gives Try.prog F_trap_Each_1 args v :=
  Gives_intro g_trap_Each_1 c_trap_Each_1 (by rw [Try.ntmps70]; exact hn) h
theorem e_trap_Each_1 {args : List AV} {Q : AOut → Prop} (hn : args.length ≤ 14) (h : X Try.prog (finE a_trap_Each_1.res Q) a_trap_Each_1.body .done (env0 args) H0) : Fins Try.prog F_trap_Each_1 args Q :=
  Fins_intro g_trap_Each_1 c_trap_Each_1 (by rw [Try.ntmps70]; exact hn) h
theorem j_trap_Each_1 {args : List AV} {A : Heap} {K Kp : AV → Heap → Prop} (hn : args.length ≤ 14) (h : X Try.prog (inl a_trap_Each_1.res K Kp) a_trap_Each_1.body .done (env0 args) A) : SimX Try.prog F_trap_Each_1 args A (outK K Kp) :=
  X_inl g_trap_Each_1 c_trap_Each_1 (by rw [Try.ntmps70]; exact hn) h
theorem d_trap_Each_1 {args : List AV} {A : Heap} {Ko : AOut → Heap → Prop} (hn : args.length ≤ 14)
    (h : ∀ R : APost, (∀ e env A, fpost a_trap_Each_1.res Ko e env A → R e env A) → X Try.prog R a_trap_Each_1.body .done (env0 args) A) : SimD Try.prog F_trap_Each_1 args A Ko :=
  X_introD g_trap_Each_1 c_trap_Each_1 (by rw [Try.ntmps70]; exact hn) h
@[simp] theorem k_trap_Each_1 : callable Try.prog F_trap_Each_1 = true := by kernel_rfl
theorem c_law05_TrapCatches : trF Try.prog Try.f7 = some a_law05_TrapCatches := by kernel_rfl
theorem g_law05_TrapCatches : Try.prog.funcs[7]? = some Try.f7 := by kernel_rfl
theorem i_law05_TrapCatches {args : List AV} {A : Heap} {Ko : AOut → Heap → Prop} (hn : args.length ≤ 44)
    (h : ∀ R : APost, (∀ e env A, fpost a_law05_TrapCatches.res Ko e env A → R e env A) → X Try.prog R a_law05_TrapCatches.body .done (env0 args) A) : SimX Try.prog F_law05_TrapCatches args A Ko :=
  X_intro g_law05_TrapCatches c_law05_TrapCatches (by rw [Try.ntmps7]; exact hn) h
theorem v_law05_TrapCatches {args : List AV} {v : AV} (hn : args.length ≤ 44) (h : X Try.prog (fin a_law05_TrapCatches.res v) a_law05_TrapCatches.body .done (env0 args) H0) : Gives Try.prog F_law05_TrapCatches args v :=
  Gives_intro g_law05_TrapCatches c_law05_TrapCatches (by rw [Try.ntmps7]; exact hn) h
theorem e_law05_TrapCatches {args : List AV} {Q : AOut → Prop} (hn : args.length ≤ 44) (h : X Try.prog (finE a_law05_TrapCatches.res Q) a_law05_TrapCatches.body .done (env0 args) H0) : Fins Try.prog F_law05_TrapCatches args Q :=
  Fins_intro g_law05_TrapCatches c_law05_TrapCatches (by rw [Try.ntmps7]; exact hn) h
theorem j_law05_TrapCatches {args : List AV} {A : Heap} {K Kp : AV → Heap → Prop} (hn : args.length ≤ 44) (h : X Try.prog (inl a_law05_TrapCatches.res K Kp) a_law05_TrapCatches.body .done (env0 args) A) : SimX Try.prog F_law05_TrapCatches args A (outK K Kp) :=
  X_inl g_law05_TrapCatches c_law05_TrapCatches (by rw [Try.ntmps7]; exact hn) h
theorem d_law05_TrapCatches {args : List AV} {A : Heap} {Ko : AOut → Heap → Prop} (hn : args.length ≤ 44)
    (h : ∀ R : APost, (∀ e env A, fpost a_law05_TrapCatches.res Ko e env A → R e env A) → X Try.prog R a_law05_TrapCatches.body .done (env0 args) A) : SimD Try.prog F_law05_TrapCatches args A Ko :=
  X_introD g_law05_TrapCatches c_law05_TrapCatches (by rw [Try.ntmps7]; exact hn) h
@[simp] theorem k_law05_TrapCatches : callable Try.prog F_law05_TrapCatches = true := by kernel_rfl
theorem c_law05_TrapEach : trF Try.prog Try.f8 = some a_law05_TrapEach := by kernel_rfl
theorem g_law05_TrapEach : Try.prog.funcs[8]? = some Try.f8 := by kernel_rfl
theorem i_law05_TrapEach {args : List AV} {A : Heap} {Ko : AOut → Heap → Prop} (hn : args.length ≤ 74)
    (h : ∀ R : APost, (∀ e env A, fpost a_law05_TrapEach.res Ko e env A → R e env A) → X Try.prog R a_law05_TrapEach.body .done (env0 args) A) : SimX Try.prog F_law05_TrapEach args A Ko :=
  X_intro g_law05_TrapEach c_law05_TrapEach (by rw [Try.ntmps8]; exact hn) h
theorem v_law05_TrapEach {args : List AV} {v : AV} (hn : args.length ≤ 74) (h : X Try.prog (fin a_law05_TrapEach.res v) a_law05_TrapEach.body .done (env0 args) H0) : Gives Try.prog F_law05_TrapEach args v :=
  Gives_intro g_law05_TrapEach c_law05_TrapEach (by rw [Try.ntmps8]; exact hn) h
theorem e_law05_TrapEach {args : List AV} {Q : AOut → Prop} (hn : args.length ≤ 74) (h : X Try.prog (finE a_law05_TrapEach.res Q) a_law05_TrapEach.body .done (env0 args) H0) : Fins Try.prog F_law05_TrapEach args Q :=
  Fins_intro g_law05_TrapEach c_law05_TrapEach (by rw [Try.ntmps8]; exact hn) h
theorem j_law05_TrapEach {args : List AV} {A : Heap} {K Kp : AV → Heap → Prop} (hn : args.length ≤ 74) (h : X Try.prog (inl a_law05_TrapEach.res K Kp) a_law05_TrapEach.body .done (env0 args) A) : SimX Try.prog F_law05_TrapEach args A (outK K Kp) :=
  X_inl g_law05_TrapEach c_law05_TrapEach (by rw [Try.ntmps8]; exact hn) h
theorem d_law05_TrapEach {args : List AV} {A : Heap} {Ko : AOut → Heap → Prop} (hn : args.length ≤ 74)
    (h : ∀ R : APost, (∀ e env A, fpost a_law05_TrapEach.res Ko e env A → R e env A) → X Try.prog R a_law05_TrapEach.body .done (env0 args) A) : SimD Try.prog F_law05_TrapEach args A Ko :=
  X_introD g_law05_TrapEach c_law05_TrapEach (by rw [Try.ntmps8]; exact hn) h
@[simp] theorem k_law05_TrapEach : callable Try.prog F_law05_TrapEach = true := by kernel_rfl
theorem c_law05_TrapNests : trF Try.prog Try.f9 = some a_law05_TrapNests := by kernel_rfl
theorem g_law05_TrapNests : Try.prog.funcs[9]? = some Try.f9 := by kernel_rfl
theorem i_law05_TrapNests {args : List AV} {A : Heap} {Ko : AOut → Heap → Prop} (hn : args.length ≤ 31)
    (h : ∀ R : APost, (∀ e env A, fpost a_law05_TrapNests.res Ko e env A → R e env A) → X Try.prog R a_law05_TrapNests.body .done (env0 args) A) : SimX Try.prog F_law05_TrapNests args A Ko :=
  X_intro g_law05_TrapNests c_law05_TrapNests (by rw [Try.ntmps9]; exact hn) h
theorem v_law05_TrapNests {args : List AV} {v : AV} (hn : args.length ≤ 31) (h : X Try.prog (fin a_law05_TrapNests.res v) a_law05_TrapNests.body .done (env0 args) H0) : Gives Try.prog F_law05_TrapNests args v :=
  Gives_intro g_law05_TrapNests c_law05_TrapNests (by rw [Try.ntmps9]; exact hn) h
theorem e_law05_TrapNests {args : List AV} {Q : AOut → Prop} (hn : args.length ≤ 31) (h : X Try.prog (finE a_law05_TrapNests.res Q) a_law05_TrapNests.body .done (env0 args) H0) : Fins Try.prog F_law05_TrapNests args Q :=
  Fins_intro g_law05_TrapNests c_law05_TrapNests (by rw [Try.ntmps9]; exact hn) h
theorem j_law05_TrapNests {args : List AV} {A : Heap} {K Kp : AV → Heap → Prop} (hn : args.length ≤ 31) (h : X Try.prog (inl a_law05_TrapNests.res K Kp) a_law05_TrapNests.body .done (env0 args) A) : SimX Try.prog F_law05_TrapNests args A (outK K Kp) :=
  X_inl g_law05_TrapNests c_law05_TrapNests (by rw [Try.ntmps9]; exact hn) h
theorem d_law05_TrapNests {args : List AV} {A : Heap} {Ko : AOut → Heap → Prop} (hn : args.length ≤ 31)
    (h : ∀ R : APost, (∀ e env A, fpost a_law05_TrapNests.res Ko e env A → R e env A) → X Try.prog R a_law05_TrapNests.body .done (env0 args) A) : SimD Try.prog F_law05_TrapNests args A Ko :=
  X_introD g_law05_TrapNests c_law05_TrapNests (by rw [Try.ntmps9]; exact hn) h
@[simp] theorem k_law05_TrapNests : callable Try.prog F_law05_TrapNests = true := by kernel_rfl
theorem c_law05_TrapCatches_1 : trF Try.prog Try.f22 = some a_law05_TrapCatches_1 := by kernel_rfl
theorem g_law05_TrapCatches_1 : Try.prog.funcs[22]? = some Try.f22 := by kernel_rfl
theorem i_law05_TrapCatches_1 {args : List AV} {A : Heap} {Ko : AOut → Heap → Prop} (hn : args.length ≤ 6)
    (h : ∀ R : APost, (∀ e env A, fpost a_law05_TrapCatches_1.res Ko e env A → R e env A) → X Try.prog R a_law05_TrapCatches_1.body .done (env0 args) A) : SimX Try.prog F_law05_TrapCatches_1 args A Ko :=
  X_intro g_law05_TrapCatches_1 c_law05_TrapCatches_1 (by rw [Try.ntmps22]; exact hn) h
theorem v_law05_TrapCatches_1 {args : List AV} {v : AV} (hn : args.length ≤ 6) (h : X Try.prog (fin a_law05_TrapCatches_1.res v) a_law05_TrapCatches_1.body .done (env0 args) H0) : Gives Try.prog F_law05_TrapCatches_1 args v :=
  Gives_intro g_law05_TrapCatches_1 c_law05_TrapCatches_1 (by rw [Try.ntmps22]; exact hn) h
theorem e_law05_TrapCatches_1 {args : List AV} {Q : AOut → Prop} (hn : args.length ≤ 6) (h : X Try.prog (finE a_law05_TrapCatches_1.res Q) a_law05_TrapCatches_1.body .done (env0 args) H0) : Fins Try.prog F_law05_TrapCatches_1 args Q :=
  Fins_intro g_law05_TrapCatches_1 c_law05_TrapCatches_1 (by rw [Try.ntmps22]; exact hn) h
theorem j_law05_TrapCatches_1 {args : List AV} {A : Heap} {K Kp : AV → Heap → Prop} (hn : args.length ≤ 6) (h : X Try.prog (inl a_law05_TrapCatches_1.res K Kp) a_law05_TrapCatches_1.body .done (env0 args) A) : SimX Try.prog F_law05_TrapCatches_1 args A (outK K Kp) :=
  X_inl g_law05_TrapCatches_1 c_law05_TrapCatches_1 (by rw [Try.ntmps22]; exact hn) h
theorem d_law05_TrapCatches_1 {args : List AV} {A : Heap} {Ko : AOut → Heap → Prop} (hn : args.length ≤ 6)
    (h : ∀ R : APost, (∀ e env A, fpost a_law05_TrapCatches_1.res Ko e env A → R e env A) → X Try.prog R a_law05_TrapCatches_1.body .done (env0 args) A) : SimD Try.prog F_law05_TrapCatches_1 args A Ko :=
  X_introD g_law05_TrapCatches_1 c_law05_TrapCatches_1 (by rw [Try.ntmps22]; exact hn) h
@[simp] theorem k_law05_TrapCatches_1 : callable Try.prog F_law05_TrapCatches_1 = true := by kernel_rfl
theorem c_law05_deep : trF Try.prog Try.f23 = some a_law05_deep := by kernel_rfl
theorem g_law05_deep : Try.prog.funcs[23]? = some Try.f23 := by kernel_rfl
theorem i_law05_deep {args : List AV} {A : Heap} {Ko : AOut → Heap → Prop} (hn : args.length ≤ 12)
    (h : ∀ R : APost, (∀ e env A, fpost a_law05_deep.res Ko e env A → R e env A) → X Try.prog R a_law05_deep.body .done (env0 args) A) : SimX Try.prog F_law05_deep args A Ko :=
  X_intro g_law05_deep c_law05_deep (by rw [Try.ntmps23]; exact hn) h
theorem v_law05_deep {args : List AV} {v : AV} (hn : args.length ≤ 12) (h : X Try.prog (fin a_law05_deep.res v) a_law05_deep.body .done (env0 args) H0) : Gives Try.prog F_law05_deep args v :=
  Gives_intro g_law05_deep c_law05_deep (by rw [Try.ntmps23]; exact hn) h
theorem e_law05_deep {args : List AV} {Q : AOut → Prop} (hn : args.length ≤ 12) (h : X Try.prog (finE a_law05_deep.res Q) a_law05_deep.body .done (env0 args) H0) : Fins Try.prog F_law05_deep args Q :=
  Fins_intro g_law05_deep c_law05_deep (by rw [Try.ntmps23]; exact hn) h
theorem j_law05_deep {args : List AV} {A : Heap} {K Kp : AV → Heap → Prop} (hn : args.length ≤ 12) (h : X Try.prog (inl a_law05_deep.res K Kp) a_law05_deep.body .done (env0 args) A) : SimX Try.prog F_law05_deep args A (outK K Kp) :=
  X_inl g_law05_deep c_law05_deep (by rw [Try.ntmps23]; exact hn) h
theorem d_law05_deep {args : List AV} {A : Heap} {Ko : AOut → Heap → Prop} (hn : args.length ≤ 12)
    (h : ∀ R : APost, (∀ e env A, fpost a_law05_deep.res Ko e env A → R e env A) → X Try.prog R a_law05_deep.body .done (env0 args) A) : SimD Try.prog F_law05_deep args A Ko :=
  X_introD g_law05_deep c_law05_deep (by rw [Try.ntmps23]; exact hn) h
@[simp] theorem k_law05_deep : callable Try.prog F_law05_deep = true := by kernel_rfl
theorem c_law05_TrapCatches_2 : trF Try.prog Try.f25 = some a_law05_TrapCatches_2 := by kernel_rfl
theorem g_law05_TrapCatches_2 : Try.prog.funcs[25]? = some Try.f25 := by kernel_rfl
theorem i_law05_TrapCatches_2 {args : List AV} {A : Heap} {Ko : AOut → Heap → Prop} (hn : args.length ≤ 4)
    (h : ∀ R : APost, (∀ e env A, fpost a_law05_TrapCatches_2.res Ko e env A → R e env A) → X Try.prog R a_law05_TrapCatches_2.body .done (env0 args) A) : SimX Try.prog F_law05_TrapCatches_2 args A Ko :=
  X_intro g_law05_TrapCatches_2 c_law05_TrapCatches_2 (by rw [Try.ntmps25]; exact hn) h
theorem v_law05_TrapCatches_2 {args : List AV} {v : AV} (hn : args.length ≤ 4) (h : X Try.prog (fin a_law05_TrapCatches_2.res v) a_law05_TrapCatches_2.body .done (env0 args) H0) : Gives Try.prog F_law05_TrapCatches_2 args v :=
  Gives_intro g_law05_TrapCatches_2 c_law05_TrapCatches_2 (by rw [Try.ntmps25]; exact hn) h
theorem e_law05_TrapCatches_2 {args : List AV} {Q : AOut → Prop} (hn : args.length ≤ 4) (h : X Try.prog (finE a_law05_TrapCatches_2.res Q) a_law05_TrapCatches_2.body .done (env0 args) H0) : Fins Try.prog F_law05_TrapCatches_2 args Q :=
  Fins_intro g_law05_TrapCatches_2 c_law05_TrapCatches_2 (by rw [Try.ntmps25]; exact hn) h
theorem j_law05_TrapCatches_2 {args : List AV} {A : Heap} {K Kp : AV → Heap → Prop} (hn : args.length ≤ 4) (h : X Try.prog (inl a_law05_TrapCatches_2.res K Kp) a_law05_TrapCatches_2.body .done (env0 args) A) : SimX Try.prog F_law05_TrapCatches_2 args A (outK K Kp) :=
  X_inl g_law05_TrapCatches_2 c_law05_TrapCatches_2 (by rw [Try.ntmps25]; exact hn) h
theorem d_law05_TrapCatches_2 {args : List AV} {A : Heap} {Ko : AOut → Heap → Prop} (hn : args.length ≤ 4)
    (h : ∀ R : APost, (∀ e env A, fpost a_law05_TrapCatches_2.res Ko e env A → R e env A) → X Try.prog R a_law05_TrapCatches_2.body .done (env0 args) A) : SimD Try.prog F_law05_TrapCatches_2 args A Ko :=
  X_introD g_law05_TrapCatches_2 c_law05_TrapCatches_2 (by rw [Try.ntmps25]; exact hn) h
@[simp] theorem k_law05_TrapCatches_2 : callable Try.prog F_law05_TrapCatches_2 = true := by kernel_rfl
theorem c_law05_step : trF Try.prog Try.f26 = some a_law05_step := by kernel_rfl
theorem g_law05_step : Try.prog.funcs[26]? = some Try.f26 := by kernel_rfl
theorem i_law05_step {args : List AV} {A : Heap} {Ko : AOut → Heap → Prop} (hn : args.length ≤ 14)
    (h : ∀ R : APost, (∀ e env A, fpost a_law05_step.res Ko e env A → R e env A) → X Try.prog R a_law05_step.body .done (env0 args) A) : SimX Try.prog F_law05_step args A Ko :=
  X_intro g_law05_step c_law05_step (by rw [Try.ntmps26]; exact hn) h
theorem v_law05_step {args : List AV} {v : AV} (hn : args.length ≤ 14) (h : X Try.prog (fin a_law05_step.res v) a_law05_step.body .done (env0 args) H0) : Gives Try.prog F_law05_step args v :=
  Gives_intro g_law05_step c_law05_step (by rw [Try.ntmps26]; exact hn) h
theorem e_law05_step {args : List AV} {Q : AOut → Prop} (hn : args.length ≤ 14) (h : X Try.prog (finE a_law05_step.res Q) a_law05_step.body .done (env0 args) H0) : Fins Try.prog F_law05_step args Q :=
  Fins_intro g_law05_step c_law05_step (by rw [Try.ntmps26]; exact hn) h
theorem j_law05_step {args : List AV} {A : Heap} {K Kp : AV → Heap → Prop} (hn : args.length ≤ 14) (h : X Try.prog (inl a_law05_step.res K Kp) a_law05_step.body .done (env0 args) A) : SimX Try.prog F_law05_step args A (outK K Kp) :=
  X_inl g_law05_step c_law05_step (by rw [Try.ntmps26]; exact hn) h
theorem d_law05_step {args : List AV} {A : Heap} {Ko : AOut → Heap → Prop} (hn : args.length ≤ 14)
    (h : ∀ R : APost, (∀ e env A, fpost a_law05_step.res Ko e env A → R e env A) → X Try.prog R a_law05_step.body .done (env0 args) A) : SimD Try.prog F_law05_step args A Ko :=
  X_introD g_law05_step c_law05_step (by rw [Try.ntmps26]; exact hn) h
@[simp] theorem k_law05_step : callable Try.prog F_law05_step = true := by kernel_rfl
theorem c_law05_works : trF Try.prog Try.f28 = some a_law05_works := by kernel_rfl
theorem g_law05_works : Try.prog.funcs[28]? = some Try.f28 := by kernel_rfl
theorem i_law05_works {args : List AV} {A : Heap} {Ko : AOut → Heap → Prop} (hn : args.length ≤ 77)
    (h : ∀ R : APost, (∀ e env A, fpost a_law05_works.res Ko e env A → R e env A) → X Try.prog R a_law05_works.body .done (env0 args) A) : SimX Try.prog F_law05_works args A Ko :=
  X_intro g_law05_works c_law05_works (by rw [Try.ntmps28]; exact hn) h
theorem v_law05_works {args : List AV} {v : AV} (hn : args.length ≤ 77) (h : X Try.prog (fin a_law05_works.res v) a_law05_works.body .done (env0 args) H0) : Gives Try.prog F_law05_works args v :=
  Gives_intro g_law05_works c_law05_works (by rw [Try.ntmps28]; exact hn) h
theorem e_law05_works {args : List AV} {Q : AOut → Prop} (hn : args.length ≤ 77) (h : X Try.prog (finE a_law05_works.res Q) a_law05_works.body .done (env0 args) H0) : Fins Try.prog F_law05_works args Q :=
  Fins_intro g_law05_works c_law05_works (by rw [Try.ntmps28]; exact hn) h
theorem j_law05_works {args : List AV} {A : Heap} {K Kp : AV → Heap → Prop} (hn : args.length ≤ 77) (h : X Try.prog (inl a_law05_works.res K Kp) a_law05_works.body .done (env0 args) A) : SimX Try.prog F_law05_works args A (outK K Kp) :=
  X_inl g_law05_works c_law05_works (by rw [Try.ntmps28]; exact hn) h
theorem d_law05_works {args : List AV} {A : Heap} {Ko : AOut → Heap → Prop} (hn : args.length ≤ 77)
    (h : ∀ R : APost, (∀ e env A, fpost a_law05_works.res Ko e env A → R e env A) → X Try.prog R a_law05_works.body .done (env0 args) A) : SimD Try.prog F_law05_works args A Ko :=
  X_introD g_law05_works c_law05_works (by rw [Try.ntmps28]; exact hn) h
@[simp] theorem k_law05_works : callable Try.prog F_law05_works = true := by kernel_rfl
theorem c_law05_TrapEach_1 : trF Try.prog Try.f30 = some a_law05_TrapEach_1 := by kernel_rfl
theorem g_law05_TrapEach_1 : Try.prog.funcs[30]? = some Try.f30 := by kernel_rfl
theorem i_law05_TrapEach_1 {args : List AV} {A : Heap} {Ko : AOut → Heap → Prop} (hn : args.length ≤ 11)
    (h : ∀ R : APost, (∀ e env A, fpost a_law05_TrapEach_1.res Ko e env A → R e env A) → X Try.prog R a_law05_TrapEach_1.body .done (env0 args) A) : SimX Try.prog F_law05_TrapEach_1 args A Ko :=
  X_intro g_law05_TrapEach_1 c_law05_TrapEach_1 (by rw [Try.ntmps30]; exact hn) h
theorem v_law05_TrapEach_1 {args : List AV} {v : AV} (hn : args.length ≤ 11) (h : X Try.prog (fin a_law05_TrapEach_1.res v) a_law05_TrapEach_1.body .done (env0 args) H0) : Gives Try.prog F_law05_TrapEach_1 args v :=
  Gives_intro g_law05_TrapEach_1 c_law05_TrapEach_1 (by rw [Try.ntmps30]; exact hn) h
theorem e_law05_TrapEach_1 {args : List AV} {Q : AOut → Prop} (hn : args.length ≤ 11) (h : X Try.prog (finE a_law05_TrapEach_1.res Q) a_law05_TrapEach_1.body .done (env0 args) H0) : Fins Try.prog F_law05_TrapEach_1 args Q :=
  Fins_intro g_law05_TrapEach_1 c_law05_TrapEach_1 (by rw [Try.ntmps30]; exact hn) h
theorem j_law05_TrapEach_1 {args : List AV} {A : Heap} {K Kp : AV → Heap → Prop} (hn : args.length ≤ 11) (h : X Try.prog (inl a_law05_TrapEach_1.res K Kp) a_law05_TrapEach_1.body .done (env0 args) A) : SimX Try.prog F_law05_TrapEach_1 args A (outK K Kp) :=
  X_inl g_law05_TrapEach_1 c_law05_TrapEach_1 (by rw [Try.ntmps30]; exact hn) h
theorem d_law05_TrapEach_1 {args : List AV} {A : Heap} {Ko : AOut → Heap → Prop} (hn : args.length ≤ 11)
    (h : ∀ R : APost, (∀ e env A, fpost a_law05_TrapEach_1.res Ko e env A → R e env A) → X Try.prog R a_law05_TrapEach_1.body .done (env0 args) A) : SimD Try.prog F_law05_TrapEach_1 args A Ko :=
  X_introD g_law05_TrapEach_1 c_law05_TrapEach_1 (by rw [Try.ntmps30]; exact hn) h
@[simp] theorem k_law05_TrapEach_1 : callable Try.prog F_law05_TrapEach_1 = true := by kernel_rfl
theorem c_law05_TrapEach_2 : trF Try.prog Try.f33 = some a_law05_TrapEach_2 := by kernel_rfl
theorem g_law05_TrapEach_2 : Try.prog.funcs[33]? = some Try.f33 := by kernel_rfl
theorem i_law05_TrapEach_2 {args : List AV} {A : Heap} {Ko : AOut → Heap → Prop} (hn : args.length ≤ 3)
    (h : ∀ R : APost, (∀ e env A, fpost a_law05_TrapEach_2.res Ko e env A → R e env A) → X Try.prog R a_law05_TrapEach_2.body .done (env0 args) A) : SimX Try.prog F_law05_TrapEach_2 args A Ko :=
  X_intro g_law05_TrapEach_2 c_law05_TrapEach_2 (by rw [Try.ntmps33]; exact hn) h
theorem v_law05_TrapEach_2 {args : List AV} {v : AV} (hn : args.length ≤ 3) (h : X Try.prog (fin a_law05_TrapEach_2.res v) a_law05_TrapEach_2.body .done (env0 args) H0) : Gives Try.prog F_law05_TrapEach_2 args v :=
  Gives_intro g_law05_TrapEach_2 c_law05_TrapEach_2 (by rw [Try.ntmps33]; exact hn) h
theorem e_law05_TrapEach_2 {args : List AV} {Q : AOut → Prop} (hn : args.length ≤ 3) (h : X Try.prog (finE a_law05_TrapEach_2.res Q) a_law05_TrapEach_2.body .done (env0 args) H0) : Fins Try.prog F_law05_TrapEach_2 args Q :=
  Fins_intro g_law05_TrapEach_2 c_law05_TrapEach_2 (by rw [Try.ntmps33]; exact hn) h
theorem j_law05_TrapEach_2 {args : List AV} {A : Heap} {K Kp : AV → Heap → Prop} (hn : args.length ≤ 3) (h : X Try.prog (inl a_law05_TrapEach_2.res K Kp) a_law05_TrapEach_2.body .done (env0 args) A) : SimX Try.prog F_law05_TrapEach_2 args A (outK K Kp) :=
  X_inl g_law05_TrapEach_2 c_law05_TrapEach_2 (by rw [Try.ntmps33]; exact hn) h
theorem d_law05_TrapEach_2 {args : List AV} {A : Heap} {Ko : AOut → Heap → Prop} (hn : args.length ≤ 3)
    (h : ∀ R : APost, (∀ e env A, fpost a_law05_TrapEach_2.res Ko e env A → R e env A) → X Try.prog R a_law05_TrapEach_2.body .done (env0 args) A) : SimD Try.prog F_law05_TrapEach_2 args A Ko :=
  X_introD g_law05_TrapEach_2 c_law05_TrapEach_2 (by rw [Try.ntmps33]; exact hn) h
@[simp] theorem k_law05_TrapEach_2 : callable Try.prog F_law05_TrapEach_2 = true := by kernel_rfl
theorem c_law05_TrapEach_3 : trF Try.prog Try.f34 = some a_law05_TrapEach_3 := by kernel_rfl
theorem g_law05_TrapEach_3 : Try.prog.funcs[34]? = some Try.f34 := by kernel_rfl
theorem i_law05_TrapEach_3 {args : List AV} {A : Heap} {Ko : AOut → Heap → Prop} (hn : args.length ≤ 3)
    (h : ∀ R : APost, (∀ e env A, fpost a_law05_TrapEach_3.res Ko e env A → R e env A) → X Try.prog R a_law05_TrapEach_3.body .done (env0 args) A) : SimX Try.prog F_law05_TrapEach_3 args A Ko :=
  X_intro g_law05_TrapEach_3 c_law05_TrapEach_3 (by rw [Try.ntmps34]; exact hn) h
theorem v_law05_TrapEach_3 {args : List AV} {v : AV} (hn : args.length ≤ 3) (h : X Try.prog (fin a_law05_TrapEach_3.res v) a_law05_TrapEach_3.body .done (env0 args) H0) : Gives Try.prog F_law05_TrapEach_3 args v :=
  Gives_intro g_law05_TrapEach_3 c_law05_TrapEach_3 (by rw [Try.ntmps34]; exact hn) h
theorem e_law05_TrapEach_3 {args : List AV} {Q : AOut → Prop} (hn : args.length ≤ 3) (h : X Try.prog (finE a_law05_TrapEach_3.res Q) a_law05_TrapEach_3.body .done (env0 args) H0) : Fins Try.prog F_law05_TrapEach_3 args Q :=
  Fins_intro g_law05_TrapEach_3 c_law05_TrapEach_3 (by rw [Try.ntmps34]; exact hn) h
theorem j_law05_TrapEach_3 {args : List AV} {A : Heap} {K Kp : AV → Heap → Prop} (hn : args.length ≤ 3) (h : X Try.prog (inl a_law05_TrapEach_3.res K Kp) a_law05_TrapEach_3.body .done (env0 args) A) : SimX Try.prog F_law05_TrapEach_3 args A (outK K Kp) :=
  X_inl g_law05_TrapEach_3 c_law05_TrapEach_3 (by rw [Try.ntmps34]; exact hn) h
theorem d_law05_TrapEach_3 {args : List AV} {A : Heap} {Ko : AOut → Heap → Prop} (hn : args.length ≤ 3)
    (h : ∀ R : APost, (∀ e env A, fpost a_law05_TrapEach_3.res Ko e env A → R e env A) → X Try.prog R a_law05_TrapEach_3.body .done (env0 args) A) : SimD Try.prog F_law05_TrapEach_3 args A Ko :=
  X_introD g_law05_TrapEach_3 c_law05_TrapEach_3 (by rw [Try.ntmps34]; exact hn) h
@[simp] theorem k_law05_TrapEach_3 : callable Try.prog F_law05_TrapEach_3 = true := by kernel_rfl
theorem c_law05_TrapEach_4 : trF Try.prog Try.f35 = some a_law05_TrapEach_4 := by kernel_rfl
theorem g_law05_TrapEach_4 : Try.prog.funcs[35]? = some Try.f35 := by kernel_rfl
theorem i_law05_TrapEach_4 {args : List AV} {A : Heap} {Ko : AOut → Heap → Prop} (hn : args.length ≤ 3)
    (h : ∀ R : APost, (∀ e env A, fpost a_law05_TrapEach_4.res Ko e env A → R e env A) → X Try.prog R a_law05_TrapEach_4.body .done (env0 args) A) : SimX Try.prog F_law05_TrapEach_4 args A Ko :=
  X_intro g_law05_TrapEach_4 c_law05_TrapEach_4 (by rw [Try.ntmps35]; exact hn) h
theorem v_law05_TrapEach_4 {args : List AV} {v : AV} (hn : args.length ≤ 3) (h : X Try.prog (fin a_law05_TrapEach_4.res v) a_law05_TrapEach_4.body .done (env0 args) H0) : Gives Try.prog F_law05_TrapEach_4 args v :=
  Gives_intro g_law05_TrapEach_4 c_law05_TrapEach_4 (by rw [Try.ntmps35]; exact hn) h
theorem e_law05_TrapEach_4 {args : List AV} {Q : AOut → Prop} (hn : args.length ≤ 3) (h : X Try.prog (finE a_law05_TrapEach_4.res Q) a_law05_TrapEach_4.body .done (env0 args) H0) : Fins Try.prog F_law05_TrapEach_4 args Q :=
  Fins_intro g_law05_TrapEach_4 c_law05_TrapEach_4 (by rw [Try.ntmps35]; exact hn) h
theorem j_law05_TrapEach_4 {args : List AV} {A : Heap} {K Kp : AV → Heap → Prop} (hn : args.length ≤ 3) (h : X Try.prog (inl a_law05_TrapEach_4.res K Kp) a_law05_TrapEach_4.body .done (env0 args) A) : SimX Try.prog F_law05_TrapEach_4 args A (outK K Kp) :=
  X_inl g_law05_TrapEach_4 c_law05_TrapEach_4 (by rw [Try.ntmps35]; exact hn) h
theorem d_law05_TrapEach_4 {args : List AV} {A : Heap} {Ko : AOut → Heap → Prop} (hn : args.length ≤ 3)
    (h : ∀ R : APost, (∀ e env A, fpost a_law05_TrapEach_4.res Ko e env A → R e env A) → X Try.prog R a_law05_TrapEach_4.body .done (env0 args) A) : SimD Try.prog F_law05_TrapEach_4 args A Ko :=
  X_introD g_law05_TrapEach_4 c_law05_TrapEach_4 (by rw [Try.ntmps35]; exact hn) h
@[simp] theorem k_law05_TrapEach_4 : callable Try.prog F_law05_TrapEach_4 = true := by kernel_rfl
theorem c_law05_TrapNests_1 : trF Try.prog Try.f36 = some a_law05_TrapNests_1 := by kernel_rfl
theorem g_law05_TrapNests_1 : Try.prog.funcs[36]? = some Try.f36 := by kernel_rfl
theorem i_law05_TrapNests_1 {args : List AV} {A : Heap} {Ko : AOut → Heap → Prop} (hn : args.length ≤ 7)
    (h : ∀ R : APost, (∀ e env A, fpost a_law05_TrapNests_1.res Ko e env A → R e env A) → X Try.prog R a_law05_TrapNests_1.body .done (env0 args) A) : SimX Try.prog F_law05_TrapNests_1 args A Ko :=
  X_intro g_law05_TrapNests_1 c_law05_TrapNests_1 (by rw [Try.ntmps36]; exact hn) h
theorem v_law05_TrapNests_1 {args : List AV} {v : AV} (hn : args.length ≤ 7) (h : X Try.prog (fin a_law05_TrapNests_1.res v) a_law05_TrapNests_1.body .done (env0 args) H0) : Gives Try.prog F_law05_TrapNests_1 args v :=
  Gives_intro g_law05_TrapNests_1 c_law05_TrapNests_1 (by rw [Try.ntmps36]; exact hn) h
theorem e_law05_TrapNests_1 {args : List AV} {Q : AOut → Prop} (hn : args.length ≤ 7) (h : X Try.prog (finE a_law05_TrapNests_1.res Q) a_law05_TrapNests_1.body .done (env0 args) H0) : Fins Try.prog F_law05_TrapNests_1 args Q :=
  Fins_intro g_law05_TrapNests_1 c_law05_TrapNests_1 (by rw [Try.ntmps36]; exact hn) h
theorem j_law05_TrapNests_1 {args : List AV} {A : Heap} {K Kp : AV → Heap → Prop} (hn : args.length ≤ 7) (h : X Try.prog (inl a_law05_TrapNests_1.res K Kp) a_law05_TrapNests_1.body .done (env0 args) A) : SimX Try.prog F_law05_TrapNests_1 args A (outK K Kp) :=
  X_inl g_law05_TrapNests_1 c_law05_TrapNests_1 (by rw [Try.ntmps36]; exact hn) h
theorem d_law05_TrapNests_1 {args : List AV} {A : Heap} {Ko : AOut → Heap → Prop} (hn : args.length ≤ 7)
    (h : ∀ R : APost, (∀ e env A, fpost a_law05_TrapNests_1.res Ko e env A → R e env A) → X Try.prog R a_law05_TrapNests_1.body .done (env0 args) A) : SimD Try.prog F_law05_TrapNests_1 args A Ko :=
  X_introD g_law05_TrapNests_1 c_law05_TrapNests_1 (by rw [Try.ntmps36]; exact hn) h
@[simp] theorem k_law05_TrapNests_1 : callable Try.prog F_law05_TrapNests_1 = true := by kernel_rfl
theorem c_law05_TrapNests_1_1 : trF Try.prog Try.f38 = some a_law05_TrapNests_1_1 := by kernel_rfl
theorem g_law05_TrapNests_1_1 : Try.prog.funcs[38]? = some Try.f38 := by kernel_rfl
theorem i_law05_TrapNests_1_1 {args : List AV} {A : Heap} {Ko : AOut → Heap → Prop} (hn : args.length ≤ 10)
    (h : ∀ R : APost, (∀ e env A, fpost a_law05_TrapNests_1_1.res Ko e env A → R e env A) → X Try.prog R a_law05_TrapNests_1_1.body .done (env0 args) A) : SimX Try.prog F_law05_TrapNests_1_1 args A Ko :=
  X_intro g_law05_TrapNests_1_1 c_law05_TrapNests_1_1 (by rw [Try.ntmps38]; exact hn) h
theorem v_law05_TrapNests_1_1 {args : List AV} {v : AV} (hn : args.length ≤ 10) (h : X Try.prog (fin a_law05_TrapNests_1_1.res v) a_law05_TrapNests_1_1.body .done (env0 args) H0) : Gives Try.prog F_law05_TrapNests_1_1 args v :=
  Gives_intro g_law05_TrapNests_1_1 c_law05_TrapNests_1_1 (by rw [Try.ntmps38]; exact hn) h
theorem e_law05_TrapNests_1_1 {args : List AV} {Q : AOut → Prop} (hn : args.length ≤ 10) (h : X Try.prog (finE a_law05_TrapNests_1_1.res Q) a_law05_TrapNests_1_1.body .done (env0 args) H0) : Fins Try.prog F_law05_TrapNests_1_1 args Q :=
  Fins_intro g_law05_TrapNests_1_1 c_law05_TrapNests_1_1 (by rw [Try.ntmps38]; exact hn) h
theorem j_law05_TrapNests_1_1 {args : List AV} {A : Heap} {K Kp : AV → Heap → Prop} (hn : args.length ≤ 10) (h : X Try.prog (inl a_law05_TrapNests_1_1.res K Kp) a_law05_TrapNests_1_1.body .done (env0 args) A) : SimX Try.prog F_law05_TrapNests_1_1 args A (outK K Kp) :=
  X_inl g_law05_TrapNests_1_1 c_law05_TrapNests_1_1 (by rw [Try.ntmps38]; exact hn) h
theorem d_law05_TrapNests_1_1 {args : List AV} {A : Heap} {Ko : AOut → Heap → Prop} (hn : args.length ≤ 10)
    (h : ∀ R : APost, (∀ e env A, fpost a_law05_TrapNests_1_1.res Ko e env A → R e env A) → X Try.prog R a_law05_TrapNests_1_1.body .done (env0 args) A) : SimD Try.prog F_law05_TrapNests_1_1 args A Ko :=
  X_introD g_law05_TrapNests_1_1 c_law05_TrapNests_1_1 (by rw [Try.ntmps38]; exact hn) h
@[simp] theorem k_law05_TrapNests_1_1 : callable Try.prog F_law05_TrapNests_1_1 = true := by kernel_rfl
theorem c_law05_TrapNests_1_1_1 : trF Try.prog Try.f39 = some a_law05_TrapNests_1_1_1 := by kernel_rfl
theorem g_law05_TrapNests_1_1_1 : Try.prog.funcs[39]? = some Try.f39 := by kernel_rfl
theorem i_law05_TrapNests_1_1_1 {args : List AV} {A : Heap} {Ko : AOut → Heap → Prop} (hn : args.length ≤ 3)
    (h : ∀ R : APost, (∀ e env A, fpost a_law05_TrapNests_1_1_1.res Ko e env A → R e env A) → X Try.prog R a_law05_TrapNests_1_1_1.body .done (env0 args) A) : SimX Try.prog F_law05_TrapNests_1_1_1 args A Ko :=
  X_intro g_law05_TrapNests_1_1_1 c_law05_TrapNests_1_1_1 (by rw [Try.ntmps39]; exact hn) h
theorem v_law05_TrapNests_1_1_1 {args : List AV} {v : AV} (hn : args.length ≤ 3) (h : X Try.prog (fin a_law05_TrapNests_1_1_1.res v) a_law05_TrapNests_1_1_1.body .done (env0 args) H0) : Gives Try.prog F_law05_TrapNests_1_1_1 args v :=
  Gives_intro g_law05_TrapNests_1_1_1 c_law05_TrapNests_1_1_1 (by rw [Try.ntmps39]; exact hn) h
theorem e_law05_TrapNests_1_1_1 {args : List AV} {Q : AOut → Prop} (hn : args.length ≤ 3) (h : X Try.prog (finE a_law05_TrapNests_1_1_1.res Q) a_law05_TrapNests_1_1_1.body .done (env0 args) H0) : Fins Try.prog F_law05_TrapNests_1_1_1 args Q :=
  Fins_intro g_law05_TrapNests_1_1_1 c_law05_TrapNests_1_1_1 (by rw [Try.ntmps39]; exact hn) h
theorem j_law05_TrapNests_1_1_1 {args : List AV} {A : Heap} {K Kp : AV → Heap → Prop} (hn : args.length ≤ 3) (h : X Try.prog (inl a_law05_TrapNests_1_1_1.res K Kp) a_law05_TrapNests_1_1_1.body .done (env0 args) A) : SimX Try.prog F_law05_TrapNests_1_1_1 args A (outK K Kp) :=
  X_inl g_law05_TrapNests_1_1_1 c_law05_TrapNests_1_1_1 (by rw [Try.ntmps39]; exact hn) h
theorem d_law05_TrapNests_1_1_1 {args : List AV} {A : Heap} {Ko : AOut → Heap → Prop} (hn : args.length ≤ 3)
    (h : ∀ R : APost, (∀ e env A, fpost a_law05_TrapNests_1_1_1.res Ko e env A → R e env A) → X Try.prog R a_law05_TrapNests_1_1_1.body .done (env0 args) A) : SimD Try.prog F_law05_TrapNests_1_1_1 args A Ko :=
  X_introD g_law05_TrapNests_1_1_1 c_law05_TrapNests_1_1_1 (by rw [Try.ntmps39]; exact hn) h
@[simp] theorem k_law05_TrapNests_1_1_1 : callable Try.prog F_law05_TrapNests_1_1_1 = true := by kernel_rfl
theorem c_law05_TrapNests_1_2 : trF Try.prog Try.f40 = some a_law05_TrapNests_1_2 := by kernel_rfl
theorem g_law05_TrapNests_1_2 : Try.prog.funcs[40]? = some Try.f40 := by kernel_rfl
theorem i_law05_TrapNests_1_2 {args : List AV} {A : Heap} {Ko : AOut → Heap → Prop} (hn : args.length ≤ 3)
    (h : ∀ R : APost, (∀ e env A, fpost a_law05_TrapNests_1_2.res Ko e env A → R e env A) → X Try.prog R a_law05_TrapNests_1_2.body .done (env0 args) A) : SimX Try.prog F_law05_TrapNests_1_2 args A Ko :=
  X_intro g_law05_TrapNests_1_2 c_law05_TrapNests_1_2 (by rw [Try.ntmps40]; exact hn) h
theorem v_law05_TrapNests_1_2 {args : List AV} {v : AV} (hn : args.length ≤ 3) (h : X Try.prog (fin a_law05_TrapNests_1_2.res v) a_law05_TrapNests_1_2.body .done (env0 args) H0) : Gives Try.prog F_law05_TrapNests_1_2 args v :=
  Gives_intro g_law05_TrapNests_1_2 c_law05_TrapNests_1_2 (by rw [Try.ntmps40]; exact hn) h
theorem e_law05_TrapNests_1_2 {args : List AV} {Q : AOut → Prop} (hn : args.length ≤ 3) (h : X Try.prog (finE a_law05_TrapNests_1_2.res Q) a_law05_TrapNests_1_2.body .done (env0 args) H0) : Fins Try.prog F_law05_TrapNests_1_2 args Q :=
  Fins_intro g_law05_TrapNests_1_2 c_law05_TrapNests_1_2 (by rw [Try.ntmps40]; exact hn) h
theorem j_law05_TrapNests_1_2 {args : List AV} {A : Heap} {K Kp : AV → Heap → Prop} (hn : args.length ≤ 3) (h : X Try.prog (inl a_law05_TrapNests_1_2.res K Kp) a_law05_TrapNests_1_2.body .done (env0 args) A) : SimX Try.prog F_law05_TrapNests_1_2 args A (outK K Kp) :=
  X_inl g_law05_TrapNests_1_2 c_law05_TrapNests_1_2 (by rw [Try.ntmps40]; exact hn) h
theorem d_law05_TrapNests_1_2 {args : List AV} {A : Heap} {Ko : AOut → Heap → Prop} (hn : args.length ≤ 3)
    (h : ∀ R : APost, (∀ e env A, fpost a_law05_TrapNests_1_2.res Ko e env A → R e env A) → X Try.prog R a_law05_TrapNests_1_2.body .done (env0 args) A) : SimD Try.prog F_law05_TrapNests_1_2 args A Ko :=
  X_introD g_law05_TrapNests_1_2 c_law05_TrapNests_1_2 (by rw [Try.ntmps40]; exact hn) h
@[simp] theorem k_law05_TrapNests_1_2 : callable Try.prog F_law05_TrapNests_1_2 = true := by kernel_rfl
theorem c_law05_works_1 : trF Try.prog Try.f59 = some a_law05_works_1 := by kernel_rfl
theorem g_law05_works_1 : Try.prog.funcs[59]? = some Try.f59 := by kernel_rfl
theorem i_law05_works_1 {args : List AV} {A : Heap} {Ko : AOut → Heap → Prop} (hn : args.length ≤ 1)
    (h : ∀ R : APost, (∀ e env A, fpost a_law05_works_1.res Ko e env A → R e env A) → X Try.prog R a_law05_works_1.body .done (env0 args) A) : SimX Try.prog F_law05_works_1 args A Ko :=
  X_intro g_law05_works_1 c_law05_works_1 (by rw [Try.ntmps59]; exact hn) h
theorem v_law05_works_1 {args : List AV} {v : AV} (hn : args.length ≤ 1) (h : X Try.prog (fin a_law05_works_1.res v) a_law05_works_1.body .done (env0 args) H0) : Gives Try.prog F_law05_works_1 args v :=
  Gives_intro g_law05_works_1 c_law05_works_1 (by rw [Try.ntmps59]; exact hn) h
theorem e_law05_works_1 {args : List AV} {Q : AOut → Prop} (hn : args.length ≤ 1) (h : X Try.prog (finE a_law05_works_1.res Q) a_law05_works_1.body .done (env0 args) H0) : Fins Try.prog F_law05_works_1 args Q :=
  Fins_intro g_law05_works_1 c_law05_works_1 (by rw [Try.ntmps59]; exact hn) h
theorem j_law05_works_1 {args : List AV} {A : Heap} {K Kp : AV → Heap → Prop} (hn : args.length ≤ 1) (h : X Try.prog (inl a_law05_works_1.res K Kp) a_law05_works_1.body .done (env0 args) A) : SimX Try.prog F_law05_works_1 args A (outK K Kp) :=
  X_inl g_law05_works_1 c_law05_works_1 (by rw [Try.ntmps59]; exact hn) h
theorem d_law05_works_1 {args : List AV} {A : Heap} {Ko : AOut → Heap → Prop} (hn : args.length ≤ 1)
    (h : ∀ R : APost, (∀ e env A, fpost a_law05_works_1.res Ko e env A → R e env A) → X Try.prog R a_law05_works_1.body .done (env0 args) A) : SimD Try.prog F_law05_works_1 args A Ko :=
  X_introD g_law05_works_1 c_law05_works_1 (by rw [Try.ntmps59]; exact hn) h
@[simp] theorem k_law05_works_1 : callable Try.prog F_law05_works_1 = true := by kernel_rfl
theorem c_law05_works_2 : trF Try.prog Try.f61 = some a_law05_works_2 := by kernel_rfl
theorem g_law05_works_2 : Try.prog.funcs[61]? = some Try.f61 := by kernel_rfl
theorem i_law05_works_2 {args : List AV} {A : Heap} {Ko : AOut → Heap → Prop} (hn : args.length ≤ 1)
    (h : ∀ R : APost, (∀ e env A, fpost a_law05_works_2.res Ko e env A → R e env A) → X Try.prog R a_law05_works_2.body .done (env0 args) A) : SimX Try.prog F_law05_works_2 args A Ko :=
  X_intro g_law05_works_2 c_law05_works_2 (by rw [Try.ntmps61]; exact hn) h
theorem v_law05_works_2 {args : List AV} {v : AV} (hn : args.length ≤ 1) (h : X Try.prog (fin a_law05_works_2.res v) a_law05_works_2.body .done (env0 args) H0) : Gives Try.prog F_law05_works_2 args v :=
  Gives_intro g_law05_works_2 c_law05_works_2 (by rw [Try.ntmps61]; exact hn) h
theorem e_law05_works_2 {args : List AV} {Q : AOut → Prop} (hn : args.length ≤ 1) (h : X Try.prog (finE a_law05_works_2.res Q) a_law05_works_2.body .done (env0 args) H0) : Fins Try.prog F_law05_works_2 args Q :=
  Fins_intro g_law05_works_2 c_law05_works_2 (by rw [Try.ntmps61]; exact hn) h
theorem j_law05_works_2 {args : List AV} {A : Heap} {K Kp : AV → Heap → Prop} (hn : args.length ≤ 1) (h : X Try.prog (inl a_law05_works_2.res K Kp) a_law05_works_2.body .done (env0 args) A) : SimX Try.prog F_law05_works_2 args A (outK K Kp) :=
  X_inl g_law05_works_2 c_law05_works_2 (by rw [Try.ntmps61]; exact hn) h
theorem d_law05_works_2 {args : List AV} {A : Heap} {Ko : AOut → Heap → Prop} (hn : args.length ≤ 1)
    (h : ∀ R : APost, (∀ e env A, fpost a_law05_works_2.res Ko e env A → R e env A) → X Try.prog R a_law05_works_2.body .done (env0 args) A) : SimD Try.prog F_law05_works_2 args A Ko :=
  X_introD g_law05_works_2 c_law05_works_2 (by rw [Try.ntmps61]; exact hn) h
@[simp] theorem k_law05_works_2 : callable Try.prog F_law05_works_2 = true := by kernel_rfl
theorem c_law05_works_3 : trF Try.prog Try.f62 = some a_law05_works_3 := by kernel_rfl
theorem g_law05_works_3 : Try.prog.funcs[62]? = some Try.f62 := by kernel_rfl
theorem i_law05_works_3 {args : List AV} {A : Heap} {Ko : AOut → Heap → Prop} (hn : args.length ≤ 1)
    (h : ∀ R : APost, (∀ e env A, fpost a_law05_works_3.res Ko e env A → R e env A) → X Try.prog R a_law05_works_3.body .done (env0 args) A) : SimX Try.prog F_law05_works_3 args A Ko :=
  X_intro g_law05_works_3 c_law05_works_3 (by rw [Try.ntmps62]; exact hn) h
theorem v_law05_works_3 {args : List AV} {v : AV} (hn : args.length ≤ 1) (h : X Try.prog (fin a_law05_works_3.res v) a_law05_works_3.body .done (env0 args) H0) : Gives Try.prog F_law05_works_3 args v :=
  Gives_intro g_law05_works_3 c_law05_works_3 (by rw [Try.ntmps62]; exact hn) h
theorem e_law05_works_3 {args : List AV} {Q : AOut → Prop} (hn : args.length ≤ 1) (h : X Try.prog (finE a_law05_works_3.res Q) a_law05_works_3.body .done (env0 args) H0) : Fins Try.prog F_law05_works_3 args Q :=
  Fins_intro g_law05_works_3 c_law05_works_3 (by rw [Try.ntmps62]; exact hn) h
theorem j_law05_works_3 {args : List AV} {A : Heap} {K Kp : AV → Heap → Prop} (hn : args.length ≤ 1) (h : X Try.prog (inl a_law05_works_3.res K Kp) a_law05_works_3.body .done (env0 args) A) : SimX Try.prog F_law05_works_3 args A (outK K Kp) :=
  X_inl g_law05_works_3 c_law05_works_3 (by rw [Try.ntmps62]; exact hn) h
theorem d_law05_works_3 {args : List AV} {A : Heap} {Ko : AOut → Heap → Prop} (hn : args.length ≤ 1)
    (h : ∀ R : APost, (∀ e env A, fpost a_law05_works_3.res Ko e env A → R e env A) → X Try.prog R a_law05_works_3.body .done (env0 args) A) : SimD Try.prog F_law05_works_3 args A Ko :=
  X_introD g_law05_works_3 c_law05_works_3 (by rw [Try.ntmps62]; exact hn) h
@[simp] theorem k_law05_works_3 : callable Try.prog F_law05_works_3 = true := by kernel_rfl
theorem c_law05_works_4 : trF Try.prog Try.f63 = some a_law05_works_4 := by kernel_rfl
theorem g_law05_works_4 : Try.prog.funcs[63]? = some Try.f63 := by kernel_rfl
theorem i_law05_works_4 {args : List AV} {A : Heap} {Ko : AOut → Heap → Prop} (hn : args.length ≤ 2)
    (h : ∀ R : APost, (∀ e env A, fpost a_law05_works_4.res Ko e env A → R e env A) → X Try.prog R a_law05_works_4.body .done (env0 args) A) : SimX Try.prog F_law05_works_4 args A Ko :=
  X_intro g_law05_works_4 c_law05_works_4 (by rw [Try.ntmps63]; exact hn) h
theorem v_law05_works_4 {args : List AV} {v : AV} (hn : args.length ≤ 2) (h : X Try.prog (fin a_law05_works_4.res v) a_law05_works_4.body .done (env0 args) H0) : Gives Try.prog F_law05_works_4 args v :=
  Gives_intro g_law05_works_4 c_law05_works_4 (by rw [Try.ntmps63]; exact hn) h
theorem e_law05_works_4 {args : List AV} {Q : AOut → Prop} (hn : args.length ≤ 2) (h : X Try.prog (finE a_law05_works_4.res Q) a_law05_works_4.body .done (env0 args) H0) : Fins Try.prog F_law05_works_4 args Q :=
  Fins_intro g_law05_works_4 c_law05_works_4 (by rw [Try.ntmps63]; exact hn) h
theorem j_law05_works_4 {args : List AV} {A : Heap} {K Kp : AV → Heap → Prop} (hn : args.length ≤ 2) (h : X Try.prog (inl a_law05_works_4.res K Kp) a_law05_works_4.body .done (env0 args) A) : SimX Try.prog F_law05_works_4 args A (outK K Kp) :=
  X_inl g_law05_works_4 c_law05_works_4 (by rw [Try.ntmps63]; exact hn) h
theorem d_law05_works_4 {args : List AV} {A : Heap} {Ko : AOut → Heap → Prop} (hn : args.length ≤ 2)
    (h : ∀ R : APost, (∀ e env A, fpost a_law05_works_4.res Ko e env A → R e env A) → X Try.prog R a_law05_works_4.body .done (env0 args) A) : SimD Try.prog F_law05_works_4 args A Ko :=
  X_introD g_law05_works_4 c_law05_works_4 (by rw [Try.ntmps63]; exact hn) h
@[simp] theorem k_law05_works_4 : callable Try.prog F_law05_works_4 = true := by kernel_rfl
theorem c_law05_works_5 : trF Try.prog Try.f64 = some a_law05_works_5 := by kernel_rfl
theorem g_law05_works_5 : Try.prog.funcs[64]? = some Try.f64 := by kernel_rfl
theorem i_law05_works_5 {args : List AV} {A : Heap} {Ko : AOut → Heap → Prop} (hn : args.length ≤ 6)
    (h : ∀ R : APost, (∀ e env A, fpost a_law05_works_5.res Ko e env A → R e env A) → X Try.prog R a_law05_works_5.body .done (env0 args) A) : SimX Try.prog F_law05_works_5 args A Ko :=
  X_intro g_law05_works_5 c_law05_works_5 (by rw [Try.ntmps64]; exact hn) h
theorem v_law05_works_5 {args : List AV} {v : AV} (hn : args.length ≤ 6) (h : X Try.prog (fin a_law05_works_5.res v) a_law05_works_5.body .done (env0 args) H0) : Gives Try.prog F_law05_works_5 args v :=
  Gives_intro g_law05_works_5 c_law05_works_5 (by rw [Try.ntmps64]; exact hn) h
theorem e_law05_works_5 {args : List AV} {Q : AOut → Prop} (hn : args.length ≤ 6) (h : X Try.prog (finE a_law05_works_5.res Q) a_law05_works_5.body .done (env0 args) H0) : Fins Try.prog F_law05_works_5 args Q :=
  Fins_intro g_law05_works_5 c_law05_works_5 (by rw [Try.ntmps64]; exact hn) h
theorem j_law05_works_5 {args : List AV} {A : Heap} {K Kp : AV → Heap → Prop} (hn : args.length ≤ 6) (h : X Try.prog (inl a_law05_works_5.res K Kp) a_law05_works_5.body .done (env0 args) A) : SimX Try.prog F_law05_works_5 args A (outK K Kp) :=
  X_inl g_law05_works_5 c_law05_works_5 (by rw [Try.ntmps64]; exact hn) h
theorem d_law05_works_5 {args : List AV} {A : Heap} {Ko : AOut → Heap → Prop} (hn : args.length ≤ 6)
    (h : ∀ R : APost, (∀ e env A, fpost a_law05_works_5.res Ko e env A → R e env A) → X Try.prog R a_law05_works_5.body .done (env0 args) A) : SimD Try.prog F_law05_works_5 args A Ko :=
  X_introD g_law05_works_5 c_law05_works_5 (by rw [Try.ntmps64]; exact hn) h
@[simp] theorem k_law05_works_5 : callable Try.prog F_law05_works_5 = true := by kernel_rfl
theorem c_law05_works_6 : trF Try.prog Try.f65 = some a_law05_works_6 := by kernel_rfl
theorem g_law05_works_6 : Try.prog.funcs[65]? = some Try.f65 := by kernel_rfl
theorem i_law05_works_6 {args : List AV} {A : Heap} {Ko : AOut → Heap → Prop} (hn : args.length ≤ 0)
    (h : ∀ R : APost, (∀ e env A, fpost a_law05_works_6.res Ko e env A → R e env A) → X Try.prog R a_law05_works_6.body .done (env0 args) A) : SimX Try.prog F_law05_works_6 args A Ko :=
  X_intro g_law05_works_6 c_law05_works_6 (by rw [Try.ntmps65]; exact hn) h
theorem v_law05_works_6 {args : List AV} {v : AV} (hn : args.length ≤ 0) (h : X Try.prog (fin a_law05_works_6.res v) a_law05_works_6.body .done (env0 args) H0) : Gives Try.prog F_law05_works_6 args v :=
  Gives_intro g_law05_works_6 c_law05_works_6 (by rw [Try.ntmps65]; exact hn) h
theorem e_law05_works_6 {args : List AV} {Q : AOut → Prop} (hn : args.length ≤ 0) (h : X Try.prog (finE a_law05_works_6.res Q) a_law05_works_6.body .done (env0 args) H0) : Fins Try.prog F_law05_works_6 args Q :=
  Fins_intro g_law05_works_6 c_law05_works_6 (by rw [Try.ntmps65]; exact hn) h
theorem j_law05_works_6 {args : List AV} {A : Heap} {K Kp : AV → Heap → Prop} (hn : args.length ≤ 0) (h : X Try.prog (inl a_law05_works_6.res K Kp) a_law05_works_6.body .done (env0 args) A) : SimX Try.prog F_law05_works_6 args A (outK K Kp) :=
  X_inl g_law05_works_6 c_law05_works_6 (by rw [Try.ntmps65]; exact hn) h
theorem d_law05_works_6 {args : List AV} {A : Heap} {Ko : AOut → Heap → Prop} (hn : args.length ≤ 0)
    (h : ∀ R : APost, (∀ e env A, fpost a_law05_works_6.res Ko e env A → R e env A) → X Try.prog R a_law05_works_6.body .done (env0 args) A) : SimD Try.prog F_law05_works_6 args A Ko :=
  X_introD g_law05_works_6 c_law05_works_6 (by rw [Try.ntmps65]; exact hn) h
@[simp] theorem k_law05_works_6 : callable Try.prog F_law05_works_6 = true := by kernel_rfl
theorem c_law05_works_7 : trF Try.prog Try.f66 = some a_law05_works_7 := by kernel_rfl
theorem g_law05_works_7 : Try.prog.funcs[66]? = some Try.f66 := by kernel_rfl
theorem i_law05_works_7 {args : List AV} {A : Heap} {Ko : AOut → Heap → Prop} (hn : args.length ≤ 1)
    (h : ∀ R : APost, (∀ e env A, fpost a_law05_works_7.res Ko e env A → R e env A) → X Try.prog R a_law05_works_7.body .done (env0 args) A) : SimX Try.prog F_law05_works_7 args A Ko :=
  X_intro g_law05_works_7 c_law05_works_7 (by rw [Try.ntmps66]; exact hn) h
theorem v_law05_works_7 {args : List AV} {v : AV} (hn : args.length ≤ 1) (h : X Try.prog (fin a_law05_works_7.res v) a_law05_works_7.body .done (env0 args) H0) : Gives Try.prog F_law05_works_7 args v :=
  Gives_intro g_law05_works_7 c_law05_works_7 (by rw [Try.ntmps66]; exact hn) h
theorem e_law05_works_7 {args : List AV} {Q : AOut → Prop} (hn : args.length ≤ 1) (h : X Try.prog (finE a_law05_works_7.res Q) a_law05_works_7.body .done (env0 args) H0) : Fins Try.prog F_law05_works_7 args Q :=
  Fins_intro g_law05_works_7 c_law05_works_7 (by rw [Try.ntmps66]; exact hn) h
theorem j_law05_works_7 {args : List AV} {A : Heap} {K Kp : AV → Heap → Prop} (hn : args.length ≤ 1) (h : X Try.prog (inl a_law05_works_7.res K Kp) a_law05_works_7.body .done (env0 args) A) : SimX Try.prog F_law05_works_7 args A (outK K Kp) :=
  X_inl g_law05_works_7 c_law05_works_7 (by rw [Try.ntmps66]; exact hn) h
theorem d_law05_works_7 {args : List AV} {A : Heap} {Ko : AOut → Heap → Prop} (hn : args.length ≤ 1)
    (h : ∀ R : APost, (∀ e env A, fpost a_law05_works_7.res Ko e env A → R e env A) → X Try.prog R a_law05_works_7.body .done (env0 args) A) : SimD Try.prog F_law05_works_7 args A Ko :=
  X_introD g_law05_works_7 c_law05_works_7 (by rw [Try.ntmps66]; exact hn) h
@[simp] theorem k_law05_works_7 : callable Try.prog F_law05_works_7 = true := by kernel_rfl
theorem c_law05_works_8 : trF Try.prog Try.f67 = some a_law05_works_8 := by kernel_rfl
theorem g_law05_works_8 : Try.prog.funcs[67]? = some Try.f67 := by kernel_rfl
theorem i_law05_works_8 {args : List AV} {A : Heap} {Ko : AOut → Heap → Prop} (hn : args.length ≤ 3)
    (h : ∀ R : APost, (∀ e env A, fpost a_law05_works_8.res Ko e env A → R e env A) → X Try.prog R a_law05_works_8.body .done (env0 args) A) : SimX Try.prog F_law05_works_8 args A Ko :=
  X_intro g_law05_works_8 c_law05_works_8 (by rw [Try.ntmps67]; exact hn) h
theorem v_law05_works_8 {args : List AV} {v : AV} (hn : args.length ≤ 3) (h : X Try.prog (fin a_law05_works_8.res v) a_law05_works_8.body .done (env0 args) H0) : Gives Try.prog F_law05_works_8 args v :=
  Gives_intro g_law05_works_8 c_law05_works_8 (by rw [Try.ntmps67]; exact hn) h
theorem e_law05_works_8 {args : List AV} {Q : AOut → Prop} (hn : args.length ≤ 3) (h : X Try.prog (finE a_law05_works_8.res Q) a_law05_works_8.body .done (env0 args) H0) : Fins Try.prog F_law05_works_8 args Q :=
  Fins_intro g_law05_works_8 c_law05_works_8 (by rw [Try.ntmps67]; exact hn) h
theorem j_law05_works_8 {args : List AV} {A : Heap} {K Kp : AV → Heap → Prop} (hn : args.length ≤ 3) (h : X Try.prog (inl a_law05_works_8.res K Kp) a_law05_works_8.body .done (env0 args) A) : SimX Try.prog F_law05_works_8 args A (outK K Kp) :=
  X_inl g_law05_works_8 c_law05_works_8 (by rw [Try.ntmps67]; exact hn) h
theorem d_law05_works_8 {args : List AV} {A : Heap} {Ko : AOut → Heap → Prop} (hn : args.length ≤ 3)
    (h : ∀ R : APost, (∀ e env A, fpost a_law05_works_8.res Ko e env A → R e env A) → X Try.prog R a_law05_works_8.body .done (env0 args) A) : SimD Try.prog F_law05_works_8 args A Ko :=
  X_introD g_law05_works_8 c_law05_works_8 (by rw [Try.ntmps67]; exact hn) h
@[simp] theorem k_law05_works_8 : callable Try.prog F_law05_works_8 = true := by kernel_rfl
theorem c_law05_works_8_1 : trF Try.prog Try.f68 = some a_law05_works_8_1 := by kernel_rfl
theorem g_law05_works_8_1 : Try.prog.funcs[68]? = some Try.f68 := by kernel_rfl
theorem i_law05_works_8_1 {args : List AV} {A : Heap} {Ko : AOut → Heap → Prop} (hn : args.length ≤ 1)
    (h : ∀ R : APost, (∀ e env A, fpost a_law05_works_8_1.res Ko e env A → R e env A) → X Try.prog R a_law05_works_8_1.body .done (env0 args) A) : SimX Try.prog F_law05_works_8_1 args A Ko :=
  X_intro g_law05_works_8_1 c_law05_works_8_1 (by rw [Try.ntmps68]; exact hn) h
theorem v_law05_works_8_1 {args : List AV} {v : AV} (hn : args.length ≤ 1) (h : X Try.prog (fin a_law05_works_8_1.res v) a_law05_works_8_1.body .done (env0 args) H0) : Gives Try.prog F_law05_works_8_1 args v :=
  Gives_intro g_law05_works_8_1 c_law05_works_8_1 (by rw [Try.ntmps68]; exact hn) h
theorem e_law05_works_8_1 {args : List AV} {Q : AOut → Prop} (hn : args.length ≤ 1) (h : X Try.prog (finE a_law05_works_8_1.res Q) a_law05_works_8_1.body .done (env0 args) H0) : Fins Try.prog F_law05_works_8_1 args Q :=
  Fins_intro g_law05_works_8_1 c_law05_works_8_1 (by rw [Try.ntmps68]; exact hn) h
theorem j_law05_works_8_1 {args : List AV} {A : Heap} {K Kp : AV → Heap → Prop} (hn : args.length ≤ 1) (h : X Try.prog (inl a_law05_works_8_1.res K Kp) a_law05_works_8_1.body .done (env0 args) A) : SimX Try.prog F_law05_works_8_1 args A (outK K Kp) :=
  X_inl g_law05_works_8_1 c_law05_works_8_1 (by rw [Try.ntmps68]; exact hn) h
theorem d_law05_works_8_1 {args : List AV} {A : Heap} {Ko : AOut → Heap → Prop} (hn : args.length ≤ 1)
    (h : ∀ R : APost, (∀ e env A, fpost a_law05_works_8_1.res Ko e env A → R e env A) → X Try.prog R a_law05_works_8_1.body .done (env0 args) A) : SimD Try.prog F_law05_works_8_1 args A Ko :=
  X_introD g_law05_works_8_1 c_law05_works_8_1 (by rw [Try.ntmps68]; exact hn) h
@[simp] theorem k_law05_works_8_1 : callable Try.prog F_law05_works_8_1 = true := by kernel_rfl
theorem c_law05_works_8_2 : trF Try.prog Try.f69 = some a_law05_works_8_2 := by kernel_rfl
theorem g_law05_works_8_2 : Try.prog.funcs[69]? = some Try.f69 := by kernel_rfl
theorem i_law05_works_8_2 {args : List AV} {A : Heap} {Ko : AOut → Heap → Prop} (hn : args.length ≤ 1)
    (h : ∀ R : APost, (∀ e env A, fpost a_law05_works_8_2.res Ko e env A → R e env A) → X Try.prog R a_law05_works_8_2.body .done (env0 args) A) : SimX Try.prog F_law05_works_8_2 args A Ko :=
  X_intro g_law05_works_8_2 c_law05_works_8_2 (by rw [Try.ntmps69]; exact hn) h
theorem v_law05_works_8_2 {args : List AV} {v : AV} (hn : args.length ≤ 1) (h : X Try.prog (fin a_law05_works_8_2.res v) a_law05_works_8_2.body .done (env0 args) H0) : Gives Try.prog F_law05_works_8_2 args v :=
  Gives_intro g_law05_works_8_2 c_law05_works_8_2 (by rw [Try.ntmps69]; exact hn) h
theorem e_law05_works_8_2 {args : List AV} {Q : AOut → Prop} (hn : args.length ≤ 1) (h : X Try.prog (finE a_law05_works_8_2.res Q) a_law05_works_8_2.body .done (env0 args) H0) : Fins Try.prog F_law05_works_8_2 args Q :=
  Fins_intro g_law05_works_8_2 c_law05_works_8_2 (by rw [Try.ntmps69]; exact hn) h
theorem j_law05_works_8_2 {args : List AV} {A : Heap} {K Kp : AV → Heap → Prop} (hn : args.length ≤ 1) (h : X Try.prog (inl a_law05_works_8_2.res K Kp) a_law05_works_8_2.body .done (env0 args) A) : SimX Try.prog F_law05_works_8_2 args A (outK K Kp) :=
  X_inl g_law05_works_8_2 c_law05_works_8_2 (by rw [Try.ntmps69]; exact hn) h
theorem d_law05_works_8_2 {args : List AV} {A : Heap} {Ko : AOut → Heap → Prop} (hn : args.length ≤ 1)
    (h : ∀ R : APost, (∀ e env A, fpost a_law05_works_8_2.res Ko e env A → R e env A) → X Try.prog R a_law05_works_8_2.body .done (env0 args) A) : SimD Try.prog F_law05_works_8_2 args A Ko :=
  X_introD g_law05_works_8_2 c_law05_works_8_2 (by rw [Try.ntmps69]; exact hn) h
@[simp] theorem k_law05_works_8_2 : callable Try.prog F_law05_works_8_2 = true := by kernel_rfl
theorem c_ref05_Code : trF Try.prog Try.f27 = some a_ref05_Code := by kernel_rfl
theorem g_ref05_Code : Try.prog.funcs[27]? = some Try.f27 := by kernel_rfl
theorem i_ref05_Code {args : List AV} {A : Heap} {Ko : AOut → Heap → Prop} (hn : args.length ≤ 6)
    (h : ∀ R : APost, (∀ e env A, fpost a_ref05_Code.res Ko e env A → R e env A) → X Try.prog R a_ref05_Code.body .done (env0 args) A) : SimX Try.prog F_ref05_Code args A Ko :=
  X_intro g_ref05_Code c_ref05_Code (by rw [Try.ntmps27]; exact hn) h
theorem v_ref05_Code {args : List AV} {v : AV} (hn : args.length ≤ 6) (h : X Try.prog (fin a_ref05_Code.res v) a_ref05_Code.body .done (env0 args) H0) : Gives Try.prog F_ref05_Code args v :=
  Gives_intro g_ref05_Code c_ref05_Code (by rw [Try.ntmps27]; exact hn) h
theorem e_ref05_Code {args : List AV} {Q : AOut → Prop} (hn : args.length ≤ 6) (h : X Try.prog (finE a_ref05_Code.res Q) a_ref05_Code.body .done (env0 args) H0) : Fins Try.prog F_ref05_Code args Q :=
  Fins_intro g_ref05_Code c_ref05_Code (by rw [Try.ntmps27]; exact hn) h
theorem j_ref05_Code {args : List AV} {A : Heap} {K Kp : AV → Heap → Prop} (hn : args.length ≤ 6) (h : X Try.prog (inl a_ref05_Code.res K Kp) a_ref05_Code.body .done (env0 args) A) : SimX Try.prog F_ref05_Code args A (outK K Kp) :=
  X_inl g_ref05_Code c_ref05_Code (by rw [Try.ntmps27]; exact hn) h
theorem d_ref05_Code {args : List AV} {A : Heap} {Ko : AOut → Heap → Prop} (hn : args.length ≤ 6)
    (h : ∀ R : APost, (∀ e env A, fpost a_ref05_Code.res Ko e env A → R e env A) → X Try.prog R a_ref05_Code.body .done (env0 args) A) : SimD Try.prog F_ref05_Code args A Ko :=
  X_introD g_ref05_Code c_ref05_Code (by rw [Try.ntmps27]; exact hn) h
@[simp] theorem k_ref05_Code : callable Try.prog F_ref05_Code = true := by kernel_rfl
theorem c_ref05_Each : trF Try.prog Try.f31 = some a_ref05_Each := by kernel_rfl
theorem g_ref05_Each : Try.prog.funcs[31]? = some Try.f31 := by kernel_rfl
theorem i_ref05_Each {args : List AV} {A : Heap} {Ko : AOut → Heap → Prop} (hn : args.length ≤ 24)
    (h : ∀ R : APost, (∀ e env A, fpost a_ref05_Each.res Ko e env A → R e env A) → X Try.prog R a_ref05_Each.body .done (env0 args) A) : SimX Try.prog F_ref05_Each args A Ko :=
  X_intro g_ref05_Each c_ref05_Each (by rw [Try.ntmps31]; exact hn) h
theorem v_ref05_Each {args : List AV} {v : AV} (hn : args.length ≤ 24) (h : X Try.prog (fin a_ref05_Each.res v) a_ref05_Each.body .done (env0 args) H0) : Gives Try.prog F_ref05_Each args v :=
  Gives_intro g_ref05_Each c_ref05_Each (by rw [Try.ntmps31]; exact hn) h
theorem e_ref05_Each {args : List AV} {Q : AOut → Prop} (hn : args.length ≤ 24) (h : X Try.prog (finE a_ref05_Each.res Q) a_ref05_Each.body .done (env0 args) H0) : Fins Try.prog F_ref05_Each args Q :=
  Fins_intro g_ref05_Each c_ref05_Each (by rw [Try.ntmps31]; exact hn) h
theorem j_ref05_Each {args : List AV} {A : Heap} {K Kp : AV → Heap → Prop} (hn : args.length ≤ 24) (h : X Try.prog (inl a_ref05_Each.res K Kp) a_ref05_Each.body .done (env0 args) A) : SimX Try.prog F_ref05_Each args A (outK K Kp) :=
  X_inl g_ref05_Each c_ref05_Each (by rw [Try.ntmps31]; exact hn) h
theorem d_ref05_Each {args : List AV} {A : Heap} {Ko : AOut → Heap → Prop} (hn : args.length ≤ 24)
    (h : ∀ R : APost, (∀ e env A, fpost a_ref05_Each.res Ko e env A → R e env A) → X Try.prog R a_ref05_Each.body .done (env0 args) A) : SimD Try.prog F_ref05_Each args A Ko :=
  X_introD g_ref05_Each c_ref05_Each (by rw [Try.ntmps31]; exact hn) h
@[simp] theorem k_ref05_Each : callable Try.prog F_ref05_Each = true := by kernel_rfl
theorem g_trap_Catch : Try.prog.funcs[21]? = some Try.f21 := by kernel_rfl
@[simp] theorem k_trap_Catch : callable Try.prog F_trap_Catch = true := by kernel_rfl
theorem n_trap_Catch : Try.f21.ntmps = 8 := Try.ntmps21
theorem g_trap_Always : Try.prog.funcs[37]? = some Try.f37 := by kernel_rfl
@[simp] theorem k_trap_Always : callable Try.prog F_trap_Always = true := by kernel_rfl
theorem n_trap_Always : Try.f37.ntmps = 7 := Try.ntmps37
theorem g_trap_Catch_1 : Try.prog.funcs[55]? = some Try.f55 := by kernel_rfl
@[simp] theorem k_trap_Catch_1 : callable Try.prog F_trap_Catch_1 = true := by kernel_rfl
theorem n_trap_Catch_1 : Try.f55.ntmps = 3 := Try.ntmps55
end Go.Proofs.Ytgbplcelcjffdaa
