/- Abstract programs; that they are the program's. -/
import Derived.Test.YtgbplcelcjffdaaFn
namespace Go.Proofs.Ytgbplcelcjffdaa
open Go AVL
set_option linter.unusedVariables false

def q_plan_Of_0 : List AOper := [
  ⟨(some 1), (.box 53 .ag (.t 0)), none⟩,
  ⟨(some 2), (.alloc 55 [(.int .i64 0), (.int .i64 0), (.int .i64 0), (.int .i64 0), (.int .i64 0), (.int .i64 0), (.int .i64 0), (.int .i64 0), (.int .i64 0), (.int .i64 0), (.int .i64 0), (.int .i64 0), (.int .i64 0), (.int .i64 0)]), none⟩,
  ⟨(some 3), (.mv (.v (.int .i64 0))), none⟩]
def q_plan_Of_1 : List AOper := [
  ⟨(some 7), (.load .ag 4 (.t 1)), none⟩,
  ⟨(some 8), (.call F_plan_Check [(.ag, (.t 7))]), none⟩,
  ⟨(some 4), (.mv (.t 8)), none⟩]
def q_plan_Of_2 : List AOper := [
  ⟨(some 9), (.mv (.t 4)), none⟩,
  ⟨(some 10), (.eq .scI true (.t 9) (.v (.int .i64 0))), none⟩]
def q_plan_Of_3 : List AOper := [
  ⟨(some 11), (.build .ag [(.int .i64 0), (.int .i64 0), (.int .i64 0), (.int .i64 0), (.int .i64 0), (.int .i64 0), (.int .i64 0), (.int .i64 0), (.int .i64 0), (.int .i64 0), (.int .i64 0), (.int .i64 0), (.int .i64 0), (.int .i64 0)] []), none⟩,
  ⟨(some 12), (.mv (.t 4)), none⟩,
  ⟨none, (.store .ag 14 (.t 2) (.t 11)), none⟩,
  ⟨(some 3), (.mv (.t 12)), none⟩]
def q_plan_Of_4 : List AOper := [
  ⟨(some 13), (.fadr 0 1 .sc (.t 1)), none⟩,
  ⟨(some 14), (.load .sc 1 (.t 13)), none⟩,
  ⟨(some 15), (.bin .mul (.v (.int .i64 2)) (.t 14)), none⟩,
  ⟨(some 16), (.bin .add (.t 15) (.v (.int .i64 6))), none⟩,
  ⟨(some 17), (.bin .sub (.t 16) (.v (.int .i64 1))), none⟩,
  ⟨(some 18), (.bin .quo (.t 17) (.v (.int .i64 6))), none⟩,
  ⟨(some 5), (.mv (.t 18)), none⟩]
def q_plan_Of_5 : List AOper := [
  ⟨(some 19), (.load .ag 4 (.t 1)), none⟩,
  ⟨(some 20), (.mv (.t 5)), none⟩,
  ⟨(some 21), (.bin .mul (.t 20) (.v (.int .i64 6))), none⟩,
  ⟨(some 22), (.mv (.t 5)), none⟩,
  ⟨(some 23), (.bin .add (.t 22) (.v (.int .i64 9))), none⟩,
  ⟨(some 24), (.fadr 1 1 .sc (.t 1)), none⟩,
  ⟨(some 25), (.load .sc 1 (.t 24)), none⟩,
  ⟨(some 26), (.bin .add (.t 23) (.t 25)), none⟩,
  ⟨(some 27), (.build .ag [(.int .i64 0), (.int .i64 0), (.int .i64 0), (.int .i64 0), (.int .i64 0), (.int .i64 0), (.int .i64 0), (.int .i64 0), (.int .i64 0), (.int .i64 0), (.int .i64 0), (.int .i64 0), (.int .i64 0), (.int .i64 0)] [(0, (4, (.t 19))), (4, (1, (.v (.int .i64 5)))), (12, (1, (.t 21))), (13, (1, (.t 26)))]), none⟩,
  ⟨(some 6), (.alloc 55 [(.int .i64 0), (.int .i64 0), (.int .i64 0), (.int .i64 0), (.int .i64 0), (.int .i64 0), (.int .i64 0), (.int .i64 0), (.int .i64 0), (.int .i64 0), (.int .i64 0), (.int .i64 0), (.int .i64 0), (.int .i64 0)]), none⟩,
  ⟨none, (.store .ag 14 (.t 6) (.t 27)), none⟩]
def q_plan_Of_6 : List AOper := [
  ⟨(some 28), (.fadr 4 1 .sc (.t 6)), none⟩,
  ⟨(some 29), (.load .sc 1 (.t 28)), none⟩,
  ⟨(some 30), (.mv (.t 5)), none⟩,
  ⟨(some 31), (.bin .add (.t 29) (.t 30)), none⟩,
  ⟨(some 32), (.fadr 5 1 .sc (.t 6)), none⟩,
  ⟨none, (.store .sc 1 (.t 32) (.t 31)), none⟩]
def q_plan_Of_7 : List AOper := [
  ⟨(some 33), (.fadr 5 1 .sc (.t 6)), none⟩,
  ⟨(some 34), (.load .sc 1 (.t 33)), none⟩,
  ⟨(some 35), (.fadr 1 1 .sc (.t 1)), none⟩,
  ⟨(some 36), (.load .sc 1 (.t 35)), none⟩,
  ⟨(some 37), (.bin .add (.t 34) (.t 36)), none⟩,
  ⟨(some 38), (.fadr 6 1 .sc (.t 6)), none⟩,
  ⟨none, (.store .sc 1 (.t 38) (.t 37)), none⟩]
def q_plan_Of_8 : List AOper := [
  ⟨(some 39), (.fadr 6 1 .sc (.t 6)), none⟩,
  ⟨(some 40), (.load .sc 1 (.t 39)), none⟩,
  ⟨(some 41), (.fadr 2 1 .sc (.t 1)), none⟩,
  ⟨(some 42), (.load .sc 1 (.t 41)), none⟩,
  ⟨(some 43), (.bin .add (.t 40) (.t 42)), none⟩,
  ⟨(some 44), (.fadr 7 1 .sc (.t 6)), none⟩,
  ⟨none, (.store .sc 1 (.t 44) (.t 43)), none⟩]
def q_plan_Of_9 : List AOper := [
  ⟨(some 45), (.fadr 7 1 .sc (.t 6)), none⟩,
  ⟨(some 46), (.load .sc 1 (.t 45)), none⟩,
  ⟨(some 47), (.fadr 3 1 .sc (.t 1)), none⟩,
  ⟨(some 48), (.load .sc 1 (.t 47)), none⟩,
  ⟨(some 49), (.bin .add (.t 46) (.t 48)), none⟩,
  ⟨(some 50), (.fadr 8 1 .sc (.t 6)), none⟩,
  ⟨none, (.store .sc 1 (.t 50) (.t 49)), none⟩]
def q_plan_Of_10 : List AOper := [
  ⟨(some 51), (.fadr 8 1 .sc (.t 6)), none⟩,
  ⟨(some 52), (.load .sc 1 (.t 51)), none⟩,
  ⟨(some 53), (.bin .add (.t 52) (.v (.int .i64 1))), none⟩,
  ⟨(some 54), (.fadr 9 1 .sc (.t 6)), none⟩,
  ⟨none, (.store .sc 1 (.t 54) (.t 53)), none⟩]
def q_plan_Of_11 : List AOper := [
  ⟨(some 55), (.fadr 9 1 .sc (.t 6)), none⟩,
  ⟨(some 56), (.load .sc 1 (.t 55)), none⟩,
  ⟨(some 57), (.fadr 13 1 .sc (.t 6)), none⟩,
  ⟨(some 58), (.load .sc 1 (.t 57)), none⟩,
  ⟨(some 59), (.bin .add (.t 56) (.t 58)), none⟩,
  ⟨(some 60), (.fadr 10 1 .sc (.t 6)), none⟩,
  ⟨none, (.store .sc 1 (.t 60) (.t 59)), none⟩]
def q_plan_Of_12 : List AOper := [
  ⟨(some 61), (.fadr 10 1 .sc (.t 6)), none⟩,
  ⟨(some 62), (.load .sc 1 (.t 61)), none⟩,
  ⟨(some 63), (.fadr 0 1 .sc (.t 1)), none⟩,
  ⟨(some 64), (.load .sc 1 (.t 63)), none⟩,
  ⟨(some 65), (.bin .add (.t 62) (.t 64)), none⟩,
  ⟨(some 66), (.fadr 11 1 .sc (.t 6)), none⟩,
  ⟨none, (.store .sc 1 (.t 66) (.t 65)), none⟩]
def q_plan_Of_13 : List AOper := [
  ⟨(some 67), (.fadr 11 1 .sc (.t 6)), none⟩,
  ⟨(some 68), (.load .sc 1 (.t 67)), none⟩,
  ⟨(some 69), (.bin .gtr (.t 68) (.v (.int .i64 4096))), none⟩]
def q_plan_Of_14 : List AOper := [
  ⟨(some 70), (.build .ag [(.int .i64 0), (.int .i64 0), (.int .i64 0), (.int .i64 0), (.int .i64 0), (.int .i64 0), (.int .i64 0), (.int .i64 0), (.int .i64 0), (.int .i64 0), (.int .i64 0), (.int .i64 0), (.int .i64 0), (.int .i64 0)] []), none⟩,
  ⟨none, (.store .ag 14 (.t 2) (.t 70)), none⟩,
  ⟨(some 3), (.mv (.v (.int .i64 15))), none⟩]
def q_plan_Of_15 : List AOper := [
  ⟨(some 71), (.load .ag 14 (.t 6)), none⟩,
  ⟨none, (.store .ag 14 (.t 2) (.t 71)), none⟩,
  ⟨(some 3), (.mv (.v (.int .i64 0))), none⟩]
def a_plan_Of : AFunc := ⟨[(.cell 2 .ag 14), (.tmp 3)], (.seq (.region q_plan_Of_0) (.seq (.seq (.region q_plan_Of_1) (.seq (.region q_plan_Of_2) (.cond (.t 10) (.seq (.region q_plan_Of_3) .ret) .skip))) (.seq (.region q_plan_Of_4) (.seq (.region q_plan_Of_5) (.seq (.region q_plan_Of_6) (.seq (.region q_plan_Of_7) (.seq (.region q_plan_Of_8) (.seq (.region q_plan_Of_9) (.seq (.region q_plan_Of_10) (.seq (.region q_plan_Of_11) (.seq (.region q_plan_Of_12) (.seq (.seq (.region q_plan_Of_13) (.cond (.t 69) (.seq (.region q_plan_Of_14) .ret) .skip)) (.seq (.region q_plan_Of_15) .ret)))))))))))))⟩

def q_plan_Check_0 : List AOper := [
  ⟨(some 1), (.box 53 .ag (.t 0)), none⟩,
  ⟨(some 2), (.mv (.v (.int .i64 0))), none⟩]
def q_plan_Check_1 : List AOper := [
  ⟨(some 5), (.fadr 0 1 .sc (.t 1)), none⟩,
  ⟨(some 6), (.load .sc 1 (.t 5)), none⟩,
  ⟨(some 7), (.build (.ia .i64 2) [(.iarr .i64 2 [0, 0])] [(0, (1, (.t 6))), (1, (1, (.v (.int .i64 200))))]), none⟩,
  ⟨(some 8), (.fadr 1 1 .sc (.t 1)), none⟩,
  ⟨(some 9), (.load .sc 1 (.t 8)), none⟩,
  ⟨(some 10), (.build (.ia .i64 2) [(.iarr .i64 2 [0, 0])] [(0, (1, (.t 9))), (1, (1, (.v (.int .i64 40))))]), none⟩,
  ⟨(some 11), (.fadr 2 1 .sc (.t 1)), none⟩,
  ⟨(some 12), (.load .sc 1 (.t 11)), none⟩,
  ⟨(some 13), (.build (.ia .i64 2) [(.iarr .i64 2 [0, 0])] [(0, (1, (.t 12))), (1, (1, (.v (.int .i64 40))))]), none⟩,
  ⟨(some 14), (.fadr 3 1 .sc (.t 1)), none⟩,
  ⟨(some 15), (.load .sc 1 (.t 14)), none⟩,
  ⟨(some 16), (.build (.ia .i64 2) [(.iarr .i64 2 [0, 0])] [(0, (1, (.t 15))), (1, (1, (.v (.int .i64 80))))]), none⟩,
  ⟨(some 17), (.build .ag [(.iarr .i64 2 [0, 0]), (.iarr .i64 2 [0, 0]), (.iarr .i64 2 [0, 0]), (.iarr .i64 2 [0, 0])] [(0, (2, (.t 7))), (2, (2, (.t 10))), (4, (2, (.t 13))), (6, (2, (.t 16)))]), none⟩,
  ⟨(some 18), (.mv (.v (.int .i64 0))), none⟩]
def q_plan_Check_2 : List AOper := [
  ⟨(some 19), (.bin .lss (.t 18) (.v (.int .i64 4))), none⟩]
def q_plan_Check_3 : List AOper := [
  ⟨(some 20), (.xx (.idxV 4 2 (.ia .i64 2)) [(.t 17), (.t 18)]), none⟩,
  ⟨(some 4), (.alloc 75 [(.iarr .i64 2 [0, 0])]), none⟩,
  ⟨none, (.store (.ia .i64 2) 2 (.t 4) (.t 20)), none⟩]
def q_plan_Check_4 : List AOper := [
  ⟨(some 21), (.idxA 2 1 true (.t 4) (.v (.int .i64 0))), none⟩,
  ⟨(some 22), (.load .sc 1 (.t 21)), none⟩,
  ⟨(some 23), (.bin .lss (.t 22) (.v (.int .i64 1))), none⟩,
  ⟨(some 24), (.mv (.t 23)), none⟩,
  ⟨(some 25), (.idxA 2 1 true (.t 4) (.v (.int .i64 0))), (some (24, false))⟩,
  ⟨(some 26), (.load .sc 1 (.t 25)), (some (24, false))⟩,
  ⟨(some 27), (.idxA 2 1 true (.t 4) (.v (.int .i64 1))), (some (24, false))⟩,
  ⟨(some 28), (.load .sc 1 (.t 27)), (some (24, false))⟩,
  ⟨(some 29), (.bin .gtr (.t 26) (.t 28)), (some (24, false))⟩,
  ⟨(some 30), (.pick (.t 24) (.v (.bool true)) (.t 29)), none⟩]
def q_plan_Check_5 : List AOper := [
  ⟨(some 2), (.mv (.v (.int .i64 2))), none⟩]
def q_plan_Check_6 : List AOper := [
  ⟨(some 31), (.bin .add (.t 18) (.v (.int .i64 1))), none⟩,
  ⟨(some 18), (.mv (.t 31)), none⟩]
def q_plan_Check_L7 : ACode := (.seq (.region q_plan_Check_2) (.seq (.cond (.t 19) .skip (.exit 0)) (.seq (.block 1 (.seq (.region q_plan_Check_3) (.seq (.region q_plan_Check_4) (.cond (.t 30) (.seq (.region q_plan_Check_5) .ret) .skip)))) (.region q_plan_Check_6))))
def q_plan_Check_7 : List AOper := [
  ⟨(some 2), (.mv (.v (.int .i64 0))), none⟩]
def a_plan_Check : AFunc := ⟨[(.tmp 2)], (.seq (.region q_plan_Check_0) (.seq (.seq (.region q_plan_Check_1) (.block 0 (.loop q_plan_Check_L7))) (.seq (.region q_plan_Check_7) .ret)))⟩

def q_plan_Layout_Bound_0 : List AOper := [
  ⟨(some 1), (.box 55 .ag (.t 0)), none⟩,
  ⟨(some 2), (.mv (.v (.int .i64 0))), none⟩]
def q_plan_Layout_Bound_1 : List AOper := [
  ⟨(some 3), (.fadr 0 4 .ag (.t 1)), none⟩,
  ⟨(some 4), (.fadr 0 1 .sc (.t 3)), none⟩,
  ⟨(some 5), (.load .sc 1 (.t 4)), none⟩,
  ⟨(some 6), (.bin .add (.t 5) (.v (.int .i64 1))), none⟩,
  ⟨(some 2), (.mv (.t 6)), none⟩]
def a_plan_Layout_Bound : AFunc := ⟨[(.tmp 2)], (.seq (.region q_plan_Layout_Bound_0) (.seq (.region q_plan_Layout_Bound_1) .ret))⟩

def q_plan_Layout_Part_0 : List AOper := [
  ⟨(some 2), (.box 55 .ag (.t 0)), none⟩,
  ⟨(some 4), (.mv (.v (.str ⟨#[]⟩))), none⟩]
def q_plan_Layout_Part_1 : List AOper := [
  ⟨(some 6), (.mv (.t 1)), none⟩,
  ⟨(some 7), (.bin .lss (.t 6) (.v (.int .i64 0))), none⟩,
  ⟨(some 8), (.mv (.t 7)), none⟩,
  ⟨(some 9), (.mv (.t 1)), (some (8, false))⟩,
  ⟨(some 10), (.fadr 11 1 .sc (.t 2)), (some (8, false))⟩,
  ⟨(some 11), (.load .sc 1 (.t 10)), (some (8, false))⟩,
  ⟨(some 12), (.bin .geq (.t 9) (.t 11)), (some (8, false))⟩,
  ⟨(some 13), (.pick (.t 8) (.v (.bool true)) (.t 12)), none⟩,
  ⟨(some 5), (.mv (.t 13)), none⟩]
def q_plan_Layout_Part_2 : List AOper := [
  ⟨(some 4), (.mv (.v (.str ⟨#[]⟩))), none⟩]
def q_plan_Layout_Part_3 : List AOper := [
  ⟨(some 15), (.mv (.t 1)), none⟩,
  ⟨(some 16), (.fadr 10 1 .sc (.t 2)), none⟩,
  ⟨(some 17), (.load .sc 1 (.t 16)), none⟩,
  ⟨(some 18), (.bin .geq (.t 15) (.t 17)), none⟩,
  ⟨(some 14), (.mv (.t 18)), none⟩]
def q_plan_Layout_Part_4 : List AOper := [
  ⟨(some 4), (.mv (.v (.str ⟨#[115, 108, 111, 116]⟩))), none⟩]
def q_plan_Layout_Part_5 : List AOper := [
  ⟨(some 20), (.mv (.t 1)), none⟩,
  ⟨(some 21), (.fadr 9 1 .sc (.t 2)), none⟩,
  ⟨(some 22), (.load .sc 1 (.t 21)), none⟩,
  ⟨(some 23), (.bin .geq (.t 20) (.t 22)), none⟩,
  ⟨(some 19), (.mv (.t 23)), none⟩]
def q_plan_Layout_Part_6 : List AOper := [
  ⟨(some 4), (.mv (.v (.str ⟨#[98, 111, 100, 121]⟩))), none⟩]
def q_plan_Layout_Part_7 : List AOper := [
  ⟨(some 25), (.mv (.t 1)), none⟩,
  ⟨(some 26), (.fadr 8 1 .sc (.t 2)), none⟩,
  ⟨(some 27), (.load .sc 1 (.t 26)), none⟩,
  ⟨(some 28), (.eq .scI false (.t 25) (.t 27)), none⟩,
  ⟨(some 24), (.mv (.t 28)), none⟩]
def q_plan_Layout_Part_8 : List AOper := [
  ⟨(some 4), (.mv (.v (.str ⟨#[104, 101, 97, 100]⟩))), none⟩]
def q_plan_Layout_Part_9 : List AOper := [
  ⟨(some 30), (.mv (.t 1)), none⟩,
  ⟨(some 31), (.fadr 7 1 .sc (.t 2)), none⟩,
  ⟨(some 32), (.load .sc 1 (.t 31)), none⟩,
  ⟨(some 33), (.bin .geq (.t 30) (.t 32)), none⟩,
  ⟨(some 29), (.mv (.t 33)), none⟩]
def q_plan_Layout_Part_10 : List AOper := [
  ⟨(some 4), (.mv (.v (.str ⟨#[97, 117, 100, 105, 116]⟩))), none⟩]
def q_plan_Layout_Part_11 : List AOper := [
  ⟨(some 35), (.mv (.t 1)), none⟩,
  ⟨(some 36), (.fadr 6 1 .sc (.t 2)), none⟩,
  ⟨(some 37), (.load .sc 1 (.t 36)), none⟩,
  ⟨(some 38), (.bin .geq (.t 35) (.t 37)), none⟩,
  ⟨(some 34), (.mv (.t 38)), none⟩]
def q_plan_Layout_Part_12 : List AOper := [
  ⟨(some 4), (.mv (.v (.str ⟨#[99, 108, 105, 112]⟩))), none⟩]
def q_plan_Layout_Part_13 : List AOper := [
  ⟨(some 40), (.mv (.t 1)), none⟩,
  ⟨(some 41), (.fadr 5 1 .sc (.t 2)), none⟩,
  ⟨(some 42), (.load .sc 1 (.t 41)), none⟩,
  ⟨(some 43), (.bin .geq (.t 40) (.t 42)), none⟩,
  ⟨(some 39), (.mv (.t 43)), none⟩]
def q_plan_Layout_Part_14 : List AOper := [
  ⟨(some 4), (.mv (.v (.str ⟨#[116, 101, 120, 116]⟩))), none⟩]
def q_plan_Layout_Part_15 : List AOper := [
  ⟨(some 45), (.mv (.t 1)), none⟩,
  ⟨(some 46), (.fadr 4 1 .sc (.t 2)), none⟩,
  ⟨(some 47), (.load .sc 1 (.t 46)), none⟩,
  ⟨(some 48), (.bin .geq (.t 45) (.t 47)), none⟩,
  ⟨(some 44), (.mv (.t 48)), none⟩]
def q_plan_Layout_Part_16 : List AOper := [
  ⟨(some 4), (.mv (.v (.str ⟨#[105, 110, 100, 101, 120]⟩))), none⟩]
def q_plan_Layout_Part_17 : List AOper := [
  ⟨(some 50), (.mv (.t 1)), none⟩,
  ⟨(some 51), (.eq .scI false (.t 50) (.v (.int .i64 4))), none⟩,
  ⟨(some 49), (.mv (.t 51)), none⟩]
def q_plan_Layout_Part_18 : List AOper := [
  ⟨(some 4), (.mv (.v (.str ⟨#[99, 108, 97, 115, 115, 101, 115]⟩))), none⟩]
def q_plan_Layout_Part_19 : List AOper := [
  ⟨(some 53), (.mv (.t 1)), none⟩,
  ⟨(some 54), (.eq .scI false (.t 53) (.v (.int .i64 3))), none⟩,
  ⟨(some 52), (.mv (.t 54)), none⟩]
def q_plan_Layout_Part_20 : List AOper := [
  ⟨(some 4), (.mv (.v (.str ⟨#[109, 97, 112]⟩))), none⟩]
def q_plan_Layout_Part_21 : List AOper := [
  ⟨(some 56), (.mv (.t 1)), none⟩,
  ⟨(some 57), (.eq .scI false (.t 56) (.v (.int .i64 2))), none⟩,
  ⟨(some 55), (.mv (.t 57)), none⟩]
def q_plan_Layout_Part_22 : List AOper := [
  ⟨(some 4), (.mv (.v (.str ⟨#[115, 116, 97, 116, 101]⟩))), none⟩]
def q_plan_Layout_Part_23 : List AOper := [
  ⟨(some 4), (.mv (.v (.str ⟨#[115, 117, 112, 101, 114]⟩))), none⟩]
def a_plan_Layout_Part : AFunc := ⟨[(.tmp 4)], (.seq (.region q_plan_Layout_Part_0) (.seq (.block 0 (.seq (.region q_plan_Layout_Part_1) (.cond (.t 5) (.seq (.region q_plan_Layout_Part_2) .ret) (.seq (.region q_plan_Layout_Part_3) (.cond (.t 14) (.seq (.region q_plan_Layout_Part_4) .ret) (.seq (.region q_plan_Layout_Part_5) (.cond (.t 19) (.seq (.region q_plan_Layout_Part_6) .ret) (.seq (.region q_plan_Layout_Part_7) (.cond (.t 24) (.seq (.region q_plan_Layout_Part_8) .ret) (.seq (.region q_plan_Layout_Part_9) (.cond (.t 29) (.seq (.region q_plan_Layout_Part_10) .ret) (.seq (.region q_plan_Layout_Part_11) (.cond (.t 34) (.seq (.region q_plan_Layout_Part_12) .ret) (.seq (.region q_plan_Layout_Part_13) (.cond (.t 39) (.seq (.region q_plan_Layout_Part_14) .ret) (.seq (.region q_plan_Layout_Part_15) (.cond (.t 44) (.seq (.region q_plan_Layout_Part_16) .ret) (.seq (.region q_plan_Layout_Part_17) (.cond (.t 49) (.seq (.region q_plan_Layout_Part_18) .ret) (.seq (.region q_plan_Layout_Part_19) (.cond (.t 52) (.seq (.region q_plan_Layout_Part_20) .ret) (.seq (.region q_plan_Layout_Part_21) (.cond (.t 55) (.seq (.region q_plan_Layout_Part_22) .ret) .skip))))))))))))))))))))))) (.seq (.region q_plan_Layout_Part_23) .ret)))⟩

def q_plan_Same_0 : List AOper := [
  ⟨(some 2), (.box 55 .ag (.t 0)), none⟩,
  ⟨(some 3), (.box 55 .ag (.t 1)), none⟩,
  ⟨(some 4), (.mv (.v (.bool false))), none⟩]
def q_plan_Same_1 : List AOper := [
  ⟨(some 5), (.load .ag 14 (.t 2)), none⟩,
  ⟨(some 6), (.load .ag 14 (.t 3)), none⟩,
  ⟨(some 7), (.eq (.st [(0, (4, (.ag, (.st [(0, (1, (.sc, .scI))), (1, (1, (.sc, .scI))), (2, (1, (.sc, .scI))), (3, (1, (.sc, .scI)))])))), (4, (1, (.sc, .scI))), (5, (1, (.sc, .scI))), (6, (1, (.sc, .scI))), (7, (1, (.sc, .scI))), (8, (1, (.sc, .scI))), (9, (1, (.sc, .scI))), (10, (1, (.sc, .scI))), (11, (1, (.sc, .scI))), (12, (1, (.sc, .scI))), (13, (1, (.sc, .scI)))]) false (.t 5) (.t 6)), none⟩,
  ⟨(some 4), (.mv (.t 7)), none⟩]
def a_plan_Same : AFunc := ⟨[(.tmp 4)], (.seq (.region q_plan_Same_0) (.seq (.region q_plan_Same_1) .ret))⟩

def q_plan_Layout_Home_0 : List AOper := [
  ⟨(some 2), (.box 55 .ag (.t 0)), none⟩,
  ⟨(some 4), (.mv (.v (.bool false))), none⟩]
def q_plan_Layout_Home_1 : List AOper := [
  ⟨(some 5), (.mv (.t 1)), none⟩,
  ⟨(some 6), (.bin .geq (.t 5) (.v (.int .i64 2))), none⟩,
  ⟨(some 7), (.mv (.t 6)), none⟩,
  ⟨(some 8), (.mv (.t 1)), (some (7, true))⟩,
  ⟨(some 9), (.fadr 8 1 .sc (.t 2)), (some (7, true))⟩,
  ⟨(some 10), (.load .sc 1 (.t 9)), (some (7, true))⟩,
  ⟨(some 11), (.bin .lss (.t 8) (.t 10)), (some (7, true))⟩,
  ⟨(some 12), (.pick (.t 7) (.t 11) (.v (.bool false))), none⟩,
  ⟨(some 4), (.mv (.t 12)), none⟩]
def a_plan_Layout_Home : AFunc := ⟨[(.tmp 4)], (.seq (.region q_plan_Layout_Home_0) (.seq (.region q_plan_Layout_Home_1) .ret))⟩

def q_ref07_Check_0 : List AOper := [
  ⟨(some 1), (.box 53 .ag (.t 0)), none⟩,
  ⟨(some 2), (.mv (.v (.int .i64 0))), none⟩]
def q_ref07_Check_1 : List AOper := [
  ⟨(some 3), (.load .ag 4 (.t 1)), none⟩,
  ⟨(some 4), (.call F_ref07_right [(.ag, (.t 3))]), none⟩,
  ⟨(some 5), (.un .not (.t 4)), none⟩]
def q_ref07_Check_2 : List AOper := [
  ⟨(some 2), (.mv (.v (.int .i64 2))), none⟩]
def q_ref07_Check_3 : List AOper := [
  ⟨(some 2), (.mv (.v (.int .i64 0))), none⟩]
def a_ref07_Check : AFunc := ⟨[(.tmp 2)], (.seq (.region q_ref07_Check_0) (.seq (.seq (.region q_ref07_Check_1) (.cond (.t 5) (.seq (.region q_ref07_Check_2) .ret) .skip)) (.seq (.region q_ref07_Check_3) .ret)))⟩

def q_ref07_Parts_0 : List AOper := [
  ⟨(some 1), (.box 53 .ag (.t 0)), none⟩,
  ⟨(some 2), (.mv (.v .nilS)), none⟩]
def q_ref07_Parts_1 : List AOper := [
  ⟨(some 11), (.bsl 9 .sc 1 [(.v (.str ⟨#[115, 117, 112, 101, 114]⟩)), (.v (.str ⟨#[115, 117, 112, 101, 114]⟩)), (.v (.str ⟨#[115, 116, 97, 116, 101]⟩)), (.v (.str ⟨#[109, 97, 112]⟩)), (.v (.str ⟨#[99, 108, 97, 115, 115, 101, 115]⟩))]), none⟩,
  ⟨(some 3), (.mv (.t 11)), none⟩]
def q_ref07_Parts_2 : List AOper := [
  ⟨(some 12), (.load .ag 4 (.t 1)), none⟩,
  ⟨(some 13), (.call F_ref07_Index [(.ag, (.t 12))]), none⟩,
  ⟨(some 4), (.mv (.t 13)), none⟩]
def q_ref07_Parts_3 : List AOper := [
  ⟨(some 5), (.mv (.v (.int .i64 0))), none⟩]
def q_ref07_Parts_4 : List AOper := [
  ⟨(some 14), (.mv (.t 5)), none⟩,
  ⟨(some 15), (.mv (.t 4)), none⟩,
  ⟨(some 16), (.bin .lss (.t 14) (.t 15)), none⟩]
def q_ref07_Parts_5 : List AOper := [
  ⟨(some 19), (.mv (.t 3)), none⟩,
  ⟨(some 20), (.bsl 9 .sc 1 [(.v (.str ⟨#[105, 110, 100, 101, 120]⟩))]), none⟩,
  ⟨(some 21), (.app 9 1 16 (.t 19) (.t 20)), none⟩,
  ⟨(some 3), (.mv (.t 21)), none⟩]
def q_ref07_Parts_6 : List AOper := [
  ⟨(some 17), (.mv (.t 5)), none⟩,
  ⟨(some 18), (.bin .add (.t 17) (.v (.int .i64 1))), none⟩,
  ⟨(some 5), (.mv (.t 18)), none⟩]
def q_ref07_Parts_L7 : ACode := (.seq (.seq (.region q_ref07_Parts_4) (.cond (.t 16) .skip (.exit 0))) (.seq (.block 1 (.region q_ref07_Parts_5)) (.region q_ref07_Parts_6)))
def q_ref07_Parts_7 : List AOper := [
  ⟨(some 6), (.mv (.v (.int .i64 0))), none⟩]
def q_ref07_Parts_8 : List AOper := [
  ⟨(some 22), (.mv (.t 6)), none⟩,
  ⟨(some 23), (.fadr 1 1 .sc (.t 1)), none⟩,
  ⟨(some 24), (.load .sc 1 (.t 23)), none⟩,
  ⟨(some 25), (.bin .lss (.t 22) (.t 24)), none⟩]
def q_ref07_Parts_9 : List AOper := [
  ⟨(some 28), (.mv (.t 3)), none⟩,
  ⟨(some 29), (.bsl 9 .sc 1 [(.v (.str ⟨#[116, 101, 120, 116]⟩))]), none⟩,
  ⟨(some 30), (.app 9 1 16 (.t 28) (.t 29)), none⟩,
  ⟨(some 3), (.mv (.t 30)), none⟩]
def q_ref07_Parts_10 : List AOper := [
  ⟨(some 26), (.mv (.t 6)), none⟩,
  ⟨(some 27), (.bin .add (.t 26) (.v (.int .i64 1))), none⟩,
  ⟨(some 6), (.mv (.t 27)), none⟩]
def q_ref07_Parts_L11 : ACode := (.seq (.seq (.region q_ref07_Parts_8) (.cond (.t 25) .skip (.exit 2))) (.seq (.block 3 (.region q_ref07_Parts_9)) (.region q_ref07_Parts_10)))
def q_ref07_Parts_11 : List AOper := [
  ⟨(some 7), (.mv (.v (.int .i64 0))), none⟩]
def q_ref07_Parts_12 : List AOper := [
  ⟨(some 31), (.mv (.t 7)), none⟩,
  ⟨(some 32), (.fadr 2 1 .sc (.t 1)), none⟩,
  ⟨(some 33), (.load .sc 1 (.t 32)), none⟩,
  ⟨(some 34), (.bin .lss (.t 31) (.t 33)), none⟩]
def q_ref07_Parts_13 : List AOper := [
  ⟨(some 37), (.mv (.t 3)), none⟩,
  ⟨(some 38), (.bsl 9 .sc 1 [(.v (.str ⟨#[99, 108, 105, 112]⟩))]), none⟩,
  ⟨(some 39), (.app 9 1 16 (.t 37) (.t 38)), none⟩,
  ⟨(some 3), (.mv (.t 39)), none⟩]
def q_ref07_Parts_14 : List AOper := [
  ⟨(some 35), (.mv (.t 7)), none⟩,
  ⟨(some 36), (.bin .add (.t 35) (.v (.int .i64 1))), none⟩,
  ⟨(some 7), (.mv (.t 36)), none⟩]
def q_ref07_Parts_L15 : ACode := (.seq (.seq (.region q_ref07_Parts_12) (.cond (.t 34) .skip (.exit 4))) (.seq (.block 5 (.region q_ref07_Parts_13)) (.region q_ref07_Parts_14)))
def q_ref07_Parts_15 : List AOper := [
  ⟨(some 8), (.mv (.v (.int .i64 0))), none⟩]
def q_ref07_Parts_16 : List AOper := [
  ⟨(some 40), (.mv (.t 8)), none⟩,
  ⟨(some 41), (.fadr 3 1 .sc (.t 1)), none⟩,
  ⟨(some 42), (.load .sc 1 (.t 41)), none⟩,
  ⟨(some 43), (.bin .lss (.t 40) (.t 42)), none⟩]
def q_ref07_Parts_17 : List AOper := [
  ⟨(some 46), (.mv (.t 3)), none⟩,
  ⟨(some 47), (.bsl 9 .sc 1 [(.v (.str ⟨#[97, 117, 100, 105, 116]⟩))]), none⟩,
  ⟨(some 48), (.app 9 1 16 (.t 46) (.t 47)), none⟩,
  ⟨(some 3), (.mv (.t 48)), none⟩]
def q_ref07_Parts_18 : List AOper := [
  ⟨(some 44), (.mv (.t 8)), none⟩,
  ⟨(some 45), (.bin .add (.t 44) (.v (.int .i64 1))), none⟩,
  ⟨(some 8), (.mv (.t 45)), none⟩]
def q_ref07_Parts_L19 : ACode := (.seq (.seq (.region q_ref07_Parts_16) (.cond (.t 43) .skip (.exit 6))) (.seq (.block 7 (.region q_ref07_Parts_17)) (.region q_ref07_Parts_18)))
def q_ref07_Parts_19 : List AOper := [
  ⟨(some 49), (.mv (.t 3)), none⟩,
  ⟨(some 50), (.bsl 9 .sc 1 [(.v (.str ⟨#[104, 101, 97, 100]⟩))]), none⟩,
  ⟨(some 51), (.app 9 1 16 (.t 49) (.t 50)), none⟩,
  ⟨(some 3), (.mv (.t 51)), none⟩]
def q_ref07_Parts_20 : List AOper := [
  ⟨(some 9), (.mv (.v (.int .i64 0))), none⟩]
def q_ref07_Parts_21 : List AOper := [
  ⟨(some 52), (.mv (.t 9)), none⟩,
  ⟨(some 53), (.mv (.t 4)), none⟩,
  ⟨(some 54), (.bin .add (.t 53) (.v (.int .i64 9))), none⟩,
  ⟨(some 55), (.fadr 1 1 .sc (.t 1)), none⟩,
  ⟨(some 56), (.load .sc 1 (.t 55)), none⟩,
  ⟨(some 57), (.bin .add (.t 54) (.t 56)), none⟩,
  ⟨(some 58), (.bin .lss (.t 52) (.t 57)), none⟩]
def q_ref07_Parts_22 : List AOper := [
  ⟨(some 61), (.mv (.t 3)), none⟩,
  ⟨(some 62), (.bsl 9 .sc 1 [(.v (.str ⟨#[98, 111, 100, 121]⟩))]), none⟩,
  ⟨(some 63), (.app 9 1 16 (.t 61) (.t 62)), none⟩,
  ⟨(some 3), (.mv (.t 63)), none⟩]
def q_ref07_Parts_23 : List AOper := [
  ⟨(some 59), (.mv (.t 9)), none⟩,
  ⟨(some 60), (.bin .add (.t 59) (.v (.int .i64 1))), none⟩,
  ⟨(some 9), (.mv (.t 60)), none⟩]
def q_ref07_Parts_L24 : ACode := (.seq (.seq (.region q_ref07_Parts_21) (.cond (.t 58) .skip (.exit 8))) (.seq (.block 9 (.region q_ref07_Parts_22)) (.region q_ref07_Parts_23)))
def q_ref07_Parts_24 : List AOper := [
  ⟨(some 10), (.mv (.v (.int .i64 0))), none⟩]
def q_ref07_Parts_25 : List AOper := [
  ⟨(some 64), (.mv (.t 10)), none⟩,
  ⟨(some 65), (.fadr 0 1 .sc (.t 1)), none⟩,
  ⟨(some 66), (.load .sc 1 (.t 65)), none⟩,
  ⟨(some 67), (.bin .lss (.t 64) (.t 66)), none⟩]
def q_ref07_Parts_26 : List AOper := [
  ⟨(some 70), (.mv (.t 3)), none⟩,
  ⟨(some 71), (.bsl 9 .sc 1 [(.v (.str ⟨#[115, 108, 111, 116]⟩))]), none⟩,
  ⟨(some 72), (.app 9 1 16 (.t 70) (.t 71)), none⟩,
  ⟨(some 3), (.mv (.t 72)), none⟩]
def q_ref07_Parts_27 : List AOper := [
  ⟨(some 68), (.mv (.t 10)), none⟩,
  ⟨(some 69), (.bin .add (.t 68) (.v (.int .i64 1))), none⟩,
  ⟨(some 10), (.mv (.t 69)), none⟩]
def q_ref07_Parts_L28 : ACode := (.seq (.seq (.region q_ref07_Parts_25) (.cond (.t 67) .skip (.exit 10))) (.seq (.block 11 (.region q_ref07_Parts_26)) (.region q_ref07_Parts_27)))
def q_ref07_Parts_28 : List AOper := [
  ⟨(some 73), (.mv (.t 3)), none⟩,
  ⟨(some 2), (.mv (.t 73)), none⟩]
def a_ref07_Parts : AFunc := ⟨[(.tmp 2)], (.seq (.region q_ref07_Parts_0) (.seq (.region q_ref07_Parts_1) (.seq (.region q_ref07_Parts_2) (.seq (.seq (.region q_ref07_Parts_3) (.block 0 (.loop q_ref07_Parts_L7))) (.seq (.seq (.region q_ref07_Parts_7) (.block 2 (.loop q_ref07_Parts_L11))) (.seq (.seq (.region q_ref07_Parts_11) (.block 4 (.loop q_ref07_Parts_L15))) (.seq (.seq (.region q_ref07_Parts_15) (.block 6 (.loop q_ref07_Parts_L19))) (.seq (.region q_ref07_Parts_19) (.seq (.seq (.region q_ref07_Parts_20) (.block 8 (.loop q_ref07_Parts_L24))) (.seq (.seq (.region q_ref07_Parts_24) (.block 10 (.loop q_ref07_Parts_L28))) (.seq (.region q_ref07_Parts_28) .ret)))))))))))⟩

def q_ref07_Index_0 : List AOper := [
  ⟨(some 1), (.box 53 .ag (.t 0)), none⟩,
  ⟨(some 2), (.mv (.v (.int .i64 0))), none⟩]
def q_ref07_Index_1 : List AOper := [
  ⟨(some 3), (.mv (.v (.int .i64 0))), none⟩]
def q_ref07_Index_2 : List AOper := [
  ⟨(some 4), (.mv (.t 3)), none⟩,
  ⟨(some 5), (.bin .mul (.v (.int .i64 6)) (.t 4)), none⟩,
  ⟨(some 6), (.fadr 0 1 .sc (.t 1)), none⟩,
  ⟨(some 7), (.load .sc 1 (.t 6)), none⟩,
  ⟨(some 8), (.bin .mul (.v (.int .i64 2)) (.t 7)), none⟩,
  ⟨(some 9), (.bin .lss (.t 5) (.t 8)), none⟩]
def q_ref07_Index_3 : List AOper := [
  ⟨(some 10), (.mv (.t 3)), none⟩,
  ⟨(some 11), (.bin .add (.t 10) (.v (.int .i64 1))), none⟩,
  ⟨(some 3), (.mv (.t 11)), none⟩]
def q_ref07_Index_L4 : ACode := (.seq (.seq (.region q_ref07_Index_2) (.cond (.t 9) .skip (.exit 0))) (.block 1 (.region q_ref07_Index_3)))
def q_ref07_Index_4 : List AOper := [
  ⟨(some 12), (.mv (.t 3)), none⟩,
  ⟨(some 2), (.mv (.t 12)), none⟩]
def a_ref07_Index : AFunc := ⟨[(.tmp 2)], (.seq (.region q_ref07_Index_0) (.seq (.region q_ref07_Index_1) (.seq (.block 0 (.loop q_ref07_Index_L4)) (.seq (.region q_ref07_Index_4) .ret))))⟩

def q_ref07_First_0 : List AOper := [
  ⟨(some 4), (.mv (.v (.int .i64 0))), none⟩]
def q_ref07_First_1 : List AOper := [
  ⟨(some 5), (.mv (.v (.int .i64 0))), none⟩]
def q_ref07_First_2 : List AOper := [
  ⟨(some 6), (.mv (.t 5)), none⟩,
  ⟨(some 7), (.mv (.t 0)), none⟩,
  ⟨(some 8), (.len false (.t 7)), none⟩,
  ⟨(some 9), (.bin .lss (.t 6) (.t 8)), none⟩]
def q_ref07_First_3 : List AOper := [
  ⟨(some 12), (.mv (.t 0)), none⟩,
  ⟨(some 13), (.mv (.t 5)), none⟩,
  ⟨(some 14), (.idx 1 (.t 12) (.t 13)), none⟩,
  ⟨(some 15), (.load .sc 1 (.t 14)), none⟩,
  ⟨(some 16), (.mv (.t 1)), none⟩,
  ⟨(some 17), (.eq .scS false (.t 15) (.t 16)), none⟩]
def q_ref07_First_4 : List AOper := [
  ⟨(some 18), (.mv (.t 5)), none⟩,
  ⟨(some 4), (.mv (.t 18)), none⟩]
def q_ref07_First_5 : List AOper := [
  ⟨(some 10), (.mv (.t 5)), none⟩,
  ⟨(some 11), (.bin .add (.t 10) (.v (.int .i64 1))), none⟩,
  ⟨(some 5), (.mv (.t 11)), none⟩]
def q_ref07_First_L6 : ACode := (.seq (.seq (.region q_ref07_First_2) (.cond (.t 9) .skip (.exit 0))) (.seq (.block 1 (.seq (.region q_ref07_First_3) (.cond (.t 17) (.seq (.region q_ref07_First_4) .ret) .skip))) (.region q_ref07_First_5)))
def q_ref07_First_6 : List AOper := [
  ⟨(some 4), (.mv (.v (.int .i64 (-1)))), none⟩]
def a_ref07_First : AFunc := ⟨[(.tmp 4)], (.seq (.region q_ref07_First_0) (.seq (.seq (.region q_ref07_First_1) (.block 0 (.loop q_ref07_First_L6))) (.seq (.region q_ref07_First_6) .ret)))⟩

def q_ref07_right_0 : List AOper := [
  ⟨(some 1), (.box 53 .ag (.t 0)), none⟩,
  ⟨(some 2), (.mv (.v (.bool false))), none⟩]
def q_ref07_right_1 : List AOper := [
  ⟨(some 3), (.fadr 0 1 .sc (.t 1)), none⟩,
  ⟨(some 4), (.load .sc 1 (.t 3)), none⟩,
  ⟨(some 5), (.bin .geq (.t 4) (.v (.int .i64 1))), none⟩,
  ⟨(some 6), (.mv (.t 5)), none⟩,
  ⟨(some 7), (.fadr 0 1 .sc (.t 1)), (some (6, true))⟩,
  ⟨(some 8), (.load .sc 1 (.t 7)), (some (6, true))⟩,
  ⟨(some 9), (.bin .leq (.t 8) (.v (.int .i64 200))), (some (6, true))⟩,
  ⟨(some 10), (.pick (.t 6) (.t 9) (.v (.bool false))), none⟩,
  ⟨(some 11), (.mv (.t 10)), none⟩,
  ⟨(some 12), (.fadr 1 1 .sc (.t 1)), (some (11, true))⟩,
  ⟨(some 13), (.load .sc 1 (.t 12)), (some (11, true))⟩,
  ⟨(some 14), (.bin .geq (.t 13) (.v (.int .i64 1))), (some (11, true))⟩,
  ⟨(some 15), (.pick (.t 11) (.t 14) (.v (.bool false))), none⟩,
  ⟨(some 16), (.mv (.t 15)), none⟩,
  ⟨(some 17), (.fadr 1 1 .sc (.t 1)), (some (16, true))⟩,
  ⟨(some 18), (.load .sc 1 (.t 17)), (some (16, true))⟩,
  ⟨(some 19), (.bin .leq (.t 18) (.v (.int .i64 40))), (some (16, true))⟩,
  ⟨(some 20), (.pick (.t 16) (.t 19) (.v (.bool false))), none⟩,
  ⟨(some 21), (.mv (.t 20)), none⟩,
  ⟨(some 22), (.fadr 2 1 .sc (.t 1)), (some (21, true))⟩,
  ⟨(some 23), (.load .sc 1 (.t 22)), (some (21, true))⟩,
  ⟨(some 24), (.bin .geq (.t 23) (.v (.int .i64 1))), (some (21, true))⟩,
  ⟨(some 25), (.pick (.t 21) (.t 24) (.v (.bool false))), none⟩,
  ⟨(some 26), (.mv (.t 25)), none⟩,
  ⟨(some 27), (.fadr 2 1 .sc (.t 1)), (some (26, true))⟩,
  ⟨(some 28), (.load .sc 1 (.t 27)), (some (26, true))⟩,
  ⟨(some 29), (.bin .leq (.t 28) (.v (.int .i64 40))), (some (26, true))⟩,
  ⟨(some 30), (.pick (.t 26) (.t 29) (.v (.bool false))), none⟩,
  ⟨(some 31), (.mv (.t 30)), none⟩,
  ⟨(some 32), (.fadr 3 1 .sc (.t 1)), (some (31, true))⟩,
  ⟨(some 33), (.load .sc 1 (.t 32)), (some (31, true))⟩,
  ⟨(some 34), (.bin .geq (.t 33) (.v (.int .i64 1))), (some (31, true))⟩,
  ⟨(some 35), (.pick (.t 31) (.t 34) (.v (.bool false))), none⟩,
  ⟨(some 36), (.mv (.t 35)), none⟩,
  ⟨(some 37), (.fadr 3 1 .sc (.t 1)), (some (36, true))⟩,
  ⟨(some 38), (.load .sc 1 (.t 37)), (some (36, true))⟩,
  ⟨(some 39), (.bin .leq (.t 38) (.v (.int .i64 80))), (some (36, true))⟩,
  ⟨(some 40), (.pick (.t 36) (.t 39) (.v (.bool false))), none⟩,
  ⟨(some 2), (.mv (.t 40)), none⟩]
def a_ref07_right : AFunc := ⟨[(.tmp 2)], (.seq (.region q_ref07_right_0) (.seq (.region q_ref07_right_1) .ret))⟩

def q_law07_PlanParts_0 : List AOper := [
  ⟨(some 2), (.box 53 .ag (.t 0)), none⟩,
  ⟨(some 4), (.mv (.v (.bool false))), none⟩]
def q_law07_PlanParts_1 : List AOper := [
  ⟨(some 11), (.load .ag 4 (.t 2)), none⟩,
  ⟨(some 12), (.call F_plan_Of [(.ag, (.t 11))]), none⟩,
  ⟨(some 10), (.mv (.t 12)), none⟩,
  ⟨(some 13), (.ext 0 (.t 10)), none⟩,
  ⟨(some 14), (.ext 1 (.t 10)), none⟩,
  ⟨(some 5), (.alloc 55 [(.int .i64 0), (.int .i64 0), (.int .i64 0), (.int .i64 0), (.int .i64 0), (.int .i64 0), (.int .i64 0), (.int .i64 0), (.int .i64 0), (.int .i64 0), (.int .i64 0), (.int .i64 0), (.int .i64 0), (.int .i64 0)]), none⟩,
  ⟨none, (.store .ag 14 (.t 5) (.t 13)), none⟩,
  ⟨(some 6), (.mv (.t 14)), none⟩]
def q_law07_PlanParts_2 : List AOper := [
  ⟨(some 15), (.load .ag 4 (.t 2)), none⟩,
  ⟨(some 16), (.call F_ref07_Check [(.ag, (.t 15))]), none⟩,
  ⟨(some 7), (.mv (.t 16)), none⟩]
def q_law07_PlanParts_3 : List AOper := [
  ⟨(some 17), (.mv (.t 6)), none⟩,
  ⟨(some 18), (.mv (.t 7)), none⟩,
  ⟨(some 19), (.eq .scI true (.t 17) (.t 18)), none⟩,
  ⟨(some 20), (.mv (.t 19)), none⟩,
  ⟨(some 21), (.load .ag 4 (.t 2)), (some (20, false))⟩,
  ⟨(some 22), (.call F_plan_Check [(.ag, (.t 21))]), (some (20, false))⟩,
  ⟨(some 23), (.mv (.t 7)), (some (20, false))⟩,
  ⟨(some 24), (.eq .scI true (.t 22) (.t 23)), (some (20, false))⟩,
  ⟨(some 25), (.pick (.t 20) (.v (.bool true)) (.t 24)), none⟩]
def q_law07_PlanParts_4 : List AOper := [
  ⟨(some 4), (.mv (.v (.bool false))), none⟩]
def q_law07_PlanParts_5 : List AOper := [
  ⟨(some 26), (.mv (.t 7)), none⟩,
  ⟨(some 27), (.eq .scI true (.t 26) (.v (.int .i64 0))), none⟩]
def q_law07_PlanParts_6 : List AOper := [
  ⟨(some 28), (.load .ag 14 (.t 5)), none⟩,
  ⟨(some 29), (.build .ag [(.int .i64 0), (.int .i64 0), (.int .i64 0), (.int .i64 0), (.int .i64 0), (.int .i64 0), (.int .i64 0), (.int .i64 0), (.int .i64 0), (.int .i64 0), (.int .i64 0), (.int .i64 0), (.int .i64 0), (.int .i64 0)] []), none⟩,
  ⟨(some 30), (.eq (.st [(0, (4, (.ag, (.st [(0, (1, (.sc, .scI))), (1, (1, (.sc, .scI))), (2, (1, (.sc, .scI))), (3, (1, (.sc, .scI)))])))), (4, (1, (.sc, .scI))), (5, (1, (.sc, .scI))), (6, (1, (.sc, .scI))), (7, (1, (.sc, .scI))), (8, (1, (.sc, .scI))), (9, (1, (.sc, .scI))), (10, (1, (.sc, .scI))), (11, (1, (.sc, .scI))), (12, (1, (.sc, .scI))), (13, (1, (.sc, .scI)))]) false (.t 28) (.t 29)), none⟩,
  ⟨(some 31), (.mv (.t 30)), none⟩,
  ⟨(some 32), (.call F_law07_works []), (some (31, true))⟩,
  ⟨(some 33), (.pick (.t 31) (.t 32) (.v (.bool false))), none⟩,
  ⟨(some 4), (.mv (.t 33)), none⟩]
def q_law07_PlanParts_7 : List AOper := [
  ⟨(some 34), (.load .ag 4 (.t 2)), none⟩,
  ⟨(some 35), (.call F_ref07_Parts [(.ag, (.t 34))]), none⟩,
  ⟨(some 8), (.mv (.t 35)), none⟩]
def q_law07_PlanParts_8 : List DOp := [
  ⟨⟨(some 36), (.fadr 11 1 .sc (.t 5)), none⟩, true, false⟩,
  ⟨⟨(some 37), (.load .sc 1 (.t 36)), none⟩, true, false⟩,
  ⟨⟨(some 38), (.mv (.t 8)), none⟩, true, false⟩,
  ⟨⟨(some 39), (.len false (.t 38)), none⟩, true, false⟩,
  ⟨⟨(some 40), (.eq .scI true (.t 37) (.t 39)), none⟩, true, false⟩,
  ⟨⟨(some 41), (.mv (.t 40)), none⟩, true, false⟩,
  ⟨⟨(some 42), (.fadr 0 4 .ag (.t 5)), (some (41, false))⟩, true, false⟩,
  ⟨⟨(some 43), (.load .ag 4 (.t 42)), (some (41, false))⟩, true, false⟩,
  ⟨⟨(some 44), (.load .ag 4 (.t 2)), (some (41, false))⟩, true, false⟩,
  ⟨⟨(some 45), (.eq (.st [(0, (1, (.sc, .scI))), (1, (1, (.sc, .scI))), (2, (1, (.sc, .scI))), (3, (1, (.sc, .scI)))]) true (.t 43) (.t 44)), (some (41, false))⟩, true, false⟩,
  ⟨⟨(some 46), (.pick (.t 41) (.v (.bool true)) (.t 45)), none⟩, true, false⟩,
  ⟨⟨(some 47), (.mv (.t 46)), none⟩, true, false⟩,
  ⟨⟨(some 48), (.fadr 12 1 .sc (.t 5)), (some (47, false))⟩, true, false⟩,
  ⟨⟨(some 49), (.load .sc 1 (.t 48)), (some (47, false))⟩, true, false⟩,
  ⟨⟨(some 50), (.load .ag 4 (.t 2)), (some (47, false))⟩, true, false⟩,
  ⟨⟨(some 51), (.call F_ref07_Index [(.ag, (.t 50))]), (some (47, false))⟩, false, true⟩,
  ⟨⟨(some 52), (.bin .mul (.v (.int .i64 6)) (.t 51)), (some (47, false))⟩, true, false⟩,
  ⟨⟨(some 53), (.eq .scI true (.t 49) (.t 52)), (some (47, false))⟩, true, false⟩,
  ⟨⟨(some 54), (.pick (.t 47) (.v (.bool true)) (.t 53)), none⟩, true, false⟩,
  ⟨⟨(some 55), (.mv (.t 54)), none⟩, true, false⟩,
  ⟨⟨(some 56), (.fadr 13 1 .sc (.t 5)), (some (55, false))⟩, true, false⟩,
  ⟨⟨(some 57), (.load .sc 1 (.t 56)), (some (55, false))⟩, true, false⟩,
  ⟨⟨(some 58), (.load .ag 4 (.t 2)), (some (55, false))⟩, true, false⟩,
  ⟨⟨(some 61), (.fadr 1 1 .sc (.t 2)), (some (55, false))⟩, true, false⟩,
  ⟨⟨(some 62), (.load .sc 1 (.t 61)), (some (55, false))⟩, true, false⟩,
  ⟨⟨(some 59), (.call F_ref07_Index [(.ag, (.t 58))]), (some (55, false))⟩, false, true⟩,
  ⟨⟨(some 60), (.bin .add (.v (.int .i64 9)) (.t 59)), (some (55, false))⟩, true, false⟩,
  ⟨⟨(some 63), (.bin .add (.t 60) (.t 62)), (some (55, false))⟩, true, false⟩,
  ⟨⟨(some 64), (.eq .scI true (.t 57) (.t 63)), (some (55, false))⟩, true, false⟩,
  ⟨⟨(some 65), (.pick (.t 55) (.v (.bool true)) (.t 64)), none⟩, true, false⟩,
  ⟨⟨(some 66), (.mv (.t 65)), none⟩, true, false⟩,
  ⟨⟨(some 67), (.load .ag 14 (.t 5)), (some (66, false))⟩, true, false⟩,
  ⟨⟨(some 69), (.fadr 0 1 .sc (.t 2)), (some (66, false))⟩, true, false⟩,
  ⟨⟨(some 70), (.load .sc 1 (.t 69)), (some (66, false))⟩, true, false⟩,
  ⟨⟨(some 71), (.bin .add (.t 70) (.v (.int .i64 1))), (some (66, false))⟩, true, false⟩,
  ⟨⟨(some 68), (.call F_plan_Layout_Bound [(.ag, (.t 67))]), (some (66, false))⟩, false, true⟩,
  ⟨⟨(some 72), (.eq .scI true (.t 68) (.t 71)), (some (66, false))⟩, true, false⟩,
  ⟨⟨(some 73), (.pick (.t 66) (.v (.bool true)) (.t 72)), none⟩, true, false⟩]
def q_law07_PlanParts_9 : List AOper := [
  ⟨(some 4), (.mv (.v (.bool false))), none⟩]
def q_law07_PlanParts_10 : List AOper := [
  ⟨(some 9), (.mv (.v (.str ⟨#[]⟩))), none⟩]
def q_law07_PlanParts_11 : List AOper := [
  ⟨(some 74), (.mv (.t 1)), none⟩,
  ⟨(some 75), (.bin .geq (.t 74) (.v (.int .i64 0))), none⟩,
  ⟨(some 76), (.mv (.t 75)), none⟩,
  ⟨(some 77), (.mv (.t 1)), (some (76, true))⟩,
  ⟨(some 78), (.mv (.t 8)), (some (76, true))⟩,
  ⟨(some 79), (.len false (.t 78)), (some (76, true))⟩,
  ⟨(some 80), (.bin .lss (.t 77) (.t 79)), (some (76, true))⟩,
  ⟨(some 81), (.pick (.t 76) (.t 80) (.v (.bool false))), none⟩]
def q_law07_PlanParts_12 : List AOper := [
  ⟨(some 82), (.mv (.t 8)), none⟩,
  ⟨(some 83), (.mv (.t 1)), none⟩,
  ⟨(some 84), (.idx 1 (.t 82) (.t 83)), none⟩,
  ⟨(some 85), (.load .sc 1 (.t 84)), none⟩,
  ⟨(some 9), (.mv (.t 85)), none⟩]
def q_law07_PlanParts_13 : List DOp := [
  ⟨⟨(some 86), (.fadr 4 1 .sc (.t 5)), none⟩, true, false⟩,
  ⟨⟨(some 87), (.load .sc 1 (.t 86)), none⟩, true, false⟩,
  ⟨⟨(some 88), (.mv (.t 8)), none⟩, true, false⟩,
  ⟨⟨(some 89), (.call F_ref07_First [(.sc, (.t 88)), (.sc, (.v (.str ⟨#[105, 110, 100, 101, 120]⟩)))]), none⟩, false, true⟩,
  ⟨⟨(some 90), (.eq .scI true (.t 87) (.t 89)), none⟩, true, false⟩,
  ⟨⟨(some 91), (.mv (.t 90)), none⟩, true, false⟩,
  ⟨⟨(some 92), (.fadr 5 1 .sc (.t 5)), (some (91, false))⟩, true, false⟩,
  ⟨⟨(some 93), (.load .sc 1 (.t 92)), (some (91, false))⟩, true, false⟩,
  ⟨⟨(some 94), (.mv (.t 8)), (some (91, false))⟩, true, false⟩,
  ⟨⟨(some 95), (.call F_ref07_First [(.sc, (.t 94)), (.sc, (.v (.str ⟨#[116, 101, 120, 116]⟩)))]), (some (91, false))⟩, false, true⟩,
  ⟨⟨(some 96), (.eq .scI true (.t 93) (.t 95)), (some (91, false))⟩, true, false⟩,
  ⟨⟨(some 97), (.pick (.t 91) (.v (.bool true)) (.t 96)), none⟩, true, false⟩,
  ⟨⟨(some 98), (.mv (.t 97)), none⟩, true, false⟩,
  ⟨⟨(some 99), (.fadr 6 1 .sc (.t 5)), (some (98, false))⟩, true, false⟩,
  ⟨⟨(some 100), (.load .sc 1 (.t 99)), (some (98, false))⟩, true, false⟩,
  ⟨⟨(some 101), (.mv (.t 8)), (some (98, false))⟩, true, false⟩,
  ⟨⟨(some 102), (.call F_ref07_First [(.sc, (.t 101)), (.sc, (.v (.str ⟨#[99, 108, 105, 112]⟩)))]), (some (98, false))⟩, false, true⟩,
  ⟨⟨(some 103), (.eq .scI true (.t 100) (.t 102)), (some (98, false))⟩, true, false⟩,
  ⟨⟨(some 104), (.pick (.t 98) (.v (.bool true)) (.t 103)), none⟩, true, false⟩,
  ⟨⟨(some 105), (.mv (.t 104)), none⟩, true, false⟩,
  ⟨⟨(some 106), (.fadr 7 1 .sc (.t 5)), (some (105, false))⟩, true, false⟩,
  ⟨⟨(some 107), (.load .sc 1 (.t 106)), (some (105, false))⟩, true, false⟩,
  ⟨⟨(some 108), (.mv (.t 8)), (some (105, false))⟩, true, false⟩,
  ⟨⟨(some 109), (.call F_ref07_First [(.sc, (.t 108)), (.sc, (.v (.str ⟨#[97, 117, 100, 105, 116]⟩)))]), (some (105, false))⟩, false, true⟩,
  ⟨⟨(some 110), (.eq .scI true (.t 107) (.t 109)), (some (105, false))⟩, true, false⟩,
  ⟨⟨(some 111), (.pick (.t 105) (.v (.bool true)) (.t 110)), none⟩, true, false⟩,
  ⟨⟨(some 112), (.mv (.t 111)), none⟩, true, false⟩,
  ⟨⟨(some 113), (.fadr 8 1 .sc (.t 5)), (some (112, false))⟩, true, false⟩,
  ⟨⟨(some 114), (.load .sc 1 (.t 113)), (some (112, false))⟩, true, false⟩,
  ⟨⟨(some 115), (.mv (.t 8)), (some (112, false))⟩, true, false⟩,
  ⟨⟨(some 116), (.call F_ref07_First [(.sc, (.t 115)), (.sc, (.v (.str ⟨#[104, 101, 97, 100]⟩)))]), (some (112, false))⟩, false, true⟩,
  ⟨⟨(some 117), (.eq .scI true (.t 114) (.t 116)), (some (112, false))⟩, true, false⟩,
  ⟨⟨(some 118), (.pick (.t 112) (.v (.bool true)) (.t 117)), none⟩, true, false⟩,
  ⟨⟨(some 119), (.mv (.t 118)), none⟩, true, false⟩,
  ⟨⟨(some 120), (.fadr 9 1 .sc (.t 5)), (some (119, false))⟩, true, false⟩,
  ⟨⟨(some 121), (.load .sc 1 (.t 120)), (some (119, false))⟩, true, false⟩,
  ⟨⟨(some 122), (.mv (.t 8)), (some (119, false))⟩, true, false⟩,
  ⟨⟨(some 123), (.call F_ref07_First [(.sc, (.t 122)), (.sc, (.v (.str ⟨#[98, 111, 100, 121]⟩)))]), (some (119, false))⟩, false, true⟩,
  ⟨⟨(some 124), (.eq .scI true (.t 121) (.t 123)), (some (119, false))⟩, true, false⟩,
  ⟨⟨(some 125), (.pick (.t 119) (.v (.bool true)) (.t 124)), none⟩, true, false⟩,
  ⟨⟨(some 126), (.mv (.t 125)), none⟩, true, false⟩,
  ⟨⟨(some 127), (.fadr 10 1 .sc (.t 5)), (some (126, false))⟩, true, false⟩,
  ⟨⟨(some 128), (.load .sc 1 (.t 127)), (some (126, false))⟩, true, false⟩,
  ⟨⟨(some 129), (.mv (.t 8)), (some (126, false))⟩, true, false⟩,
  ⟨⟨(some 130), (.call F_ref07_First [(.sc, (.t 129)), (.sc, (.v (.str ⟨#[115, 108, 111, 116]⟩)))]), (some (126, false))⟩, false, true⟩,
  ⟨⟨(some 131), (.eq .scI true (.t 128) (.t 130)), (some (126, false))⟩, true, false⟩,
  ⟨⟨(some 132), (.pick (.t 126) (.v (.bool true)) (.t 131)), none⟩, true, false⟩]
def q_law07_PlanParts_14 : List AOper := [
  ⟨(some 4), (.mv (.v (.bool false))), none⟩]
def q_law07_PlanParts_15 : List AOper := [
  ⟨(some 133), (.load .ag 14 (.t 5)), none⟩,
  ⟨(some 134), (.mv (.t 1)), none⟩,
  ⟨(some 135), (.call F_plan_Layout_Part [(.ag, (.t 133)), (.sc, (.t 134))]), none⟩,
  ⟨(some 136), (.mv (.t 9)), none⟩,
  ⟨(some 137), (.eq .scS false (.t 135) (.t 136)), none⟩,
  ⟨(some 138), (.mv (.t 137)), none⟩,
  ⟨(some 139), (.call F_law07_works []), (some (138, true))⟩,
  ⟨(some 140), (.pick (.t 138) (.t 139) (.v (.bool false))), none⟩,
  ⟨(some 4), (.mv (.t 140)), none⟩]
def a_law07_PlanParts : AFunc := ⟨[(.tmp 4)], (.seq (.region q_law07_PlanParts_0) (.seq (.region q_law07_PlanParts_1) (.seq (.region q_law07_PlanParts_2) (.seq (.seq (.region q_law07_PlanParts_3) (.cond (.t 25) (.seq (.region q_law07_PlanParts_4) .ret) .skip)) (.seq (.seq (.region q_law07_PlanParts_5) (.cond (.t 27) (.seq (.region q_law07_PlanParts_6) .ret) .skip)) (.seq (.region q_law07_PlanParts_7) (.seq (.seq (.regionD q_law07_PlanParts_8) (.cond (.t 73) (.seq (.region q_law07_PlanParts_9) .ret) .skip)) (.seq (.region q_law07_PlanParts_10) (.seq (.seq (.region q_law07_PlanParts_11) (.cond (.t 81) (.region q_law07_PlanParts_12) .skip)) (.seq (.seq (.regionD q_law07_PlanParts_13) (.cond (.t 132) (.seq (.region q_law07_PlanParts_14) .ret) .skip)) (.seq (.region q_law07_PlanParts_15) .ret)))))))))))⟩

def q_law07_PlanRoom_0 : List AOper := [
  ⟨(some 2), (.box 53 .ag (.t 0)), none⟩,
  ⟨(some 3), (.box 53 .ag (.t 1)), none⟩,
  ⟨(some 4), (.mv (.v (.bool false))), none⟩]
def q_law07_PlanRoom_1 : List AOper := [
  ⟨(some 10), (.load .ag 4 (.t 2)), none⟩,
  ⟨(some 11), (.call F_plan_Of [(.ag, (.t 10))]), none⟩,
  ⟨(some 9), (.mv (.t 11)), none⟩,
  ⟨(some 12), (.ext 0 (.t 9)), none⟩,
  ⟨(some 13), (.ext 1 (.t 9)), none⟩,
  ⟨(some 5), (.alloc 55 [(.int .i64 0), (.int .i64 0), (.int .i64 0), (.int .i64 0), (.int .i64 0), (.int .i64 0), (.int .i64 0), (.int .i64 0), (.int .i64 0), (.int .i64 0), (.int .i64 0), (.int .i64 0), (.int .i64 0), (.int .i64 0)]), none⟩,
  ⟨none, (.store .ag 14 (.t 5) (.t 12)), none⟩,
  ⟨(some 6), (.mv (.t 13)), none⟩]
def q_law07_PlanRoom_2 : List AOper := [
  ⟨(some 15), (.load .ag 4 (.t 3)), none⟩,
  ⟨(some 16), (.call F_plan_Of [(.ag, (.t 15))]), none⟩,
  ⟨(some 14), (.mv (.t 16)), none⟩,
  ⟨(some 17), (.ext 0 (.t 14)), none⟩,
  ⟨(some 18), (.ext 1 (.t 14)), none⟩,
  ⟨(some 7), (.alloc 55 [(.int .i64 0), (.int .i64 0), (.int .i64 0), (.int .i64 0), (.int .i64 0), (.int .i64 0), (.int .i64 0), (.int .i64 0), (.int .i64 0), (.int .i64 0), (.int .i64 0), (.int .i64 0), (.int .i64 0), (.int .i64 0)]), none⟩,
  ⟨none, (.store .ag 14 (.t 7) (.t 17)), none⟩,
  ⟨(some 8), (.mv (.t 18)), none⟩]
def q_law07_PlanRoom_3 : List AOper := [
  ⟨(some 19), (.mv (.t 6)), none⟩,
  ⟨(some 20), (.eq .scI true (.t 19) (.v (.int .i64 0))), none⟩,
  ⟨(some 21), (.mv (.t 20)), none⟩,
  ⟨(some 22), (.mv (.t 8)), (some (21, false))⟩,
  ⟨(some 23), (.eq .scI true (.t 22) (.v (.int .i64 0))), (some (21, false))⟩,
  ⟨(some 24), (.pick (.t 21) (.v (.bool true)) (.t 23)), none⟩]
def q_law07_PlanRoom_4 : List AOper := [
  ⟨(some 25), (.call F_law07_works []), none⟩,
  ⟨(some 4), (.mv (.t 25)), none⟩]
def q_law07_PlanRoom_5 : List DOp := [
  ⟨⟨(some 26), (.fadr 12 1 .sc (.t 5)), none⟩, true, false⟩,
  ⟨⟨(some 27), (.load .sc 1 (.t 26)), none⟩, true, false⟩,
  ⟨⟨(some 28), (.fadr 0 1 .sc (.t 2)), none⟩, true, false⟩,
  ⟨⟨(some 29), (.load .sc 1 (.t 28)), none⟩, true, false⟩,
  ⟨⟨(some 30), (.bin .mul (.v (.int .i64 2)) (.t 29)), none⟩, true, false⟩,
  ⟨⟨(some 31), (.bin .geq (.t 27) (.t 30)), none⟩, true, false⟩,
  ⟨⟨(some 32), (.mv (.t 31)), none⟩, true, false⟩,
  ⟨⟨(some 33), (.fadr 12 1 .sc (.t 5)), (some (32, true))⟩, true, false⟩,
  ⟨⟨(some 34), (.load .sc 1 (.t 33)), (some (32, true))⟩, true, false⟩,
  ⟨⟨(some 35), (.fadr 0 1 .sc (.t 2)), (some (32, true))⟩, true, false⟩,
  ⟨⟨(some 36), (.load .sc 1 (.t 35)), (some (32, true))⟩, true, false⟩,
  ⟨⟨(some 37), (.bin .mul (.v (.int .i64 2)) (.t 36)), (some (32, true))⟩, true, false⟩,
  ⟨⟨(some 38), (.bin .add (.t 37) (.v (.int .i64 6))), (some (32, true))⟩, true, false⟩,
  ⟨⟨(some 39), (.bin .lss (.t 34) (.t 38)), (some (32, true))⟩, true, false⟩,
  ⟨⟨(some 40), (.pick (.t 32) (.t 39) (.v (.bool false))), none⟩, true, false⟩,
  ⟨⟨(some 41), (.mv (.t 40)), none⟩, true, false⟩,
  ⟨⟨(some 42), (.fadr 13 1 .sc (.t 5)), (some (41, true))⟩, true, false⟩,
  ⟨⟨(some 43), (.load .sc 1 (.t 42)), (some (41, true))⟩, true, false⟩,
  ⟨⟨(some 44), (.fadr 6 1 .sc (.t 5)), (some (41, true))⟩, true, false⟩,
  ⟨⟨(some 45), (.load .sc 1 (.t 44)), (some (41, true))⟩, true, false⟩,
  ⟨⟨(some 46), (.fadr 4 1 .sc (.t 5)), (some (41, true))⟩, true, false⟩,
  ⟨⟨(some 47), (.load .sc 1 (.t 46)), (some (41, true))⟩, true, false⟩,
  ⟨⟨(some 48), (.bin .sub (.t 45) (.t 47)), (some (41, true))⟩, true, false⟩,
  ⟨⟨(some 49), (.bin .add (.t 48) (.v (.int .i64 9))), (some (41, true))⟩, true, false⟩,
  ⟨⟨(some 50), (.eq .scI false (.t 43) (.t 49)), (some (41, true))⟩, true, false⟩,
  ⟨⟨(some 51), (.pick (.t 41) (.t 50) (.v (.bool false))), none⟩, true, false⟩,
  ⟨⟨(some 52), (.mv (.t 51)), none⟩, true, false⟩,
  ⟨⟨(some 53), (.fadr 11 1 .sc (.t 5)), (some (52, true))⟩, true, false⟩,
  ⟨⟨(some 54), (.load .sc 1 (.t 53)), (some (52, true))⟩, true, false⟩,
  ⟨⟨(some 55), (.bin .leq (.t 54) (.v (.int .i64 4096))), (some (52, true))⟩, true, false⟩,
  ⟨⟨(some 56), (.pick (.t 52) (.t 55) (.v (.bool false))), none⟩, true, false⟩,
  ⟨⟨(some 57), (.mv (.t 56)), none⟩, true, false⟩,
  ⟨⟨(some 58), (.load .ag 14 (.t 5)), (some (57, true))⟩, true, false⟩,
  ⟨⟨(some 59), (.load .ag 14 (.t 7)), (some (57, true))⟩, true, false⟩,
  ⟨⟨(some 61), (.load .ag 4 (.t 2)), (some (57, true))⟩, true, false⟩,
  ⟨⟨(some 62), (.load .ag 4 (.t 3)), (some (57, true))⟩, true, false⟩,
  ⟨⟨(some 63), (.eq (.st [(0, (1, (.sc, .scI))), (1, (1, (.sc, .scI))), (2, (1, (.sc, .scI))), (3, (1, (.sc, .scI)))]) false (.t 61) (.t 62)), (some (57, true))⟩, true, false⟩,
  ⟨⟨(some 60), (.call F_plan_Same [(.ag, (.t 58)), (.ag, (.t 59))]), (some (57, true))⟩, false, true⟩,
  ⟨⟨(some 64), (.eq .scB false (.t 60) (.t 63)), (some (57, true))⟩, true, false⟩,
  ⟨⟨(some 65), (.pick (.t 57) (.t 64) (.v (.bool false))), none⟩, true, false⟩,
  ⟨⟨(some 66), (.mv (.t 65)), none⟩, true, false⟩,
  ⟨⟨(some 67), (.call F_law07_works []), (some (66, true))⟩, false, false⟩,
  ⟨⟨(some 68), (.pick (.t 66) (.t 67) (.v (.bool false))), none⟩, true, false⟩,
  ⟨⟨(some 4), (.mv (.t 68)), none⟩, true, false⟩]
def a_law07_PlanRoom : AFunc := ⟨[(.tmp 4)], (.seq (.region q_law07_PlanRoom_0) (.seq (.region q_law07_PlanRoom_1) (.seq (.region q_law07_PlanRoom_2) (.seq (.seq (.region q_law07_PlanRoom_3) (.cond (.t 24) (.seq (.region q_law07_PlanRoom_4) .ret) .skip)) (.seq (.regionD q_law07_PlanRoom_5) .ret)))))⟩

def q_law07_PlanHomes_0 : List AOper := [
  ⟨(some 2), (.box 53 .ag (.t 0)), none⟩,
  ⟨(some 4), (.mv (.v (.bool false))), none⟩]
def q_law07_PlanHomes_1 : List AOper := [
  ⟨(some 9), (.load .ag 4 (.t 2)), none⟩,
  ⟨(some 10), (.call F_plan_Of [(.ag, (.t 9))]), none⟩,
  ⟨(some 8), (.mv (.t 10)), none⟩,
  ⟨(some 11), (.ext 0 (.t 8)), none⟩,
  ⟨(some 12), (.ext 1 (.t 8)), none⟩,
  ⟨(some 5), (.alloc 55 [(.int .i64 0), (.int .i64 0), (.int .i64 0), (.int .i64 0), (.int .i64 0), (.int .i64 0), (.int .i64 0), (.int .i64 0), (.int .i64 0), (.int .i64 0), (.int .i64 0), (.int .i64 0), (.int .i64 0), (.int .i64 0)]), none⟩,
  ⟨none, (.store .ag 14 (.t 5) (.t 11)), none⟩,
  ⟨(some 6), (.mv (.t 12)), none⟩]
def q_law07_PlanHomes_2 : List AOper := [
  ⟨(some 13), (.mv (.t 6)), none⟩,
  ⟨(some 14), (.eq .scI true (.t 13) (.v (.int .i64 0))), none⟩]
def q_law07_PlanHomes_3 : List AOper := [
  ⟨(some 15), (.call F_law07_works []), none⟩,
  ⟨(some 4), (.mv (.t 15)), none⟩]
def q_law07_PlanHomes_4 : List AOper := [
  ⟨(some 16), (.load .ag 14 (.t 5)), none⟩,
  ⟨(some 17), (.mv (.t 1)), none⟩,
  ⟨(some 18), (.call F_plan_Layout_Part [(.ag, (.t 16)), (.sc, (.t 17))]), none⟩,
  ⟨(some 7), (.mv (.t 18)), none⟩]
def q_law07_PlanHomes_5 : List AOper := [
  ⟨(some 19), (.load .ag 14 (.t 5)), none⟩,
  ⟨(some 20), (.mv (.t 1)), none⟩,
  ⟨(some 21), (.call F_plan_Layout_Home [(.ag, (.t 19)), (.sc, (.t 20))]), none⟩,
  ⟨(some 22), (.mv (.t 7)), none⟩,
  ⟨(some 23), (.eq .scS false (.t 22) (.v (.str ⟨#[115, 116, 97, 116, 101]⟩))), none⟩,
  ⟨(some 24), (.mv (.t 23)), none⟩,
  ⟨(some 25), (.mv (.t 7)), (some (24, false))⟩,
  ⟨(some 26), (.eq .scS false (.t 25) (.v (.str ⟨#[109, 97, 112]⟩))), (some (24, false))⟩,
  ⟨(some 27), (.pick (.t 24) (.v (.bool true)) (.t 26)), none⟩,
  ⟨(some 28), (.mv (.t 27)), none⟩,
  ⟨(some 29), (.mv (.t 7)), (some (28, false))⟩,
  ⟨(some 30), (.eq .scS false (.t 29) (.v (.str ⟨#[99, 108, 97, 115, 115, 101, 115]⟩))), (some (28, false))⟩,
  ⟨(some 31), (.pick (.t 28) (.v (.bool true)) (.t 30)), none⟩,
  ⟨(some 32), (.mv (.t 31)), none⟩,
  ⟨(some 33), (.mv (.t 7)), (some (32, false))⟩,
  ⟨(some 34), (.eq .scS false (.t 33) (.v (.str ⟨#[105, 110, 100, 101, 120]⟩))), (some (32, false))⟩,
  ⟨(some 35), (.pick (.t 32) (.v (.bool true)) (.t 34)), none⟩,
  ⟨(some 36), (.mv (.t 35)), none⟩,
  ⟨(some 37), (.mv (.t 7)), (some (36, false))⟩,
  ⟨(some 38), (.eq .scS false (.t 37) (.v (.str ⟨#[116, 101, 120, 116]⟩))), (some (36, false))⟩,
  ⟨(some 39), (.pick (.t 36) (.v (.bool true)) (.t 38)), none⟩,
  ⟨(some 40), (.mv (.t 39)), none⟩,
  ⟨(some 41), (.mv (.t 7)), (some (40, false))⟩,
  ⟨(some 42), (.eq .scS false (.t 41) (.v (.str ⟨#[99, 108, 105, 112]⟩))), (some (40, false))⟩,
  ⟨(some 43), (.pick (.t 40) (.v (.bool true)) (.t 42)), none⟩,
  ⟨(some 44), (.mv (.t 43)), none⟩,
  ⟨(some 45), (.mv (.t 7)), (some (44, false))⟩,
  ⟨(some 46), (.eq .scS false (.t 45) (.v (.str ⟨#[97, 117, 100, 105, 116]⟩))), (some (44, false))⟩,
  ⟨(some 47), (.pick (.t 44) (.v (.bool true)) (.t 46)), none⟩,
  ⟨(some 48), (.eq .scB false (.t 21) (.t 47)), none⟩,
  ⟨(some 49), (.mv (.t 48)), none⟩,
  ⟨(some 50), (.call F_law07_works []), (some (49, true))⟩,
  ⟨(some 51), (.pick (.t 49) (.t 50) (.v (.bool false))), none⟩,
  ⟨(some 4), (.mv (.t 51)), none⟩]
def a_law07_PlanHomes : AFunc := ⟨[(.tmp 4)], (.seq (.region q_law07_PlanHomes_0) (.seq (.region q_law07_PlanHomes_1) (.seq (.seq (.region q_law07_PlanHomes_2) (.cond (.t 14) (.seq (.region q_law07_PlanHomes_3) .ret) .skip)) (.seq (.region q_law07_PlanHomes_4) (.seq (.region q_law07_PlanHomes_5) .ret)))))⟩

def q_law07_works_0 : List AOper := [
  ⟨(some 0), (.mv (.v (.bool false))), none⟩]
def q_law07_works_1 : List AOper := [
  ⟨(some 6), (.build .ag [(.int .i64 0), (.int .i64 0), (.int .i64 0), (.int .i64 0)] [(0, (1, (.v (.int .i64 10)))), (1, (1, (.v (.int .i64 4)))), (2, (1, (.v (.int .i64 3)))), (3, (1, (.v (.int .i64 5))))]), none⟩,
  ⟨(some 7), (.call F_plan_Of [(.ag, (.t 6))]), none⟩,
  ⟨(some 5), (.mv (.t 7)), none⟩,
  ⟨(some 8), (.ext 0 (.t 5)), none⟩,
  ⟨(some 9), (.ext 1 (.t 5)), none⟩,
  ⟨(some 1), (.alloc 55 [(.int .i64 0), (.int .i64 0), (.int .i64 0), (.int .i64 0), (.int .i64 0), (.int .i64 0), (.int .i64 0), (.int .i64 0), (.int .i64 0), (.int .i64 0), (.int .i64 0), (.int .i64 0), (.int .i64 0), (.int .i64 0)]), none⟩,
  ⟨none, (.store .ag 14 (.t 1) (.t 8)), none⟩,
  ⟨(some 2), (.mv (.t 9)), none⟩]
def q_law07_works_2 : List AOper := [
  ⟨(some 11), (.build .ag [(.int .i64 0), (.int .i64 0), (.int .i64 0), (.int .i64 0)] [(0, (1, (.v (.int .i64 10))))]), none⟩,
  ⟨(some 12), (.call F_plan_Of [(.ag, (.t 11))]), none⟩,
  ⟨(some 10), (.mv (.t 12)), none⟩,
  ⟨(some 13), (.ext 0 (.t 10)), none⟩,
  ⟨(some 14), (.ext 1 (.t 10)), none⟩,
  ⟨(some 3), (.alloc 55 [(.int .i64 0), (.int .i64 0), (.int .i64 0), (.int .i64 0), (.int .i64 0), (.int .i64 0), (.int .i64 0), (.int .i64 0), (.int .i64 0), (.int .i64 0), (.int .i64 0), (.int .i64 0), (.int .i64 0), (.int .i64 0)]), none⟩,
  ⟨none, (.store .ag 14 (.t 3) (.t 13)), none⟩,
  ⟨(some 4), (.mv (.t 14)), none⟩]
def q_law07_works_3 : List AOper := [
  ⟨(some 15), (.mv (.t 2)), none⟩,
  ⟨(some 16), (.eq .scI false (.t 15) (.v (.int .i64 0))), none⟩,
  ⟨(some 17), (.mv (.t 16)), none⟩,
  ⟨(some 18), (.fadr 4 1 .sc (.t 1)), (some (17, true))⟩,
  ⟨(some 19), (.load .sc 1 (.t 18)), (some (17, true))⟩,
  ⟨(some 20), (.eq .scI false (.t 19) (.v (.int .i64 5))), (some (17, true))⟩,
  ⟨(some 21), (.pick (.t 17) (.t 20) (.v (.bool false))), none⟩,
  ⟨(some 22), (.mv (.t 21)), none⟩,
  ⟨(some 23), (.fadr 12 1 .sc (.t 1)), (some (22, true))⟩,
  ⟨(some 24), (.load .sc 1 (.t 23)), (some (22, true))⟩,
  ⟨(some 25), (.eq .scI false (.t 24) (.v (.int .i64 24))), (some (22, true))⟩,
  ⟨(some 26), (.pick (.t 22) (.t 25) (.v (.bool false))), none⟩,
  ⟨(some 27), (.mv (.t 26)), none⟩,
  ⟨(some 28), (.fadr 5 1 .sc (.t 1)), (some (27, true))⟩,
  ⟨(some 29), (.load .sc 1 (.t 28)), (some (27, true))⟩,
  ⟨(some 30), (.eq .scI false (.t 29) (.v (.int .i64 9))), (some (27, true))⟩,
  ⟨(some 31), (.pick (.t 27) (.t 30) (.v (.bool false))), none⟩,
  ⟨(some 32), (.mv (.t 31)), none⟩,
  ⟨(some 33), (.fadr 6 1 .sc (.t 1)), (some (32, true))⟩,
  ⟨(some 34), (.load .sc 1 (.t 33)), (some (32, true))⟩,
  ⟨(some 35), (.eq .scI false (.t 34) (.v (.int .i64 13))), (some (32, true))⟩,
  ⟨(some 36), (.pick (.t 32) (.t 35) (.v (.bool false))), none⟩,
  ⟨(some 37), (.mv (.t 36)), none⟩,
  ⟨(some 38), (.fadr 7 1 .sc (.t 1)), (some (37, true))⟩,
  ⟨(some 39), (.load .sc 1 (.t 38)), (some (37, true))⟩,
  ⟨(some 40), (.eq .scI false (.t 39) (.v (.int .i64 16))), (some (37, true))⟩,
  ⟨(some 41), (.pick (.t 37) (.t 40) (.v (.bool false))), none⟩,
  ⟨(some 42), (.mv (.t 41)), none⟩,
  ⟨(some 43), (.fadr 8 1 .sc (.t 1)), (some (42, true))⟩,
  ⟨(some 44), (.load .sc 1 (.t 43)), (some (42, true))⟩,
  ⟨(some 45), (.eq .scI false (.t 44) (.v (.int .i64 21))), (some (42, true))⟩,
  ⟨(some 46), (.pick (.t 42) (.t 45) (.v (.bool false))), none⟩,
  ⟨(some 47), (.mv (.t 46)), none⟩,
  ⟨(some 48), (.fadr 9 1 .sc (.t 1)), (some (47, true))⟩,
  ⟨(some 49), (.load .sc 1 (.t 48)), (some (47, true))⟩,
  ⟨(some 50), (.eq .scI false (.t 49) (.v (.int .i64 22))), (some (47, true))⟩,
  ⟨(some 51), (.pick (.t 47) (.t 50) (.v (.bool false))), none⟩,
  ⟨(some 52), (.mv (.t 51)), none⟩,
  ⟨(some 53), (.fadr 13 1 .sc (.t 1)), (some (52, true))⟩,
  ⟨(some 54), (.load .sc 1 (.t 53)), (some (52, true))⟩,
  ⟨(some 55), (.eq .scI false (.t 54) (.v (.int .i64 17))), (some (52, true))⟩,
  ⟨(some 56), (.pick (.t 52) (.t 55) (.v (.bool false))), none⟩,
  ⟨(some 57), (.mv (.t 56)), none⟩,
  ⟨(some 58), (.fadr 10 1 .sc (.t 1)), (some (57, true))⟩,
  ⟨(some 59), (.load .sc 1 (.t 58)), (some (57, true))⟩,
  ⟨(some 60), (.eq .scI false (.t 59) (.v (.int .i64 39))), (some (57, true))⟩,
  ⟨(some 61), (.pick (.t 57) (.t 60) (.v (.bool false))), none⟩,
  ⟨(some 62), (.mv (.t 61)), none⟩,
  ⟨(some 63), (.fadr 11 1 .sc (.t 1)), (some (62, true))⟩,
  ⟨(some 64), (.load .sc 1 (.t 63)), (some (62, true))⟩,
  ⟨(some 65), (.eq .scI false (.t 64) (.v (.int .i64 49))), (some (62, true))⟩,
  ⟨(some 66), (.pick (.t 62) (.t 65) (.v (.bool false))), none⟩,
  ⟨(some 67), (.mv (.t 66)), none⟩,
  ⟨(some 68), (.mv (.t 4)), (some (67, true))⟩,
  ⟨(some 69), (.eq .scI false (.t 68) (.v (.int .i64 2))), (some (67, true))⟩,
  ⟨(some 70), (.pick (.t 67) (.t 69) (.v (.bool false))), none⟩,
  ⟨(some 71), (.mv (.t 70)), none⟩,
  ⟨(some 72), (.load .ag 14 (.t 1)), (some (71, true))⟩,
  ⟨(some 73), (.call F_plan_Layout_Part [(.ag, (.t 72)), (.sc, (.v (.int .i64 21)))]), (some (71, true))⟩,
  ⟨(some 74), (.eq .scS false (.t 73) (.v (.str ⟨#[104, 101, 97, 100]⟩))), (some (71, true))⟩,
  ⟨(some 75), (.pick (.t 71) (.t 74) (.v (.bool false))), none⟩,
  ⟨(some 76), (.mv (.t 75)), none⟩,
  ⟨(some 77), (.load .ag 14 (.t 1)), (some (76, true))⟩,
  ⟨(some 78), (.call F_plan_Layout_Part [(.ag, (.t 77)), (.sc, (.v (.int .i64 49)))]), (some (76, true))⟩,
  ⟨(some 79), (.eq .scS false (.t 78) (.v (.str ⟨#[]⟩))), (some (76, true))⟩,
  ⟨(some 80), (.pick (.t 76) (.t 79) (.v (.bool false))), none⟩,
  ⟨(some 81), (.mv (.t 80)), none⟩,
  ⟨(some 82), (.load .ag 14 (.t 1)), (some (81, true))⟩,
  ⟨(some 83), (.call F_plan_Layout_Home [(.ag, (.t 82)), (.sc, (.v (.int .i64 20)))]), (some (81, true))⟩,
  ⟨(some 84), (.pick (.t 81) (.t 83) (.v (.bool false))), none⟩,
  ⟨(some 85), (.mv (.t 84)), none⟩,
  ⟨(some 86), (.load .ag 14 (.t 1)), (some (85, true))⟩,
  ⟨(some 87), (.call F_plan_Layout_Home [(.ag, (.t 86)), (.sc, (.v (.int .i64 21)))]), (some (85, true))⟩,
  ⟨(some 88), (.un .not (.t 87)), (some (85, true))⟩,
  ⟨(some 89), (.pick (.t 85) (.t 88) (.v (.bool false))), none⟩,
  ⟨(some 90), (.mv (.t 89)), none⟩,
  ⟨(some 91), (.load .ag 14 (.t 1)), (some (90, true))⟩,
  ⟨(some 92), (.call F_plan_Layout_Bound [(.ag, (.t 91))]), (some (90, true))⟩,
  ⟨(some 93), (.eq .scI false (.t 92) (.v (.int .i64 11))), (some (90, true))⟩,
  ⟨(some 94), (.pick (.t 90) (.t 93) (.v (.bool false))), none⟩,
  ⟨(some 95), (.mv (.t 94)), none⟩,
  ⟨(some 96), (.load .ag 14 (.t 1)), (some (95, true))⟩,
  ⟨(some 97), (.load .ag 14 (.t 1)), (some (95, true))⟩,
  ⟨(some 98), (.call F_plan_Same [(.ag, (.t 96)), (.ag, (.t 97))]), (some (95, true))⟩,
  ⟨(some 99), (.pick (.t 95) (.t 98) (.v (.bool false))), none⟩,
  ⟨(some 100), (.mv (.t 99)), none⟩,
  ⟨(some 101), (.build .ag [(.int .i64 0), (.int .i64 0), (.int .i64 0), (.int .i64 0)] []), (some (100, true))⟩,
  ⟨(some 102), (.call F_plan_Check [(.ag, (.t 101))]), (some (100, true))⟩,
  ⟨(some 103), (.eq .scI false (.t 102) (.v (.int .i64 2))), (some (100, true))⟩,
  ⟨(some 104), (.pick (.t 100) (.t 103) (.v (.bool false))), none⟩,
  ⟨(some 0), (.mv (.t 104)), none⟩]
def a_law07_works : AFunc := ⟨[(.tmp 0)], (.seq (.region q_law07_works_0) (.seq (.region q_law07_works_1) (.seq (.region q_law07_works_2) (.seq (.region q_law07_works_3) .ret))))⟩


theorem c_plan_Of : trF Try.prog Try.f41 = some a_plan_Of := by kernel_rfl
theorem g_plan_Of : Try.prog.funcs[41]? = some Try.f41 := by kernel_rfl
theorem i_plan_Of {args : List AV} {A : Heap} {Ko : AOut → Heap → Prop} (hn : args.length ≤ 72)
    (h : ∀ R : APost, (∀ e env A, fpost a_plan_Of.res Ko e env A → R e env A) → X Try.prog R a_plan_Of.body .done (env0 args) A) : SimX Try.prog F_plan_Of args A Ko :=
  X_intro g_plan_Of c_plan_Of (by rw [Try.ntmps41]; exact hn) h
theorem v_plan_Of {args : List AV} {v : AV} (hn : args.length ≤ 72) (h : X Try.prog (fin a_plan_Of.res v) a_plan_Of.body .done (env0 args) H0) : Gives Try.prog F_plan_Of args v :=
  Gives_intro g_plan_Of c_plan_Of (by rw [Try.ntmps41]; exact hn) h
theorem c_plan_Check : trF Try.prog Try.f43 = some a_plan_Check := by kernel_rfl
theorem g_plan_Check : Try.prog.funcs[43]? = some Try.f43 := by kernel_rfl
theorem i_plan_Check {args : List AV} {A : Heap} {Ko : AOut → Heap → Prop} (hn : args.length ≤ 32)
    (h : ∀ R : APost, (∀ e env A, fpost a_plan_Check.res Ko e env A → R e env A) → X Try.prog R a_plan_Check.body .done (env0 args) A) : SimX Try.prog F_plan_Check args A Ko :=
  X_intro g_plan_Check c_plan_Check (by rw [Try.ntmps43]; exact hn) h
theorem v_plan_Check {args : List AV} {v : AV} (hn : args.length ≤ 32) (h : X Try.prog (fin a_plan_Check.res v) a_plan_Check.body .done (env0 args) H0) : Gives Try.prog F_plan_Check args v :=
  Gives_intro g_plan_Check c_plan_Check (by rw [Try.ntmps43]; exact hn) h
theorem c_plan_Layout_Bound : trF Try.prog Try.f47 = some a_plan_Layout_Bound := by kernel_rfl
theorem g_plan_Layout_Bound : Try.prog.funcs[47]? = some Try.f47 := by kernel_rfl
theorem i_plan_Layout_Bound {args : List AV} {A : Heap} {Ko : AOut → Heap → Prop} (hn : args.length ≤ 7)
    (h : ∀ R : APost, (∀ e env A, fpost a_plan_Layout_Bound.res Ko e env A → R e env A) → X Try.prog R a_plan_Layout_Bound.body .done (env0 args) A) : SimX Try.prog F_plan_Layout_Bound args A Ko :=
  X_intro g_plan_Layout_Bound c_plan_Layout_Bound (by rw [Try.ntmps47]; exact hn) h
theorem v_plan_Layout_Bound {args : List AV} {v : AV} (hn : args.length ≤ 7) (h : X Try.prog (fin a_plan_Layout_Bound.res v) a_plan_Layout_Bound.body .done (env0 args) H0) : Gives Try.prog F_plan_Layout_Bound args v :=
  Gives_intro g_plan_Layout_Bound c_plan_Layout_Bound (by rw [Try.ntmps47]; exact hn) h
theorem c_plan_Layout_Part : trF Try.prog Try.f49 = some a_plan_Layout_Part := by kernel_rfl
theorem g_plan_Layout_Part : Try.prog.funcs[49]? = some Try.f49 := by kernel_rfl
theorem i_plan_Layout_Part {args : List AV} {A : Heap} {Ko : AOut → Heap → Prop} (hn : args.length ≤ 58)
    (h : ∀ R : APost, (∀ e env A, fpost a_plan_Layout_Part.res Ko e env A → R e env A) → X Try.prog R a_plan_Layout_Part.body .done (env0 args) A) : SimX Try.prog F_plan_Layout_Part args A Ko :=
  X_intro g_plan_Layout_Part c_plan_Layout_Part (by rw [Try.ntmps49]; exact hn) h
theorem v_plan_Layout_Part {args : List AV} {v : AV} (hn : args.length ≤ 58) (h : X Try.prog (fin a_plan_Layout_Part.res v) a_plan_Layout_Part.body .done (env0 args) H0) : Gives Try.prog F_plan_Layout_Part args v :=
  Gives_intro g_plan_Layout_Part c_plan_Layout_Part (by rw [Try.ntmps49]; exact hn) h
theorem c_plan_Same : trF Try.prog Try.f50 = some a_plan_Same := by kernel_rfl
theorem g_plan_Same : Try.prog.funcs[50]? = some Try.f50 := by kernel_rfl
theorem i_plan_Same {args : List AV} {A : Heap} {Ko : AOut → Heap → Prop} (hn : args.length ≤ 8)
    (h : ∀ R : APost, (∀ e env A, fpost a_plan_Same.res Ko e env A → R e env A) → X Try.prog R a_plan_Same.body .done (env0 args) A) : SimX Try.prog F_plan_Same args A Ko :=
  X_intro g_plan_Same c_plan_Same (by rw [Try.ntmps50]; exact hn) h
theorem v_plan_Same {args : List AV} {v : AV} (hn : args.length ≤ 8) (h : X Try.prog (fin a_plan_Same.res v) a_plan_Same.body .done (env0 args) H0) : Gives Try.prog F_plan_Same args v :=
  Gives_intro g_plan_Same c_plan_Same (by rw [Try.ntmps50]; exact hn) h
theorem c_plan_Layout_Home : trF Try.prog Try.f51 = some a_plan_Layout_Home := by kernel_rfl
theorem g_plan_Layout_Home : Try.prog.funcs[51]? = some Try.f51 := by kernel_rfl
theorem i_plan_Layout_Home {args : List AV} {A : Heap} {Ko : AOut → Heap → Prop} (hn : args.length ≤ 13)
    (h : ∀ R : APost, (∀ e env A, fpost a_plan_Layout_Home.res Ko e env A → R e env A) → X Try.prog R a_plan_Layout_Home.body .done (env0 args) A) : SimX Try.prog F_plan_Layout_Home args A Ko :=
  X_intro g_plan_Layout_Home c_plan_Layout_Home (by rw [Try.ntmps51]; exact hn) h
theorem v_plan_Layout_Home {args : List AV} {v : AV} (hn : args.length ≤ 13) (h : X Try.prog (fin a_plan_Layout_Home.res v) a_plan_Layout_Home.body .done (env0 args) H0) : Gives Try.prog F_plan_Layout_Home args v :=
  Gives_intro g_plan_Layout_Home c_plan_Layout_Home (by rw [Try.ntmps51]; exact hn) h
theorem c_ref07_Check : trF Try.prog Try.f42 = some a_ref07_Check := by kernel_rfl
theorem g_ref07_Check : Try.prog.funcs[42]? = some Try.f42 := by kernel_rfl
theorem i_ref07_Check {args : List AV} {A : Heap} {Ko : AOut → Heap → Prop} (hn : args.length ≤ 6)
    (h : ∀ R : APost, (∀ e env A, fpost a_ref07_Check.res Ko e env A → R e env A) → X Try.prog R a_ref07_Check.body .done (env0 args) A) : SimX Try.prog F_ref07_Check args A Ko :=
  X_intro g_ref07_Check c_ref07_Check (by rw [Try.ntmps42]; exact hn) h
theorem v_ref07_Check {args : List AV} {v : AV} (hn : args.length ≤ 6) (h : X Try.prog (fin a_ref07_Check.res v) a_ref07_Check.body .done (env0 args) H0) : Gives Try.prog F_ref07_Check args v :=
  Gives_intro g_ref07_Check c_ref07_Check (by rw [Try.ntmps42]; exact hn) h
theorem c_ref07_Parts : trF Try.prog Try.f45 = some a_ref07_Parts := by kernel_rfl
theorem g_ref07_Parts : Try.prog.funcs[45]? = some Try.f45 := by kernel_rfl
theorem i_ref07_Parts {args : List AV} {A : Heap} {Ko : AOut → Heap → Prop} (hn : args.length ≤ 74)
    (h : ∀ R : APost, (∀ e env A, fpost a_ref07_Parts.res Ko e env A → R e env A) → X Try.prog R a_ref07_Parts.body .done (env0 args) A) : SimX Try.prog F_ref07_Parts args A Ko :=
  X_intro g_ref07_Parts c_ref07_Parts (by rw [Try.ntmps45]; exact hn) h
theorem v_ref07_Parts {args : List AV} {v : AV} (hn : args.length ≤ 74) (h : X Try.prog (fin a_ref07_Parts.res v) a_ref07_Parts.body .done (env0 args) H0) : Gives Try.prog F_ref07_Parts args v :=
  Gives_intro g_ref07_Parts c_ref07_Parts (by rw [Try.ntmps45]; exact hn) h
theorem c_ref07_Index : trF Try.prog Try.f46 = some a_ref07_Index := by kernel_rfl
theorem g_ref07_Index : Try.prog.funcs[46]? = some Try.f46 := by kernel_rfl
theorem i_ref07_Index {args : List AV} {A : Heap} {Ko : AOut → Heap → Prop} (hn : args.length ≤ 13)
    (h : ∀ R : APost, (∀ e env A, fpost a_ref07_Index.res Ko e env A → R e env A) → X Try.prog R a_ref07_Index.body .done (env0 args) A) : SimX Try.prog F_ref07_Index args A Ko :=
  X_intro g_ref07_Index c_ref07_Index (by rw [Try.ntmps46]; exact hn) h
theorem v_ref07_Index {args : List AV} {v : AV} (hn : args.length ≤ 13) (h : X Try.prog (fin a_ref07_Index.res v) a_ref07_Index.body .done (env0 args) H0) : Gives Try.prog F_ref07_Index args v :=
  Gives_intro g_ref07_Index c_ref07_Index (by rw [Try.ntmps46]; exact hn) h
theorem c_ref07_First : trF Try.prog Try.f48 = some a_ref07_First := by kernel_rfl
theorem g_ref07_First : Try.prog.funcs[48]? = some Try.f48 := by kernel_rfl
theorem i_ref07_First {args : List AV} {A : Heap} {Ko : AOut → Heap → Prop} (hn : args.length ≤ 19)
    (h : ∀ R : APost, (∀ e env A, fpost a_ref07_First.res Ko e env A → R e env A) → X Try.prog R a_ref07_First.body .done (env0 args) A) : SimX Try.prog F_ref07_First args A Ko :=
  X_intro g_ref07_First c_ref07_First (by rw [Try.ntmps48]; exact hn) h
theorem v_ref07_First {args : List AV} {v : AV} (hn : args.length ≤ 19) (h : X Try.prog (fin a_ref07_First.res v) a_ref07_First.body .done (env0 args) H0) : Gives Try.prog F_ref07_First args v :=
  Gives_intro g_ref07_First c_ref07_First (by rw [Try.ntmps48]; exact hn) h
theorem c_ref07_right : trF Try.prog Try.f71 = some a_ref07_right := by kernel_rfl
theorem g_ref07_right : Try.prog.funcs[71]? = some Try.f71 := by kernel_rfl
theorem i_ref07_right {args : List AV} {A : Heap} {Ko : AOut → Heap → Prop} (hn : args.length ≤ 41)
    (h : ∀ R : APost, (∀ e env A, fpost a_ref07_right.res Ko e env A → R e env A) → X Try.prog R a_ref07_right.body .done (env0 args) A) : SimX Try.prog F_ref07_right args A Ko :=
  X_intro g_ref07_right c_ref07_right (by rw [Try.ntmps71]; exact hn) h
theorem v_ref07_right {args : List AV} {v : AV} (hn : args.length ≤ 41) (h : X Try.prog (fin a_ref07_right.res v) a_ref07_right.body .done (env0 args) H0) : Gives Try.prog F_ref07_right args v :=
  Gives_intro g_ref07_right c_ref07_right (by rw [Try.ntmps71]; exact hn) h
theorem c_law07_PlanParts : trF Try.prog Try.f10 = some a_law07_PlanParts := by kernel_rfl
theorem g_law07_PlanParts : Try.prog.funcs[10]? = some Try.f10 := by kernel_rfl
theorem i_law07_PlanParts {args : List AV} {A : Heap} {Ko : AOut → Heap → Prop} (hn : args.length ≤ 141)
    (h : ∀ R : APost, (∀ e env A, fpost a_law07_PlanParts.res Ko e env A → R e env A) → X Try.prog R a_law07_PlanParts.body .done (env0 args) A) : SimX Try.prog F_law07_PlanParts args A Ko :=
  X_intro g_law07_PlanParts c_law07_PlanParts (by rw [Try.ntmps10]; exact hn) h
theorem v_law07_PlanParts {args : List AV} {v : AV} (hn : args.length ≤ 141) (h : X Try.prog (fin a_law07_PlanParts.res v) a_law07_PlanParts.body .done (env0 args) H0) : Gives Try.prog F_law07_PlanParts args v :=
  Gives_intro g_law07_PlanParts c_law07_PlanParts (by rw [Try.ntmps10]; exact hn) h
theorem c_law07_PlanRoom : trF Try.prog Try.f11 = some a_law07_PlanRoom := by kernel_rfl
theorem g_law07_PlanRoom : Try.prog.funcs[11]? = some Try.f11 := by kernel_rfl
theorem i_law07_PlanRoom {args : List AV} {A : Heap} {Ko : AOut → Heap → Prop} (hn : args.length ≤ 69)
    (h : ∀ R : APost, (∀ e env A, fpost a_law07_PlanRoom.res Ko e env A → R e env A) → X Try.prog R a_law07_PlanRoom.body .done (env0 args) A) : SimX Try.prog F_law07_PlanRoom args A Ko :=
  X_intro g_law07_PlanRoom c_law07_PlanRoom (by rw [Try.ntmps11]; exact hn) h
theorem v_law07_PlanRoom {args : List AV} {v : AV} (hn : args.length ≤ 69) (h : X Try.prog (fin a_law07_PlanRoom.res v) a_law07_PlanRoom.body .done (env0 args) H0) : Gives Try.prog F_law07_PlanRoom args v :=
  Gives_intro g_law07_PlanRoom c_law07_PlanRoom (by rw [Try.ntmps11]; exact hn) h
theorem c_law07_PlanHomes : trF Try.prog Try.f12 = some a_law07_PlanHomes := by kernel_rfl
theorem g_law07_PlanHomes : Try.prog.funcs[12]? = some Try.f12 := by kernel_rfl
theorem i_law07_PlanHomes {args : List AV} {A : Heap} {Ko : AOut → Heap → Prop} (hn : args.length ≤ 52)
    (h : ∀ R : APost, (∀ e env A, fpost a_law07_PlanHomes.res Ko e env A → R e env A) → X Try.prog R a_law07_PlanHomes.body .done (env0 args) A) : SimX Try.prog F_law07_PlanHomes args A Ko :=
  X_intro g_law07_PlanHomes c_law07_PlanHomes (by rw [Try.ntmps12]; exact hn) h
theorem v_law07_PlanHomes {args : List AV} {v : AV} (hn : args.length ≤ 52) (h : X Try.prog (fin a_law07_PlanHomes.res v) a_law07_PlanHomes.body .done (env0 args) H0) : Gives Try.prog F_law07_PlanHomes args v :=
  Gives_intro g_law07_PlanHomes c_law07_PlanHomes (by rw [Try.ntmps12]; exact hn) h
theorem c_law07_works : trF Try.prog Try.f44 = some a_law07_works := by kernel_rfl
theorem g_law07_works : Try.prog.funcs[44]? = some Try.f44 := by kernel_rfl
theorem i_law07_works {args : List AV} {A : Heap} {Ko : AOut → Heap → Prop} (hn : args.length ≤ 105)
    (h : ∀ R : APost, (∀ e env A, fpost a_law07_works.res Ko e env A → R e env A) → X Try.prog R a_law07_works.body .done (env0 args) A) : SimX Try.prog F_law07_works args A Ko :=
  X_intro g_law07_works c_law07_works (by rw [Try.ntmps44]; exact hn) h
theorem v_law07_works {args : List AV} {v : AV} (hn : args.length ≤ 105) (h : X Try.prog (fin a_law07_works.res v) a_law07_works.body .done (env0 args) H0) : Gives Try.prog F_law07_works args v :=
  Gives_intro g_law07_works c_law07_works (by rw [Try.ntmps44]; exact hn) h
end Go.Proofs.Ytgbplcelcjffdaa
