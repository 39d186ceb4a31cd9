/- Abstract programs; that they are the program's. -/
import Derived.Test.YtgbplcelcjffdaaVu
import Derived.Test.YtgbplcelcjffdaaProg
import Derived.KernelRfl
namespace Go.Proofs.Ytgbplcelcjffdaa
open Go AVL
set_option linter.unusedVariables false

def q3_0 : List AOper := [
  ⟨(some 2), (.mv (.v (.bool false))), none⟩]
def q3_1 : List AOper := [
  ⟨(some 3), (.mv (.t 0)), none⟩,
  ⟨(some 4), (.len false (.t 3)), none⟩,
  ⟨(some 5), (.bin .gtr (.t 4) (.v (.int .i64 300))), none⟩]
def q3_2 : List AOper := [
  ⟨(some 6), (.call 13 []), none⟩,
  ⟨(some 2), (.mv (.t 6)), none⟩]
def q3_3 : List AOper := [
  ⟨(some 7), (.mv (.t 0)), none⟩,
  ⟨(some 8), (.call 14 [(.sc, (.t 7))]), none⟩,
  ⟨(some 9), (.mv (.t 0)), none⟩,
  ⟨(some 10), (.call 15 [(.sc, (.t 9))]), none⟩,
  ⟨(some 11), (.eq .scI false (.t 8) (.t 10)), none⟩,
  ⟨(some 12), (.mv (.t 11)), none⟩,
  ⟨(some 13), (.call 13 []), (some (12, true))⟩,
  ⟨(some 14), (.pick (.t 12) (.t 13) (.v (.bool false))), none⟩,
  ⟨(some 2), (.mv (.t 14)), none⟩]
def a3 : AFunc := ⟨[(.tmp 2)], (.seq (.region q3_0) (.seq (.seq (.region q3_1) (.cond (.t 5) (.seq (.region q3_2) .ret) .skip)) (.seq (.region q3_3) .ret)))⟩

def q15_0 : List AOper := [
  ⟨(some 2), (.mv (.v (.int .u32 0))), none⟩]
def q15_1 : List AOper := [
  ⟨(some 11), (.mv (.t 0)), none⟩,
  ⟨(some 12), (.call 53 [(.sc, (.t 11))]), none⟩,
  ⟨(some 13), (.xx (.appZ 5 .u8 1) [(.t 12), (.v (.int .i64 32))]), none⟩,
  ⟨(some 3), (.mv (.t 13)), none⟩]
def q15_2 : List AOper := [
  ⟨(some 4), (.mv (.v (.int .i64 0))), none⟩]
def q15_3 : List AOper := [
  ⟨(some 14), (.mv (.t 4)), none⟩,
  ⟨(some 15), (.bin .lss (.t 14) (.v (.int .i64 32))), none⟩]
def q15_4 : List AOper := [
  ⟨(some 18), (.mv (.t 3)), none⟩,
  ⟨(some 19), (.mv (.t 4)), none⟩,
  ⟨(some 20), (.mv (.t 3)), none⟩,
  ⟨(some 21), (.mv (.t 4)), none⟩,
  ⟨(some 22), (.idx 1 (.t 20) (.t 21)), none⟩,
  ⟨(some 23), (.load .sc 1 (.t 22)), none⟩,
  ⟨(some 24), (.bin .sub (.v (.int .u8 1)) (.t 23)), none⟩,
  ⟨(some 25), (.idx 1 (.t 18) (.t 19)), none⟩,
  ⟨none, (.store .sc 1 (.t 25) (.t 24)), none⟩]
def q15_5 : List AOper := [
  ⟨(some 16), (.mv (.t 4)), none⟩,
  ⟨(some 17), (.bin .add (.t 16) (.v (.int .i64 1))), none⟩,
  ⟨(some 4), (.mv (.t 17)), none⟩]
def q15_L6 : ACode := (.seq (.seq (.region q15_3) (.cond (.t 15) .skip (.exit 0))) (.seq (.block 1 (.region q15_4)) (.region q15_5)))
def q15_6 : List AOper := [
  ⟨(some 26), (.bslI 5 .u8 [(.v (.int .u8 1)), (.v (.int .u8 0)), (.v (.int .u8 0)), (.v (.int .u8 0)), (.v (.int .u8 0)), (.v (.int .u8 0)), (.v (.int .u8 1)), (.v (.int .u8 0)), (.v (.int .u8 0)), (.v (.int .u8 1)), (.v (.int .u8 1)), (.v (.int .u8 0)), (.v (.int .u8 0)), (.v (.int .u8 0)), (.v (.int .u8 0)), (.v (.int .u8 0)), (.v (.int .u8 1)), (.v (.int .u8 0)), (.v (.int .u8 0)), (.v (.int .u8 0)), (.v (.int .u8 1)), (.v (.int .u8 1)), (.v (.int .u8 1)), (.v (.int .u8 0)), (.v (.int .u8 1)), (.v (.int .u8 1)), (.v (.int .u8 0)), (.v (.int .u8 1)), (.v (.int .u8 1)), (.v (.int .u8 0)), (.v (.int .u8 1)), (.v (.int .u8 1)), (.v (.int .u8 1))]), none⟩,
  ⟨(some 5), (.mv (.t 26)), none⟩]
def q15_7 : List AOper := [
  ⟨(some 6), (.mv (.v (.int .i64 0))), none⟩]
def q15_8 : List AOper := [
  ⟨(some 27), (.mv (.t 6)), none⟩,
  ⟨(some 28), (.bin .add (.t 27) (.v (.int .i64 32))), none⟩,
  ⟨(some 29), (.mv (.t 3)), none⟩,
  ⟨(some 30), (.len false (.t 29)), none⟩,
  ⟨(some 31), (.bin .lss (.t 28) (.t 30)), none⟩]
def q15_9 : List AOper := [
  ⟨(some 34), (.mv (.t 3)), none⟩,
  ⟨(some 35), (.mv (.t 6)), none⟩,
  ⟨(some 36), (.idx 1 (.t 34) (.t 35)), none⟩,
  ⟨(some 37), (.load .sc 1 (.t 36)), none⟩,
  ⟨(some 38), (.eq .scI false (.t 37) (.v (.int .u8 1))), none⟩]
def q15_10 : List AOper := [
  ⟨(some 7), (.mv (.v (.int .i64 0))), none⟩]
def q15_11 : List AOper := [
  ⟨(some 39), (.mv (.t 7)), none⟩,
  ⟨(some 40), (.bin .lss (.t 39) (.v (.int .i64 33))), none⟩]
def q15_12 : List DOp := [
  ⟨⟨(some 43), (.mv (.t 3)), none⟩, true, false⟩,
  ⟨⟨(some 44), (.mv (.t 6)), none⟩, true, false⟩,
  ⟨⟨(some 45), (.mv (.t 7)), none⟩, true, false⟩,
  ⟨⟨(some 46), (.bin .add (.t 44) (.t 45)), none⟩, true, false⟩,
  ⟨⟨(some 47), (.mv (.t 3)), none⟩, true, false⟩,
  ⟨⟨(some 48), (.mv (.t 6)), none⟩, true, false⟩,
  ⟨⟨(some 49), (.mv (.t 7)), none⟩, true, false⟩,
  ⟨⟨(some 50), (.bin .add (.t 48) (.t 49)), none⟩, true, false⟩,
  ⟨⟨(some 51), (.idx 1 (.t 47) (.t 50)), none⟩, true, false⟩,
  ⟨⟨(some 52), (.load .sc 1 (.t 51)), none⟩, true, false⟩,
  ⟨⟨(some 53), (.mv (.t 5)), none⟩, true, false⟩,
  ⟨⟨(some 54), (.mv (.t 7)), none⟩, true, false⟩,
  ⟨⟨(some 55), (.idx 1 (.t 53) (.t 54)), none⟩, true, false⟩,
  ⟨⟨(some 56), (.load .sc 1 (.t 55)), none⟩, true, false⟩,
  ⟨⟨(some 57), (.bin .xor (.t 52) (.t 56)), none⟩, true, false⟩,
  ⟨⟨(some 58), (.idx 1 (.t 43) (.t 46)), none⟩, true, false⟩,
  ⟨⟨none, (.store .sc 1 (.t 58) (.t 57)), none⟩, false, false⟩]
def q15_13 : List AOper := [
  ⟨(some 41), (.mv (.t 7)), none⟩,
  ⟨(some 42), (.bin .add (.t 41) (.v (.int .i64 1))), none⟩,
  ⟨(some 7), (.mv (.t 42)), none⟩]
def q15_L14 : ACode := (.seq (.seq (.region q15_11) (.cond (.t 40) .skip (.exit 4))) (.seq (.block 5 (.regionD q15_12)) (.region q15_13)))
def q15_14 : List AOper := [
  ⟨(some 32), (.mv (.t 6)), none⟩,
  ⟨(some 33), (.bin .add (.t 32) (.v (.int .i64 1))), none⟩,
  ⟨(some 6), (.mv (.t 33)), none⟩]
def q15_L15 : ACode := (.seq (.seq (.region q15_8) (.cond (.t 31) .skip (.exit 2))) (.seq (.block 3 (.seq (.region q15_9) (.cond (.t 38) (.seq (.region q15_10) (.block 4 (.loop q15_L14))) .skip))) (.region q15_14)))
def q15_15 : List AOper := [
  ⟨(some 8), (.mv (.v (.int .u32 0))), none⟩]
def q15_16 : List AOper := [
  ⟨(some 59), (.mv (.t 3)), none⟩,
  ⟨(some 60), (.len false (.t 59)), none⟩,
  ⟨(some 61), (.bin .sub (.t 60) (.v (.int .i64 32))), none⟩,
  ⟨(some 9), (.mv (.t 61)), none⟩]
def q15_17 : List AOper := [
  ⟨(some 10), (.mv (.v (.int .i64 0))), none⟩]
def q15_18 : List AOper := [
  ⟨(some 62), (.mv (.t 10)), none⟩,
  ⟨(some 63), (.bin .lss (.t 62) (.v (.int .i64 32))), none⟩]
def q15_19 : List AOper := [
  ⟨(some 66), (.mv (.t 8)), none⟩,
  ⟨(some 67), (.mv (.t 3)), none⟩,
  ⟨(some 68), (.mv (.t 9)), none⟩,
  ⟨(some 69), (.mv (.t 10)), none⟩,
  ⟨(some 70), (.bin .add (.t 68) (.t 69)), none⟩,
  ⟨(some 71), (.idx 1 (.t 67) (.t 70)), none⟩,
  ⟨(some 72), (.load .sc 1 (.t 71)), none⟩,
  ⟨(some 73), (.bin .sub (.v (.int .u8 1)) (.t 72)), none⟩,
  ⟨(some 74), (.conv .u32 (.t 73)), none⟩,
  ⟨(some 75), (.mv (.t 10)), none⟩,
  ⟨(some 76), (.conv .u64 (.t 75)), none⟩,
  ⟨(some 77), (.bin .shl (.t 74) (.t 76)), none⟩,
  ⟨(some 78), (.bin .or (.t 66) (.t 77)), none⟩,
  ⟨(some 8), (.mv (.t 78)), none⟩]
def q15_20 : List AOper := [
  ⟨(some 64), (.mv (.t 10)), none⟩,
  ⟨(some 65), (.bin .add (.t 64) (.v (.int .i64 1))), none⟩,
  ⟨(some 10), (.mv (.t 65)), none⟩]
def q15_L21 : ACode := (.seq (.seq (.region q15_18) (.cond (.t 63) .skip (.exit 6))) (.seq (.block 7 (.region q15_19)) (.region q15_20)))
def q15_21 : List AOper := [
  ⟨(some 79), (.mv (.t 8)), none⟩,
  ⟨(some 2), (.mv (.t 79)), none⟩]
def a15 : AFunc := ⟨[(.tmp 2)], (.seq (.region q15_0) (.seq (.region q15_1) (.seq (.seq (.region q15_2) (.block 0 (.loop q15_L6))) (.seq (.region q15_6) (.seq (.seq (.region q15_7) (.block 2 (.loop q15_L15))) (.seq (.region q15_15) (.seq (.region q15_16) (.seq (.seq (.region q15_17) (.block 6 (.loop q15_L21))) (.seq (.region q15_21) .ret)))))))))⟩

def q53_0 : List AOper := [
  ⟨(some 2), (.mv (.v .nilS)), none⟩]
def q53_1 : List AOper := [
  ⟨(some 3), (.mv (.v .nilS)), none⟩]
def q53_2 : List AOper := [
  ⟨(some 4), (.mv (.v (.int .i64 0))), none⟩]
def q53_3 : List AOper := [
  ⟨(some 6), (.mv (.t 4)), none⟩,
  ⟨(some 7), (.mv (.t 0)), none⟩,
  ⟨(some 8), (.len false (.t 7)), none⟩,
  ⟨(some 9), (.bin .lss (.t 6) (.t 8)), none⟩]
def q53_4 : List AOper := [
  ⟨(some 5), (.mv (.v (.int .i64 0))), none⟩]
def q53_5 : List AOper := [
  ⟨(some 12), (.mv (.t 5)), none⟩,
  ⟨(some 13), (.bin .lss (.t 12) (.v (.int .i64 8))), none⟩]
def q53_6 : List AOper := [
  ⟨(some 16), (.mv (.t 3)), none⟩,
  ⟨(some 17), (.mv (.t 0)), none⟩,
  ⟨(some 18), (.mv (.t 4)), none⟩,
  ⟨(some 19), (.idx 1 (.t 17) (.t 18)), none⟩,
  ⟨(some 20), (.load .sc 1 (.t 19)), none⟩,
  ⟨(some 21), (.mv (.t 5)), none⟩,
  ⟨(some 22), (.conv .u64 (.t 21)), none⟩,
  ⟨(some 23), (.bin .shr (.t 20) (.t 22)), none⟩,
  ⟨(some 24), (.bin .and (.t 23) (.v (.int .u8 1))), none⟩,
  ⟨(some 25), (.bslI 5 .u8 [(.t 24)]), none⟩,
  ⟨(some 26), (.appI 5 .u8 1 (.t 16) (.t 25)), none⟩,
  ⟨(some 3), (.mv (.t 26)), none⟩]
def q53_7 : List AOper := [
  ⟨(some 14), (.mv (.t 5)), none⟩,
  ⟨(some 15), (.bin .add (.t 14) (.v (.int .i64 1))), none⟩,
  ⟨(some 5), (.mv (.t 15)), none⟩]
def q53_L8 : ACode := (.seq (.seq (.region q53_5) (.cond (.t 13) .skip (.exit 2))) (.seq (.block 3 (.region q53_6)) (.region q53_7)))
def q53_8 : List AOper := [
  ⟨(some 10), (.mv (.t 4)), none⟩,
  ⟨(some 11), (.bin .add (.t 10) (.v (.int .i64 1))), none⟩,
  ⟨(some 4), (.mv (.t 11)), none⟩]
def q53_L9 : ACode := (.seq (.seq (.region q53_3) (.cond (.t 9) .skip (.exit 0))) (.seq (.block 1 (.seq (.region q53_4) (.block 2 (.loop q53_L8)))) (.region q53_8)))
def q53_9 : List AOper := [
  ⟨(some 27), (.mv (.t 3)), none⟩,
  ⟨(some 2), (.mv (.t 27)), none⟩]
def a53 : AFunc := ⟨[(.tmp 2)], (.seq (.region q53_0) (.seq (.region q53_1) (.seq (.seq (.region q53_2) (.block 0 (.loop q53_L9))) (.seq (.region q53_9) .ret))))⟩


theorem c3 : trF Try.prog Try.f3 = some a3 := by kernel_rfl
theorem g3 : Try.prog.funcs[3]? = some Try.f3 := by kernel_rfl
theorem c15 : trF Try.prog Try.f15 = some a15 := by kernel_rfl
theorem g15 : Try.prog.funcs[15]? = some Try.f15 := by kernel_rfl
theorem c53 : trF Try.prog Try.f53 = some a53 := by kernel_rfl
theorem g53 : Try.prog.funcs[53]? = some Try.f53 := by kernel_rfl
end Go.Proofs.Ytgbplcelcjffdaa
