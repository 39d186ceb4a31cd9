/- Abstract programs; that they are the program's. -/
import Derived.Test.YtjbiekcldkjgjaaFn
namespace Go.Proofs.Ytjbiekcldkjgjaa
open Go AVL
set_option linter.unusedVariables false

def q_ref21_Same_0 : List AOper := [
  ⟨(some 2), (.box 47 .ag (.t 0)), none⟩,
  ⟨(some 3), (.box 47 .ag (.t 1)), none⟩,
  ⟨(some 4), (.mv (.v (.bool false))), none⟩]
def q_ref21_Same_1 : List AOper := [
  ⟨(some 6), (.fadr 0 1 .sc (.t 2)), none⟩,
  ⟨(some 7), (.load .sc 1 (.t 6)), none⟩,
  ⟨(some 8), (.fadr 0 1 .sc (.t 3)), none⟩,
  ⟨(some 9), (.load .sc 1 (.t 8)), none⟩,
  ⟨(some 10), (.eq .scI true (.t 7) (.t 9)), none⟩,
  ⟨(some 11), (.mv (.t 10)), none⟩,
  ⟨(some 12), (.fadr 1 32 (.ia .u8 32) (.t 2)), (some (11, false))⟩,
  ⟨(some 13), (.load (.ia .u8 32) 32 (.t 12)), (some (11, false))⟩,
  ⟨(some 14), (.fadr 1 32 (.ia .u8 32) (.t 3)), (some (11, false))⟩,
  ⟨(some 15), (.load (.ia .u8 32) 32 (.t 14)), (some (11, false))⟩,
  ⟨(some 16), (.eq (.ia 32) true (.t 13) (.t 15)), (some (11, false))⟩,
  ⟨(some 17), (.pick (.t 11) (.v (.bool true)) (.t 16)), none⟩,
  ⟨(some 18), (.mv (.t 17)), none⟩,
  ⟨(some 19), (.fadr 35 1 .sc (.t 2)), (some (18, false))⟩,
  ⟨(some 20), (.load .sc 1 (.t 19)), (some (18, false))⟩,
  ⟨(some 21), (.fadr 35 1 .sc (.t 3)), (some (18, false))⟩,
  ⟨(some 22), (.load .sc 1 (.t 21)), (some (18, false))⟩,
  ⟨(some 23), (.eq .scI true (.t 20) (.t 22)), (some (18, false))⟩,
  ⟨(some 24), (.pick (.t 18) (.v (.bool true)) (.t 23)), none⟩,
  ⟨(some 25), (.mv (.t 24)), none⟩,
  ⟨(some 26), (.fadr 36 1 .sc (.t 2)), (some (25, false))⟩,
  ⟨(some 27), (.load .sc 1 (.t 26)), (some (25, false))⟩,
  ⟨(some 28), (.fadr 36 1 .sc (.t 3)), (some (25, false))⟩,
  ⟨(some 29), (.load .sc 1 (.t 28)), (some (25, false))⟩,
  ⟨(some 30), (.eq .scB true (.t 27) (.t 29)), (some (25, false))⟩,
  ⟨(some 31), (.pick (.t 25) (.v (.bool true)) (.t 30)), none⟩,
  ⟨(some 32), (.mv (.t 31)), none⟩,
  ⟨(some 33), (.fadr 33 1 .sc (.t 2)), (some (32, false))⟩,
  ⟨(some 34), (.load .sc 1 (.t 33)), (some (32, false))⟩,
  ⟨(some 35), (.xx .bstr [(.t 34)]), (some (32, false))⟩,
  ⟨(some 36), (.fadr 33 1 .sc (.t 3)), (some (32, false))⟩,
  ⟨(some 37), (.load .sc 1 (.t 36)), (some (32, false))⟩,
  ⟨(some 38), (.xx .bstr [(.t 37)]), (some (32, false))⟩,
  ⟨(some 39), (.eq .scS true (.t 35) (.t 38)), (some (32, false))⟩,
  ⟨(some 40), (.pick (.t 32) (.v (.bool true)) (.t 39)), none⟩,
  ⟨(some 41), (.mv (.t 40)), none⟩,
  ⟨(some 42), (.fadr 34 1 .sc (.t 2)), (some (41, false))⟩,
  ⟨(some 43), (.load .sc 1 (.t 42)), (some (41, false))⟩,
  ⟨(some 44), (.len false (.t 43)), (some (41, false))⟩,
  ⟨(some 45), (.fadr 34 1 .sc (.t 3)), (some (41, false))⟩,
  ⟨(some 46), (.load .sc 1 (.t 45)), (some (41, false))⟩,
  ⟨(some 47), (.len false (.t 46)), (some (41, false))⟩,
  ⟨(some 48), (.eq .scI true (.t 44) (.t 47)), (some (41, false))⟩,
  ⟨(some 49), (.pick (.t 41) (.v (.bool true)) (.t 48)), none⟩]
def q_ref21_Same_2 : List AOper := [
  ⟨(some 4), (.mv (.v (.bool false))), none⟩]
def q_ref21_Same_3 : List AOper := [
  ⟨(some 5), (.mv (.v (.int .i64 0))), none⟩]
def q_ref21_Same_4 : List AOper := [
  ⟨(some 50), (.mv (.t 5)), none⟩,
  ⟨(some 51), (.fadr 34 1 .sc (.t 2)), none⟩,
  ⟨(some 52), (.load .sc 1 (.t 51)), none⟩,
  ⟨(some 53), (.len false (.t 52)), none⟩,
  ⟨(some 54), (.bin .lss (.t 50) (.t 53)), none⟩]
def q_ref21_Same_5 : List DOp := [
  ⟨⟨(some 57), (.fadr 34 1 .sc (.t 2)), none⟩, true, false, []⟩,
  ⟨⟨(some 58), (.load .sc 1 (.t 57)), none⟩, true, false, []⟩,
  ⟨⟨(some 59), (.mv (.t 5)), none⟩, true, false, []⟩,
  ⟨⟨(some 60), (.idx 32 (.t 58) (.t 59)), none⟩, true, false, []⟩,
  ⟨⟨(some 61), (.load (.ia .u8 32) 32 (.t 60)), none⟩, true, false, []⟩,
  ⟨⟨(some 62), (.fadr 34 1 .sc (.t 3)), none⟩, true, false, []⟩,
  ⟨⟨(some 63), (.load .sc 1 (.t 62)), none⟩, true, false, []⟩,
  ⟨⟨(some 64), (.mv (.t 5)), none⟩, true, false, []⟩,
  ⟨⟨(some 65), (.idx 32 (.t 63) (.t 64)), none⟩, true, false, []⟩,
  ⟨⟨(some 66), (.load (.ia .u8 32) 32 (.t 65)), none⟩, true, false, []⟩,
  ⟨⟨(some 67), (.eq (.ia 32) true (.t 61) (.t 66)), none⟩, true, false, []⟩]
def q_ref21_Same_6 : List AOper := [
  ⟨(some 4), (.mv (.v (.bool false))), none⟩]
def q_ref21_Same_7 : List AOper := [
  ⟨(some 55), (.mv (.t 5)), none⟩,
  ⟨(some 56), (.bin .add (.t 55) (.v (.int .i64 1))), none⟩,
  ⟨(some 5), (.mv (.t 56)), none⟩]
def q_ref21_Same_L8 : ACode := (.seq (.seq (.region q_ref21_Same_4) (.cond (.t 54) .skip (.exit 0))) (.seq (.block 1 (.seq (.regionD q_ref21_Same_5) (.cond (.t 67) (.seq (.region q_ref21_Same_6) .ret) .skip))) (.region q_ref21_Same_7)))
def q_ref21_Same_8 : List AOper := [
  ⟨(some 4), (.mv (.v (.bool true))), none⟩]
def a_ref21_Same : AFunc := ⟨[(.tmp 4)], (.seq (.region q_ref21_Same_0) (.seq (.seq (.region q_ref21_Same_1) (.cond (.t 49) (.seq (.region q_ref21_Same_2) .ret) .skip)) (.seq (.seq (.region q_ref21_Same_3) (.block 0 (.loop q_ref21_Same_L8))) (.seq (.region q_ref21_Same_8) .ret))))⟩


theorem c_ref21_Same : trF Try.prog Try.f40 = some a_ref21_Same := by kernel_rfl
theorem g_ref21_Same : Try.prog.funcs[40]? = some Try.f40 := by kernel_rfl
theorem i_ref21_Same {args : List AV} {A : Heap} {Ko : AOut → Heap → Prop} (hn : args.length ≤ 68)
    (h : ∀ R : APost, (∀ e env A, fpost a_ref21_Same.res Ko e env A → R e env A) → X Try.prog R a_ref21_Same.body .done (env0 args) A) : SimX Try.prog F_ref21_Same args A Ko :=
  X_intro g_ref21_Same c_ref21_Same (by rw [Try.ntmps40]; exact hn) h
theorem v_ref21_Same {args : List AV} {v : AV} (hn : args.length ≤ 68) (h : X Try.prog (fin a_ref21_Same.res v) a_ref21_Same.body .done (env0 args) H0) : Gives Try.prog F_ref21_Same args v :=
  Gives_intro g_ref21_Same c_ref21_Same (by rw [Try.ntmps40]; exact hn) h
theorem e_ref21_Same {args : List AV} {Q : AOut → Prop} (hn : args.length ≤ 68) (h : X Try.prog (finE a_ref21_Same.res Q) a_ref21_Same.body .done (env0 args) H0) : Fins Try.prog F_ref21_Same args Q :=
  Fins_intro g_ref21_Same c_ref21_Same (by rw [Try.ntmps40]; exact hn) h
theorem j_ref21_Same {args : List AV} {A : Heap} {K Kp : AV → Heap → Prop} (hn : args.length ≤ 68) (h : X Try.prog (inl a_ref21_Same.res K Kp) a_ref21_Same.body .done (env0 args) A) : SimX Try.prog F_ref21_Same args A (outK K Kp) :=
  X_inl g_ref21_Same c_ref21_Same (by rw [Try.ntmps40]; exact hn) h
theorem d_ref21_Same {args : List AV} {A : Heap} {Ko : AOut → Heap → Prop} (hn : args.length ≤ 68)
    (h : ∀ R : APost, (∀ e env A, fpost a_ref21_Same.res Ko e env A → R e env A) → X Try.prog R a_ref21_Same.body .done (env0 args) A) : SimD Try.prog F_ref21_Same args A Ko :=
  X_introD g_ref21_Same c_ref21_Same (by rw [Try.ntmps40]; exact hn) h
@[simp] theorem k_ref21_Same : callable Try.prog F_ref21_Same = true := by kernel_rfl
end Go.Proofs.Ytjbiekcldkjgjaa
