/- Abstract programs; that they are the program's. -/
import Derived.Test.YtfdckjliinpjiaaFn
namespace Go.Proofs.Ytfdckjliinpjiaa
open Go AVL
set_option linter.unusedVariables false
set_option maxRecDepth 20000

def q_word_Get_0 : List AOper := [
  ⟨(some 2), (.mv (.v (.int .u64 0))), none⟩]
def q_word_Get_1 : List AOper := [
  ⟨(some 3), (.mv (.v (.int .u64 0))), none⟩]
def q_word_Get_2 : List AOper := [
  ⟨(some 5), (.mv (.t 0)), none⟩,
  ⟨(some 6), (.len false (.t 5)), none⟩,
  ⟨(some 7), (.xx (.p (.mnI false)) [(.t 6), (.v (.int .i64 8))]), none⟩,
  ⟨(some 8), (.bin .sub (.t 7) (.v (.int .i64 1))), none⟩,
  ⟨(some 4), (.mv (.t 8)), none⟩]
def q_word_Get_3 : List AOper := [
  ⟨(some 9), (.mv (.t 4)), none⟩,
  ⟨(some 10), (.bin .geq (.t 9) (.v (.int .i64 0))), none⟩]
def q_word_Get_4 : List AOper := [
  ⟨(some 13), (.mv (.t 3)), none⟩,
  ⟨(some 14), (.bin .shl (.t 13) (.v (.int .u64 8))), none⟩,
  ⟨(some 15), (.mv (.t 0)), none⟩,
  ⟨(some 16), (.mv (.t 4)), none⟩,
  ⟨(some 17), (.idx 1 (.t 15) (.t 16)), none⟩,
  ⟨(some 18), (.load .sc 1 (.t 17)), none⟩,
  ⟨(some 19), (.conv .u64 (.t 18)), none⟩,
  ⟨(some 20), (.bin .or (.t 14) (.t 19)), none⟩,
  ⟨(some 3), (.mv (.t 20)), none⟩]
def q_word_Get_5 : List AOper := [
  ⟨(some 11), (.mv (.t 4)), none⟩,
  ⟨(some 12), (.bin .sub (.t 11) (.v (.int .i64 1))), none⟩,
  ⟨(some 4), (.mv (.t 12)), none⟩]
def q_word_Get_L6 : ACode := (.seq (.seq (.region q_word_Get_3) (.cond (.t 10) .skip (.exit 0))) (.seq (.block 1 (.region q_word_Get_4)) (.region q_word_Get_5)))
def q_word_Get_6 : List AOper := [
  ⟨(some 21), (.mv (.t 3)), none⟩,
  ⟨(some 2), (.mv (.t 21)), none⟩]
def a_word_Get : AFunc := ⟨[(.tmp 2)], (.seq (.region q_word_Get_0) (.seq (.region q_word_Get_1) (.seq (.seq (.region q_word_Get_2) (.block 0 (.loop q_word_Get_L6))) (.seq (.region q_word_Get_6) .ret))))⟩

def q_word_Put_0 : List AOper := [
  ⟨(some 4), (.mv (.v .nilS)), none⟩]
def q_word_Put_1 : List AOper := [
  ⟨(some 7), (.mv (.t 1)), none⟩,
  ⟨(some 8), (.xx (.p (.mnI true)) [(.t 7), (.v (.int .i64 0))]), none⟩,
  ⟨(some 9), (.mkI 5 .u8 1 (.t 8) (.t 8)), none⟩,
  ⟨(some 5), (.mv (.t 9)), none⟩]
def q_word_Put_2 : List AOper := [
  ⟨(some 10), (.mv (.t 5)), none⟩,
  ⟨(some 11), (.len false (.t 10)), none⟩,
  ⟨(some 12), (.mv (.v (.int .i64 0))), none⟩]
def q_word_Put_3 : List AOper := [
  ⟨(some 13), (.bin .lss (.t 12) (.t 11)), none⟩]
def q_word_Put_4 : List AOper := [
  ⟨(some 14), (.mv (.t 12)), none⟩,
  ⟨(some 6), (.mv (.t 14)), none⟩]
def q_word_Put_5 : List AOper := [
  ⟨(some 15), (.mv (.t 6)), none⟩,
  ⟨(some 16), (.bin .lss (.t 15) (.v (.int .i64 8))), none⟩]
def q_word_Put_6 : List AOper := [
  ⟨(some 17), (.mv (.t 5)), none⟩,
  ⟨(some 18), (.mv (.t 6)), none⟩,
  ⟨(some 19), (.mv (.t 0)), none⟩,
  ⟨(some 20), (.mv (.t 6)), none⟩,
  ⟨(some 21), (.bin .mul (.v (.int .i64 8)) (.t 20)), none⟩,
  ⟨(some 22), (.bin .shr (.t 19) (.t 21)), none⟩,
  ⟨(some 23), (.conv .u8 (.t 22)), none⟩,
  ⟨(some 24), (.idx 1 (.t 17) (.t 18)), none⟩,
  ⟨none, (.store .sc 1 (.t 24) (.t 23)), none⟩]
def q_word_Put_7 : List AOper := [
  ⟨(some 25), (.bin .add (.t 12) (.v (.int .i64 1))), none⟩,
  ⟨(some 12), (.mv (.t 25)), none⟩]
def q_word_Put_L8 : ACode := (.seq (.region q_word_Put_3) (.seq (.cond (.t 13) .skip (.exit 0)) (.seq (.block 1 (.seq (.region q_word_Put_4) (.seq (.region q_word_Put_5) (.cond (.t 16) (.region q_word_Put_6) .skip)))) (.region q_word_Put_7))))
def q_word_Put_8 : List AOper := [
  ⟨(some 26), (.mv (.t 5)), none⟩,
  ⟨(some 4), (.mv (.t 26)), none⟩]
def a_word_Put : AFunc := ⟨[(.tmp 4)], (.seq (.region q_word_Put_0) (.seq (.region q_word_Put_1) (.seq (.seq (.region q_word_Put_2) (.block 0 (.loop q_word_Put_L8))) (.seq (.region q_word_Put_8) .ret))))⟩

def q_word_Zero_0 : List AOper := [
  ⟨(some 2), (.mv (.v (.bool false))), none⟩]
def q_word_Zero_1 : List AOper := [
  ⟨(some 5), (.mv (.t 0)), none⟩,
  ⟨(some 6), (.len false (.t 5)), none⟩,
  ⟨(some 7), (.mv (.v (.int .i64 0))), none⟩]
def q_word_Zero_2 : List AOper := [
  ⟨(some 8), (.bin .lss (.t 7) (.t 6)), none⟩]
def q_word_Zero_3 : List AOper := [
  ⟨(some 9), (.idx 1 (.t 5) (.t 7)), none⟩,
  ⟨(some 10), (.load .sc 1 (.t 9)), none⟩,
  ⟨(some 4), (.mv (.t 10)), none⟩]
def q_word_Zero_4 : List AOper := [
  ⟨(some 11), (.mv (.t 4)), none⟩,
  ⟨(some 12), (.eq .scI true (.t 11) (.v (.int .u8 0))), none⟩]
def q_word_Zero_5 : List AOper := [
  ⟨(some 2), (.mv (.v (.bool false))), none⟩]
def q_word_Zero_6 : List AOper := [
  ⟨(some 13), (.bin .add (.t 7) (.v (.int .i64 1))), none⟩,
  ⟨(some 7), (.mv (.t 13)), none⟩]
def q_word_Zero_L7 : ACode := (.seq (.region q_word_Zero_2) (.seq (.cond (.t 8) .skip (.exit 0)) (.seq (.block 1 (.seq (.region q_word_Zero_3) (.seq (.region q_word_Zero_4) (.cond (.t 12) (.seq (.region q_word_Zero_5) .ret) .skip)))) (.region q_word_Zero_6))))
def q_word_Zero_7 : List AOper := [
  ⟨(some 2), (.mv (.v (.bool true))), none⟩]
def a_word_Zero : AFunc := ⟨[(.tmp 2)], (.seq (.region q_word_Zero_0) (.seq (.seq (.region q_word_Zero_1) (.block 0 (.loop q_word_Zero_L7))) (.seq (.region q_word_Zero_7) .ret)))⟩

def q_ref01_Put_0 : List AOper := [
  ⟨(some 4), (.mv (.v .nilS)), none⟩]
def q_ref01_Put_1 : List AOper := [
  ⟨(some 6), (.mv (.t 1)), none⟩,
  ⟨(some 7), (.bin .leq (.t 6) (.v (.int .i64 0))), none⟩]
def q_ref01_Put_2 : List AOper := [
  ⟨(some 4), (.mv (.v .nilS)), none⟩]
def q_ref01_Put_3 : List AOper := [
  ⟨(some 8), (.mv (.t 0)), none⟩,
  ⟨(some 9), (.bin .rem (.t 8) (.v (.int .u64 256))), none⟩,
  ⟨(some 10), (.conv .u8 (.t 9)), none⟩,
  ⟨(some 11), (.bslI 5 .u8 [(.t 10)]), none⟩,
  ⟨(some 5), (.mv (.t 11)), none⟩]
def q_ref01_Put_4 : List AOper := [
  ⟨(some 12), (.mv (.t 5)), none⟩,
  ⟨(some 13), (.mv (.t 0)), none⟩,
  ⟨(some 14), (.bin .quo (.t 13) (.v (.int .u64 256))), none⟩,
  ⟨(some 15), (.mv (.t 1)), none⟩,
  ⟨(some 16), (.bin .sub (.t 15) (.v (.int .i64 1))), none⟩,
  ⟨(some 17), (.call F_ref01_Put [(.sc, (.t 14)), (.sc, (.t 16))]), none⟩,
  ⟨(some 18), (.appI 5 .u8 1 (.t 12) (.t 17)), none⟩,
  ⟨(some 4), (.mv (.t 18)), none⟩]
def a_ref01_Put : AFunc := ⟨[(.tmp 4)], (.seq (.region q_ref01_Put_0) (.seq (.seq (.region q_ref01_Put_1) (.cond (.t 7) (.seq (.region q_ref01_Put_2) .ret) .skip)) (.seq (.region q_ref01_Put_3) (.seq (.region q_ref01_Put_4) .ret))))⟩

def q_ref01_Same_0 : List AOper := [
  ⟨(some 4), (.mv (.v (.bool false))), none⟩]
def q_ref01_Same_1 : List AOper := [
  ⟨(some 5), (.mv (.t 0)), none⟩,
  ⟨(some 6), (.xx .bstr [(.t 5)]), none⟩,
  ⟨(some 7), (.mv (.t 1)), none⟩,
  ⟨(some 8), (.xx .bstr [(.t 7)]), none⟩,
  ⟨(some 9), (.eq .scS false (.t 6) (.t 8)), none⟩,
  ⟨(some 4), (.mv (.t 9)), none⟩]
def a_ref01_Same : AFunc := ⟨[(.tmp 4)], (.seq (.region q_ref01_Same_0) (.seq (.region q_ref01_Same_1) .ret))⟩

def q_ref01_Zero_0 : List AOper := [
  ⟨(some 2), (.mv (.v (.bool false))), none⟩]
def q_ref01_Zero_1 : List AOper := [
  ⟨(some 3), (.mv (.v (.int .i64 0))), none⟩]
def q_ref01_Zero_2 : List AOper := [
  ⟨(some 4), (.mv (.t 3)), none⟩,
  ⟨(some 5), (.mv (.t 0)), none⟩,
  ⟨(some 6), (.len false (.t 5)), none⟩,
  ⟨(some 7), (.bin .lss (.t 4) (.t 6)), none⟩]
def q_ref01_Zero_3 : List AOper := [
  ⟨(some 10), (.mv (.t 0)), none⟩,
  ⟨(some 11), (.mv (.t 3)), none⟩,
  ⟨(some 12), (.idx 1 (.t 10) (.t 11)), none⟩,
  ⟨(some 13), (.load .sc 1 (.t 12)), none⟩,
  ⟨(some 14), (.bin .gtr (.t 13) (.v (.int .u8 0))), none⟩]
def q_ref01_Zero_4 : List AOper := [
  ⟨(some 2), (.mv (.v (.bool false))), none⟩]
def q_ref01_Zero_5 : List AOper := [
  ⟨(some 8), (.mv (.t 3)), none⟩,
  ⟨(some 9), (.bin .add (.t 8) (.v (.int .i64 1))), none⟩,
  ⟨(some 3), (.mv (.t 9)), none⟩]
def q_ref01_Zero_L6 : ACode := (.seq (.seq (.region q_ref01_Zero_2) (.cond (.t 7) .skip (.exit 0))) (.seq (.block 1 (.seq (.region q_ref01_Zero_3) (.cond (.t 14) (.seq (.region q_ref01_Zero_4) .ret) .skip))) (.region q_ref01_Zero_5)))
def q_ref01_Zero_6 : List AOper := [
  ⟨(some 2), (.mv (.v (.bool true))), none⟩]
def a_ref01_Zero : AFunc := ⟨[(.tmp 2)], (.seq (.region q_ref01_Zero_0) (.seq (.seq (.region q_ref01_Zero_1) (.block 0 (.loop q_ref01_Zero_L6))) (.seq (.region q_ref01_Zero_6) .ret)))⟩


theorem c_word_Get : trF Try.prog Try.f133 = some a_word_Get := by kernel_rfl
theorem g_word_Get : Try.prog.funcs[133]? = some Try.f133 := by kernel_rfl
theorem i_word_Get {args : List AV} {A : Heap} {Ko : AOut → Heap → Prop} (hn : args.length ≤ 22)
    (h : ∀ R : APost, (∀ e env A, fpost a_word_Get.res Ko e env A → R e env A) → X Try.prog R a_word_Get.body .done (env0 args) A) : SimX Try.prog F_word_Get args A Ko :=
  X_intro g_word_Get c_word_Get (by rw [Try.ntmps133]; exact hn) h
theorem v_word_Get {args : List AV} {v : AV} (hn : args.length ≤ 22) (h : X Try.prog (fin a_word_Get.res v) a_word_Get.body .done (env0 args) H0) : Gives Try.prog F_word_Get args v :=
  Gives_intro g_word_Get c_word_Get (by rw [Try.ntmps133]; exact hn) h
theorem e_word_Get {args : List AV} {Q : AOut → Prop} (hn : args.length ≤ 22) (h : X Try.prog (finE a_word_Get.res Q) a_word_Get.body .done (env0 args) H0) : Fins Try.prog F_word_Get args Q :=
  Fins_intro g_word_Get c_word_Get (by rw [Try.ntmps133]; exact hn) h
theorem j_word_Get {args : List AV} {A : Heap} {K Kp : AV → Heap → Prop} (hn : args.length ≤ 22) (h : X Try.prog (inl a_word_Get.res K Kp) a_word_Get.body .done (env0 args) A) : SimX Try.prog F_word_Get args A (outK K Kp) :=
  X_inl g_word_Get c_word_Get (by rw [Try.ntmps133]; exact hn) h
theorem d_word_Get {args : List AV} {A : Heap} {Ko : AOut → Heap → Prop} (hn : args.length ≤ 22)
    (h : ∀ R : APost, (∀ e env A, fpost a_word_Get.res Ko e env A → R e env A) → X Try.prog R a_word_Get.body .done (env0 args) A) : SimD Try.prog F_word_Get args A Ko :=
  X_introD g_word_Get c_word_Get (by rw [Try.ntmps133]; exact hn) h
@[simp] theorem k_word_Get : callable Try.prog F_word_Get = true := by kernel_rfl
theorem c_word_Put : trF Try.prog Try.f96 = some a_word_Put := by kernel_rfl
theorem g_word_Put : Try.prog.funcs[96]? = some Try.f96 := by kernel_rfl
theorem i_word_Put {args : List AV} {A : Heap} {Ko : AOut → Heap → Prop} (hn : args.length ≤ 27)
    (h : ∀ R : APost, (∀ e env A, fpost a_word_Put.res Ko e env A → R e env A) → X Try.prog R a_word_Put.body .done (env0 args) A) : SimX Try.prog F_word_Put args A Ko :=
  X_intro g_word_Put c_word_Put (by rw [Try.ntmps96]; exact hn) h
theorem v_word_Put {args : List AV} {v : AV} (hn : args.length ≤ 27) (h : X Try.prog (fin a_word_Put.res v) a_word_Put.body .done (env0 args) H0) : Gives Try.prog F_word_Put args v :=
  Gives_intro g_word_Put c_word_Put (by rw [Try.ntmps96]; exact hn) h
theorem e_word_Put {args : List AV} {Q : AOut → Prop} (hn : args.length ≤ 27) (h : X Try.prog (finE a_word_Put.res Q) a_word_Put.body .done (env0 args) H0) : Fins Try.prog F_word_Put args Q :=
  Fins_intro g_word_Put c_word_Put (by rw [Try.ntmps96]; exact hn) h
theorem j_word_Put {args : List AV} {A : Heap} {K Kp : AV → Heap → Prop} (hn : args.length ≤ 27) (h : X Try.prog (inl a_word_Put.res K Kp) a_word_Put.body .done (env0 args) A) : SimX Try.prog F_word_Put args A (outK K Kp) :=
  X_inl g_word_Put c_word_Put (by rw [Try.ntmps96]; exact hn) h
theorem d_word_Put {args : List AV} {A : Heap} {Ko : AOut → Heap → Prop} (hn : args.length ≤ 27)
    (h : ∀ R : APost, (∀ e env A, fpost a_word_Put.res Ko e env A → R e env A) → X Try.prog R a_word_Put.body .done (env0 args) A) : SimD Try.prog F_word_Put args A Ko :=
  X_introD g_word_Put c_word_Put (by rw [Try.ntmps96]; exact hn) h
@[simp] theorem k_word_Put : callable Try.prog F_word_Put = true := by kernel_rfl
theorem c_word_Zero : trF Try.prog Try.f98 = some a_word_Zero := by kernel_rfl
theorem g_word_Zero : Try.prog.funcs[98]? = some Try.f98 := by kernel_rfl
theorem i_word_Zero {args : List AV} {A : Heap} {Ko : AOut → Heap → Prop} (hn : args.length ≤ 14)
    (h : ∀ R : APost, (∀ e env A, fpost a_word_Zero.res Ko e env A → R e env A) → X Try.prog R a_word_Zero.body .done (env0 args) A) : SimX Try.prog F_word_Zero args A Ko :=
  X_intro g_word_Zero c_word_Zero (by rw [Try.ntmps98]; exact hn) h
theorem v_word_Zero {args : List AV} {v : AV} (hn : args.length ≤ 14) (h : X Try.prog (fin a_word_Zero.res v) a_word_Zero.body .done (env0 args) H0) : Gives Try.prog F_word_Zero args v :=
  Gives_intro g_word_Zero c_word_Zero (by rw [Try.ntmps98]; exact hn) h
theorem e_word_Zero {args : List AV} {Q : AOut → Prop} (hn : args.length ≤ 14) (h : X Try.prog (finE a_word_Zero.res Q) a_word_Zero.body .done (env0 args) H0) : Fins Try.prog F_word_Zero args Q :=
  Fins_intro g_word_Zero c_word_Zero (by rw [Try.ntmps98]; exact hn) h
theorem j_word_Zero {args : List AV} {A : Heap} {K Kp : AV → Heap → Prop} (hn : args.length ≤ 14) (h : X Try.prog (inl a_word_Zero.res K Kp) a_word_Zero.body .done (env0 args) A) : SimX Try.prog F_word_Zero args A (outK K Kp) :=
  X_inl g_word_Zero c_word_Zero (by rw [Try.ntmps98]; exact hn) h
theorem d_word_Zero {args : List AV} {A : Heap} {Ko : AOut → Heap → Prop} (hn : args.length ≤ 14)
    (h : ∀ R : APost, (∀ e env A, fpost a_word_Zero.res Ko e env A → R e env A) → X Try.prog R a_word_Zero.body .done (env0 args) A) : SimD Try.prog F_word_Zero args A Ko :=
  X_introD g_word_Zero c_word_Zero (by rw [Try.ntmps98]; exact hn) h
@[simp] theorem k_word_Zero : callable Try.prog F_word_Zero = true := by kernel_rfl
theorem c_ref01_Put : trF Try.prog Try.f78 = some a_ref01_Put := by kernel_rfl
theorem g_ref01_Put : Try.prog.funcs[78]? = some Try.f78 := by kernel_rfl
theorem i_ref01_Put {args : List AV} {A : Heap} {Ko : AOut → Heap → Prop} (hn : args.length ≤ 19)
    (h : ∀ R : APost, (∀ e env A, fpost a_ref01_Put.res Ko e env A → R e env A) → X Try.prog R a_ref01_Put.body .done (env0 args) A) : SimX Try.prog F_ref01_Put args A Ko :=
  X_intro g_ref01_Put c_ref01_Put (by rw [Try.ntmps78]; exact hn) h
theorem v_ref01_Put {args : List AV} {v : AV} (hn : args.length ≤ 19) (h : X Try.prog (fin a_ref01_Put.res v) a_ref01_Put.body .done (env0 args) H0) : Gives Try.prog F_ref01_Put args v :=
  Gives_intro g_ref01_Put c_ref01_Put (by rw [Try.ntmps78]; exact hn) h
theorem e_ref01_Put {args : List AV} {Q : AOut → Prop} (hn : args.length ≤ 19) (h : X Try.prog (finE a_ref01_Put.res Q) a_ref01_Put.body .done (env0 args) H0) : Fins Try.prog F_ref01_Put args Q :=
  Fins_intro g_ref01_Put c_ref01_Put (by rw [Try.ntmps78]; exact hn) h
theorem j_ref01_Put {args : List AV} {A : Heap} {K Kp : AV → Heap → Prop} (hn : args.length ≤ 19) (h : X Try.prog (inl a_ref01_Put.res K Kp) a_ref01_Put.body .done (env0 args) A) : SimX Try.prog F_ref01_Put args A (outK K Kp) :=
  X_inl g_ref01_Put c_ref01_Put (by rw [Try.ntmps78]; exact hn) h
theorem d_ref01_Put {args : List AV} {A : Heap} {Ko : AOut → Heap → Prop} (hn : args.length ≤ 19)
    (h : ∀ R : APost, (∀ e env A, fpost a_ref01_Put.res Ko e env A → R e env A) → X Try.prog R a_ref01_Put.body .done (env0 args) A) : SimD Try.prog F_ref01_Put args A Ko :=
  X_introD g_ref01_Put c_ref01_Put (by rw [Try.ntmps78]; exact hn) h
@[simp] theorem k_ref01_Put : callable Try.prog F_ref01_Put = true := by kernel_rfl
theorem c_ref01_Same : trF Try.prog Try.f19 = some a_ref01_Same := by kernel_rfl
theorem g_ref01_Same : Try.prog.funcs[19]? = some Try.f19 := by kernel_rfl
theorem i_ref01_Same {args : List AV} {A : Heap} {Ko : AOut → Heap → Prop} (hn : args.length ≤ 10)
    (h : ∀ R : APost, (∀ e env A, fpost a_ref01_Same.res Ko e env A → R e env A) → X Try.prog R a_ref01_Same.body .done (env0 args) A) : SimX Try.prog F_ref01_Same args A Ko :=
  X_intro g_ref01_Same c_ref01_Same (by rw [Try.ntmps19]; exact hn) h
theorem v_ref01_Same {args : List AV} {v : AV} (hn : args.length ≤ 10) (h : X Try.prog (fin a_ref01_Same.res v) a_ref01_Same.body .done (env0 args) H0) : Gives Try.prog F_ref01_Same args v :=
  Gives_intro g_ref01_Same c_ref01_Same (by rw [Try.ntmps19]; exact hn) h
theorem e_ref01_Same {args : List AV} {Q : AOut → Prop} (hn : args.length ≤ 10) (h : X Try.prog (finE a_ref01_Same.res Q) a_ref01_Same.body .done (env0 args) H0) : Fins Try.prog F_ref01_Same args Q :=
  Fins_intro g_ref01_Same c_ref01_Same (by rw [Try.ntmps19]; exact hn) h
theorem j_ref01_Same {args : List AV} {A : Heap} {K Kp : AV → Heap → Prop} (hn : args.length ≤ 10) (h : X Try.prog (inl a_ref01_Same.res K Kp) a_ref01_Same.body .done (env0 args) A) : SimX Try.prog F_ref01_Same args A (outK K Kp) :=
  X_inl g_ref01_Same c_ref01_Same (by rw [Try.ntmps19]; exact hn) h
theorem d_ref01_Same {args : List AV} {A : Heap} {Ko : AOut → Heap → Prop} (hn : args.length ≤ 10)
    (h : ∀ R : APost, (∀ e env A, fpost a_ref01_Same.res Ko e env A → R e env A) → X Try.prog R a_ref01_Same.body .done (env0 args) A) : SimD Try.prog F_ref01_Same args A Ko :=
  X_introD g_ref01_Same c_ref01_Same (by rw [Try.ntmps19]; exact hn) h
@[simp] theorem k_ref01_Same : callable Try.prog F_ref01_Same = true := by kernel_rfl
theorem c_ref01_Zero : trF Try.prog Try.f99 = some a_ref01_Zero := by kernel_rfl
theorem g_ref01_Zero : Try.prog.funcs[99]? = some Try.f99 := by kernel_rfl
theorem i_ref01_Zero {args : List AV} {A : Heap} {Ko : AOut → Heap → Prop} (hn : args.length ≤ 15)
    (h : ∀ R : APost, (∀ e env A, fpost a_ref01_Zero.res Ko e env A → R e env A) → X Try.prog R a_ref01_Zero.body .done (env0 args) A) : SimX Try.prog F_ref01_Zero args A Ko :=
  X_intro g_ref01_Zero c_ref01_Zero (by rw [Try.ntmps99]; exact hn) h
theorem v_ref01_Zero {args : List AV} {v : AV} (hn : args.length ≤ 15) (h : X Try.prog (fin a_ref01_Zero.res v) a_ref01_Zero.body .done (env0 args) H0) : Gives Try.prog F_ref01_Zero args v :=
  Gives_intro g_ref01_Zero c_ref01_Zero (by rw [Try.ntmps99]; exact hn) h
theorem e_ref01_Zero {args : List AV} {Q : AOut → Prop} (hn : args.length ≤ 15) (h : X Try.prog (finE a_ref01_Zero.res Q) a_ref01_Zero.body .done (env0 args) H0) : Fins Try.prog F_ref01_Zero args Q :=
  Fins_intro g_ref01_Zero c_ref01_Zero (by rw [Try.ntmps99]; exact hn) h
theorem j_ref01_Zero {args : List AV} {A : Heap} {K Kp : AV → Heap → Prop} (hn : args.length ≤ 15) (h : X Try.prog (inl a_ref01_Zero.res K Kp) a_ref01_Zero.body .done (env0 args) A) : SimX Try.prog F_ref01_Zero args A (outK K Kp) :=
  X_inl g_ref01_Zero c_ref01_Zero (by rw [Try.ntmps99]; exact hn) h
theorem d_ref01_Zero {args : List AV} {A : Heap} {Ko : AOut → Heap → Prop} (hn : args.length ≤ 15)
    (h : ∀ R : APost, (∀ e env A, fpost a_ref01_Zero.res Ko e env A → R e env A) → X Try.prog R a_ref01_Zero.body .done (env0 args) A) : SimD Try.prog F_ref01_Zero args A Ko :=
  X_introD g_ref01_Zero c_ref01_Zero (by rw [Try.ntmps99]; exact hn) h
@[simp] theorem k_ref01_Zero : callable Try.prog F_ref01_Zero = true := by kernel_rfl
end Go.Proofs.Ytfdckjliinpjiaa
