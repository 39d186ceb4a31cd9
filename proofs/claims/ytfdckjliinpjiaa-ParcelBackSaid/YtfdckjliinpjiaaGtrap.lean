/- Abstract programs; that they are the program's. -/
import Derived.Test.YtfdckjliinpjiaaFn
namespace Go.Proofs.Ytfdckjliinpjiaa
open Go AVL
set_option linter.unusedVariables false
set_option maxRecDepth 20000

def q_trap_Try_byte_0 : List AOper := [
  ⟨(some 1), (.box 100 .sc (.t 0)), none⟩,
  ⟨(some 2), (.alloc 22 [.nilS]), none⟩,
  ⟨(some 3), (.mv (.v (.int .i64 0))), none⟩]
def q_trap_Try_byte_1 : List AOper := [
  ⟨(some 5), (.load .sc 1 (.t 1)), none⟩,
  ⟨(some 6), (.xx (.p (.isNil .fn false)) [(.t 5)]), none⟩]
def q_trap_Try_byte_2 : List AOper := [
  ⟨(some 7), (.load .sc 1 (.t 2)), none⟩,
  ⟨none, (.store .sc 1 (.t 2) (.t 7)), none⟩,
  ⟨(some 3), (.mv (.v (.int .i64 1))), none⟩]
def q_trap_Try_byte_3 : List AOper := [
  ⟨(some 8), (.xx (.p (.mkF (.func F_trap_Try_byte_1) 0)) [(.t 1), (.t 2)]), none⟩,
  ⟨(some 9), (.call F_trap_Catch [(.sc, (.t 8))]), none⟩,
  ⟨(some 3), (.mv (.t 9)), none⟩]
def q_trap_Try_byte_4 : List AOper := [
  ⟨(some 10), (.mv (.t 3)), none⟩,
  ⟨(some 11), (.eq .scI true (.t 10) (.v (.int .i64 0))), none⟩]
def q_trap_Try_byte_5 : List AOper := [
  ⟨(some 4), (.mv (.v .nilS)), none⟩]
def q_trap_Try_byte_6 : List AOper := [
  ⟨(some 12), (.mv (.t 4)), none⟩,
  ⟨(some 13), (.mv (.t 3)), none⟩,
  ⟨none, (.store .sc 1 (.t 2) (.t 12)), none⟩,
  ⟨(some 3), (.mv (.t 13)), none⟩]
def q_trap_Try_byte_7 : List AOper := [
  ⟨(some 14), (.load .sc 1 (.t 2)), none⟩,
  ⟨none, (.store .sc 1 (.t 2) (.t 14)), none⟩,
  ⟨(some 3), (.mv (.v (.int .i64 0))), none⟩]
def a_trap_Try_byte : AFunc := ⟨[(.cell 2 .sc 1), (.tmp 3)], (.seq (.region q_trap_Try_byte_0) (.seq (.seq (.region q_trap_Try_byte_1) (.cond (.t 6) (.seq (.region q_trap_Try_byte_2) .ret) .skip)) (.seq (.region q_trap_Try_byte_3) (.seq (.seq (.region q_trap_Try_byte_4) (.cond (.t 11) (.seq (.region q_trap_Try_byte_5) (.seq (.region q_trap_Try_byte_6) .ret)) .skip)) (.seq (.region q_trap_Try_byte_7) .ret)))))⟩

def q_trap_Try_api_Request_0 : List AOper := [
  ⟨(some 1), (.box 109 .sc (.t 0)), none⟩,
  ⟨(some 2), (.alloc 26 [(.int .i64 0), (.str ⟨#[]⟩), (.str ⟨#[]⟩), (.str ⟨#[]⟩), (.int .i64 0), (.bool false), (.bool false), .nilS, (.iarr .u8 32 (List.replicate 32 0)), .nilS]), none⟩,
  ⟨(some 3), (.mv (.v (.int .i64 0))), none⟩]
def q_trap_Try_api_Request_1 : List AOper := [
  ⟨(some 5), (.load .sc 1 (.t 1)), none⟩,
  ⟨(some 6), (.xx (.p (.isNil .fn false)) [(.t 5)]), none⟩]
def q_trap_Try_api_Request_2 : List AOper := [
  ⟨(some 7), (.load .ag 41 (.t 2)), none⟩,
  ⟨none, (.store .ag 41 (.t 2) (.t 7)), none⟩,
  ⟨(some 3), (.mv (.v (.int .i64 1))), none⟩]
def q_trap_Try_api_Request_3 : List AOper := [
  ⟨(some 8), (.xx (.p (.mkF (.func F_trap_Try_api_Request_1) 0)) [(.t 1), (.t 2)]), none⟩,
  ⟨(some 9), (.call F_trap_Catch [(.sc, (.t 8))]), none⟩,
  ⟨(some 3), (.mv (.t 9)), none⟩]
def q_trap_Try_api_Request_4 : List AOper := [
  ⟨(some 10), (.mv (.t 3)), none⟩,
  ⟨(some 11), (.eq .scI true (.t 10) (.v (.int .i64 0))), none⟩]
def q_trap_Try_api_Request_5 : List AOper := [
  ⟨(some 4), (.alloc 26 [(.int .i64 0), (.str ⟨#[]⟩), (.str ⟨#[]⟩), (.str ⟨#[]⟩), (.int .i64 0), (.bool false), (.bool false), .nilS, (.iarr .u8 32 (List.replicate 32 0)), .nilS]), none⟩]
def q_trap_Try_api_Request_6 : List AOper := [
  ⟨(some 12), (.load .ag 41 (.t 4)), none⟩,
  ⟨(some 13), (.mv (.t 3)), none⟩,
  ⟨none, (.store .ag 41 (.t 2) (.t 12)), none⟩,
  ⟨(some 3), (.mv (.t 13)), none⟩]
def q_trap_Try_api_Request_7 : List AOper := [
  ⟨(some 14), (.load .ag 41 (.t 2)), none⟩,
  ⟨none, (.store .ag 41 (.t 2) (.t 14)), none⟩,
  ⟨(some 3), (.mv (.v (.int .i64 0))), none⟩]
def a_trap_Try_api_Request : AFunc := ⟨[(.cell 2 .ag 41), (.tmp 3)], (.seq (.region q_trap_Try_api_Request_0) (.seq (.seq (.region q_trap_Try_api_Request_1) (.cond (.t 6) (.seq (.region q_trap_Try_api_Request_2) .ret) .skip)) (.seq (.region q_trap_Try_api_Request_3) (.seq (.seq (.region q_trap_Try_api_Request_4) (.cond (.t 11) (.seq (.region q_trap_Try_api_Request_5) (.seq (.region q_trap_Try_api_Request_6) .ret)) .skip)) (.seq (.region q_trap_Try_api_Request_7) .ret)))))⟩

-- NOT: function 113
def q_trap_Try_byte_1_0 : List AOper := [
  ⟨(some 2), (.load .sc 1 (.t 0)), none⟩,
  ⟨(some 3), (.callV (.t 2) []), none⟩,
  ⟨none, (.store .sc 1 (.t 1) (.t 3)), none⟩]
def a_trap_Try_byte_1 : AFunc := ⟨[], (.region q_trap_Try_byte_1_0)⟩

def q_trap_Throw_0 : List AOper := [
  ⟨(some 2), (.mv (.t 0)), none⟩,
  ⟨(some 3), (.build .ag [(.int .i64 0)] [(0, (1, (.t 2)))]), none⟩,
  ⟨(some 4), (.xx (.p (.ifc 161)) [(.t 3)]), none⟩,
  ⟨none, (.pnc (.t 4)), none⟩]
def a_trap_Throw : AFunc := ⟨[], (.region q_trap_Throw_0)⟩

def q_trap_Try_api_Request_1_0 : List AOper := [
  ⟨(some 2), (.load .sc 1 (.t 0)), none⟩,
  ⟨(some 3), (.callV (.t 2) []), none⟩,
  ⟨none, (.store .ag 41 (.t 1) (.t 3)), none⟩]
def a_trap_Try_api_Request_1 : AFunc := ⟨[], (.region q_trap_Try_api_Request_1_0)⟩

-- NOT: function 131
def q_trap_caught_0 : List AOper := [
  ⟨(some 2), (.mv (.v (.int .i64 0))), none⟩]
def q_trap_caught_1 : List AOper := [
  ⟨(some 5), (.mv (.t 0)), none⟩]
def q_trap_caught_2 : List AOper := [
  ⟨(some 6), (.xx (.p (.isNil .ifc false)) [(.t 5)]), none⟩]
def q_trap_caught_3 : List AOper := [
  ⟨(some 3), (.mv (.t 5)), none⟩]
def q_trap_caught_4 : List AOper := [
  ⟨(some 2), (.mv (.v (.int .i64 0))), none⟩]
def q_trap_caught_5 : List AOper := [
  ⟨(some 7), (.xx (.p (.asrt 161 (.agg [(.int .i64 0)]))) [(.t 5)]), none⟩,
  ⟨(some 8), (.ext 1 (.t 7)), none⟩,
  ⟨(some 9), (.ext 0 (.t 7)), none⟩]
def q_trap_caught_6 : List AOper := [
  ⟨(some 4), (.alloc 161 [(.int .i64 0)]), none⟩,
  ⟨none, (.store .ag 1 (.t 4) (.t 9)), none⟩]
def q_trap_caught_7 : List AOper := [
  ⟨(some 10), (.fadr 0 1 .sc (.t 4)), none⟩,
  ⟨(some 11), (.load .sc 1 (.t 10)), none⟩,
  ⟨(some 2), (.mv (.t 11)), none⟩]
def q_trap_caught_8 : List AOper := [
  ⟨(some 2), (.mv (.v (.int .i64 17))), none⟩]
def a_trap_caught : AFunc := ⟨[(.tmp 2)], (.seq (.region q_trap_caught_0) (.seq (.seq (.region q_trap_caught_1) (.block 0 (.seq (.region q_trap_caught_2) (.cond (.t 6) (.seq (.region q_trap_caught_3) (.seq (.region q_trap_caught_4) .ret)) (.seq (.region q_trap_caught_5) (.cond (.t 8) (.seq (.region q_trap_caught_6) (.seq (.region q_trap_caught_7) .ret)) .skip)))))) (.seq (.region q_trap_caught_8) .ret)))⟩


theorem c_trap_Try_byte : trF Try.prog Try.f74 = some a_trap_Try_byte := by kernel_rfl
theorem g_trap_Try_byte : Try.prog.funcs[74]? = some Try.f74 := by kernel_rfl
theorem i_trap_Try_byte {args : List AV} {A : Heap} {Ko : AOut → Heap → Prop} (hn : args.length ≤ 15)
    (h : ∀ R : APost, (∀ e env A, fpost a_trap_Try_byte.res Ko e env A → R e env A) → X Try.prog R a_trap_Try_byte.body .done (env0 args) A) : SimX Try.prog F_trap_Try_byte args A Ko :=
  X_intro g_trap_Try_byte c_trap_Try_byte (by rw [Try.ntmps74]; exact hn) h
theorem v_trap_Try_byte {args : List AV} {v : AV} (hn : args.length ≤ 15) (h : X Try.prog (fin a_trap_Try_byte.res v) a_trap_Try_byte.body .done (env0 args) H0) : Gives Try.prog F_trap_Try_byte args v :=
  Gives_intro g_trap_Try_byte c_trap_Try_byte (by rw [Try.ntmps74]; exact hn) h
theorem e_trap_Try_byte {args : List AV} {Q : AOut → Prop} (hn : args.length ≤ 15) (h : X Try.prog (finE a_trap_Try_byte.res Q) a_trap_Try_byte.body .done (env0 args) H0) : Fins Try.prog F_trap_Try_byte args Q :=
  Fins_intro g_trap_Try_byte c_trap_Try_byte (by rw [Try.ntmps74]; exact hn) h
theorem j_trap_Try_byte {args : List AV} {A : Heap} {K Kp : AV → Heap → Prop} (hn : args.length ≤ 15) (h : X Try.prog (inl a_trap_Try_byte.res K Kp) a_trap_Try_byte.body .done (env0 args) A) : SimX Try.prog F_trap_Try_byte args A (outK K Kp) :=
  X_inl g_trap_Try_byte c_trap_Try_byte (by rw [Try.ntmps74]; exact hn) h
theorem d_trap_Try_byte {args : List AV} {A : Heap} {Ko : AOut → Heap → Prop} (hn : args.length ≤ 15)
    (h : ∀ R : APost, (∀ e env A, fpost a_trap_Try_byte.res Ko e env A → R e env A) → X Try.prog R a_trap_Try_byte.body .done (env0 args) A) : SimD Try.prog F_trap_Try_byte args A Ko :=
  X_introD g_trap_Try_byte c_trap_Try_byte (by rw [Try.ntmps74]; exact hn) h
@[simp] theorem k_trap_Try_byte : callable Try.prog F_trap_Try_byte = true := by kernel_rfl
theorem c_trap_Try_api_Request : trF Try.prog Try.f80 = some a_trap_Try_api_Request := by kernel_rfl
theorem g_trap_Try_api_Request : Try.prog.funcs[80]? = some Try.f80 := by kernel_rfl
theorem i_trap_Try_api_Request {args : List AV} {A : Heap} {Ko : AOut → Heap → Prop} (hn : args.length ≤ 15)
    (h : ∀ R : APost, (∀ e env A, fpost a_trap_Try_api_Request.res Ko e env A → R e env A) → X Try.prog R a_trap_Try_api_Request.body .done (env0 args) A) : SimX Try.prog F_trap_Try_api_Request args A Ko :=
  X_intro g_trap_Try_api_Request c_trap_Try_api_Request (by rw [Try.ntmps80]; exact hn) h
theorem v_trap_Try_api_Request {args : List AV} {v : AV} (hn : args.length ≤ 15) (h : X Try.prog (fin a_trap_Try_api_Request.res v) a_trap_Try_api_Request.body .done (env0 args) H0) : Gives Try.prog F_trap_Try_api_Request args v :=
  Gives_intro g_trap_Try_api_Request c_trap_Try_api_Request (by rw [Try.ntmps80]; exact hn) h
theorem e_trap_Try_api_Request {args : List AV} {Q : AOut → Prop} (hn : args.length ≤ 15) (h : X Try.prog (finE a_trap_Try_api_Request.res Q) a_trap_Try_api_Request.body .done (env0 args) H0) : Fins Try.prog F_trap_Try_api_Request args Q :=
  Fins_intro g_trap_Try_api_Request c_trap_Try_api_Request (by rw [Try.ntmps80]; exact hn) h
theorem j_trap_Try_api_Request {args : List AV} {A : Heap} {K Kp : AV → Heap → Prop} (hn : args.length ≤ 15) (h : X Try.prog (inl a_trap_Try_api_Request.res K Kp) a_trap_Try_api_Request.body .done (env0 args) A) : SimX Try.prog F_trap_Try_api_Request args A (outK K Kp) :=
  X_inl g_trap_Try_api_Request c_trap_Try_api_Request (by rw [Try.ntmps80]; exact hn) h
theorem d_trap_Try_api_Request {args : List AV} {A : Heap} {Ko : AOut → Heap → Prop} (hn : args.length ≤ 15)
    (h : ∀ R : APost, (∀ e env A, fpost a_trap_Try_api_Request.res Ko e env A → R e env A) → X Try.prog R a_trap_Try_api_Request.body .done (env0 args) A) : SimD Try.prog F_trap_Try_api_Request args A Ko :=
  X_introD g_trap_Try_api_Request c_trap_Try_api_Request (by rw [Try.ntmps80]; exact hn) h
@[simp] theorem k_trap_Try_api_Request : callable Try.prog F_trap_Try_api_Request = true := by kernel_rfl
theorem c_trap_Try_byte_1 : trF Try.prog Try.f114 = some a_trap_Try_byte_1 := by kernel_rfl
theorem g_trap_Try_byte_1 : Try.prog.funcs[114]? = some Try.f114 := by kernel_rfl
theorem i_trap_Try_byte_1 {args : List AV} {A : Heap} {Ko : AOut → Heap → Prop} (hn : args.length ≤ 4)
    (h : ∀ R : APost, (∀ e env A, fpost a_trap_Try_byte_1.res Ko e env A → R e env A) → X Try.prog R a_trap_Try_byte_1.body .done (env0 args) A) : SimX Try.prog F_trap_Try_byte_1 args A Ko :=
  X_intro g_trap_Try_byte_1 c_trap_Try_byte_1 (by rw [Try.ntmps114]; exact hn) h
theorem v_trap_Try_byte_1 {args : List AV} {v : AV} (hn : args.length ≤ 4) (h : X Try.prog (fin a_trap_Try_byte_1.res v) a_trap_Try_byte_1.body .done (env0 args) H0) : Gives Try.prog F_trap_Try_byte_1 args v :=
  Gives_intro g_trap_Try_byte_1 c_trap_Try_byte_1 (by rw [Try.ntmps114]; exact hn) h
theorem e_trap_Try_byte_1 {args : List AV} {Q : AOut → Prop} (hn : args.length ≤ 4) (h : X Try.prog (finE a_trap_Try_byte_1.res Q) a_trap_Try_byte_1.body .done (env0 args) H0) : Fins Try.prog F_trap_Try_byte_1 args Q :=
  Fins_intro g_trap_Try_byte_1 c_trap_Try_byte_1 (by rw [Try.ntmps114]; exact hn) h
theorem j_trap_Try_byte_1 {args : List AV} {A : Heap} {K Kp : AV → Heap → Prop} (hn : args.length ≤ 4) (h : X Try.prog (inl a_trap_Try_byte_1.res K Kp) a_trap_Try_byte_1.body .done (env0 args) A) : SimX Try.prog F_trap_Try_byte_1 args A (outK K Kp) :=
  X_inl g_trap_Try_byte_1 c_trap_Try_byte_1 (by rw [Try.ntmps114]; exact hn) h
theorem d_trap_Try_byte_1 {args : List AV} {A : Heap} {Ko : AOut → Heap → Prop} (hn : args.length ≤ 4)
    (h : ∀ R : APost, (∀ e env A, fpost a_trap_Try_byte_1.res Ko e env A → R e env A) → X Try.prog R a_trap_Try_byte_1.body .done (env0 args) A) : SimD Try.prog F_trap_Try_byte_1 args A Ko :=
  X_introD g_trap_Try_byte_1 c_trap_Try_byte_1 (by rw [Try.ntmps114]; exact hn) h
@[simp] theorem k_trap_Try_byte_1 : callable Try.prog F_trap_Try_byte_1 = true := by kernel_rfl
theorem c_trap_Throw : trF Try.prog Try.f117 = some a_trap_Throw := by kernel_rfl
theorem g_trap_Throw : Try.prog.funcs[117]? = some Try.f117 := by kernel_rfl
theorem i_trap_Throw {args : List AV} {A : Heap} {Ko : AOut → Heap → Prop} (hn : args.length ≤ 5)
    (h : ∀ R : APost, (∀ e env A, fpost a_trap_Throw.res Ko e env A → R e env A) → X Try.prog R a_trap_Throw.body .done (env0 args) A) : SimX Try.prog F_trap_Throw args A Ko :=
  X_intro g_trap_Throw c_trap_Throw (by rw [Try.ntmps117]; exact hn) h
theorem v_trap_Throw {args : List AV} {v : AV} (hn : args.length ≤ 5) (h : X Try.prog (fin a_trap_Throw.res v) a_trap_Throw.body .done (env0 args) H0) : Gives Try.prog F_trap_Throw args v :=
  Gives_intro g_trap_Throw c_trap_Throw (by rw [Try.ntmps117]; exact hn) h
theorem e_trap_Throw {args : List AV} {Q : AOut → Prop} (hn : args.length ≤ 5) (h : X Try.prog (finE a_trap_Throw.res Q) a_trap_Throw.body .done (env0 args) H0) : Fins Try.prog F_trap_Throw args Q :=
  Fins_intro g_trap_Throw c_trap_Throw (by rw [Try.ntmps117]; exact hn) h
theorem j_trap_Throw {args : List AV} {A : Heap} {K Kp : AV → Heap → Prop} (hn : args.length ≤ 5) (h : X Try.prog (inl a_trap_Throw.res K Kp) a_trap_Throw.body .done (env0 args) A) : SimX Try.prog F_trap_Throw args A (outK K Kp) :=
  X_inl g_trap_Throw c_trap_Throw (by rw [Try.ntmps117]; exact hn) h
theorem d_trap_Throw {args : List AV} {A : Heap} {Ko : AOut → Heap → Prop} (hn : args.length ≤ 5)
    (h : ∀ R : APost, (∀ e env A, fpost a_trap_Throw.res Ko e env A → R e env A) → X Try.prog R a_trap_Throw.body .done (env0 args) A) : SimD Try.prog F_trap_Throw args A Ko :=
  X_introD g_trap_Throw c_trap_Throw (by rw [Try.ntmps117]; exact hn) h
@[simp] theorem k_trap_Throw : callable Try.prog F_trap_Throw = true := by kernel_rfl
theorem c_trap_Try_api_Request_1 : trF Try.prog Try.f118 = some a_trap_Try_api_Request_1 := by kernel_rfl
theorem g_trap_Try_api_Request_1 : Try.prog.funcs[118]? = some Try.f118 := by kernel_rfl
theorem i_trap_Try_api_Request_1 {args : List AV} {A : Heap} {Ko : AOut → Heap → Prop} (hn : args.length ≤ 4)
    (h : ∀ R : APost, (∀ e env A, fpost a_trap_Try_api_Request_1.res Ko e env A → R e env A) → X Try.prog R a_trap_Try_api_Request_1.body .done (env0 args) A) : SimX Try.prog F_trap_Try_api_Request_1 args A Ko :=
  X_intro g_trap_Try_api_Request_1 c_trap_Try_api_Request_1 (by rw [Try.ntmps118]; exact hn) h
theorem v_trap_Try_api_Request_1 {args : List AV} {v : AV} (hn : args.length ≤ 4) (h : X Try.prog (fin a_trap_Try_api_Request_1.res v) a_trap_Try_api_Request_1.body .done (env0 args) H0) : Gives Try.prog F_trap_Try_api_Request_1 args v :=
  Gives_intro g_trap_Try_api_Request_1 c_trap_Try_api_Request_1 (by rw [Try.ntmps118]; exact hn) h
theorem e_trap_Try_api_Request_1 {args : List AV} {Q : AOut → Prop} (hn : args.length ≤ 4) (h : X Try.prog (finE a_trap_Try_api_Request_1.res Q) a_trap_Try_api_Request_1.body .done (env0 args) H0) : Fins Try.prog F_trap_Try_api_Request_1 args Q :=
  Fins_intro g_trap_Try_api_Request_1 c_trap_Try_api_Request_1 (by rw [Try.ntmps118]; exact hn) h
theorem j_trap_Try_api_Request_1 {args : List AV} {A : Heap} {K Kp : AV → Heap → Prop} (hn : args.length ≤ 4) (h : X Try.prog (inl a_trap_Try_api_Request_1.res K Kp) a_trap_Try_api_Request_1.body .done (env0 args) A) : SimX Try.prog F_trap_Try_api_Request_1 args A (outK K Kp) :=
  X_inl g_trap_Try_api_Request_1 c_trap_Try_api_Request_1 (by rw [Try.ntmps118]; exact hn) h
theorem d_trap_Try_api_Request_1 {args : List AV} {A : Heap} {Ko : AOut → Heap → Prop} (hn : args.length ≤ 4)
    (h : ∀ R : APost, (∀ e env A, fpost a_trap_Try_api_Request_1.res Ko e env A → R e env A) → X Try.prog R a_trap_Try_api_Request_1.body .done (env0 args) A) : SimD Try.prog F_trap_Try_api_Request_1 args A Ko :=
  X_introD g_trap_Try_api_Request_1 c_trap_Try_api_Request_1 (by rw [Try.ntmps118]; exact hn) h
@[simp] theorem k_trap_Try_api_Request_1 : callable Try.prog F_trap_Try_api_Request_1 = true := by kernel_rfl
theorem c_trap_caught : trF Try.prog Try.f132 = some a_trap_caught := by kernel_rfl
theorem g_trap_caught : Try.prog.funcs[132]? = some Try.f132 := by kernel_rfl
theorem i_trap_caught {args : List AV} {A : Heap} {Ko : AOut → Heap → Prop} (hn : args.length ≤ 12)
    (h : ∀ R : APost, (∀ e env A, fpost a_trap_caught.res Ko e env A → R e env A) → X Try.prog R a_trap_caught.body .done (env0 args) A) : SimX Try.prog F_trap_caught args A Ko :=
  X_intro g_trap_caught c_trap_caught (by rw [Try.ntmps132]; exact hn) h
theorem v_trap_caught {args : List AV} {v : AV} (hn : args.length ≤ 12) (h : X Try.prog (fin a_trap_caught.res v) a_trap_caught.body .done (env0 args) H0) : Gives Try.prog F_trap_caught args v :=
  Gives_intro g_trap_caught c_trap_caught (by rw [Try.ntmps132]; exact hn) h
theorem e_trap_caught {args : List AV} {Q : AOut → Prop} (hn : args.length ≤ 12) (h : X Try.prog (finE a_trap_caught.res Q) a_trap_caught.body .done (env0 args) H0) : Fins Try.prog F_trap_caught args Q :=
  Fins_intro g_trap_caught c_trap_caught (by rw [Try.ntmps132]; exact hn) h
theorem j_trap_caught {args : List AV} {A : Heap} {K Kp : AV → Heap → Prop} (hn : args.length ≤ 12) (h : X Try.prog (inl a_trap_caught.res K Kp) a_trap_caught.body .done (env0 args) A) : SimX Try.prog F_trap_caught args A (outK K Kp) :=
  X_inl g_trap_caught c_trap_caught (by rw [Try.ntmps132]; exact hn) h
theorem d_trap_caught {args : List AV} {A : Heap} {Ko : AOut → Heap → Prop} (hn : args.length ≤ 12)
    (h : ∀ R : APost, (∀ e env A, fpost a_trap_caught.res Ko e env A → R e env A) → X Try.prog R a_trap_caught.body .done (env0 args) A) : SimD Try.prog F_trap_caught args A Ko :=
  X_introD g_trap_caught c_trap_caught (by rw [Try.ntmps132]; exact hn) h
@[simp] theorem k_trap_caught : callable Try.prog F_trap_caught = true := by kernel_rfl
theorem g_trap_Catch : Try.prog.funcs[113]? = some Try.f113 := by kernel_rfl
@[simp] theorem k_trap_Catch : callable Try.prog F_trap_Catch = true := by kernel_rfl
theorem n_trap_Catch : Try.f113.ntmps = 8 := Try.ntmps113
theorem g_trap_Catch_1 : Try.prog.funcs[131]? = some Try.f131 := by kernel_rfl
@[simp] theorem k_trap_Catch_1 : callable Try.prog F_trap_Catch_1 = true := by kernel_rfl
theorem n_trap_Catch_1 : Try.f131.ntmps = 3 := Try.ntmps131
end Go.Proofs.Ytfdckjliinpjiaa
