/- Numbers: what the operations on whole numbers come to where nothing is lost. -/
import Derived.Test.YtfdckjliinpjiaaVz
import Derived.Laws.Strings
namespace AVL
open Go
set_option linter.unusedVariables false

theorem wrap_u8 {n : Int} (h : 0 ≤ n ∧ n < 256) : IntKind.u8.wrap n = n := by
  simp [IntKind.wrap, IntKind.signed, IntKind.bits]; omega
theorem wrap_u16 {n : Int} (h : 0 ≤ n ∧ n < 65536) : IntKind.u16.wrap n = n := by
  simp [IntKind.wrap, IntKind.signed, IntKind.bits]; omega
theorem wrap_u32 {n : Int} (h : 0 ≤ n ∧ n < 4294967296) : IntKind.u32.wrap n = n := by
  simp [IntKind.wrap, IntKind.signed, IntKind.bits]; omega
theorem wrap_u64 {n : Int} (h : 0 ≤ n ∧ n < 18446744073709551616) : IntKind.u64.wrap n = n := by
  simp [IntKind.wrap, IntKind.signed, IntKind.bits]; omega
theorem wrap_i64 {n : Int} (h : -9223372036854775808 ≤ n ∧ n < 9223372036854775808) : IntKind.i64.wrap n = n := by
  simp [IntKind.wrap, IntKind.signed, IntKind.bits]; omega

theorem wrap_u8m (n : Int) : IntKind.u8.wrap n = n % 256 := by simp [IntKind.wrap, IntKind.signed, IntKind.bits]
theorem wrap_u16m (n : Int) : IntKind.u16.wrap n = n % 65536 := by simp [IntKind.wrap, IntKind.signed, IntKind.bits]
theorem wrap_u32m (n : Int) : IntKind.u32.wrap n = n % 4294967296 := by simp [IntKind.wrap, IntKind.signed, IntKind.bits]
theorem wrap_u64m (n : Int) : IntKind.u64.wrap n = n % 18446744073709551616 := by simp [IntKind.wrap, IntKind.signed, IntKind.bits]
theorem bits_lt {k : IntKind} {n : Nat} (h : n < 2 ^ k.bits) (hs : k.signed = false) : k.wrap (n : Int) = n := by
  cases k <;> simp [IntKind.signed] at hs <;> simp [IntKind.bits] at h <;> simp [IntKind.wrap, IntKind.signed, IntKind.bits] <;> omega
theorem ofInt_nat (n a : Nat) (h : a < 2 ^ n) : (BitVec.ofInt n (a : Int)).toNat = a := by
  simp [Nat.mod_eq_of_lt h]
theorem bXor_nat {k : IntKind} (hs : k.signed = false) {a b : Nat} (ha : a < 2 ^ k.bits) (hb : b < 2 ^ k.bits) : bXor k (a : Int) (b : Int) = ((a ^^^ b : Nat) : Int) := by
  unfold bXor
  rw [BitVec.toNat_xor, ofInt_nat _ _ ha, ofInt_nat _ _ hb]
  exact bits_lt (Nat.xor_lt_two_pow ha hb) hs
theorem bAnd_nat {k : IntKind} (hs : k.signed = false) {a b : Nat} (ha : a < 2 ^ k.bits) (hb : b < 2 ^ k.bits) : bAnd k (a : Int) (b : Int) = ((a &&& b : Nat) : Int) := by
  unfold bAnd
  rw [BitVec.toNat_and, ofInt_nat _ _ ha, ofInt_nat _ _ hb]
  exact bits_lt (Nat.and_lt_two_pow _ hb) hs
theorem bOr_nat {k : IntKind} (hs : k.signed = false) {a b : Nat} (ha : a < 2 ^ k.bits) (hb : b < 2 ^ k.bits) : bOr k (a : Int) (b : Int) = ((a ||| b : Nat) : Int) := by
  unfold bOr
  rw [BitVec.toNat_or, ofInt_nat _ _ ha, ofInt_nat _ _ hb]
  exact bits_lt (Nat.or_lt_two_pow ha hb) hs
theorem shrI_nat {k : IntKind} {a b : Nat} : shrI k (a : Int) (b : Int) = ((a / 2 ^ min b k.bits : Nat) : Int) := by
  unfold shrI
  simp only [Int.toNat_natCast]
  rw [Int.fdiv_eq_ediv_of_nonneg _ (by exact Int.le_of_lt (Int.pow_pos (by decide)))]
  norm_cast
/-! bytes -/
def ints (l : List Nat) : List Int := l.map fun (n : Nat) => (n : Int)
@[simp] theorem ints_length (l : List Nat) : (ints l).length = l.length := by simp [ints]
@[simp] theorem ints_nil : ints [] = [] := rfl
@[simp] theorem ints_getD (l : List Nat) (i : Nat) : (ints l).getD i 0 = ((l.getD i 0 : Nat) : Int) := by
  simp only [ints, List.getD_eq_getElem?_getD, List.getElem?_map]
  cases l[i]? <;> rfl
@[simp] theorem ints_getD' (l : List Nat) (i : Nat) : (ints l)[i]?.getD 0 = ((l[i]?.getD 0 : Nat) : Int) := by
  simp only [ints, List.getElem?_map]
  cases l[i]? <;> rfl
@[simp] theorem ints_get (l : List Nat) (i : Nat) (h : i < (ints l).length) : (ints l)[i] = ((l[i]'(by simpa using h) : Nat) : Int) := by simp [ints]
@[simp] theorem ints_take (l : List Nat) (n : Nat) : (ints l).take n = ints (l.take n) := by simp [ints, List.map_take]
@[simp] theorem ints_drop (l : List Nat) (n : Nat) : (ints l).drop n = ints (l.drop n) := by simp [ints, List.map_drop]
@[simp] theorem ints_append (l m : List Nat) : ints l ++ ints m = ints (l ++ m) := by simp [ints]
@[simp] theorem ints_set (l : List Nat) (i n : Nat) : (ints l).set i (n : Int) = ints (l.set i n) := by simp [ints, List.map_set]
theorem ints_of {zs : List Int} (h : ∀ n ∈ zs, 0 ≤ n) : ints (zs.map Int.toNat) = zs := by
  simp only [ints, List.map_map]
  rw [List.map_congr_left (g := id) (fun n hn => by simp [Int.toNat_of_nonneg (h n hn)])]
  simp

theorem ints_inj {a b : List Nat} (h : ints a = ints b) : a = b := by
  have := congrArg (List.map Int.toNat) h
  simpa [ints, Function.comp_def] using this
theorem eqI_ints {n : Nat} {a b : List Nat} (ha : a.length = n) (hb : b.length = n) : eqI n (ints a) (ints b) = (a == b) := by
  rw [eqI_iff (by simp [ha]) (by simp [hb])]
  by_cases h : a = b
  · subst h; simp
  · have : ints a ≠ ints b := fun e => h (ints_inj e)
    simp [h, this]

theorem bytes_in {zs : List Int} (h : ∀ n ∈ zs, (Lit.int .u8 n).wf = true) : ∃ l : List Nat, zs = ints l ∧ ∀ x ∈ l, x < 256 := by
  have h' : ∀ n ∈ zs, 0 ≤ n ∧ n < 256 := fun n hn => by
    have := h n hn
    simp [Lit.wf, IntKind.min, IntKind.max, IntKind.signed, IntKind.bits] at this
    omega
  refine ⟨zs.map Int.toNat, (ints_of fun n hn => (h' n hn).1).symm, fun x hx => ?_⟩
  obtain ⟨n, hn, rfl⟩ := List.mem_map.1 hx
  have := h' n hn
  omega
theorem u16_in {n : Int} (h : (Lit.int .u16 n).wf = true) : ∃ c : Nat, n = c ∧ c < 65536 := by
  simp [Lit.wf, IntKind.min, IntKind.max, IntKind.signed, IntKind.bits] at h
  exact ⟨n.toNat, by omega, by omega⟩
theorem i64_in {n : Int} (h : (Lit.int .i64 n).wf = true) : -9223372036854775808 ≤ n ∧ n < 9223372036854775808 := by
  simp [Lit.wf, IntKind.min, IntKind.max, IntKind.signed, IntKind.bits] at h
  omega
theorem u8_in {n : Int} (h : (Lit.int .u8 n).wf = true) : ∃ c : Nat, n = c ∧ c < 256 := by
  simp [Lit.wf, IntKind.min, IntKind.max, IntKind.signed, IntKind.bits] at h
  exact ⟨n.toNat, by omega, by omega⟩
theorem u32_in {n : Int} (h : (Lit.int .u32 n).wf = true) : ∃ c : Nat, n = c ∧ c < 4294967296 := by
  simp [Lit.wf, IntKind.min, IntKind.max, IntKind.signed, IntKind.bits] at h
  exact ⟨n.toNat, by omega, by omega⟩

/-! calls that look alone -/
def H0 : Heap := fun _ => none
@[simp] theorem H0_app {g : Nat} : H0 g = none := rfl
@[simp] theorem H0_del {g : Nat} : H0.del g = H0 := by funext x; simp [del_app, H0]
@[simp] theorem H0_sub (A : Heap) : H0.Sub A := fun g c h => by cases h
theorem set_sub {A B : Heap} {g : Nat} {c : Cont} (h : A.Sub B) : (A.set g c).Sub (B.set g c) := fun x y hx => by
  rw [set_app] at hx ⊢
  split at hx
  · rename_i e; rw [if_pos e]; exact hx
  · rename_i e; rw [if_neg e]; exact h x y hx
@[simp] theorem eqS_iff {a b : ByteArray} : (a.toList = b.toList) ↔ a = b := by
  rw [Go.ByteArray.toList_eq, Go.ByteArray.toList_eq]
  exact ⟨fun h => by
    cases a with | mk x => cases b with | mk y => simp only at h; rw [Array.toList_inj.1 h], fun h => by rw [h]⟩
/-- A heap that holds these. -/
theorem sub_set {A B : Heap} {g : Nat} {c : Cont} (h : A.Sub B) (hb : B g = some c) : (A.set g c).Sub B := fun x y hx => by
  rw [set_app] at hx
  split at hx
  · rename_i e; subst e; rw [hb]; exact hx
  · exact h x y hx
theorem join_H0 (A : Heap) : A.join H0 = A := by funext g; simp only [Heap.join]; cases A g <;> rfl
theorem join_set (A : Heap) {g : Nat} {c : Cont} (h : A g = none) : A.join (H0.set g c) = A.set g c := by
  funext x
  simp only [Heap.join, Heap.set]
  by_cases e : x = g
  · subst e; simp [h]
  · simp only [if_neg e]; cases A x <;> rfl
/-- f, given these, returns v, and leaves nothing behind. -/
def Gives (P : Program) (f : FuncId) (args : List AV) (v : AV) : Prop := SimX P f args H0 fun o A' => o = .ret v ∧ A' = H0
/-- f, given these, returns a new row. -/
def Makes (P : Program) (f : FuncId) (args : List AV) (n : Nat) (c : Cont) : Prop := SimX P f args H0 fun o A' => ∃ g, o = .ret (.own g 0 n) ∧ A' = H0.set g c
/-- What a function is to end in: this value, and nothing is left behind. -/
def fin (res : List ARes) (v : AV) : APost := fpost res fun o A' => o = .ret v ∧ A' = H0
@[simp] theorem fin_ret {res : List ARes} {v : AV} {env : AEnv} {A : Heap} : fin res v .ret env A = aress env A res fun vs => outOf vs = v := by
  have : ∀ vs : List AV, (∃ B : Heap, B.Sub A ∧ AOut.ret (outOf vs) = .ret v ∧ B = H0) = (outOf vs = v) := fun vs => by
    apply propext
    exact ⟨fun ⟨_, _, h, _⟩ => by injection h, fun h => ⟨H0, H0_sub A, by rw [h], rfl⟩⟩
  simp only [fin, fpost, this]
@[simp] theorem fin_normal {res : List ARes} {v : AV} {env : AEnv} {A : Heap} : fin res v .normal env A = aress env A res fun vs => outOf vs = v :=
  (show fin res v .normal env A = fin res v .ret env A from rfl).trans fin_ret
theorem Gives_intro {P : Program} {f : FuncId} {fn : Func} {af : AFunc} {args : List AV} {v : AV} (hf : P.funcs[f]? = some fn) (ht : trF P fn = some af) (hn : args.length ≤ fn.ntmps)
    (h : X P (fin af.res v) af.body .done (env0 args) H0) : Gives P f args v := sim_of hf ht hn h
theorem Gives.sim {P : Program} {f : FuncId} {args : List AV} {v : AV} (h : Gives P f args v) : SimX P f args (fun _ => none) fun o _ => o = .ret v :=
  SimX.mono h fun _ _ h => h.1
section
variable {P : Program} {A : Heap} {K Kp : AV → Heap → Prop}
theorem Gives.call {f : FuncId} {args args' : List AV} {v : AV} (h : Gives P f args' v) (hv : VwL A args args') (hn : v.noF = true) (hk : K v A) : SimX P f args A (outK K Kp) :=
  SimX.view h hv (fun o B ⟨h1, h2⟩ => by subst h1; subst h2; exact ⟨hn, fun g c hc => by cases hc⟩)
    (fun o B ⟨h1, h2⟩ _ => by subst h1; subst h2; rw [join_H0]; exact hk)
theorem Makes.call {f : FuncId} {args args' : List AV} {n : Nat} {c : Cont} (h : Makes P f args' n c) (hv : VwL A args args') (hn : c.noF = true) (hk : ∀ g, A g = none → K (.own g 0 n) (A.set g c)) : SimX P f args A (outK K Kp) :=
  SimX.view h hv (fun o B ⟨g, h1, h2⟩ => by
      subst h1; subst h2
      refine ⟨rfl, fun g' c' hc => ?_⟩
      rw [set_app] at hc
      split at hc
      · injection hc with hc; subst hc; exact hn
      · cases hc)
    (fun o B ⟨g, h1, h2⟩ hd => by
      subst h1; subst h2
      have := hd g c (by simp)
      rw [join_set A this]
      exact hk g this)
/-- f, given these, ends so, and leaves nothing behind. -/
def Fins (P : Program) (f : FuncId) (args : List AV) (Q : AOut → Prop) : Prop := SimX P f args H0 fun o A' => Q o ∧ A' = H0
theorem Fins.call {f : FuncId} {args args' : List AV} {Q : AOut → Prop} (h : Fins P f args' Q) (hv : VwL A args args') (hn : ∀ o, Q o → o.noF = true) (hk : ∀ o, Q o → outK K Kp o A) : SimX P f args A (outK K Kp) :=
  SimX.view h hv (fun o B ⟨h1, h2⟩ => by subst h2; exact ⟨hn o h1, fun g c hc => by cases hc⟩)
    (fun o B ⟨h1, h2⟩ _ => by subst h2; rw [join_H0]; exact hk o h1)
theorem Fins.mono {f : FuncId} {args : List AV} {Q Q' : AOut → Prop} (h : Fins P f args Q) (hq : ∀ o, Q o → Q' o) : Fins P f args Q' := SimX.mono h fun o _ h => ⟨hq o h.1, h.2⟩
/-- What a function is to end in: so, and nothing is left behind. -/
def finE (res : List ARes) (Q : AOut → Prop) : APost := fpost res fun o A' => Q o ∧ A' = H0
@[simp] theorem finE_ret {res : List ARes} {Q : AOut → Prop} {env : AEnv} : finE res Q .ret env A = aress env A res fun vs => Q (.ret (outOf vs)) := by
  have : ∀ vs : List AV, (∃ B : Heap, B.Sub A ∧ Q (.ret (outOf vs)) ∧ B = H0) = Q (.ret (outOf vs)) := fun vs => by
    apply propext
    exact ⟨fun ⟨_, _, h, _⟩ => h, fun h => ⟨H0, H0_sub A, h, rfl⟩⟩
  simp only [finE, fpost, this]
@[simp] theorem finE_normal {res : List ARes} {Q : AOut → Prop} {env : AEnv} : finE res Q .normal env A = aress env A res fun vs => Q (.ret (outOf vs)) :=
  (show finE res Q .normal env A = finE res Q .ret env A from rfl).trans finE_ret
@[simp] theorem finE_pan {res : List ARes} {Q : AOut → Prop} {env : AEnv} {v : AV} : finE res Q (.pan v) env A = Q (.pan v) := by
  apply propext
  exact ⟨fun ⟨_, _, h, _⟩ => h, fun h => ⟨H0, H0_sub A, h, rfl⟩⟩
theorem Fins_intro {f : FuncId} {fn : Func} {af : AFunc} {args : List AV} {Q : AOut → Prop} (hf : P.funcs[f]? = some fn) (ht : trF P fn = some af) (hn : args.length ≤ fn.ntmps)
    (h : X P (finE af.res Q) af.body .done (env0 args) H0) : Fins P f args Q := sim_of hf ht hn h
end
end AVL
