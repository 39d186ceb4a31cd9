/- Texts of this claim, in order: Bc Bd Be Bf Bg Bi Bj Bk Bl Bm Bn Bo Bp Bq Br Bs Bt Bu Bw Bv Bx By Bz Bza. -/
import Derived.Test.YtilgdnbijkcboaaTf1
import Derived.Test.YtilgdnbijkcboaaL4
/- Entries, and a table's, as values. -/
namespace Go.Proofs.Ytilgdnbijkcboaa
open Go AVL
set_option linter.unusedVariables false
set_option linter.unusedSimpArgs false
set_option maxRecDepth 8000

/-- An entry. -/
structure En where
  addr : List Nat
  slot : Int
  count : Int
  hb : byts addr
  h32 : addr.length = 32
  s1 : -9223372036854775808 ≤ slot
  s2 : slot < 9223372036854775808
  c1 : -9223372036854775808 ≤ count
  c2 : count < 9223372036854775808
def enA (e : En) : AV := .agg [.iarr .u8 32 (ints e.addr), .int .i64 e.slot, .int .i64 e.count]
def z32 : List Nat := List.replicate 32 0
theorem z32_byts : byts z32 := fun x hx => by
  obtain ⟨_, rfl⟩ := List.mem_replicate.1 hx; decide
def enZ : En := ⟨z32, 0, 0, z32_byts, rfl, by decide, by decide, by decide, by decide⟩
theorem En.ext {e f : En} (h1 : e.addr = f.addr) (h2 : e.slot = f.slot) (h3 : e.count = f.count) : e = f := by
  cases e; cases f; simp at h1 h2 h3; subst h1; subst h2; subst h3; rfl
/-- The place, of so many, at which an address is at home. -/
def hmN (n : Nat) (a : List Nat) : Nat := homN (a.take 6) % n
theorem homV_eq {n : Nat} (hn : 0 < n) (a : List Nat) : homV a (n : Int) = ((hmN n a : Nat) : Int) := by
  unfold homV hmN
  rw [if_neg (by omega), Int.ofNat_tmod]
/-- Tables of n + 1 places. -/
def tS (n : Nat) : TS En (List Nat) where
  n := n + 1
  key := En.addr
  hm := hmN (n + 1)
  lt := lessL
  emp := fun e => decide (e.count = 0)
  z := enZ
  z_emp := rfl
  hm_lt := fun k => Nat.mod_lt _ (by omega)
  irr := fun a => by rw [lessL_lt]; simp [List.lt_irrefl]
  tr := fun a b c h1 h2 => by
    rw [lessL_lt, decide_eq_true_eq] at *
    exact List.lt_trans h1 h2
  tot := fun a b => by
    rw [lessL_lt, lessL_lt, decide_eq_true_eq, decide_eq_true_eq]
    by_cases h1 : a < b
    · exact .inr (.inl h1)
    · by_cases h2 : b < a
      · exact .inr (.inr h2)
      · exact .inl (List.le_antisymm h2 h1)
/-- A table, seen: its places, how many entries it has. -/
def tabV (L : List En) (k : Int) : AV := .pval (.agg [.dsl 34 (L.map enA), .int .i64 k])
theorem tab_vw {A : Heap} {t h : Nat} {ty te : TypeId} {L : List En} {k : Int} (ht : A t = some (.var ty [.own h 0 L.length, .int .i64 k])) (hh : A h = some (.row te 34 (L.map enA))) : Vw A (.ptr t 0) (tabV L k) := by
  refine .ptr ht (.cons ?_ (.cons (.refl _) .nil))
  have hv := Vw.ownR (i := 0) (n := L.length) hh (by simp) (l' := L.map enA) (by
    rw [List.drop_zero, List.take_of_length_le (by simp)]
    generalize L.map enA = l
    induction l with
    | nil => exact .nil
    | cons x r ih => exact .cons (.refl _) ih)
  exact hv
theorem tS_fn {n : Nat} {L : List En} {i : Nat} (h : i < L.length) : (tS n).fn L i = L[i] := TS.fn_get h
theorem far_eq {n : Nat} {x : En} {p : Nat} (hp : p < n + 1) : (((p : Int) - (hmN (n + 1) x.addr : Nat) + ((n + 1 : Nat) : Int)).tmod ((n + 1 : Nat) : Int)) = ((tS n).far x p : Nat) := by
  have hh : hmN (n + 1) x.addr < n + 1 := Nat.mod_lt _ (by omega)
  have e1 : (p : Int) - (hmN (n + 1) x.addr : Nat) + ((n + 1 : Nat) : Int) = ((p + (n + 1) - hmN (n + 1) x.addr : Nat) : Int) := by omega
  rw [e1, ← Int.ofNat_tmod]
  congr 1
  show _ = if hmN (n + 1) x.addr ≤ p then p - hmN (n + 1) x.addr else p + (n + 1) - hmN (n + 1) x.addr
  split
  · rw [show p + (n + 1) - hmN (n + 1) x.addr = (p - hmN (n + 1) x.addr) + (n + 1) by omega, Nat.add_mod_right, Nat.mod_eq_of_lt (by omega)]
  · rw [Nat.mod_eq_of_lt (by omega)]
theorem nxt_eq {n : Nat} {p : Nat} (hp : p < n + 1) : ((p : Int) + 1).tmod ((n + 1 : Nat) : Int) = ((tS n).nxt p : Nat) := by
  have e1 : (p : Int) + 1 = ((p + 1 : Nat) : Int) := by omega
  rw [e1, ← Int.ofNat_tmod]
  congr 1
  show _ = if p + 1 < n + 1 then p + 1 else 0
  split
  · rw [Nat.mod_eq_of_lt (by omega)]
  · rw [show p + 1 = n + 1 by omega, Nat.mod_self]
section
variable {n : Nat} {L : List En} {k : Int}
theorem w_table_far (hL : L.length = n + 1) (hn : n < 2 ^ 40) {a : Nat} (ha : a < n + 1) : Gives Try.prog F_Ptable_Table_far [tabV L k, .int .i64 a] (.int .i64 ((tS n).far ((tS n).fn L a) a : Nat)) := by
  refine v_Ptable_Table_far (by simp) ?_
  have hal : a < L.length := by omega
  have hi : (a : Int) < L.length := by omega
  have e1 := far_eq (x := L[a]) ha
  have hh : hmN (n + 1) L[a].addr < n + 1 := Nat.mod_lt _ (by omega)
  have hm := homV_eq (n := n + 1) (by omega) L[a].addr
  obtain ⟨q, hq⟩ : ∃ q, q = hmN (n + 1) L[a].addr := ⟨_, rfl⟩
  obtain ⟨r, hr⟩ : ∃ r, r = (tS n).far L[a] a := ⟨_, rfl⟩
  have hrl : r < n + 1 := by rw [hr]; exact TS.far_lt ha
  rw [tS_fn hal, ← hr]
  rw [← hr, ← hq, ← hL] at e1
  rw [← hq, ← hL] at hm
  rw [← hq, ← hL] at hh
  have hm2 : homV L[a].addr (L.length : Int) = (q : Int) := hm
  have hw1 : IntKind.i64.wrap ((a : Int) - (q : Int)) = (a : Int) - (q : Int) := wrap_i64 (by omega)
  have hw2 : IntKind.i64.wrap ((a : Int) - (q : Int) + (L.length : Int)) = (a : Int) - (q : Int) + (L.length : Int) := wrap_i64 (by omega)
  have hw3 : IntKind.i64.wrap (r : Int) = (r : Int) := wrap_i64 (by omega)
  have hne : ¬ (L.length : Int) = 0 := by omega
  have hd := w_digest_Home L[a].hb L[a].h32 (o := (L.length : Int)) (by omega) (by omega)
  rw [hm2] at hd
  clear hm hm2 hr hq
  simp -implicitDefEqProofs [a_Ptable_Table_far, q_Ptable_Table_far_0, q_Ptable_Table_far_1, tabV, hal, hi, enA]
  refine hd.call (.cons (.refl _) rfl (.cons (.refl _) rfl .nil)) rfl ?_
  simp -implicitDefEqProofs [hw1, hw2, hw3, e1, hne]
  intro h
  subst h
  simp at hal
theorem w_table_yields (hL : L.length = n + 1) (hn : n < 2 ^ 40) {a d : Nat} {b : List Nat} (ha : a < n + 1) (hd : d < 2 ^ 41) (hb : b.length = 32) :
    Gives Try.prog F_Ptable_Table_yields [tabV L k, .int .i64 a, .iarr .u8 32 (ints b), .int .i64 d] (.bool (decide ((tS n).far ((tS n).fn L a) a < d ∨ ((tS n).far ((tS n).fn L a) a = d ∧ lessL b ((tS n).fn L a).addr = true)))) := by
  refine v_Ptable_Table_yields (by simp) ?_
  have hal : a < L.length := by omega
  have hi : (a : Int) < L.length := by omega
  have hf := w_table_far (k := k) hL hn ha
  rw [tS_fn hal] at hf ⊢
  obtain ⟨r, hr⟩ : ∃ r, r = (tS n).far L[a] a := ⟨_, rfl⟩
  have hl := w_digest_Less hb L[a].h32
  obtain ⟨s, hs⟩ : ∃ s, s = lessL b L[a].addr := ⟨_, rfl⟩
  rw [← hr] at hf ⊢
  rw [← hs] at hl ⊢
  clear hr hs
  simp -implicitDefEqProofs [a_Ptable_Table_yields, q_Ptable_Table_yields_0, q_Ptable_Table_yields_1, hb]
  intro g
  refine hf.call (.cons (.refl _) rfl (.cons (.refl _) rfl .nil)) rfl ?_
  by_cases h1 : r < d
  · have h1' : (r : Int) < d := by omega
    simp -implicitDefEqProofs [q_Ptable_Table_yields_2, h1, h1']
  · have h1' : ¬ (r : Int) < d := by omega
    by_cases h2 : r = d
    · have h2' : (r : Int) = d := by omega
      simp -implicitDefEqProofs [q_Ptable_Table_yields_2, h1, h1', h2, h2', hb, tabV, hal, hi, enA]
      refine hl.call (.cons (.refl _) rfl (.cons (.refl _) rfl .nil)) rfl ?_
      simp -implicitDefEqProofs
    · have h2' : ¬ (r : Int) = d := by omega
      simp -implicitDefEqProofs [q_Ptable_Table_yields_2, h1, h1', h2, h2']
end
end Go.Proofs.Ytilgdnbijkcboaa

/- A table is looked into. -/
namespace Go.Proofs.Ytilgdnbijkcboaa
open Go AVL
set_option linter.unusedVariables false
set_option linter.unusedSimpArgs false
set_option maxRecDepth 8000

theorem TS.pl_nxt' {α κ : Type} {S : TS α κ} {x : α} {k : Nat} (h : k < S.n) : S.nxt (S.pl x k) = S.pl x (k + 1) := by
  have := S.hm_lt (S.key x); unfold TS.pl TS.nxt; (repeat' split) <;> omega
/-- Where an address stands. -/
def FindV (n : Nat) (L : List En) (b : List Nat) (v : Int) : Prop :=
  (∃ i : Nat, v = i ∧ i < n + 1 ∧ ((tS n).fn L i).count ≠ 0 ∧ ((tS n).fn L i).addr = b) ∨ (v = -1 ∧ ∀ i, i < n + 1 → ((tS n).fn L i).count ≠ 0 → ((tS n).fn L i).addr ≠ b)
theorem findV_ex (n : Nat) (L : List En) (b : List Nat) : ∃ v, FindV n L b v := by
  by_cases h : ∃ i : Nat, i < n + 1 ∧ ((tS n).fn L i).count ≠ 0 ∧ ((tS n).fn L i).addr = b
  · obtain ⟨i, h⟩ := h
    exact ⟨i, .inl ⟨i, rfl, h⟩⟩
  · exact ⟨-1, .inr ⟨rfl, fun i hi hc hb => h ⟨i, hi, hc, hb⟩⟩⟩
structure FdI (n : Nat) (L : List En) (k : Int) (x : En) (g3 : Nat) (d : Nat) (env : AEnv) (B : Heap) : Prop where
  le : d ≤ n + 1
  fi : TS.Fi (S := tS n) ((tS n).fn L) x d
  e0 : env 0 = tabV L k
  e3 : env 3 = .ptr g3 0
  e5 : env 5 = .int .i64 ((tS n).pl x d : Nat)
  e19 : env 19 = .int .i64 L.length
  e20 : env 20 = .int .i64 d
  f3 : B g3 = some (.var T_32_uint8 [.iarr .u8 32 (ints x.addr)])
theorem eqA_ints {a b : List Nat} : ints a = ints b ↔ a = b := by
  constructor
  · intro h
    have := congrArg (List.map Int.toNat) h
    simpa [ints, List.map_map, Function.comp_def] using this
  · rintro rfl; rfl
theorem eqA {a b : List Nat} (ha : a.length = 32) (hb : b.length = 32) : eqI 32 (ints a) (ints b) = decide (a = b) := by
  rw [eqI_iff (by simpa using ha) (by simpa using hb)]
  exact decide_eq_decide.2 eqA_ints
section
variable {n : Nat} {L r : List En} {k : Int}
theorem w_table_find (hT : (tS n).Tab L r) (hn : n < 2 ^ 40) (x : En) {v : Int} (hv : FindV n L x.addr v) : Gives Try.prog F_Ptable_Table_find [tabV L k, .iarr .u8 32 (ints x.addr)] (.int .i64 v) := by
  have hL : L.length = n + 1 := hT.len
  have habs : ∀ d, TS.Fi (S := tS n) ((tS n).fn L) x d → d ≤ n + 1 → (d = n + 1 ∨ (tS n).emp ((tS n).fn L ((tS n).pl x d)) = true ∨ ((tS n).key ((tS n).fn L ((tS n).pl x d)) ≠ (tS n).key x ∧ (tS n).beats x ((tS n).fn L ((tS n).pl x d)) ((tS n).pl x d))) → v = -1 := by
    intro d hd hl hc
    have ha := TS.Fi.absent hT.ok hd hl hc
    rcases hv with ⟨i, rfl, hi, h1, h2⟩ | ⟨rfl, _⟩
    · exact absurd h2 (ha i hi (decide_eq_false h1))
    · rfl
  refine v_Ptable_Table_find (by simp) ?_
  have hx32 := x.h32
  obtain ⟨q, hq⟩ : ∃ q, q = hmN (n + 1) x.addr := ⟨_, rfl⟩
  have hm := homV_eq (n := n + 1) (by omega) x.addr
  have hd := w_digest_Home x.hb x.h32 (o := (L.length : Int)) (by omega) (by omega)
  rw [← hq, ← hL] at hm
  rw [hm] at hd
  simp -implicitDefEqProofs [a_Ptable_Table_find, q_Ptable_Table_find_0, q_Ptable_Table_find_1, hx32, tabV]
  intro g3
  refine hd.call (.cons (.refl _) rfl (.cons (.refl _) rfl .nil)) rfl ?_
  simp -implicitDefEqProofs [q_Ptable_Table_find_2]
  refine X_lp (FdI n L k x g3) (fun d => n + 1 - d) 0
    ⟨by omega, .zero, by simp [tabV], by simp, by simp [TS.pl_zero, hq]; rfl, by simp, by simp, by simp⟩ ?_
  rintro d env B ⟨hdl, hfi, e0, e3, e5, e19, e20, f3⟩
  unfold tabV at e0
  simp -implicitDefEqProofs [q_Ptable_Table_find_L14, q_Ptable_Table_find_3, e19, e20]
  refine ⟨fun hlt => ?_, fun hge => ?_⟩
  · have hdn : d < n + 1 := by omega
    obtain ⟨p, hp⟩ : ∃ p, p = (tS n).pl x d := ⟨_, rfl⟩
    have hpn : p < n + 1 := by rw [hp]; exact TS.pl_lt hdn
    have hpl : p < L.length := by omega
    have hpi : (p : Int) < L.length := by omega
    have hfar : (tS n).far x p = d := by rw [hp]; exact TS.far_pl hdn
    have hnx := TS.pl_nxt' (S := tS n) (x := x) (k := d) hdn
    rw [← hp] at e5 hnx
    have hfn : (tS n).fn L p = L[p] := tS_fn hpl
    have habs' := habs d hfi hdl
    rw [← hp, hfn] at habs'
    have hy := w_table_yields (k := k) hL hn (a := p) (d := d) hpn (by omega) x.h32
    rw [hfn] at hy
    have hc32 := L[p].h32
    obtain ⟨a1, ha1⟩ : ∃ a, a = L[p].addr := ⟨_, rfl⟩
    obtain ⟨s1, hs1⟩ : ∃ s, s = L[p].slot := ⟨_, rfl⟩
    obtain ⟨c1, hc1⟩ : ∃ c, c = L[p].count := ⟨_, rfl⟩
    have hE : enA L[p] = .agg [.iarr .u8 32 (ints a1), .int .i64 s1, .int .i64 c1] := by rw [ha1, hs1, hc1]; rfl
    obtain ⟨r6, h6⟩ : ∃ r, r = q_Ptable_Table_find_6 := ⟨_, rfl⟩; rw [← h6]
    simp -implicitDefEqProofs [q_Ptable_Table_find_4, q_Ptable_Table_find_5, e0, e5, e20, hpl, hpi]
    rw [hE]
    simp -implicitDefEqProofs
    intro g hg
    have hne : ¬ g3 = g := fun e => by subst e; rw [f3] at hg; cases hg
    simp -implicitDefEqProofs [h6, q_Ptable_Table_find_6]
    have hA : a1.length = 32 := by rw [ha1]; exact L[p].h32
    refine ⟨fun hc0 => ?_, fun hc0 => ?_⟩
    · have := habs' (.inr (.inl (decide_eq_true (by rw [← hc1]; exact hc0))))
      simp -implicitDefEqProofs [q_Ptable_Table_find_7, a_Ptable_Table_find, outOf, this]
    · simp -implicitDefEqProofs [q_Ptable_Table_find_8, e3, f3, hne, eqA hA hx32]
      refine ⟨fun hax => ?_, fun hax => ?_⟩
      · have : v = p := by
          rcases hv with ⟨i, rfl, hi, h1, h2⟩ | ⟨rfl, h⟩
          · have := hT.dist i p hi hpn (decide_eq_false h1) (by rw [hfn]; exact decide_eq_false (by rw [← hc1]; exact hc0)) (by
              show ((tS n).fn L i).addr = ((tS n).fn L p).addr
              rw [h2, hfn, ← ha1, hax])
            omega
          · exact absurd (show ((tS n).fn L p).addr = x.addr by rw [hfn, ← ha1, hax]) (h p hpn (by rw [hfn, ← hc1]; exact hc0))
        simp -implicitDefEqProofs [q_Ptable_Table_find_9, e5, a_Ptable_Table_find, outOf, this]
      · simp -implicitDefEqProofs [q_Ptable_Table_find_10, e0, e3, e5, f3, hne]
        have hk1 : ((tS n).key L[p]) ≠ (tS n).key x := fun e => hax (by rw [ha1]; exact e)
        unfold tabV at hy
        refine hy.call (.cons (.refl _) rfl (.cons (.refl _) rfl (.cons (.refl _) rfl (.cons (.refl _) rfl .nil)))) rfl ?_
        by_cases hP : (tS n).far L[p] p < d ∨ ((tS n).far L[p] p = d ∧ lessL x.addr L[p].addr = true)
        · have hb : (tS n).beats x L[p] p := by unfold TS.beats; rw [hfar]; exact hP
          have := habs' (.inr (.inr ⟨hk1, hb⟩))
          rw [decide_eq_true hP]
          simp -implicitDefEqProofs [q_Ptable_Table_find_11, a_Ptable_Table_find, outOf, this]
        · have hb : ¬ (tS n).beats x L[p] p := by unfold TS.beats; rw [hfar]; exact hP
          rw [decide_eq_false hP]
          have hfi' := hfi.next (by rw [← hp, hfn]; exact decide_eq_false (by rw [← hc1]; exact hc0)) (by rw [← hp, hfn]; exact hk1) (by rw [← hp, hfn]; exact hb)
          have hw1 : IntKind.i64.wrap ((p : Int) + 1) = (p : Int) + 1 := wrap_i64 (by omega)
          have hw2 : IntKind.i64.wrap ((d : Int) + 1) = (d : Int) + 1 := wrap_i64 (by omega)
          have e2 := nxt_eq hpn
          rw [hnx, ← hL] at e2
          have hpn1 := TS.pl_lt (S := tS n) (x := x) (d := d)
          obtain ⟨p1, hp1⟩ : ∃ p1, p1 = (tS n).pl x (d + 1) := ⟨_, rfl⟩
          have hp1l : p1 < n + 1 := by rw [hp1, ← hnx]; exact TS.nxt_lt hpn
          rw [← hp1] at e2
          have hw3 : IntKind.i64.wrap (p1 : Int) = (p1 : Int) := wrap_i64 (by omega)
          have hne0 : ¬ L = [] := fun e => by rw [e] at hL; simp at hL
          have hne1 : ¬ (L.length : Int) = 0 := by omega
          obtain ⟨r13, h13⟩ : ∃ r, r = q_Ptable_Table_find_13 := ⟨_, rfl⟩; rw [← h13]
          simp -implicitDefEqProofs [q_Ptable_Table_find_12, e0, e5, hw1, e2, hw3, hne0, hne1]
          simp -implicitDefEqProofs [h13, q_Ptable_Table_find_13, e20, hw2]
          exact lp_next (d + 1) ⟨by omega, hfi', by simp [e0, tabV], by simp [e3], by simp [hp1], by simp [e19], by simp, by simp [f3, hne]⟩ (by omega)
  · have := habs d hfi hdl (.inl (by omega))
    simp -implicitDefEqProofs [q_Ptable_Table_find_14, a_Ptable_Table_find, outOf, this]
end
end Go.Proofs.Ytilgdnbijkcboaa

/- A table is asked. -/
namespace Go.Proofs.Ytilgdnbijkcboaa
open Go AVL
set_option linter.unusedVariables false
set_option linter.unusedSimpArgs false
set_option maxRecDepth 8000

theorem w_table_Len (L : List En) (k : Int) : Gives Try.prog F_Ptable_Table_Len [tabV L k] (.int .i64 k) := by
  refine v_Ptable_Table_Len (by simp) ?_
  simp -implicitDefEqProofs [a_Ptable_Table_Len, q_Ptable_Table_Len_0, q_Ptable_Table_Len_1, tabV, outOf]
theorem w_table_Size (L : List En) (k : Int) : Gives Try.prog F_Ptable_Table_Size [tabV L k] (.int .i64 L.length) := by
  refine v_Ptable_Table_Size (by simp) ?_
  simp -implicitDefEqProofs [a_Ptable_Table_Size, q_Ptable_Table_Size_0, q_Ptable_Table_Size_1, tabV, outOf]
theorem sub_H0 (A : Heap) : H0.Sub A := fun g c h => by cases h
theorem en_sts : ∀ L : List En, AV.sts (L.map enA) = true
  | [] => rfl
  | e :: L => by simp only [List.map_cons, AV.sts, en_sts L, Bool.and_true]; rfl
theorem w_table_Places (L : List En) (k : Int) (hl : L.length < 2 ^ 40) : MakesR Try.prog F_Ptable_Table_Places [tabV L k] T_api_Entry 34 (L.map enA) := by
  refine MakesR.of (j_Ptable_Table_Places (by simp) ?_)
  simp -implicitDefEqProofs [a_Ptable_Table_Places, q_Ptable_Table_Places_0, q_Ptable_Table_Places_1, tabV]
  intro g
  refine ⟨en_sts L, by omega, fun g' h1 h2 => ⟨sub_H0 _, .inr ⟨g', by simp, rfl, set_eq'⟩⟩⟩
/-- The entry of an address, if there is one. -/
def GetV (n : Nat) (L : List En) (b : List Nat) (e : En) (is : Bool) : Prop :=
  (is = true ∧ ∃ i : Nat, i < n + 1 ∧ (tS n).fn L i = e ∧ e.count ≠ 0 ∧ e.addr = b) ∨ (is = false ∧ e = enZ ∧ ∀ i, i < n + 1 → ((tS n).fn L i).count ≠ 0 → ((tS n).fn L i).addr ≠ b)
section
variable {n : Nat} {L r : List En} {k : Int}
theorem w_table_Get (hT : (tS n).Tab L r) (hn : n < 2 ^ 40) (x : En) {e : En} {is : Bool} (hv : GetV n L x.addr e is) : Gives Try.prog F_Ptable_Table_Get [tabV L k, .iarr .u8 32 (ints x.addr)] (.tuple [enA e, .bool is]) := by
  refine v_Ptable_Table_Get (by simp) ?_
  have hL : L.length = n + 1 := hT.len
  have hx32 := x.h32
  simp -implicitDefEqProofs [-List.reduceReplicate, a_Ptable_Table_Get, q_Ptable_Table_Get_0, q_Ptable_Table_Get_1, hx32]
  intro g3 g4 n1 n2
  simp -implicitDefEqProofs [-List.reduceReplicate, n1, n2, hx32]
  rcases hv with ⟨rfl, i, hi, he, hc, hb⟩ | ⟨rfl, rfl, ha⟩
  · refine (w_table_find (k := k) hT hn x (v := i) (.inl ⟨i, rfl, hi, by rw [he]; exact hc, by rw [he]; exact hb⟩)).call (.cons (.refl _) rfl (.cons (.refl _) rfl .nil)) rfl ?_
    have hal : i < L.length := by omega
    have hii : (i : Int) < L.length := by omega
    rw [tS_fn hal] at he
    have hE : enA L[i] = .agg [.iarr .u8 32 (ints e.addr), .int .i64 e.slot, .int .i64 e.count] := by rw [he]; rfl
    have hn0 : ¬ (i : Int) < 0 := by omega
    simp -implicitDefEqProofs [-List.reduceReplicate, q_Ptable_Table_Get_2, hn0]
    simp -implicitDefEqProofs [-List.reduceReplicate, q_Ptable_Table_Get_4, tabV, hal, hii]
    rw [hE]
    simp -implicitDefEqProofs [-List.reduceReplicate, n1, n2, outOf, enA]
  · refine (w_table_find (k := k) hT hn x (v := -1) (.inr ⟨rfl, ha⟩)).call (.cons (.refl _) rfl (.cons (.refl _) rfl .nil)) rfl ?_
    simp -implicitDefEqProofs [-List.reduceReplicate, q_Ptable_Table_Get_2, q_Ptable_Table_Get_3, n1, n2, outOf, enA, enZ, z32]
    simp [ints]
end
/-- The first entry of a slot. -/
def sltL (L : List En) (s : Int) : Option En := L.find? fun e => decide (0 < e.count ∧ e.slot = s)
structure SltI (L : List En) (k s : Int) (g4 : Nat) (j : Nat) (env : AEnv) (B : Heap) : Prop where
  le : j ≤ L.length
  no : sltL L s = sltL (L.drop j) s
  e1 : env 1 = .int .i64 s
  e4 : env 4 = .ptr g4 0
  e11 : env 11 = .dsl 34 (L.map enA)
  e12 : env 12 = .int .i64 L.length
  e13 : env 13 = .int .i64 j
  f4 : B g4 = some (.var T_api_Entry [.iarr .u8 32 (List.replicate 32 0), .int .i64 0, .int .i64 0])
theorem w_table_Slot (L : List En) (k s : Int) (hl : L.length < 2 ^ 40) : Gives Try.prog F_Ptable_Table_Slot [tabV L k, .int .i64 s] (.tuple [enA ((sltL L s).getD enZ), .bool (sltL L s).isSome]) := by
  refine v_Ptable_Table_Slot (by simp) ?_
  simp -implicitDefEqProofs [-List.reduceReplicate, a_Ptable_Table_Slot, q_Ptable_Table_Slot_0, q_Ptable_Table_Slot_1, tabV]
  intro g4
  refine X_lp (SltI L k s g4) (fun j => L.length - j) 0 ⟨by omega, by simp, by simp, by simp, by simp, by simp, by simp, by simp⟩ ?_
  rintro j env B ⟨hj, hno, e1, e4, e11, e12, e13, f4⟩
  simp -implicitDefEqProofs [q_Ptable_Table_Slot_L7, q_Ptable_Table_Slot_2, e12, e13]
  refine ⟨fun hlt => ?_, fun hge => ?_⟩
  · have hji : (j : Int) < L.length := by omega
    have hw : IntKind.i64.wrap ((j : Int) + 1) = (j : Int) + 1 := wrap_i64 (by omega)
    rw [List.drop_eq_getElem_cons hlt] at hno
    obtain ⟨e, he⟩ : ∃ e, e = L[j] := ⟨_, rfl⟩
    rw [← he] at hno
    have hE : enA L[j] = .agg [.iarr .u8 32 (ints e.addr), .int .i64 e.slot, .int .i64 e.count] := by rw [he]; rfl
    have h32 := e.h32
    obtain ⟨r4, h4⟩ : ∃ r, r = q_Ptable_Table_Slot_4 := ⟨_, rfl⟩; rw [← h4]
    simp -implicitDefEqProofs [-List.reduceReplicate, q_Ptable_Table_Slot_3, e11, e13, hlt, hji]
    rw [hE]
    simp -implicitDefEqProofs [-List.reduceReplicate]
    intro g hg
    have hne : ¬ g4 = g := fun e => by subst e; rw [f4] at hg; cases hg
    by_cases hc : 0 < e.count
    · by_cases hs : e.slot = s
      · have hfd : sltL L s = some e := by rw [hno]; simp [sltL, hc, hs]
        simp -implicitDefEqProofs [-List.reduceReplicate, h4, q_Ptable_Table_Slot_4, q_Ptable_Table_Slot_5, hc, hs, e1, e4, f4, hne, a_Ptable_Table_Slot, outOf, hfd, enA]
      · have hfd : sltL L s = sltL (L.drop (j + 1)) s := by rw [hno]; simp [sltL, hc, hs]
        obtain ⟨r6, h6⟩ : ∃ r, r = q_Ptable_Table_Slot_6 := ⟨_, rfl⟩; rw [← h6]
        simp -implicitDefEqProofs [-List.reduceReplicate, h4, q_Ptable_Table_Slot_4, hc, hs, e1, e4, f4, hne]
        simp -implicitDefEqProofs [h6, q_Ptable_Table_Slot_6, e13, hw]
        exact lp_next (j + 1) ⟨by omega, hfd, by simp [e1], by simp [e4], by simp [e11], by simp [e12], by simp, by simp [f4, hne]⟩ (by omega)
    · have hfd : sltL L s = sltL (L.drop (j + 1)) s := by rw [hno]; simp [sltL, hc]
      obtain ⟨r6, h6⟩ : ∃ r, r = q_Ptable_Table_Slot_6 := ⟨_, rfl⟩; rw [← h6]
      simp -implicitDefEqProofs [-List.reduceReplicate, h4, q_Ptable_Table_Slot_4, hc, e1, e4, f4, hne]
      simp -implicitDefEqProofs [h6, q_Ptable_Table_Slot_6, e13, hw]
      exact lp_next (j + 1) ⟨by omega, hfd, by simp [e1], by simp [e4], by simp [e11], by simp [e12], by simp, by simp [f4, hne]⟩ (by omega)
  · have hfd : sltL L s = none := by rw [hno, List.drop_of_length_le (by omega)]; rfl
    simp -implicitDefEqProofs [-List.reduceReplicate, q_Ptable_Table_Slot_7, e4, f4, a_Ptable_Table_Slot, outOf, hfd, enA, enZ, z32]
    simp [ints]
/-- The farthest. -/
def lngL (n : Nat) (L : List En) (j : Nat) : Nat := (List.range j).foldl (fun m i => if 0 < ((tS n).fn L i).count then max m ((tS n).far ((tS n).fn L i) i) else m) 0
theorem lngL_succ (n : Nat) (L : List En) (j : Nat) : lngL n L (j + 1) = if 0 < ((tS n).fn L j).count then max (lngL n L j) ((tS n).far ((tS n).fn L j) j) else lngL n L j := by
  unfold lngL; rw [List.range_succ, List.foldl_append]; rfl
theorem lngL_lt (n : Nat) (L : List En) : ∀ j, j ≤ n + 1 → lngL n L j < n + 1
  | 0, _ => by simp [lngL]
  | j + 1, h => by
    have h1 := lngL_lt n L j (by omega)
    have h2 := TS.far_lt (S := tS n) (x := (tS n).fn L j) (p := j) (show j < n + 1 by omega)
    have h3 : (tS n).n = n + 1 := rfl
    rw [lngL_succ]
    split
    · rw [Nat.max_def]; split <;> omega
    · exact h1
structure LngI (n : Nat) (L : List En) (k : Int) (j : Nat) (env : AEnv) (B : Heap) : Prop where
  le : j ≤ L.length
  e0 : env 0 = tabV L k
  e3 : env 3 = .int .i64 (lngL n L j : Nat)
  e9 : env 9 = .dsl 34 (L.map enA)
  e10 : env 10 = .int .i64 L.length
  e11 : env 11 = .int .i64 j
theorem w_table_Longest {n : Nat} {L : List En} {k : Int} (hL : L.length = n + 1) (hn : n < 2 ^ 40) : Gives Try.prog F_Ptable_Table_Longest [tabV L k] (.int .i64 (lngL n L (n + 1) : Nat)) := by
  refine v_Ptable_Table_Longest (by simp) ?_
  simp -implicitDefEqProofs [a_Ptable_Table_Longest, q_Ptable_Table_Longest_0, q_Ptable_Table_Longest_1, q_Ptable_Table_Longest_2, tabV]
  refine X_lp (LngI n L k) (fun j => L.length - j) 0 ⟨by omega, by simp [tabV], by simp [lngL], by simp, by simp, by simp⟩ ?_
  rintro j env B ⟨hj, e0, e3, e9, e10, e11⟩
  simp -implicitDefEqProofs [q_Ptable_Table_Longest_L8, q_Ptable_Table_Longest_3, e10, e11]
  refine ⟨fun hlt => ?_, fun hge => ?_⟩
  · have hji : (j : Int) < L.length := by omega
    have hw : IntKind.i64.wrap ((j : Int) + 1) = (j : Int) + 1 := wrap_i64 (by omega)
    obtain ⟨e, he⟩ : ∃ e, e = L[j] := ⟨_, rfl⟩
    have hE : enA L[j] = .agg [.iarr .u8 32 (ints e.addr), .int .i64 e.slot, .int .i64 e.count] := by rw [he]; rfl
    have h32 := e.h32
    have hs := lngL_succ n L j
    rw [tS_fn hlt, ← he] at hs
    have hb := lngL_lt n L j (by omega)
    have hfr := w_table_far (k := k) hL hn (a := j) (by omega)
    rw [tS_fn hlt, ← he] at hfr
    obtain ⟨f, hf⟩ : ∃ f, f = (tS n).far e j := ⟨_, rfl⟩
    rw [← hf] at hs hfr
    obtain ⟨m, hm⟩ : ∃ m, m = lngL n L j := ⟨_, rfl⟩
    rw [← hm] at hs e3
    obtain ⟨r5, h5⟩ : ∃ r, r = q_Ptable_Table_Longest_5 := ⟨_, rfl⟩; rw [← h5]
    simp -implicitDefEqProofs [-List.reduceReplicate, q_Ptable_Table_Longest_4, e9, e11, hlt, hji]
    rw [hE]
    simp -implicitDefEqProofs [-List.reduceReplicate]
    intro g hg
    obtain ⟨r7, h7⟩ : ∃ r, r = q_Ptable_Table_Longest_7 := ⟨_, rfl⟩; rw [← h7]
    by_cases hc : 0 < e.count
    · rw [if_pos hc] at hs
      simp -implicitDefEqProofs [-List.reduceReplicate, h5, q_Ptable_Table_Longest_5, q_Ptable_Table_Longest_6, hc, e0, e3]
      refine hfr.call (.cons (.refl _) rfl (.cons (.refl _) rfl .nil)) rfl ?_
      have hx : (if (f : Int) > (m : Int) then (f : Int) else (m : Int)) = ((max m f : Nat) : Int) := by rw [Nat.max_def]; split <;> split <;> omega
      simp -implicitDefEqProofs [h7, q_Ptable_Table_Longest_7, e11, hw]
      exact lp_next (j + 1) ⟨by omega, by simp [e0], by simp [hs]; omega, by simp [e9], by simp [e10], by simp⟩ (by omega)
    · rw [if_neg hc] at hs
      simp -implicitDefEqProofs [-List.reduceReplicate, h5, q_Ptable_Table_Longest_5, hc]
      simp -implicitDefEqProofs [h7, q_Ptable_Table_Longest_7, e11, hw]
      exact lp_next (j + 1) ⟨by omega, by simp [e0], by simp [hs, e3], by simp [e9], by simp [e10], by simp⟩ (by omega)
  · have : j = n + 1 := by omega
    subst this
    simp -implicitDefEqProofs [q_Ptable_Table_Longest_8, e3, a_Ptable_Table_Longest, outOf]
end Go.Proofs.Ytilgdnbijkcboaa

/- A table is made, copied, changed. -/
namespace Go.Proofs.Ytilgdnbijkcboaa
open Go AVL
set_option linter.unusedVariables false
set_option linter.unusedSimpArgs false
set_option maxRecDepth 8000

/-- A table in memory. -/
structure TbI (t h : Nat) (L : List En) (k : Int) (B : Heap) : Prop where
  ct : B t = some (.var T_table_Table [.own h 0 L.length, .int .i64 k])
  ch : B h = some (.row T_api_Entry 34 (L.map enA))
theorem TbI.ne {t h : Nat} {L : List En} {k : Int} {B : Heap} (hi : TbI t h L k B) : t ≠ h := fun e => by
  have h1 := hi.ct; rw [e, hi.ch] at h1; cases h1
theorem TbI.vw {t h : Nat} {L : List En} {k : Int} {B : Heap} (hi : TbI t h L k B) : Vw B (.ptr t 0) (tabV L k) := tab_vw hi.ct hi.ch
theorem TbI.mono {t h : Nat} {L : List En} {k : Int} {B C : Heap} (hi : TbI t h L k B) (hs : B.Sub C) : TbI t h L k C := ⟨hs _ _ hi.ct, hs _ _ hi.ch⟩
/-- All but the table stays. -/
def Keep (t h : Nat) (A B : Heap) : Prop := ∀ x c, x ≠ t → x ≠ h → A x = some c → B x = some c
theorem Keep.of {t h : Nat} {A B : Heap} (hs : A.Sub B) : Keep t h A B := fun x c _ _ hx => hs _ _ hx
theorem Keep.trans {t h : Nat} {A B C : Heap} (h1 : Keep t h A B) (h2 : Keep t h B C) : Keep t h A C := fun x c a b hx => h2 x c a b (h1 x c a b hx)
theorem en_noFs : ∀ L : List En, AV.noFs (L.map enA) = true
  | [] => rfl
  | e :: L => by simp only [List.map_cons, AV.noFs, en_noFs L, Bool.and_true]; rfl
section
variable {A : Heap} {K Kp : AV → Heap → Prop}
theorem enA_Z : (.agg [.iarr .u8 32 (List.replicate 32 0), .int .i64 0, .int .i64 0] : AV) = enA enZ := by
  simp [enA, enZ, z32, ints]
theorem w_table_New {n : Int} (hk0 : (n < 1 ∨ 406 < n) → K (.tuple [.nilP, .int .i64 2]) A)
    (hk : 1 ≤ n → n ≤ 406 → ∀ t h B, A t = none → A h = none → TbI t h (List.replicate n.toNat enZ) 0 B → A.Sub B → K (.tuple [.ptr t 0, .int .i64 0]) B) : SimX Try.prog F_table_New [.int .i64 n] A (outK K Kp) := by
  refine j_table_New (by simp) ?_
  by_cases h1 : n < 1
  · simp -implicitDefEqProofs [a_table_New, q_table_New_0, q_table_New_1, q_table_New_2, h1, outOf]
    exact hk0 (.inl h1)
  · by_cases h2 : 406 < n
    · have h2' : n > 406 := h2
      simp -implicitDefEqProofs [a_table_New, q_table_New_0, q_table_New_1, q_table_New_2, h1, h2, outOf]
      exact hk0 (.inr h2)
    · have h0 : 0 ≤ n := by omega
      have h3 : n * 48 ≤ 140737488355328 := by omega
      simp -implicitDefEqProofs [-List.reduceReplicate, a_table_New, q_table_New_0, q_table_New_1, q_table_New_3, h1, h2, h0, h3, outOf]
      intro h hh t n1 n2 ht
      refine hk (by omega) (by omega) t h _ ht hh ⟨?_, ?_⟩ ?_
      · rw [set_eq']; simp [h0]; try omega
      · rw [set_ne' (by first | exact n1 | exact n2 | exact fun e => n1 e.symm | exact fun e => n2 e.symm), set_eq', List.map_replicate, enA_Z]
      · exact sub_new (sub_none hh) (by simp [set_app, *])
theorem w_table_Copy {t h : Nat} {L : List En} {k : Int} (hi : TbI t h L k A) (hl : L.length < 2 ^ 40) (hp : 0 < L.length) (hk : ∀ t' h' B, A t' = none → A h' = none → TbI t' h' L k B → A.Sub B → K (.ptr t' 0) B) : SimX Try.prog F_Ptable_Table_Copy [.ptr t 0] A (outK K Kp) := by
  refine j_Ptable_Table_Copy (by simp) ?_
  have ct := hi.ct
  simp -implicitDefEqProofs [a_Ptable_Table_Copy, q_Ptable_Table_Copy_0, q_Ptable_Table_Copy_1, ct]
  refine (w_table_Places L k hl).call (.cons hi.vw rfl .nil) (en_noFs L) fun v B hB => ?_
  obtain ⟨h', hh, hA, hB'⟩ := hB.pos (by simpa using hp)
  rw [List.length_map] at hh
  subst hh
  have ct' := hB.sub _ _ ct
  simp -implicitDefEqProofs [ct', outOf]
  refine ⟨.inl hB.sub, fun t' ht' => ?_⟩
  refine hk t' h' _ (sub_noneL hB.sub ht') hA ⟨set_eq', ?_⟩ (sub_new hB.sub ht')
  rw [set_ne' (fun e => by subst e; rw [hB'] at ht'; cases ht'), hB']
end
/-! putting -/
theorem setEl_en (e f : En) : setEl (.agg [.iarr .u8 32 (ints e.addr), .int .i64 e.slot, .int .i64 e.count]) 0 34 (.agg [.iarr .u8 32 (ints f.addr), .int .i64 f.slot, .int .i64 f.count]) = some (.agg [.iarr .u8 32 (ints f.addr), .int .i64 f.slot, .int .i64 f.count]) := by
  have h1 := e.h32
  have h2 := f.h32
  simp [setEl, setC, AV.sizes, AV.size]
def rightE (e : En) : Prop := 1 ≤ e.count ∧ e.count ≤ 1099511627776 ∧ 0 ≤ e.slot ∧ e.slot < 200
instance (e : En) : Decidable (rightE e) := by unfold rightE; exact inferInstance
def putC (n : Nat) (r : List En) (e : En) : Int := if ¬rightE e then 2 else if ∃ x ∈ r, x.addr = e.addr then 0 else if n < r.length + 1 then 6 else 0
def putT (n : Nat) (r : List En) (e : En) : List En := if putC n r e = 0 then (tS n).putR e r else r
end Go.Proofs.Ytilgdnbijkcboaa

/- Put. -/
namespace Go.Proofs.Ytilgdnbijkcboaa
open Go AVL
set_option linter.unusedVariables false
set_option linter.unusedSimpArgs false
set_option maxRecDepth 8000

structure PutI (n t h g3 c : Nat) (r : List En) (A : Heap) (s : List En × En × Nat) (env : AEnv) (B : Heap) : Prop where
  car : TS.CarL (tS n) s.1 s.2.1 s.2.2 r
  cl : c < n + 1
  ce : (tS n).emp ((tS n).fn s.1 c) = true
  e0 : env 0 = .ptr t 0
  e3 : env 3 = .ptr g3 0
  e6 : env 6 = .int .i64 s.2.2
  e7 : env 7 = .int .i64 ((tS n).far s.2.1 s.2.2 : Nat)
  hi : TbI t h s.1 r.length B
  f3 : B g3 = some (.var T_api_Entry [.iarr .u8 32 (ints s.2.1.addr), .int .i64 s.2.1.slot, .int .i64 s.2.1.count])
  kp : Keep t h A B
section
variable {A : Heap} {K Kp : AV → Heap → Prop} {n t h : Nat} {L r : List En}
/-- The loop, and what is behind it. -/
theorem put_loop (hn : n < 2 ^ 40) {g3 c : Nat} {r : List En} (hpos : ∀ x ∈ r, 0 < x.count) (hg3 : A g3 = none) (ht3 : t ≠ g3) (hh3 : h ≠ g3) {s : List En × En × Nat} {env : AEnv} {B : Heap} (h0 : PutI n t h g3 c r A s env B) {R : APost}
    (hk : ∀ env' B' L', TS.Tab (tS n) L' r → TbI t h L' r.length B' → Keep t h A B' → X Try.prog R (.seq (.region q_Ptable_Table_Put_17) .ret) .done env' B') :
    X Try.prog R (.seq (.block 0 (.loop q_Ptable_Table_Put_L16)) (.seq (.regionD q_Ptable_Table_Put_16) (.seq (.region q_Ptable_Table_Put_17) .ret))) .done env B := by
  simp -implicitDefEqProofs
  refine X_lp (PutI n t h g3 c r A) (fun s => (tS n).gap c s.2.2) s h0 ?_
  rintro ⟨M, now, at_⟩ env B ⟨car, cl, ce, e0, e3, e6, e7, hi, f3, kp⟩
  simp only at car ce e6 e7 hi f3
  have hlt : at_ < n + 1 := car.car.lt
  have hM : M.length = n + 1 := car.len
  have hal : at_ < M.length := by omega
  have hai : (at_ : Int) < M.length := by omega
  have ct := hi.ct
  have ch := hi.ch
  have hfn : (tS n).fn M at_ = M[at_] := tS_fn hal
  obtain ⟨e, he⟩ : ∃ e, e = M[at_] := ⟨_, rfl⟩
  have hE : enA M[at_] = .agg [.iarr .u8 32 (ints e.addr), .int .i64 e.slot, .int .i64 e.count] := by rw [he]; rfl
  have hce : 0 ≤ e.count := by
    rcases Decidable.em (e.count = 0) with h1 | h1
    · omega
    · have := hpos e ((car.has e).1 (.inr ⟨at_, hlt, by rw [hfn, he], decide_eq_false h1⟩))
      omega
  rw [q_Ptable_Table_Put_L16]
  obtain ⟨r12, h12⟩ : ∃ r, r = q_Ptable_Table_Put_12 := ⟨_, rfl⟩; rw [← h12]
  obtain ⟨r16, h16⟩ : ∃ r, r = q_Ptable_Table_Put_16 := ⟨_, rfl⟩; rw [← h16]
  simp -implicitDefEqProofs [q_Ptable_Table_Put_11, e0, e6, ct, ch, hal, hai]
  rw [hE]
  have ef : (tS n).emp ((tS n).fn M at_) = decide (e.count = 0) := by rw [hfn, ← he]; rfl
  by_cases hc : 0 < e.count
  · have hemp : (tS n).emp ((tS n).fn M at_) = false := by rw [ef]; exact decide_eq_false (by omega)
    have hgap := car.gap cl ce hemp
    have hfar := car.far hemp
    have hNn : (tS n).n = n + 1 := rfl
    obtain ⟨d, hd⟩ : ∃ d, d = (tS n).far now at_ := ⟨_, rfl⟩
    have hfnx := TS.far_nxt (S := tS n) (x := now) (p := at_) hlt hfar
    rw [← hd] at e7 hfar hfnx
    have hy := w_table_yields (L := M) (k := (r.length : Int)) hM hn (a := at_) (d := d) hlt (by omega) now.h32
    have hff := w_table_far (L := M) (k := (r.length : Int)) hM hn hlt
    rw [hfn, ← he] at hy hff
    have n32 := now.h32
    have hw1 : IntKind.i64.wrap ((at_ : Int) + 1) = (at_ : Int) + 1 := wrap_i64 (by omega)
    have hw2 : IntKind.i64.wrap ((d : Int) + 1) = (d : Int) + 1 := wrap_i64 (by omega)
    have e2 := nxt_eq hlt
    rw [← hM] at e2
    obtain ⟨p1, hp1⟩ : ∃ p1, p1 = (tS n).nxt at_ := ⟨_, rfl⟩
    have hp1l : p1 < n + 1 := by rw [hp1]; exact TS.nxt_lt hlt
    rw [← hp1] at e2 hgap hfnx
    have hw3 : IntKind.i64.wrap (p1 : Int) = (p1 : Int) := wrap_i64 (by omega)
    have hne0 : ¬ M = [] := fun e => by rw [e] at hM; simp at hM
    have hne1 : ¬ (M.length : Int) = 0 := by omega
    obtain ⟨r13, h13⟩ : ∃ r, r = q_Ptable_Table_Put_13 := ⟨_, rfl⟩; rw [← h13]
    obtain ⟨r15, h15⟩ : ∃ r, r = q_Ptable_Table_Put_15 := ⟨_, rfl⟩; rw [← h15]
    simp -implicitDefEqProofs [hc]
    simp -implicitDefEqProofs [h12, q_Ptable_Table_Put_12, e0, e3, e6, e7, f3, n32]
    refine hy.call (.cons hi.vw rfl (.cons (.refl _) rfl (.cons (.refl _) rfl (.cons (.refl _) rfl .nil)))) rfl ?_
    by_cases hP : (tS n).far e at_ < d ∨ ((tS n).far e at_ = d ∧ lessL now.addr e.addr = true)
    · rw [decide_eq_true hP]
      have hb : (tS n).beats now ((tS n).fn M at_) at_ := by unfold TS.beats; rw [hfn, ← he, ← hd]; exact hP
      have car' := car.swap hemp hb
      rw [hfn, ← he, ← hp1] at car'
      simp -implicitDefEqProofs [h13, q_Ptable_Table_Put_13, e0, e6]
      refine hff.call (.cons hi.vw rfl (.cons (.refl _) rfl .nil)) rfl ?_
      obtain ⟨f, hf⟩ : ∃ f, f = (tS n).far e at_ := ⟨_, rfl⟩
      have hfd : f ≤ d := by rw [hf]; omega
      have hfnx2 := TS.far_nxt (S := tS n) (x := e) (p := at_) hlt (by rw [← hf]; omega)
      rw [← hf, ← hp1] at hfnx2
      rw [← hf]
      have hw4 : IntKind.i64.wrap ((f : Int) + 1) = (f : Int) + 1 := wrap_i64 (by omega)
      have n3t : ¬ g3 = t := fun e => ht3 e.symm
      have n3h : ¬ g3 = h := fun e => hh3 e.symm
      have nth : ¬ t = h := hi.ne
      have hset : (List.map enA M).set at_ (.agg [.iarr .u8 32 (ints now.addr), .int .i64 now.slot, .int .i64 now.count]) = (M.set at_ now).map enA := by rw [List.map_set]; rfl
      have e32 := e.h32
      simp -implicitDefEqProofs [q_Ptable_Table_Put_14, e0, e3, e6, f3, ct, ch, hal, hai, n32, hE, e32, hset, nth, n3t, n3h, ht3, hh3, Ne.symm nth]
      rw [setEl_en]
      simp -implicitDefEqProofs [hset, f3, n3h]
      have hit : TbI t h (M.set at_ now) r.length ((B.set h (.row T_api_Entry 34 ((List.map enA M).set at_ (enA now)))).set g3 (.var T_api_Entry [.iarr .u8 32 (ints e.addr), .int .i64 e.slot, .int .i64 e.count])) := by
        refine ⟨?_, ?_⟩
        · rw [set_ne' ht3, set_ne' nth, List.length_set]; exact ct
        · rw [set_ne' hh3, set_eq', List.map_set]
      have hkp : Keep t h A ((B.set h (.row T_api_Entry 34 ((List.map enA M).set at_ (enA now)))).set g3 (.var T_api_Entry [.iarr .u8 32 (ints e.addr), .int .i64 e.slot, .int .i64 e.count])) := fun x cx h1 h2 hx => by
        rw [set_ne' (fun e => by subst e; rw [hg3] at hx; cases hx), set_ne' h2]
        exact kp x cx h1 h2 hx
      obtain ⟨Y, hY⟩ : ∃ Y, Y = (B.set h (.row T_api_Entry 34 ((List.map enA M).set at_ (enA now)))).set g3 (.var T_api_Entry [.iarr .u8 32 (ints e.addr), .int .i64 e.slot, .int .i64 e.count]) := ⟨_, rfl⟩
      have y3 : Y g3 = some (.var T_api_Entry [.iarr .u8 32 (ints e.addr), .int .i64 e.slot, .int .i64 e.count]) := by rw [hY, set_eq']
      rw [← hY] at hit hkp
      rw [← hY]
      have yt := hit.ct
      rw [List.length_set] at yt
      clear hY
      simp -implicitDefEqProofs [h15, q_Ptable_Table_Put_15, e0, e6, yt, hw1, hw4, e2, hw3, hne0, hne1]
      exact lp_next (M.set at_ now, e, p1) ⟨car', cl, hgap.2, by simp [e0], by simp [e3], by simp, by simp [hfnx2], hit, y3, hkp⟩ (by simp only; omega)
    · rw [decide_eq_false hP]
      have hb : ¬ (tS n).beats now ((tS n).fn M at_) at_ := by unfold TS.beats; rw [hfn, ← he, ← hd]; exact hP
      have car' := car.pass hemp hb
      rw [← hp1] at car'
      simp -implicitDefEqProofs [h15, q_Ptable_Table_Put_15, e0, e6, e7, ct, hw1, hw2, e2, hw3, hne0, hne1]
      exact lp_next (M, now, p1) ⟨car', cl, ce, by simp [e0], by simp [e3], by simp, by simp [hfnx], hi, f3, kp⟩ (by simp only; omega)
  · have hc0 : e.count = 0 := by omega
    have hemp : (tS n).emp ((tS n).fn M at_) = true := by rw [ef]; exact decide_eq_true hc0
    have hfin := car.fin hemp
    have n32 := now.h32
    simp -implicitDefEqProofs [hc0]
    simp -implicitDefEqProofs [h16, q_Ptable_Table_Put_16, e0, e3, e6, f3, ct, ch, hal, hai, n32]
    rw [hE]
    have e32 := e.h32
    rw [setEl_en]
    have hset : (List.map enA M).set at_ (.agg [.iarr .u8 32 (ints now.addr), .int .i64 now.slot, .int .i64 now.count]) = (M.set at_ now).map enA := by rw [List.map_set]; rfl
    simp -implicitDefEqProofs [hset]
    refine hk _ _ _ hfin ⟨?_, by rw [set_eq', List.map_set]⟩ fun x cx h1 h2 hx => ?_
    · rw [set_ne' hi.ne, List.length_set]; exact ct
    · rw [set_ne' h2]; exact kp x cx h1 h2 hx
end
end Go.Proofs.Ytilgdnbijkcboaa

/- Put, whole. -/
namespace Go.Proofs.Ytilgdnbijkcboaa
open Go AVL
set_option linter.unusedVariables false
set_option linter.unusedSimpArgs false
set_option maxRecDepth 8000

section
variable {A : Heap} {K Kp : AV → Heap → Prop} {n t h : Nat} {L r : List En}
theorem w_table_Put (hn : n < 2 ^ 40) (hT : (tS n).Tab L r) (hr : (tS n).Rise r) (hpos : ∀ x ∈ r, 0 < x.count) (hi : TbI t h L r.length A) (e : En)
    (hk : ∀ L' B', (tS n).Tab L' (putT n r e) → TbI t h L' (putT n r e).length B' → Keep t h A B' → K (.int .i64 (putC n r e)) B') : SimX Try.prog F_Ptable_Table_Put [.ptr t 0, enA e] A (outK K Kp) := by
  have hL : L.length = n + 1 := hT.len
  have e32 := e.h32
  have hE : enA e = .agg [.iarr .u8 32 (ints e.addr), .int .i64 e.slot, .int .i64 e.count] := rfl
  have key : ∀ x : En, (tS n).key x = x.addr := fun _ => rfl
  refine j_Ptable_Table_Put (by simp) ?_
  by_cases hri : rightE e
  · have hC0 : putC n r e = if ∃ x ∈ r, x.addr = e.addr then 0 else if n < r.length + 1 then 6 else 0 := by unfold putC; rw [if_neg (by simpa using hri)]
    obtain ⟨c1, c2, c3, c4⟩ := hri
    have hc1 : ¬ e.count < 1 := by omega
    have hc2 : ¬ 1099511627776 < e.count := by omega
    have hc3 : ¬ e.slot < 0 := by omega
    have hc4 : ¬ 200 ≤ e.slot := by omega
    rw [hE]
    unfold a_Ptable_Table_Put
    obtain ⟨r3, h3⟩ : ∃ r, r = q_Ptable_Table_Put_3 := ⟨_, rfl⟩; rw [← h3]
    simp -implicitDefEqProofs [q_Ptable_Table_Put_0, q_Ptable_Table_Put_1, e32, hc1, hc2, hc3, hc4]
    intro g3 hg3
    have ht3 : t ≠ g3 := fun e => by subst e; rw [hi.ct] at hg3; cases hg3
    have hh3 : h ≠ g3 := fun e => by subst e; rw [hi.ch] at hg3; cases hg3
    obtain ⟨Y, hY⟩ : ∃ Y, Y = A.set g3 (.var T_api_Entry [.iarr .u8 32 (ints e.addr), .int .i64 e.slot, .int .i64 e.count]) := ⟨_, rfl⟩
    rw [← hY]
    have hs : A.Sub Y := by rw [hY]; exact sub_none hg3
    have hy := hi.mono hs
    have y3 : Y g3 = some (.var T_api_Entry [.iarr .u8 32 (ints e.addr), .int .i64 e.slot, .int .i64 e.count]) := by rw [hY, set_eq']
    have ct := hy.ct
    have ch := hy.ch
    clear hY
    have nth : ¬ t = h := hy.ne
    simp -implicitDefEqProofs [h3, q_Ptable_Table_Put_3, y3, e32]
    by_cases hex : ∃ x ∈ r, x.addr = e.addr
    · rw [if_pos hex] at hC0
      have hTt : putT n r e = (tS n).putR e r := by unfold putT; rw [hC0]; rfl
      have hlen : ((tS n).putR e r).length = r.length := by rw [TS.len_putR hr]; exact if_pos hex
      rw [hC0, hTt, hlen] at hk
      obtain ⟨x, hx, hxa⟩ := hex
      obtain ⟨i, hin, hxi, hxe⟩ := (hT.has x).2 hx
      have hin : i < n + 1 := hin
      have hal : i < L.length := by omega
      have hai : (i : Int) < L.length := by omega
      have hi0 : (0 : Int) ≤ i := by omega
      have hemp : (tS n).emp ((tS n).fn L i) = false := by rw [hxi]; exact hxe
      have hov := hT.over (r' := (tS n).putR e r) (e := e) hin hemp (by rw [hxi]; exact hxa.symm) (decide_eq_false (by omega)) (fun y => TS.mem_putR hr) hlen
      obtain ⟨o, ho⟩ : ∃ o, o = L[i] := ⟨_, rfl⟩
      have hO : enA L[i] = .agg [.iarr .u8 32 (ints o.addr), .int .i64 o.slot, .int .i64 o.count] := by rw [ho]; rfl
      refine (w_table_find (k := (r.length : Int)) hT hn e (v := i) (.inl ⟨i, rfl, hin, by rw [hxi]; exact of_decide_eq_false hxe, by rw [hxi]; exact hxa⟩)).call (.cons hy.vw rfl (.cons (.refl _) rfl .nil)) rfl ?_
      obtain ⟨r5, h5⟩ : ∃ r, r = q_Ptable_Table_Put_5 := ⟨_, rfl⟩; rw [← h5]
      obtain ⟨r6, h6⟩ : ∃ r, r = q_Ptable_Table_Put_6 := ⟨_, rfl⟩; rw [← h6]
      simp -implicitDefEqProofs [q_Ptable_Table_Put_4, hi0]
      simp -implicitDefEqProofs [h5, q_Ptable_Table_Put_5, ct, ch, y3, hal, hai, e32]
      rw [hO, setEl_en]
      simp -implicitDefEqProofs [h6, q_Ptable_Table_Put_6, outOf]
      refine hk _ _ hov ⟨?_, ?_⟩ fun x cx h1 h2 hx => ?_
      · rw [set_ne' nth, List.length_set]; exact ct
      · rw [set_eq', List.map_set, hE]
      · rw [set_ne' h2]; exact hs _ _ hx
    · rw [if_neg hex] at hC0
      have habs : ∀ x ∈ r, x.addr ≠ e.addr := fun x hx hxa => hex ⟨x, hx, hxa⟩
      have habs2 := (hT.absent (x := e)).2 habs
      refine (w_table_find (k := (r.length : Int)) hT hn e (v := -1) (.inr ⟨rfl, fun i hi hc => habs2 i hi (decide_eq_false hc)⟩)).call (.cons hy.vw rfl (.cons (.refl _) rfl .nil)) rfl ?_
      have hroom : r.length < n + 1 := hT.room
      have hw1 : IntKind.i64.wrap ((r.length : Int) + 1) = (r.length : Int) + 1 := wrap_i64 (by omega)
      obtain ⟨r7, h7⟩ : ∃ r, r = q_Ptable_Table_Put_7 := ⟨_, rfl⟩; rw [← h7]
      simp -implicitDefEqProofs [q_Ptable_Table_Put_4]
      by_cases hfull : n < r.length + 1
      · rw [if_pos hfull] at hC0
        have hTt : putT n r e = r := by unfold putT; rw [hC0]; rfl
        rw [hC0, hTt] at hk
        have hge : (L.length : Int) ≤ (r.length : Int) + 1 := by omega
        simp -implicitDefEqProofs [h7, q_Ptable_Table_Put_7, q_Ptable_Table_Put_8, ct, hw1, hge, outOf]
        exact hk L _ hT hy (.of hs)
      · rw [if_neg hfull] at hC0
        have hTt : putT n r e = (tS n).putR e r := by unfold putT; rw [hC0]; rfl
        have hlen : ((tS n).putR e r).length = r.length + 1 := by rw [TS.len_putR hr]; exact if_neg hex
        rw [hC0, hTt] at hk
        have hge : ¬ (L.length : Int) ≤ (r.length : Int) + 1 := by omega
        obtain ⟨r9, h9⟩ : ∃ r, r = q_Ptable_Table_Put_9 := ⟨_, rfl⟩; rw [← h9]
        obtain ⟨r10, h10⟩ : ∃ r, r = q_Ptable_Table_Put_10 := ⟨_, rfl⟩; rw [← h10]
        simp -implicitDefEqProofs [h7, q_Ptable_Table_Put_7, ct, hw1, hge]
        simp -implicitDefEqProofs [h9, q_Ptable_Table_Put_9, ct, hw1]
        obtain ⟨Z, hZ⟩ : ∃ Z, Z = Y.set t (.var T_table_Table [.own h 0 L.length, .int .i64 ((r.length : Int) + 1)]) := ⟨_, rfl⟩
        rw [← hZ]
        have hiz : TbI t h L (((tS n).putR e r).length : Nat) Z := by
          rw [hlen]
          refine ⟨by rw [hZ, set_eq']; rfl, by rw [hZ, set_ne' (fun e => nth e.symm)]; exact ch⟩
        have z3 : Z g3 = some (.var T_api_Entry [.iarr .u8 32 (ints e.addr), .int .i64 e.slot, .int .i64 e.count]) := by rw [hZ, set_ne' (fun e => ht3 e.symm)]; exact y3
        have hkz : Keep t h A Z := fun x cx h1 h2 hx => by rw [hZ, set_ne' h1]; exact hs _ _ hx
        have zt := hiz.ct
        clear hZ
        have hcar := hT.car (r' := (tS n).putR e r) habs2 (decide_eq_false (by omega)) (fun x => by
          rw [TS.mem_putR hr]
          constructor
          · rintro (h | h)
            · exact .inl h
            · exact .inr h.1
          · rintro (h | h)
            · exact .inl h
            · exact .inr ⟨h, habs x h⟩) hlen (show r.length + 1 < n + 1 by omega)
        obtain ⟨c, hcl, hce⟩ := hcar.free
        have hpos' : ∀ x ∈ (tS n).putR e r, 0 < x.count := fun x hx => by
          rcases (TS.mem_putR hr).1 hx with rfl | h
          · omega
          · exact hpos x h.1
        obtain ⟨q, hq⟩ : ∃ q, q = hmN (n + 1) e.addr := ⟨_, rfl⟩
        have hm := homV_eq (n := n + 1) (by omega) e.addr
        have hd := w_digest_Home e.hb e.h32 (o := (L.length : Int)) (by omega) (by omega)
        rw [← hq, ← hL] at hm
        rw [hm] at hd
        have hcar' : TS.CarL (tS n) L e q ((tS n).putR e r) := by rw [hq]; exact hcar
        have hf0 : (tS n).far e q = 0 := (TS.far_zero (by rw [hq]; exact (tS n).hm_lt _)).2 hq
        obtain ⟨r16, h16⟩ : ∃ r, r = q_Ptable_Table_Put_16 := ⟨_, rfl⟩; rw [← h16]
        obtain ⟨r17, h17⟩ : ∃ r, r = q_Ptable_Table_Put_17 := ⟨_, rfl⟩; rw [← h17]
        simp -implicitDefEqProofs [h10, q_Ptable_Table_Put_10, zt, z3, e32]
        refine hd.call (.cons (.refl _) rfl (.cons (.refl _) rfl .nil)) rfl ?_
        simp -implicitDefEqProofs
        rw [h16, h17]
        refine put_loop hn (s := (L, e, q)) hpos' hg3 ht3 hh3 ⟨hcar', hcl, hce, by simp, by simp, by simp, by simp [hf0], hiz, z3, hkz⟩ fun env' B' L' hT' hi' hk' => ?_
        simp -implicitDefEqProofs [q_Ptable_Table_Put_17, outOf]
        exact hk L' B' hT' hi' hk'
  · have hC : putC n r e = 2 := by unfold putC; rw [if_pos hri]
    have hTt : putT n r e = r := by unfold putT; rw [hC]; rfl
    rw [hC, hTt] at hk
    have hfin : ∀ B', A.Sub B' → K (.int .i64 2) B' := fun B' hs => hk L B' hT (hi.mono hs) (.of hs)
    rw [hE]
    unfold rightE at hri
    by_cases h1 : e.count < 1
    · simp -implicitDefEqProofs [a_Ptable_Table_Put, q_Ptable_Table_Put_0, q_Ptable_Table_Put_1, q_Ptable_Table_Put_2, e32, h1, outOf]
      exact fun g hg => hfin _ (sub_none hg)
    · by_cases h2 : 1099511627776 < e.count
      · simp -implicitDefEqProofs [a_Ptable_Table_Put, q_Ptable_Table_Put_0, q_Ptable_Table_Put_1, q_Ptable_Table_Put_2, e32, h1, h2, outOf]
        exact fun g hg => hfin _ (sub_none hg)
      · by_cases h3 : e.slot < 0
        · simp -implicitDefEqProofs [a_Ptable_Table_Put, q_Ptable_Table_Put_0, q_Ptable_Table_Put_1, q_Ptable_Table_Put_2, e32, h1, h2, h3, outOf]
          exact fun g hg => hfin _ (sub_none hg)
        · have h4 : 200 ≤ e.slot := by omega
          simp -implicitDefEqProofs [a_Ptable_Table_Put, q_Ptable_Table_Put_0, q_Ptable_Table_Put_1, q_Ptable_Table_Put_2, e32, h1, h2, h3, h4, outOf]
          exact fun g hg => hfin _ (sub_none hg)
end
end Go.Proofs.Ytilgdnbijkcboaa

/- Drop. -/
namespace Go.Proofs.Ytilgdnbijkcboaa
open Go AVL
set_option linter.unusedVariables false
set_option linter.unusedSimpArgs false
set_option maxRecDepth 8000

theorem set_seg {α : Type} {l : List α} {i : Nat} {x : α} (h : i < l.length) : l.take i ++ ([x] ++ l.drop (i + 1)) = l.set i x := by
  rw [List.set_eq_take_append_cons_drop, if_pos h]; rfl
structure DropI (n t h c : Nat) (r : List En) (A : Heap) (s : List En × Nat) (env : AEnv) (B : Heap) : Prop where
  hole : TS.HoleL (tS n) s.1 s.2 r
  cl : c < n + 1
  cn : c ≠ s.2
  ce : (tS n).emp ((tS n).fn s.1 c) = true
  e0 : env 0 = .ptr t 0
  e5 : env 5 = .int .i64 s.2
  hi : TbI t h s.1 ((r.length : Int) + 1) B
  kp : Keep t h A B
section
variable {A : Heap} {K Kp : AV → Heap → Prop} {n t h : Nat} {L r : List En}
theorem drop_loop (hn : n < 2 ^ 40) {c : Nat} {s : List En × Nat} {env : AEnv} {B : Heap} (h0 : DropI n t h c r A s env B) {R : APost}
    (hk : ∀ env' B' L', TS.Tab (tS n) L' r → TbI t h L' r.length B' → Keep t h A B' → X Try.prog R (.seq (.region q_Ptable_Table_Drop_10) .ret) .done env' B') :
    X Try.prog R (.seq (.block 0 (.loop q_Ptable_Table_Drop_L8)) (.seq (.region q_Ptable_Table_Drop_8) (.seq (.region q_Ptable_Table_Drop_9) (.seq (.region q_Ptable_Table_Drop_10) .ret)))) .done env B := by
  simp -implicitDefEqProofs
  refine X_lp (DropI n t h c r A) (fun s => (tS n).gap c s.2) s h0 ?_
  rintro ⟨M, at_⟩ env B ⟨ho, cl, cn, ce, e0, e5, hi, kp⟩
  simp only at ho cn ce e5 hi
  have hlt : at_ < n + 1 := ho.hole.lt
  have hM : M.length = n + 1 := ho.len
  have hal : at_ < M.length := by omega
  have ct := hi.ct
  have ch := hi.ch
  have nth : ¬ t = h := hi.ne
  have hgap := ho.gap cl cn ce
  have e2 := nxt_eq hlt
  rw [← hM] at e2
  obtain ⟨p, hp⟩ : ∃ p, p = (tS n).nxt at_ := ⟨_, rfl⟩
  have hpl : p < n + 1 := by rw [hp]; exact TS.nxt_lt hlt
  rw [← hp] at e2 hgap
  have hne : p ≠ at_ := fun e => by
    rw [hp] at e
    have : n = 0 := by
      have h1 : (tS n).nxt at_ = if at_ + 1 < n + 1 then at_ + 1 else 0 := rfl
      rw [h1] at e
      split at e <;> omega
    omega
  have hpM : p < M.length := by omega
  have hpi : (p : Int) < M.length := by omega
  have hai : (at_ : Int) < M.length := by omega
  have hw1 : IntKind.i64.wrap ((at_ : Int) + 1) = (at_ : Int) + 1 := wrap_i64 (by omega)
  have hw3 : IntKind.i64.wrap (p : Int) = (p : Int) := wrap_i64 (by omega)
  have hne0 : ¬ M = [] := fun e => by rw [e] at hM; simp at hM
  have hne1 : ¬ (M.length : Int) = 0 := by omega
  have hfn : (tS n).fn M p = M[p] := tS_fn hpM
  obtain ⟨e, he⟩ : ∃ e, e = M[p] := ⟨_, rfl⟩
  have hE : enA M[p] = .agg [.iarr .u8 32 (ints e.addr), .int .i64 e.slot, .int .i64 e.count] := by rw [he]; rfl
  have e32 := e.h32
  have ef : (tS n).emp ((tS n).fn M p) = decide (e.count = 0) := by rw [hfn, ← he]; rfl
  have hff := w_table_far (L := M) (k := (r.length : Int) + 1) hM hn hpl
  rw [hfn, ← he] at hff
  obtain ⟨f, hf⟩ : ∃ f, f = (tS n).far e p := ⟨_, rfl⟩
  rw [← hf] at hff
  -- the end
  have fin : ((tS n).emp ((tS n).fn M p) = true ∨ (tS n).far ((tS n).fn M p) p = 0) → ∀ env', env' 0 = .ptr t 0 → env' 5 = .int .i64 at_ →
      XO Try.prog R q_Ptable_Table_Drop_8 (.thn (.seq (.region q_Ptable_Table_Drop_9) (.seq (.region q_Ptable_Table_Drop_10) .ret)) .done) env' B := by
    intro hend env' f0 f5
    have hT := ho.fin (by rw [← hp]; exact hend)
    have hle : (at_ : Int) + 1 ≤ M.length := by omega
    obtain ⟨r9, h9⟩ : ∃ r, r = q_Ptable_Table_Drop_9 := ⟨_, rfl⟩; rw [← h9]
    simp -implicitDefEqProofs [-List.reduceReplicate, q_Ptable_Table_Drop_8, f0, f5, ct, ch, hw1, hle]
    refine ⟨by omega, by omega, ?_⟩
    have hrow : List.take at_ (List.map enA M) ++ (.agg [.iarr .u8 32 (List.replicate 32 0), .int .i64 0, .int .i64 0] : AV) :: List.drop (at_ + 1) (List.map enA M) = (M.set at_ enZ).map enA := by
      rw [enA_Z, List.map_set, List.set_eq_take_append_cons_drop, if_pos (by simpa using hal)]
    rw [hrow]
    have hT' : (tS n).Tab (M.set at_ enZ) r := hT
    obtain ⟨Y, hY⟩ : ∃ Y, Y = B.set h (.row T_api_Entry 34 ((M.set at_ enZ).map enA)) := ⟨_, rfl⟩
    rw [← hY]
    have yt : Y t = some (.var T_table_Table [.own h 0 M.length, .int .i64 ((r.length : Int) + 1)]) := by rw [hY, set_ne' nth]; exact ct
    have yh : Y h = some (.row T_api_Entry 34 ((M.set at_ enZ).map enA)) := by rw [hY, set_eq']
    have hky : Keep t h A Y := fun x cx h1 h2 hx => by rw [hY, set_ne' h2]; exact kp x cx h1 h2 hx
    clear hY hrow
    have hroom : r.length < n + 1 := hT.room
    have hw5 : IntKind.i64.wrap ((r.length : Int) + 1 - 1) = (r.length : Int) := by rw [wrap_i64 (by omega)]; omega
    have hw6 : (r.length : Int) + 1 - 1 = (r.length : Int) := by omega
    have hw7 : IntKind.i64.wrap (r.length : Int) = (r.length : Int) := wrap_i64 (by omega)
    obtain ⟨r10, h10⟩ : ∃ r, r = q_Ptable_Table_Drop_10 := ⟨_, rfl⟩; rw [← h10]
    simp -implicitDefEqProofs [h9, q_Ptable_Table_Drop_9, f0, yt, hw5, hw6, hw7]
    rw [h10]
    refine hk _ _ (M.set at_ enZ) hT' ⟨?_, ?_⟩ fun x cx h1 h2 hx => ?_
    · rw [set_eq', List.length_set]
    · rw [set_ne' (fun e => nth e.symm)]; exact yh
    · rw [set_ne' h1]; exact hky x cx h1 h2 hx
  rw [q_Ptable_Table_Drop_L8]
  obtain ⟨r5, h5⟩ : ∃ r, r = q_Ptable_Table_Drop_5 := ⟨_, rfl⟩; rw [← h5]
  obtain ⟨r8, h8⟩ : ∃ r, r = q_Ptable_Table_Drop_8 := ⟨_, rfl⟩; rw [← h8]
  simp -implicitDefEqProofs [q_Ptable_Table_Drop_4, e0, e5, ct, hw1, e2, hw3, hne0, hne1]
  simp -implicitDefEqProofs [h5, q_Ptable_Table_Drop_5, e0, ct, ch, hpM, hpi]
  rw [hE]
  by_cases hc : e.count = 0
  · have hemp : (tS n).emp ((tS n).fn M p) = true := by rw [ef]; exact decide_eq_true hc
    simp -implicitDefEqProofs [hc]
    rw [h8]
    exact fin (.inl hemp) _ (by simp [e0]) (by simp [e5])
  · have hemp : (tS n).emp ((tS n).fn M p) = false := by rw [ef]; exact decide_eq_false hc
    obtain ⟨r6, h6⟩ : ∃ r, r = q_Ptable_Table_Drop_6 := ⟨_, rfl⟩; rw [← h6]
    obtain ⟨r7, h7⟩ : ∃ r, r = q_Ptable_Table_Drop_7 := ⟨_, rfl⟩; rw [← h7]
    simp -implicitDefEqProofs [hc, e0]
    refine hff.call (.cons hi.vw rfl (.cons (.refl _) rfl .nil)) rfl ?_
    by_cases hf0 : f = 0
    · simp -implicitDefEqProofs [hf0]
      rw [h8]
      exact fin (.inr (by rw [hfn, ← he, ← hf]; exact hf0)) _ (by simp [e0]) (by simp [e5])
    · have hf0' : ¬ (f : Int) = 0 := by omega
      have hst := ho.step (by rw [← hp]; exact hne) (by rw [← hp]; exact hemp) (by rw [← hp, hfn, ← he, ← hf]; exact hf0)
      rw [← hp, hfn, ← he] at hst
      rw [hfn, ← he] at hgap
      simp -implicitDefEqProofs [hf0', hf0]
      obtain ⟨o, hoo⟩ : ∃ o, o = M[at_] := ⟨_, rfl⟩
      have hO : enA M[at_] = .agg [.iarr .u8 32 (ints o.addr), .int .i64 o.slot, .int .i64 o.count] := by rw [hoo]; rfl
      simp -implicitDefEqProofs [h6, q_Ptable_Table_Drop_6, e0, e5, ct, ch, hal, hai, hpM, hpi, hE, e32]
      rw [hO, setEl_en]
      simp -implicitDefEqProofs [h7, q_Ptable_Table_Drop_7]
      have hcp : c ≠ p := fun e => by
        rw [e, hemp] at ce; cases ce
      refine lp_next (M.set at_ e, p) ⟨hst, cl, hcp, hgap.2, by simp [e0], by simp, ⟨?_, ?_⟩, fun x cx h1 h2 hx => ?_⟩ (by simp only; omega)
      · rw [set_ne' nth, List.length_set]; exact ct
      · rw [set_eq', List.map_set, ← hE, he]
      · rw [set_ne' h2]; exact kp x cx h1 h2 hx
end
def dropC (r : List En) (a : List Nat) : Int := if ∃ x ∈ r, x.addr = a then 0 else 8
def dropT (n : Nat) (r : List En) (a : List Nat) : List En := if ∃ x ∈ r, x.addr = a then (tS n).dropR r a else r
section
variable {A : Heap} {K Kp : AV → Heap → Prop} {n t h : Nat} {L r : List En}
theorem w_table_Drop (hn : n < 2 ^ 40) (hT : (tS n).Tab L r) (hr : (tS n).Rise r) (hi : TbI t h L r.length A) (x : En)
    (hk : ∀ L' B', (tS n).Tab L' (dropT n r x.addr) → TbI t h L' (dropT n r x.addr).length B' → Keep t h A B' → K (.int .i64 (dropC r x.addr)) B') : SimX Try.prog F_Ptable_Table_Drop [.ptr t 0, .iarr .u8 32 (ints x.addr)] A (outK K Kp) := by
  have hL : L.length = n + 1 := hT.len
  have x32 := x.h32
  refine j_Ptable_Table_Drop (by simp) ?_
  unfold a_Ptable_Table_Drop
  simp -implicitDefEqProofs [q_Ptable_Table_Drop_0, q_Ptable_Table_Drop_1, x32]
  intro g3 hg3
  obtain ⟨Y, hY⟩ : ∃ Y, Y = A.set g3 (.var T_32_uint8 [.iarr .u8 32 (ints x.addr)]) := ⟨_, rfl⟩
  rw [← hY]
  have hs : A.Sub Y := by rw [hY]; exact sub_none hg3
  have hy := hi.mono hs
  clear hY
  by_cases hex : ∃ y ∈ r, y.addr = x.addr
  · have hT0 : dropT n r x.addr = (tS n).dropR r x.addr := if_pos hex
    have hC0 : dropC r x.addr = 0 := if_pos hex
    rw [hT0, hC0] at hk
    have hix : (tS n).ixR r x.addr < r.length := TS.ixR_lt.2 hex
    have hlen := TS.len_dropR hix
    obtain ⟨y, hyr, hya⟩ := hex
    obtain ⟨i, hin, hyi, hye⟩ := (hT.has y).2 hyr
    have hin : i < n + 1 := hin
    have hemp : (tS n).emp ((tS n).fn L i) = false := by rw [hyi]; exact hye
    refine (w_table_find (k := (r.length : Int)) hT hn x (v := i) (.inl ⟨i, rfl, hin, by rw [hyi]; exact of_decide_eq_false hye, by rw [hyi]; exact hya⟩)).call (.cons hy.vw rfl (.cons (.refl _) rfl .nil)) rfl ?_
    have hi0 : ¬ (i : Int) < 0 := by omega
    have hho := hT.hole (r' := (tS n).dropR r x.addr) hin hemp (fun z => by rw [TS.mem_dropR hr hix, hyi]; exact Iff.intro (fun ⟨h1, h2⟩ => ⟨h1, fun e => h2 (e.trans hya)⟩) (fun ⟨h1, h2⟩ => ⟨h1, fun e => h2 (e.trans hya.symm)⟩)) hlen
    obtain ⟨c, hcl, hcn, hce⟩ := hho.free (show ((tS n).dropR r x.addr).length + 1 < n + 1 by have h1 : r.length < n + 1 := hT.room; omega)
    have hyk : TbI t h L (((tS n).dropR r x.addr).length + 1 : Int) Y := by
      have h1 := hy
      have h2 : (r.length : Int) = (((tS n).dropR r x.addr).length + 1 : Int) := by omega
      rw [h2] at h1; exact h1
    obtain ⟨r8, h8⟩ : ∃ r, r = q_Ptable_Table_Drop_8 := ⟨_, rfl⟩; rw [← h8]
    obtain ⟨r9, h9⟩ : ∃ r, r = q_Ptable_Table_Drop_9 := ⟨_, rfl⟩; rw [← h9]
    obtain ⟨r10, h10⟩ : ∃ r, r = q_Ptable_Table_Drop_10 := ⟨_, rfl⟩; rw [← h10]
    simp -implicitDefEqProofs [q_Ptable_Table_Drop_2, hi0]
    rw [h8, h9, h10]
    refine drop_loop hn (s := (L, i)) ⟨hho, hcl, hcn, hce, by simp, by simp, hyk, .of hs⟩ fun env' B' L' hT' hi' hk' => ?_
    simp -implicitDefEqProofs [q_Ptable_Table_Drop_10, outOf]
    exact hk L' B' hT' hi' hk'
  · have hT0 : dropT n r x.addr = r := if_neg hex
    have hC0 : dropC r x.addr = 8 := if_neg hex
    rw [hT0, hC0] at hk
    have habs2 := (hT.absent (x := x)).2 fun y hy hya => hex ⟨y, hy, hya⟩
    refine (w_table_find (k := (r.length : Int)) hT hn x (v := -1) (.inr ⟨rfl, fun i hi hc => habs2 i hi (decide_eq_false hc)⟩)).call (.cons hy.vw rfl (.cons (.refl _) rfl .nil)) rfl ?_
    simp -implicitDefEqProofs [q_Ptable_Table_Drop_2, q_Ptable_Table_Drop_3, outOf]
    exact hk L Y hT hy (.of hs)
end
end Go.Proofs.Ytilgdnbijkcboaa

/- The chapter's small functions. -/
namespace Go.Proofs.Ytilgdnbijkcboaa
open Go AVL
set_option linter.unusedVariables false
set_option linter.unusedSimpArgs false
set_option maxRecDepth 8000

theorem w_ref11_less {a b : List Nat} (ha : a.length = 32) (hb : b.length = 32) : Gives Try.prog F_ref11_less [.iarr .u8 32 (ints a), .iarr .u8 32 (ints b)] (.bool (lessL a b)) := by
  refine v_ref11_less (by simp) ?_
  simp -implicitDefEqProofs [a_ref11_less, q_ref11_less_0, q_ref11_less_1, ha, hb]
  intro g2 g3 n1 n2
  refine X_lp (fun (i : Nat) env B => i ≤ 32 ∧ env 2 = .ptr g2 0 ∧ env 3 = .ptr g3 0 ∧ env 5 = .int .i64 i ∧ lessL a b = lessL (a.drop i) (b.drop i) ∧ B g2 = some (.var T_32_uint8 [.iarr .u8 32 (ints a)]) ∧ B g3 = some (.var T_32_uint8 [.iarr .u8 32 (ints b)])) (fun i => 32 - i) 0
    ⟨by omega, by simp, by simp, by simp, rfl, by simp [n1, n2], by simp⟩ ?_
  rintro i env B ⟨hi, e2, e3, e6, hl, f2, f3⟩
  by_cases hi32 : i < 32
  · have c32 : (i : Int) < 32 := by omega
    have wi : IntKind.i64.wrap ((i : Int) + 1) = (i : Int) + 1 := wrap_i64 (by omega)
    have hia : i < a.length := by omega
    have hib : i < b.length := by omega
    rw [lessL_drop hia hib] at hl
    obtain ⟨x, hx⟩ : ∃ x, a[i] = x := ⟨_, rfl⟩
    obtain ⟨y, hy⟩ : ∃ x, b[i] = x := ⟨_, rfl⟩
    have hxd : a[i]?.getD 0 = x := by rw [List.getElem?_eq_getElem hia, ← hx]; rfl
    have hyd : b[i]?.getD 0 = y := by rw [List.getElem?_eq_getElem hib, ← hy]; rfl
    rw [hx, hy] at hl
    by_cases hxy : x = y
    · rw [if_pos hxy] at hl
      simp -implicitDefEqProofs [q_ref11_less_L6, q_ref11_less_2, q_ref11_less_3, q_ref11_less_5, e2, e3, e6, f2, f3, c32, ha, hb, hxd, hyd, hxy, wi]
      exact lp_next (i + 1) ⟨by omega, by simp [e2], by simp [e3], by simp, hl, by simp [f2], by simp [f3]⟩ (by omega)
    · rw [if_neg hxy] at hl
      have hxy' : ¬ (x : Int) = y := by omega
      simp -implicitDefEqProofs [q_ref11_less_L6, q_ref11_less_2, q_ref11_less_3, q_ref11_less_4, e2, e3, e6, f2, f3, c32, ha, hb, hxd, hyd, hxy, hxy', a_ref11_less, outOf, hl]
  · have hie : i = 32 := by omega
    subst hie
    rw [List.drop_of_length_le (by omega), List.drop_of_length_le (by omega)] at hl
    simp -implicitDefEqProofs [q_ref11_less_L6, q_ref11_less_2, q_ref11_less_6, e6, a_ref11_less, outOf, hl, lessL]
theorem w_ref11_far {n : Nat} (hn : n < 2 ^ 40) (x : En) {p : Nat} (hp : p < n + 1) : Gives Try.prog F_ref11_far [.iarr .u8 32 (ints x.addr), .int .i64 p, .int .i64 ((n + 1 : Nat) : Int)] (.int .i64 ((tS n).far x p : Nat)) := by
  refine v_ref11_far (by simp) ?_
  have x32 := x.h32
  have hd := w_ref03_Home x.hb x.h32 (o := ((n + 1 : Nat) : Int)) (by omega) (by omega)
  rw [homV_eq (by omega)] at hd
  have hf : (tS n).far x p = if hmN (n + 1) x.addr ≤ p then p - hmN (n + 1) x.addr else p + (n + 1) - hmN (n + 1) x.addr := rfl
  have hh : hmN (n + 1) x.addr < n + 1 := Nat.mod_lt _ (by omega)
  obtain ⟨q, hq⟩ : ∃ q, q = hmN (n + 1) x.addr := ⟨_, rfl⟩
  rw [← hq] at hd hf hh
  obtain ⟨N, hN⟩ : ∃ N : Nat, N = n + 1 := ⟨_, rfl⟩
  rw [← hN] at hd hf hh hp ⊢
  simp -implicitDefEqProofs [a_ref11_far, q_ref11_far_0, q_ref11_far_1, x32]
  intro g
  refine hd.call (.cons (.refl _) rfl (.cons (.refl _) rfl .nil)) rfl ?_
  by_cases hqp : q ≤ p
  · have hqp' : (q : Int) ≤ p := by omega
    have hw : IntKind.i64.wrap ((p : Int) - q) = ((p - q : Nat) : Int) := by rw [wrap_i64 (by omega)]; omega
    rw [if_pos hqp] at hf
    simp -implicitDefEqProofs [q_ref11_far_2, q_ref11_far_3, hqp, hqp', hw, outOf, hf]
  · have hqp' : ¬ (q : Int) ≤ p := by omega
    have hw1 : IntKind.i64.wrap ((p : Int) + N) = (p : Int) + N := wrap_i64 (by omega)
    have hw2 : IntKind.i64.wrap ((p : Int) + N - q) = ((p + N - q : Nat) : Int) := by rw [wrap_i64 (by omega)]; omega
    rw [if_neg hqp] at hf
    simp -implicitDefEqProofs [q_ref11_far_2, q_ref11_far_4, hqp, hqp', hw1, hw2, outOf, hf]
theorem w_ref11_goes {n : Nat} (hn : n < 2 ^ 40) (x y : En) {p : Nat} (hp : p < n + 1) : Gives Try.prog F_ref11_goes [.iarr .u8 32 (ints x.addr), .iarr .u8 32 (ints y.addr), .int .i64 p, .int .i64 ((n + 1 : Nat) : Int)]
    (.bool (decide ((tS n).far y p < (tS n).far x p ∨ ((tS n).far y p = (tS n).far x p ∧ lessL x.addr y.addr = true)))) := by
  refine v_ref11_goes (by simp) ?_
  have x32 := x.h32
  have y32 := y.h32
  have h1 := w_ref11_far hn x hp
  have h2 := w_ref11_far hn y hp
  obtain ⟨f, hf⟩ : ∃ f, f = (tS n).far x p := ⟨_, rfl⟩
  obtain ⟨g, hg⟩ : ∃ g, g = (tS n).far y p := ⟨_, rfl⟩
  rw [← hf] at h1 ⊢
  rw [← hg] at h2 ⊢
  have hl := w_ref11_less x32 y32
  obtain ⟨s, hs⟩ : ∃ s, s = lessL x.addr y.addr := ⟨_, rfl⟩
  rw [← hs] at hl ⊢
  obtain ⟨N, hN⟩ : ∃ N : Nat, N = n + 1 := ⟨_, rfl⟩
  rw [← hN] at h1 h2 hp ⊢
  clear hf hg hs
  unfold a_ref11_goes
  obtain ⟨r2, hr2⟩ : ∃ r, r = q_ref11_goes_2 := ⟨_, rfl⟩; rw [← hr2]
  obtain ⟨r3, hr3⟩ : ∃ r, r = q_ref11_goes_3 := ⟨_, rfl⟩; rw [← hr3]
  simp -implicitDefEqProofs [q_ref11_goes_0, q_ref11_goes_1, x32, y32]
  intro g4 g5 n1 n2
  simp -implicitDefEqProofs [n1, n2, x32, y32]
  refine h1.call (.cons (.refl _) rfl (.cons (.refl _) rfl (.cons (.refl _) rfl .nil))) rfl ?_
  simp -implicitDefEqProofs [hr2, q_ref11_goes_2, n1, n2, x32, y32]
  refine h2.call (.cons (.refl _) rfl (.cons (.refl _) rfl (.cons (.refl _) rfl .nil))) rfl ?_
  by_cases h1 : g < f
  · have h1' : (g : Int) < f := by omega
    simp -implicitDefEqProofs [hr3, q_ref11_goes_3, h1, h1', outOf]
  · have h1' : ¬ (g : Int) < f := by omega
    by_cases h2 : g = f
    · have h2' : (f : Int) = g := by omega
      subst h2
      simp -implicitDefEqProofs [hr3, q_ref11_goes_3, n1, n2, x32, y32]
      refine hl.call (.cons (.refl _) rfl (.cons (.refl _) rfl .nil)) rfl ?_
      simp -implicitDefEqProofs [outOf]
    · have h2' : ¬ (f : Int) = g := by omega
      simp -implicitDefEqProofs [hr3, q_ref11_goes_3, h1, h1', h2, h2', outOf]
theorem w_ref11_right (e : En) : Gives Try.prog F_ref11_right [enA e] (.bool (decide (rightE e))) := by
  refine v_ref11_right (by simp) ?_
  have e32 := e.h32
  have hE : enA e = .agg [.iarr .u8 32 (ints e.addr), .int .i64 e.slot, .int .i64 e.count] := rfl
  rw [hE]
  have hr : decide (rightE e) = decide (1 ≤ e.count ∧ e.count ≤ 1099511627776 ∧ 0 ≤ e.slot ∧ e.slot < 200) := rfl
  rw [hr]
  by_cases h1 : 1 ≤ e.count
  · by_cases h2 : e.count ≤ 1099511627776
    · by_cases h3 : 0 ≤ e.slot
      · simp -implicitDefEqProofs [a_ref11_right, q_ref11_right_0, q_ref11_right_1, e32, h1, h2, h3, outOf]
      · simp -implicitDefEqProofs [a_ref11_right, q_ref11_right_0, q_ref11_right_1, e32, h1, h2, h3, outOf]
    · simp -implicitDefEqProofs [a_ref11_right, q_ref11_right_0, q_ref11_right_1, e32, h1, h2, outOf]
  · simp -implicitDefEqProofs [a_ref11_right, q_ref11_right_0, q_ref11_right_1, e32, h1, outOf]
end Go.Proofs.Ytilgdnbijkcboaa

/- Find, Same. -/
namespace Go.Proofs.Ytilgdnbijkcboaa
open Go AVL
set_option linter.unusedVariables false
set_option linter.unusedSimpArgs false
set_option maxRecDepth 8000

/-- Where an address stands among entries, or -1. -/
def fiV (r : List En) (a : List Nat) : Int := if (tS 0).ixR r a < r.length then ((tS 0).ixR r a : Nat) else -1
theorem ixR_any (n : Nat) (r : List En) (a : List Nat) : (tS n).ixR r a = (tS 0).ixR r a := rfl
structure FinI (r : List En) (a : List Nat) (g3 : Nat) (i : Nat) (env : AEnv) (B : Heap) : Prop where
  le : i ≤ r.length
  no : ∀ j, (h : j < i) → (r[j]'(by omega)).addr ≠ a
  e0 : env 0 = .dsl 34 (r.map enA)
  e3 : env 3 = .ptr g3 0
  e5 : env 5 = .int .i64 i
  f3 : B g3 = some (.var T_32_uint8 [.iarr .u8 32 (ints a)])
theorem w_ref11_Find (r : List En) {a : List Nat} (ha : a.length = 32) (hl : r.length < 2 ^ 40) : Gives Try.prog F_ref11_Find [.dsl 34 (r.map enA), .iarr .u8 32 (ints a)] (.int .i64 (fiV r a)) := by
  refine v_ref11_Find (by simp) ?_
  simp -implicitDefEqProofs [a_ref11_Find, q_ref11_Find_0, q_ref11_Find_1, ha]
  intro g3
  refine X_lp (FinI r a g3) (fun i => r.length - i) 0 ⟨by omega, fun j h => by omega, by simp, by simp, by simp, by simp⟩ ?_
  rintro i env B ⟨hi, hno, e0, e3, e5, f3⟩
  simp -implicitDefEqProofs [q_ref11_Find_L6, q_ref11_Find_2, e0, e5]
  refine ⟨fun hlt => ?_, fun hge => ?_⟩
  · have hii : (i : Int) < r.length := by omega
    have wi : IntKind.i64.wrap ((i : Int) + 1) = (i : Int) + 1 := wrap_i64 (by omega)
    obtain ⟨e, he⟩ : ∃ e, e = r[i] := ⟨_, rfl⟩
    have hE : enA r[i] = .agg [.iarr .u8 32 (ints e.addr), .int .i64 e.slot, .int .i64 e.count] := by rw [he]; rfl
    have e32 := e.h32
    simp -implicitDefEqProofs [q_ref11_Find_3, e0, e3, e5, f3, hlt, hii, hE, ha, e32, eqA e32 ha]
    refine ⟨fun hy => ?_, fun hnn => ?_⟩
    · have hx : (tS 0).ixR r a = i := TS.ixR_eq hi hno (.inr ⟨hlt, by rw [← he]; exact hy⟩)
      have hf : fiV r a = i := by unfold fiV; rw [hx, if_pos hlt]
      simp -implicitDefEqProofs [q_ref11_Find_4, e5, a_ref11_Find, outOf, hf]
    · simp -implicitDefEqProofs [q_ref11_Find_5, e5, wi]
      refine lp_next (i + 1) ⟨by omega, fun j hj => ?_, by simp [e0], by simp [e3], by simp, by simp [f3]⟩ (by omega)
      rcases Nat.lt_succ_iff_lt_or_eq.1 hj with h | rfl
      · exact hno j h
      · rw [← he]; exact hnn
  · have hx : (tS 0).ixR r a = i := TS.ixR_eq hi hno (.inl (by omega))
    have hf : fiV r a = -1 := by unfold fiV; rw [hx, if_neg (by omega)]
    simp -implicitDefEqProofs [q_ref11_Find_6, a_ref11_Find, outOf, hf]
theorem ints_eqI {a b : List Nat} : ints a = ints b ↔ a = b := eqA_ints
structure SamI (a b : List En) (i : Nat) (env : AEnv) (B : Heap) : Prop where
  le : i ≤ a.length
  eq : ∀ j, (h : j < i) → a[j]? = b[j]?
  e0 : env 0 = .dsl 34 (a.map enA)
  e1 : env 1 = .dsl 34 (b.map enA)
  e5 : env 5 = .int .i64 i
instance : DecidableEq En := fun e f => decidable_of_iff (e.addr = f.addr ∧ e.slot = f.slot ∧ e.count = f.count) ⟨fun ⟨h1, h2, h3⟩ => En.ext h1 h2 h3, fun h => by subst h; exact ⟨rfl, rfl, rfl⟩⟩
theorem en_eq (e f : En) : (!decide (e.addr = f.addr) || (!decide (e.slot = f.slot) || !decide (e.count = f.count))) = !decide (e = f) := by
  by_cases h : e = f
  · subst h; simp
  · have : ¬ (e.addr = f.addr ∧ e.slot = f.slot ∧ e.count = f.count) := fun ⟨h1, h2, h3⟩ => h (En.ext h1 h2 h3)
    rw [decide_eq_false h]
    by_cases h1 : e.addr = f.addr
    · by_cases h2 : e.slot = f.slot
      · have h3 : ¬ e.count = f.count := fun h3 => this ⟨h1, h2, h3⟩
        simp [h3]
      · simp [h2]
    · simp [h1]
theorem w_ref11_Same (a b : List En) (hl : a.length < 2 ^ 40) : Gives Try.prog F_ref11_Same [.dsl 34 (a.map enA), .dsl 34 (b.map enA)] (.bool (decide (a = b))) := by
  refine v_ref11_Same (by simp) ?_
  by_cases hlen : a.length = b.length
  · have hlen' : (a.length : Int) = b.length := by omega
    simp -implicitDefEqProofs [a_ref11_Same, q_ref11_Same_0, q_ref11_Same_1, q_ref11_Same_3, hlen, hlen']
    refine X_lp (SamI a b) (fun i => a.length - i) 0 ⟨by omega, fun j h => by omega, by simp, by simp, by simp⟩ ?_
    rintro i env B ⟨hi, heq, e0, e1, e5⟩
    simp -implicitDefEqProofs [q_ref11_Same_L8, q_ref11_Same_4, e0, e5]
    refine ⟨fun hlt => ?_, fun hge => ?_⟩
    · have hii : (i : Int) < a.length := by omega
      have hlb : i < b.length := by omega
      have hib : (i : Int) < b.length := by omega
      have wi : IntKind.i64.wrap ((i : Int) + 1) = (i : Int) + 1 := wrap_i64 (by omega)
      obtain ⟨e, he⟩ : ∃ e, e = a[i] := ⟨_, rfl⟩
      have hE : enA a[i] = .agg [.iarr .u8 32 (ints e.addr), .int .i64 e.slot, .int .i64 e.count] := by rw [he]; rfl
      obtain ⟨f, hf⟩ : ∃ f, f = b[i] := ⟨_, rfl⟩
      have hF : enA b[i] = .agg [.iarr .u8 32 (ints f.addr), .int .i64 f.slot, .int .i64 f.count] := by rw [hf]; rfl
      have e32 := e.h32
      have f32 := f.h32
      simp -implicitDefEqProofs [q_ref11_Same_5, e0, e1, e5, hlt, hii, hlb, hib, hE, hF, e32, f32, eqA e32 f32]
      rw [en_eq]
      refine ⟨fun hne => ?_, fun hee => ?_⟩
      · have hne : ¬ e = f := by simpa using hne
        have hab : ¬ a = b := fun e => hne (by rw [he, hf]; subst e; rfl)
        simp -implicitDefEqProofs [q_ref11_Same_6, a_ref11_Same, outOf, hab]
      · have hee : e = f := by simpa using hee
        simp -implicitDefEqProofs [q_ref11_Same_7, e5, wi]
        refine lp_next (i + 1) ⟨by omega, fun j hj => ?_, by simp [e0], by simp [e1], by simp⟩ (by omega)
        rcases Nat.lt_succ_iff_lt_or_eq.1 hj with h | rfl
        · exact heq j h
        · rw [List.getElem?_eq_getElem hlt, List.getElem?_eq_getElem hlb, ← he, ← hf, hee]
    · have hab : a = b := List.ext_getElem? fun j => by
        by_cases hj : j < i
        · exact heq j hj
        · rw [List.getElem?_eq_none (by omega), List.getElem?_eq_none (by omega)]
      simp -implicitDefEqProofs [q_ref11_Same_8, a_ref11_Same, outOf, hab]
  · have hlen' : ¬ (a.length : Int) = b.length := by omega
    have hab : ¬ a = b := fun e => hlen (by rw [e])
    simp -implicitDefEqProofs [a_ref11_Same, q_ref11_Same_0, q_ref11_Same_1, q_ref11_Same_2, hlen, hlen', hab, outOf]
end Go.Proofs.Ytilgdnbijkcboaa

/- The chapter's Put. -/
namespace Go.Proofs.Ytilgdnbijkcboaa
open Go AVL
attribute [-simp] AV.isAgg aappI aapp alen shp good comps szOK aslc List.reduceReplicate
set_option linter.unusedVariables false
set_option linter.unusedSimpArgs false
set_option maxRecDepth 8000

/-- Entries in memory. -/
def EnsAt (v : AV) (r : List En) (B : Heap) : Prop := RowAt T_api_Entry 34 v (r.map enA) B
theorem rowAt_vw {e : TypeId} {sz : Nat} {v : AV} {vs : List AV} {B : Heap} (h : RowAt e sz v vs B) : Vw B v (.dsl sz vs) := by
  rcases h with ⟨rfl, rfl⟩ | ⟨g, rfl, hg⟩
  · exact .nilD sz
  · exact .ownR (i := 0) (n := vs.length) hg (by simp) (by rw [List.drop_zero, List.take_of_length_le (by simp)]; exact Vws.refls _)
theorem EnsAt.mono {v : AV} {r : List En} {B C : Heap} (h : EnsAt v r B) (hs : B.Sub C) : EnsAt v r C := h.imp id fun ⟨g, h1, h2⟩ => ⟨g, h1, hs _ _ h2⟩
theorem EnsAt.len {v : AV} {r : List En} {B : Heap} (h : EnsAt v r B) {F : AV → Prop} : alen false v F = F (.int .i64 r.length) := by
  rw [RowAt.len h, List.length_map]
theorem EnsAt.pos {v : AV} {r : List En} {B : Heap} (h : EnsAt v r B) (hp : 0 < r.length) : ∃ g, v = .own g 0 r.length ∧ B g = some (.row T_api_Entry 34 (r.map enA)) := by
  obtain ⟨g, h1, h2⟩ := RowAt.pos h (by simpa using hp)
  exact ⟨g, by rw [h1, List.length_map], h2⟩
theorem slR_ens {v : AV} {r : List En} {A B : Heap} (h : SlR T_api_Entry 34 v (r.map enA) A B) : EnsAt v r B := h.rowAt
theorem slR_fresh {e : TypeId} {sz : Nat} {v : AV} {m : List AV} {A Y B : Heap} (hs : A.Sub Y) (h : SlR e sz v m Y B) : ∀ g k, v = .own g 0 k → A g = none := by
  rintro g k rfl
  exact sub_noneL hs h.at.1
structure PuI (n : Nat) (e : En) (r : List En) (v : AV) (g5 : Nat) (A : Heap) (s : Nat × Bool × List En × AV) (env : AEnv) (B : Heap) : Prop where
  le : s.1 ≤ r.length
  st : (s.2.1 = false ∧ s.2.2.1 ++ (tS n).putR e (r.drop s.1) = (tS n).putR e r) ∨ (s.2.1 = true ∧ s.2.2.1 ++ r.drop s.1 = (tS n).putR e r ∧ ∀ j : Nat, s.1 ≤ j → fiV r e.addr ≠ j)
  ol : s.2.2.1.length ≤ s.1 + (if s.2.1 = true then 1 else 0)
  e0 : env 0 = v
  e5 : env 5 = .ptr g5 0
  e8 : env 8 = .int .i64 (fiV r e.addr)
  e9 : env 9 = s.2.2.2
  e10 : env 10 = .bool s.2.1
  e11 : env 11 = .int .i64 s.1
  w : SlR T_api_Entry 34 s.2.2.2 (s.2.2.1.map enA) A B
theorem fiV_lt (r : List En) (a : List Nat) : -1 ≤ fiV r a ∧ fiV r a < r.length := by
  unfold fiV; split <;> omega
section
variable {A : Heap} {K Kp : AV → Heap → Prop} {n : Nat} {r : List En} {v : AV}
theorem fiV_key {r : List En} {a : List Nat} {j : Nat} (h : fiV r a = j) : ∃ hj : j < r.length, (r[j]).addr = a := by
  unfold fiV at h
  split at h
  · rename_i hlt
    have hj : (tS 0).ixR r a = j := by omega
    subst hj
    exact ⟨hlt, TS.ixR_key hlt⟩
  · omega
theorem fiV_at {n : Nat} {r : List En} (hr : (tS n).Rise r) {a : List Nat} {j : Nat} (hj : j < r.length) (h : (r[j]).addr = a) : fiV r a = j := by
  have hlt : (tS n).ixR r a < r.length := TS.ixR_lt.2 ⟨r[j], List.getElem_mem hj, h⟩
  have hk := TS.ixR_key hlt
  have := hr.key_inj hlt hj (hk.trans h.symm)
  unfold fiV
  rw [← ixR_any n, if_pos hlt, this]
abbrev puMu (r : List En) : Nat × Bool × List En × AV → Nat := fun s => r.length - s.1
/-- Behind the place of the new one: what stands there is kept, but for what is replaced. -/
theorem rput_13 {R : APost} {k : Kt} {e : En} {g5 i : Nat} {put : Bool} {out : List En} {w : AV} {s0 : Nat × Bool × List En × AV} {env : AEnv} {B : Heap} (hrl : r.length < 2 ^ 40) (hv : EnsAt v r A) (hi : i < r.length) (hs0 : s0.1 = i)
    (e0 : env 0 = v) (e5 : env 5 = .ptr g5 0) (e8 : env 8 = .int .i64 (fiV r e.addr)) (e9 : env 9 = w) (e10 : env 10 = .bool put) (e11 : env 11 = .int .i64 i) (hw : SlR T_api_Entry 34 w (out.map enA) A B) (hol : out.length ≤ i + (if put = true then 1 else 0))
    (hst : ∀ out', (fiV r e.addr = i ∧ out' = out) ∨ (fiV r e.addr ≠ i ∧ out' = out ++ [r[i]]) → (put = false ∧ out' ++ (tS n).putR e (r.drop (i + 1)) = (tS n).putR e r) ∨ (put = true ∧ out' ++ r.drop (i + 1) = (tS n).putR e r ∧ ∀ j : Nat, i + 1 ≤ j → fiV r e.addr ≠ j)) :
    XO Try.prog (lp Try.prog R k (PuI n e r v g5 A) (puMu r) s0) q_ref11_Put_13 (.thn (.cond (.t 55) (.region q_ref11_Put_14) .skip) (.blk 1 (.thn (.region q_ref11_Put_15) .done))) env B := by
  have wi : IntKind.i64.wrap ((i : Int) + 1) = (i : Int) + 1 := wrap_i64 (by omega)
  have hii : (i : Int) < r.length := by omega
  have hf1 := fiV_lt r e.addr
  obtain ⟨f, hf⟩ : ∃ f, f = fiV r e.addr := ⟨_, rfl⟩
  rw [← hf] at e8 hst hf1
  obtain ⟨r15, h15⟩ : ∃ r, r = q_ref11_Put_15 := ⟨_, rfl⟩; rw [← h15]
  by_cases hfi : f = (i : Int)
  · subst hfi
    simp -implicitDefEqProofs [q_ref11_Put_13, e8, e11]
    simp -implicitDefEqProofs [h15, q_ref11_Put_15, e11, wi]
    exact lp_next (i + 1, put, out, w) ⟨hi, by rw [← hf]; exact hst out (.inl ⟨rfl, rfl⟩), by simp only; omega, by simp [e0], by simp [e5], by simp [e8, ← hf], by simp [e9], by simp [e10], by simp, hw⟩ (by simp only [puMu]; omega)
  · have hfi' : ¬ (i : Int) = f := fun e => hfi e.symm
    obtain ⟨g, hvg, hg⟩ := hv.pos (by omega)
    have hgB := hw.sub _ _ hg
    obtain ⟨x, hx⟩ : ∃ x, x = r[i] := ⟨_, rfl⟩
    have hX : enA r[i] = .agg [.iarr .u8 32 (ints x.addr), .int .i64 x.slot, .int .i64 x.count] := by rw [hx]; rfl
    have x32 := x.h32
    obtain ⟨r14, h14⟩ : ∃ r, r = q_ref11_Put_14 := ⟨_, rfl⟩; rw [← h14]
    simp -implicitDefEqProofs [q_ref11_Put_13, e8, e11, hfi, hfi']
    subst e9
    rw [hvg] at e0
    simp -implicitDefEqProofs [h14, q_ref11_Put_14, e0, e11, hgB, hi, hii]
    rw [hX]
    simp -implicitDefEqProofs [x32, shp, good, comps]
    intro g1 hg1
    refine hw.appS (ys := [.agg [.iarr .u8 32 (ints x.addr), .int .i64 x.slot, .int .i64 x.count]]) (sub_none hg1) (src_row set_eq' rfl) rfl (by simp; split at hol <;> omega) fun g' n' C2 hn' hv2 => ?_
    have hv2' : SlR T_api_Entry 34 (.own g' 0 n') ((out ++ [r[i]]).map enA) A C2 := by
      rw [List.map_append, List.map_cons, List.map_nil, hX]; exact hv2
    simp -implicitDefEqProofs [h15, q_ref11_Put_15, e11, wi]
    exact lp_next (i + 1, put, out ++ [r[i]], .own g' 0 n') ⟨hi, by rw [← hf]; exact hst _ (.inr ⟨hfi, rfl⟩), by simp only [List.length_append, List.length_singleton]; omega, by simp [e0, hvg], by simp [e5], by simp [e8, ← hf], by simp, by simp [e10], by simp, hv2'⟩ (by simp only [puMu]; omega)
theorem rput_loop {R : APost} {e : En} {g5 : Nat} {s : Nat × Bool × List En × AV} {env : AEnv} {B : Heap} (hrl : r.length < 2 ^ 40) (hr : (tS n).Rise r) (hv : EnsAt v r A) (h5 : A g5 = some (.var T_api_Entry [.iarr .u8 32 (ints e.addr), .int .i64 e.slot, .int .i64 e.count]))
    (h0 : PuI n e r v g5 A s env B) (hk : ∀ env' B' w, env' 9 = w → SlR T_api_Entry 34 w (((tS n).putR e r).map enA) A B' → X Try.prog R (.seq (.region q_ref11_Put_18) .ret) .done env' B') :
    X Try.prog R (.seq (.block 0 (.loop q_ref11_Put_L16)) (.seq (.seq (.region q_ref11_Put_16) (.cond (.t 64) (.region q_ref11_Put_17) .skip)) (.seq (.region q_ref11_Put_18) .ret))) .done env B := by
  have e32 := e.h32
  simp -implicitDefEqProofs
  refine X_lp (PuI n e r v g5 A) (puMu r) s h0 ?_
  rintro ⟨i, put, out, w⟩ env B ⟨hi, hst, hol, e0, e5, e8, e9, e10, e11, hw⟩
  simp only at hi hst hol e9 e10 e11 hw
  have b5 := hw.sub _ _ h5
  have hob : out.length < 2 ^ 41 := by split at hol <;> omega
  have hlen : ∀ F : AV → Prop, alen false v F = F (.int .i64 r.length) := fun F => hv.len
  rw [q_ref11_Put_L16]
  obtain ⟨r10, h10⟩ : ∃ r, r = q_ref11_Put_10 := ⟨_, rfl⟩; rw [← h10]
  obtain ⟨r13, h13⟩ : ∃ r, r = q_ref11_Put_13 := ⟨_, rfl⟩; rw [← h13]
  obtain ⟨r16, h16⟩ : ∃ r, r = q_ref11_Put_16 := ⟨_, rfl⟩; rw [← h16]
  simp -implicitDefEqProofs [q_ref11_Put_9, e0, e11, hlen]
  refine ⟨fun hlt => ?_, fun hge => ?_⟩
  · have hii : (i : Int) < r.length := by omega
    obtain ⟨x, hx⟩ : ∃ x, x = r[i] := ⟨_, rfl⟩
    have hX : enA r[i] = .agg [.iarr .u8 32 (ints x.addr), .int .i64 x.slot, .int .i64 x.count] := by rw [hx]; rfl
    have x32 := x.h32
    have hdr : r.drop i = x :: r.drop (i + 1) := by rw [List.drop_eq_getElem_cons hlt, hx]
    obtain ⟨g, hvg, hg⟩ := hv.pos (by omega)
    have hgB := hw.sub _ _ hg
    have hl := w_ref11_less x32 e32
    rcases hst with ⟨rfl, hst⟩ | ⟨rfl, hst, hst2⟩
    · rw [hdr] at hst
      have e0' := e0
      rw [hvg] at e0'
      have hpu : (tS n).putR e (x :: r.drop (i + 1)) = if lessL x.addr e.addr = true then x :: (tS n).putR e (r.drop (i + 1)) else if x.addr = e.addr then e :: r.drop (i + 1) else e :: x :: r.drop (i + 1) := rfl
      rw [hpu] at hst
      simp -implicitDefEqProofs [h10, q_ref11_Put_10, e0', e5, e10, e11, hgB, hlt, hii, b5, hX, x32, e32, shp, comps]
      refine hl.call (.cons (.refl _) rfl (.cons (.refl _) rfl .nil)) rfl ?_
      by_cases hlx : lessL x.addr e.addr = true
      · rw [if_pos hlx] at hst
        rw [hlx]
        simp -implicitDefEqProofs
        rw [h13]
        refine rput_13 hrl hv hlt rfl (by simp [e0]) (by simp [e5]) (by simp [e8]) (by simp [e9]) (by simp [e10]) (by simp [e11]) hw hol fun out' ho => .inl ⟨rfl, ?_⟩
        rcases ho with ⟨h, _⟩ | ⟨_, rfl⟩
        · obtain ⟨_, hk⟩ := fiV_key h
          rw [← hx] at hk
          rw [hk, lessL_lt] at hlx
          simp [List.lt_irrefl] at hlx
        · rw [← hx, ← hst]; simp
      · rw [if_neg hlx] at hst
        have hlx' : lessL x.addr e.addr = false := by simpa using hlx
        rw [hlx']
        obtain ⟨r12, h12⟩ : ∃ r, r = q_ref11_Put_12 := ⟨_, rfl⟩; rw [← h12]
        simp -implicitDefEqProofs [q_ref11_Put_11, e5, b5, e32, shp, good, comps]
        intro g1 hg1
        rw [e9]
        refine hw.appS (ys := [.agg [.iarr .u8 32 (ints e.addr), .int .i64 e.slot, .int .i64 e.count]]) (sub_none hg1) (src_row set_eq' rfl) rfl (by simp; omega) fun g' n' C2 hn' hv2 => ?_
        have hv2' : SlR T_api_Entry 34 (.own g' 0 n') ((out ++ [e]).map enA) A C2 := by
          rw [List.map_append, List.map_cons, List.map_nil]; exact hv2
        simp -implicitDefEqProofs [h12, q_ref11_Put_12]
        rw [h13]
        have hol2 : out.length ≤ i := by simpa using hol
        refine rput_13 (put := true) hrl hv hlt rfl (by simp [e0]) (by simp [e5]) (by simp [e8]) (by simp) (by simp) (by simp [e11]) hv2' (by simp; omega) fun out' ho => .inr ⟨rfl, ?_⟩
        rcases ho with ⟨h, rfl⟩ | ⟨h, rfl⟩
        · obtain ⟨_, hk⟩ := fiV_key h
          rw [← hx] at hk
          rw [if_pos hk] at hst
          exact ⟨by rw [← hst]; simp, fun j hj => by rw [h]; omega⟩
        · have hk : ¬ x.addr = e.addr := fun hk => h (fiV_at hr hlt (by rw [← hx]; exact hk))
          rw [if_neg hk] at hst
          refine ⟨by rw [← hst, ← hx]; simp, fun j hj hje => ?_⟩
          obtain ⟨hjl, hkj⟩ := fiV_key hje
          have hp := List.pairwise_iff_getElem.1 hr i j hlt hjl (by omega)
          have hp' : lessL r[i].addr r[j].addr = true := hp
          rw [hkj, ← hx] at hp'
          exact hlx hp'
    · simp -implicitDefEqProofs [h10, q_ref11_Put_10, e10]
      rw [h13]
      refine rput_13 hrl hv hlt rfl (by simp [e0]) (by simp [e5]) (by simp [e8]) (by simp [e9]) (by simp [e10]) (by simp [e11]) hw hol fun out' ho => .inr ⟨rfl, ?_, fun j hj => hst2 j (by omega)⟩
      rcases ho with ⟨h, _⟩ | ⟨_, rfl⟩
      · exact absurd h (hst2 i (by omega))
      · rw [← hx, ← hst, hdr]; simp
  · have hie : i = r.length := by omega
    rw [List.drop_of_length_le (by omega)] at hst
    rcases hst with ⟨rfl, hst⟩ | ⟨rfl, hst, _⟩
    · obtain ⟨r17, h17⟩ : ∃ r, r = q_ref11_Put_17 := ⟨_, rfl⟩; rw [← h17]
      obtain ⟨r18, h18⟩ : ∃ r, r = q_ref11_Put_18 := ⟨_, rfl⟩; rw [← h18]
      simp -implicitDefEqProofs [h16, q_ref11_Put_16, e10]
      simp -implicitDefEqProofs [h17, q_ref11_Put_17, e5, b5, e32, shp, good, comps]
      intro g1 hg1
      rw [e9]
      refine hw.appS (ys := [.agg [.iarr .u8 32 (ints e.addr), .int .i64 e.slot, .int .i64 e.count]]) (sub_none hg1) (src_row set_eq' rfl) rfl (by simp; omega) fun g' n' C2 hn' hv2 => ?_
      have hv2' : SlR T_api_Entry 34 (.own g' 0 n') (((tS n).putR e r).map enA) A C2 := by
        rw [← hst, List.map_append]; exact hv2
      simp -implicitDefEqProofs
      rw [h18]
      exact hk _ _ _ (by simp) hv2'
    · obtain ⟨r18, h18⟩ : ∃ r, r = q_ref11_Put_18 := ⟨_, rfl⟩; rw [← h18]
      simp -implicitDefEqProofs [h16, q_ref11_Put_16, e10]
      rw [h18]
      rw [List.append_nil] at hst
      exact hk _ _ w (by simp [e9]) (by rw [← hst]; exact hw)
theorem w_ref11_Put (hn : n < 2 ^ 40) (hrl : r.length < 2 ^ 40) (hr : (tS n).Rise r) (hv : EnsAt v r A) (e : En)
    (hk : ∀ v' B', A.Sub B' → EnsAt v' (putT n r e) B' → (v' = v ∨ ∀ g m, v' = .own g 0 m → A g = none) → K (.tuple [v', .int .i64 (putC n r e)]) B') : SimX Try.prog F_ref11_Put [v, .int .i64 ((n + 1 : Nat) : Int), enA e] A (outK K Kp) := by
  have e32 := e.h32
  have hE : enA e = .agg [.iarr .u8 32 (ints e.addr), .int .i64 e.slot, .int .i64 e.count] := rfl
  have key : ∀ x : En, (tS n).key x = x.addr := fun _ => rfl
  have hs := hv.scl
  obtain ⟨N, hN⟩ : ∃ N : Nat, N = n + 1 := ⟨_, rfl⟩
  rw [← hN]
  refine j_ref11_Put (by simp) ?_
  unfold a_ref11_Put
  obtain ⟨r3, h3⟩ : ∃ r, r = q_ref11_Put_3 := ⟨_, rfl⟩; rw [← h3]
  rw [hE]
  simp -implicitDefEqProofs [q_ref11_Put_0, q_ref11_Put_1, e32, shp, good, comps]
  intro g5 hg5
  obtain ⟨Y, hY⟩ : ∃ Y, Y = A.set g5 (.var T_api_Entry [.iarr .u8 32 (ints e.addr), .int .i64 e.slot, .int .i64 e.count]) := ⟨_, rfl⟩
  rw [← hY]
  have hsY : A.Sub Y := by rw [hY]; exact sub_none hg5
  have y5 : Y g5 = some (.var T_api_Entry [.iarr .u8 32 (ints e.addr), .int .i64 e.slot, .int .i64 e.count]) := by rw [hY, set_eq']
  have hvY := hv.mono hsY
  clear hY
  refine (w_ref11_right e).call (.cons (.refl _) rfl .nil) rfl ?_
  by_cases hri : rightE e
  · rw [decide_eq_true hri]
    have hC0 : putC n r e = if ∃ x ∈ r, x.addr = e.addr then 0 else if n < r.length + 1 then 6 else 0 := by unfold putC; rw [if_neg (by simpa using hri)]
    obtain ⟨r4, h4⟩ : ∃ r, r = q_ref11_Put_4 := ⟨_, rfl⟩; rw [← h4]
    simp -implicitDefEqProofs [h3, q_ref11_Put_3, y5, e32, shp, good, comps, hs.shp, hs.good, hs.comps, hs.agg]
    refine (w_ref11_Find r e32 hrl).call (.cons (rowAt_vw hvY) hs.agg (.cons (.refl _) rfl .nil)) rfl ?_
    have hlen : ∀ F : AV → Prop, alen false v F = F (.int .i64 r.length) := fun F => hv.len
    have hfl := fiV_lt r e.addr
    have hw1 : IntKind.i64.wrap ((r.length : Int) + 1) = (r.length : Int) + 1 := wrap_i64 (by omega)
    have hiff : fiV r e.addr < 0 ↔ ¬ ∃ x ∈ r, x.addr = e.addr := by
      constructor
      · rintro h ⟨x, hx, hxa⟩
        obtain ⟨i, hi, rfl⟩ := List.getElem_of_mem hx
        have := fiV_at hr hi hxa
        omega
      · intro h
        unfold fiV
        rw [if_neg]
        · omega
        · intro hlt
          exact h (TS.ixR_lt.1 hlt)
    have tail : (¬ (fiV r e.addr < 0 ∧ n < r.length + 1)) → ∀ env', env' 0 = v → env' 5 = .ptr g5 0 → env' 8 = .int .i64 (fiV r e.addr) →
        X Try.prog (inl [ARes.tmp 6, ARes.tmp 7] K Kp) (.seq (.region q_ref11_Put_6) (.seq (.region q_ref11_Put_7) (.seq (.seq (.region q_ref11_Put_8) (.block 0 (.loop q_ref11_Put_L16))) (.seq (.seq (.region q_ref11_Put_16) (.cond (.t 64) (.region q_ref11_Put_17) .skip)) (.seq (.region q_ref11_Put_18) .ret))))) .done env' Y := by
      intro hno env' f0 f5 f8
      have hC1 : putC n r e = 0 := by
        rw [hC0]
        by_cases hex : ∃ x ∈ r, x.addr = e.addr
        · rw [if_pos hex]
        · rw [if_neg hex, if_neg (fun h => hno ⟨hiff.2 hex, h⟩)]
      have hTt : putT n r e = (tS n).putR e r := by unfold putT; rw [hC1]; rfl
      rw [hC1, hTt] at hk
      simp -implicitDefEqProofs [q_ref11_Put_6, q_ref11_Put_7, q_ref11_Put_8]
      refine rput_loop (s := (0, false, [], .nilS)) hrl hr hvY y5 ⟨by simp, .inl ⟨rfl, by simp⟩, by simp, by simp [f0], by simp [f5], by simp [f8], by simp, by simp, by simp, SlR.nil (Sub_refl _)⟩ fun env2 B2 w f9 hw => ?_
      simp -implicitDefEqProofs [q_ref11_Put_18, f9, outOf]
      exact hk _ _ (sub_tr hsY hw.sub) (slR_ens hw) (.inr (slR_fresh hsY hw))
    by_cases h0 : fiV r e.addr < 0
    · by_cases hf : n < r.length + 1
      · have hC1 : putC n r e = 6 := by rw [hC0, if_neg (hiff.1 h0), if_pos hf]
        have hTt : putT n r e = r := by unfold putT; rw [hC1]; rfl
        rw [hC1, hTt] at hk
        have hge : (N : Int) ≤ (r.length : Int) + 1 := by omega
        simp -implicitDefEqProofs [h4, q_ref11_Put_4, q_ref11_Put_5, h0, hlen, hw1, hge, outOf]
        exact hk _ _ hsY hvY (.inl rfl)
      · have hge : ¬ (N : Int) ≤ (r.length : Int) + 1 := by omega
        have tl := tail (fun h => hf h.2)
        simp -implicitDefEqProofs [h4, q_ref11_Put_4, h0, hlen, hw1, hge]
        exact tl _ (by simp) (by simp) (by simp)
    · have tl := tail (fun h => h0 h.1)
      simp -implicitDefEqProofs [h4, q_ref11_Put_4, h0]
      exact tl _ (by simp) (by simp) (by simp)
  · rw [decide_eq_false hri]
    have hC : putC n r e = 2 := by unfold putC; rw [if_pos hri]
    have hTt : putT n r e = r := by unfold putT; rw [hC]; rfl
    rw [hC, hTt] at hk
    simp -implicitDefEqProofs [q_ref11_Put_2, outOf]
    exact hk _ _ hsY hvY (.inl rfl)
end
end Go.Proofs.Ytilgdnbijkcboaa

/- The chapter's Drop. -/
namespace Go.Proofs.Ytilgdnbijkcboaa
open Go AVL
attribute [-simp] AV.isAgg aappI aapp alen shp good comps szOK aslc List.reduceReplicate
set_option linter.unusedVariables false
set_option linter.unusedSimpArgs false
set_option maxRecDepth 8000

section
variable {A : Heap} {K Kp : AV → Heap → Prop} {n : Nat} {r : List En} {v : AV}
theorem w_ref11_Drop (hrl : r.length < 2 ^ 40) (hr : (tS n).Rise r) (hv : EnsAt v r A) (x : En)
    (hk : ∀ v' B', A.Sub B' → EnsAt v' (dropT n r x.addr) B' → (v' = v ∨ ∀ g m, v' = .own g 0 m → A g = none) → K (.tuple [v', .int .i64 (dropC r x.addr)]) B') : SimX Try.prog F_ref11_Drop [v, .iarr .u8 32 (ints x.addr)] A (outK K Kp) := by
  have x32 := x.h32
  have hs := hv.scl
  refine j_ref11_Drop (by simp) ?_
  unfold a_ref11_Drop
  simp -implicitDefEqProofs [q_ref11_Drop_0, q_ref11_Drop_1, x32, shp, good, comps, hs.shp, hs.good, hs.comps, hs.agg]
  intro g3 hg3
  obtain ⟨Y, hY⟩ : ∃ Y, Y = A.set g3 (.var T_32_uint8 [.iarr .u8 32 (ints x.addr)]) := ⟨_, rfl⟩
  rw [← hY]
  have hsY : A.Sub Y := by rw [hY]; exact sub_none hg3
  have hvY := hv.mono hsY
  clear hY
  refine (w_ref11_Find r x32 hrl).call (.cons (rowAt_vw hvY) hs.agg (.cons (.refl _) rfl .nil)) rfl ?_
  have hfl := fiV_lt r x.addr
  by_cases hex : ∃ y ∈ r, y.addr = x.addr
  · have hT0 : dropT n r x.addr = (tS n).dropR r x.addr := if_pos hex
    have hC0 : dropC r x.addr = 0 := if_pos hex
    rw [hT0, hC0] at hk
    have hix : (tS n).ixR r x.addr < r.length := TS.ixR_lt.2 hex
    obtain ⟨i, hi⟩ : ∃ i, i = (tS n).ixR r x.addr := ⟨_, rfl⟩
    have hf : fiV r x.addr = i := by
      unfold fiV; rw [← ixR_any n, if_pos hix, hi]
    rw [← hi] at hix
    have hdr : (tS n).dropR r x.addr = r.take i ++ r.drop (i + 1) := by unfold TS.dropR; rw [← hi]
    rw [hdr] at hk
    rw [hf]
    have hn0 : ¬ (i : Int) < 0 := by omega
    have hil : (i : Int) ≤ r.length := by omega
    have hw1 : IntKind.i64.wrap ((i : Int) + 1) = (i : Int) + 1 := wrap_i64 (by omega)
    obtain ⟨g, hvg, hg⟩ := hvY.pos (by omega)
    subst hvg
    obtain ⟨r6, h6⟩ : ∃ r, r = q_ref11_Drop_6 := ⟨_, rfl⟩; rw [← h6]
    simp -implicitDefEqProofs [q_ref11_Drop_2, q_ref11_Drop_4, q_ref11_Drop_5, hn0, aslc, szOK, hg, hil]
    refine (SlR.nil (e := T_api_Entry) (sz := 34) (Sub_refl Y)).appS (ys := (r.take i).map enA) (Sub_refl Y) (fun Q hQ => src_part hg (by simp; omega) Q (by rw [List.drop_zero, ← List.map_take]; exact hQ)) (en_sts _) (by simp; omega) fun g1 n1 C1 hn1 hw1' => ?_
    have hgC := hw1'.sub _ _ hg
    have hge : (i : Int) + 1 ≤ r.length := by omega
    have e1 : ((i : Int) + 1).toNat = i + 1 := by omega
    simp -implicitDefEqProofs [h6, q_ref11_Drop_6, aslc, szOK, hgC, hw1, hge]
    refine ⟨by omega, ?_⟩
    have hdl : (r.drop (i + 1)).map enA = ((r.map enA).drop (i + 1)).take (r.length - (i + 1)) := by
      rw [← List.map_drop, List.take_of_length_le (by simp)]
    refine hw1'.appS (ys := (r.drop (i + 1)).map enA) (Sub_refl C1) (fun Q hQ => src_part hgC (by simp; omega) Q (by rw [← hdl]; exact hQ)) (en_sts _) (by simp; omega) fun g2 n2 C2 hn2 hw2 => ?_
    simp -implicitDefEqProofs [outOf]
    refine hk _ _ (sub_tr hsY hw2.sub) ?_ ?_
    · have : SlR T_api_Entry 34 (.own g2 0 n2) ((r.take i ++ r.drop (i + 1)).map enA) Y C2 := by rw [List.map_append]; exact hw2
      exact slR_ens this
    · exact .inr (slR_fresh hsY hw2)
  · have hT0 : dropT n r x.addr = r := if_neg hex
    have hC0 : dropC r x.addr = 8 := if_neg hex
    rw [hT0, hC0] at hk
    have hf : fiV r x.addr = -1 := by
      unfold fiV; rw [← ixR_any n, if_neg (fun h => hex (TS.ixR_lt.1 h))]
    rw [hf]
    simp -implicitDefEqProofs [q_ref11_Drop_2, q_ref11_Drop_3, outOf]
    exact hk _ _ hsY hvY (.inl rfl)
end
end Go.Proofs.Ytilgdnbijkcboaa

/- The chapter's lay, and Places. -/
namespace Go.Proofs.Ytilgdnbijkcboaa
open Go AVL
attribute [-simp] AV.isAgg aappI aapp alen szOK aslc List.reduceReplicate
set_option linter.unusedVariables false
set_option linter.unusedSimpArgs false
set_option maxRecDepth 8000

structure LayI (n h g7 c : Nat) (r : List En) (A : Heap) (s : List En × En × Nat) (env : AEnv) (B : Heap) : Prop where
  car : TS.CarL (tS n) s.1 s.2.1 s.2.2 r
  cl : c < n + 1
  ce : (tS n).emp ((tS n).fn s.1 c) = true
  e5 : env 5 = .int .i64 ((n + 1 : Nat) : Int)
  e6 : env 6 = .own h 0 s.1.length
  e7 : env 7 = .ptr g7 0
  e8 : env 8 = .int .i64 s.2.2
  ch : B h = some (.row T_api_Entry 34 (s.1.map enA))
  f7 : B g7 = some (.var T_api_Entry [.iarr .u8 32 (ints s.2.1.addr), .int .i64 s.2.1.slot, .int .i64 s.2.1.count])
  kp : A.Sub B
section
variable {A : Heap} {K Kp : AV → Heap → Prop} {n : Nat} {L r : List En} {v : AV}
theorem lay_loop (hn : n < 2 ^ 40) {h g7 c : Nat} {r : List En} (hpos : ∀ x ∈ r, 0 < x.count) (hh : A h = none) (h7 : A g7 = none) {s : List En × En × Nat} {env : AEnv} {B : Heap} (h0 : LayI n h g7 c r A s env B) {R : APost}
    (hk : ∀ env' B' L', TS.Tab (tS n) L' r → env' 6 = .own h 0 L'.length → B' h = some (.row T_api_Entry 34 (L'.map enA)) → A.Sub B' → X Try.prog R (.seq (.region q_ref11_lay_13) .ret) .done env' B') :
    X Try.prog R (.seq (.block 0 (.loop q_ref11_lay_L12)) (.seq (.region q_ref11_lay_12) (.seq (.region q_ref11_lay_13) .ret))) .done env B := by
  simp -implicitDefEqProofs
  refine X_lp (LayI n h g7 c r A) (fun s => (tS n).gap c s.2.2) s h0 ?_
  rintro ⟨M, now, at_⟩ env B ⟨car, cl, ce, e5, e6, e7, e8, ch, f7, kp⟩
  simp only at car ce e6 e8 ch f7
  have hlt : at_ < n + 1 := car.car.lt
  have hM : M.length = n + 1 := car.len
  have hal : at_ < M.length := by omega
  have hai : (at_ : Int) < M.length := by omega
  have n7h : ¬ g7 = h := fun e => by rw [e, ch] at f7; cases f7
  have hfn : (tS n).fn M at_ = M[at_] := tS_fn hal
  obtain ⟨e, he⟩ : ∃ e, e = M[at_] := ⟨_, rfl⟩
  have hE : enA M[at_] = .agg [.iarr .u8 32 (ints e.addr), .int .i64 e.slot, .int .i64 e.count] := by rw [he]; rfl
  have hce : 0 ≤ e.count := by
    rcases Decidable.em (e.count = 0) with h1 | h1
    · omega
    · have := hpos e ((car.has e).1 (.inr ⟨at_, hlt, by rw [hfn, he], decide_eq_false h1⟩))
      omega
  have n32 := now.h32
  have e32 := e.h32
  have ef : (tS n).emp ((tS n).fn M at_) = decide (e.count = 0) := by rw [hfn, ← he]; rfl
  have hset : (List.map enA M).set at_ (.agg [.iarr .u8 32 (ints now.addr), .int .i64 now.slot, .int .i64 now.count]) = (M.set at_ now).map enA := by rw [List.map_set]; rfl
  rw [q_ref11_lay_L12]
  obtain ⟨r7, hr7⟩ : ∃ r, r = q_ref11_lay_7 := ⟨_, rfl⟩; rw [← hr7]
  obtain ⟨r12, hr12⟩ : ∃ r, r = q_ref11_lay_12 := ⟨_, rfl⟩; rw [← hr12]
  simp -implicitDefEqProofs [q_ref11_lay_6, e6, e8, ch, hal, hai]
  rw [hE]
  by_cases hc : 0 < e.count
  · have hemp : (tS n).emp ((tS n).fn M at_) = false := by rw [ef]; exact decide_eq_false (by omega)
    have hgap := car.gap cl ce hemp
    have hg := w_ref11_goes hn now e hlt
    have hw1 : IntKind.i64.wrap ((at_ : Int) + 1) = (at_ : Int) + 1 := wrap_i64 (by omega)
    have e2 := nxt_eq hlt
    obtain ⟨p1, hp1⟩ : ∃ p1, p1 = (tS n).nxt at_ := ⟨_, rfl⟩
    have hp1l : p1 < n + 1 := by rw [hp1]; exact TS.nxt_lt hlt
    rw [← hp1] at e2 hgap
    have hw3 : IntKind.i64.wrap (p1 : Int) = (p1 : Int) := wrap_i64 (by omega)
    obtain ⟨N, hN⟩ : ∃ N : Nat, N = n + 1 := ⟨_, rfl⟩
    have hNn0 : ¬ (N : Int) = 0 := by omega
    have hNn1 : ¬ N = 0 := by omega
    rw [← hN] at e2 hg e5
    obtain ⟨r11, hr11⟩ : ∃ r, r = q_ref11_lay_11 := ⟨_, rfl⟩; rw [← hr11]
    simp -implicitDefEqProofs [hc]
    simp -implicitDefEqProofs [hr7, q_ref11_lay_7, e5, e6, e7, e8, f7, ch, hal, hai, hE, n32, e32]
    refine hg.call (.cons (.refl _) rfl (.cons (.refl _) rfl (.cons (.refl _) rfl (.cons (.refl _) rfl .nil)))) rfl ?_
    by_cases hP : (tS n).far e at_ < (tS n).far now at_ ∨ ((tS n).far e at_ = (tS n).far now at_ ∧ lessL now.addr e.addr = true)
    · rw [decide_eq_true hP]
      have hb : (tS n).beats now ((tS n).fn M at_) at_ := by unfold TS.beats; rw [hfn, ← he]; exact hP
      have car' := car.swap hemp hb
      rw [hfn, ← he, ← hp1] at car'
      obtain ⟨r9, hr9⟩ : ∃ r, r = q_ref11_lay_9 := ⟨_, rfl⟩; rw [← hr9]
      obtain ⟨r10, hr10⟩ : ∃ r, r = q_ref11_lay_10 := ⟨_, rfl⟩; rw [← hr10]
      simp -implicitDefEqProofs [q_ref11_lay_8, e6, e8, ch, hal, hai]
      rw [hE]
      simp -implicitDefEqProofs [e32]
      intro g9 hg9
      have n9h : ¬ h = g9 := fun e => by rw [← e, ch] at hg9; cases hg9
      have n97 : ¬ g7 = g9 := fun e => by rw [← e, f7] at hg9; cases hg9
      obtain ⟨Z, hZ⟩ : ∃ Z, Z = B.set g9 (.var T_api_Entry [.iarr .u8 32 (ints e.addr), .int .i64 e.slot, .int .i64 e.count]) := ⟨_, rfl⟩
      have hZ' : B.set g9 (.var 32 [.iarr .u8 32 (ints e.addr), .int .i64 e.slot, .int .i64 e.count]) = Z := hZ.symm
      simp only [hZ']
      have zh : Z h = some (.row T_api_Entry 34 (M.map enA)) := by rw [hZ, set_ne' n9h]; exact ch
      have z7 : Z g7 = some (.var T_api_Entry [.iarr .u8 32 (ints now.addr), .int .i64 now.slot, .int .i64 now.count]) := by rw [hZ, set_ne' n97]; exact f7
      have z9 : Z g9 = some (.var T_api_Entry [.iarr .u8 32 (ints e.addr), .int .i64 e.slot, .int .i64 e.count]) := by rw [hZ, set_eq']
      have hkz : A.Sub Z := by rw [hZ]; exact sub_new kp hg9
      clear hZ hZ'
      simp -implicitDefEqProofs [hr9, q_ref11_lay_9, e6, e7, e8, z7, zh, hal, hai, n32]
      rw [hE, setEl_en]
      simp -implicitDefEqProofs
      obtain ⟨Y, hY⟩ : ∃ Y, Y = Z.set h (.row T_api_Entry 34 ((List.map enA M).set at_ (.agg [.iarr .u8 32 (ints now.addr), .int .i64 now.slot, .int .i64 now.count]))) := ⟨_, rfl⟩
      rw [← hY]
      have yh : Y h = some (.row T_api_Entry 34 ((M.set at_ now).map enA)) := by rw [hY, set_eq', hset]
      have y7 : Y g7 = some (.var T_api_Entry [.iarr .u8 32 (ints now.addr), .int .i64 now.slot, .int .i64 now.count]) := by rw [hY, set_ne' n7h]; exact z7
      have y9 : Y g9 = some (.var T_api_Entry [.iarr .u8 32 (ints e.addr), .int .i64 e.slot, .int .i64 e.count]) := by rw [hY, set_ne' (fun e => n9h e.symm)]; exact z9
      have hky : A.Sub Y := by rw [hY]; exact sub_set' hkz hh
      clear hY
      simp -implicitDefEqProofs [hr10, q_ref11_lay_10, e7, y9, y7, e32]
      simp -implicitDefEqProofs [hr11, q_ref11_lay_11, e5, e8, hw1, e2, hw3, hNn0, hNn1]
      refine lp_next (M.set at_ now, e, p1) ⟨car', cl, hgap.2, by simp [e5, hN], by simp [e6], by simp [e7], by simp, ?_, set_eq', sub_set' hky h7⟩ (by simp only; omega)
      rw [set_ne' (fun e => n7h e.symm)]; exact yh
    · rw [decide_eq_false hP]
      have hb : ¬ (tS n).beats now ((tS n).fn M at_) at_ := by unfold TS.beats; rw [hfn, ← he]; exact hP
      have car' := car.pass hemp hb
      rw [← hp1] at car'
      simp -implicitDefEqProofs [hr11, q_ref11_lay_11, e5, e8, hw1, e2, hw3, hNn0, hNn1]
      exact lp_next (M, now, p1) ⟨car', cl, ce, by simp [e5, hN], by simp [e6], by simp [e7], by simp, ch, f7, kp⟩ (by simp only; omega)
  · have hc0 : e.count = 0 := by omega
    have hemp : (tS n).emp ((tS n).fn M at_) = true := by rw [ef]; exact decide_eq_true hc0
    have hfin := car.fin hemp
    obtain ⟨r13, hr13⟩ : ∃ r, r = q_ref11_lay_13 := ⟨_, rfl⟩; rw [← hr13]
    simp -implicitDefEqProofs [hc0]
    simp -implicitDefEqProofs [hr12, q_ref11_lay_12, e6, e7, e8, f7, ch, hal, hai, n32]
    rw [hE, setEl_en]
    simp -implicitDefEqProofs
    rw [hr13]
    refine hk _ _ _ hfin (by simp [e6]) (by rw [set_eq', List.map_set]; rfl) (sub_set' kp hh)
end
end Go.Proofs.Ytilgdnbijkcboaa

/- The chapter's lay, and Places: whole. -/
namespace Go.Proofs.Ytilgdnbijkcboaa
open Go AVL
attribute [-simp] AV.isAgg aappI aapp alen szOK aslc List.reduceReplicate
set_option linter.unusedVariables false
set_option linter.unusedSimpArgs false
set_option maxRecDepth 8000

section
variable {A : Heap} {K Kp : AV → Heap → Prop} {n : Nat} {L r : List En} {v : AV}
theorem w_ref11_lay (hn : n < 2 ^ 40) {r' : List En} (hT : (tS n).Tab L r) (hpos : ∀ x ∈ r', 0 < x.count) (hv : EnsAt v L A) (e : En) (he : e.count ≠ 0) (habs : ∀ x ∈ r, x.addr ≠ e.addr) (hr : ∀ x, x ∈ r' ↔ x = e ∨ x ∈ r) (hl : r'.length = r.length + 1) (hroom : r.length < n)
    (hk : ∀ v' B' L', A.Sub B' → TS.Tab (tS n) L' r' → EnsAt v' L' B' → K v' B') : SimX Try.prog F_ref11_lay [v, enA e] A (outK K Kp) := by
  have hL : L.length = n + 1 := hT.len
  have e32 := e.h32
  have hE : enA e = .agg [.iarr .u8 32 (ints e.addr), .int .i64 e.slot, .int .i64 e.count] := rfl
  obtain ⟨g, hvg, hg⟩ := hv.pos (by omega)
  subst hvg
  refine j_ref11_lay (by simp) ?_
  unfold a_ref11_lay
  rw [hE]
  obtain ⟨r3, hr3⟩ : ∃ r, r = q_ref11_lay_3 := ⟨_, rfl⟩; rw [← hr3]
  obtain ⟨r4, hr4⟩ : ∃ r, r = q_ref11_lay_4 := ⟨_, rfl⟩; rw [← hr4]
  obtain ⟨r5, hr5⟩ : ∃ r, r = q_ref11_lay_5 := ⟨_, rfl⟩; rw [← hr5]
  obtain ⟨r12, hr12⟩ : ∃ r, r = q_ref11_lay_12 := ⟨_, rfl⟩; rw [← hr12]
  obtain ⟨r13, hr13⟩ : ∃ r, r = q_ref11_lay_13 := ⟨_, rfl⟩; rw [← hr13]
  simp -implicitDefEqProofs [q_ref11_lay_0, q_ref11_lay_1, q_ref11_lay_2, e32]
  intro g3 hg3
  obtain ⟨Y, hY⟩ : ∃ Y, Y = A.set g3 (.var T_api_Entry [.iarr .u8 32 (ints e.addr), .int .i64 e.slot, .int .i64 e.count]) := ⟨_, rfl⟩
  have hY' : A.set g3 (.var 32 [.iarr .u8 32 (ints e.addr), .int .i64 e.slot, .int .i64 e.count]) = Y := hY.symm
  simp only [hY']
  have hsY : A.Sub Y := by rw [hY]; exact sub_none hg3
  have y3 : Y g3 = some (.var T_api_Entry [.iarr .u8 32 (ints e.addr), .int .i64 e.slot, .int .i64 e.count]) := by rw [hY, set_eq']
  have yg := hsY _ _ hg
  clear hY hY'
  simp -implicitDefEqProofs [hr3, q_ref11_lay_3]
  refine (SlR.nil (e := T_api_Entry) (sz := 34) (Sub_refl Y)).appS (ys := L.map enA) (Sub_refl Y) (fun Q hQ => src_row yg (by simp) Q hQ) (en_sts _) (by simp; omega) fun h n1 C1 hn1 hw1 => ?_
  have hw1 : SlR T_api_Entry 34 (.own h 0 n1) (L.map enA) Y C1 := hw1
  obtain ⟨hYh, hCh, _, hn1'⟩ := hw1.at
  have c3 := hw1.sub _ _ y3
  rw [List.length_map] at hn1'
  have nh3 : ¬ h = g3 := fun e => by rw [e, y3] at hYh; cases hYh
  simp -implicitDefEqProofs [hr4, q_ref11_lay_4, c3, e32]
  intro g7 hg7
  have n37 : ¬ g3 = g7 := fun e => by rw [← e, c3] at hg7; cases hg7
  have nh7 : ¬ h = g7 := fun e => by rw [← e, hCh] at hg7; cases hg7
  obtain ⟨Z, hZ⟩ : ∃ Z, Z = C1.set g7 (.var T_api_Entry [.iarr .u8 32 (ints e.addr), .int .i64 e.slot, .int .i64 e.count]) := ⟨_, rfl⟩
  have hZ' : C1.set g7 (.var 32 [.iarr .u8 32 (ints e.addr), .int .i64 e.slot, .int .i64 e.count]) = Z := hZ.symm
  try simp only [hZ']
  have z3 : Z g3 = some (.var T_api_Entry [.iarr .u8 32 (ints e.addr), .int .i64 e.slot, .int .i64 e.count]) := by rw [hZ, set_ne' n37]; exact c3
  have z7 : Z g7 = some (.var T_api_Entry [.iarr .u8 32 (ints e.addr), .int .i64 e.slot, .int .i64 e.count]) := by rw [hZ, set_eq']
  have zh : Z h = some (.row T_api_Entry 34 (L.map enA)) := by rw [hZ, set_ne' nh7]; exact hCh
  have hsZ : A.Sub Z := by rw [hZ]; exact sub_new (sub_tr hsY hw1.sub) hg7
  clear hZ hZ'
  obtain ⟨q, hq⟩ : ∃ q, q = hmN (n + 1) e.addr := ⟨_, rfl⟩
  have hd := w_ref03_Home e.hb e.h32 (o := (L.length : Int)) (by omega) (by omega)
  have hm := homV_eq (n := n + 1) (by omega) e.addr
  rw [← hq, ← hL] at hm
  rw [hm] at hd
  have habs2 := (hT.absent (x := e)).2 habs
  have hcar := hT.car (r' := r') habs2 (decide_eq_false he) hr hl (show r.length + 1 < n + 1 by omega)
  obtain ⟨c, hcl, hce⟩ := hcar.free
  have hcar' : TS.CarL (tS n) L e q r' := by rw [hq]; exact hcar
  simp -implicitDefEqProofs [hr5, q_ref11_lay_5, z3, e32]
  refine hd.call (.cons (.refl _) rfl (.cons (.refl _) rfl .nil)) rfl ?_
  simp -implicitDefEqProofs
  rw [hr12, hr13]
  refine lay_loop hn (s := (L, e, q)) hpos (sub_noneL hsY hYh) (sub_noneL (sub_tr hsY hw1.sub) hg7) ⟨hcar', hcl, hce, by simp [hL], by simp [hn1'], by simp, by simp, zh, z7, hsZ⟩ fun env' B' L' hT' f6 hB' hs' => ?_
  simp -implicitDefEqProofs [q_ref11_lay_13, f6, outOf]
  have hL' : L'.length = n + 1 := hT'.len
  exact hk _ _ L' hs' hT' (.inr ⟨h, by simp, hB'⟩)
structure PlcI (n : Nat) (r : List En) (v : AV) (A : Heap) (i : Nat) (env : AEnv) (B : Heap) : Prop where
  le : i ≤ r.length
  e0 : env 0 = v
  e6 : env 6 = .int .i64 i
  tb : ∃ L, TS.Tab (tS n) L (r.take i) ∧ EnsAt (env 5) L B
  kp : A.Sub B
theorem w_ref11_Places (hn : n < 2 ^ 36) (hr : (tS n).Rise r) (hpos : ∀ x ∈ r, 0 < x.count) (hroom : r.length < n + 1) (hv : EnsAt v r A)
    (hk : ∀ v' B' L', A.Sub B' → TS.Tab (tS n) L' r → EnsAt v' L' B' → K v' B') : SimX Try.prog F_ref11_Places [v, .int .i64 ((n + 1 : Nat) : Int)] A (outK K Kp) := by
  have hlen : ∀ F : AV → Prop, alen false v F = F (.int .i64 r.length) := fun F => hv.len
  refine j_ref11_Places (by simp) ?_
  unfold a_ref11_Places
  have hbig : ((n + 1 : Nat) : Int) * 48 ≤ 140737488355328 := by omega
  obtain ⟨N, hN⟩ : ∃ N : Nat, N = n + 1 := ⟨_, rfl⟩
  rw [← hN] at hbig ⊢
  simp -implicitDefEqProofs [q_ref11_Places_0, q_ref11_Places_1, q_ref11_Places_2, hbig]
  intro h hh
  refine X_lp (PlcI n r v A) (fun i => r.length - i) 0 ⟨by omega, by simp, by simp, ⟨List.replicate (n + 1) enZ, ?_, .inr ⟨h, by simp [hN], ?_⟩⟩, sub_none hh⟩ ?_
  · rw [List.take_zero]; exact TS.Tab.nil (S := tS n)
  · rw [set_eq', List.map_replicate, enA_Z, hN]
  rintro i env B ⟨hi, e0, e6, ⟨L, hT, hL⟩, kp⟩
  rw [q_ref11_Places_L6]
  obtain ⟨r4, hr4⟩ : ∃ r, r = q_ref11_Places_4 := ⟨_, rfl⟩; rw [← hr4]
  obtain ⟨r5, hr5⟩ : ∃ r, r = q_ref11_Places_5 := ⟨_, rfl⟩; rw [← hr5]
  obtain ⟨r6, hr6⟩ : ∃ r, r = q_ref11_Places_6 := ⟨_, rfl⟩; rw [← hr6]
  simp -implicitDefEqProofs [q_ref11_Places_3, e0, e6, hlen]
  refine ⟨fun hlt => ?_, fun hge => ?_⟩
  · have hii : (i : Int) < r.length := by omega
    have wi : IntKind.i64.wrap ((i : Int) + 1) = (i : Int) + 1 := wrap_i64 (by omega)
    obtain ⟨g, hvg, hg⟩ := hv.pos (by omega)
    have gB := kp _ _ hg
    rw [hvg] at e0
    obtain ⟨x, hx⟩ : ∃ x, x = r[i] := ⟨_, rfl⟩
    have hX : enA r[i] = .agg [.iarr .u8 32 (ints x.addr), .int .i64 x.slot, .int .i64 x.count] := by rw [hx]; rfl
    have x32 := x.h32
    have hxr : x ∈ r := by rw [hx]; exact List.getElem_mem hlt
    have hxp := hpos x hxr
    have htk : r.take (i + 1) = r.take i ++ [x] := by rw [List.take_succ_eq_append_getElem hlt, hx]
    have hsL := hL.scl
    obtain ⟨w, hw⟩ : ∃ w, w = env 5 := ⟨_, rfl⟩
    rw [← hw] at hL hsL
    simp -implicitDefEqProofs [hr4, q_ref11_Places_4, e0, e6, gB, hlt, hii, ← hw]
    rw [hX]
    simp -implicitDefEqProofs [x32, hsL.shp, hsL.good, hsL.comps, hsL.agg]
    refine w_ref11_lay (by omega) (r' := r.take (i + 1)) hT (fun y hy => hpos y (List.mem_of_mem_take hy)) hL x (by omega) (fun y hy hya => ?_) (fun y => by rw [htk]; simp [or_comm]) (by rw [htk]; simp) (by rw [List.length_take]; omega) fun v' B' L' hs hT' hv' => ?_
    · obtain ⟨j, hj, rfl⟩ := List.getElem_of_mem hy
      rw [List.length_take] at hj
      rw [List.getElem_take] at hya
      have := hr.key_inj (show j < r.length by omega) hlt (by rw [← hx]; exact hya)
      omega
    · simp -implicitDefEqProofs [hr5, q_ref11_Places_5, e6, wi]
      exact lp_next (i + 1) ⟨by omega, by simp [e0, hvg], by simp, ⟨L', hT', by simpa using hv'⟩, sub_tr kp hs⟩ (by omega)
  · have hie : i = r.length := by omega
    subst hie
    simp -implicitDefEqProofs [hr6, q_ref11_Places_6, outOf]
    rw [List.take_length] at hT
    exact hk _ _ L kp hT hL
end
end Go.Proofs.Ytilgdnbijkcboaa

/- What the law makes: a table behind acts, and its entries. -/
namespace Go.Proofs.Ytilgdnbijkcboaa
open Go AVL
attribute [-simp] AV.isAgg aappI aapp alen szOK aslc List.reduceReplicate
set_option linter.unusedVariables false
set_option linter.unusedSimpArgs false
set_option maxRecDepth 8000

/-- Entries as they should be. -/
structure Rg (n : Nat) (r : List En) : Prop where
  rise : (tS n).Rise r
  pos : ∀ x ∈ r, 0 < x.count
theorem Rg.nil (n : Nat) : Rg n [] := ⟨List.Pairwise.nil, fun x h => by cases h⟩
theorem putC_pos {n : Nat} {r : List En} {e : En} (h : putC n r e = 0) : rightE e := by
  by_cases hr : rightE e
  · exact hr
  · unfold putC at h; rw [if_pos hr] at h; omega
theorem Rg.put {n : Nat} {r : List En} (h : Rg n r) (e : En) : Rg n (putT n r e) := by
  unfold putT
  split
  · rename_i hc
    refine ⟨TS.rise_putR h.rise, fun x hx => ?_⟩
    rcases (TS.mem_putR h.rise).1 hx with rfl | h2
    · have := (putC_pos hc).1; omega
    · exact h.pos x h2.1
  · exact h
theorem Rg.drop {n : Nat} {r : List En} (h : Rg n r) (a : List Nat) : Rg n (dropT n r a) := by
  unfold dropT
  split
  · exact ⟨TS.rise_dropR h.rise, fun x hx => h.pos x (TS.dropR_sub.subset hx)⟩
  · exact h
/-- A table of rt in memory, and entries rl, apart from it. -/
structure MdS (n t h : Nat) (A : Heap) (rt rl L : List En) (v : AV) (B : Heap) : Prop where
  tb : TbI t h L rt.length B
  en : EnsAt v rl B
  tab : (tS n).Tab L rt
  nh : ∀ m, v ≠ .own h 0 m
  at_ : A t = none
  ah : A h = none
  kp : A.Sub B
section
variable {A B : Heap} {K Kp : AV → Heap → Prop} {n t h : Nat} {rt rl L : List En} {v : AV}
theorem MdS.mono (m : MdS n t h A rt rl L v B) {C : Heap} (hs : B.Sub C) : MdS n t h A rt rl L v C := ⟨m.tb.mono hs, m.en.mono hs, m.tab, m.nh, m.at_, m.ah, sub_tr m.kp hs⟩
theorem MdS.keep (m : MdS n t h A rt rl L v B) {C : Heap} {r' L' : List En} (hk : Keep t h B C) (ht : TbI t h L' r'.length C) (hT : (tS n).Tab L' r') : MdS n t h A r' rl L' v C where
  tb := ht
  en := by
    rcases m.en with h1 | ⟨g, h1, h2⟩
    · exact .inl h1
    · refine .inr ⟨g, h1, hk g _ (fun e => ?_) (fun e => ?_) h2⟩
      · rw [e, m.tb.ct] at h2; cases h2
      · rw [e] at h1; exact m.nh _ h1
  tab := hT
  nh := m.nh
  at_ := m.at_
  ah := m.ah
  kp := fun x c hx => hk x c (fun e => by rw [e, m.at_] at hx; cases hx) (fun e => by rw [e, m.ah] at hx; cases hx) (m.kp x c hx)
theorem MdS.list (m : MdS n t h A rt rl L v B) {C : Heap} {r' : List En} {v' : AV} (hs : B.Sub C) (hv : EnsAt v' r' C) (hf : v' = v ∨ ∀ g m, v' = .own g 0 m → B g = none) : MdS n t h A rt r' L v' C where
  tb := m.tb.mono hs
  en := hv
  tab := m.tab
  nh := fun k => by
    rcases hf with rfl | hf
    · exact m.nh k
    · intro e
      have := hf _ _ e
      rw [m.tb.ch] at this; cases this
  at_ := m.at_
  ah := m.ah
  kp := sub_tr m.kp hs
theorem MdS.refPut (m : MdS n t h A rt rl L v B) (hn : n < 2 ^ 36) (hl : rl.length < 2 ^ 36) (hr : Rg n rl) (e : En) (hk : ∀ v' C, MdS n t h A rt (putT n rl e) L v' C → B.Sub C → K (.tuple [v', .int .i64 (putC n rl e)]) C) :
    SimX Try.prog F_ref11_Put [v, .int .i64 ((n + 1 : Nat) : Int), enA e] B (outK K Kp) :=
  w_ref11_Put (by omega) (by omega) hr.rise m.en e fun v' C hs hv hf => hk v' C (m.list hs hv hf) hs
theorem MdS.refDrop (m : MdS n t h A rt rl L v B) (hn : n < 2 ^ 36) (hl : rl.length < 2 ^ 36) (hr : Rg n rl) (x : En) (hk : ∀ v' C, MdS n t h A rt (dropT n rl x.addr) L v' C → B.Sub C → K (.tuple [v', .int .i64 (dropC rl x.addr)]) C) :
    SimX Try.prog F_ref11_Drop [v, .iarr .u8 32 (ints x.addr)] B (outK K Kp) :=
  w_ref11_Drop (n := n) (by omega) hr.rise m.en x fun v' C hs hv hf => hk v' C (m.list hs hv hf) hs
theorem MdS.tabPut (m : MdS n t h A rt rl L v B) (hn : n < 2 ^ 36) (hr : Rg n rt) (e : En) (hk : ∀ L' C, MdS n t h A (putT n rt e) rl L' v C → Keep t h B C → K (.int .i64 (putC n rt e)) C) :
    SimX Try.prog F_Ptable_Table_Put [.ptr t 0, enA e] B (outK K Kp) :=
  w_table_Put (by omega) m.tab hr.rise hr.pos m.tb e fun L' C hT ht hkp => hk L' C (m.keep hkp ht hT) hkp
theorem MdS.tabDrop (m : MdS n t h A rt rl L v B) (hn : n < 2 ^ 36) (hr : Rg n rt) (x : En) (hk : ∀ L' C, MdS n t h A (dropT n rt x.addr) rl L' v C → Keep t h B C → K (.int .i64 (dropC rt x.addr)) C) :
    SimX Try.prog F_Ptable_Table_Drop [.ptr t 0, .iarr .u8 32 (ints x.addr)] B (outK K Kp) :=
  w_table_Drop (by omega) m.tab hr.rise m.tb x fun L' C hT ht hkp => hk L' C (m.keep hkp ht hT) hkp
end
/-- An act. -/
structure OpP where
  kind : Int
  e : En
def opA (o : OpP) : AV := .agg [.int .i64 o.kind, .iarr .u8 32 (ints o.e.addr), .int .i64 o.e.slot, .int .i64 o.e.count]
def stp (n : Nat) (r : List En) (o : OpP) : List En := if o.kind = 2 then dropT n r o.e.addr else putT n r o.e
def runs (n : Nat) (l : List OpP) : List En := l.foldl (stp n) []
theorem runs_take (n : Nat) {l : List OpP} {i : Nat} (h : i < l.length) : runs n (l.take (i + 1)) = stp n (runs n (l.take i)) l[i] := by
  unfold runs; rw [List.take_succ_eq_append_getElem h, List.foldl_append]; rfl
theorem runs_rg (n : Nat) (l : List OpP) : ∀ i, i ≤ l.length → Rg n (runs n (l.take i))
  | 0, _ => Rg.nil n
  | i + 1, h => by
    rw [runs_take n (by omega)]
    have := runs_rg n l i (by omega)
    unfold stp
    split
    · exact this.drop _
    · exact this.put _
structure MadI (n t h : Nat) (A : Heap) (l : List OpP) (i : Nat) (env : AEnv) (B : Heap) : Prop where
  le : i ≤ l.length
  e0 : env 0 = .int .i64 ((n + 1 : Nat) : Int)
  e1 : env 1 = .dsl 35 (l.map opA)
  e7 : env 7 = .ptr t 0
  e10 : env 10 = .int .i64 i
  md : ∃ L, MdS n t h A (runs n (l.take i)) (runs n (l.take i)) L (env 9) B
section
variable {A B : Heap} {K Kp : AV → Heap → Prop}
theorem w_law11_made {n : Nat} (hn : n < 406) (l : List OpP) (hl : l.length < 2 ^ 40)
    (hk : ∀ t h L v B, MdS n t h A (runs n l) (runs n l) L v B → K (.tuple [.ptr t 0, v, .bool true]) B) : SimX Try.prog F_law11_made [.int .i64 ((n + 1 : Nat) : Int), .dsl 35 (l.map opA)] A (outK K Kp) := by
  refine j_law11_made (by simp) ?_
  unfold a_law11_made
  obtain ⟨N, hN⟩ : ∃ N : Nat, N = n + 1 := ⟨_, rfl⟩
  rw [← hN]
  obtain ⟨r2, hr2⟩ : ∃ r, r = q_law11_made_2 := ⟨_, rfl⟩; rw [← hr2]
  simp -implicitDefEqProofs [q_law11_made_0, q_law11_made_1]
  refine w_table_New (fun h => by omega) fun _ _ t h B ht hh hi hs => ?_
  simp -implicitDefEqProofs [hr2, q_law11_made_2, q_law11_made_4, q_law11_made_5]
  have hm0 : MdS n t h A [] [] (List.replicate (n + 1) enZ) .nilS B := ⟨by have := hi; rw [hN] at this; exact this, .inl ⟨rfl, rfl⟩, TS.Tab.nil (S := tS n), (fun m e => by cases e), ht, hh, hs⟩
  refine X_lp (MadI n t h A l) (fun i => l.length - i) 0 ⟨by omega, by simp [hN], by simp, by simp, by simp, ⟨_, by simpa [runs] using hm0⟩⟩ ?_
  rintro i env B ⟨hil, e0, e1, e7, e10, ⟨L, hm⟩⟩
  rw [← hN] at e0
  rw [q_law11_made_L17]
  obtain ⟨r9, hr9⟩ : ∃ r, r = q_law11_made_9 := ⟨_, rfl⟩; rw [← hr9]
  obtain ⟨r17, hr17⟩ : ∃ r, r = q_law11_made_17 := ⟨_, rfl⟩; rw [← hr17]
  simp -implicitDefEqProofs [q_law11_made_6, e1, e10]
  refine ⟨fun hlt => ?_, fun hge => ?_⟩
  · have hii : (i : Int) < l.length := by omega
    obtain ⟨o, ho⟩ : ∃ o, o = l[i] := ⟨_, rfl⟩
    have hO : opA l[i] = .agg [.int .i64 o.kind, .iarr .u8 32 (ints o.e.addr), .int .i64 o.e.slot, .int .i64 o.e.count] := by rw [ho]; rfl
    have o32 := o.e.h32
    obtain ⟨r10, hr10⟩ : ∃ r, r = q_law11_made_10 := ⟨_, rfl⟩; rw [← hr10]
    obtain ⟨r12, hr12⟩ : ∃ r, r = q_law11_made_12 := ⟨_, rfl⟩; rw [← hr12]
    obtain ⟨r14, hr14⟩ : ∃ r, r = q_law11_made_14 := ⟨_, rfl⟩; rw [← hr14]
    simp -implicitDefEqProofs [q_law11_made_7, q_law11_made_8]
    simp -implicitDefEqProofs [hr9, q_law11_made_9, e1, e10, hlt, hii]
    rw [hO]
    simp -implicitDefEqProofs
    have hrg := runs_rg n l i hil
    have hroom : (runs n (l.take i)).length < n + 1 := hm.tab.room
    have wi : IntKind.i64.wrap ((i : Int) + 1) = (i : Int) + 1 := wrap_i64 (by omega)
    have hrt := runs_take n hlt
    rw [← ho] at hrt
    have tail : ∀ (env' : AEnv) (C : Heap) (L' : List En) (v : AV) (c : Int), MdS n t h A (stp n (runs n (l.take i)) o) (stp n (runs n (l.take i)) o) L' v C → env' 0 = .int .i64 N → env' 1 = .dsl 35 (l.map opA) → env' 7 = .ptr t 0 → env' 9 = v → env' 10 = .int .i64 i → env' 11 = .int .i64 c → env' 12 = .int .i64 c →
        XO Try.prog (lp Try.prog (inl [ARes.tmp 4, ARes.tmp 5, ARes.tmp 6] K Kp) (Kt.blk 0 (Kt.thn ((ACode.region r17).seq ACode.ret) Kt.done)) (MadI n t h A l) (fun i => l.length - i) i)
          r14 (Kt.thn (ACode.cond (AO.t 82) ((ACode.region q_law11_made_15).seq ACode.ret) ACode.skip) (Kt.blk 1 (Kt.thn (ACode.region q_law11_made_16) Kt.done))) env' C := by
      intro env' C L' v c m f0 f1 f7 f9 f10 f11 f12
      have hlen : ∀ F : AV → Prop, alen false v F = F (.int .i64 (stp n (runs n (l.take i)) o).length) := fun F => m.en.len
      have hs := m.en.scl
      have hL := w_table_Len L' ((stp n (runs n (l.take i)) o).length : Int)
      obtain ⟨r16, hr16⟩ : ∃ r, r = q_law11_made_16 := ⟨_, rfl⟩; rw [← hr16]
      simp -implicitDefEqProofs [hr14, q_law11_made_14, f7, f9, f11, f12]
      refine hL.call (.cons m.tb.vw rfl .nil) rfl ?_
      simp -implicitDefEqProofs [f9, hlen]
      simp -implicitDefEqProofs [hr16, q_law11_made_16, f10, wi]
      refine lp_next (i + 1) ⟨by omega, by simp [f0, hN], by simp [f1], by simp [f7], by simp, ⟨L', ?_⟩⟩ (by omega)
      rw [hrt]
      simpa [f9] using m
    obtain ⟨w, hw⟩ : ∃ w, w = env 9 := ⟨_, rfl⟩
    rw [← hw] at hm
    have hs := hm.en.scl
    refine ⟨fun hk2 => ?_, fun hk2 => ?_⟩
    · have hst : stp n (runs n (l.take i)) o = dropT n (runs n (l.take i)) o.e.addr := if_pos hk2
      rw [hst] at tail
      obtain ⟨r11, hr11⟩ : ∃ r, r = q_law11_made_11 := ⟨_, rfl⟩; rw [← hr11]
      simp -implicitDefEqProofs [hr10, q_law11_made_10, e1, e10, ← hw, hlt, hii]
      rw [hO]
      simp -implicitDefEqProofs [o32, hs.shp, hs.good, hs.comps, hs.agg]
      refine hm.refDrop (by omega) (by omega) hrg o.e fun v' C m' hsC => ?_
      have hs' := m'.en.scl
      simp -implicitDefEqProofs [hs'.shp, hs'.good, hs'.comps, hs'.agg]
      simp -implicitDefEqProofs [hr11, q_law11_made_11, e1, e7, e10, hlt, hii]
      rw [hO]
      simp -implicitDefEqProofs [o32]
      refine m'.tabDrop (by omega) hrg o.e fun L' C' m2 hkp => ?_
      simp -implicitDefEqProofs
      exact tail _ _ L' v' (dropC (runs n (l.take i)) o.e.addr) m2 (by simp [e0]) (by simp [e1]) (by simp [e7]) (by simp) (by simp [e10]) (by simp) (by simp)
    · have hst : stp n (runs n (l.take i)) o = putT n (runs n (l.take i)) o.e := if_neg hk2
      rw [hst] at tail
      have hEe : (.agg [.iarr .u8 32 (ints o.e.addr), .int .i64 o.e.slot, .int .i64 o.e.count] : AV) = enA o.e := rfl
      obtain ⟨r13, hr13⟩ : ∃ r, r = q_law11_made_13 := ⟨_, rfl⟩; rw [← hr13]
      simp -implicitDefEqProofs [hr12, q_law11_made_12, e0, e1, e10, ← hw, hlt, hii]
      rw [hO]
      simp -implicitDefEqProofs [o32, hs.shp, hs.good, hs.comps, hs.agg]
      rw [hEe, hN]
      refine hm.refPut (by omega) (by omega) hrg o.e fun v' C m' hsC => ?_
      have hs' := m'.en.scl
      simp -implicitDefEqProofs [hs'.shp, hs'.good, hs'.comps, hs'.agg]
      simp -implicitDefEqProofs [hr13, q_law11_made_13, e1, e7, e10, hlt, hii]
      rw [hO]
      simp -implicitDefEqProofs [o32]
      rw [hEe]
      refine m'.tabPut (by omega) hrg o.e fun L' C' m2 hkp => ?_
      simp -implicitDefEqProofs
      exact tail _ _ L' v' (putC n (runs n (l.take i)) o.e) m2 (by simp [e0]) (by simp [e1]) (by simp [e7]) (by simp) (by simp [e10]) (by simp) (by simp)
  · have hie : i = l.length := by omega
    subst hie
    rw [List.take_length] at hm
    simp -implicitDefEqProofs [hr17, q_law11_made_17, e7, outOf]
    exact hk t h L _ B hm
end
end Go.Proofs.Ytilgdnbijkcboaa

/- Of: places become a table. -/
namespace Go.Proofs.Ytilgdnbijkcboaa
open Go AVL
attribute [-simp] AV.isAgg aappI aapp alen szOK aslc List.reduceReplicate
set_option linter.unusedVariables false
set_option linter.unusedSimpArgs false
set_option maxRecDepth 8000

/-- The entries of places, one by one put; none: something there is not right. -/
def entS (n : Nat) : List En → List En → Option (List En)
  | [], r => some r
  | e :: l, r => if e.count = 0 then (if e = enZ then entS n l r else none) else if ∃ x ∈ r, x.addr = e.addr then none else if putC n r e = 0 then entS n l ((tS n).putR e r) else none
def OfBad (l : List En) : Prop := ¬ (1 ≤ l.length ∧ l.length ≤ 406) ∨ ∀ n r, l.length = n + 1 → entS n l [] = some r → ∃ L, TS.Tab (tS n) L r ∧ L ≠ l
structure OfI (n t h : Nat) (A : Heap) (l : List En) (i : Nat) (env : AEnv) (B : Heap) : Prop where
  le : i ≤ l.length
  e0 : env 0 = .dsl 34 (l.map enA)
  e4 : env 4 = .ptr t 0
  e20 : env 20 = .dsl 34 (l.map enA)
  e21 : env 21 = .int .i64 l.length
  e22 : env 22 = .int .i64 i
  md : ∃ r L, MdS n t h A r [] L .nilS B ∧ Rg n r ∧ entS n l [] = entS n (l.drop i) r
structure OfJ (t h : Nat) (A : Heap) (l L : List En) (k : Int) (i : Nat) (env : AEnv) (B : Heap) : Prop where
  le : i ≤ l.length
  e4 : env 4 = .ptr t 0
  e47 : env 47 = .dsl 34 (l.map enA)
  e48 : env 48 = .int .i64 l.length
  e49 : env 49 = .int .i64 i
  eq : ∀ j, j < i → L[j]? = l[j]?
  tb : TbI t h L k B
  kp : A.Sub B
theorem getV_of {n : Nat} {L r : List En} (hT : (tS n).Tab L r) (a : List Nat) : (∃ e, e ∈ r ∧ e.addr = a ∧ GetV n L a e true) ∨ ((∀ e ∈ r, e.addr ≠ a) ∧ GetV n L a enZ false) := by
  by_cases h : ∃ e ∈ r, e.addr = a
  · obtain ⟨e, he, hea⟩ := h
    obtain ⟨i, hi, hx, hxe⟩ := (hT.has e).2 he
    exact .inl ⟨e, he, hea, .inl ⟨rfl, i, hi, hx, of_decide_eq_false hxe, hea⟩⟩
  · refine .inr ⟨fun e he hea => h ⟨e, he, hea⟩, .inr ⟨rfl, rfl, fun i hi hc hea => ?_⟩⟩
    exact h ⟨_, hT.mem hi (decide_eq_false hc), hea⟩
theorem eqZ {a : List Nat} (ha : a.length = 32) : eqI 32 (ints a) (List.replicate 32 0) = decide (a = z32) := by
  have := eqA ha (show z32.length = 32 from rfl)
  rwa [show ints z32 = List.replicate 32 0 by simp [ints, z32]] at this
theorem en_eqZ (e : En) : (!decide (e.addr = z32) || (!decide (e.slot = 0) || !decide (e.count = 0))) = !decide (e = enZ) := en_eq e enZ
section
variable {A B : Heap} {K Kp : AV → Heap → Prop}
theorem w_table_Of (l : List En) (hl : l.length < 2 ^ 40) (hk0 : OfBad l → ∀ B, A.Sub B → K (.tuple [.nilP, .bool false]) B)
    (hk1 : ∀ n r t h B, l.length = n + 1 → n < 406 → entS n l [] = some r → TS.Tab (tS n) l r → Rg n r → A t = none → A h = none → TbI t h l r.length B → A.Sub B → K (.tuple [.ptr t 0, .bool true]) B) :
    SimX Try.prog F_table_Of [.dsl 34 (l.map enA)] A (outK K Kp) := by
  refine j_table_Of (by simp) ?_
  unfold a_table_Of
  obtain ⟨r2, hr2⟩ : ∃ r, r = q_table_Of_2 := ⟨_, rfl⟩; rw [← hr2]
  simp -implicitDefEqProofs [q_table_Of_0, q_table_Of_1]
  refine w_table_New (fun hb => ?_) fun h1 h2 t h B ht hh hi hs => ?_
  · simp -implicitDefEqProofs [hr2, q_table_Of_2, q_table_Of_3, outOf]
    exact hk0 (.inl (by omega)) A (Sub_refl A)
  obtain ⟨n, hn⟩ : ∃ n, l.length = n + 1 := ⟨l.length - 1, by omega⟩
  have hm0 : MdS n t h A [] [] (List.replicate (n + 1) enZ) .nilS B := ⟨by have := hi; rw [hn] at this; exact this, .inl ⟨rfl, rfl⟩, TS.Tab.nil (S := tS n), (fun m e => by cases e), ht, hh, hs⟩
  simp -implicitDefEqProofs [hr2, q_table_Of_2, q_table_Of_4]
  refine X_lp (OfI n t h A l) (fun i => l.length - i) 0 ⟨by omega, by simp, by simp, by simp, by simp, by simp, ⟨[], _, hm0, Rg.nil n, by simp⟩⟩ ?_
  rintro i env B ⟨hil, e0, e4, e20, e21, e22, ⟨r, L, hm, hrg, hent⟩⟩
  rw [q_table_Of_L14]
  obtain ⟨r6, hr6⟩ : ∃ r, r = q_table_Of_6 := ⟨_, rfl⟩; rw [← hr6]
  obtain ⟨r14, hr14⟩ : ∃ r, r = q_table_Of_14 := ⟨_, rfl⟩; rw [← hr14]
  simp -implicitDefEqProofs [q_table_Of_5, e21, e22]
  refine ⟨fun hlt => ?_, fun hge => ?_⟩
  · have hii : (i : Int) < l.length := by omega
    have wi : IntKind.i64.wrap ((i : Int) + 1) = (i : Int) + 1 := wrap_i64 (by omega)
    obtain ⟨e, he⟩ : ∃ e, e = l[i] := ⟨_, rfl⟩
    have hE : enA l[i] = .agg [.iarr .u8 32 (ints e.addr), .int .i64 e.slot, .int .i64 e.count] := by rw [he]; rfl
    have e32 := e.h32
    rw [List.drop_eq_getElem_cons hlt, ← he] at hent
    have hstep : entS n (e :: l.drop (i + 1)) r = if e.count = 0 then (if e = enZ then entS n (l.drop (i + 1)) r else none) else if ∃ x ∈ r, x.addr = e.addr then none else if putC n r e = 0 then entS n (l.drop (i + 1)) ((tS n).putR e r) else none := rfl
    rw [hstep] at hent
    have bad : entS n l [] = none → ∀ C, A.Sub C → K (.tuple [.nilP, .bool false]) C := fun hno => hk0 (.inr fun n' r' hn' hr' => by
      have : n' = n := by omega
      subst this; rw [hno] at hr'; cases hr')
    obtain ⟨r7, hr7⟩ : ∃ r, r = q_table_Of_7 := ⟨_, rfl⟩; rw [← hr7]
    obtain ⟨r13, hr13⟩ : ∃ r, r = q_table_Of_13 := ⟨_, rfl⟩; rw [← hr13]
    simp -implicitDefEqProofs [hr6, q_table_Of_6, e20, e22, hlt, hii]
    rw [hE]
    simp -implicitDefEqProofs
    intro g7 hg7
    obtain ⟨Y, hY⟩ : ∃ Y, Y = B.set g7 (.var T_api_Entry [.iarr .u8 32 (ints e.addr), .int .i64 e.slot, .int .i64 e.count]) := ⟨_, rfl⟩
    have hY' : B.set g7 (.var 32 [.iarr .u8 32 (ints e.addr), .int .i64 e.slot, .int .i64 e.count]) = Y := hY.symm
    try simp only [hY']
    try simp only [← hY]
    have hsY : B.Sub Y := by rw [hY]; exact sub_none hg7
    have y7 : Y g7 = some (.var T_api_Entry [.iarr .u8 32 (ints e.addr), .int .i64 e.slot, .int .i64 e.count]) := by rw [hY, set_eq']
    have hmY := hm.mono hsY
    clear hY hY'
    by_cases hc : e.count = 0
    · rw [if_pos hc] at hent
      obtain ⟨r8, hr8⟩ : ∃ r, r = q_table_Of_8 := ⟨_, rfl⟩; rw [← hr8]
      simp -implicitDefEqProofs [hr7, q_table_Of_7, y7, e32, hc]
      simp -implicitDefEqProofs [hr8, q_table_Of_8, y7, e32, eqZ e32]
      rw [en_eqZ]
      by_cases hz : e = enZ
      · rw [decide_eq_true hz]
        rw [if_pos hz] at hent
        simp -implicitDefEqProofs [hr13, q_table_Of_13, e22, wi]
        exact lp_next (i + 1) ⟨by omega, by simp [e0], by simp [e4], by simp [e20], by simp [e21], by simp, ⟨r, L, hmY, hrg, hent⟩⟩ (by omega)
      · rw [decide_eq_false hz]
        rw [if_neg hz] at hent
        simp -implicitDefEqProofs [q_table_Of_9, outOf]
        exact bad hent Y hmY.kp
    · rw [if_neg hc] at hent
      obtain ⟨r10, hr10⟩ : ∃ r, r = q_table_Of_10 := ⟨_, rfl⟩; rw [← hr10]
      obtain ⟨r11, hr11⟩ : ∃ r, r = q_table_Of_11 := ⟨_, rfl⟩; rw [← hr11]
      simp -implicitDefEqProofs [hr7, q_table_Of_7, y7, e32, hc]
      simp -implicitDefEqProofs [hr10, q_table_Of_10, e4, y7, e32]
      have hEe : (.agg [.iarr .u8 32 (ints e.addr), .int .i64 e.slot, .int .i64 e.count] : AV) = enA e := rfl
      rcases getV_of hm.tab e.addr with ⟨x, hx, hxa, hgv⟩ | ⟨hno, hgv⟩
      · refine (w_table_Get (k := (r.length : Int)) hm.tab (by omega) e hgv).call (.cons hmY.tb.vw rfl (.cons (.refl _) rfl .nil)) rfl ?_
        rw [if_pos ⟨x, hx, hxa⟩] at hent
        have x32 := x.h32
        have hX : enA x = .agg [.iarr .u8 32 (ints x.addr), .int .i64 x.slot, .int .i64 x.count] := rfl
        simp -implicitDefEqProofs [hX, x32]
        intro g8 hg8
        simp -implicitDefEqProofs [hr11, q_table_Of_11, q_table_Of_12, outOf]
        exact bad hent _ (sub_new hmY.kp hg8)
      · refine (w_table_Get (k := (r.length : Int)) hm.tab (by omega) e hgv).call (.cons hmY.tb.vw rfl (.cons (.refl _) rfl .nil)) rfl ?_
        rw [if_neg (fun ⟨x, hx, hxa⟩ => hno x hx hxa)] at hent
        have hX : enA enZ = .agg [.iarr .u8 32 (ints enZ.addr), .int .i64 enZ.slot, .int .i64 enZ.count] := rfl
        have z32' := enZ.h32
        simp -implicitDefEqProofs [hX, z32']
        intro g8 hg8
        have n87 : ¬ g7 = g8 := fun e => by rw [← e, y7] at hg8; cases hg8
        obtain ⟨Z, hZ⟩ : ∃ Z, Z = Y.set g8 (.var T_api_Entry [.iarr .u8 32 (ints enZ.addr), .int .i64 enZ.slot, .int .i64 enZ.count]) := ⟨_, rfl⟩
        have hZ' : Y.set g8 (.var 32 [.iarr .u8 32 (ints enZ.addr), .int .i64 enZ.slot, .int .i64 enZ.count]) = Z := hZ.symm
        try simp only [hZ']
        try simp only [← hZ]
        have hmZ : MdS n t h A r [] L .nilS Z := by rw [hZ]; exact hmY.mono (sub_none hg8)
        have z7 : Z g7 = some (.var T_api_Entry [.iarr .u8 32 (ints e.addr), .int .i64 e.slot, .int .i64 e.count]) := by rw [hZ, set_ne' n87]; exact y7
        clear hZ hZ'
        simp -implicitDefEqProofs [hr11, q_table_Of_11, e4, z7, e32]
        rw [hEe]
        refine hmZ.tabPut (by omega) hrg e fun L' C m2 hkp => ?_
        by_cases hp : putC n r e = 0
        · rw [if_pos hp] at hent
          have hpt : putT n r e = (tS n).putR e r := if_pos hp
          have hrg' := hrg.put e
          rw [hpt] at m2 hrg'
          simp -implicitDefEqProofs [hp, hr13, q_table_Of_13, e22, wi]
          exact lp_next (i + 1) ⟨by omega, by simp [e0], by simp [e4], by simp [e20], by simp [e21], by simp, ⟨_, L', m2, hrg', hent⟩⟩ (by omega)
        · rw [if_neg hp] at hent
          simp -implicitDefEqProofs [hp, q_table_Of_12, outOf]
          exact bad hent _ m2.kp
  · have hie : i = l.length := by omega
    subst hie
    rw [List.drop_length] at hent
    have hent' : entS n l [] = some r := hent
    simp -implicitDefEqProofs [hr14, q_table_Of_14, e0]
    refine X_lp (OfJ t h A l L r.length) (fun i => l.length - i) 0 ⟨by omega, by simp [e4], by simp, by simp, by simp, fun j hj => by omega, hm.tb, hm.kp⟩ ?_
    rintro i env B ⟨hil, e4, e47, e48, e49, heq, htb, kp⟩
    have hLl : L.length = n + 1 := hm.tab.len
    rw [q_table_Of_L20]
    obtain ⟨r16, hr16⟩ : ∃ r, r = q_table_Of_16 := ⟨_, rfl⟩; rw [← hr16]
    obtain ⟨r20, hr20⟩ : ∃ r, r = q_table_Of_20 := ⟨_, rfl⟩; rw [← hr20]
    simp -implicitDefEqProofs [q_table_Of_15, e48, e49]
    refine ⟨fun hlt => ?_, fun hge => ?_⟩
    · have hii : (i : Int) < l.length := by omega
      have wi : IntKind.i64.wrap ((i : Int) + 1) = (i : Int) + 1 := wrap_i64 (by omega)
      have hlL : i < L.length := by omega
      have hiL : (i : Int) < L.length := by omega
      obtain ⟨e, he⟩ : ∃ e, e = l[i] := ⟨_, rfl⟩
      have hE : enA l[i] = .agg [.iarr .u8 32 (ints e.addr), .int .i64 e.slot, .int .i64 e.count] := by rw [he]; rfl
      have e32 := e.h32
      obtain ⟨f, hf⟩ : ∃ f, f = L[i] := ⟨_, rfl⟩
      have hF : enA L[i] = .agg [.iarr .u8 32 (ints f.addr), .int .i64 f.slot, .int .i64 f.count] := by rw [hf]; rfl
      have f32 := f.h32
      have ct := htb.ct
      have ch := htb.ch
      obtain ⟨r17, hr17⟩ : ∃ r, r = q_table_Of_17 := ⟨_, rfl⟩; rw [← hr17]
      obtain ⟨r19, hr19⟩ : ∃ r, r = q_table_Of_19 := ⟨_, rfl⟩; rw [← hr19]
      simp -implicitDefEqProofs [hr16, q_table_Of_16, e47, e49, hlt, hii]
      rw [hE]
      simp -implicitDefEqProofs
      intro g11 hg11
      have hsY := sub_none (A := B) (c := .var 32 [.iarr .u8 32 (ints e.addr), .int .i64 e.slot, .int .i64 e.count]) hg11
      obtain ⟨Y, hY⟩ : ∃ Y, Y = B.set g11 (.var 32 [.iarr .u8 32 (ints e.addr), .int .i64 e.slot, .int .i64 e.count]) := ⟨_, rfl⟩
      try simp only [← hY]
      rw [← hY] at hsY
      have y11 : Y g11 = some (.var 32 [.iarr .u8 32 (ints e.addr), .int .i64 e.slot, .int .i64 e.count]) := by rw [hY, set_eq']
      clear hY
      have htY := htb.mono hsY
      have ct := htY.ct
      have ch := htY.ch
      simp -implicitDefEqProofs [hr17, q_table_Of_17, e4, ct, ch, y11, hlL, hiL, hF, e32, f32, eqA f32 e32]
      rw [en_eq]
      by_cases hfe : f = e
      · rw [decide_eq_true hfe]
        simp -implicitDefEqProofs [hr19, q_table_Of_19, e49, wi]
        refine lp_next (i + 1) ⟨by omega, by simp [e4], by simp [e47], by simp [e48], by simp, fun j hj => ?_, htY, sub_tr kp hsY⟩ (by omega)
        rcases Nat.lt_succ_iff_lt_or_eq.1 hj with h | rfl
        · exact heq j h
        · rw [List.getElem?_eq_getElem hlt, List.getElem?_eq_getElem hlL, ← he, ← hf, hfe]
      · rw [decide_eq_false hfe]
        simp -implicitDefEqProofs [q_table_Of_18, outOf]
        refine hk0 (.inr fun n' r' hn' hr' => ?_) Y (sub_tr kp hsY)
        have : n' = n := by omega
        subst this
        rw [hent'] at hr'
        injection hr' with hr'
        subst hr'
        refine ⟨L, hm.tab, fun e => hfe ?_⟩
        subst e
        rw [hf, he]
    · have hLe : L = l := List.ext_getElem? fun j => by
        by_cases hj : j < i
        · exact heq j hj
        · rw [List.getElem?_eq_none (by omega), List.getElem?_eq_none (by omega)]
      subst hLe
      simp -implicitDefEqProofs [hr20, q_table_Of_20, e4, outOf]
      exact hk1 n r t h B hn (by omega) hent' hm.tab hrg ht hh htb kp
end
end Go.Proofs.Ytilgdnbijkcboaa

/- The chapter's Entries. -/
namespace Go.Proofs.Ytilgdnbijkcboaa
open Go AVL
attribute [-simp] AV.isAgg aappI aapp alen szOK aslc List.reduceReplicate
set_option linter.unusedVariables false
set_option linter.unusedSimpArgs false
set_option maxRecDepth 8000

theorem en_eqZ' (e : En) : (decide (e.addr = z32) && (decide (e.slot = 0) && decide (e.count = 0))) = decide (e = enZ) := by
  have := en_eqZ e
  rw [← Bool.not_and, ← Bool.not_and] at this
  simpa using congrArg (! ·) this
structure EtI (n : Nat) (A : Heap) (l : List En) (i : Nat) (env : AEnv) (B : Heap) : Prop where
  le : i ≤ l.length
  e0 : env 0 = .dsl 34 (l.map enA)
  e5 : env 5 = .int .i64 i
  kp : A.Sub B
  md : ∃ r, EnsAt (env 4) r B ∧ Rg n r ∧ r.length ≤ i ∧ entS n l [] = entS n (l.drop i) r
theorem fiV_ge {n : Nat} {r : List En} (hr : (tS n).Rise r) (a : List Nat) : 0 ≤ fiV r a ↔ ∃ x ∈ r, x.addr = a := by
  have hf := fiV_lt r a
  constructor
  · intro h
    obtain ⟨hj, hk⟩ := fiV_key (r := r) (a := a) (j := (fiV r a).toNat) (by omega)
    exact ⟨_, List.getElem_mem hj, hk⟩
  · rintro ⟨x, hx, hxa⟩
    obtain ⟨i, hi, rfl⟩ := List.getElem_of_mem hx
    rw [fiV_at hr hi hxa]; omega
section
variable {A B : Heap} {K Kp : AV → Heap → Prop}
theorem w_ref11_Entries0 (hk : K (.tuple [.nilS, .bool true]) A) : SimX Try.prog F_ref11_Entries [.dsl 34 []] A (outK K Kp) := by
  refine j_ref11_Entries (by simp) ?_
  simp -implicitDefEqProofs [a_ref11_Entries, q_ref11_Entries_0, q_ref11_Entries_1, q_ref11_Entries_2]
  refine X_lp (fun (s : Unit) env B => env 0 = .dsl 34 [] ∧ env 4 = .nilS ∧ env 5 = .int .i64 0 ∧ B = A) (fun _ => 0) () ⟨by simp, by simp, by simp, rfl⟩ ?_
  rintro s env B ⟨e0, e4, e5, hB⟩
  simp -implicitDefEqProofs [q_ref11_Entries_L14, q_ref11_Entries_3, q_ref11_Entries_14, e0, e4, e5, outOf]
  rw [hB]; exact hk
theorem w_ref11_Entries {n : Nat} (hn36 : n < 2 ^ 36) (l : List En) (hn : l.length = n + 1) (hk0 : entS n l [] = none → ∀ B, A.Sub B → K (.tuple [.nilS, .bool false]) B)
    (hk1 : ∀ r v B, entS n l [] = some r → Rg n r → EnsAt v r B → A.Sub B → K (.tuple [v, .bool true]) B) : SimX Try.prog F_ref11_Entries [.dsl 34 (l.map enA)] A (outK K Kp) := by
  refine j_ref11_Entries (by simp) ?_
  unfold a_ref11_Entries
  simp -implicitDefEqProofs [q_ref11_Entries_0, q_ref11_Entries_1, q_ref11_Entries_2]
  refine X_lp (EtI n A l) (fun i => l.length - i) 0 ⟨by omega, by simp, by simp, Sub_refl A, ⟨[], .inl ⟨by simp, rfl⟩, Rg.nil n, by simp, by simp⟩⟩ ?_
  rintro i env B ⟨hil, e0, e5, kp, ⟨r, hv, hrg, hrl, hent⟩⟩
  rw [q_ref11_Entries_L14]
  obtain ⟨r4, hr4⟩ : ∃ r, r = q_ref11_Entries_4 := ⟨_, rfl⟩; rw [← hr4]
  obtain ⟨r14, hr14⟩ : ∃ r, r = q_ref11_Entries_14 := ⟨_, rfl⟩; rw [← hr14]
  simp -implicitDefEqProofs [q_ref11_Entries_3, e0, e5]
  refine ⟨fun hlt => ?_, fun hge => ?_⟩
  · have hii : (i : Int) < l.length := by omega
    have wi : IntKind.i64.wrap ((i : Int) + 1) = (i : Int) + 1 := wrap_i64 (by omega)
    obtain ⟨e, he⟩ : ∃ e, e = l[i] := ⟨_, rfl⟩
    have hE : enA l[i] = .agg [.iarr .u8 32 (ints e.addr), .int .i64 e.slot, .int .i64 e.count] := by rw [he]; rfl
    have e32 := e.h32
    rw [List.drop_eq_getElem_cons hlt, ← he] at hent
    have hstep : entS n (e :: l.drop (i + 1)) r = if e.count = 0 then (if e = enZ then entS n (l.drop (i + 1)) r else none) else if ∃ x ∈ r, x.addr = e.addr then none else if putC n r e = 0 then entS n (l.drop (i + 1)) ((tS n).putR e r) else none := rfl
    rw [hstep] at hent
    obtain ⟨w, hw⟩ : ∃ w, w = env 4 := ⟨_, rfl⟩
    rw [← hw] at hv
    have hs := hv.scl
    obtain ⟨r5, hr5⟩ : ∃ r, r = q_ref11_Entries_5 := ⟨_, rfl⟩; rw [← hr5]
    obtain ⟨r7, hr7⟩ : ∃ r, r = q_ref11_Entries_7 := ⟨_, rfl⟩; rw [← hr7]
    obtain ⟨r13, hr13⟩ : ∃ r, r = q_ref11_Entries_13 := ⟨_, rfl⟩; rw [← hr13]
    simp -implicitDefEqProofs [hr4, q_ref11_Entries_4, e0, e5, hlt, hii]
    rw [hE]
    simp -implicitDefEqProofs
    refine ⟨fun hc => ?_, fun hc => ?_⟩
    · rw [if_pos hc] at hent
      simp -implicitDefEqProofs [hr5, q_ref11_Entries_5, e0, e5, hlt, hii]
      rw [hE]
      simp -implicitDefEqProofs [eqZ e32]
      rw [en_eqZ']
      by_cases hz : e = enZ
      · rw [decide_eq_true hz]
        rw [if_pos hz] at hent
        simp -implicitDefEqProofs [hr13, q_ref11_Entries_13, e5, wi]
        exact lp_next (i + 1) ⟨by omega, by simp [e0], by simp, kp, ⟨r, by simpa [← hw] using hv, hrg, by omega, hent⟩⟩ (by omega)
      · rw [decide_eq_false hz]
        rw [if_neg hz] at hent
        simp -implicitDefEqProofs [q_ref11_Entries_6, outOf]
        exact hk0 hent B kp
    · rw [if_neg hc] at hent
      obtain ⟨r9, hr9⟩ : ∃ r, r = q_ref11_Entries_9 := ⟨_, rfl⟩; rw [← hr9]
      simp -implicitDefEqProofs [hr7, q_ref11_Entries_7, e0, e5, ← hw, hlt, hii]
      rw [hE]
      simp -implicitDefEqProofs [e32, hs.shp, hs.good, hs.comps, hs.agg]
      refine (w_ref11_Find r e32 (by omega)).call (.cons (rowAt_vw hv) hs.agg (.cons (.refl _) rfl .nil)) rfl ?_
      have hge := fiV_ge hrg.rise e.addr
      by_cases hex : ∃ x ∈ r, x.addr = e.addr
      · rw [if_pos hex] at hent
        have hge' : 0 ≤ fiV r e.addr := hge.2 hex
        simp -implicitDefEqProofs [hge', q_ref11_Entries_8, outOf]
        exact hk0 hent B kp
      · rw [if_neg hex] at hent
        have hge' : ¬ 0 ≤ fiV r e.addr := fun h => hex (hge.1 h)
        have hEe : (.agg [.iarr .u8 32 (ints e.addr), .int .i64 e.slot, .int .i64 e.count] : AV) = enA e := rfl
        obtain ⟨r10, hr10⟩ : ∃ r, r = q_ref11_Entries_10 := ⟨_, rfl⟩; rw [← hr10]
        obtain ⟨r12, hr12⟩ : ∃ r, r = q_ref11_Entries_12 := ⟨_, rfl⟩; rw [← hr12]
        simp -implicitDefEqProofs [hge']
        simp -implicitDefEqProofs [hr9, q_ref11_Entries_9, e0, e5, ← hw, hlt, hii]
        rw [hE]
        simp -implicitDefEqProofs [e32, hs.shp, hs.good, hs.comps, hs.agg]
        rw [hEe, hn]
        refine w_ref11_Put (by omega) (by omega) hrg.rise hv e fun v' C hsC hv' _ => ?_
        have hs' := hv'.scl
        simp -implicitDefEqProofs [hs'.shp, hs'.good, hs'.comps, hs'.agg]
        by_cases hp : putC n r e = 0
        · rw [if_pos hp] at hent
          have hpt : putT n r e = (tS n).putR e r := if_pos hp
          have hrg' := hrg.put e
          rw [hpt] at hv' hrg'
          have hln : ((tS n).putR e r).length = r.length + 1 := by rw [TS.len_putR hrg.rise]; exact if_neg hex
          simp -implicitDefEqProofs [hr10, q_ref11_Entries_10, hp]
          simp -implicitDefEqProofs [hr12, q_ref11_Entries_12, hr13, q_ref11_Entries_13, e5, wi]
          exact lp_next (i + 1) ⟨by omega, by simp [e0], by simp, sub_tr kp hsC, ⟨_, by simpa using hv', hrg', by omega, hent⟩⟩ (by omega)
        · rw [if_neg hp] at hent
          simp -implicitDefEqProofs [hr10, q_ref11_Entries_10, hp, q_ref11_Entries_11, outOf]
          exact hk0 hent C (sub_tr kp hsC)
  · have hie : i = l.length := by omega
    subst hie
    rw [List.drop_length] at hent
    simp -implicitDefEqProofs [hr14, q_ref11_Entries_14, outOf]
    exact hk1 r _ B hent hrg hv kp
end
end Go.Proofs.Ytilgdnbijkcboaa

/- The play's own table, plainly. -/
namespace Go.Proofs.Ytilgdnbijkcboaa
open Go AVL
set_option linter.unusedVariables false
set_option linter.unusedSimpArgs false
set_option maxRecDepth 8000

section
variable {α κ : Type} (S : TS α κ)
instance (x y : α) (p : Nat) : Decidable (S.beats x y p) := by unfold TS.beats; exact inferInstance
instance (f : Nat → α) (x : α) (d : Nat) : Decidable (S.passed f x d) := by unfold TS.passed; exact inferInstance
instance (f : Nat → α) : Decidable (S.OK f) := by unfold TS.OK; exact inferInstance
end
/-- A table, checked. -/
theorem tab_of {n : Nat} {L r : List En} (h1 : L.length = n + 1) (h2 : (tS n).OK ((tS n).fn L)) (h3 : ∀ i, i < n + 1 → ∀ j, j < n + 1 → (tS n).emp ((tS n).fn L i) = false → (tS n).emp ((tS n).fn L j) = false → ((tS n).fn L i).addr = ((tS n).fn L j).addr → i = j) (h4 : ∀ i, i < n + 1 → (tS n).emp ((tS n).fn L i) = true → (tS n).fn L i = enZ)
    (h5 : ∀ i, i < n + 1 → (tS n).emp ((tS n).fn L i) = false → (tS n).fn L i ∈ r) (h6 : ∀ x ∈ r, ∃ i, i < n + 1 ∧ (tS n).fn L i = x ∧ (tS n).emp x = false) (h7 : (tS n).cnt L = r.length) (h8 : r.length < n + 1) : (tS n).Tab L r where
  len := h1
  ok := h2
  dist := fun i j hi hj => h3 i hi j hj
  zero := h4
  has := fun x => ⟨fun ⟨i, hi, hx, hxe⟩ => by subst hx; exact h5 i hi hxe, fun hx => h6 x hx⟩
  cn := h7
  room := h8
def at7 (a b : Nat) : List Nat := [0, 0, 0, 0, 0, a, b] ++ List.replicate 25 0
def eA : En := ⟨at7 5 2, 1, 1, by unfold byts; decide, rfl, by decide, by decide, by decide, by decide⟩
def eB : En := ⟨at7 5 1, 2, 3, by unfold byts; decide, rfl, by decide, by decide, by decide, by decide⟩
def eC : En := ⟨at7 6 0, 3, 1, by unfold byts; decide, rfl, by decide, by decide, by decide, by decide⟩
def P3 : List En := [eC, enZ, enZ, enZ, enZ, eB, eA]
def P4 : List En := [enZ, enZ, enZ, enZ, enZ, eA, eC]
theorem p1 : putT 6 [] eA = [eA] ∧ putC 6 [] eA = 0 := by decide +kernel
theorem p2 : putT 6 [eA] eB = [eB, eA] ∧ putC 6 [eA] eB = 0 := by decide +kernel
theorem p3 : putT 6 [eB, eA] eC = [eB, eA, eC] ∧ putC 6 [eB, eA] eC = 0 := by decide +kernel
theorem p4 : putT 6 [eB, eA, eC] enZ = [eB, eA, eC] ∧ putC 6 [eB, eA, eC] enZ = 2 := by decide +kernel
theorem d1 : dropT 6 [eB, eA, eC] eB.addr = [eA, eC] ∧ dropC [eB, eA, eC] eB.addr = 0 := by decide +kernel
theorem d2 : dropT 6 [eA, eC] eB.addr = [eA, eC] ∧ dropC [eA, eC] eB.addr = 8 := by decide +kernel
theorem tabP3 : (tS 6).Tab P3 [eB, eA, eC] := tab_of (by decide +kernel) (by decide +kernel) (by decide +kernel) (by decide +kernel) (by decide +kernel) (fun x hx => by
  simp only [List.mem_cons, List.not_mem_nil, or_false] at hx
  rcases hx with rfl | rfl | rfl
  · exact ⟨5, by decide, by decide +kernel, by decide +kernel⟩
  · exact ⟨6, by decide, by decide +kernel, by decide +kernel⟩
  · exact ⟨0, by decide, by decide +kernel, by decide +kernel⟩) (by decide +kernel) (by decide)
theorem tabP4 : (tS 6).Tab P4 [eA, eC] := tab_of (by decide +kernel) (by decide +kernel) (by decide +kernel) (by decide +kernel) (by decide +kernel) (fun x hx => by
  simp only [List.mem_cons, List.not_mem_nil, or_false] at hx
  rcases hx with rfl | rfl
  · exact ⟨5, by decide, by decide +kernel, by decide +kernel⟩
  · exact ⟨6, by decide, by decide +kernel, by decide +kernel⟩) (by decide +kernel) (by decide)
theorem entP3 : entS 6 P3 [] = some [eB, eA, eC] := by decide +kernel
theorem lngP3 : lngL 6 P3 7 = 1 := by decide +kernel
theorem sltP4 : sltL P4 1 = some eA := by decide +kernel
theorem getP4 : GetV 6 P4 eC.addr eC true := .inl ⟨rfl, 6, by decide, by decide +kernel, by decide +kernel, rfl⟩
theorem w_law11_at (a b : Nat) (ha : a < 256) (hb : b < 256) : Gives Try.prog F_law11_at [.int .u8 a, .int .u8 b] (.iarr .u8 32 (ints (at7 a b))) := by
  refine v_law11_at (by simp) ?_
  simp -implicitDefEqProofs [a_law11_at, q_law11_at_0, q_law11_at_1, outOf, at7, ints]
end Go.Proofs.Ytilgdnbijkcboaa

/- The play's own table. -/
namespace Go.Proofs.Ytilgdnbijkcboaa
open Go AVL
attribute [-simp] AV.isAgg aappI aapp alen szOK aslc List.reduceReplicate
set_option linter.unusedVariables false
set_option linter.unusedSimpArgs false
set_option maxRecDepth 8000

section
variable {A B : Heap} {K Kp : AV → Heap → Prop}
theorem Of_call {l : List En} (hl : l.length < 2 ^ 40) {v : AV} (hv : Vw B v (.dsl 34 (l.map enA))) (hva : v.isAgg = false) (hk0 : OfBad l → ∀ C, B.Sub C → K (.tuple [.nilP, .bool false]) C)
    (hk1 : ∀ n r t h C, l.length = n + 1 → n < 406 → entS n l [] = some r → TS.Tab (tS n) l r → Rg n r → B t = none → B h = none → TbI t h l r.length C → B.Sub C → K (.tuple [.ptr t 0, .bool true]) C) : SimX Try.prog F_table_Of [v] B (outK K Kp) := by
  refine SimX.alone (w_table_Of (A := H0) (K := fun w C => (OfBad l ∧ w = .tuple [.nilP, .bool false]) ∨ ∃ n r t h, w = .tuple [.ptr t 0, .bool true] ∧ l.length = n + 1 ∧ n < 406 ∧ entS n l [] = some r ∧ TS.Tab (tS n) l r ∧ Rg n r ∧ TbI t h l r.length C) (Kp := fun _ _ => False) l hl
    (fun hb C _ => .inl ⟨hb, rfl⟩) (fun n r t h C h1 h2 h3 h4 h5 _ _ h6 _ => .inr ⟨n, r, t, h, rfl, h1, h2, h3, h4, h5, h6⟩)) (.cons hv hva .nil) ?_ ?_
  · intro o C ho
    cases o with
    | ret w =>
      rcases ho with ⟨_, rfl⟩ | ⟨n, r, t, h, rfl, _⟩ <;> rfl
    | pan w => exact ho.elim
  · intro o B' C ho hs hj
    cases o with
    | ret w =>
      rcases ho with ⟨hb, rfl⟩ | ⟨n, r, t, h, rfl, h1, h2, h3, h4, h5, h6⟩
      · exact hk0 hb C hs
      · obtain ⟨t1, t2⟩ := hj t _ h6.ct rfl
        obtain ⟨k1, k2⟩ := hj h _ h6.ch (en_noFs l)
        exact hk1 n r t h C h1 h2 h3 h4 h5 t1 k1 ⟨t2, k2⟩ hs
    | pan w => exact ho.elim
/-- All that a table is not in stays, so a row does. -/
theorem row_keep {t h g : Nat} {c : List AV} {B C : Heap} {L : List En} {k : Int} (hk : Keep t h B C) (hi : TbI t h L k B) (hg : B g = some (.row T_api_Entry 34 c)) (hn : g ≠ h) : C g = some (.row T_api_Entry 34 c) :=
  hk g _ (fun e => by subst e; rw [hi.ct] at hg; cases hg) hn hg
theorem w_law11_works : Gives Try.prog F_law11_works [] (.bool true) := by
  refine v_law11_works (by simp) ?_
  unfold a_law11_works
  obtain ⟨r2, hr2⟩ : ∃ r, r = q_law11_works_2 := ⟨_, rfl⟩; rw [← hr2]
  obtain ⟨r3, hr3⟩ : ∃ r, r = q_law11_works_3 := ⟨_, rfl⟩; rw [← hr3]
  obtain ⟨r5, hr5⟩ : ∃ r, r = q_law11_works_5 := ⟨_, rfl⟩; rw [← hr5]
  obtain ⟨r6, hr6⟩ : ∃ r, r = q_law11_works_6 := ⟨_, rfl⟩; rw [← hr6]
  obtain ⟨r7, hr7⟩ : ∃ r, r = q_law11_works_7 := ⟨_, rfl⟩; rw [← hr7]
  obtain ⟨r8, hr8⟩ : ∃ r, r = q_law11_works_8 := ⟨_, rfl⟩; rw [← hr8]
  obtain ⟨r9, hr9⟩ : ∃ r, r = q_law11_works_9 := ⟨_, rfl⟩; rw [← hr9]
  obtain ⟨r10, hr10⟩ : ∃ r, r = q_law11_works_10 := ⟨_, rfl⟩; rw [← hr10]
  obtain ⟨r12, hr12⟩ : ∃ r, r = q_law11_works_12 := ⟨_, rfl⟩; rw [← hr12]
  obtain ⟨r13, hr13⟩ : ∃ r, r = q_law11_works_13 := ⟨_, rfl⟩; rw [← hr13]
  obtain ⟨r14, hr14⟩ : ∃ r, r = q_law11_works_14 := ⟨_, rfl⟩; rw [← hr14]
  obtain ⟨r15, hr15⟩ : ∃ r, r = q_law11_works_15 := ⟨_, rfl⟩; rw [← hr15]
  obtain ⟨r16, hr16⟩ : ∃ r, r = q_law11_works_16 := ⟨_, rfl⟩; rw [← hr16]
  obtain ⟨r17, hr17⟩ : ∃ r, r = q_law11_works_17 := ⟨_, rfl⟩; rw [← hr17]
  obtain ⟨r18, hr18⟩ : ∃ r, r = q_law11_works_18 := ⟨_, rfl⟩; rw [← hr18]
  obtain ⟨r19, hr19⟩ : ∃ r, r = q_law11_works_19 := ⟨_, rfl⟩; rw [← hr19]
  obtain ⟨r20, hr20⟩ : ∃ r, r = q_law11_works_20 := ⟨_, rfl⟩; rw [← hr20]
  simp -implicitDefEqProofs [q_law11_works_0, q_law11_works_1]
  refine w_table_New (fun h => by omega) fun _ _ t h B1 ht hh hi hs => ?_
  have m1 : MdS 6 t h H0 [] [] (List.replicate 7 enZ) .nilS B1 := ⟨hi, .inl ⟨rfl, rfl⟩, TS.Tab.nil (S := tS 6), (fun m e => by cases e), ht, hh, hs⟩
  simp -implicitDefEqProofs [hr2, q_law11_works_2]
  refine w_table_New (fun _ => ?_) (fun h => by omega)
  simp -implicitDefEqProofs [hr3, q_law11_works_3]
  simp -implicitDefEqProofs [hr5, q_law11_works_5]
  refine (w_law11_at 5 2 (by decide) (by decide)).call (.cons (.refl _) rfl (.cons (.refl _) rfl .nil)) rfl ?_
  have l52 : (at7 5 2).length = 32 := rfl
  have l51 : (at7 5 1).length = 32 := rfl
  have l60 : (at7 6 0).length = 32 := rfl
  have hA : (.agg [.iarr .u8 32 (ints (at7 5 2)), .int .i64 1, .int .i64 1] : AV) = enA eA := rfl
  have hB : (.agg [.iarr .u8 32 (ints (at7 5 1)), .int .i64 2, .int .i64 3] : AV) = enA eB := rfl
  have hC : (.agg [.iarr .u8 32 (ints (at7 6 0)), .int .i64 3, .int .i64 1] : AV) = enA eC := rfl
  have rg1 : Rg 6 [eA] := by have := (Rg.nil 6).put eA; rwa [p1.1] at this
  have rg2 : Rg 6 [eB, eA] := by have := rg1.put eB; rwa [p2.1] at this
  have rg3 : Rg 6 [eB, eA, eC] := by have := rg2.put eC; rwa [p3.1] at this
  have rg4 : Rg 6 [eA, eC] := by have := rg3.drop eB.addr; rwa [d1.1] at this
  simp -implicitDefEqProofs [l52]
  rw [hA]
  refine m1.tabPut (by omega) (Rg.nil 6) eA fun L1 B2 m2 k2 => ?_
  rw [p1.2]; rw [p1.1] at m2
  simp -implicitDefEqProofs [hr6, q_law11_works_6]
  refine (w_law11_at 5 1 (by decide) (by decide)).call (.cons (.refl _) rfl (.cons (.refl _) rfl .nil)) rfl ?_
  simp -implicitDefEqProofs [l51]
  rw [hB]
  refine m2.tabPut (by omega) rg1 eB fun L2 B3 m3 k3 => ?_
  rw [p2.2]; rw [p2.1] at m3
  simp -implicitDefEqProofs [hr7, q_law11_works_7]
  refine (w_law11_at 6 0 (by decide) (by decide)).call (.cons (.refl _) rfl (.cons (.refl _) rfl .nil)) rfl ?_
  simp -implicitDefEqProofs [l60]
  rw [hC]
  refine m3.tabPut (by omega) rg2 eC fun L3 B4 m4 k4 => ?_
  rw [p3.2]; rw [p3.1] at m4
  simp -implicitDefEqProofs [hr8, q_law11_works_8]
  rw [enA_Z]
  refine m4.tabPut (by omega) rg3 enZ fun L4 B5 m5 k5 => ?_
  rw [p4.2]; rw [p4.1] at m5
  have hL4 : L4 = P3 := m5.tab.uniq tabP3 (fun x => Iff.rfl)
  subst hL4
  simp -implicitDefEqProofs [hr9, q_law11_works_9]
  refine (w_table_Places P3 _ (by decide)).call (.cons m5.tb.vw rfl .nil) (en_noFs P3) fun v9 B6 hv9 => ?_
  obtain ⟨g9, hg9e, hg9, c9⟩ := hv9.pos (by decide)
  have m6 := m5.mono hv9.sub
  have n9h : g9 ≠ h := fun e => by rw [e, m5.tb.ch] at hg9; cases hg9
  have hg9e' : v9 = .own g9 0 7 := hg9e
  subst hg9e'
  have vw9 : Vw B6 (.own g9 0 7) (.dsl 34 (P3.map enA)) := hv9.vw
  clear hg9e hv9
  simp -implicitDefEqProofs [hr10, q_law11_works_10]
  simp -implicitDefEqProofs [hr12, q_law11_works_12]
  refine Of_call (l := P3) (by decide) vw9 rfl (fun hb C hs => ?_) fun nn rr t2 h2 C hln _ hent hTb _ ht2 hh2 hi2 hs => ?_
  · exfalso
    rcases hb with hb | hb
    · exact hb (by decide)
    · obtain ⟨L, hL, hne⟩ := hb 6 _ rfl entP3
      exact hne (hL.uniq tabP3 fun x => Iff.rfl)
  have m7 := m6.mono hs
  have c9' := hs _ _ c9
  clear hln hent hTb hi2
  have hlg := w_table_Longest (n := 6) (L := P3) (k := (3 : Int)) rfl (by decide)
  rw [lngP3] at hlg
  simp -implicitDefEqProofs [hr13, q_law11_works_13]
  refine hlg.call (.cons m7.tb.vw rfl .nil) rfl ?_
  simp -implicitDefEqProofs [hr14, q_law11_works_14]
  refine (w_law11_at 5 1 (by decide) (by decide)).call (.cons (.refl _) rfl (.cons (.refl _) rfl .nil)) rfl ?_
  have hB2 : ints (at7 5 1) = ints eB.addr := rfl
  have hC2 : ints (at7 6 0) = ints eC.addr := rfl
  have lB := eB.h32
  have lC := eC.h32
  simp -implicitDefEqProofs [l51]
  rw [hB2]
  refine m7.tabDrop (by omega) rg3 eB fun L5 B7 m8 k8 => ?_
  have c9'' := row_keep k8 m7.tb c9' n9h
  rw [d1.2]; rw [d1.1] at m8
  simp -implicitDefEqProofs [hr15, q_law11_works_15]
  refine (w_law11_at 5 1 (by decide) (by decide)).call (.cons (.refl _) rfl (.cons (.refl _) rfl .nil)) rfl ?_
  simp -implicitDefEqProofs [l51]
  rw [hB2]
  refine m8.tabDrop (by omega) rg4 eB fun L6 B8 m9 k9 => ?_
  have c9a := row_keep k9 m8.tb c9'' n9h
  rw [d2.2]; rw [d2.1] at m9
  have hL6 : L6 = P4 := m9.tab.uniq tabP4 (fun x => Iff.rfl)
  subst hL6
  simp -implicitDefEqProofs [hr16, q_law11_works_16]
  refine (w_table_Places P4 _ (by decide)).call (.cons m9.tb.vw rfl .nil) (en_noFs P4) fun v15 B9 hv15 => ?_
  obtain ⟨g15, hg15e, hg15, c15⟩ := hv15.pos (by decide)
  have m10 := m9.mono hv15.sub
  have c9b := hv15.sub _ _ c9a
  have hg15e' : v15 = .own g15 0 7 := hg15e
  subst hg15e'
  clear hg15e
  simp -implicitDefEqProofs [hr17, q_law11_works_17]
  refine (w_law11_at 6 0 (by decide) (by decide)).call (.cons (.refl _) rfl (.cons (.refl _) rfl .nil)) rfl ?_
  simp -implicitDefEqProofs [l60]
  rw [hC2]
  refine (w_table_Get (k := (2 : Int)) tabP4 (by decide) eC getP4).call (.cons m10.tb.vw rfl (.cons (.refl _) rfl .nil)) rfl ?_
  have hCx : enA eC = .agg [.iarr .u8 32 (ints eC.addr), .int .i64 3, .int .i64 1] := rfl
  have hAx : enA eA = .agg [.iarr .u8 32 (ints eA.addr), .int .i64 1, .int .i64 1] := rfl
  have hBx : enA eB = .agg [.iarr .u8 32 (ints eB.addr), .int .i64 2, .int .i64 3] := rfl
  have lA := eA.h32
  simp -implicitDefEqProofs [hCx, lC]
  intro g16 hg16
  obtain ⟨Y, hY⟩ : ∃ Y, Y = B9.set g16 (.var 32 [.iarr .u8 32 (ints eC.addr), .int .i64 3, .int .i64 1]) := ⟨_, rfl⟩
  try simp only [← hY]
  have hsY : B9.Sub Y := by rw [hY]; exact sub_none hg16
  have y16 : Y g16 = some (.var 32 [.iarr .u8 32 (ints eC.addr), .int .i64 3, .int .i64 1]) := by rw [hY, set_eq']
  clear hY
  have m11 := m10.mono hsY
  have y9 := hsY _ _ c9b
  have y15 := hsY _ _ c15
  have hsl := w_table_Slot P4 (2 : Int) 1 (by decide)
  rw [sltP4] at hsl
  simp -implicitDefEqProofs [hr18, q_law11_works_18]
  refine hsl.call (.cons m11.tb.vw rfl (.cons (.refl _) rfl .nil)) rfl ?_
  simp -implicitDefEqProofs [hAx, lA]
  intro g18 hg18
  obtain ⟨Z, hZ⟩ : ∃ Z, Z = Y.set g18 (.var 32 [.iarr .u8 32 (ints eA.addr), .int .i64 1, .int .i64 1]) := ⟨_, rfl⟩
  try simp only [← hZ]
  have hsZ : Y.Sub Z := by rw [hZ]; exact sub_none hg18
  have z18 : Z g18 = some (.var 32 [.iarr .u8 32 (ints eA.addr), .int .i64 1, .int .i64 1]) := by rw [hZ, set_eq']
  clear hZ
  have m12 := m11.mono hsZ
  have z9 := hsZ _ _ y9
  have z15 := hsZ _ _ y15
  have z16 := hsZ _ _ y16
  simp -implicitDefEqProofs [hr19, q_law11_works_19]
  refine w_table_Copy m12.tb (by decide) (by decide) fun t3 h3 W ht3 hh3 hi3 hsW => ?_
  have m13 := m12.mono hsW
  have w9 := hsW _ _ z9
  have w15 := hsW _ _ z15
  have w16 := hsW _ _ z16
  have w18 := hsW _ _ z18
  have q5 : P3.map enA = [enA eC, enA enZ, enA enZ, enA enZ, enA enZ, enA eB, enA eA] := rfl
  have q6 : P4.map enA = [enA enZ, enA enZ, enA enZ, enA enZ, enA enZ, enA eA, enA eC] := rfl
  rw [q5] at w9
  rw [q6] at w15
  have hA3 : ints (at7 5 2) = ints eA.addr := rfl
  have hln := w_table_Len P4 (2 : Int)
  have hsz := w_table_Size P4 (2 : Int)
  have hq := w_law11_at 5 2 (by decide) (by decide)
  rw [hA3] at hq
  simp -implicitDefEqProofs [hr20, q_law11_works_20, w9, w15, w16, w18, hAx, hBx, hCx, lA, lB, lC]
  refine hq.call (.cons (.refl _) rfl (.cons (.refl _) rfl .nil)) rfl ?_
  simp -implicitDefEqProofs [eqA lA lA, Sub_refl]
  refine hln.call (.cons hi3.vw rfl .nil) rfl ?_
  simp -implicitDefEqProofs
  refine hsz.call (.cons m13.tb.vw rfl .nil) rfl ?_
  simp -implicitDefEqProofs [P4, outOf]
end
end Go.Proofs.Ytilgdnbijkcboaa

/- Entries and acts among the arguments. -/
namespace Go.Proofs.Ytilgdnbijkcboaa
open Go AVL
set_option linter.unusedVariables false
set_option linter.unusedSimpArgs false

theorem en_parts {a s c : AV} (ha : (ATy.iarr .u8 32).has a) (hs : (ATy.int .i64).has s) (hc : (ATy.int .i64).has c) : ∃ e : En, a = .iarr .u8 32 (ints e.addr) ∧ s = .int .i64 e.slot ∧ c = .int .i64 e.count := by
  unfold ATy.has at ha hs hc
  obtain ⟨x, rfl, hxl, wx⟩ := ha
  obtain ⟨n, rfl, wn⟩ := hs
  obtain ⟨m, rfl, wm⟩ := hc
  obtain ⟨x, rfl, hx⟩ := bytes_in wx
  obtain ⟨n1, n2⟩ := i64_in wn
  obtain ⟨m1, m2⟩ := i64_in wm
  exact ⟨⟨x, n, m, hx, by simpa using hxl, n1, n2, m1, m2⟩, rfl, rfl, rfl⟩
theorem en_in {v : AV} (h : (ATy.agg [.iarr .u8 32, .int .i64, .int .i64]).has v) : ∃ e : En, v = enA e := by
  unfold ATy.has at h
  obtain ⟨l, rfl, h⟩ := h
  simp only [ATy.hasL] at h
  obtain ⟨a, _, rfl, h1, s, _, rfl, h2, c, _, rfl, h3, rfl⟩ := h
  obtain ⟨e, rfl, rfl, rfl⟩ := en_parts h1 h2 h3
  exact ⟨e, rfl⟩
theorem op_in {v : AV} (h : (ATy.agg [.int .i64, .iarr .u8 32, .int .i64, .int .i64]).has v) : ∃ o : OpP, v = opA o := by
  unfold ATy.has at h
  obtain ⟨l, rfl, h⟩ := h
  simp only [ATy.hasL] at h
  obtain ⟨k, _, rfl, h0, a, _, rfl, h1, s, _, rfl, h2, c, _, rfl, h3, rfl⟩ := h
  obtain ⟨e, rfl, rfl, rfl⟩ := en_parts h1 h2 h3
  unfold ATy.has at h0
  obtain ⟨k, rfl, _⟩ := h0
  exact ⟨⟨k, e⟩, rfl⟩
theorem all_in {α : Type} {t : ATy} {f : α → AV} (hf : ∀ v, t.has v → ∃ a, v = f a) : ∀ {l : List AV}, (∀ x ∈ l, t.has x) → ∃ m : List α, l = m.map f
  | [], _ => ⟨[], rfl⟩
  | x :: l, h => by
    obtain ⟨a, rfl⟩ := hf x (h x (by simp))
    obtain ⟨m, rfl⟩ := all_in hf (l := l) fun y hy => h y (by simp [hy])
    exact ⟨a :: m, rfl⟩
theorem ens_in {l : List AV} (h : ∀ x ∈ l, (ATy.agg [.iarr .u8 32, .int .i64, .int .i64]).has x) : ∃ m : List En, l = m.map enA := all_in (fun _ => en_in) h
theorem ops_in {l : List AV} (h : ∀ x ∈ l, (ATy.agg [.int .i64, .iarr .u8 32, .int .i64, .int .i64]).has x) : ∃ m : List OpP, l = m.map opA := all_in (fun _ => op_in) h
end Go.Proofs.Ytilgdnbijkcboaa

/- TableOne. -/
namespace Go.Proofs.Ytilgdnbijkcboaa
open Go AVL
attribute [-simp] AV.isAgg aappI aapp alen shp good comps szOK aslc List.reduceReplicate
set_option linter.unusedVariables false
set_option linter.unusedSimpArgs false
set_option maxRecDepth 8000

theorem w_law11_size (c : Nat) (hc : c < 256) : Gives Try.prog F_law11_size [.int .u8 c] (.int .i64 ((c % 24 + 1 : Nat) : Int)) := by
  refine v_law11_size (by simp) ?_
  have h1 : IntKind.i64.wrap (c : Int) = (c : Int) := wrap_i64 (by omega)
  have h2 : (c : Int).tmod 24 = ((c % 24 : Nat) : Int) := (Int.ofNat_tmod c 24).symm
  have h3 : IntKind.i64.wrap ((c % 24 : Nat) : Int) = ((c % 24 : Nat) : Int) := wrap_i64 (by omega)
  have h4 : IntKind.i64.wrap (1 + ((c % 24 : Nat) : Int)) = ((c % 24 + 1 : Nat) : Int) := by rw [wrap_i64 (by omega)]; omega
  obtain ⟨m, hm⟩ : ∃ m, m = c % 24 := ⟨_, rfl⟩
  rw [← hm] at h2 h3 h4 ⊢
  obtain ⟨N, hN⟩ : ∃ N : Nat, N = m + 1 := ⟨_, rfl⟩
  rw [← hN] at h4 ⊢
  simp -implicitDefEqProofs [a_law11_size, q_law11_size_0, q_law11_size_1, h1, h2, h3, h4, outOf]
theorem w_TableOne (c : Nat) (hc : c < 256) (l : List OpP) (hl : l.length < 2 ^ 63) : Gives Try.prog F_law11_TableOne [.int .u8 c, .dsl 35 (l.map opA)] (.bool true) := by
  refine v_law11_TableOne (by simp) ?_
  unfold a_law11_TableOne
  obtain ⟨r3, hr3⟩ : ∃ r, r = q_law11_TableOne_3 := ⟨_, rfl⟩; rw [← hr3]
  obtain ⟨r4, hr4⟩ : ∃ r, r = q_law11_TableOne_4 := ⟨_, rfl⟩; rw [← hr4]
  by_cases h80 : (l.length : Int) > 80
  · have h80' : (80 : Int) < l.length := h80
    simp -implicitDefEqProofs [q_law11_TableOne_0, q_law11_TableOne_1, q_law11_TableOne_2, h80, h80', outOf]
    refine w_law11_works.call .nil rfl ?_
    simp -implicitDefEqProofs [outOf]
  have h80' : ¬ (80 : Int) < l.length := h80
  have hsz := w_law11_size c hc
  obtain ⟨n, hn⟩ : ∃ n, n = c % 24 := ⟨_, rfl⟩
  rw [← hn] at hsz
  have hn24 : n < 24 := by omega
  simp -implicitDefEqProofs [q_law11_TableOne_0, q_law11_TableOne_1, h80, h80']
  simp -implicitDefEqProofs [hr3, q_law11_TableOne_3, shp, good, comps]
  refine hsz.call (.cons (.refl _) rfl .nil) rfl ?_
  simp -implicitDefEqProofs [shp, good, comps]
  refine w_law11_made (by omega) l (by omega) fun t h L v B m => ?_
  have hs := m.en.scl
  have hrg := runs_rg n l l.length (Nat.le_refl _)
  rw [List.take_length] at hrg
  have hroom : (runs n l).length < n + 1 := m.tab.room
  have hLl : L.length = n + 1 := m.tab.len
  simp -implicitDefEqProofs [hs.shp, hs.good, hs.comps, hs.agg]
  simp -implicitDefEqProofs [hr4, q_law11_TableOne_4, shp, good, comps]
  refine (w_table_Places L _ (by omega)).call (.cons m.tb.vw rfl .nil) (en_noFs L) fun v1 B1 hv1 => ?_
  have m1 := m.mono hv1.sub
  have hs1 := hv1.scl
  simp -implicitDefEqProofs [hs1.shp, hs1.good, hs1.comps, hs1.agg, hs.shp, hs.good, hs.comps, hs.agg]
  refine hsz.call (.cons (.refl _) rfl .nil) rfl ?_
  simp -implicitDefEqProofs [hs1.shp, hs1.good, hs1.comps, hs1.agg, hs.shp, hs.good, hs.comps, hs.agg, shp, good, comps]
  refine w_ref11_Places (by omega) hrg.rise hrg.pos hroom m1.en fun v2 C L2 hsC hT2 hv2 => ?_
  have hs2 := hv2.scl
  have hLe : L2 = L := hT2.uniq m.tab fun x => Iff.rfl
  subst hLe
  simp -implicitDefEqProofs [hs1.shp, hs1.good, hs1.comps, hs1.agg, hs2.shp, hs2.good, hs2.comps, hs2.agg]
  refine (w_ref11_Same L2 L2 (by omega)).call (.cons (rowAt_vw (EnsAt.mono (slR_ens hv1) hsC)) hs1.agg (.cons (rowAt_vw hv2) hs2.agg .nil)) rfl ?_
  simp -implicitDefEqProofs
  refine w_law11_works.call .nil rfl ?_
  simp -implicitDefEqProofs [outOf]
end Go.Proofs.Ytilgdnbijkcboaa

/- TableReads. -/
namespace Go.Proofs.Ytilgdnbijkcboaa
open Go AVL
attribute [-simp] AV.isAgg aappI aapp alen shp good comps szOK aslc List.reduceReplicate
set_option linter.unusedVariables false
set_option linter.unusedSimpArgs false
set_option maxRecDepth 8000

theorem w_TableReads (l : List En) (hl : l.length < 2 ^ 63) (e : En) : Gives Try.prog F_law11_TableReads [.dsl 34 (l.map enA), enA e] (.bool true) := by
  refine v_law11_TableReads (by simp) ?_
  unfold a_law11_TableReads
  have e32 := e.h32
  have hE : enA e = .agg [.iarr .u8 32 (ints e.addr), .int .i64 e.slot, .int .i64 e.count] := rfl
  rw [hE]
  obtain ⟨r3, hr3⟩ : ∃ r, r = q_law11_TableReads_3 := ⟨_, rfl⟩; rw [← hr3]
  obtain ⟨r4, hr4⟩ : ∃ r, r = q_law11_TableReads_4 := ⟨_, rfl⟩; rw [← hr4]
  obtain ⟨r5, hr5⟩ : ∃ r, r = q_law11_TableReads_5 := ⟨_, rfl⟩; rw [← hr5]
  obtain ⟨r6, hr6⟩ : ∃ r, r = q_law11_TableReads_6 := ⟨_, rfl⟩; rw [← hr6]
  obtain ⟨r8, hr8⟩ : ∃ r, r = q_law11_TableReads_8 := ⟨_, rfl⟩; rw [← hr8]
  obtain ⟨r9, hr9⟩ : ∃ r, r = q_law11_TableReads_9 := ⟨_, rfl⟩; rw [← hr9]
  obtain ⟨r10, hr10⟩ : ∃ r, r = q_law11_TableReads_10 := ⟨_, rfl⟩; rw [← hr10]
  obtain ⟨r11, hr11⟩ : ∃ r, r = q_law11_TableReads_11 := ⟨_, rfl⟩; rw [← hr11]
  obtain ⟨r13, hr13⟩ : ∃ r, r = q_law11_TableReads_13 := ⟨_, rfl⟩; rw [← hr13]
  obtain ⟨r14, hr14⟩ : ∃ r, r = q_law11_TableReads_14 := ⟨_, rfl⟩; rw [← hr14]
  by_cases h40 : (l.length : Int) > 40
  · have h40' : (40 : Int) < l.length := h40
    simp -implicitDefEqProofs [q_law11_TableReads_0, q_law11_TableReads_1, q_law11_TableReads_2, h40, h40', e32, shp, good, comps]
    intro g3
    refine w_law11_works.call .nil rfl ?_
    simp -implicitDefEqProofs [outOf]
  have h40' : ¬ (40 : Int) < l.length := h40
  simp -implicitDefEqProofs [q_law11_TableReads_0, q_law11_TableReads_1, h40, h40', e32, shp, good, comps]
  intro g3
  obtain ⟨Y, hY⟩ : ∃ Y, Y = H0.set g3 (.var 32 [.iarr .u8 32 (ints e.addr), .int .i64 e.slot, .int .i64 e.count]) := ⟨_, rfl⟩
  try simp only [← hY]
  have y3 : Y g3 = some (.var 32 [.iarr .u8 32 (ints e.addr), .int .i64 e.slot, .int .i64 e.count]) := by rw [hY, set_eq']
  clear hY
  simp -implicitDefEqProofs [hr3, q_law11_TableReads_3, shp, good, comps]
  refine w_table_Of l (by omega) (fun hbad C hsC => ?_) fun n r t h C hln hn hent hT hrg ht hh hi hsC => ?_
  · -- no table
    have fin : ∀ (env' : AEnv) (C' : Heap), env' 5 = .nilP → env' 6 = .bool false → env' 9 = .bool false →
        X Try.prog (fin [ARes.tmp 4] (AV.bool true)) (.seq (.seq (.region r6) (.cond (.t 41) (.seq (.region q_law11_TableReads_7) .ret) .skip)) (.seq (.seq (.region r8) (.cond (.t 43) (.seq (.region r9) .ret) .skip)) (.seq (.region r10) (.seq (.seq (.region r11) (.cond (.t 52) (.seq (.region q_law11_TableReads_12) .ret) .skip)) (.seq (.region r13) (.seq (.region r14) .ret)))))) .done env' C' := by
      intro env' C' f5 f6 f9
      simp -implicitDefEqProofs [hr6, q_law11_TableReads_6, f6, f9]
      simp -implicitDefEqProofs [hr8, q_law11_TableReads_8, f6]
      simp -implicitDefEqProofs [hr9, q_law11_TableReads_9, f5]
      refine w_law11_works.call .nil rfl ?_
      simp -implicitDefEqProofs [outOf]
    simp -implicitDefEqProofs [shp, good, comps]
    simp -implicitDefEqProofs [hr4, q_law11_TableReads_4, shp, good, comps]
    by_cases hl0 : l.length = 0
    · have hle : l = [] := List.eq_nil_of_length_eq_zero hl0
      subst hle
      refine w_ref11_Entries0 ?_
      simp -implicitDefEqProofs [shp, good, comps]
      simp -implicitDefEqProofs [hr5, q_law11_TableReads_5]
      exact fin _ _ (by simp) (by simp) (by simp)
    · obtain ⟨n, hn⟩ : ∃ n, l.length = n + 1 := ⟨l.length - 1, by omega⟩
      refine w_ref11_Entries (n := n) (by omega) l hn (fun hno B hs => ?_) fun r v B hent hrg hv hs => ?_
      · simp -implicitDefEqProofs [shp, good, comps]
        simp -implicitDefEqProofs [hr5, q_law11_TableReads_5]
        exact fin _ _ (by simp) (by simp) (by simp)
      · have hsv := hv.scl
        have hlp : (0 : Int) < l.length := by omega
        have hlp2 : 0 < l.length := by omega
        have hlp3 : ¬ l = [] := fun e => by rw [e] at hlp2; simp at hlp2
        simp -implicitDefEqProofs [shp, good, comps, hsv.shp, hsv.good, hsv.comps, hsv.agg]
        rcases hbad with hbad | hbad
        · omega
        obtain ⟨L, hT, hne⟩ := hbad n r hn hent
        simp -implicitDefEqProofs [hr5, q_law11_TableReads_5, hlp, hlp2, hlp3, shp, good, comps, hsv.shp, hsv.good, hsv.comps, hsv.agg]
        rw [hn]
        refine w_ref11_Places (by omega) hrg.rise hrg.pos hT.room hv fun v2 D L2 hsD hT2 hv2 => ?_
        have hs2 := hv2.scl
        have hLe : L2 = L := hT2.uniq hT fun x => Iff.rfl
        subst hLe
        have hL2 : L2.length = n + 1 := hT2.len
        simp -implicitDefEqProofs [shp, good, comps, hs2.shp, hs2.good, hs2.comps, hs2.agg]
        refine (w_ref11_Same L2 l (by omega)).call (.cons (rowAt_vw hv2) hs2.agg (.cons (.refl _) rfl .nil)) rfl ?_
        rw [decide_eq_false hne]
        simp -implicitDefEqProofs
        exact fin _ _ (by simp) (by simp) (by simp)
  · simp -implicitDefEqProofs [shp, good, comps]
    simp -implicitDefEqProofs [hr4, q_law11_TableReads_4, shp, good, comps]
    refine w_ref11_Entries (n := n) (by omega) l hln (fun hno B hs => ?_) fun r' v B hent' hrg' hv hs => ?_
    · rw [hent] at hno; cases hno
    rw [hent] at hent'
    injection hent' with hent'
    subst hent'
    have hsv := hv.scl
    have hlp : (0 : Int) < l.length := by omega
    have hlp2 : 0 < l.length := by omega
    have hlp3 : ¬ l = [] := fun e => by rw [e] at hlp2; simp at hlp2
    have hiB := hi.mono hs
    have hroom : r.length < n + 1 := hT.room
    have y3B := hs _ _ (hsC _ _ y3)
    simp -implicitDefEqProofs [shp, good, comps, hsv.shp, hsv.good, hsv.comps, hsv.agg]
    simp -implicitDefEqProofs [hr5, q_law11_TableReads_5, hlp, hlp2, hlp3, shp, good, comps, hsv.shp, hsv.good, hsv.comps, hsv.agg]
    rw [hln]
    refine w_ref11_Places (by omega) hrg.rise hrg.pos hT.room hv fun v2 D L2 hsD hT2 hv2 => ?_
    have hs2 := hv2.scl
    have hLe : L2 = l := hT2.uniq hT fun x => Iff.rfl
    subst hLe
    have hiD := hiB.mono hsD
    have y3D := hsD _ _ y3B
    have hvD := hv.mono hsD
    simp -implicitDefEqProofs [shp, good, comps, hs2.shp, hs2.good, hs2.comps, hs2.agg]
    refine (w_ref11_Same L2 L2 (by omega)).call (.cons (rowAt_vw hv2) hs2.agg (.cons (.refl _) rfl .nil)) rfl ?_
    simp -implicitDefEqProofs
    simp -implicitDefEqProofs [hr6, q_law11_TableReads_6]
    simp -implicitDefEqProofs [hr8, q_law11_TableReads_8]
    simp -implicitDefEqProofs [hr10, q_law11_TableReads_10]
    refine w_table_Copy hiD (by omega) (by omega) fun t' h' W ht' hh' hi' hsW => ?_
    have hiW := hiD.mono hsW
    have y3W := hsW _ _ y3D
    have hvW := hvD.mono hsW
    simp -implicitDefEqProofs
    simp -implicitDefEqProofs [hr11, q_law11_TableReads_11]
    simp -implicitDefEqProofs [hr13, q_law11_TableReads_13, y3W, e32, shp, good, comps]
    have hEe : (.agg [.iarr .u8 32 (ints e.addr), .int .i64 e.slot, .int .i64 e.count] : AV) = enA e := rfl
    rw [hEe]
    have n1 : t' ≠ t := fun e => by rw [e, hiD.ct] at ht'; cases ht'
    have n2 : t' ≠ h := fun e => by rw [e, hiD.ch] at ht'; cases ht'
    have n3 : h' ≠ t := fun e => by rw [e, hiD.ct] at hh'; cases hh'
    have n4 : h' ≠ h := fun e => by rw [e, hiD.ch] at hh'; cases hh'
    refine w_table_Put (by omega) hT hrg.rise hrg.pos hiW e fun L' Z hT' hi2 hkp => ?_
    have hiZ : TbI t' h' L2 r.length Z := ⟨hkp _ _ n1 n2 hi'.ct, hkp _ _ n3 n4 hi'.ch⟩
    have hlen : ∀ F : AV → Prop, alen false v F = F (.int .i64 r.length) := fun F => hvW.len
    have hlg := w_table_Longest (n := n) (L := L2) (k := (r.length : Int)) hln (by omega)
    have hlt := lngL_lt n L2 (n + 1) (Nat.le_refl _)
    have hlt' : ((lngL n L2 (n + 1) : Nat) : Int) < ((n + 1 : Nat) : Int) := by omega
    simp -implicitDefEqProofs
    simp -implicitDefEqProofs [hr14, q_law11_TableReads_14, shp, good, comps]
    refine (w_table_Places L2 _ (by omega)).call (.cons hiZ.vw rfl .nil) (en_noFs L2) fun v3 Q hv3 => ?_
    have hs3 := hv3.scl
    have hiQ := hiZ.mono hv3.sub
    simp -implicitDefEqProofs [shp, good, comps, hs3.shp, hs3.good, hs3.comps, hs3.agg]
    refine (w_ref11_Same L2 L2 (by omega)).call (.cons (rowAt_vw (slR_ens hv3)) hs3.agg (.cons (.refl _) rfl .nil)) rfl ?_
    simp -implicitDefEqProofs [shp, good, comps]
    refine (w_table_Len L2 (r.length : Int)).call (.cons hiQ.vw rfl .nil) rfl ?_
    simp -implicitDefEqProofs [hlen, shp, good, comps]
    refine hlg.call (.cons hiQ.vw rfl .nil) rfl ?_
    have hlt2 : ((lngL n L2 (n + 1) : Nat) : Int) < (n : Int) + 1 := by omega
    simp -implicitDefEqProofs [hln, hlt, hlt', hlt2]
    refine w_law11_works.call .nil rfl ?_
    simp -implicitDefEqProofs [outOf]
end Go.Proofs.Ytilgdnbijkcboaa

/- TableDoes. -/
namespace Go.Proofs.Ytilgdnbijkcboaa
open Go AVL
attribute [-simp] AV.isAgg aappI aapp alen shp good comps szOK aslc List.reduceReplicate
set_option linter.unusedVariables false
set_option linter.unusedSimpArgs false
set_option maxRecDepth 8000

theorem slt_iff {n : Nat} {L r : List En} (hT : (tS n).Tab L r) (hpos : ∀ x ∈ r, 0 < x.count) (s : Int) : (sltL L s).isSome = true ↔ ∃ x ∈ r, x.slot = s := by
  have hL : L.length = n + 1 := hT.len
  unfold sltL
  rw [List.find?_isSome]
  constructor
  · rintro ⟨x, hx, hc⟩
    have hc := of_decide_eq_true hc
    obtain ⟨i, hi, rfl⟩ := List.getElem_of_mem hx
    refine ⟨L[i], ?_, hc.2⟩
    have := hT.mem (i := i) (show i < n + 1 by omega) (by rw [tS_fn hi]; exact decide_eq_false (by omega))
    rwa [tS_fn hi] at this
  · rintro ⟨x, hx, hs⟩
    obtain ⟨i, hi, hxi, _⟩ := (hT.has x).2 hx
    have hi : i < n + 1 := hi
    have hiL : i < L.length := by omega
    rw [tS_fn hiL] at hxi
    exact ⟨L[i], List.getElem_mem hiL, decide_eq_true ⟨by rw [hxi]; exact hpos x hx, by rw [hxi]; exact hs⟩⟩
theorem slt_some {n : Nat} {L r : List En} (hT : (tS n).Tab L r) {s : Int} {y : En} (h : sltL L s = some y) : y.slot = s ∧ y ∈ r := by
  have hL : L.length = n + 1 := hT.len
  unfold sltL at h
  have h1 := List.find?_some h
  have h2 := List.mem_of_find?_eq_some h
  have h1 := of_decide_eq_true h1
  obtain ⟨i, hi, rfl⟩ := List.getElem_of_mem h2
  refine ⟨h1.2, ?_⟩
  have := hT.mem (i := i) (show i < n + 1 by omega) (by rw [tS_fn hi]; exact decide_eq_false (by omega))
  rwa [tS_fn hi] at this
def slotB (r : List En) (s : Int) : Bool := r.any fun x => decide (x.slot = s)
theorem slotB_snoc (r : List En) (x : En) (s : Int) : slotB (r ++ [x]) s = (slotB r s || decide (x.slot = s)) := by
  unfold slotB; rw [List.any_append]; simp
theorem slotB_iff (r : List En) (s : Int) : slotB r s = true ↔ ∃ x ∈ r, x.slot = s := by
  unfold slotB; rw [List.any_eq_true]; simp
structure DoI (n t h : Nat) (r L : List En) (v : AV) (s : Int) (i : Nat) (env : AEnv) (B : Heap) : Prop where
  le : i ≤ r.length
  e3 : env 3 = .int .i64 s
  e9 : env 9 = .ptr t 0
  e10 : env 10 = v
  e15 : env 15 = .int .i64 i
  md : MdS n t h H0 r r L v B
structure DoJ (n t h : Nat) (r L : List En) (v : AV) (s : Int) (y : En) (g18 : Nat) (is : Bool) (i : Nat) (env : AEnv) (B : Heap) : Prop where
  le : i ≤ r.length
  e3 : env 3 = .int .i64 s
  e10 : env 10 = v
  e18 : env 18 = .ptr g18 0
  e19 : env 19 = .bool is
  e20 : env 20 = .bool (slotB (r.take i) s)
  e21 : env 21 = .int .i64 i
  md : MdS n t h H0 r r L v B
  f18 : B g18 = some (.var 32 [.iarr .u8 32 (ints y.addr), .int .i64 y.slot, .int .i64 y.count])
/-- What is behind the table's making. -/
theorem does_tail {n t h : Nat} {r L : List En} {v : AV} (hn : n < 24) (hrg : Rg n r) {s : Int} {env : AEnv} {B : Heap} (m : MdS n t h H0 r r L v B) (e3 : env 3 = .int .i64 s) (e9 : env 9 = .ptr t 0) (e10 : env 10 = v) :
    X Try.prog (fin [ARes.tmp 8] (AV.bool true)) (.seq (.seq (.region q_law11_TableDoes_10) (.block 0 (.loop q_law11_TableDoes_L16))) (.seq (.region q_law11_TableDoes_16) (.seq (.region q_law11_TableDoes_17) (.seq (.seq (.region q_law11_TableDoes_18) (.block 2 (.loop q_law11_TableDoes_L22))) (.seq (.region q_law11_TableDoes_22) .ret))))) .done env B := by
  have hs := m.en.scl
  have hroom : r.length < n + 1 := m.tab.room
  have hLl : L.length = n + 1 := m.tab.len
  simp -implicitDefEqProofs [q_law11_TableDoes_10]
  refine X_lp (DoI n t h r L v s) (fun i => r.length - i) 0 ⟨by omega, by simp [e3], by simp [e9], by simp [e10], by simp, m⟩ ?_
  rintro i env B ⟨hi, e3, e9, e10, e15, m⟩
  have hlen : ∀ F : AV → Prop, alen false v F = F (.int .i64 r.length) := fun F => m.en.len
  rw [q_law11_TableDoes_L16]
  obtain ⟨r12, hr12⟩ : ∃ r, r = q_law11_TableDoes_12 := ⟨_, rfl⟩; rw [← hr12]
  obtain ⟨r16, hr16⟩ : ∃ r, r = q_law11_TableDoes_16 := ⟨_, rfl⟩; rw [← hr16]
  simp -implicitDefEqProofs [q_law11_TableDoes_11, e10, e15, hlen]
  refine ⟨fun hlt => ?_, fun hge => ?_⟩
  · have hii : (i : Int) < r.length := by omega
    have wi : IntKind.i64.wrap ((i : Int) + 1) = (i : Int) + 1 := wrap_i64 (by omega)
    obtain ⟨g, hvg, hg⟩ := m.en.pos (by omega)
    have e10' := e10
    rw [hvg] at e10'
    obtain ⟨x, hx⟩ : ∃ x, x = r[i] := ⟨_, rfl⟩
    have hX : enA r[i] = .agg [.iarr .u8 32 (ints x.addr), .int .i64 x.slot, .int .i64 x.count] := by rw [hx]; rfl
    have x32 := x.h32
    have hxr : x ∈ r := by rw [hx]; exact List.getElem_mem hlt
    obtain ⟨j, hj, hxj, hxe⟩ := (m.tab.has x).2 hxr
    have hgv : GetV n L x.addr x true := .inl ⟨rfl, j, hj, hxj, of_decide_eq_false hxe, rfl⟩
    obtain ⟨r13, hr13⟩ : ∃ r, r = q_law11_TableDoes_13 := ⟨_, rfl⟩; rw [← hr13]
    obtain ⟨r15, hr15⟩ : ∃ r, r = q_law11_TableDoes_15 := ⟨_, rfl⟩; rw [← hr15]
    simp -implicitDefEqProofs [hr12, q_law11_TableDoes_12, e9, e10', e15, hg, hlt, hii]
    rw [hX]
    simp -implicitDefEqProofs [x32, shp, good, comps]
    refine (w_table_Get (k := (r.length : Int)) m.tab (by omega) x hgv).call (.cons m.tb.vw rfl (.cons (.refl _) rfl .nil)) rfl ?_
    have hX2 : enA x = .agg [.iarr .u8 32 (ints x.addr), .int .i64 x.slot, .int .i64 x.count] := rfl
    simp -implicitDefEqProofs [hX2, x32, shp, good, comps]
    intro g16 hg16
    obtain ⟨Y, hY⟩ : ∃ Y, Y = B.set g16 (.var 32 [.iarr .u8 32 (ints x.addr), .int .i64 x.slot, .int .i64 x.count]) := ⟨_, rfl⟩
    try simp only [← hY]
    have hsY : B.Sub Y := by rw [hY]; exact sub_none hg16
    have y16 : Y g16 = some (.var 32 [.iarr .u8 32 (ints x.addr), .int .i64 x.slot, .int .i64 x.count]) := by rw [hY, set_eq']
    clear hY
    have mY := m.mono hsY
    have hgY := hsY _ _ hg
    simp -implicitDefEqProofs [hr13, q_law11_TableDoes_13, e10', e15, y16, hgY, hlt, hii, hX, x32, shp, good, comps, eqA x32 x32]
    simp -implicitDefEqProofs [hr15, q_law11_TableDoes_15, e15, wi]
    exact lp_next (i + 1) ⟨by omega, by simp [e3], by simp [e9], by simp [e10], by simp, mY⟩ (by omega)
  · have hsl := w_table_Slot L (r.length : Int) s (by omega)
    obtain ⟨y, hy⟩ : ∃ y, y = (sltL L s).getD enZ := ⟨_, rfl⟩
    obtain ⟨is, his⟩ : ∃ is, is = (sltL L s).isSome := ⟨_, rfl⟩
    rw [← hy, ← his] at hsl
    have y32 := y.h32
    have hY2 : enA y = .agg [.iarr .u8 32 (ints y.addr), .int .i64 y.slot, .int .i64 y.count] := rfl
    obtain ⟨r22, hr22⟩ : ∃ r, r = q_law11_TableDoes_22 := ⟨_, rfl⟩; rw [← hr22]
    simp -implicitDefEqProofs [hr16, q_law11_TableDoes_16, e3, e9]
    refine hsl.call (.cons m.tb.vw rfl (.cons (.refl _) rfl .nil)) rfl ?_
    simp -implicitDefEqProofs [hY2, y32, shp, good, comps]
    intro g18 hg18
    obtain ⟨Y, hY⟩ : ∃ Y, Y = B.set g18 (.var 32 [.iarr .u8 32 (ints y.addr), .int .i64 y.slot, .int .i64 y.count]) := ⟨_, rfl⟩
    try simp only [← hY]
    have hsY : B.Sub Y := by rw [hY]; exact sub_none hg18
    have y18 : Y g18 = some (.var 32 [.iarr .u8 32 (ints y.addr), .int .i64 y.slot, .int .i64 y.count]) := by rw [hY, set_eq']
    clear hY
    have mY := m.mono hsY
    simp -implicitDefEqProofs [q_law11_TableDoes_17, q_law11_TableDoes_18]
    refine X_lp (DoJ n t h r L v s y g18 is) (fun i => r.length - i) 0 ⟨by omega, by simp [e3], by simp [e10], by simp, by simp, by simp [slotB], by simp, mY, y18⟩ ?_
    clear hi e3 e9 e10 e15 m y18 mY hsY hg18 hge hlen
    rintro i env B ⟨hi, e3, e10, e18, e19, e20, e21, m, f18⟩
    have hlen : ∀ F : AV → Prop, alen false v F = F (.int .i64 r.length) := fun F => m.en.len
    rw [q_law11_TableDoes_L22]
    obtain ⟨r20, hr20⟩ : ∃ r, r = q_law11_TableDoes_20 := ⟨_, rfl⟩; rw [← hr20]
    obtain ⟨r21, hr21⟩ : ∃ r, r = q_law11_TableDoes_21 := ⟨_, rfl⟩; rw [← hr21]
    simp -implicitDefEqProofs [q_law11_TableDoes_19, e10, e21, hlen]
    refine ⟨fun hlt => ?_, fun hge => ?_⟩
    · have hii : (i : Int) < r.length := by omega
      have wi : IntKind.i64.wrap ((i : Int) + 1) = (i : Int) + 1 := wrap_i64 (by omega)
      obtain ⟨g, hvg, hg⟩ := m.en.pos (by omega)
      have e10' := e10
      rw [hvg] at e10'
      obtain ⟨x, hx⟩ : ∃ x, x = r[i] := ⟨_, rfl⟩
      have hX : enA r[i] = .agg [.iarr .u8 32 (ints x.addr), .int .i64 x.slot, .int .i64 x.count] := by rw [hx]; rfl
      have x32 := x.h32
      have htk : r.take (i + 1) = r.take i ++ [x] := by rw [List.take_succ_eq_append_getElem hlt, hx]
      have hd : slotB (r.take (i + 1)) s = (slotB (r.take i) s || decide (x.slot = s)) := by rw [htk, slotB_snoc]
      obtain ⟨b, hb⟩ : ∃ b, b = slotB (r.take i) s := ⟨_, rfl⟩
      rw [← hb] at hd e20
      cases b with
      | true =>
        simp -implicitDefEqProofs [hr20, q_law11_TableDoes_20, e20]
        simp -implicitDefEqProofs [hr21, q_law11_TableDoes_21, e21, wi]
        exact lp_next (i + 1) ⟨by omega, by simp [e3], by simp [e10], by simp [e18], by simp [e19], by rw [hd]; simp, by simp, m, f18⟩ (by omega)
      | false =>
        simp -implicitDefEqProofs [hr20, q_law11_TableDoes_20, e20, e10', e21, e3, hg, hlt, hii]
        rw [hX]
        simp -implicitDefEqProofs [x32, shp, good, comps]
        simp -implicitDefEqProofs [hr21, q_law11_TableDoes_21, e21, wi]
        exact lp_next (i + 1) ⟨by omega, by simp [e3], by simp [e10], by simp [e18], by simp [e19], by rw [hd]; simp, by simp, m, f18⟩ (by omega)
    · have hie : i = r.length := by omega
      rw [hie, List.take_length] at e20
      have hiff := slt_iff m.tab hrg.pos s
      have hdec : slotB r s = is := by
        rw [his]
        cases hc : (sltL L s).isSome with
        | true => exact (slotB_iff r s).2 (hiff.1 hc)
        | false =>
          cases hd : slotB r s with
          | false => rfl
          | true => rw [hiff.2 ((slotB_iff r s).1 hd)] at hc; cases hc
      rw [hdec] at e20
      cases is with
      | false =>
        simp -implicitDefEqProofs [hr22, q_law11_TableDoes_22, e19, e20]
        refine w_law11_works.call .nil rfl ?_
        simp -implicitDefEqProofs [outOf]
      | true =>
        obtain ⟨z, hz⟩ := Option.isSome_iff_exists.1 his.symm
        have hyz : y = z := by rw [hy, hz]; rfl
        subst hyz
        obtain ⟨h1, h2⟩ := slt_some m.tab hz
        have hfi := (fiV_ge hrg.rise y.addr).2 ⟨y, h2, rfl⟩
        simp -implicitDefEqProofs [hr22, q_law11_TableDoes_22, e3, e10, e18, e19, e20, f18, h1, y32, shp, good, comps, hs.shp, hs.good, hs.comps, hs.agg]
        refine (w_ref11_Find r y32 (by omega)).call (.cons (rowAt_vw m.en) hs.agg (.cons (.refl _) rfl .nil)) rfl ?_
        simp -implicitDefEqProofs [hfi]
        refine w_law11_works.call .nil rfl ?_
        simp -implicitDefEqProofs [outOf]
theorem w_TableDoes (c : Nat) (hc : c < 256) (l : List OpP) (hl : l.length < 2 ^ 63) (x : En) (s : Int) : Gives Try.prog F_law11_TableDoes [.int .u8 c, .dsl 35 (l.map opA), .iarr .u8 32 (ints x.addr), .int .i64 s] (.bool true) := by
  refine v_law11_TableDoes (by simp) ?_
  unfold a_law11_TableDoes
  have x32 := x.h32
  have hsz := w_law11_size c hc
  obtain ⟨n, hn⟩ : ∃ n, n = c % 24 := ⟨_, rfl⟩
  rw [← hn] at hsz
  have hn24 : n < 24 := by omega
  obtain ⟨r3, hr3⟩ : ∃ r, r = q_law11_TableDoes_3 := ⟨_, rfl⟩; rw [← hr3]
  obtain ⟨r4, hr4⟩ : ∃ r, r = q_law11_TableDoes_4 := ⟨_, rfl⟩; rw [← hr4]
  obtain ⟨r6, hr6⟩ : ∃ r, r = q_law11_TableDoes_6 := ⟨_, rfl⟩; rw [← hr6]
  obtain ⟨r7, hr7⟩ : ∃ r, r = q_law11_TableDoes_7 := ⟨_, rfl⟩; rw [← hr7]
  obtain ⟨r8, hr8⟩ : ∃ r, r = q_law11_TableDoes_8 := ⟨_, rfl⟩; rw [← hr8]
  obtain ⟨r10, hr10⟩ : ∃ r, r = q_law11_TableDoes_10 := ⟨_, rfl⟩; rw [← hr10]
  obtain ⟨r16, hr16⟩ : ∃ r, r = q_law11_TableDoes_16 := ⟨_, rfl⟩; rw [← hr16]
  obtain ⟨r17, hr17⟩ : ∃ r, r = q_law11_TableDoes_17 := ⟨_, rfl⟩; rw [← hr17]
  obtain ⟨r18, hr18⟩ : ∃ r, r = q_law11_TableDoes_18 := ⟨_, rfl⟩; rw [← hr18]
  obtain ⟨r22, hr22⟩ : ∃ r, r = q_law11_TableDoes_22 := ⟨_, rfl⟩; rw [← hr22]
  by_cases h80 : (l.length : Int) > 80
  · have h80' : (80 : Int) < l.length := h80
    simp -implicitDefEqProofs [q_law11_TableDoes_0, q_law11_TableDoes_1, q_law11_TableDoes_2, h80, h80', x32, shp, good, comps]
    intro g6
    refine w_law11_works.call .nil rfl ?_
    simp -implicitDefEqProofs [outOf]
  have h80' : ¬ (80 : Int) < l.length := h80
  simp -implicitDefEqProofs [q_law11_TableDoes_0, q_law11_TableDoes_1, h80, h80', x32, shp, good, comps]
  intro g6
  obtain ⟨Y, hY⟩ : ∃ Y, Y = H0.set g6 (.var T_32_uint8 [.iarr .u8 32 (ints x.addr)]) := ⟨_, rfl⟩
  have hY' : H0.set g6 (.var 23 [.iarr .u8 32 (ints x.addr)]) = Y := hY.symm
  try simp only [hY']
  have y6 : Y g6 = some (.var T_32_uint8 [.iarr .u8 32 (ints x.addr)]) := by rw [hY, set_eq']
  clear hY hY'
  simp -implicitDefEqProofs [hr3, q_law11_TableDoes_3, shp, good, comps]
  refine hsz.call (.cons (.refl _) rfl .nil) rfl ?_
  simp -implicitDefEqProofs [shp, good, comps]
  refine w_law11_made (A := Y) (by omega) l (by omega) fun t h L v B m => ?_
  have hs := m.en.scl
  have hrg := runs_rg n l l.length (Nat.le_refl _)
  rw [List.take_length] at hrg
  obtain ⟨r, hr⟩ : ∃ r, r = runs n l := ⟨_, rfl⟩
  rw [← hr] at m hrg
  have hroom : r.length < n + 1 := m.tab.room
  have hLl : L.length = n + 1 := m.tab.len
  have hlen : ∀ F : AV → Prop, alen false v F = F (.int .i64 r.length) := fun F => m.en.len
  have b6 := m.kp _ _ y6
  simp -implicitDefEqProofs [hs.shp, hs.good, hs.comps, hs.agg]
  simp -implicitDefEqProofs [hr4, q_law11_TableDoes_4, shp, good, comps]
  refine (w_table_Size L (r.length : Int)).call (.cons m.tb.vw rfl .nil) rfl ?_
  simp -implicitDefEqProofs [shp, good, comps]
  refine hsz.call (.cons (.refl _) rfl .nil) rfl ?_
  simp -implicitDefEqProofs [hLl]
  simp -implicitDefEqProofs [hr6, q_law11_TableDoes_6, b6, x32, shp, good, comps]
  have tl := fun (env' : AEnv) (C : Heap) (m' : MdS n t h H0 r r L v C) => does_tail (s := s) (env := env') hn24 hrg m'
  rcases getV_of m.tab x.addr with ⟨e, he, hea, hgv⟩ | ⟨hno, hgv⟩
  · refine (w_table_Get (k := (r.length : Int)) m.tab (by omega) x hgv).call (.cons m.tb.vw rfl (.cons (.refl _) rfl .nil)) rfl ?_
    have e32 := e.h32
    have hE : enA e = .agg [.iarr .u8 32 (ints e.addr), .int .i64 e.slot, .int .i64 e.count] := rfl
    simp -implicitDefEqProofs [hE, e32, shp, good, comps]
    intro g12 hg12
    obtain ⟨Z, hZ⟩ : ∃ Z, Z = B.set g12 (.var 32 [.iarr .u8 32 (ints e.addr), .int .i64 e.slot, .int .i64 e.count]) := ⟨_, rfl⟩
    try simp only [← hZ]
    have hsZ : B.Sub Z := by rw [hZ]; exact sub_none hg12
    have z12 : Z g12 = some (.var 32 [.iarr .u8 32 (ints e.addr), .int .i64 e.slot, .int .i64 e.count]) := by rw [hZ, set_eq']
    clear hZ
    have mZ := m.mono hsZ
    have z6 := hsZ _ _ b6
    obtain ⟨i, hi, hri⟩ := List.getElem_of_mem he
    have hfi : fiV r x.addr = i := fiV_at hrg.rise hi (by rw [hri]; exact hea)
    have hii : (i : Int) < r.length := by omega
    obtain ⟨g, hvg, hg⟩ := mZ.en.pos (by omega)
    have hR : enA r[i] = .agg [.iarr .u8 32 (ints e.addr), .int .i64 e.slot, .int .i64 e.count] := by rw [hri]; rfl
    simp -implicitDefEqProofs [hr7, q_law11_TableDoes_7, z6, x32, shp, good, comps, hs.shp, hs.good, hs.comps, hs.agg]
    refine (w_ref11_Find r x32 (by omega)).call (.cons (rowAt_vw mZ.en) hs.agg (.cons (.refl _) rfl .nil)) rfl ?_
    rw [hfi]
    have hi0 : (0 : Int) ≤ i := by omega
    have m' : MdS n t h H0 r r L v Z := ⟨mZ.tb, mZ.en, mZ.tab, mZ.nh, rfl, rfl, sub_H0 _⟩
    have tl' := fun env' => tl env' Z m'
    simp -implicitDefEqProofs [hr8, q_law11_TableDoes_8, hi0, hvg, hg, hi, hii, hR, z12, e32, shp, good, comps, eqA e32 e32]
    rw [hr10, hr16, hr17, hr18, hr22]
    exact tl' _ (by simp) (by simp) (by simp [hvg])
  · refine (w_table_Get (k := (r.length : Int)) m.tab (by omega) x hgv).call (.cons m.tb.vw rfl (.cons (.refl _) rfl .nil)) rfl ?_
    have e32 := enZ.h32
    have hE : enA enZ = .agg [.iarr .u8 32 (ints z32), .int .i64 0, .int .i64 0] := rfl
    have z32' : z32.length = 32 := rfl
    simp -implicitDefEqProofs [hE, z32', shp, good, comps]
    intro g12 hg12
    obtain ⟨Z, hZ⟩ : ∃ Z, Z = B.set g12 (.var 32 [.iarr .u8 32 (ints z32), .int .i64 0, .int .i64 0]) := ⟨_, rfl⟩
    try simp only [← hZ]
    have hsZ : B.Sub Z := by rw [hZ]; exact sub_none hg12
    have z12 : Z g12 = some (.var 32 [.iarr .u8 32 (ints z32), .int .i64 0, .int .i64 0]) := by rw [hZ, set_eq']
    clear hZ
    have mZ := m.mono hsZ
    have z6 := hsZ _ _ b6
    have hfi : fiV r x.addr < 0 := by
      have := fiV_ge hrg.rise x.addr
      have h2 : ¬ 0 ≤ fiV r x.addr := fun h => by
        obtain ⟨y, hy, hya⟩ := this.1 h
        exact hno y hy hya
      omega
    have hfi' : ¬ 0 ≤ fiV r x.addr := by omega
    simp -implicitDefEqProofs [hr7, q_law11_TableDoes_7, z6, x32, shp, good, comps, hs.shp, hs.good, hs.comps, hs.agg]
    refine (w_ref11_Find r x32 (by omega)).call (.cons (rowAt_vw mZ.en) hs.agg (.cons (.refl _) rfl .nil)) rfl ?_
    have m' : MdS n t h H0 r r L v Z := ⟨mZ.tb, mZ.en, mZ.tab, mZ.nh, rfl, rfl, sub_H0 _⟩
    have tl' := fun env' => tl env' Z m'
    simp -implicitDefEqProofs [hr8, q_law11_TableDoes_8, hfi, hfi', z12, z32', shp, good, comps, eqZ z32']
    rw [hr10, hr16, hr17, hr18, hr22]
    exact tl' _ (by simp) (by simp) (by simp)
end Go.Proofs.Ytilgdnbijkcboaa

/- TableForgets, plainly. -/
namespace Go.Proofs.Ytilgdnbijkcboaa
open Go AVL
attribute [-simp] AV.isAgg aappI aapp alen shp good comps szOK aslc List.reduceReplicate
set_option linter.unusedVariables false
set_option linter.unusedSimpArgs false
set_option maxRecDepth 8000

/-- A table of r and of what came in. -/
structure Inn (n : Nat) (r rt I : List En) : Prop where
  rg : Rg n rt
  mem : ∀ x, x ∈ rt ↔ x ∈ r ∨ x ∈ I
  ds : ∀ i j, (hi : i < I.length) → (hj : j < I.length) → I[i].addr = I[j].addr → i = j
  ap : ∀ x ∈ r, ∀ y ∈ I, x.addr ≠ y.addr
theorem Inn.zero {n : Nat} {r : List En} (h : Rg n r) : Inn n r r [] := ⟨h, fun x => by simp, fun i j hi => by simp at hi, fun x _ y hy => by cases hy⟩
theorem Inn.more {n : Nat} {r rt I : List En} (h : Inn n r rt I) {e : En} (h1 : ∀ x ∈ r, x.addr ≠ e.addr) (h2 : ∀ x ∈ I, x.addr ≠ e.addr) (hc : putC n rt e = 0) : Inn n r (putT n rt e) (I ++ [e]) where
  rg := h.rg.put e
  mem := fun x => by
    have hpt : putT n rt e = (tS n).putR e rt := if_pos hc
    rw [hpt, TS.mem_putR h.rg.rise]
    constructor
    · rintro (rfl | ⟨hx, _⟩)
      · exact .inr (by simp)
      · rcases (h.mem x).1 hx with h3 | h3
        · exact .inl h3
        · exact .inr (by simp [h3])
    · rintro (hx | hx)
      · exact .inr ⟨(h.mem x).2 (.inl hx), h1 x hx⟩
      · rcases List.mem_append.1 hx with h3 | h3
        · exact .inr ⟨(h.mem x).2 (.inr h3), h2 x h3⟩
        · rw [List.mem_singleton] at h3; exact .inl h3
  ds := fun i j hi hj he => by
    rw [List.length_append, List.length_singleton] at hi hj
    rcases Nat.lt_or_ge i I.length with hi' | hi' <;> rcases Nat.lt_or_ge j I.length with hj' | hj'
    · rw [List.getElem_append_left hi', List.getElem_append_left hj'] at he
      exact h.ds i j hi' hj' he
    · have : j = I.length := by omega
      subst this
      rw [List.getElem_append_left hi', List.getElem_append_right (Nat.le_refl _)] at he
      simp at he
      exact absurd he (h2 _ (List.getElem_mem hi'))
    · have : i = I.length := by omega
      subst this
      rw [List.getElem_append_left hj', List.getElem_append_right (Nat.le_refl _)] at he
      simp at he
      exact absurd he.symm (h2 _ (List.getElem_mem hj'))
    · omega
  ap := fun x hx y hy => by
    rcases List.mem_append.1 hy with h3 | h3
    · exact h.ap x hx y h3
    · rw [List.mem_singleton] at h3; subst h3; exact h1 x hx
theorem Inn.less {n : Nat} {r rt I : List En} (h : Inn n r rt I) {e : En} (hc : putC n rt e ≠ 0) : putT n rt e = rt := if_neg hc
/-- So many of what came in are out again, from a turn on. -/
structure Out (n turn : Nat) (r rt I : List En) (i : Nat) : Prop where
  rg : Rg n rt
  mem : ∀ x, x ∈ rt ↔ x ∈ r ∨ ∃ k, ∃ hk : k < I.length, x = I[k] ∧ ∀ j, j < i → (j + turn) % I.length ≠ k
theorem Out.zero {n turn : Nat} {r rt I : List En} (h : Inn n r rt I) : Out n turn r rt I 0 := ⟨h.rg, fun x => by
  rw [h.mem]
  refine or_congr Iff.rfl ⟨fun hx => ?_, fun ⟨k, hk, hx, _⟩ => by rw [hx]; exact List.getElem_mem hk⟩
  obtain ⟨k, hk, rfl⟩ := List.getElem_of_mem hx
  exact ⟨k, hk, rfl, fun j hj => by omega⟩⟩
theorem turn_inj {m i j t : Nat} (hi : i < m) (hj : j < m) (h : (i + t) % m = (j + t) % m) : i = j := by
  have h1 : (i + t) % m = (i + t % m) % m := by rw [Nat.add_mod, Nat.add_mod i (t % m), Nat.mod_mod]
  have h2 : (j + t) % m = (j + t % m) % m := by rw [Nat.add_mod, Nat.add_mod j (t % m), Nat.mod_mod]
  rw [h1, h2] at h
  have ht : t % m < m := Nat.mod_lt _ (by omega)
  obtain ⟨s, hs⟩ : ∃ s, s = t % m := ⟨_, rfl⟩
  rw [← hs] at h ht
  have key : ∀ a, a < m → (a + s) % m = if a + s < m then a + s else a + s - m := fun a ha => by
    split
    · exact Nat.mod_eq_of_lt (by assumption)
    · rw [Nat.mod_eq_sub_mod (by omega), Nat.mod_eq_of_lt (by omega)]
  rw [key i hi, key j hj] at h
  split at h <;> split at h <;> omega
theorem turn_ex {m k : Nat} (t : Nat) (hk : k < m) : ∃ j, j < m ∧ (j + t) % m = k := by
  have ht : t % m < m := Nat.mod_lt _ (by omega)
  refine ⟨(k + (m - t % m)) % m, Nat.mod_lt _ (by omega), ?_⟩
  rw [Nat.add_mod, Nat.mod_mod]
  have : ((k + (m - t % m)) % m + t % m) % m = (k + (m - t % m) + t) % m := by rw [← Nat.add_mod]
  rw [this]
  have h2 : t = m * (t / m) + t % m := (Nat.div_add_mod t m).symm
  have h3 : k + (m - t % m) + t = k + m * (1 + t / m) := by
    rw [Nat.mul_add, Nat.mul_one]; omega
  rw [h3, Nat.add_mul_mod_self_left, Nat.mod_eq_of_lt hk]
theorem Out.next {n turn : Nat} {r rt I : List En} {i : Nat} (hn : ∃ rt0, Inn n r rt0 I) (h : Out n turn r rt I i) (hi : i < I.length) (hk : (i + turn) % I.length < I.length) :
    dropC rt (I[(i + turn) % I.length]).addr = 0 ∧ Out n turn r (dropT n rt (I[(i + turn) % I.length]).addr) I (i + 1) := by
  obtain ⟨rt0, hn⟩ := hn
  obtain ⟨k, hkk⟩ : ∃ k, k = (i + turn) % I.length := ⟨_, rfl⟩
  have hk' : k < I.length := by rw [hkk]; exact hk
  have hin : I[k] ∈ rt := (h.mem _).2 (.inr ⟨k, hk', rfl, fun j hj e => by
    rw [hkk] at e
    have := turn_inj (by omega) hi e
    omega⟩)
  have hex : ∃ x ∈ rt, x.addr = I[k].addr := ⟨_, hin, rfl⟩
  have e1 : I[(i + turn) % I.length] = I[k] := by congr 1; exact hkk.symm
  rw [e1]
  refine ⟨if_pos hex, h.rg.drop _, fun x => ?_⟩
  have hdt : dropT n rt I[k].addr = (tS n).dropR rt I[k].addr := if_pos hex
  rw [hdt, TS.mem_dropR h.rg.rise (TS.ixR_lt.2 hex), h.mem]
  constructor
  · rintro ⟨hx | ⟨q, hq, rfl, hqj⟩, hne⟩
    · exact .inl hx
    · refine .inr ⟨q, hq, rfl, fun j hj e => ?_⟩
      rcases Nat.lt_succ_iff_lt_or_eq.1 hj with h1 | rfl
      · exact hqj j h1 e
      · apply hne
        show I[q].addr = I[k].addr
        congr 2; omega
  · rintro (hx | ⟨q, hq, rfl, hqj⟩)
    · exact ⟨.inl hx, hn.ap x hx _ (List.getElem_mem hk')⟩
    · refine ⟨.inr ⟨q, hq, rfl, fun j hj => hqj j (by omega)⟩, fun e => ?_⟩
      have := hn.ds q k hq hk' e
      exact hqj i (by omega) (by omega)
theorem Out.all {n turn : Nat} {r rt I : List En} (h : Out n turn r rt I I.length) : ∀ x, x ∈ rt ↔ x ∈ r := fun x => by
  rw [h.mem]
  constructor
  · rintro (hx | ⟨k, hk, _, hj⟩)
    · exact hx
    · obtain ⟨j, hjl, hje⟩ := turn_ex turn hk
      exact absurd hje (hj j hjl)
  · exact .inl
theorem fiV_neg {r : List En} {a : List Nat} : fiV r a < 0 ↔ ∀ x ∈ r, x.addr ≠ a := by
  unfold fiV
  constructor
  · intro h x hx hxa
    rw [if_pos (TS.ixR_lt.2 ⟨x, hx, hxa⟩)] at h
    omega
  · intro h
    rw [if_neg (fun hlt => by
      obtain ⟨x, hx, hxa⟩ := TS.ixR_lt.1 hlt
      exact h x hx hxa)]
    omega
/-- One more in a row. -/
theorem ens_app {B C : Heap} {w s : AV} {I : List En} {e : En} {bytes : Nat} {K : AV → Heap → Prop} (hw : EnsAt w I B) (hs : B.Sub C) (hsrc : ∀ Q : List AV → Prop, Q [enA e] → srcG 34 s C Q) (hb : (I.length + 1) * bytes ≤ 140737488355328)
    (hk : ∀ g' k C', EnsAt (.own g' 0 k) (I ++ [e]) C' → (∀ x c, B x = some c → (∀ m, w ≠ .own x 0 m) → C' x = some c) → (B g' = none ∨ ∃ m, w = .own g' 0 m) → K (.own g' 0 k) C') : aapp T_api_Entry 34 bytes w s C K := by
  rcases hw with ⟨rfl, hI⟩ | ⟨g, rfl, hg⟩
  · have hI' : I = [] := List.map_eq_nil_iff.1 hI
    subst hI'
    refine (SlR.nil (e := T_api_Entry) (sz := 34) (Sub_refl B)).appS (ys := [enA e]) hs hsrc rfl (by simpa using hb) fun g' k C' hk' hw' => ?_
    have hw2 : SlR T_api_Entry 34 (.own g' 0 k) (([] ++ [e] : List En).map enA) B C' := hw'
    exact hk g' k C' (slR_ens hw2) (fun x c hx _ => hw'.sub _ _ hx) (.inl hw'.at.1)
  · have hv : SlR T_api_Entry 34 (.own g 0 (I.map enA).length) (I.map enA) (B.del g) B := ⟨del_sub, .inr ⟨g, rfl, by rw [del_app, if_pos rfl], hg⟩⟩
    refine hv.appS (ys := [enA e]) hs hsrc rfl (by simpa using hb) fun g' k C' hk' hw' => ?_
    have hw2 : SlR T_api_Entry 34 (.own g' 0 k) ((I ++ [e]).map enA) (B.del g) C' := by rw [List.map_append]; exact hw'
    refine hk g' k C' (slR_ens hw2) (fun x c hx hn => hw'.sub _ _ ?_) ?_
    · have : x ≠ g := fun e => hn _ (by rw [e])
      rw [del_app, if_neg this]; exact hx
    · have := hw'.at.1
      by_cases hgg : g' = g
      · exact .inr ⟨_, by rw [hgg]⟩
      · rw [del_app, if_neg hgg] at this
        exact .inl this
end Go.Proofs.Ytilgdnbijkcboaa

/- TableForgets. -/
namespace Go.Proofs.Ytilgdnbijkcboaa
open Go AVL
attribute [-simp] AV.isAgg aappI aapp alen shp good comps szOK aslc List.reduceReplicate
set_option linter.unusedVariables false
set_option linter.unusedSimpArgs false
set_option maxRecDepth 8000

/-- What came in, apart from all else. -/
structure Ina (t h g12 : Nat) (v : AV) (I : List En) (w : AV) (B : Heap) : Prop where
  en : EnsAt w I B
  nt : ∀ m, w ≠ .own t 0 m
  nh : ∀ m, w ≠ .own h 0 m
  n12 : ∀ m, w ≠ .own g12 0 m
  nv : ∀ x m k, v = .own x 0 m → w ≠ .own x 0 k
theorem Ina.keep {t h g12 : Nat} {v : AV} {I : List En} {w : AV} {B C : Heap} (a : Ina t h g12 v I w B) (hk : Keep t h B C) : Ina t h g12 v I w C :=
  ⟨by
    rcases a.en with h1 | ⟨g, h1, h2⟩
    · exact .inl h1
    · exact .inr ⟨g, h1, hk g _ (fun e => a.nt _ (by rw [h1, e])) (fun e => a.nh _ (by rw [h1, e])) h2⟩, a.nt, a.nh, a.n12, a.nv⟩
structure FoI (n t h g12 : Nat) (r L0 X : List En) (turn : Nat) (v : AV) (i : Nat) (env : AEnv) (B : Heap) : Prop where
  le : i ≤ X.length
  e2 : env 2 = .dsl 34 (X.map enA)
  e3 : env 3 = .int .u8 turn
  e9 : env 9 = .ptr t 0
  e10 : env 10 = v
  e12 : env 12 = .own g12 0 (n + 1)
  e14 : env 14 = .int .i64 i
  f12 : B g12 = some (.row T_api_Entry 34 (L0.map enA))
  md : ∃ rt I L, MdS n t h H0 rt r L v B ∧ Inn n r rt I ∧ Ina t h g12 v I (env 13) B ∧ I.length ≤ i
structure FoJ (n t h g12 : Nat) (r L0 I : List En) (turn : Nat) (v w : AV) (i : Nat) (env : AEnv) (B : Heap) : Prop where
  le : i ≤ I.length
  e3 : env 3 = .int .u8 turn
  e9 : env 9 = .ptr t 0
  e12 : env 12 = .own g12 0 (n + 1)
  e13 : env 13 = w
  e15 : env 15 = .int .i64 i
  f12 : B g12 = some (.row T_api_Entry 34 (L0.map enA))
  ia : Ina t h g12 v I w B
  md : ∃ rt L, MdS n t h H0 rt r L v B ∧ Out n turn r rt I i
theorem forgets_two {n t h g12 : Nat} {r L0 I rt L : List En} {turn : Nat} {v w : AV} {env : AEnv} {B : Heap} (hn : n < 24) (htu : turn < 256) (hIl : I.length < 2 ^ 20) (hrg : Rg n r) (hT0 : (tS n).Tab L0 r) (n12h : g12 ≠ h) (e3 : env 3 = .int .u8 turn) (e9 : env 9 = .ptr t 0) (e12 : env 12 = .own g12 0 (n + 1)) (e13 : env 13 = w)
    (f12 : B g12 = some (.row T_api_Entry 34 (L0.map enA))) (ia : Ina t h g12 v I w B) (m : MdS n t h H0 rt r L v B) (hin : Inn n r rt I) :
    X Try.prog (fin [ARes.tmp 8] (AV.bool true)) (.seq (.seq (.region q_law11_TableForgets_13) (.block 2 (.loop q_law11_TableForgets_L18))) (.seq (.region q_law11_TableForgets_18) .ret)) .done env B := by
  have hL0 : L0.length = n + 1 := hT0.len
  simp -implicitDefEqProofs [q_law11_TableForgets_13]
  refine X_lp (FoJ n t h g12 r L0 I turn v w) (fun i => I.length - i) 0 ⟨by omega, by simp [e3], by simp [e9], by simp [e12], by simp [e13], by simp, f12, ia, ⟨rt, L, m, Out.zero hin⟩⟩ ?_
  have hin' : ∃ rt0, Inn n r rt0 I := ⟨rt, hin⟩
  clear e3 e9 e12 e13 f12 ia m hin
  rintro i env B ⟨hi, e3, e9, e12, e13, e15, f12, ia, ⟨rt, L, m, ho⟩⟩
  have hlen : ∀ F : AV → Prop, alen false w F = F (.int .i64 I.length) := fun F => ia.en.len
  have hs := ia.en.scl
  rw [q_law11_TableForgets_L18]
  obtain ⟨r15, hr15⟩ : ∃ r, r = q_law11_TableForgets_15 := ⟨_, rfl⟩; rw [← hr15]
  obtain ⟨r18, hr18⟩ : ∃ r, r = q_law11_TableForgets_18 := ⟨_, rfl⟩; rw [← hr18]
  simp -implicitDefEqProofs [q_law11_TableForgets_14, e13, e15, hlen]
  refine ⟨fun hlt => ?_, fun hge => ?_⟩
  · have hii : (i : Int) < I.length := by omega
    have wi : IntKind.i64.wrap ((i : Int) + 1) = (i : Int) + 1 := wrap_i64 (by omega)
    have wt : IntKind.i64.wrap (turn : Int) = (turn : Int) := wrap_i64 (by omega)
    have wit : IntKind.i64.wrap ((i : Int) + turn) = ((i + turn : Nat) : Int) := by rw [wrap_i64 (by omega)]; omega
    obtain ⟨k, hk⟩ : ∃ k, k = (i + turn) % I.length := ⟨_, rfl⟩
    have hkl : k < I.length := by rw [hk]; exact Nat.mod_lt _ (by omega)
    have hki : (k : Int) < I.length := by omega
    have ek : ((i + turn : Nat) : Int).tmod (I.length : Int) = (k : Int) := by rw [← Int.ofNat_tmod, hk]
    have wk : IntKind.i64.wrap (k : Int) = (k : Int) := wrap_i64 (by omega)
    have hne0 : ¬ (I.length : Int) = 0 := by omega
    have hne1 : ¬ I = [] := fun e => by rw [e] at hlt; simp at hlt
    have hnx := ho.next hin' hlt (by rw [← hk]; exact hkl)
    obtain ⟨x, hx⟩ : ∃ x, x = I[k] := ⟨_, rfl⟩
    have hxe : I[(i + turn) % I.length]'(by rw [← hk]; exact hkl) = x := by rw [hx]; congr 1; exact hk.symm
    rw [hxe] at hnx
    have hX : enA I[k] = .agg [.iarr .u8 32 (ints x.addr), .int .i64 x.slot, .int .i64 x.count] := by rw [hx]; rfl
    have x32 := x.h32
    obtain ⟨g, hwg, hg⟩ := ia.en.pos (by omega)
    have e13' := e13
    rw [hwg] at e13'
    obtain ⟨S, hS⟩ : ∃ S : Nat, S = i + turn := ⟨_, rfl⟩
    rw [← hS] at wit ek
    obtain ⟨r17, hr17⟩ : ∃ r, r = q_law11_TableForgets_17 := ⟨_, rfl⟩; rw [← hr17]
    simp -implicitDefEqProofs [hr15, q_law11_TableForgets_15, e3, e9, e13', e15, wt, wit, ek, wk, hne0, hne1, hg, hkl, hki]
    rw [hX]
    simp -implicitDefEqProofs [x32, shp, good, comps]
    refine m.tabDrop (by omega) ho.rg x fun L' C m2 hkp => ?_
    rw [hnx.1]
    simp -implicitDefEqProofs
    simp -implicitDefEqProofs [hr17, q_law11_TableForgets_17, e15, wi]
    exact lp_next (i + 1) ⟨by omega, by simp [e3], by simp [e9], by simp [e12], by simp [e13], by simp, row_keep hkp m.tb f12 n12h, ia.keep hkp, ⟨_, L', m2, hnx.2⟩⟩ (by omega)
  · have hie : i = I.length := by omega
    subst hie
    have hLe : L = L0 := m.tab.uniq hT0 ho.all
    subst hLe
    simp -implicitDefEqProofs [hr18, q_law11_TableForgets_18, e9, shp, good, comps]
    refine (w_table_Places L _ (by omega)).call (.cons m.tb.vw rfl .nil) (en_noFs L) fun v1 B1 hv1 => ?_
    have hs1 := hv1.scl
    have h12 : EnsAt (.own g12 0 (n + 1)) L B1 := .inr ⟨g12, by simp [hL0], hv1.sub _ _ f12⟩
    simp -implicitDefEqProofs [e12, shp, good, comps, hs1.shp, hs1.good, hs1.comps, hs1.agg]
    refine (w_ref11_Same L L (by omega)).call (.cons (rowAt_vw (slR_ens hv1)) hs1.agg (.cons (rowAt_vw h12) rfl .nil)) rfl ?_
    simp -implicitDefEqProofs
    refine w_law11_works.call .nil rfl ?_
    simp -implicitDefEqProofs [outOf]
theorem w_TableForgets (c : Nat) (hc : c < 256) (l : List OpP) (hl : l.length < 2 ^ 63) (X : List En) (hX : X.length < 2 ^ 63) (turn : Nat) (htu : turn < 256) : Gives Try.prog F_law11_TableForgets [.int .u8 c, .dsl 35 (l.map opA), .dsl 34 (X.map enA), .int .u8 turn] (.bool true) := by
  refine v_law11_TableForgets (by simp) ?_
  unfold a_law11_TableForgets
  have hsz := w_law11_size c hc
  obtain ⟨n, hn⟩ : ∃ n, n = c % 24 := ⟨_, rfl⟩
  rw [← hn] at hsz
  have hn24 : n < 24 := by omega
  obtain ⟨r3, hr3⟩ : ∃ r, r = q_law11_TableForgets_3 := ⟨_, rfl⟩; rw [← hr3]
  obtain ⟨r4, hr4⟩ : ∃ r, r = q_law11_TableForgets_4 := ⟨_, rfl⟩; rw [← hr4]
  obtain ⟨r6, hr6⟩ : ∃ r, r = q_law11_TableForgets_6 := ⟨_, rfl⟩; rw [← hr6]
  obtain ⟨r13, hr13⟩ : ∃ r, r = q_law11_TableForgets_13 := ⟨_, rfl⟩; rw [← hr13]
  obtain ⟨r18, hr18⟩ : ∃ r, r = q_law11_TableForgets_18 := ⟨_, rfl⟩; rw [← hr18]
  by_cases h40 : (l.length : Int) > 40
  · have h40' : (40 : Int) < l.length := h40
    simp -implicitDefEqProofs [q_law11_TableForgets_0, q_law11_TableForgets_1, q_law11_TableForgets_2, h40, h40']
    refine w_law11_works.call .nil rfl ?_
    simp -implicitDefEqProofs [outOf]
  have h40' : ¬ (40 : Int) < l.length := h40
  by_cases h20 : (X.length : Int) > 20
  · have h20' : (20 : Int) < X.length := h20
    simp -implicitDefEqProofs [q_law11_TableForgets_0, q_law11_TableForgets_1, q_law11_TableForgets_2, h40, h40', h20, h20']
    refine w_law11_works.call .nil rfl ?_
    simp -implicitDefEqProofs [outOf]
  have h20' : ¬ (20 : Int) < X.length := h20
  simp -implicitDefEqProofs [q_law11_TableForgets_0, q_law11_TableForgets_1, h40, h40', h20, h20']
  simp -implicitDefEqProofs [hr3, q_law11_TableForgets_3, shp, good, comps]
  refine hsz.call (.cons (.refl _) rfl .nil) rfl ?_
  simp -implicitDefEqProofs [shp, good, comps]
  refine w_law11_made (by omega) l (by omega) fun t h L v B m => ?_
  have hs := m.en.scl
  have hrg := runs_rg n l l.length (Nat.le_refl _)
  rw [List.take_length] at hrg
  obtain ⟨r, hr⟩ : ∃ r, r = runs n l := ⟨_, rfl⟩
  rw [← hr] at m hrg
  have hroom : r.length < n + 1 := m.tab.room
  have hLl : L.length = n + 1 := m.tab.len
  simp -implicitDefEqProofs [hs.shp, hs.good, hs.comps, hs.agg]
  simp -implicitDefEqProofs [hr4, q_law11_TableForgets_4]
  simp -implicitDefEqProofs [hr6, q_law11_TableForgets_6, shp, good, comps]
  refine (w_table_Places L _ (by omega)).call (.cons m.tb.vw rfl .nil) (en_noFs L) fun v12 B1 hv12 => ?_
  obtain ⟨g12, hg12e, hg12, f12⟩ := hv12.pos (by simp; omega)
  rw [List.length_map, hLl] at hg12e
  subst hg12e
  have m1 := m.mono hv12.sub
  have n12h : g12 ≠ h := fun e => by rw [e, m.tb.ch] at hg12; cases hg12
  have n12v : ∀ k, v ≠ .own g12 0 k := fun k e => by
    rcases m.en with ⟨h1, _⟩ | ⟨gv, h1, h2⟩
    · rw [h1] at e; cases e
    · rw [h1] at e; injection e with e1; rw [e1, hg12] at h2; cases h2
  have hT0 := m.tab
  clear m
  simp -implicitDefEqProofs [q_law11_TableForgets_7, q_law11_TableForgets_8]
  refine X_lp (FoI n t h g12 r L X turn v) (fun i => X.length - i) 0 ⟨by omega, by simp, by simp, by simp, by simp, by simp, by simp, f12, ⟨r, [], L, ⟨m1.tb, m1.en, m1.tab, m1.nh, rfl, rfl, sub_H0 _⟩, Inn.zero hrg, ⟨.inl ⟨by simp, rfl⟩, fun m => by simp, fun m => by simp, fun m => by simp, fun x m k _ => by simp⟩, by simp⟩⟩ ?_
  clear f12 m1 hv12
  rintro i env B ⟨hi, e2, e3, e9, e10, e12, e14, f12, ⟨rt, I, L', m, hin, ia, hIl⟩⟩
  rw [q_law11_TableForgets_L13]
  obtain ⟨r10, hr10⟩ : ∃ r, r = q_law11_TableForgets_10 := ⟨_, rfl⟩; rw [← hr10]
  simp -implicitDefEqProofs [q_law11_TableForgets_9, e2, e14]
  refine ⟨fun hlt => ?_, fun hge => ?_⟩
  · have hii : (i : Int) < X.length := by omega
    have wi : IntKind.i64.wrap ((i : Int) + 1) = (i : Int) + 1 := wrap_i64 (by omega)
    obtain ⟨e, he⟩ : ∃ e, e = X[i] := ⟨_, rfl⟩
    obtain ⟨M, hM⟩ : ∃ M, M = X.map enA := ⟨_, rfl⟩
    have hMl : i < M.length := by rw [hM]; simpa using hlt
    have hMi : (i : Int) < M.length := by omega
    have e2' := e2
    rw [← hM] at e2'
    have hE : M[i] = .agg [.iarr .u8 32 (ints e.addr), .int .i64 e.slot, .int .i64 e.count] := by
      have : M[i] = enA X[i] := by simp [hM]
      rw [this, he]; rfl
    have e32 := e.h32
    clear hM
    have hEe : (.agg [.iarr .u8 32 (ints e.addr), .int .i64 e.slot, .int .i64 e.count] : AV) = enA e := rfl
    obtain ⟨w, hw⟩ : ∃ w, w = env 13 := ⟨_, rfl⟩
    rw [← hw] at ia
    have hsw := ia.en.scl
    obtain ⟨r11, hr11⟩ : ∃ r, r = q_law11_TableForgets_11 := ⟨_, rfl⟩; rw [← hr11]
    obtain ⟨r12, hr12⟩ : ∃ r, r = q_law11_TableForgets_12 := ⟨_, rfl⟩; rw [← hr12]
    simp -implicitDefEqProofs [hr10, q_law11_TableForgets_10, e2', e10, e14, hMl, hMi]
    rw [hE]
    simp -implicitDefEqProofs [e32, shp, good, comps, hs.shp, hs.good, hs.comps, hs.agg]
    refine (w_ref11_Find r e32 (by omega)).call (.cons (rowAt_vw m.en) hs.agg (.cons (.refl _) rfl .nil)) rfl ?_
    by_cases hf1 : fiV r e.addr < 0
    · simp -implicitDefEqProofs [hf1, ← hw, e2', e14, hMl, hMi]
      rw [hE]
      simp -implicitDefEqProofs [e32, shp, good, comps, hsw.shp, hsw.good, hsw.comps, hsw.agg]
      refine (w_ref11_Find I e32 (by omega)).call (.cons (rowAt_vw ia.en) hsw.agg (.cons (.refl _) rfl .nil)) rfl ?_
      by_cases hf2 : fiV I e.addr < 0
      · simp -implicitDefEqProofs [hf2, e2', e9, e14, hMl, hMi]
        rw [hE]
        simp -implicitDefEqProofs [e32, shp, good, comps]
        rw [hEe]
        refine m.tabPut (by omega) hin.rg e fun L2 C m2 hkp => ?_
        have ia2 := ia.keep hkp
        have f12' := row_keep hkp m.tb f12 n12h
        by_cases hp : putC n rt e = 0
        · have hin2 := hin.more (fiV_neg.1 hf1) (fiV_neg.1 hf2) hp
          simp -implicitDefEqProofs [hp]
          simp -implicitDefEqProofs [hr11, q_law11_TableForgets_11, ← hw, e2', e14, hMl, hMi]
          rw [hE]
          simp -implicitDefEqProofs [e32, shp, good, comps]
          intro g1 hg1
          refine ens_app ia2.en (sub_none hg1) (fun Q hQ => src_row (m := [enA e]) set_eq' rfl Q hQ) (by omega) fun g' k C' hen' hsub hfr => ?_
          have m3 : MdS n t h H0 (putT n rt e) r L2 v C' := by
            refine ⟨⟨hsub _ _ m2.tb.ct ia2.nt, hsub _ _ m2.tb.ch ia2.nh⟩, ?_, m2.tab, m2.nh, rfl, rfl, sub_H0 _⟩
            rcases m2.en with h1 | ⟨gv, h1, h2⟩
            · exact .inl h1
            · exact .inr ⟨gv, h1, hsub _ _ h2 fun k => ia2.nv _ _ _ h1⟩
          have hne : ∀ x cc, C x = some cc → (∀ m, w ≠ .own x 0 m) → g' ≠ x := fun x cc hx hwx e => by
            rcases hfr with h1 | ⟨m, h1⟩
            · rw [e, hx] at h1; cases h1
            · exact hwx _ (by rw [h1, e])
          have ia3 : Ina t h g12 v (I ++ [e]) (.own g' 0 k) C' := ⟨hen', fun m e => hne _ _ m2.tb.ct ia2.nt (by injection e), fun m e => hne _ _ m2.tb.ch ia2.nh (by injection e), fun m e => hne _ _ f12' ia2.n12 (by injection e), fun x m k' hvx e => by
            rcases m2.en with ⟨h1, _⟩ | ⟨gv, h1, h2⟩
            · rw [h1] at hvx; cases hvx
            · rw [h1] at hvx
              injection hvx with hvx _ _
              injection e with e _ _
              exact hne _ _ h2 (fun k => ia2.nv _ _ _ h1) (e.trans hvx.symm)⟩
          simp -implicitDefEqProofs [hr12, q_law11_TableForgets_12, e14, wi]
          exact lp_next (i + 1) ⟨by omega, by simp [e2], by simp [e3], by simp [e9], by simp [e10], by simp [e12], by simp, hsub _ _ f12' ia2.n12, ⟨_, I ++ [e], L2, m3, hin2, by simpa using ia3, by simp; omega⟩⟩ (by omega)
        · rw [hin.less hp] at m2
          simp -implicitDefEqProofs [hp]
          simp -implicitDefEqProofs [hr12, q_law11_TableForgets_12, e14, wi]
          exact lp_next (i + 1) ⟨by omega, by simp [e2], by simp [e3], by simp [e9], by simp [e10], by simp [e12], by simp, f12', ⟨rt, I, L2, m2, hin, by simpa [← hw] using ia2, by omega⟩⟩ (by omega)
      · simp -implicitDefEqProofs [hf2]
        simp -implicitDefEqProofs [hr12, q_law11_TableForgets_12, e14, wi]
        exact lp_next (i + 1) ⟨by omega, by simp [e2], by simp [e3], by simp [e9], by simp [e10], by simp [e12], by simp, f12, ⟨rt, I, L', m, hin, by simpa [← hw] using ia, by omega⟩⟩ (by omega)
    · simp -implicitDefEqProofs [hf1]
      simp -implicitDefEqProofs [hr12, q_law11_TableForgets_12, e14, wi]
      exact lp_next (i + 1) ⟨by omega, by simp [e2], by simp [e3], by simp [e9], by simp [e10], by simp [e12], by simp, f12, ⟨rt, I, L', m, hin, by simpa [← hw] using ia, by omega⟩⟩ (by omega)
  · rw [hr13, hr18]
    exact forgets_two (w := env 13) hn24 htu (I := I) (by omega) hrg hT0 n12h (by simp [e3]) (by simp [e9]) (by simp [e12]) (by simp) f12 ia m hin
end Go.Proofs.Ytilgdnbijkcboaa
