/- Operations that float: one result, whatever is asked of it; what an operation looks at; weaker ends. -/
import Derived.Test.YtfdckjliinpjiaaVn
namespace AVL
open Go
set_option linter.unusedSimpArgs false
set_option linter.unusedVariables false

/-- One value: what is told of it, is told of the same one. -/
structure Uni (F : (AV → Prop) → Prop) : Prop where
  out : ∀ K₁ K₂, F K₁ → F K₂ → ∃ v, K₁ v ∧ K₂ v ∧ ∀ K, K v → F K

theorem Uni.leaf (v : AV) : Uni fun K => K v := ⟨fun _ _ h₁ h₂ => ⟨v, h₁, h₂, fun _ h => h⟩⟩
theorem Uni.and {F : (AV → Prop) → Prop} (h : Uni F) (p : Prop) : Uni fun K => p ∧ F K := ⟨fun K₁ K₂ h₁ h₂ => by
  obtain ⟨v, a, b, c⟩ := h.out K₁ K₂ h₁.2 h₂.2
  exact ⟨v, a, b, fun K hk => ⟨h₁.1, c K hk⟩⟩⟩
theorem Uni.no {F : (AV → Prop) → Prop} (h : ∀ K, ¬ F K) : Uni F := ⟨fun K₁ _ h₁ _ => absurd h₁ (h K₁)⟩

theorem uni_apick (c a b : AV) : Uni fun K => apick c a b K := by
  cases c <;> first | exact Uni.no (fun K h => h) | skip
  (first | exact Uni.leaf _ | exact (Uni.leaf _).and _ | exact ((Uni.leaf _).and _).and _ | exact (((Uni.leaf _).and _).and _).and _ | exact ((((Uni.leaf _).and _).and _).and _).and _)
theorem uni_abinI (op : BinOp) (k : IntKind) (a : Int) (k' : IntKind) (b : Int) : Uni fun K => abinI op k a k' b K := by
  cases op
  case quo => (first | exact Uni.leaf _ | exact (Uni.leaf _).and _ | exact ((Uni.leaf _).and _).and _ | exact (((Uni.leaf _).and _).and _).and _ | exact ((((Uni.leaf _).and _).and _).and _).and _)
  case rem => (first | exact Uni.leaf _ | exact (Uni.leaf _).and _ | exact ((Uni.leaf _).and _).and _ | exact (((Uni.leaf _).and _).and _).and _ | exact ((((Uni.leaf _).and _).and _).and _).and _)
  all_goals (first | exact Uni.leaf _ | exact (Uni.leaf _).and _ | exact ((Uni.leaf _).and _).and _ | exact (((Uni.leaf _).and _).and _).and _ | exact ((((Uni.leaf _).and _).and _).and _).and _)
theorem uni_abinS (op : BinOp) (a b : ByteArray) : Uni fun K => abinS op a b K := by
  cases op
  case add => (first | exact Uni.leaf _ | exact (Uni.leaf _).and _ | exact ((Uni.leaf _).and _).and _ | exact (((Uni.leaf _).and _).and _).and _ | exact ((((Uni.leaf _).and _).and _).and _).and _)
  case eql => (first | exact Uni.leaf _ | exact (Uni.leaf _).and _ | exact ((Uni.leaf _).and _).and _ | exact (((Uni.leaf _).and _).and _).and _ | exact ((((Uni.leaf _).and _).and _).and _).and _)
  case neq => (first | exact Uni.leaf _ | exact (Uni.leaf _).and _ | exact ((Uni.leaf _).and _).and _ | exact (((Uni.leaf _).and _).and _).and _ | exact ((((Uni.leaf _).and _).and _).and _).and _)
  case lss => (first | exact Uni.leaf _ | exact (Uni.leaf _).and _ | exact ((Uni.leaf _).and _).and _ | exact (((Uni.leaf _).and _).and _).and _ | exact ((((Uni.leaf _).and _).and _).and _).and _)
  case leq => (first | exact Uni.leaf _ | exact (Uni.leaf _).and _ | exact ((Uni.leaf _).and _).and _ | exact (((Uni.leaf _).and _).and _).and _ | exact ((((Uni.leaf _).and _).and _).and _).and _)
  case gtr => (first | exact Uni.leaf _ | exact (Uni.leaf _).and _ | exact ((Uni.leaf _).and _).and _ | exact (((Uni.leaf _).and _).and _).and _ | exact ((((Uni.leaf _).and _).and _).and _).and _)
  case geq => (first | exact Uni.leaf _ | exact (Uni.leaf _).and _ | exact ((Uni.leaf _).and _).and _ | exact (((Uni.leaf _).and _).and _).and _ | exact ((((Uni.leaf _).and _).and _).and _).and _)
  all_goals exact Uni.no (fun K h => h)
theorem uni_abin (op : BinOp) (x y : AV) : Uni fun K => abin op x y K := by
  cases x <;> first | (exact Uni.no (fun K h => h)) | skip
  all_goals cases y <;> first | (exact Uni.no (fun K h => h)) | (exact uni_abinI ..) | (exact uni_abinS ..)
theorem uni_aun (op : UnOp) (x : AV) : Uni fun K => aun op x K := by
  cases op <;> cases x <;> first | (exact Uni.no (fun K h => h)) | ((first | exact Uni.leaf _ | exact (Uni.leaf _).and _ | exact ((Uni.leaf _).and _).and _ | exact (((Uni.leaf _).and _).and _).and _ | exact ((((Uni.leaf _).and _).and _).and _).and _))
theorem uni_aconv (k : IntKind) (x : AV) : Uni fun K => aconv k x K := by
  cases x <;> first | (exact Uni.no (fun K h => h)) | ((first | exact Uni.leaf _ | exact (Uni.leaf _).and _ | exact ((Uni.leaf _).and _).and _ | exact (((Uni.leaf _).and _).and _).and _ | exact ((((Uni.leaf _).and _).and _).and _).and _))
theorem uni_aeq (et : ET) (neg : Bool) (x y : AV) : Uni fun K => aeq et neg x y K := by
  unfold aeq
  cases eqV et x y with
  | none => exact Uni.no (fun K h => h)
  | some b => (first | exact Uni.leaf _ | exact (Uni.leaf _).and _ | exact ((Uni.leaf _).and _).and _ | exact (((Uni.leaf _).and _).and _).and _ | exact ((((Uni.leaf _).and _).and _).and _).and _)
theorem uni_alen (s : Bool) (x : AV) : Uni fun K => alen s x K := by
  cases s <;> cases x <;> first | (exact Uni.no (fun K h => h)) | ((first | exact Uni.leaf _ | exact (Uni.leaf _).and _ | exact ((Uni.leaf _).and _).and _ | exact (((Uni.leaf _).and _).and _).and _ | exact ((((Uni.leaf _).and _).and _).and _).and _))
theorem uni_aext (i : Nat) (x : AV) : Uni fun K => aext i x K := by
  cases x <;> first | (exact Uni.no (fun K h => h)) | skip
  unfold aext
  rename_i l
  simp only
  cases l[i]? with
  | none => exact Uni.no (fun K h => h)
  | some v => (first | exact Uni.leaf _ | exact (Uni.leaf _).and _ | exact ((Uni.leaf _).and _).and _ | exact (((Uni.leaf _).and _).and _).and _ | exact ((((Uni.leaf _).and _).and _).and _).and _)
theorem uni_getC (l : List AV) (off sz : Nat) (sh : Sh) (f : AV → AV) : Uni fun K => (match getC l off sz sh with | some v => K (f v) | none => False) := by
  cases getC l off sz sh with
  | none => exact Uni.no (fun K h => h)
  | some v => (first | exact Uni.leaf _ | exact (Uni.leaf _).and _ | exact ((Uni.leaf _).and _).and _ | exact (((Uni.leaf _).and _).and _).and _ | exact ((((Uni.leaf _).and _).and _).and _).and _)
theorem uni_afield (off sz : Nat) (sh : Sh) (x : AV) (A : Heap) : Uni fun K => afield off sz sh x A fun v _ => K v := by
  cases x <;> first | (exact Uni.no (fun K h => h)) | exact uni_getC _ _ _ _ id
theorem uni_afadr (off sz : Nat) (sh : Sh) (x : AV) (A : Heap) : Uni fun K => afadr off sz sh x A fun v _ => K v := by
  cases x <;> first | (exact Uni.no (fun K h => h)) | exact uni_getC _ _ _ _ AV.pval | ((first | exact Uni.leaf _ | exact (Uni.leaf _).and _ | exact ((Uni.leaf _).and _).and _ | exact (((Uni.leaf _).and _).and _).and _ | exact ((((Uni.leaf _).and _).and _).and _).and _))
theorem uni_abuild (sh : Sh) (z : List AV) (qs : List (Nat × Nat × AO)) (env : AEnv) (A : Heap) : Uni fun K => abuild sh z qs env A fun v _ => K v := by
  unfold abuild
  cases foldP env z qs with
  | none => exact Uni.no (fun K h => h)
  | some l =>
    simp only
    cases shp sh l with
    | none => exact Uni.no (fun K h => h)
    | some v => (first | exact Uni.leaf _ | exact (Uni.leaf _).and _ | exact ((Uni.leaf _).and _).and _ | exact (((Uni.leaf _).and _).and _).and _ | exact ((((Uni.leaf _).and _).and _).and _).and _)
theorem uni_aload (sh : Sh) (sz : Nat) (p : AV) (A : Heap) : Uni fun K => aload sh sz p A fun v _ => K v := by
  cases p <;> first | (exact Uni.no (fun K h => h)) | skip
  · rename_i g o
    simp only [aload]
    cases A g with
    | none => exact Uni.no (fun K h => h)
    | some c => cases c <;> first | (exact Uni.no (fun K h => h)) | exact uni_getC _ _ _ _ id
  · rename_i g o m i
    simp only [aload]
    cases A g with
    | none => exact Uni.no (fun K h => h)
    | some c =>
      cases c <;> first | (exact Uni.no (fun K h => h)) | skip
      simp only
      cases getI _ o m with
      | none => exact Uni.no (fun K h => h)
      | some kx =>
        cases sh with
        | sc => (first | exact Uni.leaf _ | exact (Uni.leaf _).and _ | exact ((Uni.leaf _).and _).and _ | exact (((Uni.leaf _).and _).and _).and _ | exact ((((Uni.leaf _).and _).and _).and _).and _)
        | ag => exact Uni.no (fun K h => h)
        | ia k' n => (first | exact Uni.leaf _ | exact (Uni.leaf _).and _ | exact ((Uni.leaf _).and _).and _ | exact (((Uni.leaf _).and _).and _).and _ | exact ((((Uni.leaf _).and _).and _).and _).and _)
  · rename_i g i o
    simp only [aload]
    cases A g with
    | none => exact Uni.no (fun K h => h)
    | some c =>
      cases c with
      | var _ _ => exact Uni.no (fun K h => h)
      | mp _ _ => exact Uni.no (fun K h => h)
      | srow _ _ _ => exact Uni.no (fun K h => h)
      | irow t k l =>
        cases sh with
        | sc => (first | exact Uni.leaf _ | exact (Uni.leaf _).and _ | exact ((Uni.leaf _).and _).and _ | exact (((Uni.leaf _).and _).and _).and _ | exact ((((Uni.leaf _).and _).and _).and _).and _)
        | ag => exact Uni.no (fun K h => h)
        | ia k' n => (first | exact Uni.leaf _ | exact (Uni.leaf _).and _ | exact ((Uni.leaf _).and _).and _ | exact (((Uni.leaf _).and _).and _).and _ | exact ((((Uni.leaf _).and _).and _).and _).and _)
      | row t s l =>
        simp only
        by_cases h : i < l.length
        · have := uni_getC (comps l[i]) o sz sh id
          refine ⟨fun K₁ K₂ h₁ h₂ => ?_⟩
          obtain ⟨_, h₁⟩ := h₁
          obtain ⟨_, h₂⟩ := h₂
          obtain ⟨v, a, b, c⟩ := this.out K₁ K₂ h₁ h₂
          exact ⟨v, a, b, fun K hk => ⟨h, c K hk⟩⟩
        · exact Uni.no (fun K hh => h hh.1)
  · exact uni_getC _ _ _ _ id
theorem uni_aidx (sz : Nat) (x : AV) (i : Int) (A : Heap) : Uni fun K => aidx sz x i A fun v _ => K v := by
  cases x <;> first | (exact Uni.no (fun K h => h)) | skip
  case isl k l => (first | exact Uni.leaf _ | exact (Uni.leaf _).and _ | exact ((Uni.leaf _).and _).and _ | exact (((Uni.leaf _).and _).and _).and _ | exact ((((Uni.leaf _).and _).and _).and _).and _)
  case dsl s l =>
    simp only [aidx]
    refine Uni.and (Uni.and ?_ _) _
    by_cases h : i.toNat < l.length
    · exact ⟨fun K₁ K₂ h₁ h₂ => ⟨.pval l[i.toNat], h₁.2, h₂.2, fun K hk => ⟨h, hk⟩⟩⟩
    · exact Uni.no (fun K hh => h hh.1)
  case own g i0 n => exact ((((Uni.leaf _).and _).and _).and _)
  case asl g o m i0 n => (first | exact Uni.leaf _ | exact (Uni.leaf _).and _ | exact ((Uni.leaf _).and _).and _ | exact (((Uni.leaf _).and _).and _).and _ | exact ((((Uni.leaf _).and _).and _).and _).and _)
theorem uni_aidxP {P : Program} (sz : Nat) (x : AV) (i : Int) (A : Heap) : Uni fun K => aidxP P sz x i A (fun v _ => K v) (fun _ _ => False) := by
  by_cases hx : x = .nilS
  · subst hx; exact Uni.no (fun K h => h true)
  · simp only [aidxP_eq hx]; exact uni_aidx sz x i A
theorem uni_aidxA (m sz : Nat) (ints : Bool) (x : AV) (i : Int) (A : Heap) : Uni fun K => aidxA m sz ints x i A fun v _ => K v := by
  cases x <;> first | (exact Uni.no (fun K h => h)) | skip
  case ptr g o =>
    cases ints <;> (first | exact Uni.leaf _ | exact (Uni.leaf _).and _ | exact ((Uni.leaf _).and _).and _ | exact (((Uni.leaf _).and _).and _).and _ | exact ((((Uni.leaf _).and _).and _).and _).and _)
  case pel g j o =>
    cases ints
    · (first | exact Uni.leaf _ | exact (Uni.leaf _).and _ | exact ((Uni.leaf _).and _).and _ | exact (((Uni.leaf _).and _).and _).and _ | exact ((((Uni.leaf _).and _).and _).and _).and _)
    · exact Uni.no (fun K h => h.2.2)
  case pval v =>
    cases v <;> first | (exact Uni.no (fun K h => h)) | skip
    rename_i k m' l
    (first | exact Uni.leaf _ | exact (Uni.leaf _).and _ | exact ((Uni.leaf _).and _).and _ | exact (((Uni.leaf _).and _).and _).and _ | exact ((((Uni.leaf _).and _).and _).and _).and _)
theorem uni_bnd (o : Option AV) (d : Int) {F : Int → (AV → Prop) → Prop} (h : ∀ n, Uni (F n)) : Uni fun K => bnd o d fun n => F n K := by
  cases o with
  | none => exact h d
  | some a => cases a <;> first | (exact Uni.no (fun K h => h)) | exact h _
theorem uni_aslc (x : AV) (lo hi : Option AV) (A : Heap) : Uni fun K => aslc x lo hi A fun v _ => K v := by
  cases x <;> first | (exact Uni.no (fun K h => h)) | skip
  all_goals
    simp only [aslc]
    refine uni_bnd lo 0 (fun l => uni_bnd hi _ (fun h => ?_))
  case nilS => (first | exact Uni.leaf _ | exact (Uni.leaf _).and _ | exact ((Uni.leaf _).and _).and _ | exact (((Uni.leaf _).and _).and _).and _ | exact ((((Uni.leaf _).and _).and _).and _).and _)
  case isl k xs => (first | exact Uni.leaf _ | exact (Uni.leaf _).and _ | exact ((Uni.leaf _).and _).and _ | exact (((Uni.leaf _).and _).and _).and _ | exact ((((Uni.leaf _).and _).and _).and _).and _)
  case dsl s xs => (first | exact Uni.leaf _ | exact (Uni.leaf _).and _ | exact ((Uni.leaf _).and _).and _ | exact (((Uni.leaf _).and _).and _).and _ | exact ((((Uni.leaf _).and _).and _).and _).and _)
  case own g i n => (first | exact Uni.leaf _ | exact (Uni.leaf _).and _ | exact ((Uni.leaf _).and _).and _ | exact (((Uni.leaf _).and _).and _).and _ | exact ((((Uni.leaf _).and _).and _).and _).and _)
  case asl g o m i n => (first | exact Uni.leaf _ | exact (Uni.leaf _).and _ | exact ((Uni.leaf _).and _).and _ | exact (((Uni.leaf _).and _).and _).and _ | exact ((((Uni.leaf _).and _).and _).and _).and _)
theorem uni_aslcA (m : Nat) (x : AV) (lo hi : Option AV) (A : Heap) : Uni fun K => aslcA m x lo hi A fun v _ => K v := by
  cases x <;> first | (exact Uni.no (fun K h => h)) | skip
  case ptr g o =>
    simp only [aslcA]
    refine uni_bnd lo 0 (fun l => uni_bnd hi _ (fun h => ?_))
    (first | exact Uni.leaf _ | exact (Uni.leaf _).and _ | exact ((Uni.leaf _).and _).and _ | exact (((Uni.leaf _).and _).and _).and _ | exact ((((Uni.leaf _).and _).and _).and _).and _)
  case pval v =>
    cases v <;> first | (exact Uni.no (fun K h => h)) | skip
    rename_i k m' xs
    simp only [aslcA]
    refine Uni.and (Uni.and (uni_bnd lo 0 (fun l => uni_bnd hi _ (fun h => ?_))) _) _
    (first | exact Uni.leaf _ | exact (Uni.leaf _).and _ | exact ((Uni.leaf _).and _).and _ | exact (((Uni.leaf _).and _).and _).and _ | exact ((((Uni.leaf _).and _).and _).and _).and _)
theorem uni_as2a (m : Nat) (x : AV) (A : Heap) : Uni fun K => as2a m x A fun v _ => K v := by
  refine Uni.and ?_ _
  cases x <;> first | (exact Uni.no (fun K h => h)) | ((first | exact Uni.leaf _ | exact (Uni.leaf _).and _ | exact ((Uni.leaf _).and _).and _ | exact (((Uni.leaf _).and _).and _).and _ | exact ((((Uni.leaf _).and _).and _).and _).and _))

theorem uni_srcI {k : IntKind} (s : AV) (A : Heap) (f : List Int → AV) : Uni fun K => srcI k s A fun l => K (f l) := by
  cases s <;> first | (exact Uni.no (fun K h => h)) | skip
  case nilS => exact Uni.leaf _
  case isl => exact (Uni.leaf _).and _
  case str => exact (Uni.leaf _).and _
  case own g i n =>
    simp only [srcI]
    cases A g with
    | none => exact Uni.no (fun K h => h)
    | some c => cases c <;> first | (exact Uni.no (fun K h => h)) | (exact ((Uni.leaf _).and _).and _)
  case asl g o m i n =>
    simp only [srcI]
    cases A g with
    | none => exact Uni.no (fun K h => h)
    | some c =>
      cases c <;> first | (exact Uni.no (fun K h => h)) | skip
      simp only
      cases getI _ o m with
      | none => exact Uni.no (fun K h => h)
      | some kx => exact ((Uni.leaf _).and _).and _
theorem uni_xop (o : XOp) (ho : o.floats = true) (xs : List AV) (A : Heap) : Uni fun K => xop o xs A fun v _ => K v := by
  cases o <;> simp only [XOp.floats, Bool.false_eq_true] at ho
  case p po =>
    simp only [xop]
    cases pop po xs with
    | none => exact Uni.no (fun K h => h)
    | some v => exact Uni.leaf _
  case bstr =>
    match xs with
    | [] => exact Uni.no (fun K h => h)
    | [x] => exact (uni_srcI x A _).and _
    | _ :: _ :: _ => exact Uni.no (fun K h => h)
  case idxV m sz sh =>
    match xs with
    | [] => exact Uni.no (fun K h => h)
    | [_] => exact Uni.no (fun K h => h)
    | [x, i] =>
      cases i <;> first | (exact Uni.no (fun K h => h)) | skip
      exact (((uni_getC _ _ _ _ id).and _).and _).and _
    | _ :: _ :: _ :: _ => exact Uni.no (fun K h => h)

section
variable {P : Program}
def fl (P : Program) (o : AOp) (env : AEnv) (A : Heap) (K : AV → Prop) : Prop := aop P o env A (fun v _ => K v) (fun _ _ => False)
theorem uni_aint (i : AV) {F : Int → (AV → Prop) → Prop} (h : ∀ n, Uni (F n)) : Uni fun K => aint i fun n => F n K := by
  cases i <;> first | (exact Uni.no (fun K h => h)) | exact h _
theorem fl_uni (o : AOp) (ho : o.floats = true) (env : AEnv) (A : Heap) : Uni (fl P o env A) := by
  cases o <;> simp only [AOp.floats, Bool.false_eq_true] at ho <;> unfold fl <;> simp only [aop]
  case mv => (first | exact Uni.leaf _ | exact (Uni.leaf _).and _ | exact ((Uni.leaf _).and _).and _ | exact (((Uni.leaf _).and _).and _).and _ | exact ((((Uni.leaf _).and _).and _).and _).and _)
  case pick => exact uni_apick ..
  case build => exact uni_abuild ..
  case load => exact uni_aload ..
  case bin => exact uni_abin ..
  case eq => exact uni_aeq ..
  case un => exact uni_aun ..
  case conv => exact uni_aconv ..
  case fadr => exact uni_afadr ..
  case field => exact uni_afield ..
  case idx => exact uni_aint _ (fun n => uni_aidxP ..)
  case idxA => exact uni_aint _ (fun n => uni_aidxA ..)
  case slc => exact Uni.and (uni_aslc ..) _
  case slcA => exact uni_aslcA ..
  case s2a => exact uni_as2a ..
  case ext => exact uni_aext ..
  case len => exact uni_alen ..
  case xx => exact uni_xop _ ho _ _
theorem fl_nonil {sz : Nat} {x i : AO} {env : AEnv} {A : Heap} {K : AV → Prop} (h : fl P (.idx sz x i) env A K) : ev env x ≠ .nilS := by
  intro e
  simp only [fl, aop, e] at h
  generalize ev env i = iv at h
  cases iv <;> first | exact h.elim | exact h true
end
end AVL
