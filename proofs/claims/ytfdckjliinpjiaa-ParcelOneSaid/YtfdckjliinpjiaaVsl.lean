/- Rows that grow: a slice that is nil or its own row, atop of a heap that stays. -/
import Derived.Test.YtfdckjliinpjiaaVu
namespace AVL
open Go
set_option linter.unusedVariables false

@[simp] theorem agg_undef : (AV.undef).isAgg = false := rfl
@[simp] theorem agg_int {k : IntKind} {n : Int} : (AV.int k n).isAgg = false := rfl
@[simp] theorem agg_bool {b : Bool} : (AV.bool b).isAgg = false := rfl
@[simp] theorem agg_str {s : ByteArray} : (AV.str s).isAgg = false := rfl
@[simp] theorem agg_nilS : (AV.nilS).isAgg = false := rfl
@[simp] theorem agg_isl {k : IntKind} {l : List Int} : (AV.isl k l).isAgg = false := rfl
@[simp] theorem agg_dsl {s : Nat} {l : List AV} : (AV.dsl s l).isAgg = false := rfl
@[simp] theorem agg_own {g : Nat} {i : Nat} {n : Nat} : (AV.own g i n).isAgg = false := rfl
@[simp] theorem agg_asl {g : Nat} {o : Nat} {m : Nat} {i : Nat} {n : Nat} : (AV.asl g o m i n).isAgg = false := rfl
@[simp] theorem agg_ptr {g : Nat} {o : Nat} : (AV.ptr g o).isAgg = false := rfl
@[simp] theorem agg_pix {g : Nat} {o : Nat} {m : Nat} {i : Nat} : (AV.pix g o m i).isAgg = false := rfl
@[simp] theorem agg_pel {g : Nat} {i : Nat} {o : Nat} : (AV.pel g i o).isAgg = false := rfl
@[simp] theorem agg_pval {v : AV} : (AV.pval v).isAgg = false := rfl
@[simp] theorem agg_nilP : (AV.nilP).isAgg = false := rfl
@[simp] theorem agg_func {f : Fn} {a : List AV} {b : List AV} : (AV.func f a b).isAgg = false := rfl
@[simp] theorem agg_nilF : (AV.nilF).isAgg = false := rfl
@[simp] theorem agg_iface {t : TypeId} {v : AV} : (AV.iface t v).isAgg = false := rfl
@[simp] theorem agg_nilI : (AV.nilI).isAgg = false := rfl
@[simp] theorem agg_tuple {l : List AV} : (AV.tuple l).isAgg = false := rfl
@[simp] theorem agg_map {g : Nat} : (AV.map g).isAgg = false := rfl
@[simp] theorem agg_nilM : (AV.nilM).isAgg = false := rfl
@[simp] theorem agg_agg {l : List AV} : (AV.agg l).isAgg = true := rfl
@[simp] theorem agg_iarr {k : IntKind} {n : Nat} {l : List Int} : (AV.iarr k n l).isAgg = true := rfl
section
variable {F : AV → Prop}
@[simp] theorem alen_nil : alen false .nilS F = F (.int .i64 0) := rfl
@[simp] theorem alen_isl {k : IntKind} {l : List Int} : alen false (.isl k l) F = F (.int .i64 l.length) := rfl
@[simp] theorem alen_dsl {s : Nat} {l : List AV} : alen false (.dsl s l) F = F (.int .i64 l.length) := rfl
@[simp] theorem alen_own {g i n : Nat} : alen false (.own g i n) F = F (.int .i64 n) := rfl
@[simp] theorem alen_asl {g o m i n : Nat} : alen false (.asl g o m i n) F = F (.int .i64 n) := rfl
@[simp] theorem alen_str {s : ByteArray} : alen true (.str s) F = F (.int .i64 s.size) := rfl
end
theorem fresh_ne {A : Heap} {g x : Nat} {c : Cont} (h : A g = some c) (hx : A x = none) : g ≠ x := by rintro rfl; rw [h] at hx; cases hx
theorem sub_none {A : Heap} {g : Nat} {c : Cont} (h : A g = none) : A.Sub (A.set g c) := fun x y hx => by
  rw [set_app]; split
  · rename_i e; subst e; rw [h] at hx; cases hx
  · exact hx
theorem sub_tr {X Y Z : Heap} (h : X.Sub Y) (k : Y.Sub Z) : X.Sub Z := fun g c hg => k g c (h g c hg)
theorem sub_of_eq {X Y : Heap} (e : X = Y) : Y.Sub X := e ▸ Sub_refl _
theorem sub_new {A B : Heap} {g : Nat} {c : Cont} (h : A.Sub B) (hg : B g = none) : A.Sub (B.set g c) := sub_tr h (sub_none hg)
theorem sub_noneL {A B : Heap} {g : Nat} (h : A.Sub B) (hg : B g = none) : A g = none := by
  cases e : A g with
  | none => rfl
  | some c => have := h g c e; rw [hg] at this; cases this
theorem set_swap (A : Heap) {g h : Nat} (c d : Cont) (hgh : g ≠ h) : (A.set g c).set h d = (A.set h d).set g c := by
  funext x
  simp only [set_app]
  by_cases e : x = h
  · subst e; simp [Ne.symm hgh]
  · simp [e]
theorem set_same {A : Heap} {g : Nat} {c : Cont} (h : A g = some c) : A.set g c = A := by
  funext x
  simp only [set_app]
  split
  · rename_i e; subst e; exact h.symm
  · rfl

/-- A row of numbers that grows, atop of A. -/
structure SlS (e : TypeId) (k : IntKind) (v : AV) (l : List Int) (A B : Heap) : Prop where
  sub : A.Sub B
  own : (v = .nilS ∧ l = []) ∨ ∃ g, v = .own g 0 l.length ∧ A g = none ∧ B g = some (.irow e k l)
/-- A row that grows, atop of A. -/
structure SlR (e : TypeId) (sz : Nat) (v : AV) (l : List AV) (A B : Heap) : Prop where
  sub : A.Sub B
  own : (v = .nilS ∧ l = []) ∨ ∃ g, v = .own g 0 l.length ∧ A g = none ∧ B g = some (.row e sz l)
section
variable {e : TypeId} {k : IntKind} {sz : Nat} {v : AV} {l : List Int} {m : List AV} {A B C : Heap}
theorem SlS.nil (h : A.Sub B) : SlS e k .nilS [] A B := ⟨h, .inl ⟨rfl, rfl⟩⟩
theorem SlR.nil (h : A.Sub B) : SlR e sz .nilS [] A B := ⟨h, .inl ⟨rfl, rfl⟩⟩
theorem SlS.mono (h : SlS e k v l A B) (hs : B.Sub C) : SlS e k v l A C := ⟨sub_tr h.sub hs, h.own.imp id fun ⟨g, h1, h2, h3⟩ => ⟨g, h1, h2, hs _ _ h3⟩⟩
theorem SlR.mono (h : SlR e sz v m A B) (hs : B.Sub C) : SlR e sz v m A C := ⟨sub_tr h.sub hs, h.own.imp id fun ⟨g, h1, h2, h3⟩ => ⟨g, h1, h2, hs _ _ h3⟩⟩
theorem SlS.vw (h : SlS e k v l A B) : Vw B v (.isl k l) := by
  rcases h.own with ⟨rfl, rfl⟩ | ⟨g, rfl, _, hg⟩
  · exact .nil k
  · have := Vw.own (A := B) (i := 0) (n := l.length) hg (by omega)
    rwa [List.drop_zero, List.take_length] at this
theorem Vws.refls : ∀ l : List AV, Vws A l l
  | [] => .nil
  | v :: l => .cons (.refl v) (Vws.refls l)
theorem SlR.vw (h : SlR e sz v m A B) : Vw B v (.dsl sz m) := by
  rcases h.own with ⟨rfl, rfl⟩ | ⟨g, rfl, _, hg⟩
  · exact .nilD sz
  · exact .ownR (A := B) (i := 0) (n := m.length) hg (by omega) (by rw [List.drop_zero, List.take_length]; exact Vws.refls m)
theorem SlS.agg (h : SlS e k v l A B) : v.isAgg = false := by
  rcases h.own with ⟨rfl, rfl⟩ | ⟨g, rfl, hg⟩ <;> rfl
theorem SlR.agg (h : SlR e sz v m A B) : v.isAgg = false := by
  rcases h.own with ⟨rfl, rfl⟩ | ⟨g, rfl, hg⟩ <;> rfl
theorem SlS.len (h : SlS e k v l A B) {F : AV → Prop} : alen false v F = F (.int .i64 l.length) := by
  rcases h.own with ⟨rfl, rfl⟩ | ⟨g, rfl, hg⟩ <;> simp
theorem SlR.len (h : SlR e sz v m A B) {F : AV → Prop} : alen false v F = F (.int .i64 m.length) := by
  rcases h.own with ⟨rfl, rfl⟩ | ⟨g, rfl, hg⟩ <;> simp
theorem SlS.app (h : SlS e k v l A B) {bytes g1 : Nat} {ys : List Int} {K : AV → Heap → Prop} (h1 : C g1 = some (.irow e k ys)) (hs : B.Sub C) (hg : B g1 = none) (hb : (l.length + ys.length) * bytes ≤ 140737488355328)
    (hk : ∀ v' C', SlS e k v' (l ++ ys) A C' → v'.isAgg = false → K v' C') : aappI e k bytes v (.own g1 0 ys.length) C K := by
  rcases h.own with ⟨rfl, rfl⟩ | ⟨g, rfl, hA, hB⟩
  · simp only [List.length_nil, Nat.zero_add] at hb
    simp [h1, hb]
    exact fun g' hg' => hk _ _ ⟨sub_new (sub_tr h.sub hs) hg', .inr ⟨g', by simp, sub_noneL (sub_tr h.sub hs) hg', by simp⟩⟩ rfl
  · have hne : g ≠ g1 := fresh_ne hB hg
    have hC := hs _ _ hB
    simp [h1, hC, hb]
    intro g' hg'
    refine hk _ _ ⟨fun x c hx => ?_, .inr ⟨g', by simp, sub_noneL (sub_tr h.sub hs) hg', by simp⟩⟩ rfl
    have hxg : x ≠ g := fresh_ne hx hA
    have := hs _ _ (h.sub _ _ hx)
    rw [set_app, del_app, if_neg (fresh_ne this hg'), if_neg hxg]
    exact this
theorem SlR.app (h : SlR e sz v m A B) {bytes g1 : Nat} {ys : List AV} {K : AV → Heap → Prop} (h1 : C g1 = some (.row e sz ys)) (hst : AV.sts ys = true) (hs : B.Sub C) (hg : B g1 = none) (hb : (m.length + ys.length) * bytes ≤ 140737488355328)
    (hk : ∀ v' C', SlR e sz v' (m ++ ys) A C' → v'.isAgg = false → K v' C') : aapp e sz bytes v (.own g1 0 ys.length) C K := by
  rcases h.own with ⟨rfl, rfl⟩ | ⟨g, rfl, hA, hB⟩
  · simp only [List.length_nil, Nat.zero_add] at hb
    simp [h1, hst, hb]
    exact fun g' hg' => hk _ _ ⟨sub_new (sub_tr h.sub hs) hg', .inr ⟨g', by simp, sub_noneL (sub_tr h.sub hs) hg', by simp⟩⟩ rfl
  · have hne : g ≠ g1 := fresh_ne hB hg
    have hC := hs _ _ hB
    simp [h1, hC, hst, hb]
    intro g' hg'
    refine hk _ _ ⟨fun x c hx => ?_, .inr ⟨g', by simp, sub_noneL (sub_tr h.sub hs) hg', by simp⟩⟩ rfl
    have hxg : x ≠ g := fresh_ne hx hA
    have := hs _ _ (h.sub _ _ hx)
    rw [set_app, del_app, if_neg (fresh_ne this hg'), if_neg hxg]
    exact this
theorem SlS.rebase {g : Nat} {c : Cont} (h : SlS e k v l A B) (hg : B g = none) : SlS e k v l (A.set g c) (B.set g c) :=
  ⟨set_sub h.sub, h.own.imp id fun ⟨x, h1, h2, h3⟩ => by
    have := fresh_ne h3 hg
    exact ⟨x, h1, by simp [this, h2], by simp [this, h3]⟩⟩
theorem SlR.rebase {g : Nat} {c : Cont} (h : SlR e sz v m A B) (hg : B g = none) : SlR e sz v m (A.set g c) (B.set g c) :=
  ⟨set_sub h.sub, h.own.imp id fun ⟨x, h1, h2, h3⟩ => by
    have := fresh_ne h3 hg
    exact ⟨x, h1, by simp [this, h2], by simp [this, h3]⟩⟩
theorem SlS.base {A' : Heap} (h : SlS e k v l A B) (hs : A'.Sub A) : SlS e k v l A' B := ⟨sub_tr hs h.sub, h.own.imp id fun ⟨x, h1, h2, h3⟩ => ⟨x, h1, sub_noneL hs h2, h3⟩⟩
theorem SlR.base {A' : Heap} (h : SlR e sz v m A B) (hs : A'.Sub A) : SlR e sz v m A' B := ⟨sub_tr hs h.sub, h.own.imp id fun ⟨x, h1, h2, h3⟩ => ⟨x, h1, sub_noneL hs h2, h3⟩⟩
end
/-- f, given these, returns nil or a new row. -/
def MakesS (P : Program) (f : FuncId) (args : List AV) (e : TypeId) (k : IntKind) (l : List Int) : Prop :=
  SimX P f args H0 fun o A' => (o = .ret .nilS ∧ l = [] ∧ A' = H0) ∨ ∃ g, o = .ret (.own g 0 l.length) ∧ A' = H0.set g (.irow e k l)
def MakesR (P : Program) (f : FuncId) (args : List AV) (e : TypeId) (sz : Nat) (m : List AV) : Prop :=
  SimX P f args H0 fun o A' => (o = .ret .nilS ∧ m = [] ∧ A' = H0) ∨ ∃ g, o = .ret (.own g 0 m.length) ∧ A' = H0.set g (.row e sz m)
section
variable {P : Program} {e : TypeId} {k : IntKind} {sz : Nat} {v : AV} {l : List Int} {m : List AV} {A B : Heap} {f : FuncId} {args args' : List AV} {K Kp : AV → Heap → Prop}
theorem MakesS.call (h : MakesS P f args' e k l) (hv : VwL A args args') (hk : ∀ v B, SlS e k v l A B → K v B) : SimX P f args A (outK K Kp) :=
  SimX.view h hv (fun o B h => by
      rcases h with ⟨rfl, _, rfl⟩ | ⟨g, rfl, rfl⟩
      · exact ⟨rfl, fun g c hc => by cases hc⟩
      · refine ⟨rfl, fun g' c' hc => ?_⟩
        rw [set_app] at hc
        split at hc
        · injection hc with hc; subst hc; rfl
        · cases hc)
    (fun o B h hd => by
      rcases h with ⟨rfl, rfl, rfl⟩ | ⟨g, rfl, rfl⟩
      · rw [join_H0]; exact hk _ _ (SlS.nil (Sub_refl A))
      · have := hd g _ set_eq'
        rw [join_set A this]
        exact hk _ _ ⟨sub_none this, .inr ⟨g, rfl, this, by simp⟩⟩)
theorem MakesR.call (h : MakesR P f args' e sz m) (hv : VwL A args args') (hn : AV.noFs m = true) (hk : ∀ v B, SlR e sz v m A B → K v B) : SimX P f args A (outK K Kp) :=
  SimX.view h hv (fun o B h => by
      rcases h with ⟨rfl, _, rfl⟩ | ⟨g, rfl, rfl⟩
      · exact ⟨rfl, fun g c hc => by cases hc⟩
      · refine ⟨rfl, fun g' c' hc => ?_⟩
        rw [set_app] at hc
        split at hc
        · injection hc with hc; subst hc; exact hn
        · cases hc)
    (fun o B h hd => by
      rcases h with ⟨rfl, rfl, rfl⟩ | ⟨g, rfl, rfl⟩
      · rw [join_H0]; exact hk _ _ (SlR.nil (Sub_refl A))
      · have := hd g _ set_eq'
        rw [join_set A this]
        exact hk _ _ ⟨sub_none this, .inr ⟨g, rfl, this, by simp⟩⟩)
/-- What such a function ends in. -/
theorem SlS.fin (h : SlS e k v l A B) : ∃ B' : Heap, B'.Sub B ∧ ((AOut.ret v = .ret .nilS ∧ l = [] ∧ B' = H0) ∨ ∃ g, AOut.ret v = .ret (.own g 0 l.length) ∧ B' = H0.set g (.irow e k l)) := by
  rcases h.own with ⟨rfl, rfl⟩ | ⟨g, rfl, _, hB⟩
  · exact ⟨H0, H0_sub _, .inl ⟨rfl, rfl, rfl⟩⟩
  · exact ⟨_, sub_set (H0_sub _) hB, .inr ⟨g, rfl, rfl⟩⟩
theorem SlR.fin (h : SlR e sz v m A B) : ∃ B' : Heap, B'.Sub B ∧ ((AOut.ret v = .ret .nilS ∧ m = [] ∧ B' = H0) ∨ ∃ g, AOut.ret v = .ret (.own g 0 m.length) ∧ B' = H0.set g (.row e sz m)) := by
  rcases h.own with ⟨rfl, rfl⟩ | ⟨g, rfl, _, hB⟩
  · exact ⟨H0, H0_sub _, .inl ⟨rfl, rfl, rfl⟩⟩
  · exact ⟨_, sub_set (H0_sub _) hB, .inr ⟨g, rfl, rfl⟩⟩
end
end AVL
