/- Rows that grow, amid others: all that is not the row itself; stores elsewhere; entries of maps. -/
import Derived.Test.YtfdckjliinpjiaaVst
namespace AVL
open Go
set_option linter.unusedVariables false

section
variable {e : TypeId} {k : IntKind} {sz : Nat} {v : AV} {l : List Int} {m : List AV} {A B C : Heap}
/-- All but the row. -/
theorem SlR.top (h : SlR e sz v m A B) : ∃ X : Heap, A.Sub X ∧ X.Sub B ∧ SlR e sz v m X B ∧ (∀ x c, B x = some c → (∀ n, v ≠ .own x 0 n) → X x = some c) ∧ ∀ x c, X x = some c → ∀ n, v ≠ .own x 0 n := by
  rcases h.own with ⟨rfl, rfl⟩ | ⟨g, rfl, hA, hB⟩
  · exact ⟨B, h.sub, Sub_refl B, SlR.nil (Sub_refl B), fun x c hx _ => hx, fun x c hx n e => by cases e⟩
  · refine ⟨B.del g, fun x c hx => ?_, fun x c hx => ?_, ⟨fun x c hx => ?_, .inr ⟨g, rfl, by simp [del_app], hB⟩⟩, fun x c hx hn => ?_, fun x c hx n e => ?_⟩
    · rw [del_app, if_neg (fresh_ne hx hA)]; exact h.sub _ _ hx
    · rw [del_app] at hx; split at hx
      · cases hx
      · exact hx
    · rw [del_app] at hx; split at hx
      · cases hx
      · exact hx
    · have : x ≠ g := by rintro rfl; exact hn _ rfl
      rw [del_app, if_neg this]; exact hx
    · injection e with e _ _; subst e; simp [del_app] at hx
theorem SlS.top (h : SlS e k v l A B) : ∃ X : Heap, A.Sub X ∧ X.Sub B ∧ SlS e k v l X B ∧ (∀ x c, B x = some c → (∀ n, v ≠ .own x 0 n) → X x = some c) ∧ ∀ x c, X x = some c → ∀ n, v ≠ .own x 0 n := by
  rcases h.own with ⟨rfl, rfl⟩ | ⟨g, rfl, hA, hB⟩
  · exact ⟨B, h.sub, Sub_refl B, SlS.nil (Sub_refl B), fun x c hx _ => hx, fun x c hx n e => by cases e⟩
  · refine ⟨B.del g, fun x c hx => ?_, fun x c hx => ?_, ⟨fun x c hx => ?_, .inr ⟨g, rfl, by simp [del_app], hB⟩⟩, fun x c hx hn => ?_, fun x c hx n e => ?_⟩
    · rw [del_app, if_neg (fresh_ne hx hA)]; exact h.sub _ _ hx
    · rw [del_app] at hx; split at hx
      · cases hx
      · exact hx
    · rw [del_app] at hx; split at hx
      · cases hx
      · exact hx
    · have : x ≠ g := by rintro rfl; exact hn _ rfl
      rw [del_app, if_neg this]; exact hx
    · injection e with e _ _; subst e; simp [del_app] at hx
/-- What stands in its base is not the row. -/
theorem SlR.not_base (h : SlR e sz v m A B) {x : Nat} {c : Cont} (hx : A x = some c) : ∀ n, v ≠ .own x 0 n := fun n e => by
  rcases h.own with ⟨rfl, _⟩ | ⟨g, rfl, hA, _⟩
  · cases e
  · injection e with e _ _; subst e; rw [hx] at hA; cases hA
theorem SlS.not_base (h : SlS e k v l A B) {x : Nat} {c : Cont} (hx : A x = some c) : ∀ n, v ≠ .own x 0 n := fun n e => by
  rcases h.own with ⟨rfl, _⟩ | ⟨g, rfl, hA, _⟩
  · cases e
  · injection e with e _ _; subst e; rw [hx] at hA; cases hA
theorem SlR.ne (h : SlR e sz v m A B) {x : Nat} {c : Cont} (hx : B x = some c) (hc : ∀ l, c ≠ .row e sz l) : ∀ n, v ≠ .own x 0 n := fun n e => by
  rcases h.own with ⟨rfl, _⟩ | ⟨g, rfl, _, hB⟩
  · cases e
  · injection e with e _ _; subst e; rw [hx] at hB; injection hB with hB; exact hc _ hB
theorem SlS.ne (h : SlS e k v l A B) {x : Nat} {c : Cont} (hx : B x = some c) (hc : ∀ l, c ≠ .irow e k l) : ∀ n, v ≠ .own x 0 n := fun n e => by
  rcases h.own with ⟨rfl, _⟩ | ⟨g, rfl, _, hB⟩
  · cases e
  · injection e with e _ _; subst e; rw [hx] at hB; injection hB with hB; exact hc _ hB
theorem SlR.pos (h : SlR e sz v m A B) (hp : 0 < m.length) : ∃ g, v = .own g 0 m.length ∧ A g = none ∧ B g = some (.row e sz m) := by
  rcases h.own with ⟨_, rfl⟩ | h
  · cases hp
  · exact h
theorem SlS.pos (h : SlS e k v l A B) (hp : 0 < l.length) : ∃ g, v = .own g 0 l.length ∧ A g = none ∧ B g = some (.irow e k l) := by
  rcases h.own with ⟨_, rfl⟩ | h
  · cases hp
  · exact h
theorem SlR.at {g i n : Nat} (h : SlR e sz (.own g i n) m A B) : A g = none ∧ B g = some (.row e sz m) ∧ i = 0 ∧ n = m.length := by
  rcases h.own with ⟨e, _⟩ | ⟨x, e, h1, h2⟩
  · cases e
  · injection e with e1 e2 e3; subst e1; exact ⟨h1, h2, e2, e3⟩
theorem SlS.at {g i n : Nat} (h : SlS e k (.own g i n) l A B) : A g = none ∧ B g = some (.irow e k l) ∧ i = 0 ∧ n = l.length := by
  rcases h.own with ⟨e, _⟩ | ⟨x, e, h1, h2⟩
  · cases e
  · injection e with e1 e2 e3; subst e1; exact ⟨h1, h2, e2, e3⟩
/-- A store elsewhere. -/
theorem SlR.set (h : SlR e sz v m A B) {x : Nat} {c : Cont} (hx : A x = none) (hn : ∀ n, v ≠ .own x 0 n) : SlR e sz v m A (B.set x c) :=
  ⟨fun y d hy => by rw [set_app, if_neg (fresh_ne hy hx)]; exact h.sub _ _ hy, h.own.imp id fun ⟨g, h1, h2, h3⟩ => ⟨g, h1, h2, by
    have : g ≠ x := by rintro rfl; exact hn _ h1
    rw [set_app, if_neg this]; exact h3⟩⟩
theorem SlS.set (h : SlS e k v l A B) {x : Nat} {c : Cont} (hx : A x = none) (hn : ∀ n, v ≠ .own x 0 n) : SlS e k v l A (B.set x c) :=
  ⟨fun y d hy => by rw [set_app, if_neg (fresh_ne hy hx)]; exact h.sub _ _ hy, h.own.imp id fun ⟨g, h1, h2, h3⟩ => ⟨g, h1, h2, by
    have : g ≠ x := by rintro rfl; exact hn _ h1
    rw [set_app, if_neg this]; exact h3⟩⟩
end
/-- A row that is appended, of any kind of slice. -/
theorem SlR.src {e : TypeId} {sz : Nat} {v : AV} {m : List AV} {A B C : Heap} (h : SlR e sz v m A B) (hs : B.Sub C) : ∀ Q : List AV → Prop, Q m → srcG sz v C Q := by
  intro Q hQ
  rcases h.own with ⟨rfl, rfl⟩ | ⟨g, rfl, hA, hB⟩
  · exact hQ
  · have hC := hs _ _ hB
    simp only [srcG, hC]
    refine ⟨trivial, by omega, ?_⟩
    rw [List.drop_zero, List.take_length]; exact hQ
theorem src_row {e : TypeId} {sz g n : Nat} {m : List AV} {C : Heap} (h : C g = some (.row e sz m)) (hn : n = m.length) : ∀ Q : List AV → Prop, Q m → srcG sz (.own g 0 n) C Q := by
  intro Q hQ
  subst hn
  simp only [srcG, h]
  refine ⟨trivial, by omega, ?_⟩
  rw [List.drop_zero, List.take_length]; exact hQ
theorem src_part {e : TypeId} {sz g i n : Nat} {m : List AV} {C : Heap} (h : C g = some (.row e sz m)) (hn : i + n ≤ m.length) : ∀ Q : List AV → Prop, Q ((m.drop i).take n) → srcG sz (.own g i n) C Q := by
  intro Q hQ
  simp only [srcG, h]
  exact ⟨trivial, by omega, hQ⟩
theorem srcI_row {e : TypeId} {k : IntKind} {g n : Nat} {l : List Int} {C : Heap} (h : C g = some (.irow e k l)) (hn : n = l.length) : ∀ Q : List Int → Prop, Q l → srcI k (.own g 0 n) C Q := by
  intro Q hQ
  subst hn
  simp only [srcI, h]
  refine ⟨trivial, by omega, ?_⟩
  rw [List.drop_zero, List.take_length]; exact hQ
theorem srcI_str {s : ByteArray} {C : Heap} : ∀ Q : List Int → Prop, Q (bytesI s) → srcI .u8 (.str s) C Q := fun Q hQ => ⟨rfl, hQ⟩
theorem srcI_isl {k : IntKind} {l : List Int} {C : Heap} : ∀ Q : List Int → Prop, Q l → srcI k (.isl k l) C Q := fun Q hQ => ⟨rfl, hQ⟩
theorem srcI_asl {t : TypeId} {k : IntKind} {g o m : Nat} {us : List AV} {l : List Int} {C : Heap} (h : C g = some (.var t us)) (hg : getI us o m = some (k, l)) (hl : l.length = m) : ∀ Q : List Int → Prop, Q l → srcI k (.asl g o m 0 m) C Q := by
  intro Q hQ
  simp only [srcI, h, hg]
  refine ⟨trivial, hl, ?_⟩
  rw [List.drop_zero, List.take_of_length_le (by omega)]; exact hQ
theorem src_dsl {sz : Nat} {m : List AV} {C : Heap} : ∀ Q : List AV → Prop, Q m → srcG sz (.dsl sz m) C Q := fun Q hQ => ⟨rfl, hQ⟩
theorem SlR.one {e : TypeId} {sz g n : Nat} {m : List AV} {A : Heap} (h : A g = none) (hn : n = m.length) : SlR e sz (.own g 0 n) m A (A.set g (.row e sz m)) := by
  subst hn
  exact ⟨sub_none h, .inr ⟨g, rfl, h, by simp⟩⟩
theorem SlR.appS {e : TypeId} {sz : Nat} {v s : AV} {m ys : List AV} {A B C : Heap} (h : SlR e sz v m A B) {bytes : Nat} {K : AV → Heap → Prop} (hs : B.Sub C) (hsrc : ∀ Q : List AV → Prop, Q ys → srcG sz s C Q) (hst : AV.sts ys = true)
    (hb : (m.length + ys.length) * bytes ≤ 140737488355328) (hk : ∀ g' n C', n = (m ++ ys).length → SlR e sz (.own g' 0 n) (m ++ ys) A C' → K (.own g' 0 n) C') : aapp e sz bytes v s C K := by
  unfold aapp
  refine hsrc _ ⟨hst, ?_⟩
  rcases h.own with ⟨rfl, rfl⟩ | ⟨g, rfl, hA, hB⟩
  · simp only [List.length_nil, Nat.zero_add] at hb
    exact ⟨hb, fun g' hg' => hk _ _ _ (by simp) ⟨sub_new (sub_tr h.sub hs) hg', .inr ⟨g', by simp, sub_noneL (sub_tr h.sub hs) hg', by simp⟩⟩⟩
  · have hC := hs _ _ hB
    simp only [hC]
    refine ⟨trivial, trivial, by omega, hb, fun g' hg' => hk _ _ _ (by simp) ⟨fun x c hx => ?_, .inr ⟨g', by simp, sub_noneL (sub_tr h.sub hs) hg', by simp⟩⟩⟩
    have hxg : x ≠ g := fresh_ne hx hA
    have := hs _ _ (h.sub _ _ hx)
    rw [set_app, del_app, if_neg (fresh_ne this hg'), if_neg hxg]
    exact this
/-- Part of a row, with others behind. -/
theorem aapp_part {e : TypeId} {sz bytes g i n : Nat} {s : AV} {R ys : List AV} {C : Heap} {K : AV → Heap → Prop} (hg : C g = some (.row e sz R)) (hn : i + n ≤ R.length) (hsrc : ∀ Q : List AV → Prop, Q ys → srcG sz s C Q) (hst : AV.sts ys = true)
    (hb : (n + ys.length) * bytes ≤ 140737488355328) (hk : ∀ g', C g' = none → K (.own g' 0 (n + ys.length)) ((C.del g).set g' (.row e sz ((R.drop i).take n ++ ys)))) : aapp e sz bytes (.own g i n) s C K := by
  unfold aapp
  refine hsrc _ ⟨hst, ?_⟩
  simp only [hg]
  exact ⟨trivial, trivial, hn, hb, hk⟩
/-- A whole array, with others behind. -/
theorem aappI_arr {e t : TypeId} {k : IntKind} {bytes g o m : Nat} {s : AV} {us : List AV} {l ys : List Int} {C : Heap} {K : AV → Heap → Prop} (h : C g = some (.var t us)) (hg : getI us o m = some (k, l)) (hl : l.length = m) (hsrc : ∀ Q : List Int → Prop, Q ys → srcI k s C Q)
    (hp : 0 < ys.length) (hb : (l.length + ys.length) * bytes ≤ 140737488355328) (hk : ∀ v' C', SlS e k v' (l ++ ys) C C' → v'.isAgg = false → K v' C') : aappI e k bytes (.asl g o m 0 m) s C K := by
  unfold aappI
  refine hsrc _ ?_
  simp only [h, hg]
  subst hl
  rw [List.drop_zero, List.take_length]
  exact ⟨trivial, rfl, by omega, hp, hb, fun g' hg' => hk _ _ ⟨sub_none hg', .inr ⟨g', by simp, hg', by simp⟩⟩ rfl⟩
/-! rows of cells of one value each -/
def AllS (l : List AV) : Prop := ∀ v ∈ l, v.size = 1
theorem dropC_S : ∀ {l : List AV} {i : Nat}, AllS l → i ≤ l.length → dropC l i = some (l.drop i)
  | l, 0, _, _ => by simp [dropC]
  | [], i + 1, _, h => by simp at h
  | v :: r, i + 1, hl, h => by
    have h1 := hl v (by simp)
    have ih := dropC_S (l := r) (i := i) (fun x hx => hl x (by simp [hx])) (by simpa using h)
    unfold dropC
    rw [h1, if_pos (by omega), Nat.add_sub_cancel, ih]; rfl
theorem takeC_S : ∀ {l : List AV} {i : Nat}, AllS l → i ≤ l.length → takeC l i = some (l.take i)
  | l, 0, _, _ => by simp [takeC]
  | [], i + 1, _, h => by simp at h
  | v :: r, i + 1, hl, h => by
    have h1 := hl v (by simp)
    have ih := takeC_S (l := r) (i := i) (fun x hx => hl x (by simp [hx])) (by simpa using h)
    unfold takeC
    rw [h1, if_pos (by omega), Nat.add_sub_cancel, ih]; rfl
theorem AllS.drop {l : List AV} (h : AllS l) (i : Nat) : AllS (l.drop i) := fun v hv => h v (List.mem_of_mem_drop hv)
theorem getC_S {l : List AV} {i : Nat} (h : AllS l) (hi : i < l.length) (hs : shp .sc [l[i]] = some l[i]) : getC l i 1 .sc = some l[i] := by
  have e : (l.drop i).take 1 = [l[i]] := by rw [List.drop_eq_getElem_cons hi]; rfl
  have h2 := takeC_S (i := 1) (h.drop i) (by simp; omega)
  unfold getC
  simp only [dropC_S h (Nat.le_of_lt hi), h2, e]; exact hs
theorem setC_S {l : List AV} {i : Nat} (h : AllS l) (hi : i < l.length) (v : AV) : setC l i 1 [v] = some (l.set i v) := by
  unfold setC
  rw [takeC_S h (by omega), dropC_S h (by omega)]
  simp only [List.set_eq_take_append_cons_drop, if_pos hi]; rfl
theorem sub_set' {A B : Heap} {x : Nat} {c : Cont} (h : A.Sub B) (hx : A x = none) : A.Sub (B.set x c) := fun y d hy => by
  rw [set_app, if_neg (fresh_ne hy hx)]; exact h _ _ hy
theorem sub_del {A B : Heap} {x : Nat} (h : A.Sub B) (hx : A x = none) : A.Sub (B.del x) := fun y d hy => by
  rw [del_app, if_neg (fresh_ne hy hx)]; exact h _ _ hy
theorem del_sub {A : Heap} {x : Nat} : (A.del x).Sub A := fun y d hy => by
  rw [del_app] at hy; split at hy
  · cases hy
  · exact hy
/-- A base, and all that is new. -/
def Heap.plus (A B B' : Heap) : Heap := fun x => match B x with
  | none => B' x
  | some _ => A x
theorem plus_new {A B B' : Heap} {x : Nat} (h : B x = none) : A.plus B B' x = B' x := by simp only [Heap.plus, h]
theorem sub_plus {A B B' : Heap} (h : A.Sub B) : A.Sub (A.plus B B') := fun x c hx => by simp only [Heap.plus, h x c hx]; exact hx
theorem plus_sub {A B B' : Heap} (h : A.Sub B) (hs : B.Sub B') : (A.plus B B').Sub B' := fun x c hx => by
  simp only [Heap.plus] at hx
  split at hx
  · exact hx
  · exact hs _ _ (h _ _ hx)
theorem plus_mono {A B B' B2 : Heap} (hs : B'.Sub B2) : (A.plus B B').Sub (A.plus B B2) := fun x c hx => by
  simp only [Heap.plus] at hx ⊢
  split at hx
  · rename_i e; exact hs _ _ hx
  · rename_i e; exact hx
theorem plus_sub2 {A B B4 C B' : Heap} (hA : A.Sub B) (h4 : B.Sub B4) (hs : ∀ x c, B4 x = none → C x = some c → B' x = some c) : (A.plus B4 C).Sub (A.plus B B') := fun x c hx => by
  simp only [Heap.plus] at hx ⊢
  split at hx
  · rename_i e; rw [sub_noneL h4 e]; exact hs _ _ e hx
  · rw [hA _ _ hx]; exact hx
theorem plus_none {A B B' : Heap} {x : Nat} {c : Cont} (h : B x = some c) (hA : A x = none) : A.plus B B' x = none := by simp only [Heap.plus, h]; exact hA
theorem plus_self {A B : Heap} (h : A.Sub B) : (A.plus B B) = A := by
  funext x
  simp only [Heap.plus]
  split
  · rename_i e; rw [e]; exact (sub_noneL h e).symm
  · rfl
theorem getM_putM : ∀ (m : List (Int × AV)) (n : Int) (v : AV) (k : Int), getM (putM m n v) k = if k = n then some v else getM m k
  | [], n, v, k => by simp only [putM, getM]
  | (a, u) :: r, n, v, k => by
    simp only [putM]
    split
    · rename_i h; subst h
      simp only [getM]
      split <;> rfl
    · rename_i h
      simp only [getM, getM_putM r n v k]
      by_cases h1 : k = a
      · subst h1
        have : ¬ k = n := fun e => h e.symm
        simp [this]
      · simp [h1]
end AVL
