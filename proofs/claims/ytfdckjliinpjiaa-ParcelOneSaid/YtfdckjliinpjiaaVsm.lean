/- Rows that grow: sources of any kind; what a function leaves of the heap; results with more than one row. -/
import Derived.Test.YtfdckjliinpjiaaVsl
namespace AVL
open Go
set_option linter.unusedVariables false

/-- Its own row, with others behind: the source is any. -/
theorem SlS.appS {e : TypeId} {k : IntKind} {v s : AV} {l ys : List Int} {A B C : Heap} (h : SlS e k v l A B) {bytes : Nat} {K : AV → Heap → Prop} (hs : B.Sub C) (hsrc : ∀ Q : List Int → Prop, Q ys → srcI k s C Q)
    (hb : (l.length + ys.length) * bytes ≤ 140737488355328) (hk : ∀ v' C', SlS e k v' (l ++ ys) A C' → v'.isAgg = false → K v' C') : aappI e k bytes v s C K := by
  unfold aappI
  refine hsrc _ ?_
  rcases h.own with ⟨rfl, rfl⟩ | ⟨g, rfl, hA, hB⟩
  · simp only [List.length_nil, Nat.zero_add] at hb
    exact ⟨hb, fun g' hg' => hk _ _ ⟨sub_new (sub_tr h.sub hs) hg', .inr ⟨g', by simp, sub_noneL (sub_tr h.sub hs) hg', by simp⟩⟩ rfl⟩
  · have hC := hs _ _ hB
    simp only [hC]
    refine ⟨trivial, trivial, by omega, hb, fun g' hg' => hk _ _ ⟨fun x c hx => ?_, .inr ⟨g', by simp, sub_noneL (sub_tr h.sub hs) hg', by simp⟩⟩ rfl⟩
    have hxg : x ≠ g := fresh_ne hx hA
    have := hs _ _ (h.sub _ _ hx)
    rw [set_app, del_app, if_neg (fresh_ne this hg'), if_neg hxg]
    exact this
theorem SlS.src {e : TypeId} {k : IntKind} {v : AV} {l : List Int} {A B C : Heap} (h : SlS e k v l A B) (hs : B.Sub C) : ∀ Q : List Int → Prop, Q l → srcI k v C Q := by
  intro Q hQ
  rcases h.own with ⟨rfl, rfl⟩ | ⟨g, rfl, hA, hB⟩
  · exact hQ
  · have hC := hs _ _ hB
    simp only [srcI, hC]
    refine ⟨trivial, by omega, ?_⟩
    rw [List.drop_zero, List.take_length]; exact hQ
theorem SlS.one {e : TypeId} {k : IntKind} {A : Heap} {g : Nat} {l : List Int} {n : Nat} (hA : A g = none) (hn : l.length = n) : SlS e k (.own g 0 n) l A (A.set g (.irow e k l)) :=
  ⟨sub_none hA, .inr ⟨g, by rw [hn], hA, by simp⟩⟩
/-- f, given these, returns nil or a new row, with something else. -/
def MakesP (P : Program) (f : FuncId) (args : List AV) (F : AV → AV) (e : TypeId) (k : IntKind) (l : List Int) : Prop :=
  SimX P f args H0 fun o A' => ∃ v, o = .ret (F v) ∧ ((v = .nilS ∧ l = [] ∧ A' = H0) ∨ ∃ g, v = .own g 0 l.length ∧ A' = H0.set g (.irow e k l))
theorem MakesP.call {P : Program} {f : FuncId} {args args' : List AV} {F : AV → AV} {e : TypeId} {k : IntKind} {l : List Int} {A : Heap} {K Kp : AV → Heap → Prop} (h : MakesP P f args' F e k l) (hv : VwL A args args')
    (hF : ∀ v : AV, v.noF = true → (F v).noF = true) (hk : ∀ v B, SlS e k v l A B → K (F v) B) : SimX P f args A (outK K Kp) :=
  SimX.view h hv (fun o B h => by
      obtain ⟨v, rfl, ⟨rfl, _, rfl⟩ | ⟨g, rfl, rfl⟩⟩ := h
      · exact ⟨hF _ rfl, fun g c hc => by cases hc⟩
      · refine ⟨hF _ rfl, fun g' c' hc => ?_⟩
        rw [set_app] at hc
        split at hc
        · injection hc with hc; subst hc; rfl
        · cases hc)
    (fun o B h hd => by
      obtain ⟨v, rfl, ⟨rfl, rfl, rfl⟩ | ⟨g, rfl, rfl⟩⟩ := h
      · rw [join_H0]; exact hk _ _ (SlS.nil (Sub_refl A))
      · have := hd g _ set_eq'
        rw [join_set A this]
        exact hk _ _ ⟨sub_none this, .inr ⟨g, rfl, this, by simp⟩⟩)
theorem SlS_finP {e : TypeId} {k : IntKind} {v : AV} {l : List Int} {A B : Heap} {F : AV → AV} (h : SlS e k v l A B) :
    ∃ B' : Heap, B'.Sub B ∧ ∃ u, AOut.ret (F v) = .ret (F u) ∧ ((u = .nilS ∧ l = [] ∧ B' = H0) ∨ ∃ g, u = .own g 0 l.length ∧ B' = H0.set g (.irow e k l)) := by
  rcases h.own with ⟨rfl, rfl⟩ | ⟨g, rfl, _, hB⟩
  · exact ⟨H0, H0_sub _, _, rfl, .inl ⟨rfl, rfl, rfl⟩⟩
  · exact ⟨_, sub_set (H0_sub _) hB, _, rfl, .inr ⟨g, rfl, rfl⟩⟩
theorem SlR.reset {e : TypeId} {sz : Nat} {v : AV} {m : List AV} {A B : Heap} {g : Nat} {c c' : Cont} (h : SlR e sz v m (A.set g c) B) : SlR e sz v m (A.set g c') (B.set g c') := by
  refine ⟨fun x y hx => ?_, h.own.imp id fun ⟨g1, h1, h2, h3⟩ => ?_⟩
  · rw [set_app] at hx ⊢
    split at hx
    · rename_i e; rw [if_pos e]; exact hx
    · rename_i e; rw [if_neg e]; exact h.sub x y (by rw [set_app, if_neg e]; exact hx)
  · have hne : g1 ≠ g := fun e => by subst e; simp at h2
    refine ⟨g1, h1, ?_, ?_⟩
    · rw [set_app, if_neg hne] at h2 ⊢; exact h2
    · rw [set_app, if_neg hne]; exact h3
/-- What of a heap these slices own. -/
def owns (g : Nat) : AV → Bool
  | .own g' _ _ => g == g'
  | _ => false
def Heap.only (B : Heap) (l : List AV) : Heap := fun g => if l.any (owns g) then B g else none
theorem only_sub (B : Heap) (l : List AV) : (B.only l).Sub B := fun g c h => by
  simp only [Heap.only] at h; split at h
  · exact h
  · cases h
theorem SlS_only {e : TypeId} {k : IntKind} {v : AV} {m : List Int} {A B : Heap} {l : List AV} (h : SlS e k v m A B) (hl : v ∈ l) : SlS e k v m H0 (B.only l) :=
  ⟨H0_sub _, h.own.imp id fun ⟨g, h1, _, h3⟩ => ⟨g, h1, rfl, by
    simp only [Heap.only]; rw [if_pos]; exact h3
    simp only [List.any_eq_true]; exact ⟨v, hl, by rw [h1]; simp [owns]⟩⟩⟩
theorem SlR_only {e : TypeId} {sz : Nat} {v : AV} {m : List AV} {A B : Heap} {l : List AV} (h : SlR e sz v m A B) (hl : v ∈ l) : SlR e sz v m H0 (B.only l) :=
  ⟨H0_sub _, h.own.imp id fun ⟨g, h1, _, h3⟩ => ⟨g, h1, rfl, by
    simp only [Heap.only]; rw [if_pos]; exact h3
    simp only [List.any_eq_true]; exact ⟨v, hl, by rw [h1]; simp [owns]⟩⟩⟩
theorem SlS_join {e : TypeId} {k : IntKind} {v : AV} {m : List Int} {A B : Heap} (h : SlS e k v m H0 B) (hd : ∀ g c, B g = some c → A g = none) : SlS e k v m A (A.join B) := by
  refine ⟨fun x y hx => by simp only [Heap.join, hx], h.own.imp id fun ⟨g, h1, _, h3⟩ => ⟨g, h1, hd g _ h3, by simp only [Heap.join, hd g _ h3]; exact h3⟩⟩
theorem SlR_join {e : TypeId} {sz : Nat} {v : AV} {m : List AV} {A B : Heap} (h : SlR e sz v m H0 B) (hd : ∀ g c, B g = some c → A g = none) : SlR e sz v m A (A.join B) := by
  refine ⟨fun x y hx => by simp only [Heap.join, hx], h.own.imp id fun ⟨g, h1, _, h3⟩ => ⟨g, h1, hd g _ h3, by simp only [Heap.join, hd g _ h3]; exact h3⟩⟩
theorem SlS.reset {e : TypeId} {k : IntKind} {v : AV} {m : List Int} {A B : Heap} {g : Nat} {c c' : Cont} (h : SlS e k v m (A.set g c) B) : SlS e k v m (A.set g c') (B.set g c') := by
  refine ⟨fun x y hx => ?_, h.own.imp id fun ⟨g1, h1, h2, h3⟩ => ?_⟩
  · rw [set_app] at hx ⊢
    split at hx
    · rename_i e; rw [if_pos e]; exact hx
    · rename_i e; rw [if_neg e]; exact h.sub x y (by rw [set_app, if_neg e]; exact hx)
  · have hne : g1 ≠ g := fun e => by subst e; simp at h2
    refine ⟨g1, h1, ?_, ?_⟩
    · rw [set_app, if_neg hne] at h2 ⊢; exact h2
    · rw [set_app, if_neg hne]; exact h3
/-- As before; what comes out is a row of its own. -/
theorem SlS.appO {e : TypeId} {k : IntKind} {v s : AV} {l ys : List Int} {A B C : Heap} (h : SlS e k v l A B) {bytes : Nat} {K : AV → Heap → Prop} (hs : B.Sub C) (hsrc : ∀ Q : List Int → Prop, Q ys → srcI k s C Q)
    (hb : (l.length + ys.length) * bytes ≤ 140737488355328) (hk : ∀ g' C', SlS e k (.own g' 0 (l ++ ys).length) (l ++ ys) A C' → K (.own g' 0 (l ++ ys).length) C') : aappI e k bytes v s C K := by
  unfold aappI
  refine hsrc _ ?_
  rcases h.own with ⟨rfl, rfl⟩ | ⟨g, rfl, hA, hB⟩
  · simp only [List.length_nil, Nat.zero_add] at hb
    exact ⟨hb, fun g' hg' => hk g' _ ⟨sub_new (sub_tr h.sub hs) hg', .inr ⟨g', rfl, sub_noneL (sub_tr h.sub hs) hg', by simp⟩⟩⟩
  · have hC := hs _ _ hB
    simp only [hC]
    refine ⟨trivial, trivial, by omega, hb, fun g' hg' => ?_⟩
    have := hk g' ((C.del g).set g' (.irow e k (l ++ ys))) ⟨fun x c hx => ?_, .inr ⟨g', rfl, sub_noneL (sub_tr h.sub hs) hg', by simp⟩⟩
    · rw [List.drop_zero, List.take_length, ← List.length_append]; exact this
    · have hxg : x ≠ g := fresh_ne hx hA
      have := hs _ _ (h.sub _ _ hx)
      rw [set_app, del_app, if_neg (fresh_ne this hg'), if_neg hxg]
      exact this
theorem SlR.appO {e : TypeId} {sz : Nat} {v : AV} {m ys : List AV} {A B C : Heap} (h : SlR e sz v m A B) {bytes g1 n : Nat} {K : AV → Heap → Prop} (h1 : C g1 = some (.row e sz ys)) (hn : n = ys.length) (hst : AV.sts ys = true) (hs : B.Sub C) (hg : B g1 = none)
    (hb : (m.length + ys.length) * bytes ≤ 140737488355328) (hk : ∀ g' C', SlR e sz (.own g' 0 (m ++ ys).length) (m ++ ys) A C' → K (.own g' 0 (m ++ ys).length) C') : aapp e sz bytes v (.own g1 0 n) C K := by
  subst hn
  rcases h.own with ⟨rfl, rfl⟩ | ⟨g, rfl, hA, hB⟩
  · simp only [List.length_nil, Nat.zero_add] at hb
    simp [aapp, srcG, h1, hst, hb]
    exact fun g' hg' => hk g' _ ⟨sub_new (sub_tr h.sub hs) hg', .inr ⟨g', rfl, sub_noneL (sub_tr h.sub hs) hg', by simp⟩⟩
  · have hne : g ≠ g1 := fresh_ne hB hg
    have hC := hs _ _ hB
    simp [aapp, srcG, h1, hC, hst, hb]
    intro g' hg'
    have := hk g' ((C.del g).set g' (.row e sz (m ++ ys))) ⟨fun x c hx => ?_, .inr ⟨g', rfl, sub_noneL (sub_tr h.sub hs) hg', by simp⟩⟩
    · simpa using this
    · have hxg : x ≠ g := fresh_ne hx hA
      have := hs _ _ (h.sub _ _ hx)
      rw [set_app, del_app, if_neg (fresh_ne this hg'), if_neg hxg]
      exact this
/-! values that are not known, but are slices -/
@[simp] theorem comps_undef : comps (AV.undef) = [AV.undef] := rfl
@[simp] theorem good_undef : good (AV.undef) = false := rfl
@[simp] theorem shp1_undef : shp .sc [AV.undef] = some (AV.undef) := rfl
@[simp] theorem sz_undef : (AV.undef).size = 1 := rfl
@[simp] theorem comps_int {k : IntKind} {n : Int} : comps (AV.int k n) = [AV.int k n] := rfl
@[simp] theorem good_int {k : IntKind} {n : Int} : good (AV.int k n) = true := rfl
@[simp] theorem shp1_int {k : IntKind} {n : Int} : shp .sc [AV.int k n] = some (AV.int k n) := rfl
@[simp] theorem sz_int {k : IntKind} {n : Int} : (AV.int k n).size = 1 := rfl
@[simp] theorem comps_bool {b : Bool} : comps (AV.bool b) = [AV.bool b] := rfl
@[simp] theorem good_bool {b : Bool} : good (AV.bool b) = true := rfl
@[simp] theorem shp1_bool {b : Bool} : shp .sc [AV.bool b] = some (AV.bool b) := rfl
@[simp] theorem sz_bool {b : Bool} : (AV.bool b).size = 1 := rfl
@[simp] theorem comps_str {s : ByteArray} : comps (AV.str s) = [AV.str s] := rfl
@[simp] theorem good_str {s : ByteArray} : good (AV.str s) = true := rfl
@[simp] theorem shp1_str {s : ByteArray} : shp .sc [AV.str s] = some (AV.str s) := rfl
@[simp] theorem sz_str {s : ByteArray} : (AV.str s).size = 1 := rfl
@[simp] theorem comps_nilS : comps (AV.nilS) = [AV.nilS] := rfl
@[simp] theorem good_nilS : good (AV.nilS) = true := rfl
@[simp] theorem shp1_nilS : shp .sc [AV.nilS] = some (AV.nilS) := rfl
@[simp] theorem sz_nilS : (AV.nilS).size = 1 := rfl
@[simp] theorem comps_isl {k : IntKind} {l : List Int} : comps (AV.isl k l) = [AV.isl k l] := rfl
@[simp] theorem good_isl {k : IntKind} {l : List Int} : good (AV.isl k l) = true := rfl
@[simp] theorem shp1_isl {k : IntKind} {l : List Int} : shp .sc [AV.isl k l] = some (AV.isl k l) := rfl
@[simp] theorem sz_isl {k : IntKind} {l : List Int} : (AV.isl k l).size = 1 := rfl
@[simp] theorem comps_dsl {s : Nat} {l : List AV} : comps (AV.dsl s l) = [AV.dsl s l] := rfl
@[simp] theorem good_dsl {s : Nat} {l : List AV} : good (AV.dsl s l) = true := rfl
@[simp] theorem shp1_dsl {s : Nat} {l : List AV} : shp .sc [AV.dsl s l] = some (AV.dsl s l) := rfl
@[simp] theorem sz_dsl {s : Nat} {l : List AV} : (AV.dsl s l).size = 1 := rfl
@[simp] theorem comps_own {g : Nat} {i : Nat} {n : Nat} : comps (AV.own g i n) = [AV.own g i n] := rfl
@[simp] theorem good_own {g : Nat} {i : Nat} {n : Nat} : good (AV.own g i n) = true := rfl
@[simp] theorem shp1_own {g : Nat} {i : Nat} {n : Nat} : shp .sc [AV.own g i n] = some (AV.own g i n) := rfl
@[simp] theorem sz_own {g : Nat} {i : Nat} {n : Nat} : (AV.own g i n).size = 1 := rfl
@[simp] theorem comps_asl {g : Nat} {o : Nat} {m : Nat} {i : Nat} {n : Nat} : comps (AV.asl g o m i n) = [AV.asl g o m i n] := rfl
@[simp] theorem good_asl {g : Nat} {o : Nat} {m : Nat} {i : Nat} {n : Nat} : good (AV.asl g o m i n) = true := rfl
@[simp] theorem shp1_asl {g : Nat} {o : Nat} {m : Nat} {i : Nat} {n : Nat} : shp .sc [AV.asl g o m i n] = some (AV.asl g o m i n) := rfl
@[simp] theorem sz_asl {g : Nat} {o : Nat} {m : Nat} {i : Nat} {n : Nat} : (AV.asl g o m i n).size = 1 := rfl
@[simp] theorem comps_ptr {g : Nat} {o : Nat} : comps (AV.ptr g o) = [AV.ptr g o] := rfl
@[simp] theorem good_ptr {g : Nat} {o : Nat} : good (AV.ptr g o) = true := rfl
@[simp] theorem shp1_ptr {g : Nat} {o : Nat} : shp .sc [AV.ptr g o] = some (AV.ptr g o) := rfl
@[simp] theorem sz_ptr {g : Nat} {o : Nat} : (AV.ptr g o).size = 1 := rfl
@[simp] theorem comps_pix {g : Nat} {o : Nat} {m : Nat} {i : Nat} : comps (AV.pix g o m i) = [AV.pix g o m i] := rfl
@[simp] theorem good_pix {g : Nat} {o : Nat} {m : Nat} {i : Nat} : good (AV.pix g o m i) = true := rfl
@[simp] theorem shp1_pix {g : Nat} {o : Nat} {m : Nat} {i : Nat} : shp .sc [AV.pix g o m i] = some (AV.pix g o m i) := rfl
@[simp] theorem sz_pix {g : Nat} {o : Nat} {m : Nat} {i : Nat} : (AV.pix g o m i).size = 1 := rfl
@[simp] theorem comps_pel {g : Nat} {i : Nat} {o : Nat} : comps (AV.pel g i o) = [AV.pel g i o] := rfl
@[simp] theorem good_pel {g : Nat} {i : Nat} {o : Nat} : good (AV.pel g i o) = true := rfl
@[simp] theorem shp1_pel {g : Nat} {i : Nat} {o : Nat} : shp .sc [AV.pel g i o] = some (AV.pel g i o) := rfl
@[simp] theorem sz_pel {g : Nat} {i : Nat} {o : Nat} : (AV.pel g i o).size = 1 := rfl
@[simp] theorem comps_pval {v : AV} : comps (AV.pval v) = [AV.pval v] := rfl
@[simp] theorem good_pval {v : AV} : good (AV.pval v) = true := rfl
@[simp] theorem shp1_pval {v : AV} : shp .sc [AV.pval v] = some (AV.pval v) := rfl
@[simp] theorem sz_pval {v : AV} : (AV.pval v).size = 1 := rfl
@[simp] theorem comps_nilP : comps (AV.nilP) = [AV.nilP] := rfl
@[simp] theorem good_nilP : good (AV.nilP) = true := rfl
@[simp] theorem shp1_nilP : shp .sc [AV.nilP] = some (AV.nilP) := rfl
@[simp] theorem sz_nilP : (AV.nilP).size = 1 := rfl
@[simp] theorem comps_func {f : Fn} {a : List AV} {b : List AV} : comps (AV.func f a b) = [AV.func f a b] := rfl
@[simp] theorem good_func {f : Fn} {a : List AV} {b : List AV} : good (AV.func f a b) = true := rfl
@[simp] theorem shp1_func {f : Fn} {a : List AV} {b : List AV} : shp .sc [AV.func f a b] = some (AV.func f a b) := rfl
@[simp] theorem sz_func {f : Fn} {a : List AV} {b : List AV} : (AV.func f a b).size = 1 := rfl
@[simp] theorem comps_nilF : comps (AV.nilF) = [AV.nilF] := rfl
@[simp] theorem good_nilF : good (AV.nilF) = true := rfl
@[simp] theorem shp1_nilF : shp .sc [AV.nilF] = some (AV.nilF) := rfl
@[simp] theorem sz_nilF : (AV.nilF).size = 1 := rfl
@[simp] theorem comps_iface {t : TypeId} {v : AV} : comps (AV.iface t v) = [AV.iface t v] := rfl
@[simp] theorem good_iface {t : TypeId} {v : AV} : good (AV.iface t v) = true := rfl
@[simp] theorem shp1_iface {t : TypeId} {v : AV} : shp .sc [AV.iface t v] = some (AV.iface t v) := rfl
@[simp] theorem sz_iface {t : TypeId} {v : AV} : (AV.iface t v).size = 1 := rfl
@[simp] theorem comps_nilI : comps (AV.nilI) = [AV.nilI] := rfl
@[simp] theorem good_nilI : good (AV.nilI) = true := rfl
@[simp] theorem shp1_nilI : shp .sc [AV.nilI] = some (AV.nilI) := rfl
@[simp] theorem sz_nilI : (AV.nilI).size = 1 := rfl
@[simp] theorem comps_tuple {l : List AV} : comps (AV.tuple l) = [AV.tuple l] := rfl
@[simp] theorem good_tuple {l : List AV} : good (AV.tuple l) = false := rfl
@[simp] theorem shp1_tuple {l : List AV} : shp .sc [AV.tuple l] = some (AV.tuple l) := rfl
@[simp] theorem sz_tuple {l : List AV} : (AV.tuple l).size = 1 := rfl
@[simp] theorem comps_map {g : Nat} : comps (AV.map g) = [AV.map g] := rfl
@[simp] theorem good_map {g : Nat} : good (AV.map g) = true := rfl
@[simp] theorem shp1_map {g : Nat} : shp .sc [AV.map g] = some (AV.map g) := rfl
@[simp] theorem sz_map {g : Nat} : (AV.map g).size = 1 := rfl
@[simp] theorem comps_nilM : comps (AV.nilM) = [AV.nilM] := rfl
@[simp] theorem good_nilM : good (AV.nilM) = true := rfl
@[simp] theorem shp1_nilM : shp .sc [AV.nilM] = some (AV.nilM) := rfl
@[simp] theorem sz_nilM : (AV.nilM).size = 1 := rfl
@[simp] theorem comps_agg {l : List AV} : comps (AV.agg l) = l := rfl
@[simp] theorem good_agg {l : List AV} : good (AV.agg l) = true := rfl
@[simp] theorem shp1_agg {l : List AV} : shp .sc [AV.agg l] = none := rfl
@[simp] theorem comps_iarr {k : IntKind} {n : Nat} {l : List Int} : comps (AV.iarr k n l) = [AV.iarr k n l] := rfl
@[simp] theorem good_iarr {k : IntKind} {n : Nat} {l : List Int} : good (AV.iarr k n l) = true := rfl
@[simp] theorem shp1_iarr {k : IntKind} {n : Nat} {l : List Int} : shp .sc [AV.iarr k n l] = (if n = 1 then some (.int k (l.getD 0 0)) else none) := rfl
@[simp] theorem sz_iarr {k : IntKind} {n : Nat} {l : List Int} : (AV.iarr k n l).size = n := rfl
@[simp] theorem shp_ag {l : List AV} : shp .ag l = some (.agg l) := rfl
@[simp] theorem shp_ia1 {k k2 : IntKind} {n n2 : Nat} {x : List Int} : shp (.ia k n) [.iarr k2 n2 x] = (if k2 = k ∧ n2 = n then some (.iarr k n x) else none) := rfl
structure Scl (v : AV) : Prop where
  agg : v.isAgg = false
  good : AVL.good v = true
  comps : AVL.comps v = [v]
  st : v.st = true
  size : v.size = 1
  shp : AVL.shp .sc [v] = some v
  noF : v.noF = true
theorem SlS.scl {e : TypeId} {k : IntKind} {v : AV} {l : List Int} {A B : Heap} (h : SlS e k v l A B) : Scl v := by
  rcases h.own with ⟨rfl, _⟩ | ⟨g, rfl, _⟩ <;> exact ⟨rfl, rfl, rfl, rfl, rfl, rfl, rfl⟩
theorem SlR.scl {e : TypeId} {sz : Nat} {v : AV} {l : List AV} {A B : Heap} (h : SlR e sz v l A B) : Scl v := by
  rcases h.own with ⟨rfl, _⟩ | ⟨g, rfl, _⟩ <;> exact ⟨rfl, rfl, rfl, rfl, rfl, rfl, rfl⟩
theorem vw_row {A : Heap} {g n : Nat} {t : TypeId} {sz : Nat} {l : List AV} (h : A g = some (.row t sz l)) (hn : n = l.length) : Vw A (.own g 0 n) (.dsl sz l) := by
  subst hn
  exact .ownR (A := A) (i := 0) (n := l.length) h (by omega) (by rw [List.drop_zero, List.take_length]; exact Vws.refls l)
theorem SlS.alone {e : TypeId} {k : IntKind} {l : List Int} {C : Heap} {g n : Nat} (hn : l.length = n) (h : C g = some (.irow e k l)) : SlS e k (.own g 0 n) l (C.del g) C :=
  ⟨fun x c hx => by rw [del_app] at hx; split at hx; cases hx; exact hx, .inr ⟨g, by rw [hn], by simp [del_app], h⟩⟩
theorem SlS.via {e : TypeId} {k : IntKind} {v : AV} {l : List Int} {A B C : Heap} {g : Nat} {c : Cont} (h : SlS e k v l A B) (hA : A g = some c) (hs : ∀ x c, x ≠ g → B x = some c → C x = some c) : SlS e k v l H0 C :=
  ⟨H0_sub _, h.own.imp id fun ⟨x, h1, h2, h3⟩ => ⟨x, h1, rfl, hs x _ (by rintro rfl; rw [h2] at hA; cases hA) h3⟩⟩
theorem SlR.via {e : TypeId} {sz : Nat} {v : AV} {l : List AV} {A B C : Heap} {g : Nat} {c : Cont} (h : SlR e sz v l A B) (hA : A g = some c) (hs : ∀ x c, x ≠ g → B x = some c → C x = some c) : SlR e sz v l H0 C :=
  ⟨H0_sub _, h.own.imp id fun ⟨x, h1, h2, h3⟩ => ⟨x, h1, rfl, hs x _ (by rintro rfl; rw [h2] at hA; cases hA) h3⟩⟩
end AVL
