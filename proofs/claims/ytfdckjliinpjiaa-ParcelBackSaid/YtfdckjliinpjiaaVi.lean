/- append, make, slice literals, parts of slices, lengths, addresses of elements. -/
import Derived.Test.YtfdckjliinpjiaaVh
namespace AVL
open Go
set_option linter.unusedSimpArgs false
set_option linter.unusedVariables false

def srcT (P : Program) (t : TypeId) : Bool := match P.underlying t with | some .string | some (.slice _) => true | _ => false

section
variable {P : Program} {w : World} {E : Emb} {A : Heap} {K : AV → Heap → Prop}

theorem srcT_or {t : TypeId} (h : srcT P t = true) : P.underlying t = some .string ∨ ∃ e, P.underlying t = some (.slice e) := by
  unfold srcT at h
  split at h
  · rename_i h'; exact .inl h'
  · rename_i e h'; exact .inr ⟨_, h'⟩
  · cases h

theorem app_room {t tx ty e : TypeId} {i : TypeInfo} (ht : P.underlying t = some (.slice e)) (hx : srcT P tx = true) (hi : P.info? e = some i)
    {b off sLen sCap : Nat} {C : Array Value} (hb : w.heap[b]? = some (.cells C e (0, 0))) {c : Value} {vs : List AV} {cs : List Value} (hr : Reads P w E i.size c vs cs)
    (hroom : sLen + vs.length ≤ sCap) (hfit : off + sCap * i.size ≤ C.size) (h1 : ∀ x ∈ cs, x.oneCell' = true) :
    (Builtin.append_ #[t, tx] ty #[.slice (some (pA b off)) sLen sCap, c]).run P w =
      .ok (.slice (some (pA b off)) (sLen + vs.length) sCap) (w.setRow b (C.toList.take (off + sLen * i.size) ++ cs ++ C.toList.drop (off + sLen * i.size + cs.length)).toArray) := by
  have hl := VRe_len hr.cells
  have hf := hr.first w vs.length rfl (Nat.le_refl _)
  rw [← hl, List.take_length] at hf
  have hm : (sLen + vs.length) * i.size ≤ sCap * i.size := Nat.mul_le_mul_right _ hroom
  rw [Nat.add_mul] at hm
  have hst := run_storeCells_at P b (off + sLen * i.size) e cs 0 C w hb (by rw [hl]; omega) h1
  simp only [Nat.add_zero] at hst
  have hlen := hr.len
  rcases srcT_or hx with hu | ⟨e', hu⟩ <;>
    simp [Builtin.append_, run_underlying ht, run_underlying hu, Go.sizeOf, typeInfo, hi, hlen, hroom, hf, pA_add] <;>
    (unfold pA; simp [hst])

theorem app_grow {t tx ty e : TypeId} {i : TypeInfo} {z : Value} (ht : P.underlying t = some (.slice e)) (hx : srcT P tx = true) (hi : P.info? e = some i) (hz : i.zero = some z)
    {base : Option Addr} {sLen sCap : Nat} {olds : List Value} (ho : (Builtin.firstCells i.size sLen (.slice base sLen sCap)).run P w.drew = .ok olds.toArray w.drew)
    {c : Value} {vs : List AV} {cs : List Value} (hr : Reads P w E i.size c vs cs)
    (hg : sCap < sLen + vs.length) (hby : (sLen + vs.length) * i.bytes ≤ 140737488355328) (h63 : sLen + vs.length ≤ 9223372036854775807) :
    (Builtin.append_ #[t, tx] ty #[.slice base sLen sCap, c]).run P w =
      .ok (.slice (some (pA w.heap.size 0)) (sLen + vs.length) (grownCap w (sLen + vs.length) sCap e))
        (w.drew.alloc (.cells (olds.toArray ++ cs.toArray ++ Builtin.zeroCells z.cells (grownCap w (sLen + vs.length) sCap e - (sLen + vs.length))) e)) := by
  have hl := VRe_len hr.cells
  have hf := hr.first w.drew vs.length rfl (Nat.le_refl _)
  rw [← hl, List.take_length] at hf
  have hlen := hr.len
  have hn : ¬ (sLen + vs.length ≤ sCap) := by omega
  have h63' : ¬ (9223372036854775807 < ((sLen : Int) + (vs.length : Int))) := by omega
  have h48 := growslice_fits (bytes := i.bytes) hg hby
  have h48' : ¬ (281474976710656 < Builtin.nextslicecap (sLen + vs.length) sCap * i.bytes) := by omega
  rcases srcT_or hx with hu | ⟨e', hu⟩ <;>
    (simp [Builtin.append_, run_underlying ht, run_underlying hu, Go.sizeOf, typeInfo, zeroValue, hi, hz, hlen, hn, h63', h48', Question.forced, ho, hf, newRow, grownCap, pA]
     congr 2
     apply Array.ext'
     simp [List.append_assoc])

/-- What is appended: a row's or a text's elements, or noughts. -/
structure AppSrc (P : Program) (w : World) (E : Emb) (t tx e : TypeId) (i : TypeInfo) (z : Value) (c : Value) (vs : List AV) (cs : List Value) : Prop where
  cells : VRe E i.size vs cs
  zero : vs = [] → ∀ (a : Option Addr) (ty : TypeId), (Builtin.append_ #[t, tx] ty #[.slice a 0 0, c]).run P w = .ok (.slice a 0 0) w
  room : ∀ {ty : TypeId} {b off sLen sCap : Nat} {C : Array Value}, w.heap[b]? = some (.cells C e (0, 0)) → sLen + vs.length ≤ sCap → off + sCap * i.size ≤ C.size → (∀ x ∈ cs, x.oneCell' = true) →
    (Builtin.append_ #[t, tx] ty #[.slice (some (pA b off)) sLen sCap, c]).run P w =
      .ok (.slice (some (pA b off)) (sLen + vs.length) sCap) (w.setRow b (C.toList.take (off + sLen * i.size) ++ cs ++ C.toList.drop (off + sLen * i.size + cs.length)).toArray)
  grow : ∀ {ty : TypeId} {base : Option Addr} {sLen sCap : Nat} {olds : List Value}, (Builtin.firstCells i.size sLen (.slice base sLen sCap)).run P w.drew = .ok olds.toArray w.drew →
    sLen ≤ sCap → sCap < sLen + vs.length → (sLen + vs.length) * i.bytes ≤ 140737488355328 → sLen + vs.length ≤ 9223372036854775807 →
    (Builtin.append_ #[t, tx] ty #[.slice base sLen sCap, c]).run P w =
      .ok (.slice (some (pA w.heap.size 0)) (sLen + vs.length) (grownCap w (sLen + vs.length) sCap e))
        (w.drew.alloc (.cells (olds.toArray ++ cs.toArray ++ Builtin.zeroCells z.cells (grownCap w (sLen + vs.length) sCap e - (sLen + vs.length))) e))
theorem AppSrc.of {t tx e : TypeId} {i : TypeInfo} {z : Value} (ht : P.underlying t = some (.slice e)) (hx : srcT P tx = true) (hi : P.info? e = some i) (hz : i.zero = some z)
    {c : Value} {vs : List AV} {cs : List Value} (hr : Reads P w E i.size c vs cs) : AppSrc P w E t tx e i z c vs cs := by
  refine ⟨hr.cells, fun h0 a ty => ?_, fun hb hroom hfit h1 => app_room ht hx hi hb hr hroom hfit h1, fun ho _ hg hby h63 => app_grow ht hx hi hz ho hr hg hby h63⟩
  subst h0
  have hl := VRe_len hr.cells
  have hcs : cs = [] := List.eq_nil_of_length_eq_zero (by simpa using hl)
  subst hcs
  have hlen := hr.len
  have hf := hr.first w 0 rfl (Nat.le_refl _)
  simp only [List.length_nil] at hlen
  simp only [Nat.zero_mul, List.take_nil] at hf
  rcases srcT_or hx with hu | ⟨e', hu⟩ <;> cases a <;>
    simp [Builtin.append_, run_underlying ht, run_underlying hu, Go.sizeOf, typeInfo, hi, hlen, hf, storeCells]
/-- append; elements of any kind. -/
def aapp (e : TypeId) (sz bytes : Nat) (d s : AV) (A : Heap) (K : AV → Heap → Prop) : Prop :=
  srcG sz s A fun ys => AV.sts ys = true ∧ match d with
    | .nilS => ys.length * bytes ≤ 140737488355328 ∧ ∀ g, A g = none → K (.own g 0 ys.length) (A.set g (.row e sz ys))
    | .own g i n => match A g with
      | some (.row e' sz' l) => e' = e ∧ sz' = sz ∧ i + n ≤ l.length ∧ (n + ys.length) * bytes ≤ 140737488355328 ∧
          ∀ g', A g' = none → K (.own g' 0 (n + ys.length)) ((A.del g).set g' (.row e sz ((l.drop i).take n ++ ys)))
      | _ => False
    | _ => False
/-- append; whole numbers. -/
def aappI (e : TypeId) (k : IntKind) (bytes : Nat) (d s : AV) (A : Heap) (K : AV → Heap → Prop) : Prop :=
  srcI k s A fun ys => match d with
    | .nilS => ys.length * bytes ≤ 140737488355328 ∧ ∀ g, A g = none → K (.own g 0 ys.length) (A.set g (.irow e k ys))
    | .own g i n => match A g with
      | some (.irow e' k' l) => e' = e ∧ k' = k ∧ i + n ≤ l.length ∧ (n + ys.length) * bytes ≤ 140737488355328 ∧
          ∀ g', A g' = none → K (.own g' 0 (n + ys.length)) ((A.del g).set g' (.irow e k ((l.drop i).take n ++ ys)))
      | _ => False
    | .asl g o m i n => match A g with
      | some (.var _ l) => match getI l o m with
        | some (k', xs) => k' = k ∧ xs.length = m ∧ i + n = m ∧ 0 < ys.length ∧ (n + ys.length) * bytes ≤ 140737488355328 ∧
            ∀ g', A g' = none → K (.own g' 0 (n + ys.length)) (A.set g' (.irow e k ((xs.drop i).take n ++ ys)))
        | none => False
      | _ => False
    | _ => False

theorem Rep.del {A : Heap} (h : Rep E A w) (g : Nat) : Rep E (A.del g) w := h.sub fun g' c hg => by
  simp only [Heap.del] at hg; split at hg
  · cases hg
  · exact hg

theorem freshF (hR : Rep E A w) : E.F w.heap.size = none := by
  cases hF : E.F w.heap.size with
  | none => rfl
  | some o => exact absurd (Array.getElem?_eq_some_iff.1 (hR.frm _ _ hF)).1 (Nat.lt_irrefl _)

/-- A new row of the call's own, in a block that has just been made. -/
theorem new_row (hR : Rep E A w) {e : TypeId} {sz : Nat} {l : List AV} {cs : List Value} (hv : VRe E sz l cs) {w1 : World} (h1 : w1.heap = w.heap) {C : Array Value} {cap : Nat}
    (hcap : l.length ≤ cap) (hC : cap * sz ≤ C.size) (hcs : ∀ i, i < cs.length → C[i]? = cs[i]?) :
    Rep (E.push ⟨some (w.heap.size, 0), sz, cap⟩) (A.set E.N (.row e sz l)) (w1.alloc (.cells C e)) ∧
    TV (E.push ⟨some (w.heap.size, 0), sz, cap⟩) (.own E.N 0 l.length) (.slice (some (pA w.heap.size 0)) l.length cap) := by
  have hR1 : Rep E A w1 := hR.grow (fun b hb => by rw [h1])
  have hs : w1.heap.size = w.heap.size := by rw [h1]
  constructor
  · refine hR1.alloc _ _ 0 (by rw [hs]) _ ?_
    refine row_of (b := w.heap.size) (off := 0) (C := C) (cs := cs) (by rw [Emb.push_loc]) (by rw [Emb.push_loc]; exact hcap) (by rw [Emb.push_loc]) (show E.F w.heap.size = none from freshF hR) ?_ (by rw [Emb.push_loc]; simpa using hC) (VRe_mono (E.push_le _) hv) (fun i hi => by simpa using hcs i hi)
    rw [heap_alloc_eq, hs]; simp
  · refine TV_own.2 ⟨Nat.lt_succ_self _, _, cap, rfl, hcap, by rw [Emb.push_loc]; simp, .inr ⟨w.heap.size, 0, by rw [Emb.push_loc], by simp⟩⟩

theorem TV_ownR {g i n : Nat} {c : Value} {l : List AV} {t : TypeId} {sz : Nat} (hR : Rep E A w) (hs : TV E (.own g i n) c) (hc : RepC E w g (.row t sz l)) (hin : i + n ≤ l.length) :
    ∃ a cap, c = .slice a n cap ∧ n ≤ cap ∧ i + cap = (E.loc g).room ∧ (E.loc g).sz = sz ∧
      (n = 0 ∧ cap = 0 ∨ ∃ b off C, (E.loc g).addr = some (b, off) ∧ a = some (pA b (off + i * sz)) ∧ E.F b = none ∧ w.heap[b]? = some (.cells C t (0, 0)) ∧
        off + (E.loc g).room * sz ≤ C.size ∧ VRe E sz ((l.drop i).take n) ((C.toList.drop (off + i * sz)).take (n * sz))) := by
  obtain ⟨hg, a, cap, rfl, hcap, hroom, hloc⟩ := TV_own.1 hs
  obtain ⟨hsz, _⟩ := id hc
  refine ⟨a, cap, rfl, hcap, hroom, hsz, ?_⟩
  rcases hloc with rfl | ⟨b, off, ha, rfl⟩
  · exact .inl ⟨by omega, rfl⟩
  · obtain ⟨_, hr, hF, C, hb, hC, hv⟩ := row_cells hc ha
    refine .inr ⟨b, off, C, ha, by rw [hsz], hF, hb, hC, ?_⟩
    have hv2 := VRe_take n (VRe_drop i hv)
    have e1 : ((C.toList.drop off).take (l.length * sz)).drop (i * sz) = ((C.toList.drop (off + i * sz)).take (l.length * sz - i * sz)) := by
      rw [List.drop_take, List.drop_drop]
    rw [e1, List.take_take] at hv2
    have h2 : (i + n) * sz ≤ l.length * sz := Nat.mul_le_mul_right _ hin
    rw [Nat.add_mul] at h2
    rwa [Nat.min_eq_left (by omega)] at hv2

/-- What an append does to its first argument, given what is appended. -/
def aappD (e : TypeId) (sz bytes : Nat) (d : AV) (ys : List AV) (A : Heap) (K : AV → Heap → Prop) : Prop :=
  match d with
  | .nilS => ys.length * bytes ≤ 140737488355328 ∧ ∀ g, A g = none → K (.own g 0 ys.length) (A.set g (.row e sz ys))
  | .own g i n => match A g with
    | some (.row e' sz' l) => e' = e ∧ sz' = sz ∧ i + n ≤ l.length ∧ (n + ys.length) * bytes ≤ 140737488355328 ∧
        ∀ g', A g' = none → K (.own g' 0 (n + ys.length)) ((A.del g).set g' (.row e sz ((l.drop i).take n ++ ys)))
    | _ => False
  | _ => False
theorem app_core {t tx ty e : TypeId} {i : TypeInfo} {z : Value} (hR : Rep E A w) (hi : P.info? e = some i) (hz : i.zero = some z) (hzs : z.cells.size = i.size)
    (hby : 0 < i.bytes) {d : AV} {c c' : Value} (hd : TV E d c) {ys : List AV} {cs : List Value} (hr : AppSrc P w E t tx e i z c' ys cs) (hst : AV.sts ys = true) (h : aappD e i.size i.bytes d ys A K) :
    Res E w K ((do pure (Next.value (← Builtin.append_ #[t, tx] ty #[c, c'])) : Sem Next).run P w) := by
  unfold aappD at h
  have hone : ∀ x ∈ cs, x.oneCell' = true := by
    have key : ∀ (l : List AV) (ds : List Value), AV.sts l = true → VRe E i.size l ds → ∀ x ∈ ds, x.oneCell' = true := by
      intro l
      induction l with
      | nil => intro ds _ hv; simp [VRe] at hv; subst hv; simp
      | cons v r ih =>
        intro ds hs hv
        simp only [AV.sts, Bool.and_eq_true] at hs
        obtain ⟨c1, c2, rfl, _, hv1, hv2⟩ := hv
        intro x hx
        rcases List.mem_append.1 hx with hx | hx
        · exact st_one v c1 hs.1 hv1 x hx
        · exact ih c2 hs.2 hv2 x hx
    exact key ys cs hst hr.cells
  have hl := VRe_len hr.cells
  -- a new row
  have grow : ∀ (base : Option Addr) (sLen sCap : Nat) (olds : List Value) (l : List AV) (A1 : Heap), Rep E A1 w → VRe E i.size l olds → l.length = sLen →
      (Builtin.firstCells i.size sLen (.slice base sLen sCap)).run P w.drew = .ok olds.toArray w.drew → sLen ≤ sCap → sCap < sLen + ys.length → (sLen + ys.length) * i.bytes ≤ 140737488355328 →
      K (.own E.N 0 (sLen + ys.length)) (A1.set E.N (.row e i.size (l ++ ys))) → Res E w K ((do pure (Next.value (← Builtin.append_ #[t, tx] ty #[.slice base sLen sCap, c'])) : Sem Next).run P w) := by
    intro base sLen sCap olds l A1 hR1 hv hll ho hle hg hb hk
    have h63 : sLen + ys.length ≤ 9223372036854775807 := by
      have : (sLen + ys.length) * 1 ≤ (sLen + ys.length) * i.bytes := Nat.mul_le_mul_left _ hby
      omega
    simp only [Sem.run_bind, hr.grow ho hle hg hb h63, Result.andThen_ok, Sem.run_pure]
    have hlo := VRe_len hv
    have hge := grownCap_ge w (sLen + ys.length) sCap e
    obtain ⟨hR2, hT⟩ := new_row hR1 (e := e) (VRe_append hv hr.cells) (w1 := w.drew) rfl (C := olds.toArray ++ cs.toArray ++ Builtin.zeroCells z.cells (grownCap w (sLen + ys.length) sCap e - (sLen + ys.length)))
      (cap := grownCap w (sLen + ys.length) sCap e) (by simp [hll]; omega) (by
        simp only [Array.size_append, List.size_toArray, size_zeroCells, hzs, hlo, hl, hll, ← Nat.add_mul]
        exact Nat.mul_le_mul_right _ (by omega)) (fun j hj => by
        rw [Array.getElem?_append_left (by simpa using hj)]
        simp)
    have hlen : (l ++ ys).length = sLen + ys.length := by simp [hll]
    rw [hlen] at hT
    exact ⟨_, _, _, _, hk, hR2, E.push_le _, ⟨rfl, rfl, by show w.heap.size ≤ (w.heap.push _).size; simp⟩, .inl ⟨_, rfl, hT⟩⟩
  split at h
  · -- nil
    simp only [TV_nilS] at hd; subst hd
    obtain ⟨hb, hk⟩ := h
    by_cases h0 : ys.length = 0
    · have : ys = [] := List.eq_nil_of_length_eq_zero h0
      subst this
      have hcs : cs = [] := List.eq_nil_of_length_eq_zero (by simpa using hl)
      subst hcs
      have hrun : (Builtin.append_ #[t, tx] ty #[.slice none 0 0, c']).run P w = .ok (.slice none 0 0) w := hr.zero rfl none ty
      simp only [Sem.run_bind, hrun, Result.andThen_ok, Sem.run_pure]
      refine ⟨.own E.N 0 0, A.set E.N (.row e i.size []), E.push ⟨none, i.size, 0⟩, w, hk _ hR.fresh, ?_, E.push_le _, Same.refl w, .inl ⟨_, rfl, ?_⟩⟩
      · refine hR.push _ _ (fun b o ho => hR.frm b o ho) (fun _ _ _ _ _ _ => rfl) (fun b off ha => by cases ha) (fun b o hb => ⟨(hR.hid b o hb).1, fun off e => by cases e⟩) ⟨by rw [Emb.push_loc], by simp, .inl ⟨by rw [Emb.push_loc], by rw [Emb.push_loc]⟩⟩
      · exact TV_own.2 ⟨Nat.lt_succ_self _, _, 0, rfl, Nat.le_refl _, by rw [Emb.push_loc], .inl rfl⟩
    · have := grow none 0 0 [] [] A hR rfl rfl (by simp [Builtin.firstCells]) (Nat.le_refl _) (by omega) (by simpa using hb) (by simpa using hk _ hR.fresh)
      exact this
  · rename_i g ii n
    split at h
    · rename_i e' sz' l hA
      obtain ⟨rfl, rfl, hin, hb, hk⟩ := h
      have hfr : A E.N = none := hR.fresh
      have hl0 : ((l.drop ii).take n).length = n := by simp; omega
      obtain ⟨a, cap, rfl, hcap, hroom, hsz, hcase⟩ := TV_ownR hR hd (hR.cont g _ hA) hin
      rcases hcase with ⟨rfl, rfl⟩ | ⟨b, off, C, ha, rfl, hF, hbl, hC, hv⟩
      · -- nil
        have hgd := hk _ hfr
        simp only [List.take_zero, List.nil_append, Nat.zero_add] at hgd
        by_cases h0 : ys.length = 0
        · have : ys = [] := List.eq_nil_of_length_eq_zero h0
          subst this
          have hcs : cs = [] := List.eq_nil_of_length_eq_zero (by simpa using hl)
          subst hcs
          have hrun : (Builtin.append_ #[t, tx] ty #[.slice a 0 0, c']).run P w = .ok (.slice a 0 0) w := hr.zero rfl a ty
          simp only [Sem.run_bind, hrun, Result.andThen_ok, Sem.run_pure]
          refine ⟨.own E.N 0 0, (A.del g).set E.N (.row e' i.size []), E.push ⟨none, i.size, 0⟩, w, hgd, ?_, E.push_le _, Same.refl w, .inl ⟨_, rfl, ?_⟩⟩
          · refine (hR.del g).push _ _ (fun b o ho => hR.frm b o ho) (fun _ _ _ _ _ _ => rfl) (fun b off ha => by cases ha) (fun b o hb => ⟨(hR.hid b o hb).1, fun off e => by cases e⟩) ⟨by rw [Emb.push_loc], by simp, .inl ⟨by rw [Emb.push_loc], by rw [Emb.push_loc]⟩⟩
          · exact TV_own.2 ⟨Nat.lt_succ_self _, _, 0, rfl, Nat.le_refl _, by rw [Emb.push_loc], .inl rfl⟩
        · exact grow a 0 0 [] [] (A.del g) (hR.del g) rfl rfl (by cases a <;> simp [Builtin.firstCells, loadCells, loadCellsFrom]) (Nat.le_refl _) (by omega) (by simpa using hb) (by simpa using hgd)
      · by_cases hroom2 : n + ys.length ≤ cap
        · -- in place
          have hfit : off + ii * i.size + cap * i.size ≤ C.size := by
            have : (ii + cap) * i.size ≤ (E.loc g).room * i.size := Nat.mul_le_mul_right _ (by omega)
            rw [Nat.add_mul] at this; omega
          simp only [Sem.run_bind, hr.room hbl hroom2 hfit hone, Result.andThen_ok, Sem.run_pure]
          have hm : (n + ys.length) * i.size ≤ cap * i.size := Nat.mul_le_mul_right _ hroom2
          rw [Nat.add_mul] at hm
          have hlv := VRe_len hv
          rw [hl0] at hlv
          refine ⟨.own E.N 0 (n + ys.length), (A.del g).set E.N (.row e' i.size ((l.drop ii).take n ++ ys)), E.push ⟨some (b, off + ii * i.size), i.size, cap⟩, _, hk _ hfr, ?_, E.push_le _, Same.setRow _ _ _, .inl ⟨_, rfl, ?_⟩⟩
          · refine (hR.del g).push _ _ (fun x o ho => ?_) (fun g' c' hg' b' off' ha' => ?_) (fun b1 off1 e1 g' c' hg' b' off' ha' => ?_) (fun x o ho => ?_) ?_
            · have hne : x ≠ b := fun e => by subst e; rw [hF] at ho; cases ho
              rw [setRow_heap_ne _ _ _ _ hne]; exact hR.frm x o ho
            · refine setRow_heap_ne _ _ _ _ fun e => ?_
              have hgn : g' ≠ g := fun e => by simp [Heap.del, e] at hg'
              exact hR.sep g' g c' _ (by simpa [Heap.del, hgn] using hg') hA hgn _ _ ha' ha e
            · injection e1 with e1; injection e1 with e1 e2; subst e1
              have hgn : g' ≠ g := fun e => by simp [Heap.del, e] at hg'
              exact hR.sep g' g c' _ (by simpa [Heap.del, hgn] using hg') hA hgn _ _ ha' ha
            · have hx := hR.hid x o ho
              have hne : x ≠ b := fun e => by subst e; exact hx.2.2 _ _ hA _ ha
              refine ⟨by rw [setRow_heap_ne _ _ _ _ hne]; exact hx.1, fun o' e => ?_⟩
              injection e with e; injection e with e1 e2; exact hne e1.symm
            · refine row_of (b := b) (off := off + ii * i.size) (by rw [Emb.push_loc]) (by rw [Emb.push_loc]; simp [hl0]; omega) (by rw [Emb.push_loc]) hF (setRow_heap_eq _ _ hbl) ?_ (VRe_mono (E.push_le _) (VRe_append hv hr.cells)) (fun j hj => ?_)
              · rw [Emb.push_loc]; simp; omega
              · simp only [List.length_append, hlv, hl] at hj
                have s1 := seg_get C.toList cs (off + ii * i.size + n * i.size) (by rw [hl]; simp; omega) (off + ii * i.size + j)
                rw [List.getElem?_toArray, s1, hl]
                by_cases hjn : j < n * i.size
                · rw [if_neg (by omega), List.getElem?_append_left (by rw [hlv]; exact hjn), List.getElem?_take, if_pos hjn, List.getElem?_drop]
                · rw [if_pos (by omega), List.getElem?_append_right (by rw [hlv]; omega), hlv]
                  congr 1; omega
          · exact TV_own.2 ⟨Nat.lt_succ_self _, _, cap, rfl, hroom2, by rw [Emb.push_loc]; simp, .inr ⟨b, off + ii * i.size, by rw [Emb.push_loc], by simp⟩⟩
        · refine grow _ n cap _ _ (A.del g) (hR.del g) hv hl0 ?_ hcap (by omega) hb (hk _ hfr)
          have hrd := reads_at (P := P) (w := w) (E := E) (a := some (pA b (off + ii * i.size))) (cap := cap) hv (fun _ => ⟨b, _, rfl, fun j v hj => ?_⟩)
          · have := hrd.first w.drew n rfl (by rw [hl0]; exact Nat.le_refl _)
            rw [hl0] at this
            rwa [List.take_take, Nat.min_self] at this
          · rw [cell_at hbl]
            rw [List.getElem?_take] at hj
            split at hj
            · rw [List.getElem?_drop] at hj
              rw [← hj]; simp
            · cases hj
    · exact h.elim
  · exact h.elim

theorem app_ok {t tx ty e : TypeId} {i : TypeInfo} {z : Value} (hR : Rep E A w) (ht : P.underlying t = some (.slice e)) (hx : srcT P tx = true) (hi : P.info? e = some i) (hz : i.zero = some z) (hzs : z.cells.size = i.size)
    (hby : 0 < i.bytes) {d s : AV} {c c' : Value} (hd : TV E d c) (hs : TV E s c') (h : aapp e i.size i.bytes d s A K) :
    Res E w K ((do pure (Next.value (← Builtin.append_ #[t, tx] ty #[c, c'])) : Sem Next).run P w) := by
  obtain ⟨ys, cs, ⟨hst, h2⟩, hr⟩ := srcG_ok (P := P) hR hs h
  exact app_core hR hi hz hzs hby hd (AppSrc.of ht hx hi hz hr) hst h2
end
end AVL
