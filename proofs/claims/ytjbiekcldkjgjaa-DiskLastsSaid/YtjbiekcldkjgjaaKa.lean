/- Sectors that last, writes that wait: a disk, plainly; and how it lies in memory. -/
import Derived.Test.YtjbiekcldkjgjaaGdisk
import Derived.Test.YtjbiekcldkjgjaaVsn
namespace Go.Proofs.Ytjbiekcldkjgjaa
open Go AVL
attribute [-simp] AV.isAgg aappI aapp alen shp good comps
set_option linter.unusedVariables false
set_option linter.unusedSimpArgs false
set_option maxRecDepth 8000

structure Dsk where
  last : List (List Nat)
  wait : List (Nat × List Nat)
  steps : Nat
  fuse : Int
  down : Bool
def z256 : List Nat := List.replicate 256 0
def Dsk.fresh (n : Nat) : Dsk := ⟨List.replicate n z256, [], 0, -1, false⟩
/-- What was written there last, of those that wait. -/
def look (w : List (Nat × List Nat)) (a : Nat) (s : List Nat) : List Nat := w.foldl (fun s p => if p.1 = a then p.2 else s) s
def lookO (w : List (Nat × List Nat)) (a : Nat) : Option (List Nat) := w.foldl (fun o p => if p.1 = a then some p.2 else o) none
theorem look_aux (a : Nat) : ∀ (w : List (Nat × List Nat)) (o : Option (List Nat)) (s : List Nat), w.foldl (fun s p => if p.1 = a then p.2 else s) (o.getD s) = (w.foldl (fun o p => if p.1 = a then some p.2 else o) o).getD s
  | [], o, s => rfl
  | p :: w, o, s => by
    simp only [List.foldl_cons]
    rw [← look_aux a w]
    by_cases h : p.1 = a <;> simp [h]
theorem look_eq (w : List (Nat × List Nat)) (a : Nat) (s : List Nat) : look w a s = (lookO w a).getD s := look_aux a w none s
@[simp] theorem lookO_nil (a : Nat) : lookO [] a = none := rfl
theorem lookO_snoc (w : List (Nat × List Nat)) (p : Nat × List Nat) (a : Nat) : lookO (w ++ [p]) a = if p.1 = a then some p.2 else lookO w a := by simp [lookO]
theorem look_snoc (w : List (Nat × List Nat)) (p : Nat × List Nat) (a : Nat) (s : List Nat) : look (w ++ [p]) a s = if p.1 = a then p.2 else look w a s := by simp [look]
theorem look_take {w : List (Nat × List Nat)} {i : Nat} (h : i < w.length) (a : Nat) (s : List Nat) : look (w.take (i + 1)) a s = if w[i].1 = a then w[i].2 else look (w.take i) a s := by
  rw [List.take_succ_eq_append_getElem h, look_snoc]
theorem lookO_take {w : List (Nat × List Nat)} {i : Nat} (h : i < w.length) (a : Nat) : lookO (w.take (i + 1)) a = if w[i].1 = a then some w[i].2 else lookO (w.take i) a := by
  rw [List.take_succ_eq_append_getElem h, lookO_snoc]
/-- The writes that are kept, of the first i, have lasted. -/
def stl (keep : Nat → Bool) (w : List (Nat × List Nat)) (L : List (List Nat)) : Nat → List (List Nat)
  | 0 => L
  | i + 1 => match w[i]? with
    | some p => if keep i then (stl keep w L i).set p.1 p.2 else stl keep w L i
    | none => stl keep w L i
def stn (keep : Nat → Bool) : Nat → Nat
  | 0 => 0
  | i + 1 => if keep i then stn keep i + 1 else stn keep i
theorem stn_le (keep : Nat → Bool) : ∀ i, stn keep i ≤ i
  | 0 => Nat.le_refl _
  | i + 1 => by have := stn_le keep i; simp only [stn]; split <;> omega
@[simp] theorem stl_length (keep : Nat → Bool) (w : List (Nat × List Nat)) (L : List (List Nat)) : ∀ i, (stl keep w L i).length = L.length
  | 0 => rfl
  | i + 1 => by
    simp only [stl]
    split
    · split
      · rw [List.length_set, stl_length]
      · exact stl_length keep w L i
    · exact stl_length keep w L i
theorem stl_succ {keep : Nat → Bool} {w : List (Nat × List Nat)} {L : List (List Nat)} {i : Nat} (h : i < w.length) :
    stl keep w L (i + 1) = if keep i then (stl keep w L i).set w[i].1 w[i].2 else stl keep w L i := by
  simp only [stl, List.getElem?_eq_getElem h]
def keeps (keep : List Bool) (i : Nat) : Bool := keep.getD i false
def Dsk.step (D : Dsk) : Dsk := if D.down = true ∨ D.fuse = 0 then { D with down := true } else { D with fuse := if D.fuse > 0 then D.fuse - 1 else D.fuse, steps := D.steps + 1 }
def Dsk.ok (D : Dsk) : Bool := !(D.down || decide (D.fuse = 0))
def Dsk.settle (D : Dsk) (keep : Nat → Bool) : Dsk := { D with last := stl keep D.wait D.last D.wait.length, wait := [] }
def Dsk.setFuse (D : Dsk) (n : Int) : Dsk := { D with fuse := if n < 0 then -1 else n }
def Dsk.write (D : Dsk) (a : Nat) (s : List Nat) : Dsk := if D.ok then { D.step with wait := D.wait ++ [(a, s)] } else D.step
def Dsk.flush (D : Dsk) : Dsk := if D.ok then D.step.settle (fun _ => true) else D.step
def Dsk.crash (D : Dsk) (keep : List Bool) : Dsk := { D.settle (keeps keep) with fuse := -1, down := false }
def Dsk.val (D : Dsk) (a : Nat) : List Nat := look D.wait a (D.last.getD a [])
def Dsk.inside (D : Dsk) (a : Int) : Bool := decide (0 ≤ a) && decide (a < D.last.length)
/-- Bytes of a sector. -/
def Sec (s : List Nat) : Prop := s.length = 256 ∧ ∀ x ∈ s, x < 256
theorem sec_z : Sec z256 := ⟨by simp [z256], fun x hx => by rw [List.eq_of_mem_replicate hx]; decide⟩
structure Dsk.Wf (D : Dsk) : Prop where
  last : ∀ s ∈ D.last, Sec s
  wait : ∀ p ∈ D.wait, p.1 < D.last.length ∧ Sec p.2
  size : D.last.length ≤ 4096
  fuse : D.fuse < 9223372036854775808
theorem Dsk.fresh_wf {n : Nat} (h : n ≤ 4096) : (Dsk.fresh n).Wf := ⟨fun s hs => by rw [List.eq_of_mem_replicate hs]; exact sec_z, fun p hp => (by cases hp), by simpa [Dsk.fresh] using h, by show (-1 : Int) < _; decide⟩
theorem Dsk.step_last (D : Dsk) : D.step.last = D.last := by unfold Dsk.step; split <;> rfl
theorem Dsk.step_wait (D : Dsk) : D.step.wait = D.wait := by unfold Dsk.step; split <;> rfl
theorem Dsk.step_wf {D : Dsk} (h : D.Wf) : D.step.Wf := ⟨by rw [D.step_last]; exact h.last, by rw [D.step_last, D.step_wait]; exact h.wait, by rw [D.step_last]; exact h.size, by
  have := h.fuse
  unfold Dsk.step
  split
  · exact this
  · show (if D.fuse > 0 then D.fuse - 1 else D.fuse) < _
    split <;> omega⟩
theorem sec_set {L : List (List Nat)} (h : ∀ s ∈ L, Sec s) {a : Nat} {s : List Nat} (hs : Sec s) : ∀ x ∈ L.set a s, Sec x := fun x hx => by
  rcases List.mem_or_eq_of_mem_set hx with h1 | h1
  · exact h x h1
  · exact h1 ▸ hs
theorem stl_sec {keep : Nat → Bool} {w : List (Nat × List Nat)} {L : List (List Nat)} (hw : ∀ p ∈ w, Sec p.2) (hL : ∀ s ∈ L, Sec s) : ∀ i, ∀ s ∈ stl keep w L i, Sec s
  | 0 => hL
  | i + 1 => by
    simp only [stl]
    split
    · rename_i p hp
      split
      · exact sec_set (stl_sec hw hL i) (hw p (List.mem_of_getElem? hp))
      · exact stl_sec hw hL i
    · exact stl_sec hw hL i
theorem Dsk.settle_wf {D : Dsk} (h : D.Wf) (keep : Nat → Bool) : (D.settle keep).Wf :=
  ⟨stl_sec (fun p hp => (h.wait p hp).2) h.last _, fun p hp => (by cases hp), by simpa [Dsk.settle] using h.size, h.fuse⟩
theorem Dsk.write_wf {D : Dsk} (h : D.Wf) {a : Nat} {s : List Nat} (ha : a < D.last.length) (hs : Sec s) : (D.write a s).Wf := by
  unfold Dsk.write
  split
  · refine ⟨(Dsk.step_wf h).last, fun p hp => ?_, (Dsk.step_wf h).size, (Dsk.step_wf h).fuse⟩
    rcases List.mem_append.1 hp with h1 | h1
    · have := h.wait p h1
      exact ⟨by show p.1 < D.step.last.length; rw [D.step_last]; exact this.1, this.2⟩
    · simp only [List.mem_singleton] at h1; subst h1
      exact ⟨by show a < D.step.last.length; rw [D.step_last]; exact ha, hs⟩
  · exact Dsk.step_wf h
theorem Dsk.flush_wf {D : Dsk} (h : D.Wf) : D.flush.Wf := by
  unfold Dsk.flush
  split
  · exact Dsk.settle_wf (Dsk.step_wf h) _
  · exact Dsk.step_wf h
theorem Dsk.crash_wf {D : Dsk} (h : D.Wf) (keep : List Bool) : (D.crash keep).Wf :=
  have := Dsk.settle_wf h (keeps keep)
  ⟨this.last, this.wait, this.size, by show (-1 : Int) < _; decide⟩
theorem Dsk.setFuse_wf {D : Dsk} (h : D.Wf) {n : Int} (hn : n < 9223372036854775808) : (D.setFuse n).Wf := ⟨h.last, h.wait, h.size, by
  show (if n < 0 then -1 else n) < _
  split <;> omega⟩
theorem look_sec {w : List (Nat × List Nat)} {a : Nat} {s : List Nat} (hw : ∀ p ∈ w, Sec p.2) (hs : Sec s) : Sec (look w a s) := by
  rw [look_eq]
  suffices h : ∀ (w : List (Nat × List Nat)) (o : Option (List Nat)), (∀ p ∈ w, Sec p.2) → (∀ t, o = some t → Sec t) → ∀ t, w.foldl (fun o p => if p.1 = a then some p.2 else o) o = some t → Sec t by
    cases e : lookO w a with
    | none => exact hs
    | some t => exact h w none hw (fun t h => by cases h) t e
  intro w
  induction w with
  | nil => intro o _ h t ht; exact h t ht
  | cons p w ih =>
    intro o hw ho t ht
    simp only [List.foldl_cons] at ht
    refine ih _ (fun q hq => hw q (by simp [hq])) ?_ t ht
    intro u hu
    split at hu
    · injection hu with hu; subst hu; exact hw p (by simp)
    · exact ho u hu
theorem Dsk.val_sec {D : Dsk} (h : D.Wf) {a : Nat} (ha : a < D.last.length) : Sec (D.val a) :=
  look_sec (fun p hp => (h.wait p hp).2) (h.last _ (by rw [List.getD_eq_getElem?_getD, List.getElem?_eq_getElem ha]; exact List.getElem_mem ha))

/-! in memory -/
def secV (s : List Nat) : AV := .iarr .u8 256 (ints s)
def secs (L : List (List Nat)) : List AV := L.map secV
def wrV (p : Nat × List Nat) : AV := .agg [.int .i64 (p.1 : Int), secV p.2]
def wrs (w : List (Nat × List Nat)) : List AV := w.map wrV
@[simp] theorem secs_length (L : List (List Nat)) : (secs L).length = L.length := by simp [secs]
@[simp] theorem wrs_length (w : List (Nat × List Nat)) : (wrs w).length = w.length := by simp [wrs]
theorem secs_get {L : List (List Nat)} {i : Nat} (h : i < L.length) : (secs L)[i]? = some (secV L[i]) := by simp [secs, h]
theorem wrs_get {w : List (Nat × List Nat)} {i : Nat} (h : i < w.length) : (wrs w)[i]? = some (wrV w[i]) := by simp [wrs, h]
theorem secs_getE {L : List (List Nat)} {i : Nat} (h : i < (secs L).length) : (secs L)[i] = secV (L[i]'(by simpa using h)) := by simp [secs]
theorem wrs_getE {w : List (Nat × List Nat)} {i : Nat} (h : i < (wrs w).length) : (wrs w)[i] = wrV (w[i]'(by simpa using h)) := by simp [wrs]
theorem secs_set (L : List (List Nat)) (i : Nat) (s : List Nat) : (secs L).set i (secV s) = secs (L.set i s) := by simp [secs, List.map_set]
theorem wrs_snoc (w : List (Nat × List Nat)) (p : Nat × List Nat) : wrs (w ++ [p]) = wrs w ++ [wrV p] := by simp [wrs]
/-- The map of what waits. -/
def NowOK (m : List (Int × AV)) (w : List (Nat × List Nat)) : Prop := ∀ a : Nat, getM m a = (lookO w a).map secV
theorem NowOK.nil : NowOK [] [] := fun a => rfl
theorem NowOK.put {m : List (Int × AV)} {w : List (Nat × List Nat)} (h : NowOK m w) (a : Nat) (s : List Nat) : NowOK (putM m a (secV s)) (w ++ [(a, s)]) := fun b => by
  rw [getM_putM, lookO_snoc, h b]
  by_cases e : b = a
  · subst e; simp
  · have e1 : ¬ (b : Int) = (a : Int) := by omega
    have e2 : ¬ a = b := fun h => e h.symm
    simp [e1, e2]
def dskC (gl : Nat) (v : AV) (gm : Nat) (D : Dsk) : Cont := .var T_disk_Disk [.own gl 0 D.last.length, v, .map gm, .int .i64 D.steps, .int .i64 D.fuse, .bool D.down]
/-- A disk, atop of A. -/
structure DskIn (A : Heap) (g gl : Nat) (v : AV) (gm : Nat) (D : Dsk) (B : Heap) : Prop where
  wf : D.Wf
  ag : A g = none
  al : A gl = none
  am : A gm = none
  at' : B g = some (dskC gl v gm D)
  row : B gl = some (.row T_256_uint8 256 (secs D.last))
  wait : SlR T_disk_write 257 v (wrs D.wait) A B
  now : ∃ m, B gm = some (.mp .i64 m) ∧ NowOK m D.wait
def DskAt (A : Heap) (g : Nat) (D : Dsk) (B : Heap) : Prop := ∃ gl v gm, DskIn A g gl v gm D B
theorem DskIn.mono {A B C : Heap} {g gl gm : Nat} {v : AV} {D : Dsk} (h : DskIn A g gl v gm D B) (hs : B.Sub C) : DskIn A g gl v gm D C :=
  ⟨h.wf, h.ag, h.al, h.am, hs _ _ h.at', hs _ _ h.row, h.wait.mono hs, let ⟨m, h1, h2⟩ := h.now; ⟨m, hs _ _ h1, h2⟩⟩
theorem DskAt.mono {A B C : Heap} {g : Nat} {D : Dsk} (h : DskAt A g D B) (hs : B.Sub C) : DskAt A g D C := let ⟨gl, v, gm, h⟩ := h; ⟨gl, v, gm, h.mono hs⟩
theorem DskAt.wf {A B : Heap} {g : Nat} {D : Dsk} (h : DskAt A g D B) : D.Wf := let ⟨_, _, _, h⟩ := h; h.wf
theorem DskAt.sub {A B : Heap} {g : Nat} {D : Dsk} (h : DskAt A g D B) : A.Sub B := let ⟨_, _, _, h⟩ := h; h.wait.sub
theorem DskAt.free {A B : Heap} {g : Nat} {D : Dsk} (h : DskAt A g D B) : A g = none := let ⟨_, _, _, h⟩ := h; h.ag
theorem DskAt.base {A A' B : Heap} {g : Nat} {D : Dsk} (h : DskAt A g D B) (hs : A'.Sub A) : DskAt A' g D B :=
  let ⟨gl, v, gm, h⟩ := h
  ⟨gl, v, gm, h.wf, sub_noneL hs h.ag, sub_noneL hs h.al, sub_noneL hs h.am, h.at', h.row, h.wait.base hs, h.now⟩
theorem DskIn.rebase {A B : Heap} {g gl gm x : Nat} {v : AV} {c : Cont} {D : Dsk} (h : DskIn A g gl v gm D B) (hx : B x = none) : DskIn (A.set x c) g gl v gm D (B.set x c) := by
  obtain ⟨m, h1, h2⟩ := h.now
  have n1 := fresh_ne h.at' hx
  have n2 := fresh_ne h.row hx
  have n3 := fresh_ne h1 hx
  exact ⟨h.wf, by simp [n1, h.ag], by simp [n2, h.al], by simp [n3, h.am], by simp [n1, h.at'], by simp [n2, h.row], h.wait.rebase hx, m, by simp [n3, h1], h2⟩
theorem DskAt.rebase {A B : Heap} {g x : Nat} {c : Cont} {D : Dsk} (h : DskAt A g D B) (hx : B x = none) : DskAt (A.set x c) g D (B.set x c) := let ⟨gl, v, gm, h⟩ := h; ⟨gl, v, gm, h.rebase hx⟩
theorem DskAt.poke {A B : Heap} {g x : Nat} {c0 c : Cont} {D : Dsk} (h : DskAt A g D B) (hx : A x = some c0) : DskAt (A.set x c) g D (B.set x c) := by
  obtain ⟨gl, v, gm, h⟩ := h
  obtain ⟨m, h1, h2⟩ := h.now
  have ne : ∀ {y : Nat}, A y = none → y ≠ x := fun hy e => by rw [e, hx] at hy; cases hy
  refine ⟨gl, v, gm, h.wf, by simp [ne h.ag, h.ag], by simp [ne h.al, h.al], by simp [ne h.am, h.am], by simp [ne h.ag, h.at'], by simp [ne h.al, h.row], ⟨set_sub h.wait.sub, h.wait.own.imp id fun ⟨y, e1, e2, e3⟩ => ⟨y, e1, by simp [ne e2, e2], by simp [ne e2, e3]⟩⟩, m, by simp [ne h.am, h1], h2⟩
theorem DskAt.plus {A B B' : Heap} {g : Nat} {D : Dsk} (h : DskAt A g D B) (hs : B.Sub B') : DskAt (A.plus B B') g D B' := by
  obtain ⟨gl, v, gm, h⟩ := h
  obtain ⟨m, h1, h2⟩ := h.now
  refine ⟨gl, v, gm, h.wf, plus_none h.at' h.ag, plus_none h.row h.al, plus_none h1 h.am, hs _ _ h.at', hs _ _ h.row, ⟨plus_sub h.wait.sub hs, h.wait.own.imp id fun ⟨x, e1, e2, e3⟩ => ⟨x, e1, plus_none e3 e2, hs _ _ e3⟩⟩, m, hs _ _ h1, h2⟩
theorem DskAt.del {A B : Heap} {g x : Nat} {c0 : Cont} {D : Dsk} (h : DskAt A g D B) (hx : A x = some c0) : DskAt (A.del x) g D (B.del x) := by
  obtain ⟨gl, v, gm, h⟩ := h
  obtain ⟨m, h1, h2⟩ := h.now
  have ne : ∀ {y : Nat}, A y = none → y ≠ x := fun hy e => by rw [e, hx] at hy; cases hy
  have nn : ∀ {y : Nat}, A y = none → A.del x y = none := fun hy => by rw [del_app]; split; rfl; exact hy
  refine ⟨gl, v, gm, h.wf, nn h.ag, nn h.al, nn h.am, by rw [del_app, if_neg (ne h.ag)]; exact h.at', by rw [del_app, if_neg (ne h.al)]; exact h.row, ⟨fun y c hy => ?_, h.wait.own.imp id fun ⟨y, e1, e2, e3⟩ => ⟨y, e1, nn e2, by rw [del_app, if_neg (ne e2)]; exact e3⟩⟩, m, by rw [del_app, if_neg (ne h.am)]; exact h1, h2⟩
  rw [del_app] at hy ⊢
  split at hy
  · cases hy
  · rename_i e; rw [if_neg e]; exact h.wait.sub _ _ hy
/-- What is new, over a smaller base. -/
theorem DskAt.split {A B B' : Heap} {g : Nat} {D : Dsk} (h : DskAt B g D B') (hA : A.Sub B) : DskAt A g D (A.plus B B') := by
  obtain ⟨gl, v, gm, h⟩ := h
  obtain ⟨m, h1, h2⟩ := h.now
  refine ⟨gl, v, gm, h.wf, sub_noneL hA h.ag, sub_noneL hA h.al, sub_noneL hA h.am, by rw [plus_new h.ag]; exact h.at', by rw [plus_new h.al]; exact h.row, ⟨sub_plus hA, h.wait.own.imp id fun ⟨x, e1, e2, e3⟩ => ⟨x, e1, sub_noneL hA e2, by rw [plus_new e2]; exact e3⟩⟩, m, by rw [plus_new h.am]; exact h1, h2⟩
section
variable {A B : Heap} {g gl gm : Nat} {v : AV} {D : Dsk}
theorem DskIn.gl_g (h : DskIn A g gl v gm D B) : gl ≠ g := by rintro rfl; have := h.at'; rw [h.row] at this; cases this
theorem DskIn.gm_g (h : DskIn A g gl v gm D B) : gm ≠ g := by rintro rfl; obtain ⟨m, h1, _⟩ := h.now; have := h.at'; rw [h1] at this; cases this
theorem DskIn.gm_gl (h : DskIn A g gl v gm D B) : gm ≠ gl := by rintro rfl; obtain ⟨m, h1, _⟩ := h.now; have := h.row; rw [h1] at this; cases this
/-- Only the numbers of it change. -/
theorem DskIn.nums (h : DskIn A g gl v gm D B) (n : Nat) {f : Int} (hf : f < 9223372036854775808) (d : Bool) : DskIn A g gl v gm { D with steps := n, fuse := f, down := d } (B.set g (dskC gl v gm { D with steps := n, fuse := f, down := d })) := by
  obtain ⟨m, h1, h2⟩ := h.now
  refine ⟨⟨h.wf.last, h.wf.wait, h.wf.size, hf⟩, h.ag, h.al, h.am, by simp, by simp [h.gl_g, h.row], ⟨fun x c hx => ?_, ?_⟩, m, by simp [h.gm_g, h1], h2⟩
  · rw [set_app, if_neg (fresh_ne hx h.ag)]; exact h.wait.sub _ _ hx
  · refine h.wait.own.imp id fun ⟨x, e1, e2, e3⟩ => ⟨x, e1, e2, ?_⟩
    have : x ≠ g := by rintro rfl; have := h.at'; rw [e3] at this; cases this
    simp [this, e3]
/-- A sector that lasts is stored. -/
theorem DskIn.store (h : DskIn A g gl v gm D B) (a : Nat) {s : List Nat} (hs : Sec s) : DskIn A g gl v gm { D with last := D.last.set a s } (B.set gl (.row T_256_uint8 256 ((secs D.last).set a (secV s)))) := by
  obtain ⟨m, h1, h2⟩ := h.now
  have hv := h.wait.ne h.row (fun l e => by cases e)
  refine ⟨⟨sec_set h.wf.last hs, by simpa using h.wf.wait, by simpa using h.wf.size, h.wf.fuse⟩, h.ag, h.al, h.am, ?_, by simp [secs_set], h.wait.set h.al hv, m, by simp [h.gm_gl, h1], h2⟩
  have := h.at'
  rw [Heap.set_ne _ _ (Ne.symm h.gl_g), this]
  simp [dskC]
end
end Go.Proofs.Ytjbiekcldkjgjaa
