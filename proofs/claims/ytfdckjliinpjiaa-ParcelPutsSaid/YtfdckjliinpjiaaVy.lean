/- A law's call, told by abstract values: the world that comes in is held whole. -/
import Derived.Test.YtfdckjliinpjiaaVv
import Derived.Below
import Derived.Carry
namespace AVL
open Go Go.ChangeShapes Go.RowKit
set_option linter.unusedVariables false
set_option linter.unusedSimpArgs false

def E0 (w : World) : Emb := { loc := fun _ => ⟨none, 0, 0⟩, N := 0, F := fun b => w.heap[b]?, lo := 0 }
section
variable {P : Program} {w : World}
theorem E0_rep : Rep (E0 w) (fun _ => none) w :=
  ⟨fun _ _ h => h, fun _ _ h => (by cases h), fun _ _ h => (by cases h), fun _ _ _ _ h => (by cases h), fun _ _ h => (by cases h), Nat.le_refl _, fun _ _ h => (by cases h)⟩
/-- All that was there is as it was. -/
structure Bel (w w' : World) : Prop where
  os : w'.os = w.os
  output : w'.output = w.output
  size : w.heap.size ≤ w'.heap.size
  block : ∀ k, k < w.heap.size → w'.heap[k]? = w.heap[k]?
theorem Bel.frame {W W' : World} (h : Bel W W') (may : MemPlace → Prop) : W.keptBut W' may := by
  refine ⟨h.os, h.output, fun i hi => ?_⟩
  rw [h.block i hi]
  split <;> simp_all
theorem Bel.same {W W' : World} (h : Bel W W') {p : MemPlace} (hp : p.block < W.heap.size) : W.sameAt W' p := by
  cases p with
  | cell b o => exact World.cell?_of_block (w := W) (h.block b hp)
  | map b => exact h.block b hp
theorem Bel.trod {H : Type} {enc : TypeId × Value → H} {P : Program} {t : TypeId} (hl : laidOutB P = true) (hr : P.readableRec t = true) (hrow : t < P.types.size) {W W' : World} {v : Value} {d : DataW H} {ps : List MemPlace}
    (h : DataW.Trod enc P W 0 (fun _ => true) true t v d ps) (hb : Bel W W') (hlt : ∀ x ∈ ps, x.block < W.heap.size) :
    DataW.Trod enc P W' 0 (fun b => decide (b < W.heap.size)) true t v d ps :=
  WideElems.Trod_stays hl hr hrow h (fun x hx => hb.same (hlt x hx)) (fun x hx => by simpa using hlt x hx)
/-- What a law's walk has to show. -/
theorem law_ok {f : FuncId} {avs : List AV} {args : Array Value} (hT : TVl (E0 w) avs args.toList) (h : SimX P f avs (fun _ => none) (fun o _ => o = .ret (.bool true))) :
    Calls P f args w fun e w' => e = .returned (.bool true) ∧ Bel w w' := by
  refine (h (E0 w) w args E0_rep hT).mono ?_
  rintro e w' ⟨o, B, E', rfl, hR, hE, hS, hO⟩
  obtain ⟨c, rfl, hc⟩ := hO
  simp only [TV_bool] at hc
  subst hc
  refine ⟨rfl, hS.os, hS.output, hS.size, fun k hk => ?_⟩
  rw [Array.getElem?_eq_getElem hk]
  exact hR.frm k _ (hE.F k _ (by simp [E0, Array.getElem?_eq_getElem hk]))

/-- A slice of whole numbers that came in. -/
def RowIn (k : IntKind) (w : World) (a : Option Addr) (len cap : Nat) (zs : List Int) : Prop :=
  (a = none ∧ len = 0 ∧ cap = 0 ∧ zs = []) ∨
  ∃ x, a = some x ∧ len ≤ cap ∧ cap ≤ maxLen ∧ zs.length = cap ∧ (∀ i, i < zs.length → w.cell? (x.add i) = some (.int k (zs.getD i 0))) ∧ ∀ n ∈ zs, (Lit.int k n).wf = true
theorem row_in {k : IntKind} {a : Option Addr} {len cap : Nat} {zs : List Int} (h : RowIn k w a len cap zs) :
    TV (E0 w) (.isl k (zs.take len)) (.slice a len cap) ∧ (zs.take len).length ≤ maxLen ∧ (∀ n ∈ zs.take len, (Lit.int k n).wf = true) := by
  rcases h with ⟨rfl, rfl, rfl, rfl⟩ | ⟨x, rfl, h1, h2, h3, h4, h5⟩
  · refine ⟨.inr ⟨rfl, ?_⟩, by simp, by simp⟩
    simp only [VR]
    exact ⟨none, 0, by simp, by simp, fun h => by simp at h⟩
  · have hl : (zs.take len).length = len := by simp; omega
    refine ⟨.inr ⟨rfl, ?_⟩, by omega, fun n hn => h5 n (List.mem_of_mem_take hn)⟩
    simp only [VR]
    refine ⟨some x, cap, by rw [hl], by omega, fun hp => ?_⟩
    rw [hl] at hp
    obtain ⟨b, off, spot⟩ := x
    have hs : spot = none := by
      have := h4 0 (by omega)
      unfold World.cell? at this
      simp only [Addr.add, if_true] at this
      split at this
      · split at this
        · cases this
        · rename_i hs; cases spot <;> simp_all
      · cases this
    subst hs
    have key : ∀ i, i < zs.length → (E0 w).cell b (off + i) = some (.int k (zs.getD i 0)) := by
      intro i hi
      have := h4 i hi
      have hadd : (Addr.mk b off none).add i = pA b (off + i) := pA_add b off i
      rw [hadd] at this
      unfold World.cell? pA at this
      simp only [Emb.cell, E0]
      split at this
      · rename_i c _ _ hb
        simp only [hb]
        simpa using this
      · cases this
    refine ⟨b, off, rfl, fun j hj => ?_⟩
    rw [hl] at hj
    rw [key j (by omega)]
    simp [List.getElem?_take, hj]
end
end AVL
