/- append of noughts that are not made first. -/
import Derived.Test.YtfdckjliinpjiaaVj
namespace AVL
open Go
set_option linter.unusedSimpArgs false
set_option linter.unusedVariables false
section
variable {P : Program} {w : World} {E : Emb} {A : Heap} {K : AV → Heap → Prop}
theorem AppSrc.noughts {t tx e : TypeId} {i : TypeInfo} {z : Value} {k k' : IntKind} {n : Int} (ht : P.underlying t = some (.slice e)) (hx : P.underlying tx = some (.int k')) (hi : P.info? e = some i) (hz : i.zero = some z)
    (hzc : z.cells = #[.int k 0]) (h1 : i.size = 1) (hby : 0 < i.bytes) (h0 : 0 ≤ n) (hn : n * i.bytes ≤ 140737488355328) {kn : IntKind} :
    AppSrc P w E t tx e i z (.int kn n) ((List.replicate n.toNat (0 : Int)).map (AV.int k)) (List.replicate n.toNat (Value.int k 0)) := by
  obtain ⟨m, rfl⟩ : ∃ m : Nat, n = m := ⟨n.toNat, by omega⟩
  have hm : (m : Int) ≤ 140737488355328 := by
    have h2 : m * 1 ≤ m * i.bytes := Nat.mul_le_mul_left _ hby
    have h3 : ((m * i.bytes : Nat) : Int) ≤ 140737488355328 := by rw [Int.natCast_mul]; exact hn
    omega
  have hw : IntKind.i64.wrap (m : Int) = m := by
    simp [IntKind.wrap, IntKind.signed, IntKind.bits]; omega
  have hw0 : IntKind.i64.wrap 0 = 0 := by decide
  have hneg : ¬ ((m : Int) < 0) := by omega
  have hbig : ¬ ((m : Int) * i.bytes > 281474976710656) := by omega
  have hzz : Builtin.zeroCells z.cells m = (List.replicate m (Value.int k 0)).toArray := by
    rw [hzc]
    apply Array.ext'
    simp [Builtin.zeroCells]
    apply List.ext_getElem
    · simp
    · intro j h1 h2; simp [Nat.mod_one]
  refine ⟨?_, fun hnil a ty => ?_, ?_, ?_⟩
  · rw [h1]
    simp only [Int.toNat_natCast]
    clear hn hm hw hneg hbig hzz h0
    induction m with
    | zero => rfl
    | succ m ih => exact ⟨[.int k 0], _, rfl, rfl, by simp [VR], ih⟩
  · have h00 : m = 0 := by simpa using hnil
    subst h00
    cases a <;>
      simp [Builtin.append_, run_underlying ht, run_underlying hx, Go.sizeOf, typeInfo, hi, asInt, asIntOf, hw, hw0, h1, storeCells]
  · intro ty b off sLen sCap C hb hroom hfit h2
    simp only [List.length_map, List.length_replicate, Int.toNat_natCast] at hroom ⊢
    have hst := run_storeCells_at P b (off + sLen * i.size) e (List.replicate m (Value.int k 0)) 0 C w hb (by
      rw [h1] at hfit ⊢; simp; omega) (by simpa using h2)
    simp only [Nat.add_zero, List.length_replicate] at hst
    by_cases h00 : m = 0
    · subst h00
      have hr' : sLen ≤ sCap := by omega
      simp [hr', Builtin.append_, run_underlying ht, run_underlying hx, Go.sizeOf, typeInfo, hi, asInt, asIntOf, hw, hw0, h1, hroom, pA_add]
      rw [h1] at hst
      simp at hst
      unfold pA
      simp [hst]
    · simp [Builtin.append_, run_underlying ht, run_underlying hx, Go.sizeOf, typeInfo, zeroValue, hi, hz, asInt, asIntOf, hw, hw0, hneg, hbig, h1, h00, hroom, pA_add, hzz]
      rw [h1, Nat.mul_one] at hst
      unfold pA
      simp [hst]
  · intro ty base sLen sCap olds ho hle hg hby2 h63
    simp only [List.length_map, List.length_replicate, Int.toNat_natCast] at hg hby2 h63 ⊢
    have h00 : m ≠ 0 := by omega
    have hn2 : ¬ (sLen + m ≤ sCap) := by omega
    have h63' : ¬ (9223372036854775807 < ((sLen : Int) + (m : Int))) := by omega
    have h48 := growslice_fits (bytes := i.bytes) hg hby2
    have h48' : ¬ (281474976710656 < Builtin.nextslicecap (sLen + m) sCap * i.bytes) := by omega
    simp [Builtin.append_, run_underlying ht, run_underlying hx, Go.sizeOf, typeInfo, zeroValue, hi, hz, asInt, asIntOf, hw, hw0, hneg, hbig, h1, h00, hn2, h63', h48', Question.forced, newRow, grownCap, pA, hzz]
    rw [h1] at ho
    simp [ho]

/-- append of n noughts. -/
def aappZ (e : TypeId) (k : IntKind) (bytes : Nat) (d s : AV) (A : Heap) (K : AV → Heap → Prop) : Prop :=
  match s with
  | .int _ m => 0 ≤ m ∧ m * bytes ≤ 140737488355328 ∧ match d with
    | .nilS => ∀ g, A g = none → K (.own g 0 m.toNat) (A.set g (.irow e k (List.replicate m.toNat 0)))
    | .own g i n => match A g with
      | some (.irow e' k' l) => e' = e ∧ k' = k ∧ i + n ≤ l.length ∧ (n + m.toNat) * bytes ≤ 140737488355328 ∧
          ∀ g', A g' = none → K (.own g' 0 (n + m.toNat)) ((A.del g).set g' (.irow e k ((l.drop i).take n ++ List.replicate m.toNat 0)))
      | _ => False
    | _ => False
  | _ => False
theorem appZ_ok {t tx ty e : TypeId} {i : TypeInfo} {z : Value} {k k' : IntKind} (hR : Rep E A w) (ht : P.underlying t = some (.slice e)) (hx : P.underlying tx = some (.int k')) (hi : P.info? e = some i) (hz : i.zero = some z)
    (hzc : z.cells = #[.int k 0]) (h1 : i.size = 1) (hby : 0 < i.bytes) {d s : AV} {c c' : Value} (hd : TV E d c) (hs : TV E s c') (h : aappZ e k i.bytes d s A K) :
    Res E w K ((do pure (Next.value (← Builtin.append_ #[t, tx] ty #[c, c'])) : Sem Next).run P w) := by
  unfold aappZ at h
  split at h
  · rename_i kn m
    simp only [TV_int] at hs; subst hs
    obtain ⟨h0, hm, h⟩ := h
    have hzs : z.cells.size = i.size := by rw [hzc, h1]; rfl
    have hsrc := AppSrc.noughts (w := w) (E := E) (kn := kn) ht hx hi hz hzc h1 hby h0 hm
    have hmm : m.toNat * i.bytes ≤ 140737488355328 := by
      have : ((m.toNat : Int)) * i.bytes ≤ 140737488355328 := by rw [Int.toNat_of_nonneg h0]; exact hm
      exact Int.ofNat_le.1 (by rw [Int.natCast_mul]; exact this)
    split at h
    · refine Res.irow (e := e) (k := k) (app_core hR hi hz hzs hby hd hsrc (sts_ints k _) ?_)
      rw [h1]
      exact ⟨by simpa using hmm, fun g hg => ⟨A, g, _, rfl, by simpa using h g hg⟩⟩
    · rename_i g ii n
      split at h
      · rename_i e' k' l hA
        obtain ⟨rfl, rfl, hin, hb, hk⟩ := h
        refine Res.irow (e := e') (k := k') (app_core (hR.torow hA) hi hz hzs hby hd hsrc (sts_ints _ _) ?_)
        rw [h1]
        simp only [aappD, Heap.set_same]
        refine ⟨trivial, trivial, by simpa using hin, by simpa using hb, fun g' hg' => ?_⟩
        rw [Heap.del_set]
        have hg0 : A g' = none := by
          by_cases e : g' = g
          · subst e; rw [Heap.set_same] at hg'; cases hg'
          · rwa [Heap.set_ne _ _ e] at hg'
        refine ⟨A.del g, g', (l.drop ii).take n ++ List.replicate m.toNat 0, by simp [List.map_take, List.map_drop], by simpa using hk g' hg0⟩
      · exact h.elim
    · exact h.elim
  · exact h.elim
end
end AVL
