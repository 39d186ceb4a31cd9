/- The walks of trap.Try over bytes and over requests. -/
import Derived.Test.YtfdckjliinpjiaaTt
namespace Go.Proofs.Ytfdckjliinpjiaa
open Go AVL
attribute [-simp] AV.isAgg aappI aapp alen shp good comps
set_option linter.unusedVariables false
set_option linter.unusedSimpArgs false
set_option maxRecDepth 8000

theorem w_Try_byte {k : FuncId} {first cap : List AV} {A : Heap} {K Kp : AV → Heap → Prop} (hk : callable Try.prog k = true) (res : Except Int (List Int)) (hc : ∀ c, res = .error c → c ≠ 0)
    (h : ∀ (B : Heap) (K1 Kp1 : AV → Heap → Prop), A.Sub B → (∀ l, res = .ok l → ∀ v B', SlS T_uint8 .u8 v l B B' → K1 v B') → (∀ c, res = .error c → ∀ B', B.Sub B' → Kp1 (faultV c) B') → SimX Try.prog k (first ++ cap) B (outK K1 Kp1))
    (h1 : ∀ l, res = .ok l → ∀ v B', SlS T_uint8 .u8 v l A B' → K (.tuple [v, .int .i64 0]) B')
    (h2 : ∀ c, res = .error c → ∀ B', A.Sub B' → K (.tuple [.nilS, .int .i64 c]) B') : SimX Try.prog F_trap_Try_byte [.func (.func k) first cap] A (outK K Kp) := by
  refine j_trap_Try_byte (by simp) ?_
  simp -implicitDefEqProofs [a_trap_Try_byte, q_trap_Try_byte_0, q_trap_Try_byte_1, q_trap_Try_byte_3, pop, nilOf]
  intro g1 h10 g2 n21 n12 h20
  simp -implicitDefEqProofs [n21, n12, pop, nilOf]
  refine w_Catch (by simp) fun gc hgc => ?_
  simp only [set_none] at hgc
  obtain ⟨c1, c2, c3, c4, c5⟩ := hgc
  refine i_trap_Try_byte_1 (by simp) fun R2 hR2 => ?_
  simp -implicitDefEqProofs [a_trap_Try_byte_1, q_trap_Try_byte_1_0, n21, n12, c1, c2, c3, c4, hk]
  have hs1 : A.Sub ((A.set g1 (.var 100 [.func (.func k) first cap])).set g2 (.var 22 [.nilS])) := sub_new (sub_none h10) (by simp [n21, n12, h20])
  have hs2 := sub_new (g := gc) (c := c0) hs1 (by simp [c1, c2, c3, c4, c5])
  refine h _ _ _ hs2 (fun l hl v B' hB' => ?_) (fun c hcc B' hB' => ?_)
  · have b2 := hB'.sub g2 (.var 22 [.nilS]) (by simp [c2, n21])
    have bc := hB'.sub gc c0 set_eq'
    have hv := hB'.scl
    have v2 := hB'.not_base (x := g2) (c := .var 22 [.nilS]) (by simp [c2, n21])
    have vc := hB'.not_base (x := gc) (c := c0) set_eq'
    have hA := hB'.base hs2
    simp -implicitDefEqProofs [b2, hv.agg, hv.good, hv.comps, hv.st, hv.shp, hv.size]
    refine hR2 _ _ _ ⟨_, Sub_refl _, 0, rfl, by simp [c1, c2, bc], _, Sub_refl _, ?_⟩
    simp -implicitDefEqProofs [q_trap_Try_byte_4, q_trap_Try_byte_7, c1, c2, hv.agg, hv.good, hv.comps, hv.st, hv.shp, hv.size, outOf]
    exact h1 l hl v _ (((hA.set h20 v2).set c5 vc).set h20 v2)
  · have b2 := hB' g2 (.var 22 [.nilS]) (by simp [c2, n21])
    have bc := hB' gc c0 set_eq'
    have hne := hc c hcc
    simp -implicitDefEqProofs
    refine hR2 _ _ _ ⟨_, Sub_refl _, c, rfl, bc, _, Sub_refl _, ?_⟩
    simp -implicitDefEqProofs [q_trap_Try_byte_4, q_trap_Try_byte_5, q_trap_Try_byte_6, hne, b2, c1, c2, outOf]
    exact h2 c hcc _ (sub_set' (sub_set' (sub_tr hs2 hB') c5) h20)
end Go.Proofs.Ytfdckjliinpjiaa
