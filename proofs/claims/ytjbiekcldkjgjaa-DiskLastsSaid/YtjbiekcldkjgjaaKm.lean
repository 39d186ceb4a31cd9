/- Acts as they come in. -/
import Derived.Test.YtjbiekcldkjgjaaKj
import Derived.Test.YtjbiekcldkjgjaaVw
namespace Go.Proofs.Ytjbiekcldkjgjaa
open Go AVL
set_option linter.unusedVariables false

def bools_ty : ATy := .dsl 1 .bool
theorem bools_in : ∀ {l : List AV}, (∀ x ∈ l, ATy.has .bool x) → ∃ m, l = bls m
  | [], _ => ⟨[], rfl⟩
  | v :: l, h => by
    obtain ⟨m, h1⟩ := bools_in (l := l) fun x hx => h x (by simp [hx])
    have := h v (by simp)
    unfold ATy.has at this
    obtain ⟨b, rfl⟩ := this
    exact ⟨b :: m, by rw [h1]; rfl⟩
theorem ops_in : ∀ {l : List AV}, (∀ x ∈ l, ATy.has (.agg [.int .i64, .int .i64, .int .u8, .dsl 1 .bool]) x) → ∃ m, l = dops m ∧ OpsOK m
  | [], _ => ⟨[], rfl, fun o ho => by cases ho⟩
  | v :: l, h => by
    obtain ⟨m, h1, h2⟩ := ops_in (l := l) fun x hx => h x (by simp [hx])
    have h3 := h v (by simp)
    unfold ATy.has at h3
    obtain ⟨fs, rfl, h3⟩ := h3
    simp only [ATy.hasL] at h3
    obtain ⟨_, _, rfl, k1, _, _, rfl, k2, _, _, rfl, k3, _, _, rfl, k4, rfl⟩ := h3
    unfold ATy.has at k1 k2 k3 k4
    obtain ⟨a, rfl, w1⟩ := k1
    obtain ⟨b, rfl, w2⟩ := k2
    obtain ⟨c, rfl, w3⟩ := k3
    obtain ⟨bs, rfl, w4, w5⟩ := k4
    obtain ⟨c, rfl, hc⟩ := u8_in w3
    obtain ⟨ks, rfl⟩ := bools_in w5
    have := i64_in w2
    refine ⟨⟨a, b, c, ks⟩ :: m, by rw [h1]; rfl, fun o ho => ?_⟩
    rcases List.mem_cons.1 ho with rfl | ho
    · exact ⟨hc, this.2, this.1⟩
    · exact h2 o ho
end Go.Proofs.Ytjbiekcldkjgjaa
