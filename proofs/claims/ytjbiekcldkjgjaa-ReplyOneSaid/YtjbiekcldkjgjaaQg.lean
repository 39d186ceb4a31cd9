/- Answers that come in as arguments. -/
import Derived.Test.YtjbiekcldkjgjaaQf
import Derived.Test.YtjbiekcldkjgjaaVw
namespace Go.Proofs.Ytjbiekcldkjgjaa
open Go AVL
set_option linter.unusedVariables false

theorem bytes_wf {zs : List Int} (h : ∀ n ∈ zs, (Lit.int .u8 n).wf = true) : ∃ a, ints a = zs ∧ Bytes a := by
  obtain ⟨l, h1, h2⟩ := bytes_in h
  exact ⟨l, h1.symm, h2⟩
theorem adrs_in : ∀ {l : List AV}, (∀ x ∈ l, ATy.has (.iarr .u8 32) x) → ∃ m : List (List Nat), l = m.map adrV ∧ ∀ a ∈ m, Adr a
  | [], _ => ⟨[], rfl, by simp⟩
  | v :: l, h => by
    obtain ⟨m, h1, h2⟩ := adrs_in (l := l) fun x hx => h x (by simp [hx])
    have hv := h v (by simp)
    simp only [ATy.has] at hv
    obtain ⟨zs, rfl, h4, h5⟩ := hv
    obtain ⟨a, rfl, ha⟩ := bytes_wf h5
    refine ⟨a :: m, by rw [h1]; rfl, fun x hx => ?_⟩
    rcases List.mem_cons.1 hx with rfl | hx
    · exact ⟨ha, by simpa using h4⟩
    · exact h2 x hx
theorem rp_in {v : AV} (h : ATy.has (.agg [.int .i64, .iarr .u8 32, .isl .u8, .dsl 32 (.iarr .u8 32), .int .i64, .bool]) v) : ∃ r : Rp, v = rpV r ∧ ((r.data.length ≤ 17000 ∧ r.list.length ≤ 300) → r.ok) := by
  unfold ATy.has at h
  obtain ⟨l, rfl, h⟩ := h
  simp only [ATy.hasL] at h
  obtain ⟨v1, _, rfl, h1, v2, _, rfl, h2, v3, _, rfl, h3, v4, _, rfl, h4, v5, _, rfl, h5, v6, _, rfl, h6, rfl⟩ := h
  unfold ATy.has at h1 h2 h3 h4 h5 h6
  obtain ⟨c, rfl, hc⟩ := h1
  obtain ⟨a, rfl, hal, ha⟩ := h2
  obtain ⟨d, rfl, _, hd⟩ := h3
  obtain ⟨l, rfl, _, hl⟩ := h4
  obtain ⟨n, rfl, hn⟩ := h5
  obtain ⟨b, rfl⟩ := h6
  obtain ⟨a, rfl, ha'⟩ := bytes_wf ha
  obtain ⟨d, rfl, hd'⟩ := bytes_wf hd
  obtain ⟨l, rfl, hl'⟩ := adrs_in hl
  exact ⟨⟨c, a, d, l, n, b⟩, rfl, fun ⟨x, y⟩ => ⟨i64_in hc, i64_in hn, ⟨ha', by simpa using hal⟩, hd', hl', x, y⟩⟩
end Go.Proofs.Ytjbiekcldkjgjaa
