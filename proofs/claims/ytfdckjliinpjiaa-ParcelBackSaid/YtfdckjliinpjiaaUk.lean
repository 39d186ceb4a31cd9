/- Requests that come in as arguments. -/
import Derived.Test.YtfdckjliinpjiaaUj
import Derived.Test.YtfdckjliinpjiaaVw
namespace Go.Proofs.Ytfdckjliinpjiaa
open Go AVL
set_option linter.unusedVariables false

theorem bytes_wf {zs : List Int} (h : ∀ n ∈ zs, (Lit.int .u8 n).wf = true) : ∃ a, ints a = zs ∧ Bytes a := by
  obtain ⟨l, h1, h2⟩ := bytes_in h
  exact ⟨l, h1.symm, h2⟩
theorem adrs_in : ∀ {l : List AV}, (∀ x ∈ l, ATy.has (.iarr .u8 32) x) → ∃ m : List (List Nat), l = adrs m ∧ ∀ a ∈ m, Adr a
  | [], _ => ⟨[], rfl, by simp⟩
  | v :: l, h => by
    obtain ⟨m, h1, h2⟩ := adrs_in (l := l) fun x hx => h x (by simp [hx])
    have hv := h v (by simp)
    simp only [ATy.has] at hv
    obtain ⟨zs, rfl, h4, h5⟩ := hv
    obtain ⟨a, rfl, ha⟩ := bytes_wf h5
    refine ⟨a :: m, by rw [h1]; rfl, fun x hx => ?_⟩
    rcases List.mem_cons.1 hx with rfl | hx
    · exact ⟨ha, by simpa using h4⟩
    · exact h2 x hx
theorem sN_in {s : ByteArray} : ∃ l, s = sN l ∧ Bytes l := ⟨bytN s, (sN_bytN s).symm, bytN_lt s⟩
theorem req_in {v : AV} (h : ATy.has (.agg [.int .i64, .str, .str, .str, .int .i64, .bool, .bool, .isl .u8, .iarr .u8 32, .dsl 32 (.iarr .u8 32)]) v) : ∃ r : Rq, v = reqV r ∧ r.Wf := by
  unfold ATy.has at h
  obtain ⟨l, rfl, h⟩ := h
  simp only [ATy.hasL] at h
  obtain ⟨v1, _, rfl, h1, v2, _, rfl, h2, v3, _, rfl, h3, v4, _, rfl, h4, v5, _, rfl, h5, v6, _, rfl, h6, v7, _, rfl, h7, v8, _, rfl, h8, v9, _, rfl, h9, v0, _, rfl, h0, rfl⟩ := h
  unfold ATy.has at h1 h2 h3 h4 h5 h6 h7 h8 h9 h0
  obtain ⟨o, rfl, ho⟩ := h1
  obtain ⟨s1, rfl, _⟩ := h2
  obtain ⟨s2, rfl, _⟩ := h3
  obtain ⟨s3, rfl, _⟩ := h4
  obtain ⟨n, rfl, hn⟩ := h5
  obtain ⟨e, rfl⟩ := h6
  obtain ⟨p, rfl⟩ := h7
  obtain ⟨t, rfl, _, ht⟩ := h8
  obtain ⟨a, rfl, hal, ha⟩ := h9
  obtain ⟨l, rfl, _, hl⟩ := h0
  obtain ⟨s1, rfl, w1⟩ := sN_in (s := s1)
  obtain ⟨s2, rfl, w2⟩ := sN_in (s := s2)
  obtain ⟨s3, rfl, w3⟩ := sN_in (s := s3)
  obtain ⟨t, rfl, wt⟩ := bytes_wf ht
  obtain ⟨a, rfl, wa⟩ := bytes_wf ha
  obtain ⟨l, rfl, wl⟩ := adrs_in hl
  exact ⟨⟨o, s1, s2, s3, n, e, p, t, a, l⟩, rfl, i64_in ho, i64_in hn, w1, w2, w3, wt, ⟨wa, by simpa using hal⟩, wl⟩
end Go.Proofs.Ytfdckjliinpjiaa
