/- The walk of the reference's Put of requests. -/
import Derived.Test.YtfdckjliinpjiaaUd
namespace Go.Proofs.Ytfdckjliinpjiaa
open Go AVL
attribute [-simp] AV.isAgg aappI aapp alen shp good comps
set_option linter.unusedVariables false
set_option linter.unusedSimpArgs false
set_option maxRecDepth 8000

theorem ints_snoc (l : List Nat) (x : Nat) : ints (l ++ [x]) = ints l ++ [(x : Int)] := by simp [ints]
theorem w_ref24_wrong {r : Rq} : Gives Try.prog F_ref24_wrong [reqV r] (.int .i64 (errR r)) := by
  refine v_ref24_wrong (by simp) ?_
  simp -implicitDefEqProofs [a_ref24_wrong, q_ref24_wrong_0, reqV, reqC]
  intro g1
  unfold errR
  by_cases h1 : 63 < r.name.length
  · have h1' : 63 < (r.name.length : Int) := by omega
    simp -implicitDefEqProofs [q_ref24_wrong_1, q_ref24_wrong_2, h1, h1', outOf]
  have h1' : ¬ 63 < (r.name.length : Int) := by omega
  by_cases h2 : 63 < r.actor.length
  · have h2' : 63 < (r.actor.length : Int) := by omega
    simp -implicitDefEqProofs [q_ref24_wrong_1, q_ref24_wrong_2, h1, h1', h2, h2', outOf]
  have h2' : ¬ 63 < (r.actor.length : Int) := by omega
  by_cases h3 : 63 < r.note.length
  · have h3' : 63 < (r.note.length : Int) := by omega
    simp -implicitDefEqProofs [q_ref24_wrong_1, q_ref24_wrong_2, h1, h1', h2, h2', h3, h3', outOf]
  have h3' : ¬ 63 < (r.note.length : Int) := by omega
  by_cases h4 : 2049 < r.text.length
  · have h4' : 2049 < (r.text.length : Int) := by omega
    simp -implicitDefEqProofs [q_ref24_wrong_1, q_ref24_wrong_2, h1, h1', h2, h2', h3, h3', h4, h4', outOf]
  have h4' : ¬ 2049 < (r.text.length : Int) := by omega
  by_cases h5 : 15 < r.list.length
  · have h5' : 15 < (r.list.length : Int) := by omega
    simp -implicitDefEqProofs [q_ref24_wrong_1, q_ref24_wrong_3, q_ref24_wrong_4, h1, h1', h2, h2', h3, h3', h4, h4', h5, h5', outOf]
  have h5' : ¬ 15 < (r.list.length : Int) := by omega
  simp -implicitDefEqProofs [q_ref24_wrong_1, q_ref24_wrong_3, q_ref24_wrong_5, h1, h1', h2, h2', h3, h3', h4, h4', h5, h5', outOf]
theorem w_ref24_text {s L : List Nat} {v : AV} {A B : Heap} {K Kp : AV → Heap → Prop} (h : SlS T_uint8 .u8 v (ints L) A B) (hs : Bytes s) (hl : s.length ≤ 60000) (hL : L.length ≤ 60000) (hk : ∀ v' B', SlS T_uint8 .u8 v' (ints (L ++ tx s)) A B' → K v' B') :
    SimX Try.prog F_ref24_text [v, .str (sN s)] B (outK K Kp) := by
  refine j_ref24_text (by simp) ?_
  have wu : IntKind.u64.wrap (s.length : Int) = (s.length : Int) := wrap_u64 (by omega)
  simp -implicitDefEqProofs [a_ref24_text, q_ref24_text_0, q_ref24_text_1, wu]
  refine (w_ref01_Put 2 s.length (by omega) (by decide)).call (.cons (.refl _) rfl (.cons (.refl _) rfl .nil)) fun v2 C hC => ?_
  simp -implicitDefEqProofs
  refine h.appS hC.sub (hC.src (Sub_refl _)) (by simp; omega) fun v3 C3 h3 hag3 => ?_
  simp -implicitDefEqProofs [q_ref24_text_2]
  refine h3.appS (ys := ints s) (Sub_refl _) (fun Q hQ => srcI_str Q (by rw [bytesI_sN hs]; exact hQ)) (by simp; omega) fun v4 C4 h4 hag4 => ?_
  simp -implicitDefEqProofs [hag4, outOf]
  exact hk _ _ (by simpa [tx] using h4)
theorem errR_le {r : Rq} (h : errR r = 0) : r.name.length ≤ 63 ∧ r.actor.length ≤ 63 ∧ r.note.length ≤ 63 ∧ r.text.length ≤ 2049 ∧ r.list.length ≤ 15 := (fits_iff r).1 h
theorem w_ref24_Put {r : Rq} (hr : r.Wf) : MakesP Try.prog F_ref24_Put [reqV r] (fun v => .tuple [v, .int .i64 (errR r)]) T_uint8 .u8 (if errR r = 0 then ints (enc r) else []) := by
  refine i_ref24_Put (by simp) fun R hR => ?_
  simp -implicitDefEqProofs [a_ref24_Put, q_ref24_Put_0, reqV, reqC]
  intro g1
  obtain ⟨c1, hc1⟩ : ∃ c, Cont.var 26 [.int .i64 r.op, .str (sN r.name), .str (sN r.actor), .str (sN r.note), .int .i64 r.n, .bool r.ev, .bool r.pr, .isl .u8 (ints r.text), .iarr .u8 32 (ints r.addr), .dsl 32 (adrs r.list)] = c := ⟨_, rfl⟩
  rw [hc1]
  have b1 : (H0.set g1 c1) g1 = some c1 := set_eq'
  obtain ⟨B1, hB1⟩ : ∃ X, H0.set g1 c1 = X := ⟨_, rfl⟩
  rw [hB1] at b1 ⊢
  have x1 := b1
  rw [← hc1] at x1
  simp -implicitDefEqProofs [q_ref24_Put_1, x1]
  refine (w_ref24_wrong (r := r)).call (.cons (.refl _) rfl .nil) rfl ?_
  by_cases he : errR r = 0
  case neg =>
    simp -implicitDefEqProofs [q_ref24_Put_2, q_ref24_Put_3, he]
    refine hR _ _ _ ?_
    simp -implicitDefEqProofs [fpost, a_ref24_Put, outOf, he]
  obtain ⟨l1, l2, l3, l4, l5⟩ := errR_le he
  have wop : IntKind.u64.wrap r.op = ((u64 r.op : Nat) : Int) := wrap_u64s
  have wn : IntKind.u64.wrap r.n = ((u64 r.n : Nat) : Int) := wrap_u64s
  simp -implicitDefEqProofs [q_ref24_Put_2, q_ref24_Put_4, he]
  intro g15 h15
  have n15 := fresh_ne b1 h15
  have hv0 : SlS T_uint8 .u8 (.own g15 0 2) (ints [82, 1]) B1 (B1.set g15 (.irow 5 .u8 [82, 1])) := SlS.one h15 (by simp)
  simp -implicitDefEqProofs [q_ref24_Put_5, n15, x1, wop]
  refine (w_ref01_Put 8 (u64 r.op) (u64_lt _) (by decide)).call (.cons (.refl _) rfl (.cons (.refl _) rfl .nil)) fun v2 C hC => ?_
  simp -implicitDefEqProofs
  refine hv0.appS hC.sub (hC.src (Sub_refl _)) (by simp) fun v3 C3 hv3 hag3 => ?_
  have x3 := hv3.sub _ _ b1
  rw [← hc1] at x3
  rw [ints_append] at hv3
  simp -implicitDefEqProofs [q_ref24_Put_6, x3, hag3]
  refine w_ref24_text hv3 hr.name (by omega) (by simp) fun v4 C4 hv4 => ?_
  have x4 := hv4.sub _ _ b1
  rw [← hc1] at x4
  simp -implicitDefEqProofs [hv4.scl.agg, x3, x4]
  refine w_ref24_text hv4 hr.actor (by omega) (by simp [tx]; omega) fun v5 C5 hv5 => ?_
  have x5 := hv5.sub _ _ b1
  rw [← hc1] at x5
  simp -implicitDefEqProofs [hv5.scl.agg, x4, x5]
  refine w_ref24_text hv5 hr.note (by omega) (by simp [tx]; omega) fun v6 C6 hv6 => ?_
  have x6 := hv6.sub _ _ b1
  rw [← hc1] at x6
  obtain ⟨LA, hLA⟩ : ∃ L, [82, 1] ++ le 8 (u64 r.op) ++ tx r.name ++ tx r.actor ++ tx r.note = L := ⟨_, rfl⟩
  have hlA : LA.length ≤ 300 := by rw [← hLA]; simp [tx]; omega
  rw [hLA] at hv6
  simp -implicitDefEqProofs [q_ref24_Put_7, hv6.scl.agg, x6, wn]
  refine (w_ref01_Put 8 (u64 r.n) (u64_lt _) (by decide)).call (.cons (.refl _) rfl (.cons (.refl _) rfl .nil)) fun v7 C7 hC7 => ?_
  simp -implicitDefEqProofs
  refine hv6.appS hC7.sub (hC7.src (Sub_refl _)) (by simp; omega) fun v8 C8 hv8 hag8 => ?_
  have x8 := hv8.sub _ _ b1
  rw [← hc1] at x8
  rw [ints_append] at hv8
  obtain ⟨LB, hLB⟩ : ∃ L, LA ++ le 8 (u64 r.n) = L := ⟨_, rfl⟩
  have hlB : LB.length ≤ 320 := by rw [← hLB]; simp; omega
  rw [hLB] at hv8
  have hadl : r.addr.length = 32 := hr.addr.2
  have hlf : ∀ i, ((r.list.take i).flatten).length ≤ 32 * i := flat32 fun a ha => (hr.list a ha).2
  have wl : IntKind.u8.wrap (r.list.length : Int) = (r.list.length : Int) := wrap_u8 (by omega)
  clear hv0 hv3 hv4 hv5 hv6 x3 x4 x5 x6 hC hC7
  obtain ⟨fb, hfb⟩ : ∃ fb, flg r.ev r.pr = fb := ⟨_, rfl⟩
  have hflag : ∀ {k : Kt} {c : ACode} {env : AEnv}, env 1 = .ptr g1 0 → (∀ env', env' 1 = .ptr g1 0 → env' 5 = env 5 → env' 6 = .int .u8 (fb : Nat) → X Try.prog R c k env' C8) →
      XO Try.prog R q_ref24_Put_8 (.thn (.seq (.seq (.region q_ref24_Put_9) (.cond (.t 39) (.region q_ref24_Put_10) .skip)) (.seq (.seq (.region q_ref24_Put_11) (.cond (.t 43) (.region q_ref24_Put_12) .skip)) c)) k) env C8 := by
    intro k c env e1 hk
    cases hev : r.ev <;> cases hpr : r.pr
    all_goals
      rw [hev, hpr] at x8 hfb
      have w1 : IntKind.u8.wrap 1 = 1 := by decide
      have w2 : IntKind.u8.wrap 2 = 2 := by decide
      have w3 : IntKind.u8.wrap 3 = 3 := by decide
      subst hfb
      simp -implicitDefEqProofs [q_ref24_Put_8, q_ref24_Put_9, q_ref24_Put_10, q_ref24_Put_11, q_ref24_Put_12, e1, x8, w1, w2, w3]
      exact hk _ (by simp [e1]) (by simp) (by simp [flg])
  simp -implicitDefEqProofs
  refine hflag (by simp) fun env e1 e5 e6 => ?_
  have e5 : env 5 = v8 := by rw [e5]; simp
  simp -implicitDefEqProofs [q_ref24_Put_13, e5, e6]
  intro g48 h48
  refine hv8.appS (ys := [(fb : Int)]) (sub_none h48) (srcI_row set_eq' rfl) (by simp; omega) fun v9 C9 hv9 hag9 => ?_
  have x9 := hv9.sub _ _ b1
  rw [← hc1] at x9
  simp -implicitDefEqProofs [q_ref24_Put_14, e1, x9, hag9]
  rw [strOf_ints]
  have hv9' : SlS T_uint8 .u8 v9 (ints (LB ++ [fb])) B1 C9 := by simpa [ints] using hv9
  refine w_ref24_text hv9' hr.text (by omega) (by simp; omega) fun v10 C10 hv10 => ?_
  obtain ⟨LC, hLC⟩ : ∃ L, LB ++ [fb] ++ tx r.text = L := ⟨_, rfl⟩
  have hlC : LC.length ≤ 3000 := by rw [← hLC]; simp [tx]; omega
  rw [hLC] at hv10
  clear hv9 hv9' x9 hv8 x8 h48
  simp -implicitDefEqProofs [hv10.scl.agg, q_ref24_Put_15]
  refine X_lp (fun (i : Nat) env Y => i ≤ 32 ∧ env 1 = .ptr g1 0 ∧ env 7 = .int .i64 i ∧ SlS T_uint8 .u8 (env 5) (ints (LC ++ r.addr.take i)) B1 Y) (fun i => 32 - i) 0
    ⟨by omega, by simp [e1], by simp, by simpa using hv10⟩ ?_
  clear hv10 e1 e5 e6
  rintro i env Y ⟨hi, e1, e7, hv⟩
  obtain ⟨v, e5⟩ : ∃ v, env 5 = v := ⟨_, rfl⟩
  rw [e5] at hv
  have xx := hv.sub _ _ b1
  rw [← hc1] at xx
  by_cases hi32 : i < 32
  · have hi' : (i : Int) < 32 := by omega
    have wi : IntKind.i64.wrap ((i : Int) + 1) = (i : Int) + 1 := wrap_i64 (by omega)
    have hia : i < r.addr.length := by omega
    have hget : r.addr[i]?.getD 0 = r.addr[i] := by simp [hia]
    have htk := List.take_succ_eq_append_getElem hia
    simp -implicitDefEqProofs [q_ref24_Put_L19, q_ref24_Put_16, q_ref24_Put_17, e1, e5, e7, hi', hi32, xx, hadl, hget]
    intro g64 h64
    refine hv.appS (ys := [(r.addr[i] : Int)]) (sub_none h64) (srcI_row set_eq' rfl) (by simp; omega) fun v2 Y2 hv2 hag2 => ?_
    have hv3 : SlS T_uint8 .u8 v2 (ints (LC ++ r.addr.take (i + 1))) B1 Y2 := by rw [htk, ← List.append_assoc, ints_snoc]; exact hv2
    simp -implicitDefEqProofs [q_ref24_Put_18, e7, wi]
    exact lp_next (i + 1) ⟨by omega, by simp [e1], by simp, by simpa using hv3⟩ (by omega)
  have hie : i = 32 := by omega
  subst hie
  rw [List.take_of_length_le (by omega)] at hv
  obtain ⟨LD, hLD⟩ : ∃ L, LC ++ r.addr = L := ⟨_, rfl⟩
  have hlD : LD.length ≤ 3100 := by rw [← hLD]; simp; omega
  rw [hLD] at hv
  simp -implicitDefEqProofs [q_ref24_Put_L19, q_ref24_Put_16, q_ref24_Put_19, e1, e5, e7, xx, wl]
  intro g71 h71
  refine hv.appS (ys := [(r.list.length : Int)]) (sub_none h71) (srcI_row set_eq' rfl) (by simp; omega) fun v2 Y2 hv2 hag2 => ?_
  have hv3 : SlS T_uint8 .u8 v2 (ints (LD ++ [r.list.length])) B1 Y2 := by simpa [ints] using hv2
  obtain ⟨LE, hLE⟩ : ∃ L, LD ++ [r.list.length] = L := ⟨_, rfl⟩
  have hlE : LE.length ≤ 3200 := by rw [← hLE]; simp; omega
  rw [hLE] at hv3
  clear hv2 hv xx h71
  simp -implicitDefEqProofs [q_ref24_Put_20]
  refine X_lp (fun (i : Nat) env Y => i ≤ r.list.length ∧ env 1 = .ptr g1 0 ∧ env 8 = .int .i64 i ∧ SlS T_uint8 .u8 (env 5) (ints (LE ++ (r.list.take i).flatten)) B1 Y) (fun i => r.list.length - i) 0
    ⟨by omega, by simp [e1], by simp, by simpa using hv3⟩ ?_
  clear hv3 e1 e5 e7
  rintro i env Y ⟨hi, e1, e8, hv⟩
  obtain ⟨v, e5⟩ : ∃ v, env 5 = v := ⟨_, rfl⟩
  rw [e5] at hv
  have xx := hv.sub _ _ b1
  rw [← hc1] at xx
  by_cases hil : i < r.list.length
  · have hil' : (i : Int) < r.list.length := by omega
    have wi : IntKind.i64.wrap ((i : Int) + 1) = (i : Int) + 1 := wrap_i64 (by omega)
    have ha := (hr.list _ (List.getElem_mem hil)).2
    have hft : (r.list.take (i + 1)).flatten = (r.list.take i).flatten ++ r.list[i] := by rw [List.take_succ_eq_append_getElem hil, List.flatten_append]; simp
    have hli := hlf i
    obtain ⟨LF, hLF⟩ : ∃ L, LE ++ (r.list.take i).flatten = L := ⟨_, rfl⟩
    have hlF : LF.length ≤ 3200 + 32 * i := by rw [← hLF]; simp only [List.length_append]; omega
    rw [hLF] at hv
    simp -implicitDefEqProofs [q_ref24_Put_L27, q_ref24_Put_21, q_ref24_Put_22, e1, e5, e8, xx, hil, hil']
    refine X_lp (fun (j : Nat) env Y => j ≤ 32 ∧ env 1 = .ptr g1 0 ∧ env 8 = .int .i64 i ∧ env 9 = .int .i64 j ∧ SlS T_uint8 .u8 (env 5) (ints (LF ++ r.list[i].take j)) B1 Y) (fun j => 32 - j) 0
      ⟨by omega, by simp [e1], by simp [e8], by simp, by simpa [e5] using hv⟩ ?_
    clear hv e1 e5 e8 xx
    rintro j env Y ⟨hj, e1, e8, e9, hv⟩
    obtain ⟨v, e5⟩ : ∃ v, env 5 = v := ⟨_, rfl⟩
    rw [e5] at hv
    have xx := hv.sub _ _ b1
    rw [← hc1] at xx
    by_cases hj32 : j < 32
    · have hj' : (j : Int) < 32 := by omega
      have wj : IntKind.i64.wrap ((j : Int) + 1) = (j : Int) + 1 := wrap_i64 (by omega)
      have hja : j < r.list[i].length := by omega
      have hget : (r.list[i])[j]?.getD 0 = (r.list[i])[j] := by simp [hja]
      have htk := List.take_succ_eq_append_getElem hja
      simp -implicitDefEqProofs [q_ref24_Put_L26, q_ref24_Put_23, q_ref24_Put_24, e1, e5, e8, e9, hj', hj32, xx, hil, hil', adrs_getE, adrV, ha, hget]
      intro g92 h92
      refine hv.appS (ys := [((r.list[i])[j] : Int)]) (sub_none h92) (srcI_row set_eq' rfl) (by simp only [ints_length, List.length_append, List.length_take, List.length_cons, List.length_nil]; omega) fun v2 Y2 hv2 hag2 => ?_
      have hv3 : SlS T_uint8 .u8 v2 (ints (LF ++ r.list[i].take (j + 1))) B1 Y2 := by rw [htk, ← List.append_assoc, ints_snoc]; exact hv2
      simp -implicitDefEqProofs [q_ref24_Put_25, e9, wj]
      exact lp_next (j + 1) ⟨by omega, by simp [e1], by simp [e8], by simp, by simpa using hv3⟩ (by omega)
    · have hje : j = 32 := by omega
      subst hje
      rw [List.take_of_length_le (by omega)] at hv
      have hv3 : SlS T_uint8 .u8 v (ints (LE ++ (r.list.take (i + 1)).flatten)) B1 Y := by rw [hft, ← List.append_assoc, hLF]; exact hv
      simp -implicitDefEqProofs [q_ref24_Put_L26, q_ref24_Put_23, q_ref24_Put_26, e8, e9, wi]
      exact lp_next (i + 1) ⟨by omega, by simp [e1], by simp, by simpa [e5] using hv3⟩ (by omega)
  · have hie : i = r.list.length := by omega
    subst hie
    rw [List.take_length] at hv
    have hee : LE ++ r.list.flatten = enc r := by
      rw [← hLE, ← hLD, ← hLC, ← hLB, ← hLA, ← hfb]
      simp [enc]
    rw [hee] at hv
    simp -implicitDefEqProofs [q_ref24_Put_L27, q_ref24_Put_21, q_ref24_Put_27, e1, e5, e8, xx]
    refine hR _ _ _ ?_
    have hv0 := hv.base (H0_sub _)
    have := SlS_finP (F := fun v => .tuple [v, .int .i64 (errR r)]) hv0
    rw [he] at this
    simpa -implicitDefEqProofs [fpost, a_ref24_Put, outOf, hv.scl.agg, he] using this
end Go.Proofs.Ytfdckjliinpjiaa
