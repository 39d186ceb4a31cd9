/- The walk of parcel.Put. -/
import Derived.Test.YtfdckjliinpjiaaUb
import Derived.Test.YtfdckjliinpjiaaUa
import Derived.Test.YtfdckjliinpjiaaGparcel
namespace Go.Proofs.Ytfdckjliinpjiaa
open Go AVL
attribute [-simp] AV.isAgg aappI aapp alen shp good comps
set_option linter.unusedVariables false
set_option linter.unusedSimpArgs false
set_option maxRecDepth 8000

def adrV (a : List Nat) : AV := .iarr .u8 32 (ints a)
def adrs (L : List (List Nat)) : List AV := L.map adrV
@[simp] theorem adrs_length (L : List (List Nat)) : (adrs L).length = L.length := by simp [adrs]
theorem adrs_getE {L : List (List Nat)} {i : Nat} (h : i < (adrs L).length) : (adrs L)[i] = adrV (L[i]'(by simpa using h)) := by simp [adrs]
def reqC (r : Rq) (tv lv : AV) : List AV := [.int .i64 r.op, .str (sN r.name), .str (sN r.actor), .str (sN r.note), .int .i64 r.n, .bool r.ev, .bool r.pr, tv, .iarr .u8 32 (ints r.addr), lv]
def reqV (r : Rq) : AV := .agg (reqC r (.isl .u8 (ints r.text)) (.dsl 32 (adrs r.list)))
section
variable {B : Heap} {K Kp : AV → Heap → Prop}
theorem w_parcel_mark : Gives Try.prog F_parcel_mark [] (.iarr .u8 2 (ints [82, 1])) := by
  refine v_parcel_mark (by simp) ?_
  simp -implicitDefEqProofs [a_parcel_mark, q_parcel_mark_0, q_parcel_mark_1, outOf, ints, shp, intsQ]
theorem throw_call {c : Int} (h : Kp (faultV c) B) : SimX Try.prog F_trap_Throw [.int .i64 c] B (outK K Kp) :=
  (w_Throw c).call (.cons (.refl _) rfl .nil) (fun o ho => by subst ho; rfl) fun o ho => by subst ho; exact h
theorem w_parcel_text {s : List Nat} {most : Nat} (hs : Bytes s) (hm : most < 60000) (hk : s.length ≤ most → ∀ v B', SlS T_uint8 .u8 v (ints (tx s)) B B' → K v B') (hp : most < s.length → Kp (faultV 15) B) :
    SimX Try.prog F_parcel_text [.str (sN s), .int .i64 most] B (outK K Kp) := by
  refine j_parcel_text (by simp) ?_
  by_cases h : s.length ≤ most
  · have h' : ¬ (most : Int) < s.length := by omega
    have wu : IntKind.u64.wrap (s.length : Int) = (s.length : Int) := wrap_u64 (by omega)
    simp -implicitDefEqProofs [a_parcel_text, q_parcel_text_0, q_parcel_text_1, q_parcel_text_3, h', wu]
    refine (w_word_Put (n := s.length) (m := 2) (by omega) (by decide)).call (.cons (.refl _) rfl (.cons (.refl _) rfl .nil)) rfl fun g hg => ?_
    simp -implicitDefEqProofs
    refine (SlS.one (e := T_uint8) (l := ints (le 2 s.length)) (n := 2) hg (by simp)).appS (ys := ints s) (Sub_refl _) (fun Q hQ => srcI_str Q (by rw [bytesI_sN hs]; exact hQ)) (by simp; omega) fun v' C' h' hag => ?_
    simp -implicitDefEqProofs [hag, outOf]
    exact hk h v' C' (by simpa [tx] using h')
  · have h' : (most : Int) < s.length := by omega
    simp -implicitDefEqProofs [a_parcel_text, q_parcel_text_0, q_parcel_text_1, q_parcel_text_2, h']
    refine throw_call ?_
    simp -implicitDefEqProofs
    exact hp (by omega)
/-- What of a request is written ahead of its names; of it with so many of them. -/
def encN (r : Rq) (i : Nat) : List Nat := [82, 1] ++ le 8 (u64 r.op) ++ (([r.name, r.actor, r.note].take i).map tx).flatten
theorem flat32 {l : List (List Nat)} (h : ∀ a ∈ l, a.length = 32) : ∀ i, ((l.take i).flatten).length ≤ 32 * i
  | 0 => by simp
  | i + 1 => by
    have ih := flat32 h i
    by_cases hi : i < l.length
    · rw [List.take_succ_eq_append_getElem hi, List.flatten_append, List.length_append]
      have := h _ (List.getElem_mem hi)
      simp only [List.flatten_cons, List.flatten_nil, List.append_nil]
      omega
    · rw [List.take_of_length_le (by omega)] at ih ⊢
      omega
def NB (r : Rq) (i : Nat) : Prop := (0 < i → r.name.length ≤ 63) ∧ (1 < i → r.actor.length ≤ 63) ∧ (2 < i → r.note.length ≤ 63)
theorem w_parcel_put {r : Rq} (hr : r.Wf) (hk : errR r = 0 → ∀ v B', SlS T_uint8 .u8 v (ints (enc r)) B B' → K v B') (hp : errR r ≠ 0 → ∀ B', B.Sub B' → Kp (faultV (errR r)) B') :
    SimX Try.prog F_parcel_put [reqV r] B (outK K Kp) := by
  refine j_parcel_put (by simp) ?_
  simp -implicitDefEqProofs [a_parcel_put, q_parcel_put_0, q_parcel_put_1, reqV, reqC]
  intro g1 h1
  refine w_parcel_mark.call .nil rfl ?_
  simp -implicitDefEqProofs
  intro g3 n3 n3' h3
  have wop : IntKind.u64.wrap r.op = ((u64 r.op : Nat) : Int) := wrap_u64s
  simp -implicitDefEqProofs [q_parcel_put_2, n3, n3', wop]
  refine (w_word_Put (n := u64 r.op) (m := 8) (u64_lt _) (by decide)).call (.cons (.refl _) rfl (.cons (.refl _) rfl .nil)) rfl fun g17 h17 => ?_
  simp -implicitDefEqProofs
  simp only [set_none] at h17
  obtain ⟨m3, m3', m1, m1', hB17⟩ := h17
  obtain ⟨c1, hc1⟩ : ∃ c, Cont.var 26 [.int .i64 r.op, .str (sN r.name), .str (sN r.actor), .str (sN r.note), .int .i64 r.n, .bool r.ev, .bool r.pr, .isl .u8 (ints r.text), .iarr .u8 32 (ints r.addr), .dsl 32 (adrs r.list)] = c := ⟨_, rfl⟩
  rw [hc1]
  have hB1 : B.Sub (B.set g1 c1) := sub_none h1
  obtain ⟨B1, hB1e⟩ : ∃ X, B.set g1 c1 = X := ⟨_, rfl⟩
  have b1 : B1 g1 = some c1 := by rw [← hB1e]; simp
  have b3 : B1 g3 = none := by rw [← hB1e]; simp [n3, n3', h3]
  have b17 : B1 g17 = none := by rw [← hB1e]; simp [m1, m1', hB17]
  rw [hB1e] at hB1 ⊢
  refine aappI_arr (k := .u8) (l := ints [82, 1]) (ys := ints (le 8 (u64 r.op))) (t := 141) (us := [.iarr .u8 2 (ints [82, 1])]) (by simp [m3, m3']) rfl (by simp) (srcI_row set_eq' (by simp)) (by simp) (by simp) fun v C hv hva => ?_
  have hv := (hv.base (sub_new (sub_none b3) (by simp [m3, m3', b17])))
  clear hB1e n3 n3' h3 m3 m3' m1 m1' hB17 b3 b17
  have hv0 : SlS T_uint8 .u8 v (ints (encN r 0)) B1 C := by simpa [encN] using hv
  have x1 := hv.sub _ _ b1
  have hx1 := x1
  rw [← hc1] at hx1
  simp -implicitDefEqProofs [q_parcel_put_3, hx1]
  have hnl : ∀ i, (encN r i).length ≤ 10 + 3 * 70 ∨ 63 < r.name.length ∨ 63 < r.actor.length ∨ 63 < r.note.length := fun i => by
    by_cases h : 63 < r.name.length ∨ 63 < r.actor.length ∨ 63 < r.note.length
    · exact .inr h
    · left
      have : (([r.name, r.actor, r.note].take i).map tx).flatten.length ≤ 3 * 70 := by
        match i with
        | 0 => simp
        | 1 => simp [tx]; omega
        | 2 => simp [tx]; omega
        | n + 3 => simp [tx]; omega
      simp only [encN, List.length_append, le_length, List.length_cons, List.length_nil]; omega
  have hex : ∀ {s : List Nat}, (s = r.name ∨ s = r.actor ∨ s = r.note ∨ (s = r.text ∧ 2049 < s.length)) → 63 < s.length → errR r = 15 := fun h hl => by
    unfold errR
    rw [if_pos]
    rcases h with rfl | rfl | rfl | ⟨rfl, h2⟩
    · exact .inl hl
    · exact .inr (.inl hl)
    · exact .inr (.inr (.inl hl))
    · exact .inr (.inr (.inr h2))
  refine X_lp (fun (i : Nat) env X => i ≤ 3 ∧ env 1 = .ptr g1 0 ∧ env 25 = .agg [.str (sN r.name), .str (sN r.actor), .str (sN r.note)] ∧ env 26 = .int .i64 i ∧ SlS T_uint8 .u8 (env 4) (ints (encN r i)) B1 X ∧ (encN r i).length ≤ 10 + i * 65 ∧ NB r i) (fun i => 3 - i) 0
    ⟨by omega, by simp, by simp, by simp, by simpa using hv0, by simp [encN], by simp [NB]⟩ ?_
  clear hv hv0 x1 hx1 hva
  rintro i env X ⟨hi, e1, e25, e26, hv, hlen, hnb⟩
  have x1 := hv.sub _ _ b1
  have hx1 := x1
  rw [← hc1] at hx1
  obtain ⟨v, e4⟩ : ∃ v, env 4 = v := ⟨_, rfl⟩
  rw [e4] at hv
  by_cases hi3 : i < 3
  · obtain ⟨s, rr, hnbs, hsB, hse, henc, hD, hT⟩ : ∃ s rr, (s.length ≤ 63 → NB r (i + 1)) ∧ Bytes s ∧ (s = r.name ∨ s = r.actor ∨ s = r.note) ∧ encN r (i + 1) = encN r i ++ tx s ∧ dropC [.str (sN r.name), .str (sN r.actor), .str (sN r.note)] i = some rr ∧ takeC rr 1 = some [.str (sN s)] := by
      rcases (by omega : i = 0 ∨ i = 1 ∨ i = 2) with rfl | rfl | rfl
      · exact ⟨r.name, _, fun h => ⟨fun _ => h, by omega, by omega⟩, hr.name, .inl rfl, by simp [encN], rfl, rfl⟩
      · exact ⟨r.actor, _, fun h => ⟨fun _ => hnb.1 (by omega), fun _ => h, by omega⟩, hr.actor, .inr (.inl rfl), by simp [encN], rfl, rfl⟩
      · exact ⟨r.note, _, fun h => ⟨fun _ => hnb.1 (by omega), fun _ => hnb.2.1 (by omega), fun _ => h⟩, hr.note, .inr (.inr rfl), by simp [encN], rfl, rfl⟩
    have hi3' : (i : Int) < 3 := by omega
    have wi : IntKind.i64.wrap ((i : Int) + 1) = (i : Int) + 1 := wrap_i64 (by omega)
    simp -implicitDefEqProofs [q_parcel_put_L8, q_parcel_put_4, q_parcel_put_5, q_parcel_put_6, e4, e25, e26, hi3, hi3', hD, hT]
    refine w_parcel_text (most := 63) hsB (by decide) (fun hs63 v' C hC => ?_) fun hs63 => ?_
    · simp -implicitDefEqProofs
      refine hv.appS hC.sub (hC.src (Sub_refl _)) (by simp [tx]; omega) fun v2 C2 hv2 hag2 => ?_
      simp -implicitDefEqProofs [q_parcel_put_7, e26, wi]
      have hv3 : SlS T_uint8 .u8 v2 (ints (encN r (i + 1))) B1 C2 := by rw [henc]; simpa using hv2
      exact lp_next (i + 1) ⟨by omega, by simp [e1], by simp [e25], by simp, by simpa using hv3, by rw [henc]; simp [tx]; omega, hnbs hs63⟩ (by omega)
    · have he := hex (s := s) (by rcases hse with h | h | h <;> simp [h]) hs63
      simp -implicitDefEqProofs
      have := hp (by rw [he]; decide) _ (sub_tr hB1 hv.sub)
      rw [he] at this; exact this
  · have hie : i = 3 := by omega
    subst hie
    have wn : IntKind.u64.wrap r.n = ((u64 r.n : Nat) : Int) := wrap_u64s
    simp -implicitDefEqProofs [q_parcel_put_L8, q_parcel_put_4, q_parcel_put_8, e1, e4, e26, hx1, wn]
    refine (w_word_Put (n := u64 r.n) (m := 8) (u64_lt _) (by decide)).call (.cons (.refl _) rfl (.cons (.refl _) rfl .nil)) rfl fun g38 h38 => ?_
    simp -implicitDefEqProofs
    refine hv.appS (ys := ints (le 8 (u64 r.n))) (sub_none h38) (srcI_row set_eq' (by simp)) (by simp; omega) fun v2 C2 hv2 hag2 => ?_
    have x2 := hv2.sub _ _ b1
    rw [← hc1] at x2
    obtain ⟨LA, hLA⟩ : ∃ L, encN r 3 ++ le 8 (u64 r.n) = L := ⟨_, rfl⟩
    have hlA : LA.length ≤ 300 := by rw [← hLA]; simp; omega
    rw [ints_append, hLA] at hv2
    clear hv x1 hx1 h38
    simp -implicitDefEqProofs [q_parcel_put_9, q_parcel_put_10, e1, x2]
    refine X_lp (fun (i : Nat) env X => i ≤ 2 ∧ env 1 = .ptr g1 0 ∧ env 4 = v2 ∧ env 7 = .int .u8 (flg (r.ev && decide (0 < i)) (r.pr && decide (1 < i)) : Nat) ∧ env 44 = .agg [.bool r.ev, .bool r.pr] ∧ env 45 = .int .i64 i ∧ X = C2) (fun i => 2 - i) 0
      ⟨by omega, by simp [e1], by simp, by simp [flg], by simp, by simp, rfl⟩ ?_
    clear e1 e4 e25 e26
    rintro i env X ⟨hi, e1, e4, e7, e44, e45, rfl⟩
    by_cases hi2 : i < 2
    · have w1 : IntKind.i64.wrap 1 = 1 := by decide
      have w2 : IntKind.i64.wrap 2 = 2 := by decide
      rcases (by omega : i = 0 ∨ i = 1) with rfl | rfl
      · cases hev : r.ev
        · rw [hev] at e7 e44
          simp -implicitDefEqProofs [q_parcel_put_L16, q_parcel_put_11, q_parcel_put_12, q_parcel_put_13, q_parcel_put_15, e1, e4, e44, e45, w1]
          exact lp_next 1 ⟨by omega, by simp [e1], by simp [e4], by simp [e7, flg], by simp [e44], by simp, rfl⟩ (by omega)
        · rw [hev] at e7 e44
          have f1 : bOr .u8 0 (shlI .u8 1 0) = 1 := by decide
          simp -implicitDefEqProofs [q_parcel_put_L16, q_parcel_put_11, q_parcel_put_12, q_parcel_put_13, q_parcel_put_14, q_parcel_put_15, e1, e4, e7, e44, e45, w1, flg, f1]
          exact lp_next 1 ⟨by omega, by simp [e1], by simp [e4], by simp, by simp [e44], by simp, rfl⟩ (by omega)
      · cases hpr : r.pr
        · rw [hpr] at e7 e44
          simp -implicitDefEqProofs [q_parcel_put_L16, q_parcel_put_11, q_parcel_put_12, q_parcel_put_13, q_parcel_put_15, e1, e4, e44, e45, w2]
          exact lp_next 2 ⟨by omega, by simp [e1], by simp [e4], by simp [e7, flg], by simp [e44], by simp, rfl⟩ (by omega)
        · rw [hpr] at e7 e44
          have f2 : bOr .u8 0 (shlI .u8 1 1) = 2 := by decide
          have f3 : bOr .u8 1 (shlI .u8 1 1) = 3 := by decide
          cases hev : r.ev
          · rw [hev] at e7 e44
            simp -implicitDefEqProofs [q_parcel_put_L16, q_parcel_put_11, q_parcel_put_12, q_parcel_put_13, q_parcel_put_14, q_parcel_put_15, e1, e4, e7, e44, e45, w2, flg, f2]
            exact lp_next 2 ⟨by omega, by simp [e1], by simp [e4], by simp, by simp [e44], by simp, rfl⟩ (by omega)
          · rw [hev] at e7 e44
            simp -implicitDefEqProofs [q_parcel_put_L16, q_parcel_put_11, q_parcel_put_12, q_parcel_put_13, q_parcel_put_14, q_parcel_put_15, e1, e4, e7, e44, e45, w2, flg, f3]
            exact lp_next 2 ⟨by omega, by simp [e1], by simp [e4], by simp, by simp [e44], by simp, rfl⟩ (by omega)
    · have hie : i = 2 := by omega
      subst hie
      have hfl := flg_lt r.ev r.pr
      have e7' : env 7 = .int .u8 (flg r.ev r.pr : Nat) := by rw [e7]; simp
      obtain ⟨fb, hfb⟩ : ∃ fb, flg r.ev r.pr = fb := ⟨_, rfl⟩
      rw [hfb] at e7' hfl
      simp -implicitDefEqProofs [q_parcel_put_L16, q_parcel_put_11, q_parcel_put_16, e1, e4, e7', e45, x2]
      intro g57 h57
      have n57 := fresh_ne x2 h57
      refine hv2.appS (ys := [(fb : Int)]) (sub_none h57) (srcI_row set_eq' rfl) (by simp; omega) fun v3 C3 hv3 hag3 => ?_
      have x3 := hv3.sub _ _ b1
      rw [← hc1] at x3
      simp -implicitDefEqProofs [n57, x2, x3]
      rw [strOf_ints]
      refine w_parcel_text (most := 2049) hr.text (by decide) (fun ht v4 C4 hC4 => ?_) fun ht => ?_
      case refine_2 =>
        have he := hex (s := r.text) (.inr (.inr (.inr ⟨rfl, ht⟩))) (by omega)
        simp -implicitDefEqProofs
        have := hp (by rw [he]; decide) _ (sub_tr hB1 hv3.sub)
        rw [he] at this; exact this
      simp -implicitDefEqProofs
      refine hv3.appS hC4.sub (hC4.src (Sub_refl _)) (by simp [tx]; omega) fun v5 C5 hv5 hag5 => ?_
      have x5 := hv5.sub _ _ b1
      rw [← hc1] at x5
      have hadl : r.addr.length = 32 := hr.addr.2
      obtain ⟨LB, hLB⟩ : ∃ L, LA ++ [fb] ++ tx r.text = L := ⟨_, rfl⟩
      have hlB : LB.length ≤ 3000 := by rw [← hLB]; simp [tx]; omega
      have hv5' : SlS T_uint8 .u8 v5 (ints LB) B1 C5 := by rw [← hLB]; simpa [ints] using hv5
      have hne : ¬ (63 < r.name.length ∨ 63 < r.actor.length ∨ 63 < r.note.length ∨ 2049 < r.text.length) := by
        have n1 := hnb.1 (by decide); have n2 := hnb.2.1 (by decide); have n3 := hnb.2.2 (by decide)
        omega
      clear hv3 hv5 h57 x3
      simp -implicitDefEqProofs [q_parcel_put_17, e1, x5]
      refine hv5'.appS (ys := ints r.addr) (Sub_refl _) (srcI_asl x5 (by simp [getI]) (by simpa using hadl)) (by simp; omega) fun v6 C6 hv6 hag6 => ?_
      have x6 := hv6.sub _ _ b1
      rw [← hc1] at x6
      obtain ⟨LC, hLC⟩ : ∃ L, LB ++ r.addr = L := ⟨_, rfl⟩
      have hlC : LC.length ≤ 3100 := by rw [← hLC]; simp; omega
      rw [ints_append, hLC] at hv6
      simp -implicitDefEqProofs [q_parcel_put_18, e1, x6]
      by_cases h15 : 15 < r.list.length
      · have h15' : 15 < (r.list.length : Int) := by omega
        have he : errR r = 7 := by unfold errR; rw [if_neg hne, if_pos h15]
        have h15n : ¬ (r.list.length : Int) ≤ 15 := by omega
        simp -implicitDefEqProofs [h15, h15', h15n, q_parcel_put_19]
        refine throw_call ?_
        simp -implicitDefEqProofs
        have := hp (by rw [he]; decide) _ (sub_tr hB1 hv6.sub)
        rw [he] at this; exact this
      have h15' : ¬ 15 < (r.list.length : Int) := by omega
      have he : errR r = 0 := by unfold errR; rw [if_neg hne, if_neg h15]
      have wl : IntKind.u8.wrap (r.list.length : Int) = (r.list.length : Int) := wrap_u8 (by omega)
      have h15n : (r.list.length : Int) ≤ 15 := by omega
      simp -implicitDefEqProofs [h15, h15', h15n, q_parcel_put_20, e1, x6, wl]
      intro g78 h78
      have n78 := fresh_ne x6 h78
      refine hv6.appS (ys := [(r.list.length : Int)]) (sub_none h78) (srcI_row set_eq' rfl) (by simp; omega) fun v7 C7 hv7 hag7 => ?_
      have x7 := hv7.sub _ _ b1
      rw [← hc1] at x7
      simp -implicitDefEqProofs [q_parcel_put_21, e1, x7]
      have hlf : ∀ i, ((r.list.take i).flatten).length ≤ 32 * i := flat32 fun a ha => (hr.list a ha).2
      refine X_lp (fun (i : Nat) env Y => i ≤ r.list.length ∧ env 1 = .ptr g1 0 ∧ env 81 = .dsl 32 (adrs r.list) ∧ env 82 = .int .i64 r.list.length ∧ env 83 = .int .i64 i ∧ SlS T_uint8 .u8 (env 4) (ints (LC ++ [r.list.length] ++ (r.list.take i).flatten)) B1 Y) (fun i => r.list.length - i) 0
        ⟨by omega, by simp [e1], by simp, by simp, by simp, by simpa [ints] using hv7⟩ ?_
      clear hv5' hv6 hv7 x5 x6 x7 h78 e1 e4 e7 e7' e44 e45
      rintro i env Y ⟨hi, e1, e81, e82, e83, hv⟩
      obtain ⟨v, e4⟩ : ∃ v, env 4 = v := ⟨_, rfl⟩
      rw [e4] at hv
      by_cases hil : i < r.list.length
      · have hil' : (i : Int) < r.list.length := by omega
        have wi : IntKind.i64.wrap ((i : Int) + 1) = (i : Int) + 1 := wrap_i64 (by omega)
        have ha := (hr.list _ (List.getElem_mem hil)).2
        have hft : (r.list.take (i + 1)).flatten = (r.list.take i).flatten ++ r.list[i] := by rw [List.take_succ_eq_append_getElem hil, List.flatten_append]; simp
        have hli := hlf i
        simp -implicitDefEqProofs [q_parcel_put_L26, q_parcel_put_22, q_parcel_put_23, q_parcel_put_24, e4, e81, e82, e83, hil, hil', adrs_getE, adrV, ha]
        intro g11 h11
        refine hv.appS (ys := ints r.list[i]) (sub_none h11) (srcI_asl (us := [.iarr .u8 32 (ints r.list[i])]) set_eq' (by simp [getI]) (by simpa using ha)) (by have h1 := hlf i; simp only [ints_length, List.length_append, List.length_cons, List.length_nil]; omega) fun v8 C8 hv8 hag8 => ?_
        have hv9 : SlS T_uint8 .u8 v8 (ints (LC ++ [r.list.length] ++ (r.list.take (i + 1)).flatten)) B1 C8 := by rw [hft]; simpa using hv8
        simp -implicitDefEqProofs [q_parcel_put_25, e83, wi]
        exact lp_next (i + 1) ⟨by omega, by simp [e1], by simp [e81], by simp [e82], by simp, by simpa using hv9⟩ (by omega)
      · have hie : i = r.list.length := by omega
        subst hie
        rw [List.take_length] at hv
        have hee : LC ++ [r.list.length] ++ r.list.flatten = enc r := by
          rw [← hLC, ← hLB, ← hLA, ← hfb]
          simp [enc, encN]
        rw [hee] at hv
        simp -implicitDefEqProofs [q_parcel_put_L26, q_parcel_put_22, q_parcel_put_26, e4, e81, e82, e83, hv.scl.agg, outOf]
        exact hk he v Y (hv.base hB1)
theorem w_parcel_Put {r : Rq} (hr : r.Wf) : MakesP Try.prog F_parcel_Put [reqV r] (fun v => .tuple [v, .int .i64 (errR r)]) T_uint8 .u8 (if errR r = 0 then ints (enc r) else []) := by
  refine i_parcel_Put (by simp) fun R hR => ?_
  simp -implicitDefEqProofs [a_parcel_Put, q_parcel_Put_0, q_parcel_Put_1, reqV, reqC, pop]
  intro g1
  obtain ⟨c1, hc1⟩ : ∃ c, Cont.var 26 [.int .i64 r.op, .str (sN r.name), .str (sN r.actor), .str (sN r.note), .int .i64 r.n, .bool r.ev, .bool r.pr, .isl .u8 (ints r.text), .iarr .u8 32 (ints r.addr), .dsl 32 (adrs r.list)] = c := ⟨_, rfl⟩
  rw [hc1]
  refine w_Try_byte k_parcel_Put_1 (if errR r = 0 then .ok (ints (enc r)) else .error (errR r)) (fun c hc => ?_) (fun B K1 Kp1 hs h1 h2 => ?_) (fun l hl v B' hv => ?_) (fun c hc B' hs => ?_)
  · split at hc
    · cases hc
    · injection hc with hc; subst hc; assumption
  · refine j_parcel_Put_1 (by simp) ?_
    have b1 := hs g1 _ set_eq'
    rw [← hc1] at b1
    simp -implicitDefEqProofs [a_parcel_Put_1, q_parcel_Put_1_0, q_parcel_Put_1_1, b1]
    refine w_parcel_put hr (fun he v B' hv => ?_) fun he B' hb => ?_
    · simp -implicitDefEqProofs [outOf]
      exact h1 _ (by rw [if_pos he]) v B' hv
    · simp -implicitDefEqProofs
      exact h2 _ (by rw [if_neg he]) B' hb
  · split at hl
    · rename_i he
      injection hl with hl; subst hl
      simp -implicitDefEqProofs [hv.scl.agg]
      refine hR _ _ _ ?_
      have hv0 := hv.base (H0_sub _)
      have := SlS_finP (F := fun v => .tuple [v, .int .i64 (errR r)]) hv0
      rw [he] at this ⊢
      simpa -implicitDefEqProofs [fpost, a_parcel_Put, outOf] using this
    · cases hl
  · split at hc
    · cases hc
    · rename_i he
      injection hc with hc; subst hc
      simp -implicitDefEqProofs
      refine hR _ _ _ ?_
      simp -implicitDefEqProofs [fpost, a_parcel_Put, outOf, he]
end
end Go.Proofs.Ytfdckjliinpjiaa
