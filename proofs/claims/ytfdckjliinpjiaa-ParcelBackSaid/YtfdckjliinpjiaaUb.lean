/- Requests as bytes, plainly: there and back. -/
import Derived.Test.YtfdckjliinpjiaaWb
import Derived.Test.YtfdckjliinpjiaaVst
namespace Go.Proofs.Ytfdckjliinpjiaa
open Go AVL
set_option linter.unusedVariables false
set_option linter.unusedSimpArgs false

structure Rq where
  op : Int
  name : List Nat
  actor : List Nat
  note : List Nat
  n : Int
  ev : Bool
  pr : Bool
  text : List Nat
  addr : List Nat
  list : List (List Nat)
  deriving DecidableEq
def I64 (n : Int) : Prop := -9223372036854775808 ≤ n ∧ n < 9223372036854775808
def Adr (a : List Nat) : Prop := Bytes a ∧ a.length = 32
/-- What any request is. -/
structure Rq.Wf (r : Rq) : Prop where
  op : I64 r.op
  n : I64 r.n
  name : Bytes r.name
  actor : Bytes r.actor
  note : Bytes r.note
  text : Bytes r.text
  addr : Adr r.addr
  list : ∀ a ∈ r.list, Adr a
def u64 (n : Int) : Nat := (n % 18446744073709551616).toNat
def s64 (n : Nat) : Int := if n < 9223372036854775808 then n else (n : Int) - 18446744073709551616
theorem u64_lt (n : Int) : u64 n < 2 ^ 64 := by unfold u64; omega
theorem s64_u64 {n : Int} (h : I64 n) : s64 (u64 n) = n := by unfold s64 u64; unfold I64 at h; split <;> omega
theorem u64_s64 {n : Nat} (h : n < 2 ^ 64) : u64 (s64 n) = n := by unfold s64 u64; split <;> omega
theorem s64_I64 {n : Nat} (h : n < 2 ^ 64) : I64 (s64 n) := by unfold s64 I64; split <;> omega
theorem wrap_u64s {n : Int} : IntKind.u64.wrap n = (u64 n : Int) := by rw [wrap_u64m]; unfold u64; omega
theorem wrap_i64s {n : Nat} (h : n < 2 ^ 64) : IntKind.i64.wrap (n : Int) = s64 n := by
  simp [IntKind.wrap, IntKind.signed, IntKind.bits]
  unfold s64
  split <;> split <;> omega
def tx (s : List Nat) : List Nat := le 2 s.length ++ s
def flg (e p : Bool) : Nat := (if e then 1 else 0) + (if p then 2 else 0)
def enc (r : Rq) : List Nat := [82, 1] ++ le 8 (u64 r.op) ++ tx r.name ++ tx r.actor ++ tx r.note ++ le 8 (u64 r.n) ++ [flg r.ev r.pr] ++ tx r.text ++ r.addr ++ [r.list.length] ++ r.list.flatten
def errR (r : Rq) : Int := if 63 < r.name.length ∨ 63 < r.actor.length ∨ 63 < r.note.length ∨ 2049 < r.text.length then 15 else if 15 < r.list.length then 7 else 0
/-! reading -/
def takeD (n : Nat) (b : List Nat) : Option (List Nat × List Nat) := if b.length < n then none else some (b.take n, b.drop n)
def numD (n : Nat) (b : List Nat) : Option (Nat × List Nat) := (takeD n b).map fun p => (leN p.1, p.2)
def textD (most : Nat) (b : List Nat) : Option (List Nat × List Nat) := (numD 2 b).bind fun p => if most < p.1 then none else takeD p.1 p.2
def addrsD : Nat → List Nat → Option (List (List Nat) × List Nat)
  | 0, b => some ([], b)
  | k + 1, b => (takeD 32 b).bind fun p => (addrsD k p.2).map fun q => (p.1 :: q.1, q.2)
def dec (b : List Nat) : Option Rq :=
  (takeD 2 b).bind fun m => if m.1 ≠ [82, 1] then none else
  (numD 8 m.2).bind fun o => (textD 63 o.2).bind fun nm => (textD 63 nm.2).bind fun ac => (textD 63 ac.2).bind fun no =>
  (numD 8 no.2).bind fun n => (numD 1 n.2).bind fun f => (textD 2049 f.2).bind fun t => (takeD 32 t.2).bind fun a => (numD 1 a.2).bind fun k =>
  if 3 < f.1 ∨ 15 < k.1 then none else (addrsD k.1 k.2).bind fun l => if 0 < l.2.length then none else
  some ⟨s64 o.1, nm.1, ac.1, no.1, s64 n.1, f.1 % 2 = 1, f.1 / 2 % 2 = 1, t.1, a.1, l.1⟩
theorem takeD_iff {n : Nat} {b x r : List Nat} : takeD n b = some (x, r) ↔ x.length = n ∧ b = x ++ r := by
  unfold takeD
  constructor
  · intro h
    split at h
    · cases h
    · injection h with h; injection h with h1 h2
      subst h1 h2
      refine ⟨by simp; omega, by simp⟩
  · rintro ⟨h1, rfl⟩
    subst h1
    simp
theorem numD_iff {n : Nat} {b r : List Nat} {x : Nat} (hb : Bytes b) : numD n b = some (x, r) ↔ x < 256 ^ n ∧ b = le n x ++ r := by
  unfold numD
  constructor
  · intro h
    obtain ⟨⟨y, s⟩, h1, h2⟩ := Option.map_eq_some_iff.1 h
    injection h2 with h2 h3
    subst h2 h3
    obtain ⟨h4, rfl⟩ := takeD_iff.1 h1
    have hy : Bytes y := fun z hz => hb z (by simp [hz])
    subst h4
    exact ⟨leN_lt y hy, by rw [le_leN y hy]⟩
  · rintro ⟨h1, rfl⟩
    rw [Option.map_eq_some_iff]
    exact ⟨(le n x, r), takeD_iff.2 ⟨by simp, rfl⟩, by simp only [leN_le n x h1]⟩
theorem textD_iff {most : Nat} (hm : most < 65536) {b x r : List Nat} (hb : Bytes b) : textD most b = some (x, r) ↔ x.length ≤ most ∧ b = tx x ++ r := by
  unfold textD
  constructor
  · intro h
    obtain ⟨⟨n, s⟩, h1, h2⟩ := Option.bind_eq_some_iff.1 h
    simp only at h2
    split at h2
    · cases h2
    · obtain ⟨h3, rfl⟩ := (numD_iff hb).1 h1
      obtain ⟨h4, rfl⟩ := takeD_iff.1 h2
      subst h4
      exact ⟨by omega, by simp [tx]⟩
  · rintro ⟨h1, rfl⟩
    rw [Option.bind_eq_some_iff]
    refine ⟨(x.length, x ++ r), (numD_iff hb).2 ⟨by simp; omega, by simp [tx]⟩, ?_⟩
    simp only
    rw [if_neg (by omega)]
    exact takeD_iff.2 ⟨rfl, rfl⟩
theorem addrsD_iff : ∀ {k : Nat} {b r : List Nat} {l : List (List Nat)}, addrsD k b = some (l, r) ↔ l.length = k ∧ (∀ a ∈ l, a.length = 32) ∧ b = l.flatten ++ r
  | 0, b, r, l => by
    simp only [addrsD]
    constructor
    · intro h; injection h with h; injection h with h1 h2; subst h1 h2; simp
    · rintro ⟨h1, _, rfl⟩
      have : l = [] := List.eq_nil_of_length_eq_zero h1
      subst this; simp
  | k + 1, b, r, l => by
    simp only [addrsD]
    constructor
    · intro h
      obtain ⟨⟨x, s⟩, h1, h2⟩ := Option.bind_eq_some_iff.1 h
      obtain ⟨⟨y, t⟩, h3, h4⟩ := Option.map_eq_some_iff.1 h2
      injection h4 with h4 h5
      subst h4 h5
      obtain ⟨h6, rfl⟩ := takeD_iff.1 h1
      simp only at h3
      obtain ⟨h7, h8, rfl⟩ := addrsD_iff.1 h3
      refine ⟨by simp [h7], fun a ha => ?_, by simp⟩
      rcases List.mem_cons.1 ha with rfl | ha
      · exact h6
      · exact h8 a ha
    · rintro ⟨h1, h2, rfl⟩
      match l, h1, h2 with
      | a :: l, h1, h2 =>
        rw [Option.bind_eq_some_iff]
        refine ⟨(a, l.flatten ++ r), takeD_iff.2 ⟨h2 a (by simp), by simp⟩, ?_⟩
        rw [Option.map_eq_some_iff]
        exact ⟨(l, r), addrsD_iff.2 ⟨by simpa using h1, fun x hx => h2 x (by simp [hx]), rfl⟩, rfl⟩
theorem flg_lt (e p : Bool) : flg e p < 4 := by cases e <;> cases p <;> decide
theorem flg_of {f : Nat} (h : f < 4) : flg (decide (f % 2 = 1)) (decide (f / 2 % 2 = 1)) = f := by
  have : f = 0 ∨ f = 1 ∨ f = 2 ∨ f = 3 := by omega
  rcases this with rfl | rfl | rfl | rfl <;> rfl
theorem of_flg (e p : Bool) : decide (flg e p % 2 = 1) = e ∧ decide (flg e p / 2 % 2 = 1) = p := by cases e <;> cases p <;> exact ⟨rfl, rfl⟩
/-- A request that can be bytes. -/
def Rq.Fits (r : Rq) : Prop := errR r = 0
theorem fits_iff (r : Rq) : r.Fits ↔ r.name.length ≤ 63 ∧ r.actor.length ≤ 63 ∧ r.note.length ≤ 63 ∧ r.text.length ≤ 2049 ∧ r.list.length ≤ 15 := by
  unfold Rq.Fits errR
  split
  · constructor
    · intro h; cases h
    · omega
  · split
    · constructor
      · intro h; cases h
      · omega
    · constructor
      · intro _; omega
      · intro _; rfl
theorem le1 {n : Nat} (h : n < 256) : le 1 n = [n] := by simp [le, Nat.mod_eq_of_lt h]
theorem bytes_tx {s : List Nat} (h : Bytes s) : Bytes (tx s) := bytes_append (le_bytes _ _) h
theorem bytes_flat {l : List (List Nat)} (h : ∀ a ∈ l, Bytes a) : Bytes l.flatten := fun x hx => by
  obtain ⟨a, ha, hxa⟩ := List.mem_flatten.1 hx
  exact h a ha x hxa
/-- All that is read, told at once. -/
theorem dec_iff {b : List Nat} (hb : Bytes b) (r : Rq) : dec b = some r ↔ r.Wf ∧ r.Fits ∧ b = enc r := by
  unfold dec
  constructor
  · intro h
    obtain ⟨⟨m, b1⟩, h1, hN⟩ := Option.bind_eq_some_iff.1 h
    clear h
    have h := hN
    clear hN
    simp only at h
    by_cases hm : m = [82, 1]
    case neg => rw [if_pos hm] at h; cases h
    rw [if_neg (by simpa using hm)] at h
    subst hm
    obtain ⟨_, rfl⟩ := takeD_iff.1 h1
    have hb1 : Bytes b1 := fun x hx => hb x (by simp [hx])
    obtain ⟨⟨o, b2⟩, h2, hN⟩ := Option.bind_eq_some_iff.1 h
    clear h
    have h := hN
    clear hN
    obtain ⟨ho, rfl⟩ := (numD_iff hb1).1 h2
    have hb2 : Bytes b2 := fun x hx => hb1 x (by simp [hx])
    simp only at h
    obtain ⟨⟨nm, b3⟩, h3, hN⟩ := Option.bind_eq_some_iff.1 h
    clear h
    have h := hN
    clear hN
    obtain ⟨hnm, rfl⟩ := (textD_iff (by decide) hb2).1 h3
    have hb3 : Bytes b3 := fun x hx => hb2 x (by simp [hx])
    have hB3 : Bytes nm := fun x hx => hb2 x (by simp [tx, hx])
    simp only at h
    obtain ⟨⟨ac, b4⟩, h4, hN⟩ := Option.bind_eq_some_iff.1 h
    clear h
    have h := hN
    clear hN
    obtain ⟨hac, rfl⟩ := (textD_iff (by decide) hb3).1 h4
    have hb4 : Bytes b4 := fun x hx => hb3 x (by simp [hx])
    have hB4 : Bytes ac := fun x hx => hb3 x (by simp [tx, hx])
    simp only at h
    obtain ⟨⟨no, b5⟩, h5, hN⟩ := Option.bind_eq_some_iff.1 h
    clear h
    have h := hN
    clear hN
    obtain ⟨hno, rfl⟩ := (textD_iff (by decide) hb4).1 h5
    have hb5 : Bytes b5 := fun x hx => hb4 x (by simp [hx])
    have hB5 : Bytes no := fun x hx => hb4 x (by simp [tx, hx])
    simp only at h
    obtain ⟨⟨n, b6⟩, h6, hN⟩ := Option.bind_eq_some_iff.1 h
    clear h
    have h := hN
    clear hN
    obtain ⟨hn, rfl⟩ := (numD_iff hb5).1 h6
    have hb6 : Bytes b6 := fun x hx => hb5 x (by simp [hx])
    simp only at h
    obtain ⟨⟨f, b7⟩, h7, hN⟩ := Option.bind_eq_some_iff.1 h
    clear h
    have h := hN
    clear hN
    obtain ⟨hf, rfl⟩ := (numD_iff hb6).1 h7
    have hb7 : Bytes b7 := fun x hx => hb6 x (by simp [hx])
    simp only at h
    obtain ⟨⟨t, b8⟩, h8, hN⟩ := Option.bind_eq_some_iff.1 h
    clear h
    have h := hN
    clear hN
    obtain ⟨ht, rfl⟩ := (textD_iff (by decide) hb7).1 h8
    have hb8 : Bytes b8 := fun x hx => hb7 x (by simp [hx])
    have hB8 : Bytes t := fun x hx => hb7 x (by simp [tx, hx])
    simp only at h
    obtain ⟨⟨a, b9⟩, h9, hN⟩ := Option.bind_eq_some_iff.1 h
    clear h
    have h := hN
    clear hN
    obtain ⟨ha, rfl⟩ := takeD_iff.1 h9
    have hb9 : Bytes b9 := fun x hx => hb8 x (by simp [hx])
    have hB9 : Bytes a := fun x hx => hb8 x (by simp [hx])
    simp only at h
    obtain ⟨⟨k, b10⟩, h10, hN⟩ := Option.bind_eq_some_iff.1 h
    clear h
    have h := hN
    clear hN
    obtain ⟨hk, rfl⟩ := (numD_iff hb9).1 h10
    have hb10 : Bytes b10 := fun x hx => hb9 x (by simp [hx])
    simp only at h
    by_cases hfk : 3 < f ∨ 15 < k
    case pos => rw [if_pos hfk] at h; cases h
    rw [if_neg hfk] at h
    obtain ⟨⟨l, b11⟩, h11, hN⟩ := Option.bind_eq_some_iff.1 h
    clear h
    have h := hN
    clear hN
    obtain ⟨hl, hl32, rfl⟩ := addrsD_iff.1 h11
    simp only at h
    by_cases h0 : 0 < b11.length
    case pos => rw [if_pos h0] at h; cases h
    rw [if_neg h0] at h
    injection h with h
    subst h
    have : b11 = [] := List.eq_nil_of_length_eq_zero (by omega)
    subst this
    refine ⟨⟨s64_I64 (by simpa using ho), s64_I64 (by simpa using hn), hB3, hB4, hB5, hB8, ⟨hB9, ha⟩, fun x hx => ⟨fun y hy => hb10 y (by simp; exact ⟨x, hx, hy⟩), hl32 x hx⟩⟩, (fits_iff _).2 ⟨hnm, hac, hno, ht, by show l.length ≤ 15; omega⟩, ?_⟩
    unfold enc
    simp only [u64_s64 (show o < 2 ^ 64 by simpa using ho), u64_s64 (show n < 2 ^ 64 by simpa using hn), flg_of (show f < 4 by omega), hl, le1 (show f < 256 by omega), le1 (show k < 256 by omega), List.append_nil, List.append_assoc]
  · rintro ⟨hw, hf, rfl⟩
    obtain ⟨f1, f2, f3, f4, f5⟩ := (fits_iff r).1 hf
    have step : ∀ {x y : List Nat}, Bytes (x ++ y) → Bytes y := fun h z hz => h z (by simp [hz])
    have e0 : enc r = [82, 1] ++ (le 8 (u64 r.op) ++ (tx r.name ++ (tx r.actor ++ (tx r.note ++ (le 8 (u64 r.n) ++ (le 1 (flg r.ev r.pr) ++ (tx r.text ++ (r.addr ++ (le 1 r.list.length ++ (r.list.flatten ++ [])))))))))) := by
      rw [le1 (by have := flg_lt r.ev r.pr; omega), le1 (by omega)]
      simp [enc]
    rw [e0] at hb ⊢
    have b1 := step hb; have b2 := step b1; have b3 := step b2; have b4 := step b3; have b5 := step b4; have b6 := step b5; have b7 := step b6; have b8 := step b7; have b9 := step b8
    rw [(takeD_iff (n := 2) (x := [82, 1])).2 ⟨rfl, rfl⟩]
    simp only [Option.bind_some, ne_eq, not_true, if_false]
    rw [(numD_iff b1).2 ⟨u64_lt _, rfl⟩]
    simp only [Option.bind_some]
    rw [(textD_iff (by decide) b2).2 ⟨f1, rfl⟩]
    simp only [Option.bind_some]
    rw [(textD_iff (by decide) b3).2 ⟨f2, rfl⟩]
    simp only [Option.bind_some]
    rw [(textD_iff (by decide) b4).2 ⟨f3, rfl⟩]
    simp only [Option.bind_some]
    rw [(numD_iff b5).2 ⟨u64_lt _, rfl⟩]
    simp only [Option.bind_some]
    rw [(numD_iff b6).2 ⟨by have := flg_lt r.ev r.pr; omega, rfl⟩]
    simp only [Option.bind_some]
    rw [(textD_iff (by decide) b7).2 ⟨f4, rfl⟩]
    simp only [Option.bind_some]
    rw [takeD_iff.2 ⟨hw.addr.2, rfl⟩]
    simp only [Option.bind_some]
    rw [(numD_iff b9).2 ⟨by omega, rfl⟩]
    simp only [Option.bind_some]
    have hfl := flg_lt r.ev r.pr
    rw [if_neg (by omega), addrsD_iff.2 ⟨rfl, fun a ha => (hw.list a ha).2, rfl⟩]
    simp only [Option.bind_some, List.length_nil, Nat.lt_irrefl, if_false, s64_u64 hw.op, s64_u64 hw.n, (of_flg r.ev r.pr).1, (of_flg r.ev r.pr).2]
theorem enc_bytes {r : Rq} (hw : r.Wf) (hf : r.Fits) : Bytes (enc r) := by
  obtain ⟨f1, f2, f3, f4, f5⟩ := (fits_iff r).1 hf
  have one : ∀ {x : Nat}, x < 256 → Bytes [x] := fun h y hy => by simp at hy; omega
  unfold enc
  refine bytes_append (bytes_append (bytes_append (bytes_append (bytes_append (bytes_append (bytes_append (bytes_append (bytes_append (bytes_append ?_ (le_bytes _ _)) (bytes_tx hw.name)) (bytes_tx hw.actor)) (bytes_tx hw.note)) (le_bytes _ _)) (one ?_)) (bytes_tx hw.text)) hw.addr.1) (one ?_)) (bytes_flat fun a ha => (hw.list a ha).1)
  · intro y hy; simp at hy; omega
  · have := flg_lt r.ev r.pr; omega
  · omega
theorem dec_enc {r : Rq} (hw : r.Wf) (hf : r.Fits) : dec (enc r) = some r := (dec_iff (enc_bytes hw hf) r).2 ⟨hw, hf, rfl⟩
theorem enc_inj {r s : Rq} (hr : r.Wf) (hs : s.Wf) (fr : r.Fits) (fs : s.Fits) : enc r = enc s ↔ r = s := by
  constructor
  · intro h
    have := dec_enc hr fr
    rw [h, dec_enc hs fs] at this
    injection this with this; exact this.symm
  · rintro rfl; rfl
end Go.Proofs.Ytfdckjliinpjiaa
