/- Layer 3, plain: what is put is got; what is got, put again, is the same. -/
import Derived.Test.YtakmlaliglmnmaaG1Pure
set_option linter.unusedVariables false
set_option linter.unusedSimpArgs false
namespace R1
open Go.Sx

/-! ## numbers -/
theorem be'_eq : ∀ (l : List UInt8) (n : Nat), be' n l = n * 256 ^ l.length + be l
  | [], n => by simp [be', be]
  | c :: r, n => by
    have h1 := be'_eq r (n * 256 + c.toNat)
    have h2 := be'_eq r (0 * 256 + c.toNat)
    show be' (n * 256 + c.toNat) r = _
    have h3 : be (c :: r) = be' (0 * 256 + c.toNat) r := rfl
    rw [h1, h3, h2, List.length_cons, Nat.pow_succ, Nat.add_mul, Nat.mul_assoc, Nat.mul_comm 256 (256 ^ r.length)]
    simp [Nat.add_assoc]
theorem be_cons (c : UInt8) (r : List UInt8) : be (c :: r) = c.toNat * 256 ^ r.length + be r := by
  show be' (0 * 256 + c.toNat) r = _
  rw [be'_eq]; simp
theorem be_hi (m : Nat) : ∀ k, be (hi m k) = m % 256 ^ k
  | 0 => by simp [hi, be, be', Nat.mod_one]
  | k + 1 => by
    rw [hi, be_cons, hi_length, be_hi m k, Nat.pow_succ, Nat.mod_mul]
    have : ((m / 256 ^ k % 256).toUInt8).toNat = m / 256 ^ k % 256 := B1.toUInt8_toNat (Nat.mod_lt _ (by decide))
    rw [this, Nat.mul_comm, Nat.add_comm]
theorem hi_be : ∀ (l : List UInt8) (m : Nat), m % 256 ^ l.length = be l → hi m l.length = l
  | [], m, _ => rfl
  | c :: r, m, h => by
    rw [be_cons, List.length_cons, Nat.pow_succ, Nat.mod_mul] at h
    have hb := be_lt r
    have hp : 0 < 256 ^ r.length := Nat.pow_pos (by decide)
    have hm := Nat.mod_lt m hp
    have h1 : m % 256 ^ r.length = be r := by
      have := congrArg (· % 256 ^ r.length) h
      simp only [Nat.add_mul_mod_self_left] at this
      rw [Nat.mod_eq_of_lt hm, Nat.mul_comm, Nat.add_comm, Nat.add_mul_mod_self_left, Nat.mod_eq_of_lt hb] at this
      exact this
    have h2 : m / 256 ^ r.length % 256 = c.toNat := by
      have : 256 ^ r.length * (m / 256 ^ r.length % 256) = 256 ^ r.length * c.toNat := by
        rw [Nat.mul_comm (256 ^ r.length) c.toNat]; omega
      exact Nat.eq_of_mul_eq_mul_left hp this
    rw [List.length_cons, hi, h2, hi_be r m h1]
    simp

/-! ## keys -/
theorem unesc_esc : ∀ (s r : List UInt8), unesc (esc s ++ 0 :: 0 :: r) = some (s, (esc s).length + 2)
  | [], r => by
    show unesc (0 :: 0 :: r) = _
    rw [unesc, if_neg (by decide), if_neg (by decide), if_pos rfl]; rfl
  | c :: s, r => by
    have ih := unesc_esc s r
    rw [esc]
    by_cases hc : c = 0
    · rw [if_pos hc]
      show unesc (0 :: 255 :: (esc s ++ 0 :: 0 :: r)) = _
      rw [unesc, if_neg (by decide), if_pos rfl, ih, hc]
      simp
    · rw [if_neg hc]
      have hne : ∃ d t, esc s ++ 0 :: 0 :: r = d :: t := by
        cases he : esc s ++ 0 :: 0 :: r with
        | nil => simp at he
        | cons d t => exact ⟨d, t, rfl⟩
      obtain ⟨d, t, hd⟩ := hne
      show unesc (c :: (esc s ++ 0 :: 0 :: r)) = _
      rw [hd] at ih ⊢
      rw [unesc, if_pos hc, ih]
      simp
theorem unesc_canon : ∀ (l s : List UInt8) (n : Nat), unesc l = some (s, n) → l.take n = esc s ++ [0, 0] ∧ n = (esc s).length + 2 := by
  intro l
  induction hk : l.length using Nat.strongRecOn generalizing l with
  | ind k ih =>
    intro s n h
    subst hk
    match l, h with
    | [], h => rw [unesc] at h; cases h
    | [c], h => rw [unesc] at h; cases h
    | c :: d :: r, h =>
      rw [unesc] at h
      split at h
      · rename_i hc
        cases hu : unesc (d :: r) with
        | none => rw [hu] at h; cases h
        | some x =>
          rw [hu] at h
          have := ih _ (by simp only [List.length_cons]; omega) (d :: r) rfl x.1 x.2 hu
          simp only [Option.map_some, Option.some.injEq, Prod.mk.injEq] at h
          obtain ⟨rfl, rfl⟩ := h
          rw [List.take_succ_cons, this.1, esc, if_neg hc]
          exact ⟨rfl, by rw [List.length_cons]; omega⟩
      · rename_i hc
        have hc : c = 0 := by simpa using hc
        split at h
        · rename_i hd
          cases hu : unesc r with
          | none => rw [hu] at h; cases h
          | some x =>
            rw [hu] at h
            have := ih _ (by simp only [List.length_cons]; omega) r rfl x.1 x.2 hu
            simp only [Option.map_some, Option.some.injEq, Prod.mk.injEq] at h
            obtain ⟨rfl, rfl⟩ := h
            rw [List.take_succ_cons, List.take_succ_cons, this.1, esc, if_pos rfl, hc, hd]
            exact ⟨rfl, by rw [List.length_cons, List.length_cons]; omega⟩
        · split at h
          · rename_i hd
            simp only [Option.some.injEq, Prod.mk.injEq] at h
            obtain ⟨rfl, rfl⟩ := h
            rw [hc, hd]; exact ⟨rfl, rfl⟩
          · cases h
theorem sb_mk (l : List UInt8) : sb ⟨l.toArray⟩ = l := by simp [sb]
theorem mk_sb (s : ByteArray) : (⟨(sb s).toArray⟩ : ByteArray) = s := by simp [sb]
theorem empty_of {s : ByteArray} (h : s.size = 0) : s = ByteArray.mk #[] := by
  obtain ⟨a⟩ := s
  have : a.size = 0 := h
  rw [Array.size_eq_zero_iff] at this
  rw [this]
theorem right0 {v : V} (h : right v = true) (hk : v.k = 0) : v = ⟨0, 0, ByteArray.mk #[]⟩ := by
  obtain ⟨k, n, s⟩ := v
  dsimp only at hk; subst hk
  unfold right at h
  rw [if_pos rfl] at h
  have := of_decide_eq_true h
  dsimp only at this
  rw [this.1, empty_of this.2]
theorem right1 {v : V} (h : right v = true) (hk : v.k = 1) : v = ⟨1, v.n, ByteArray.mk #[]⟩ := by
  obtain ⟨k, n, s⟩ := v
  dsimp only at hk; subst hk
  unfold right at h
  rw [if_neg (by simp), if_pos rfl] at h
  have := of_decide_eq_true h
  dsimp only at this ⊢
  rw [empty_of this]
theorem right2 {v : V} (h : right v = true) (h0 : v.k ≠ 0) (h1 : v.k ≠ 1) : (v.k = 2 ∨ v.k = 3) ∧ v.s.size ≤ 65536 ∧ v = ⟨v.k, 0, v.s⟩ := by
  obtain ⟨k, n, s⟩ := v
  unfold right at h
  rw [if_neg h0, if_neg h1] at h
  split at h
  · rename_i hk
    have := of_decide_eq_true h
    dsimp only at this ⊢
    exact ⟨hk, this.2, by rw [this.1]⟩
  · cases h
theorem sb_size (l : List UInt8) : (⟨l.toArray⟩ : ByteArray).size = l.length := by simp [ByteArray.size]
theorem rightT {k : Int} {s : ByteArray} (hk : k = 2 ∨ k = 3) (hs : s.size ≤ 65536) : right ⟨k, 0, s⟩ = true ∧ good ⟨k, 0, s⟩ := by
  refine ⟨?_, ⟨by dsimp only; omega, by dsimp only; omega⟩, by simp only [Go.maxLen]; omega⟩
  unfold right
  rw [if_neg (by dsimp only; omega), if_neg (by dsimp only; omega), if_pos hk]
  exact decide_eq_true ⟨rfl, hs⟩
theorem rightN {n : Int} (h : -9223372036854775808 ≤ n) (h2 : n ≤ 9223372036854775807) : right ⟨1, n, ByteArray.mk #[]⟩ = true ∧ good ⟨1, n, ByteArray.mk #[]⟩ :=
  ⟨rfl, ⟨show (0 : Int) ≤ 1 by decide, show (1 : Int) ≤ 255 by decide⟩, ⟨h, h2⟩, Nat.zero_le _⟩
theorem rightZ : right ⟨0, 0, ByteArray.mk #[]⟩ = true ∧ good ⟨0, 0, ByteArray.mk #[]⟩ := ⟨rfl, ⟨by decide, by decide⟩, ⟨by decide, by decide⟩, by decide⟩
theorem parted_part {v : V} (hr : right v = true) (hg : good v) (r : List UInt8) : partedP (kpart v ++ r) = some (v, (kpart v).length) := by
  unfold kpart
  by_cases h0 : v.k = 0
  · rw [if_pos h0]
    show partedP (1 :: r) = _
    rw [partedP, if_pos rfl, ← right0 hr h0]; rfl
  rw [if_neg h0]
  by_cases h1 : v.k = 1
  · rw [if_pos h1]
    have hl := hi_length (v.n + 9223372036854775808).toNat 8
    have hn := hg.2.1
    show partedP (2 :: (hi _ 8 ++ r)) = _
    rw [partedP, if_neg (by decide), if_pos rfl, if_neg (by simp [hl])]
    have ht : (hi (v.n + 9223372036854775808).toNat 8 ++ r).take 8 = hi (v.n + 9223372036854775808).toNat 8 := List.take_left' hl
    rw [ht, be_hi, Nat.mod_eq_of_lt (by omega), Int.toNat_of_nonneg (by omega), show v.n + 9223372036854775808 - 9223372036854775808 = v.n by omega, ← right1 hr h1]
    simp [hl]
  rw [if_neg h1]
  obtain ⟨hk, hs, hv⟩ := right2 hr h0 h1
  generalize ht : (if v.k = 2 then (3 : UInt8) else 4) = t
  have ht2 : ((t.toNat : Int) - 1 = v.k) ∧ (t = 3 ∨ t = 4) := by
    rcases hk with hk | hk
    · rw [if_pos hk] at ht; subst ht; exact ⟨by rw [hk]; rfl, .inl rfl⟩
    · rw [if_neg (by omega)] at ht; subst ht; exact ⟨by rw [hk]; rfl, .inr rfl⟩
  have : (t :: esc (sb v.s) ++ [0, 0]) ++ r = t :: (esc (sb v.s) ++ 0 :: 0 :: r) := by simp
  rw [this, partedP, if_neg (by rcases ht2.2 with h | h <;> rw [h] <;> decide), if_neg (by rcases ht2.2 with h | h <;> rw [h] <;> decide), if_pos ht2.2, unesc_esc]
  dsimp only
  rw [if_pos (by rw [sb_length]; exact hs), mk_sb, ht2.1, ← hv]
  simp
theorem take_cons_part (t : UInt8) (r : List UInt8) (n : Nat) : (t :: r).take (n + 1) = t :: r.take n := rfl
theorem parted_canon {b : List UInt8} {v : V} {n : Nat} (h : partedP b = some (v, n)) : b.take n = kpart v ∧ n = (kpart v).length ∧ n ≤ b.length ∧ right v = true ∧ good v := by
  suffices hs : b.take n = kpart v ∧ n = (kpart v).length ∧ right v = true ∧ good v by
    refine ⟨hs.1, hs.2.1, ?_, hs.2.2⟩
    have := congrArg List.length hs.1
    rw [List.length_take, ← hs.2.1] at this
    omega
  match b, h with
  | [], h => cases h
  | t :: r, h =>
    rw [partedP] at h
    split at h
    · rename_i ht
      cases h
      refine ⟨?_, rfl, rightZ⟩
      rw [ht]; rfl
    · split at h
      · rename_i ht
        split at h
        · cases h
        · rename_i hl
          simp only [Option.some.injEq, Prod.mk.injEq] at h
          obtain ⟨rfl, rfl⟩ := h
          have htl : (r.take 8).length = 8 := by rw [List.length_take]; omega
          have hb := be_lt (r.take 8)
          rw [htl] at hb
          have hb : be (r.take 8) < 18446744073709551616 := hb
          have hk : kpart ⟨1, (be (r.take 8) : Int) - 9223372036854775808, ByteArray.mk #[]⟩ = 2 :: r.take 8 := by
            unfold kpart
            rw [if_neg (by simp), if_pos rfl]
            dsimp only
            rw [show ((be (r.take 8) : Int) - 9223372036854775808 + 9223372036854775808).toNat = be (r.take 8) by omega]
            have := hi_be (r.take 8) (be (r.take 8)) (Nat.mod_eq_of_lt (by rw [htl]; exact hb))
            rw [htl] at this
            rw [this]
          refine ⟨by rw [hk, ht]; rfl, by rw [hk, List.length_cons, htl], rightN (by omega) (by omega)⟩
      · split at h
        · rename_i ht
          cases hu : unesc r with
          | none => rw [hu] at h; cases h
          | some x =>
            obtain ⟨s, m⟩ := x
            obtain ⟨q1, q2⟩ := unesc_canon r s m hu
            rw [hu] at h
            dsimp only at h
            split at h
            · rename_i hs
              simp only [Option.some.injEq, Prod.mk.injEq] at h
              obtain ⟨rfl, rfl⟩ := h
              have hk : kpart ⟨(t.toNat : Int) - 1, 0, ⟨s.toArray⟩⟩ = t :: esc s ++ [0, 0] := by
                unfold kpart
                rcases ht with rfl | rfl
                · dsimp only
                  rw [if_neg (by decide), if_neg (by decide), if_pos (by decide), sb_mk]
                · dsimp only
                  rw [if_neg (by decide), if_neg (by decide), if_neg (by decide), sb_mk]
              refine ⟨by rw [hk, take_cons_part, q1]; rfl, by rw [hk, q2]; simp, rightT (by rcases ht with rfl | rfl <;> decide) (by rw [sb_size]; exact hs)⟩
            · cases h
        · cases h
theorem tn_append (d : Bool) (p q : List UInt8) : tn d (p ++ q) = tn d p ++ tn d q := by cases d <;> simp [tn]
theorem n8 (b : UInt8) : ~~~(~~~b) = b := UInt8.eq_of_toBitVec_eq (by simp)
theorem tn2 (d : Bool) (l : List UInt8) : tn d (tn d l) = l := by
  cases d
  · rfl
  · simp [tn, Function.comp_def, n8]
theorem tn_take (d : Bool) (l : List UInt8) (n : Nat) : (tn d l).take n = tn d (l.take n) := by
  cases d
  · rfl
  · simp [tn, List.map_take]
theorem unkey_key : ∀ (a : List V) (ds : List Bool) (x : List UInt8), a.length = ds.length → (∀ v ∈ a, right v = true) → (∀ v ∈ a, good v) → unkeyP (key a ds ++ x) ds = if x = [] then some a else none
  | [], [], x, _, _, _ => by
    show unkeyP x [] = _
    rw [unkeyP]
  | v :: a, d :: ds, x, hl, hr, hg => by
    have ih := unkey_key a ds x (by simpa using hl) (fun v h => hr v (.tail _ h)) (fun v h => hg v (.tail _ h))
    rw [key, unkeyP, List.append_assoc, tn_append, tn2, parted_part (hr v (.head _)) (hg v (.head _))]
    dsimp only
    rw [show (kpart v).length = (tn d (kpart v)).length by rw [tn_length], List.drop_left, ih]
    split <;> rfl
  | [], _ :: _, _, h, _, _ => by simp at h
  | _ :: _, [], _, h, _, _ => by simp at h
theorem unkey_canon : ∀ (ds : List Bool) (b : List UInt8) (a : List V), unkeyP b ds = some a → b = key a ds ∧ a.length = ds.length ∧ (∀ v ∈ a, right v = true) ∧ ∀ v ∈ a, good v
  | [], b, a, h => by
    rw [unkeyP] at h
    split at h
    · rename_i hb; cases h; subst hb; simp [key]
    · cases h
  | d :: ds, b, a, h => by
    rw [unkeyP] at h
    cases hp : partedP (tn d b) with
    | none => rw [hp] at h; cases h
    | some x =>
      obtain ⟨v, n⟩ := x
      rw [hp] at h
      dsimp only at h
      obtain ⟨q1, q2, q3, q4, q5⟩ := parted_canon hp
      cases hu : unkeyP (b.drop n) ds with
      | none => rw [hu] at h; cases h
      | some l =>
        rw [hu] at h
        cases h
        obtain ⟨i1, i2, i3, i4⟩ := unkey_canon ds _ _ hu
        refine ⟨?_, by simp [i2], fun w hw => ?_, fun w hw => ?_⟩
        · rw [key, ← q1, tn_take, tn2, ← i1, List.take_append_drop]
        · rcases List.mem_cons.1 hw with rfl | hw
          · exact q4
          · exact i3 w hw
        · rcases List.mem_cons.1 hw with rfl | hw
          · exact q5
          · exact i4 w hw
/-- cut, a key is none -/
theorem unkey_cut {a : List V} {ds : List Bool} (hl : a.length = ds.length) (hr : ∀ v ∈ a, right v = true) (hg : ∀ v ∈ a, good v) {j : Nat} (hj : j < (key a ds).length) : unkeyP ((key a ds).take j) ds = none := by
  cases h : unkeyP ((key a ds).take j) ds with
  | none => rfl
  | some c =>
    obtain ⟨q1, q2, q3, q4⟩ := unkey_canon ds _ _ h
    have h1 := unkey_key c ds ((key a ds).drop j) q2 q3 q4
    rw [← q1, List.take_append_drop, if_neg (by intro he; rw [List.drop_eq_nil_iff] at he; omega)] at h1
    have h2 := unkey_key a ds [] hl hr hg
    rw [List.append_nil, if_pos rfl, h1] at h2
    cases h2
theorem key_inj {a c : List V} {ds : List Bool} (hl : a.length = ds.length) (hr : ∀ v ∈ a, right v = true) (hg : ∀ v ∈ a, good v) (hl2 : c.length = ds.length) (hr2 : ∀ v ∈ c, right v = true) (hg2 : ∀ v ∈ c, good v) (x : List UInt8) (h : key a ds = key c ds ++ x) : x = [] := by
  have h1 := unkey_key a ds [] hl hr hg
  have h2 := unkey_key c ds x hl2 hr2 hg2
  rw [List.append_nil, if_pos rfl, h, h2] at h1
  split at h1
  · assumption
  · cases h1

/-! ## rows -/
theorem wideFrom_fits (n : Int) : ∀ f k, fits n (wideFrom n f k) = true ∨ wideFrom n f k = f + k
  | 0, k => .inr (by simp [wideFrom])
  | f + 1, k => by
    unfold wideFrom
    by_cases h : fits n k = true
    · rw [if_pos h]; exact .inl h
    · rw [if_neg h]
      rcases wideFrom_fits n f (k + 1) with h | h
      · exact .inl h
      · exact .inr (by omega)
theorem fits_wide {n : Int} (h : -9223372036854775808 ≤ n) (h2 : n ≤ 9223372036854775807) : fits n (wide n) = true := by
  rcases wideFrom_fits n 7 1 with hw | hw
  · exact hw
  · show fits n (wideFrom n 7 1) = true
    rw [hw]
    exact decide_eq_true ⟨by simpa using h, by simp; omega⟩
theorem cases8 {k : Nat} (h : 1 ≤ k) (h2 : k ≤ 8) : k = 1 ∨ k = 2 ∨ k = 3 ∨ k = 4 ∨ k = 5 ∨ k = 6 ∨ k = 7 ∨ k = 8 := by omega
theorem sgn_hi {n : Int} {k : Nat} (h1 : 1 ≤ k) (h8 : k ≤ 8) (h : fits n k = true) : sgn k ((n % 18446744073709551616).toNat % 256 ^ k) = n := by
  have h := of_decide_eq_true h
  rcases cases8 h1 h8 with rfl | rfl | rfl | rfl | rfl | rfl | rfl | rfl <;> (unfold sgn; simp at h ⊢; split <;> omega)
theorem hi_sgn {x k : Nat} (h1 : 1 ≤ k) (h8 : k ≤ 8) (h : x < 256 ^ k) : (sgn k x % 18446744073709551616).toNat % 256 ^ k = x ∧ -9223372036854775808 ≤ sgn k x ∧ sgn k x ≤ 9223372036854775807 := by
  rcases cases8 h1 h8 with rfl | rfl | rfl | rfl | rfl | rfl | rfl | rfl <;> (unfold sgn; simp at h ⊢; split <;> omega)
theorem got_body {v : V} (hr : right v = true) (hg : good v) (r : List UInt8) : got (body v ++ r) (sort v) = some (v, (body v).length) := by
  by_cases h0 : v.k = 0
  · have hv := right0 hr h0
    rw [hv]
    rfl
  by_cases h1 : v.k = 1
  · have hv := right1 hr h1
    have hn := hg.2.1
    have hw := fits_wide hn.1 hn.2
    have w1 := wide_pos v.n
    have w8 := wide_le v.n
    have hs : sort v = wide v.n := by unfold sort; rw [if_pos h1]
    have hb : body v = hi (v.n % 18446744073709551616).toNat (wide v.n) := by
      unfold body; rw [if_pos h1]
      have : sb v.s = [] := by rw [hv]; rfl
      rw [this, List.append_nil]
    have hl : (body v).length = wide v.n := by rw [hb, hi_length]
    rw [hs]
    unfold got
    rw [if_neg (by omega), if_pos w8, if_neg (by rw [List.length_append]; omega)]
    have ht : (body v ++ r).take (wide v.n) = body v := List.take_left' hl
    rw [ht, hl, hb, be_hi, sgn_hi w1 w8 hw, if_pos rfl, ← hv]
  · obtain ⟨hk, hs, hv⟩ := right2 hr h0 h1
    have hb : body v = sb v.s := by unfold body; rw [if_neg h1]; rfl
    have hl : (body v).length = v.s.size := by rw [hb, sb_length]
    have h3 : sort v = if v.k = 3 then 2 * v.s.size + 10 else 2 * v.s.size + 11 := by
      unfold sort; rw [if_neg h1]
      rcases hk with h | h
      · rw [if_neg (by omega), if_pos h, if_neg (by omega)]
      · rw [if_pos h, if_pos h]
    have h4 : (sort v - 10) / 2 = v.s.size ∧ 10 ≤ sort v ∧ (if sort v % 2 = 1 then (2 : Int) else 3) = v.k := by
      rw [h3]
      rcases hk with h | h
      · rw [if_neg (by omega), if_pos (by omega)]; exact ⟨by omega, by omega, h.symm⟩
      · rw [if_pos h, if_neg (by omega)]; exact ⟨by omega, by omega, h.symm⟩
    unfold got
    rw [if_neg (by omega), if_neg (by omega), if_neg (by omega), h4.1, if_neg (by omega), if_neg (by rw [List.length_append]; omega), h4.2.2]
    have ht : (body v ++ r).take v.s.size = body v := List.take_left' hl
    rw [ht, hl, hb, mk_sb, ← hv]
theorem got_canon {b : List UInt8} {k : Nat} {v : V} {n : Nat} (h : got b k = some (v, n)) : b.take n = body v ∧ n ≤ b.length ∧ sort v = k ∧ right v = true ∧ good v := by
  unfold got at h
  split at h
  · rename_i hk
    cases h
    exact ⟨rfl, Nat.zero_le _, by rw [hk]; rfl, rightZ⟩
  · split at h
    · split at h
      · cases h
      · split at h
        · rename_i hw
          simp only [Option.some.injEq, Prod.mk.injEq] at h
          obtain ⟨rfl, rfl⟩ := h
          have htl : (b.take k).length = k := by rw [List.length_take]; omega
          have hb := be_lt (b.take k)
          rw [htl] at hb
          obtain ⟨q1, q2, q3⟩ := hi_sgn (x := be (b.take k)) (k := k) (by omega) (by omega) hb
          refine ⟨?_, by omega, ?_, rightN q2 q3⟩
          · unfold body
            rw [if_pos rfl]
            dsimp only
            rw [hw, show sb (ByteArray.mk #[]) = [] from rfl, List.append_nil]
            have := hi_be (b.take k) _ (by rw [htl]; exact q1)
            rw [htl] at this
            exact this.symm
          · unfold sort
            rw [if_pos rfl]
            exact hw
        · cases h
    · split at h
      · cases h
      · split at h
        · cases h
        · split at h
          · cases h
          · simp only [Option.some.injEq, Prod.mk.injEq] at h
            obtain ⟨rfl, rfl⟩ := h
            have hz : (⟨(b.take ((k - 10) / 2)).toArray⟩ : ByteArray).size = (k - 10) / 2 := by rw [sb_size, List.length_take]; omega
            refine ⟨?_, by omega, ?_, rightT (by split <;> simp) (by omega)⟩
            · unfold body
              rw [if_neg (by dsimp only; split <;> decide)]
              dsimp only
              rw [sb_mk]; rfl
            · unfold sort
              dsimp only
              rw [hz]
              by_cases hk : k % 2 = 1
              · rw [if_pos hk, if_neg (by decide), if_neg (by decide), if_pos rfl]; omega
              · rw [if_neg hk, if_neg (by decide), if_pos rfl]; omega
theorem sort_lt' {v : V} (h : right v = true) : sort v < 18446744073709551616 := by
  have := right_size h
  have := wide_le v.n
  unfold sort; split
  · omega
  · split
    · omega
    · split <;> omega
def sortsB (l : List V) : List UInt8 := l.flatMap (fun v => B1.enc (sort v))
theorem sorts_put : ∀ (l : List V) (pre r : List UInt8), (∀ v ∈ l, right v = true) → sortsP (pre ++ (sortsB l ++ r)) l.length pre.length = some (l.map sort, ((pre ++ sortsB l).length : Int))
  | [], pre, r, _ => by simp [sortsP, sortsB]
  | v :: l, pre, r, h => by
    have hu := B1.getU_enc pre (sort v) (sortsB l ++ r) (sort_lt' (h v (.head _)))
    have e : sortsB (v :: l) = B1.enc (sort v) ++ sortsB l := rfl
    have ih := sorts_put l (pre ++ B1.enc (sort v)) r (fun v hv => h v (.tail _ hv))
    rw [List.append_assoc] at ih
    rw [List.length_append, List.append_assoc] at ih
    rw [List.length_cons, sortsP, e, List.append_assoc, hu]
    dsimp only
    rw [if_neg (by simp), ih]
    rfl
theorem rows_put : ∀ (l : List V) (pre r : List UInt8), (∀ v ∈ l, right v = true) → (∀ v ∈ l, good v) → rowsP (pre ++ (l.flatMap body ++ r)) (l.map sort) pre.length = some (l, (pre ++ l.flatMap body).length)
  | [], pre, r, _, _ => by simp [rowsP]
  | v :: l, pre, r, h, hg => by
    have ih := rows_put l (pre ++ body v) r (fun v hv => h v (.tail _ hv)) (fun v hv => hg v (.tail _ hv))
    rw [List.append_assoc, List.length_append, List.append_assoc] at ih
    rw [List.map_cons, rowsP, List.drop_left, List.flatMap_cons, List.append_assoc, got_body (h v (.head _)) (hg v (.head _))]
    dsimp only
    rw [ih]
    rfl
def rowB (l : List V) : List UInt8 := B1.enc l.length ++ sortsB l ++ l.flatMap body
theorem get_put {l : List V} (h200 : l.length ≤ 200) (hr : ∀ v ∈ l, right v = true) (hg : ∀ v ∈ l, good v) (x : List UInt8) (hlen : (rowB l ++ x).length ≤ 1048576) : getP (rowB l ++ x) = if x = [] then some l else none := by
  have hu := B1.getU_enc [] l.length (sortsB l ++ (l.flatMap body ++ x)) (by omega)
  rw [List.nil_append, List.length_nil] at hu
  have e : rowB l ++ x = B1.enc l.length ++ (sortsB l ++ (l.flatMap body ++ x)) := by unfold rowB; simp
  have h1 := sorts_put l (B1.enc l.length) (l.flatMap body ++ x) hr
  have h2 := rows_put l (B1.enc l.length ++ sortsB l) x hr hg
  rw [List.append_assoc] at h2
  unfold getP
  rw [e] at hlen ⊢
  have hu' : B1.getU (B1.enc l.length ++ (sortsB l ++ (l.flatMap body ++ x))) 0 = (l.length, ((B1.enc l.length).length : Int), 0) := by
    have : ((0 : Nat) : Int) = 0 := rfl
    rw [this] at hu
    rw [hu]; simp
  rw [hu']
  dsimp only
  rw [if_neg (by rintro (h | h | h) <;> omega), h1]
  dsimp only
  rw [Int.toNat_natCast, h2]
  dsimp only
  by_cases hx : x = []
  · subst hx
    rw [if_pos rfl, if_neg]
    simp
  · have := List.length_pos_iff.2 hx
    rw [if_neg hx, if_pos]
    simp only [List.length_append]
    omega
theorem take_more {b : List UInt8} {i n : Nat} {x : List UInt8} (h : (b.drop i).take n = x) : b.take (i + n) = b.take i ++ x := by
  rw [List.take_add, h]
theorem getU_canon {b : List UInt8} {at_ : Int} (h : (B1.getU b at_).2.2 = 0) : ∃ i u : Nat, at_ = (i : Int) ∧ (B1.getU b at_).2.1 = ((i + u : Nat) : Int) ∧ i + u ≤ b.length ∧ b.take (i + u) = b.take i ++ B1.enc (B1.getU b at_).1 := by
  unfold B1.getU at h ⊢
  by_cases hr : at_ < 0 ∨ (b.length : Int) < at_
  · rw [if_pos hr] at h; cases h
  · rw [if_neg hr] at h ⊢
    cases hd : B1.dec 0 (b.drop at_.toNat) with
    | short => rw [hd] at h; cases h
    | bad => rw [hd] at h; cases h
    | ok n u =>
      obtain ⟨q1, q2, q3, _⟩ := B1.dec_ok _ 0 n u (by omega) hd
      rw [List.length_drop] at q2
      exact ⟨at_.toNat, u, by omega, by show at_ + (u : Int) = _; omega, by omega, take_more q3⟩
theorem sorts_canon : ∀ (n : Nat) (b : List UInt8) (i : Nat) (ks : List Nat) (e : Int), i ≤ b.length → sortsP b n i = some (ks, e) → ks.length = n ∧ ∃ j : Nat, e = (j : Int) ∧ i ≤ j ∧ j ≤ b.length ∧ b.take j = b.take i ++ ks.flatMap B1.enc
  | 0, b, i, ks, e, hi, h => by
    rw [sortsP] at h
    cases h
    exact ⟨rfl, i, rfl, Nat.le_refl _, hi, by simp⟩
  | n + 1, b, i, ks, e, hi, h => by
    rw [sortsP] at h
    by_cases hne : (B1.getU b i).2.2 ≠ 0
    · rw [if_pos hne] at h; cases h
    · rw [if_neg hne] at h
      obtain ⟨i', u, hi', hx, hle, ht⟩ := getU_canon (by simpa using hne)
      have : i' = i := by omega
      subst this
      rw [hx] at h
      cases hs : sortsP b n ((i' + u : Nat) : Int) with
      | none => rw [hs] at h; cases h
      | some r =>
        obtain ⟨l, e'⟩ := r
        rw [hs] at h
        cases h
        obtain ⟨q1, j, q2, q3, q4, q5⟩ := sorts_canon n b (i' + u) l _ hle hs
        exact ⟨by simp [q1], j, q2, by omega, q4, by rw [q5, ht]; simp⟩
theorem rows_canon : ∀ (ks : List Nat) (b : List UInt8) (i : Nat) (row : List V) (e : Nat), i ≤ b.length → rowsP b ks i = some (row, e) → e ≤ b.length ∧ b.take e = b.take i ++ row.flatMap body ∧ row.map sort = ks ∧ (∀ v ∈ row, right v = true) ∧ ∀ v ∈ row, good v
  | [], b, i, row, e, hi, h => by
    rw [rowsP] at h
    cases h
    exact ⟨hi, by simp, rfl, by simp, by simp⟩
  | k :: ks, b, i, row, e, hi, h => by
    rw [rowsP] at h
    cases hg : got (b.drop i) k with
    | none => rw [hg] at h; cases h
    | some x =>
      obtain ⟨v, n⟩ := x
      rw [hg] at h
      dsimp only at h
      obtain ⟨q1, q2, q3, q4, q5⟩ := got_canon hg
      rw [List.length_drop] at q2
      cases hs : rowsP b ks (i + n) with
      | none => rw [hs] at h; cases h
      | some r =>
        obtain ⟨l, e'⟩ := r
        rw [hs] at h
        cases h
        obtain ⟨p1, p2, p3, p4, p5⟩ := rows_canon ks b (i + n) l _ (by omega) hs
        refine ⟨p1, by rw [p2, take_more q1]; simp, by simp [q3, p3], fun w hw => ?_, fun w hw => ?_⟩
        · rcases List.mem_cons.1 hw with rfl | hw
          · exact q4
          · exact p4 w hw
        · rcases List.mem_cons.1 hw with rfl | hw
          · exact q5
          · exact p5 w hw
theorem get_canon {b : List UInt8} {l : List V} (h : getP b = some l) : b = rowB l ∧ l.length ≤ 200 ∧ b.length ≤ 1048576 ∧ (∀ v ∈ l, right v = true) ∧ ∀ v ∈ l, good v := by
  unfold getP at h
  split at h
  · cases h
  · rename_i hc
    simp only [not_or, Classical.not_not] at hc
    obtain ⟨i, u, h0, hx, hle, ht⟩ := getU_canon hc.1
    have : i = 0 := by omega
    subst this
    rw [hx] at h
    generalize (B1.getU b 0).1 = N at *
    cases hs : sortsP b N ((0 + u : Nat) : Int) with
    | none => rw [hs] at h; cases h
    | some r =>
      obtain ⟨ks, e⟩ := r
      rw [hs] at h
      dsimp only at h
      obtain ⟨q1, j, rfl, q3, q4, q5⟩ := sorts_canon N b (0 + u) ks e hle hs
      rw [Int.toNat_natCast] at h
      cases hs2 : rowsP b ks j with
      | none => rw [hs2] at h; cases h
      | some r2 =>
        obtain ⟨row, e2⟩ := r2
        rw [hs2] at h
        dsimp only at h
        split at h
        · cases h
        · cases h
          obtain ⟨p1, p2, p3, p4, p5⟩ := rows_canon ks b j l e2 q4 hs2
          have he : e2 = b.length := by omega
          rw [he, List.take_length, q5, ht, List.take_zero, List.nil_append] at p2
          have hN : l.length = N := by rw [← q1, ← p3, List.length_map]
          refine ⟨?_, by omega, by omega, p4, p5⟩
          rw [p2]
          unfold rowB sortsB
          rw [hN, ← p3, List.flatMap_map]
theorem get_cut {l : List V} (h200 : l.length ≤ 200) (hr : ∀ v ∈ l, right v = true) (hg : ∀ v ∈ l, good v) (hlen : (rowB l).length ≤ 1048576) {j : Nat} (hj : j < (rowB l).length) : getP ((rowB l).take j) = none := by
  cases h : getP ((rowB l).take j) with
  | none => rfl
  | some c =>
    obtain ⟨q1, q2, q3, q4, q5⟩ := get_canon h
    have h1 := get_put q2 q4 q5 ((rowB l).drop j) (by rw [← q1, List.take_append_drop]; exact hlen)
    rw [← q1, List.take_append_drop, if_neg (by intro he; rw [List.drop_eq_nil_iff] at he; omega)] at h1
    have h2 := get_put h200 hr hg [] (by simpa using hlen)
    rw [List.append_nil, if_pos rfl, h1] at h2
    cases h2
theorem row_inj {a c : List V} (ha : a.length ≤ 200) (hr : ∀ v ∈ a, right v = true) (hg : ∀ v ∈ a, good v) (hl : (rowB a).length ≤ 1048576) (hc : c.length ≤ 200) (hr2 : ∀ v ∈ c, right v = true) (hg2 : ∀ v ∈ c, good v) (h : rowB a = rowB c) : a = c := by
  have h1 := get_put ha hr hg [] (by simpa using hl)
  have h2 := get_put hc hr2 hg2 [] (by rw [← h]; simpa using hl)
  rw [List.append_nil, if_pos rfl] at h1 h2
  rw [h, h2] at h1
  cases h1; rfl
end R1
