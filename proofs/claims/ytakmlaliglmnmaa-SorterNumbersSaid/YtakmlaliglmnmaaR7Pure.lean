/- Layer 3, plain: keys compare as rows do. -/
import Derived.Test.YtakmlaliglmnmaaR1Pure
import Derived.Lib.Bytealg
set_option linter.unusedVariables false
set_option linter.unusedSimpArgs false
namespace R1
open Go.Sx Go.Lib

/-- how two numbers compare -/
def cmpI (x y : Int) : Int := if x < y then -1 else if y < x then 1 else 0
theorem cmpI_zero {x y : Int} (h : cmpI x y = 0) : x = y := by
  unfold cmpI at h
  by_cases h1 : x < y
  · rw [if_pos h1] at h; cases h
  · by_cases h2 : y < x
    · rw [if_neg h1, if_pos h2] at h; cases h
    · omega
/-- how two values compare -/
def vcmp (a b : V) : Int := if a.k ≠ b.k then cmpI a.k b.k else if a.k = 1 then cmpI a.n b.n else if a.k = 2 ∨ a.k = 3 then compareBytes (sb a.s) (sb b.s) else 0
/-- how two rows compare -/
def rowsC : List V → List V → List Bool → Int
  | a :: as, b :: bs, d :: ds => if vcmp a b ≠ 0 then (if d then - vcmp a b else vcmp a b) else rowsC as bs ds
  | _, _, _ => 0

/-- they differ first at a place that both have -/
def Differ (p q : List UInt8) (s : Int) : Prop := ∃ c x y p' q', p = c ++ x :: p' ∧ q = c ++ y :: q' ∧ x ≠ y ∧ s = if x < y then -1 else 1
theorem Differ.cons {p q : List UInt8} {s : Int} (c : List UInt8) (h : Differ p q s) : Differ (c ++ p) (c ++ q) s := by
  obtain ⟨e, x, y, p', q', rfl, rfl, hne, hs⟩ := h
  exact ⟨c ++ e, x, y, p', q', by simp, by simp, hne, hs⟩
theorem Differ.more {p q : List UInt8} {s : Int} (r t : List UInt8) (h : Differ p q s) : Differ (p ++ r) (q ++ t) s := by
  obtain ⟨e, x, y, p', q', rfl, rfl, hne, hs⟩ := h
  exact ⟨e, x, y, p' ++ r, q' ++ t, by simp, by simp, hne, hs⟩
theorem lt_asymm8 {x y : UInt8} (h : x < y) : ¬ y < x := fun h' => by
  rw [UInt8.lt_iff_toNat_lt] at h h'; omega
theorem lt_of_ne8 {x y : UInt8} (h : x ≠ y) (h' : ¬ x < y) : y < x := by
  rw [UInt8.lt_iff_toNat_lt] at h' ⊢
  have : x.toNat ≠ y.toNat := fun e => h (UInt8.toNat_inj.1 e)
  omega
theorem cmp_same (c p q : List UInt8) : compareBytes (c ++ p) (c ++ q) = compareBytes p q := by
  induction c with
  | nil => rfl
  | cons x c ih =>
    have h : ¬ x < x := fun h => lt_asymm8 h h
    show compareBytes (x :: (c ++ p)) (x :: (c ++ q)) = _
    rw [compareBytes, if_neg h, if_neg h, ih]
theorem Differ.cmp {p q : List UInt8} {s : Int} (h : Differ p q s) : compareBytes p q = s := by
  obtain ⟨e, x, y, p', q', rfl, rfl, hne, rfl⟩ := h
  rw [cmp_same, compareBytes]
  by_cases hlt : x < y
  · rw [if_pos hlt, if_pos hlt]
  · rw [if_neg hlt, if_neg hlt, if_pos (lt_of_ne8 hne hlt)]
theorem not_lt8 (x y : UInt8) : ~~~x < ~~~y ↔ y < x := by
  rw [UInt8.lt_iff_toNat_lt, UInt8.lt_iff_toNat_lt, UInt8.toNat_not, UInt8.toNat_not]
  have := x.toNat_lt
  have := y.toNat_lt
  have : UInt8.size = 256 := rfl
  omega
theorem Differ.turn {p q : List UInt8} {s : Int} (d : Bool) (h : Differ p q s) : Differ (tn d p) (tn d q) (if d then -s else s) := by
  cases d with
  | false => exact h
  | true =>
    obtain ⟨e, x, y, p', q', rfl, rfl, hne, rfl⟩ := h
    refine ⟨e.map (fun b => ~~~b), ~~~x, ~~~y, p'.map (fun b => ~~~b), q'.map (fun b => ~~~b), by simp [tn], by simp [tn], fun h => hne ?_, ?_⟩
    · have hx := congrArg (fun b : UInt8 => (~~~b)) h
      simpa using hx
    · simp only [if_true, not_lt8]
      by_cases hlt : x < y
      · rw [if_pos hlt, if_neg (lt_asymm8 hlt)]; rfl
      · rw [if_neg hlt, if_pos (lt_of_ne8 hne hlt)]
theorem Differ.swap {p q : List UInt8} {s : Int} (h : Differ p q s) : Differ q p (-s) := by
  obtain ⟨e, x, y, p', q', rfl, rfl, hne, rfl⟩ := h
  refine ⟨e, y, x, q', p', rfl, rfl, hne.symm, ?_⟩
  by_cases hlt : x < y
  · rw [if_pos hlt, if_neg (lt_asymm8 hlt)]; rfl
  · rw [if_neg hlt, if_pos (lt_of_ne8 hne hlt)]
/-- strings, written so that none is the begin of another -/
theorem esc_differ : ∀ (s t : List UInt8), (compareBytes s t = 0 → s = t) ∧ (compareBytes s t ≠ 0 → Differ (esc s ++ [0, 0]) (esc t ++ [0, 0]) (compareBytes s t))
  | [], [] => ⟨fun _ => rfl, fun h => absurd rfl h⟩
  | [], b :: t => by
    refine ⟨fun h => by simp [compareBytes] at h, fun _ => ?_⟩
    show Differ [0, 0] (esc (b :: t) ++ [0, 0]) (-1)
    rw [esc]
    split
    · exact ⟨[0], 0, 255, [], _, rfl, rfl, by decide, by decide⟩
    · rename_i hb
      refine ⟨[], 0, b, [0], _, rfl, rfl, fun h => hb h.symm, ?_⟩
      rw [if_pos]
      rw [UInt8.lt_iff_toNat_lt]
      have : b.toNat ≠ 0 := fun e => hb (UInt8.toNat_inj.1 e)
      simp; omega
  | a :: s, [] => by
    refine ⟨fun h => by simp [compareBytes] at h, fun _ => ?_⟩
    show Differ (esc (a :: s) ++ [0, 0]) [0, 0] 1
    rw [esc]
    split
    · exact ⟨[0], 255, 0, _, [], rfl, rfl, by decide, by decide⟩
    · rename_i hb
      refine ⟨[], a, 0, _, [0], rfl, rfl, hb, ?_⟩
      rw [if_neg]
      rw [UInt8.lt_iff_toNat_lt]
      simp
  | a :: s, b :: t => by
    obtain ⟨ih1, ih2⟩ := esc_differ s t
    by_cases hab : a = b
    · subst hab
      have hn : ¬ a < a := fun h => lt_asymm8 h h
      have hc : compareBytes (a :: s) (a :: t) = compareBytes s t := by rw [compareBytes, if_neg hn, if_neg hn]
      rw [hc]
      refine ⟨fun h => by rw [ih1 h], fun h => ?_⟩
      have := ih2 h
      rw [esc, esc]
      by_cases h0 : a = 0
      · rw [if_pos h0, if_pos h0]; exact this.cons [0, 255]
      · rw [if_neg h0, if_neg h0]; exact this.cons [a]
    · have hc : compareBytes (a :: s) (b :: t) = if a < b then -1 else 1 := by
        rw [compareBytes]
        by_cases hlt : a < b
        · rw [if_pos hlt, if_pos hlt]
        · rw [if_neg hlt, if_neg hlt, if_pos (lt_of_ne8 hab hlt)]
      refine ⟨fun h => (by rw [hc] at h; split at h <;> simp at h), fun _ => ?_⟩
      rw [hc, esc, esc]
      by_cases h0 : a = 0
      · subst h0
        rw [if_pos rfl, if_neg (fun h => hab h.symm)]
        exact ⟨[], 0, b, _, _, rfl, rfl, hab, rfl⟩
      · rw [if_neg h0]
        by_cases h1 : b = 0
        · subst h1
          rw [if_pos rfl]
          exact ⟨[], a, 0, _, _, rfl, rfl, hab, rfl⟩
        · rw [if_neg h1]
          exact ⟨[], a, b, _, _, rfl, rfl, hab, rfl⟩
theorem toU_ne {a b : Nat} (ha : a < 256) (hb : b < 256) (h : a < b) : a.toUInt8 ≠ b.toUInt8 ∧ a.toUInt8 < b.toUInt8 := by
  have e : ∀ n, n < 256 → (n.toUInt8).toNat = n := fun n hn => by simp [Nat.toUInt8]; omega
  have hlt : a.toUInt8 < b.toUInt8 := by rw [UInt8.lt_iff_toNat_lt, e a ha, e b hb]; exact h
  exact ⟨fun he => by rw [he] at hlt; exact lt_asymm8 hlt hlt, hlt⟩
theorem hi_differ : ∀ (k m m' : Nat), m % 256 ^ k < m' % 256 ^ k → Differ (hi m k) (hi m' k) (-1)
  | 0, m, m', h => by simp [Nat.mod_one] at h
  | k + 1, m, m', h => by
    rw [Nat.pow_succ, Nat.mod_mul, Nat.mod_mul] at h
    show Differ ((m / 256 ^ k % 256).toUInt8 :: hi m k) ((m' / 256 ^ k % 256).toUInt8 :: hi m' k) (-1)
    have hp : 0 < 256 ^ k := Nat.pow_pos (by decide)
    have h1 := Nat.mod_lt m hp
    have h2 := Nat.mod_lt m' hp
    have h3 := Nat.mod_lt (m / 256 ^ k) (show 0 < 256 by decide)
    have h4 := Nat.mod_lt (m' / 256 ^ k) (show 0 < 256 by decide)
    rcases Nat.lt_trichotomy (m / 256 ^ k % 256) (m' / 256 ^ k % 256) with hd | hd | hd
    · obtain ⟨hne, hlt⟩ := toU_ne h3 h4 hd
      exact ⟨[], _, _, _, _, rfl, rfl, hne, by rw [if_pos hlt]⟩
    · rw [hd] at h ⊢
      exact (hi_differ k m m' (by omega)).cons [_]
    · exfalso
      have : 256 ^ k * (m' / 256 ^ k % 256) + 256 ^ k ≤ 256 ^ k * (m / 256 ^ k % 256) := by
        rw [← Nat.mul_succ]; exact Nat.mul_le_mul_left _ hd
      omega
theorem right_kind {v : V} (h : right v = true) : v.k = 0 ∨ v.k = 1 ∨ v.k = 2 ∨ v.k = 3 := by
  unfold right at h
  split at h
  · exact .inl ‹_›
  · split at h
    · exact .inr (.inl ‹_›)
    · split at h
      · rename_i h'; exact .inr (.inr h')
      · cases h
/-- a value's first byte -/
def tag (v : V) : UInt8 := if v.k = 0 then 1 else if v.k = 1 then 2 else if v.k = 2 then 3 else 4
theorem part_tag (v : V) : ∃ r, kpart v = tag v :: r := by
  unfold kpart tag
  split
  · exact ⟨[], rfl⟩
  · split
    · exact ⟨_, rfl⟩
    · split <;> exact ⟨_, rfl⟩
theorem part_differ {a b : V} (ha : right a = true) (hb : right b = true) (ga : good a) (gb : good b) : (vcmp a b = 0 → kpart a = kpart b) ∧ (vcmp a b ≠ 0 → Differ (kpart a) (kpart b) (vcmp a b)) := by
  have ka := right_kind ha
  have kb := right_kind hb
  by_cases hk : a.k = b.k
  · unfold vcmp
    rw [if_neg (by simpa using hk)]
    unfold kpart
    rw [← hk]
    by_cases h0 : a.k = 0
    · rw [if_pos h0, if_pos h0, if_neg (by omega), if_neg (by omega)]
      exact ⟨fun _ => rfl, fun h => absurd rfl h⟩
    rw [if_neg h0, if_neg h0]
    by_cases h1 : a.k = 1
    · rw [if_pos h1, if_pos h1, if_pos h1]
      have ga := ga.2.1
      have gb := gb.2.1
      unfold cmpI
      rcases Int.lt_trichotomy a.n b.n with hn | hn | hn
      · rw [if_pos hn]
        refine ⟨fun h => (by cases h), fun _ => ?_⟩
        refine (hi_differ 8 _ _ ?_).cons [2]
        rw [Nat.mod_eq_of_lt (by omega), Nat.mod_eq_of_lt (by omega)]
        omega
      · rw [hn, if_neg (by omega), if_neg (by omega)]
        exact ⟨fun _ => rfl, fun h => absurd rfl h⟩
      · rw [if_neg (by omega), if_pos hn]
        refine ⟨fun h => (by cases h), fun _ => ?_⟩
        refine Differ.cons [2] (Differ.swap (s := -1) (hi_differ 8 _ _ ?_))
        rw [Nat.mod_eq_of_lt (by omega), Nat.mod_eq_of_lt (by omega)]
        omega
    rw [if_neg h1, if_neg h1, if_neg h1, if_pos (by omega)]
    obtain ⟨i1, i2⟩ := esc_differ (sb a.s) (sb b.s)
    refine ⟨fun h => by rw [i1 h], fun h => ?_⟩
    exact (i2 h).cons [_]
  · have hv : vcmp a b = cmpI a.k b.k := by unfold vcmp; rw [if_pos hk]
    rw [hv]
    obtain ⟨r, hr⟩ := part_tag a
    obtain ⟨t, ht⟩ := part_tag b
    refine ⟨fun h => absurd (cmpI_zero h) hk, fun _ => ?_⟩
    refine ⟨[], tag a, tag b, r, t, hr, ht, ?_, ?_⟩
    · unfold tag
      rcases ka with h | h | h | h <;> rcases kb with h' | h' | h' | h' <;> simp [h, h'] at hk ⊢
    · unfold tag cmpI
      rcases ka with h | h | h | h <;> rcases kb with h' | h' | h' | h' <;> simp [h, h'] at hk ⊢
/-- keys compare as rows do -/
theorem key_cmp : ∀ (a b : List V) (ds : List Bool), a.length = ds.length → b.length = ds.length → (∀ v ∈ a, right v = true) → (∀ v ∈ b, right v = true) → (∀ v ∈ a, good v) → (∀ v ∈ b, good v) → compareBytes (key a ds) (key b ds) = rowsC a b ds
  | [], [], [], _, _, _, _, _, _ => rfl
  | a :: as, b :: bs, d :: ds, h1, h2, ra, rb, ga, gb => by
    have ih := key_cmp as bs ds (by simpa using h1) (by simpa using h2) (fun v hv => ra v (List.mem_cons.2 (.inr hv))) (fun v hv => rb v (List.mem_cons.2 (.inr hv))) (fun v hv => ga v (List.mem_cons.2 (.inr hv))) (fun v hv => gb v (List.mem_cons.2 (.inr hv)))
    obtain ⟨p1, p2⟩ := part_differ (ra a (List.mem_cons.2 (.inl rfl))) (rb b (List.mem_cons.2 (.inl rfl))) (ga a (List.mem_cons.2 (.inl rfl))) (gb b (List.mem_cons.2 (.inl rfl)))
    rw [rowsC, key, key]
    by_cases hv : vcmp a b = 0
    · rw [if_neg (by simpa using hv), p1 hv, cmp_same, ih]
    · rw [if_pos hv]
      exact (((p2 hv).turn d).more _ _).cmp
  | [], _ :: _, [], _, h, _, _, _, _ => by simp at h
  | _ :: _, _, [], h, _, _, _, _, _ => by simp at h
  | [], _, _ :: _, h, _, _, _, _, _ => by simp at h
  | _, [], _ :: _, _, h, _, _, _, _ => by simp at h
end R1
