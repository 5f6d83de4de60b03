/- Layer 1, plain: numbers as bytes. -/
set_option linter.unusedVariables false
set_option linter.unusedSimpArgs false
namespace B1

/-- the k-th digit -/
def dig (m k : Nat) : Nat := m / 128 ^ k % 128
theorem dig_lt (m k : Nat) : dig m k < 128 := Nat.mod_lt _ (by decide)
theorem dig_zero (m : Nat) : dig m 0 = m % 128 := by simp [dig]
theorem dig_succ (m k : Nat) : dig m (k + 1) = dig (m / 128) k := by
  unfold dig
  rw [Nat.pow_succ, Nat.mul_comm, Nat.div_div_eq_div_mul]
/-- a number's bytes -/
def enc (m : Nat) : List UInt8 :=
  if h : m < 128 then [m.toUInt8] else (m % 128 + 128).toUInt8 :: enc (m / 128)
termination_by m
decreasing_by omega
theorem enc_lt {m : Nat} (h : m < 128) : enc m = [m.toUInt8] := by rw [enc]; simp [h]
theorem enc_ge {m : Nat} (h : 128 ≤ m) : enc m = (m % 128 + 128).toUInt8 :: enc (m / 128) := by rw [enc]; simp [Nat.not_lt.2 h]
theorem enc_ne (m : Nat) : enc m ≠ [] := by rw [enc]; split <;> simp
theorem enc_length_pos (m : Nat) : 0 < (enc m).length := List.length_pos_iff.2 (enc_ne m)
/-- the last digit that is not 0, among the first k -/
def top (m : Nat) : Nat → Nat
  | 0 => 0
  | k + 1 => if 0 < dig m k then k else top m k
theorem top_le (m : Nat) : ∀ k, top m k ≤ k - 1
  | 0 => by simp [top]
  | k + 1 => by unfold top; have := top_le m k; split <;> omega
theorem top_small {m : Nat} (h : m < 128) : ∀ k, top m k = 0
  | 0 => rfl
  | k + 1 => by
    unfold top
    cases k with
    | zero => simp [top]
    | succ j =>
      have : dig m (j + 1) = 0 := by rw [dig_succ, Nat.div_eq_of_lt h]; simp [dig]
      rw [if_neg (by omega), top_small h]
theorem top_big {m : Nat} (h : 128 ≤ m) : ∀ k, m < 128 ^ (k + 1) → top m (k + 1) = top (m / 128) k + 1
  | 0, hk => by simp at hk; omega
  | k + 1, hk => by
    have hd : m / 128 < 128 ^ (k + 1) := by rw [Nat.div_lt_iff_lt_mul (by decide), ← Nat.pow_succ]; exact hk
    unfold top
    rw [dig_succ]
    by_cases hp : 0 < dig (m / 128) k
    · rw [if_pos hp]
      cases k <;> rw [if_pos hp]
    · rw [if_neg hp, if_neg hp]
      by_cases hs : m < 128 ^ (k + 1)
      · exact top_big h k hs
      · exfalso
        apply hp
        unfold dig
        have h1 : m / 128 / 128 ^ k = m / 128 ^ (k + 1) := by rw [Nat.div_div_eq_div_mul, Nat.pow_succ, Nat.mul_comm]
        rw [h1]
        have h2 : 0 < m / 128 ^ (k + 1) := Nat.div_pos (Nat.le_of_not_lt hs) (Nat.pow_pos (by decide))
        have h3 : m / 128 ^ (k + 1) < 128 := by rw [Nat.div_lt_iff_lt_mul (Nat.pow_pos (by decide)), Nat.mul_comm, ← Nat.pow_succ]; exact hk
        rw [Nat.mod_eq_of_lt h3]
        exact h2
theorem enc_top : ∀ (k m : Nat), m < 128 ^ k → 0 < k → enc m = (List.range (top m k)).map (fun j => (dig m j + 128).toUInt8) ++ [(dig m (top m k)).toUInt8] := by
  intro k
  induction k with
  | zero => intro m _ h; omega
  | succ k ih =>
    intro m hm _
    by_cases h : m < 128
    · rw [enc_lt h, top_small h, dig_zero, Nat.mod_eq_of_lt h]; rfl
    · have h' : 128 ≤ m := by omega
      cases k with
      | zero => simp at hm; omega
      | succ k =>
        have hd : m / 128 < 128 ^ (k + 1) := by rw [Nat.div_lt_iff_lt_mul (by decide), ← Nat.pow_succ]; exact hm
        rw [enc_ge h', ih (m / 128) hd (by omega), top_big h' (k + 1) hm, List.range_succ_eq_map]
        simp only [List.map_cons, List.map_map, List.cons_append, dig_zero, dig_succ, Function.comp_def]
theorem enc_length_le {m : Nat} : ∀ {k : Nat}, m < 128 ^ k → 0 < k → (enc m).length ≤ k := by
  intro k h hk
  rw [enc_top k m h hk]
  have := top_le m k
  simp; omega
theorem enc_le_ten {m : Nat} (h : m < 2 ^ 64) : (enc m).length ≤ 10 :=
  enc_length_le (k := 10) (Nat.lt_trans h (by decide)) (by decide)

/-! ## reading -/
inductive Dec where
  | ok (n used : Nat)
  | short
  | bad
def Dec.up (x : Nat) : Dec → Dec
  | .ok n u => .ok (128 * n + x) (u + 1)
  | .short => .short
  | .bad => .bad
/-- k digits are read already -/
def dec : Nat → List UInt8 → Dec
  | _, [] => .short
  | k, c :: r =>
    if k < 9 ∧ 128 ≤ c.toNat then (dec (k + 1) r).up (c.toNat - 128)
    else if (0 < k ∧ c.toNat = 0) ∨ (k = 9 ∧ 2 ≤ c.toNat) then .bad
    else .ok c.toNat 1

/-- how many bytes from 128 on stand ahead -/
def scan : Nat → List UInt8 → Nat
  | _, [] => 0
  | k, c :: r => if k < 9 ∧ 128 ≤ c.toNat then scan (k + 1) r + 1 else 0
/-- the number that e bytes and the next one say -/
def vt : Nat → List UInt8 → Nat
  | _, [] => 0
  | 0, c :: _ => c.toNat
  | e + 1, c :: r => 128 * vt e r + (c.toNat - 128)
theorem scan_le : ∀ (l : List UInt8) (k : Nat), scan k l ≤ l.length
  | [], k => by simp [scan]
  | c :: r, k => by unfold scan; have := scan_le r (k + 1); split <;> simp <;> omega
theorem scan_nine : ∀ (l : List UInt8) (k : Nat), k ≤ 9 → k + scan k l ≤ 9
  | [], k, h => by simp [scan]; omega
  | c :: r, k, h => by
    unfold scan
    split
    · have := scan_nine r (k + 1) (by omega); omega
    · omega
theorem dec_eq : ∀ (l : List UInt8) (k : Nat), dec k l = if scan k l < l.length then
      (if (0 < k + scan k l ∧ (l.getD (scan k l) 0).toNat = 0) ∨ (k + scan k l = 9 ∧ 2 ≤ (l.getD (scan k l) 0).toNat) then .bad else .ok (vt (scan k l) l) (scan k l + 1)) else .short
  | [], k => by simp [dec]
  | c :: r, k => by
    by_cases hc : k < 9 ∧ 128 ≤ c.toNat
    · have hs : scan k (c :: r) = scan (k + 1) r + 1 := by rw [scan, if_pos hc]
      rw [dec, if_pos hc, dec_eq r (k + 1), hs]
      generalize scan (k + 1) r = s
      have e1 : k + 1 + s = k + (s + 1) := by omega
      have e2 : (s + 1 < (c :: r).length) = (s < r.length) := by simp
      have e3 : (c :: r).getD (s + 1) 0 = r.getD s 0 := by simp [List.getD]
      rw [e1, e3]
      by_cases hlt : s < r.length
      · rw [if_pos hlt, if_pos (show s + 1 < (c :: r).length by simpa using hlt)]
        by_cases hb : (0 < k + (s + 1) ∧ (r.getD s 0).toNat = 0) ∨ (k + (s + 1) = 9 ∧ 2 ≤ (r.getD s 0).toNat)
        · rw [if_pos hb, if_pos hb]; exact rfl
        · rw [if_neg hb, if_neg hb]; exact rfl
      · rw [if_neg hlt, if_neg (show ¬ s + 1 < (c :: r).length by simpa using hlt)]; exact rfl
    · have hs : scan k (c :: r) = 0 := by rw [scan, if_neg hc]
      rw [dec, if_neg hc, hs]
      rw [if_pos (show 0 < (c :: r).length by simp)]
      exact rfl
theorem vt_lt : ∀ (e : Nat) (l : List UInt8) (M : Nat), e < l.length → (l.getD e 0).toNat ≤ M → vt e l < (M + 1) * 128 ^ e
  | _, [], M, h, _ => absurd h (Nat.not_lt_zero _)
  | 0, c :: r, M, h, hM => by
    have hM' : c.toNat ≤ M := hM
    show c.toNat < (M + 1) * 1
    omega
  | e + 1, c :: r, M, h, hM => by
    have ih := vt_lt e r M (Nat.lt_of_succ_lt_succ h) hM
    have hc : c.toNat < 256 := c.toNat_lt
    show 128 * vt e r + (c.toNat - 128) < (M + 1) * (128 ^ e * 128)
    rw [← Nat.mul_assoc]
    omega
theorem vt_lt_u64 {l : List UInt8} (h : scan 0 l < l.length) (hb : ¬ (scan 0 l = 9 ∧ 2 ≤ (l.getD (scan 0 l) 0).toNat)) : vt (scan 0 l) l < 18446744073709551616 := by
  have h9 := scan_nine l 0 (by omega)
  generalize scan 0 l = e at *
  by_cases e9 : e = 9
  · subst e9
    have hlt := vt_lt 9 l 1 h (by have := fun h2 => hb ⟨rfl, h2⟩; omega)
    exact Nat.lt_of_lt_of_le hlt (by decide)
  · have hlt := vt_lt e l 255 h (by have := (l.getD e 0).toNat_lt; omega)
    have : (255 + 1) * 128 ^ e ≤ (255 + 1) * 128 ^ 8 := Nat.mul_le_mul_left _ (Nat.pow_le_pow_right (by decide) (by omega))
    exact Nat.lt_of_lt_of_le hlt (Nat.le_trans this (by decide))
theorem getD_drop {α : Type} (l : List α) (i j : Nat) (d : α) : (l.drop i).getD j d = l.getD (i + j) d := by simp [List.getD, List.getElem?_drop]
theorem drop_getD (l : List UInt8) (i : Nat) (h : i < l.length) : l.drop i = l.getD i 0 :: l.drop (i + 1) := by
  rw [List.drop_eq_getElem_cons h]; simp [List.getD, h]
theorem vt_drop (i e : Nat) (l : List UInt8) (h : i < l.length) (hi : i < e) : vt (e - i) (l.drop i) = 128 * vt (e - (i + 1)) (l.drop (i + 1)) + ((l.getD i 0).toNat - 128) := by
  rw [drop_getD l i h, show e - i = (e - (i + 1)) + 1 by omega]
  exact rfl
theorem vt_mono (e : Nat) (l : List UInt8) : ∀ i, i ≤ e → i ≤ l.length → vt (e - i) (l.drop i) ≤ vt e l
  | 0, _, _ => by simp
  | i + 1, h, h' => by
    have h1 := vt_mono e l i (by omega) (by omega)
    rw [vt_drop i e l (by omega) (by omega)] at h1
    omega
theorem vt_zero (l : List UInt8) (h : 0 < l.length) : vt 0 l = (l.getD 0 0).toNat := by
  cases l with
  | nil => simp at h
  | cons c r => rfl
theorem scan_ge : ∀ (l : List UInt8) (k i : Nat), i < scan k l → 128 ≤ (l.getD i 0).toNat
  | [], k, i, h => by simp [scan] at h
  | c :: r, k, i, h => by
    by_cases hc : k < 9 ∧ 128 ≤ c.toNat
    · rw [scan, if_pos hc] at h
      cases i with
      | zero => exact hc.2
      | succ i => exact scan_ge r (k + 1) i (by omega)
    · rw [scan, if_neg hc] at h; omega
/-- the scan stops where it is said: the bytes ahead are great, and the next one is not, or nine are read, or there is none -/
theorem scan_unique : ∀ (l : List UInt8) (k e : Nat), k + e ≤ 9 → e ≤ l.length → (∀ i, i < e → 128 ≤ (l.getD i 0).toNat) → (e = l.length ∨ k + e = 9 ∨ (l.getD e 0).toNat < 128) → scan k l = e
  | [], k, e, _, he, _, _ => by simp at he; simp [scan, he]
  | c :: r, k, e, h9, he, hge, hst => by
    cases e with
    | zero =>
      rw [scan, if_neg]
      intro hc
      rcases hst with h | h | h
      · simp at h
      · omega
      · have h : c.toNat < 128 := h
        omega
    | succ e =>
      have h0 : 128 ≤ c.toNat := hge 0 (by omega)
      rw [scan, if_pos ⟨by omega, h0⟩]
      rw [scan_unique r (k + 1) e (by omega) (by simpa using he) (fun i hi => hge (i + 1) (by omega)) (by
        rcases hst with h | h | h
        · left; simpa using h
        · right; left; omega
        · right; right; exact h)]

def Dec.at (a : Int) : Dec → Nat × Int × Int
  | .ok n u => (n, a + u, 0)
  | .short => (0, 0, 11)
  | .bad => (0, 0, 10)
/-- GetUint -/
def getU (l : List UInt8) (at_ : Int) : Nat × Int × Int :=
  if at_ < 0 ∨ (l.length : Int) < at_ then (0, 0, 2) else (dec 0 (l.drop at_.toNat)).at at_

theorem toUInt8_toNat {n : Nat} (h : n < 256) : (n.toUInt8).toNat = n := by
  simp [Nat.toUInt8]; omega

/-! ## what is written is read -/
theorem dec_enc : ∀ (m k : Nat) (r : List UInt8), k ≤ 9 → m < 128 ^ (9 - k) * 2 → (0 < k → 0 < m) → dec k (enc m ++ r) = .ok m (enc m).length := by
  intro m
  induction m using Nat.strongRecOn with
  | ind m ih =>
    intro k r hk hm hpos
    by_cases h : m < 128
    · rw [enc_lt h]
      have ht : (m.toUInt8).toNat = m := toUInt8_toNat (by omega)
      show dec k (m.toUInt8 :: r) = _
      rw [dec, ht, if_neg (by omega), if_neg]
      · rfl
      · rintro (⟨h1, h2⟩ | ⟨h1, h2⟩)
        · have := hpos h1; omega
        · subst h1; simp at hm; omega
    · have h' : 128 ≤ m := by omega
      have hk9 : k < 9 := by
        rcases Nat.lt_or_ge k 9 with h | h
        · exact h
        · have : k = 9 := by omega
          subst this; simp at hm; omega
      rw [enc_ge h']
      have ht : ((m % 128 + 128).toUInt8).toNat = m % 128 + 128 := toUInt8_toNat (by omega)
      show dec k ((m % 128 + 128).toUInt8 :: (enc (m / 128) ++ r)) = _
      have hd : m / 128 < 128 ^ (9 - (k + 1)) * 2 := by
        rw [Nat.div_lt_iff_lt_mul (by decide), Nat.mul_right_comm, ← Nat.pow_succ, show (9 - (k + 1)).succ = 9 - k by omega]; exact hm
      rw [dec, ht, if_pos ⟨hk9, by omega⟩, ih (m / 128) (by omega) (k + 1) r (by omega) hd (by omega)]
      show Dec.ok _ _ = Dec.ok _ _
      rw [show 128 * (m / 128) + (m % 128 + 128 - 128) = m by omega]
      rfl
theorem dec_enc_cut : ∀ (m k j : Nat), k ≤ 9 → m < 128 ^ (9 - k) * 2 → j < (enc m).length → dec k ((enc m).take j) = .short := by
  intro m
  induction m using Nat.strongRecOn with
  | ind m ih =>
    intro k j hk hm hj
    cases j with
    | zero => rw [List.take_zero]; rfl
    | succ j =>
      by_cases h : m < 128
      · rw [enc_lt h] at hj; simp at hj
      · have h' : 128 ≤ m := by omega
        have hk9 : k < 9 := by
          rcases Nat.lt_or_ge k 9 with h | h
          · exact h
          · have : k = 9 := by omega
            subst this; simp at hm; omega
        rw [enc_ge h'] at hj ⊢
        have ht : ((m % 128 + 128).toUInt8).toNat = m % 128 + 128 := toUInt8_toNat (by omega)
        have hd : m / 128 < 128 ^ (9 - (k + 1)) * 2 := by
          rw [Nat.div_lt_iff_lt_mul (by decide), Nat.mul_right_comm, ← Nat.pow_succ, show (9 - (k + 1)).succ = 9 - k by omega]; exact hm
        show dec k ((m % 128 + 128).toUInt8 :: (enc (m / 128)).take j) = _
        rw [dec, ht, if_pos ⟨hk9, by omega⟩, ih (m / 128) (by omega) (k + 1) j (by omega) hd (by simpa using hj)]
        rfl
theorem lim64 {m : Nat} (h : m < 18446744073709551616) : m < 128 ^ (9 - 0) * 2 := Nat.lt_of_lt_of_le h (by decide)
theorem getU_enc (pre : List UInt8) (m : Nat) (r : List UInt8) (hm : m < 18446744073709551616) : getU (pre ++ (enc m ++ r)) (pre.length : Int) = (m, ((pre.length + (enc m).length : Nat) : Int), 0) := by
  rw [getU, if_neg (by simp; omega), Int.toNat_natCast, List.drop_left, dec_enc m 0 r (by omega) (lim64 hm) (by omega)]
  simp [Dec.at]
theorem getU_enc0 (m : Nat) (hm : m < 18446744073709551616) : getU (enc m) 0 = (m, ((enc m).length : Int), 0) := by
  have := getU_enc [] m [] hm
  simpa using this
theorem getU_cut (m j : Nat) (hm : m < 18446744073709551616) (hj : j < (enc m).length) : getU ((enc m).take j) 0 = (0, 0, 11) := by
  rw [getU, if_neg (by simp), show (0 : Int).toNat = 0 from rfl, List.drop_zero, dec_enc_cut m 0 j (by omega) (lim64 hm) hj]
  rfl

/-! ## order -/
theorem enc_len_iff : ∀ (k n : Nat), k < (enc n).length ↔ (k = 0 ∨ 128 ^ k ≤ n)
  | 0, n => by simp [enc_length_pos]
  | k + 1, n => by
    by_cases h : n < 128
    · rw [enc_lt h]
      have : 128 ^ 1 ≤ 128 ^ (k + 1) := Nat.pow_le_pow_right (by decide) (by omega)
      constructor
      · intro h; simp at h
      · rintro (h1 | h1) <;> omega
    · have h' : 128 ≤ n := by omega
      rw [enc_ge h', List.length_cons, Nat.add_lt_add_iff_right, enc_len_iff k (n / 128), Nat.pow_succ, Nat.le_div_iff_mul_le (by decide)]
      constructor
      · rintro (rfl | h1)
        · right; simpa using h'
        · exact .inr h1
      · rintro (h1 | h1)
        · omega
        · exact .inr h1
theorem enc_at : ∀ (k n : Nat), k < (enc n).length → ((enc n).getD k 0).toNat = dig n k + (if k + 1 < (enc n).length then 128 else 0)
  | k, n, hk => by
    by_cases h : n < 128
    · rw [enc_lt h] at hk ⊢
      have : k = 0 := by simpa using hk
      subst this
      show (n.toUInt8).toNat = _
      rw [toUInt8_toNat (by omega), dig_zero, Nat.mod_eq_of_lt h]; rfl
    · have h' : 128 ≤ n := by omega
      rw [enc_ge h'] at hk ⊢
      match k, hk with
      | 0, hk =>
        show ((n % 128 + 128).toUInt8).toNat = _
        have := enc_length_pos (n / 128)
        rw [toUInt8_toNat (by omega), dig_zero, if_pos (by simpa using this)]
      | k + 1, hk =>
        show ((enc (n / 128)).getD k 0).toNat = _
        rw [enc_at k (n / 128) (by simpa using hk), dig_succ, List.length_cons]
        congr 1
        by_cases hc : k + 1 < (enc (n / 128)).length
        · rw [if_pos hc, if_pos (by omega)]
        · rw [if_neg hc, if_neg (by omega)]
theorem dig_step (n k : Nat) : n / 128 ^ k = 128 * (n / 128 ^ (k + 1)) + dig n k := by
  rw [Nat.pow_succ, ← Nat.div_div_eq_div_mul]; unfold dig; omega
theorem div_lt {n m p : Nat} (h : n / p < m / p) : n < m := by
  rcases Nat.lt_or_ge n m with h1 | h1
  · exact h1
  · exact absurd (Nat.div_le_div_right (c := p) h1) (Nat.not_le.2 h)

/-! ## what is read is as it would be written -/
/-- bytes below 128 -/
def low (l : List UInt8) : Nat := l.countP fun c => decide (c.toNat < 128)
theorem low_append (a b : List UInt8) : low (a ++ b) = low a + low b := List.countP_append
theorem dec_ok : ∀ (l : List UInt8) (k n u : Nat), k ≤ 9 → dec k l = .ok n u → 0 < u ∧ u ≤ l.length ∧ l.take u = enc n ∧ (0 < k → 0 < n) ∧ low (l.take u) = 1
  | [], k, n, u, hk, h => by simp [dec] at h
  | c :: r, k, n, u, hk, h => by
    have hc256 := c.toNat_lt
    by_cases hc : k < 9 ∧ 128 ≤ c.toNat
    · rw [dec, if_pos hc] at h
      cases hd : dec (k + 1) r with
      | ok n' u' =>
        rw [hd] at h
        injection h with h1 h2
        subst h1 h2
        obtain ⟨i1, i2, i3, i4, i5⟩ := dec_ok r (k + 1) n' u' (by omega) hd
        have hn := i4 (by omega)
        refine ⟨by omega, by simp; omega, ?_, fun _ => by omega, ?_⟩
        · rw [enc_ge (by omega), List.take_succ_cons, i3, show (128 * n' + (c.toNat - 128)) / 128 = n' by omega, show (128 * n' + (c.toNat - 128)) % 128 + 128 = c.toNat by omega]
          simp
        · rw [List.take_succ_cons]
          show low ([c] ++ r.take u') = 1
          rw [low_append, i5]
          simp [low]; omega
      | short => rw [hd] at h; cases h
      | bad => rw [hd] at h; cases h
    · rw [dec, if_neg hc] at h
      split at h
      · cases h
      · rename_i hb
        injection h with h1 h2
        subst h1 h2
        refine ⟨by omega, by simp, ?_, fun _ => by omega, ?_⟩
        · rw [enc_lt (by omega)]; simp
        · simp [low]; omega
theorem dec_short : ∀ (l : List UInt8) (k : Nat), k ≤ 9 → dec k l = .short → l.length + k ≤ 9
  | [], k, hk, h => by simpa using hk
  | c :: r, k, hk, h => by
    by_cases hc : k < 9 ∧ 128 ≤ c.toNat
    · rw [dec, if_pos hc] at h
      cases hd : dec (k + 1) r with
      | ok n' u' => rw [hd] at h; cases h
      | bad => rw [hd] at h; cases h
      | short =>
        have := dec_short r (k + 1) (by omega) hd
        simp; omega
    · rw [dec, if_neg hc] at h
      split at h <;> cases h
theorem low_snoc (l : List UInt8) (i : Nat) (h : i < l.length) : low (l.take (i + 1)) = low (l.take i) + if (l.getD i 0).toNat < 128 then 1 else 0 := by
  have : l.take (i + 1) = l.take i ++ [l.getD i 0] := by rw [List.take_add_one]; simp [List.getD, h]
  rw [this, low_append]
  congr 1
  simp [low, List.countP_cons]
theorem low_le (l : List UInt8) : low l ≤ l.length := List.countP_le_length
end B1
