/- 'BytesPowers' answers true. -/
import Derived.Test.YtbpcfkahnhlahaaB6
import Derived.Test.YtbpcfkahnhlahaaNestsP
set_option linter.unusedVariables false
set_option linter.unusedSimpArgs false
namespace Go.Proofs.Ytbpcfkahnhlahaa
open Go Go.Sx
theorem sb_append' (x y : ByteArray) : sb (x ++ y) = sb x ++ sb y := by simp [sb]
theorem eq_sb (x y : ByteArray) : (ByteArray.toList x == ByteArray.toList y) = decide (sb x = sb y) := by
  rw [ByteArray.toList_eq, ByteArray.toList_eq]
  by_cases h : sb x = sb y
  · rw [decide_eq_true h]; simp [sb] at h; simp [h]
  · rw [decide_eq_false h]; simp [sb] at h; simp [h]
theorem powers_spec (n m : Nat) (hn : n < 18446744073709551616) (hm : m < 18446744073709551616) (w : World) : CallsV Try.prog 7 #[.int .u64 n, .int .u64 m] w fun v w' => v = .bool true ∧ Ext w w' := by
  refine cardindexlaw01_BytesPowers.calls okay ?_
  unfold cardindexlaw01_BytesPowers.W
  refine (Uint_spec (OwnB.nil _) n (by omega) (by simp)).mono ?_
  rintro v w1 ⟨A, ca, rfl, hoA, hgA, _⟩
  refine ⟨_, _, _, rfl, ?_⟩
  refine (Uint_spec (OwnB.nil _) m (by omega) (by simp)).mono ?_
  rintro v w2 ⟨B, cb, rfl, hoB, hgB, _⟩
  refine ⟨_, _, _, rfl, ?_⟩
  simp only [List.nil_append] at *
  have e1 := hgA.ext (.refl _ _) (New.none _)
  have e2 := hgB.ext (.refl _ _) (New.none _)
  have iA := hoA.imm0.ext KB_pos e2
  have iB := hoB.imm0
  have e02 := e1.trans' e2
  have lnn : 0 < (B1.enc n).length := B1.enc_length_pos n
  have lnm : 0 < (B1.enc m).length := B1.enc_length_pos m
  have ln10 := B1.enc_le_ten hn
  have lm10 := B1.enc_le_ten hm
  have hin := fun k => B1.enc_len_iff k n
  have him := fun k => B1.enc_len_iff k m
  have han := fun k => B1.enc_at k n
  have ham := fun k => B1.enc_at k m
  refine ⟨fun x k w3 => ∃ j : Nat, 1 ≤ j ∧ j ≤ 10 ∧ k = (j : Int) ∧ x = ((min j (B1.enc n).length : Nat) : Int) ∧ Ext w2 w3, fun _ k _ => (10 - k).toNat, ⟨1, by omega, by omega, rfl, by omega, .refl _ _⟩, ?_⟩
  rintro _ _ w3 ⟨j, hj1, hj, rfl, rfl, e3⟩
  refine brd (fun hlt => ?_) (fun hlt => ?_)
  · have h7 : IntKind.i64.wrap (7 * (j : Int)) = ((7 * j : Nat) : Int) := by rw [wi _ (by omega) (by omega)]; simp
    rw [h7, Int.toNat_natCast, show min (7 * j) 64 = 7 * j by omega]
    have hp : ((2 : Int) ^ (7 * j)) = ((128 ^ j : Nat) : Int) := by rw [show (128 : Nat) ^ j = 2 ^ (7 * j) by rw [Nat.pow_mul]]; simp
    have hlt9 : 128 ^ j ≤ 128 ^ 9 := Nat.pow_le_pow_right (by decide) (by omega)
    have h9 : (128 : Nat) ^ 9 = 9223372036854775808 := by decide
    have h1 : 1 ≤ 128 ^ j := Nat.one_le_pow _ _ (by decide)
    rw [hp, Int.one_mul, wu _ (by omega) (by omega), wi ((j : Int) + 1) (by omega) (by omega)]
    refine ⟨by omega, brd (fun hle => ?_) (fun hle => ?_)⟩
    · have := (hin j).2 (.inr (by omega))
      rw [wi _ (by omega) (by omega)]
      exact ⟨⟨j + 1, by omega, by omega, by omega, by omega, e3⟩, by dsimp only; omega⟩
    · have : ¬ j < (B1.enc n).length := fun h => by
        rcases (hin j).1 h with h | h <;> omega
      exact ⟨⟨j + 1, by omega, by omega, by omega, by omega, e3⟩, by dsimp only; omega⟩
  obtain rfl : j = 10 := by omega
  refine brn (fun h => absurd (by omega) h) (fun _ => ?_)
  refine brd (fun h => absurd h (by omega)) (fun _ => ?_)
  refine ⟨fun b w4 => b = decide (n < m) ∧ Ext w2 w4, ?_, ?_⟩
  · rintro _ w4 ⟨rfl, e4⟩
    refine brn (fun h => absurd (by simp) h) (fun _ => ?_)
    have aw : ∀ w5, Ext w2 w5 → CallsV Try.prog 14 #[] w5 fun v w' => ∃ x, v = .bool x ∧ ((fun v w' => v = .bool true ∧ Ext w w' : Value → World → Prop) (.bool x) w') := by
      intro w5 e5
      refine (awake_spec w5).mono ?_
      rintro v w6 ⟨rfl, e6⟩
      exact ⟨_, rfl, rfl, (e02.trans' e5).trans' e6⟩
    refine brd (fun _ => aw w4 e4) (fun hn0 => ?_)
    refine brd (fun _ => aw w4 e4) (fun hbig => ?_)
    refine ⟨fun u => Ext w4 u, Fr.drew NoB w4, by decide, _, to_str_all bt (iA.ext KB_pos e4) ca, by simp [ByteArray.size]; omega, ?_⟩
    have hx : IntKind.u64.wrap ((n : Int) * 2 ^ min (Int.toNat 7) 64) = ((128 * n : Nat) : Int) := by
      rw [show ((2 : Int) ^ min (Int.toNat 7) 64) = 128 from by decide, wu _ (by omega) (by omega)]; omega
    rw [hx]
    refine (Uint_spec (OwnB.nil _) (128 * n) (by omega) (by simp)).mono ?_
    rintro v w5 ⟨C, cc, rfl, hoC, hgC, _⟩
    rw [List.nil_append] at hoC ⊢
    have e5 : Ext w4 w5 := (hgC.ext (.refl _ _) (New.none _)).drew0
    refine ⟨_, _, _, rfl, fun u => Ext w5 u, fun u hu => e5.trans' hu, .refl _ _, _, to_str_all bt hoC.imm0 cc, ?_⟩
    rw [eq_sb]
    refine brd (fun _ => ?_) (fun h => absurd ?_ h)
    · refine (awake_spec w5).mono ?_
      rintro v w6 ⟨rfl, e6⟩
      exact ⟨_, rfl, fun u => Ext w5 u, fun u hu => hu, e6, rfl, ((e02.trans' e4).trans' e5).trans' e6⟩
    · rw [sb_append', B1.enc_ge (by omega), Nat.mul_mod_right, Nat.mul_div_cancel_left _ (by decide)]
      simp [sb]
  · have hfin : ∀ k : Nat, (n / 128 ^ 0 = m / 128 ^ 0) → (decide (n < m) = false) := by
      intro k h; simp at h; simp [h]
    refine ⟨fun b k w4 => ∃ j : Nat, k = (j : Int) - 1 ∧ j ≤ (B1.enc n).length ∧ Ext w2 w4 ∧
        (((B1.enc n).length = (B1.enc m).length ∧ b = false ∧ n / 128 ^ j = m / 128 ^ j) ∨ ((B1.enc n).length ≠ (B1.enc m).length ∧ b = decide (n < m))), fun _ k _ => (k + 1).toNat,
      ⟨(B1.enc n).length, by rw [wi _ (by omega) (by omega)], by omega, e3, ?_⟩, ?_⟩
    · by_cases hl : (B1.enc n).length = (B1.enc m).length
      · refine .inl ⟨hl, by simp [hl], ?_⟩
        have h1 : n < 128 ^ (B1.enc n).length := by
          rcases Nat.lt_or_ge n (128 ^ (B1.enc n).length) with h | h
          · exact h
          · exact absurd ((hin _).2 (.inr h)) (by omega)
        have h2 : m < 128 ^ (B1.enc n).length := by
          rcases Nat.lt_or_ge m (128 ^ (B1.enc n).length) with h | h
          · exact h
          · exact absurd ((him _).2 (.inr h)) (by omega)
        rw [Nat.div_eq_of_lt h1, Nat.div_eq_of_lt h2]
      · refine .inr ⟨hl, ?_⟩
        rcases Nat.lt_or_ge (B1.enc n).length (B1.enc m).length with h | h
        · have : n < m := by
            have h1 : n < 128 ^ (B1.enc n).length := by
              rcases Nat.lt_or_ge n (128 ^ (B1.enc n).length) with h | h
              · exact h
              · exact absurd ((hin _).2 (.inr h)) (by omega)
            rcases (him _).1 h with h2 | h2 <;> omega
          simp [this]; omega
        · have : m < n := by
            have h1 : m < 128 ^ (B1.enc m).length := by
              rcases Nat.lt_or_ge m (128 ^ (B1.enc m).length) with h | h
              · exact h
              · exact absurd ((him _).2 (.inr h)) (by omega)
            rcases (hin (B1.enc m).length).1 (by omega) with h2 | h2 <;> omega
          simp; omega
    · rintro b _ w4 ⟨j, rfl, hj2, e4, hst⟩
      refine brd (fun hge => ?_) (fun hge => ?_)
      · obtain ⟨j, rfl⟩ : ∃ i, j = i + 1 := ⟨j - 1, by omega⟩
        refine brd (fun heq => ?_) (fun hne => ?_)
        · obtain ⟨hl, rfl, hd⟩ := hst.elim id (fun h => absurd (by omega) h.1)
          have hx : ((j + 1 : Nat) : Int) - 1 = (j : Int) := by omega
          rw [hx]
          obtain ⟨ad, hA, hc⟩ := byteI (iA.ext KB_pos e4) (x := (j : Int)) (by omega) (by omega)
          obtain ⟨ad', hB, hc'⟩ := byteI (iB.ext KB_pos e4) (x := (j : Int)) (by omega) (by omega)
          rw [Int.toNat_natCast] at hc hc' ⊢
          have vn := han j (by omega)
          have vm := ham j (by omega)
          rw [← hl] at vm
          have sn := B1.dig_step n j
          have sm := B1.dig_step m j
          refine ⟨fun u => Ext w4 u, Fr.drew NoB w4, ad, hA, ⟨by omega, by omega⟩, _, hc, ad', hB, ⟨by omega, by omega⟩, _, hc', ?_⟩
          refine brn (fun hne => ?_) (fun heq => ?_)
          · refine ⟨fun u => Ext w4 u, Ext.drew (Fr.drew NoB w4), ad, hA, ⟨by omega, by omega⟩, _, hc, ad', hB, ⟨by omega, by omega⟩, _, hc', ?_, e4.drew.drew⟩
            rcases Nat.lt_or_ge (B1.dig n j) (B1.dig m j) with h | h
            · have : n < m := B1.div_lt (p := 128 ^ j) (by omega)
              rw [decide_eq_true this, decide_eq_true (by omega)]
            · have : m < n := B1.div_lt (p := 128 ^ j) (by omega)
              rw [decide_eq_false (by omega), decide_eq_false (by omega)]
          · rw [wi _ (by omega) (by omega)]
            exact ⟨⟨j, rfl, by omega, e4.drew, .inl ⟨hl, rfl, by omega⟩⟩, by dsimp only; omega⟩
        · rcases hst with h | h
          · exact absurd h.1 (by omega)
          · exact ⟨h.2, e4⟩
      · obtain rfl : j = 0 := by omega
        rcases hst with ⟨hl, rfl, hd⟩ | h
        · exact ⟨(hfin 0 hd).symm, e4⟩
        · exact ⟨h.2, e4⟩
end Go.Proofs.Ytbpcfkahnhlahaa
