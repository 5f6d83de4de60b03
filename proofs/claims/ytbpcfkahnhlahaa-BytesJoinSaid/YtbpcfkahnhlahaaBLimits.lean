/- 'BytesLimits' answers true. -/
import Derived.Test.YtbpcfkahnhlahaaB7
import Derived.Test.YtbpcfkahnhlahaaNestsL
set_option linter.unusedVariables false
set_option linter.unusedSimpArgs false
namespace Go.Proofs.Ytbpcfkahnhlahaa
open Go Go.Sx
theorem encBs_bound (bs : List (List UInt8)) (m : Nat) (h : ∀ b ∈ bs, b.length ≤ m) (hm : m < 1000000) : (bs.flatMap encB).length ≤ bs.length * (m + 10) := by
  induction bs with
  | nil => simp
  | cons b bs ih =>
    have h1 := h b (by simp)
    have h2 := ih (fun x hx => h x (by simp [hx]))
    have h3 := B1.enc_le_ten (m := b.length) (by omega)
    rw [List.flatMap_cons, List.length_append, encB_length, List.length_cons, Nat.add_mul, Nat.one_mul]
    omega
set_option maxRecDepth 10000 in
theorem limits_spec {w : World} {L : Option Addr} {cl : Nat} {bs : List (List UInt8)} (h : Imm KBs NoB w L bs) (hlm : bs.length ≤ maxLen) (many most : Int) (hmany : -9223372036854775808 ≤ many ∧ many ≤ 9223372036854775807) (hmost : -9223372036854775808 ≤ most ∧ most ≤ 9223372036854775807) (cut : Nat) (hcut : cut < 65536) :
    CallsV Try.prog 9 #[.slice L bs.length cl, .int .i64 many, .int .i64 most, .int .u16 cut] w fun v w' => v = .bool true ∧ Ext w w' := by
  refine cardindexlaw01_BytesLimits.calls okay ?_
  unfold cardindexlaw01_BytesLimits.W
  have aw : ∀ w5, Ext w w5 → CallsV Try.prog 14 #[] w5 fun v w' => ∃ x, v = .bool x ∧ ((fun v w' => v = .bool true ∧ Ext w w' : Value → World → Prop) (.bool x) w') := by
    intro w5 e5
    refine (awake_spec w5).mono ?_
    rintro v w6 ⟨rfl, e6⟩
    exact ⟨_, rfl, rfl, e5.trans' e6⟩
  refine brd (fun _ => aw w (.refl _ _)) (fun hsm => ?_)
  refine ⟨fun lg i w1 => ∃ j g : Nat, j ≤ bs.length ∧ i = (j : Int) ∧ lg = (g : Int) ∧ (∀ k, k < j → (bs.getD k []).length ≤ 80 ∧ (bs.getD k []).length ≤ g) ∧ (g = 0 ∨ ∃ k, k < j ∧ g = (bs.getD k []).length) ∧ Ext w w1, fun _ i _ => (bs.length - i).toNat, ⟨0, 0, by omega, rfl, rfl, fun k hk => by omega, .inl rfl, .refl _ _⟩, ?_⟩
  rintro _ _ w1 ⟨j, g, hj, rfl, rfl, hall, hg, e1⟩
  refine brd (fun hlt => ?_) (fun hge => ?_)
  · obtain ⟨ad, hA, B, cb, hcb, hi, hc⟩ := itemI (h.ext KBs_pos e1) (x := (j : Int)) (by omega) (by omega)
    refine ⟨ad, hA, ⟨by omega, by omega⟩, _, _, _, hc _ (.refl _ _), ?_⟩
    rw [Int.toNat_natCast]
    generalize hb : bs.getD j [] = b at *
    refine brd (fun _ => aw w1 e1) (fun h80 => ?_)
    rw [wi ((j : Int) + 1) (by omega) (by omega)]
    have hmx : (if (b.length : Int) > (g : Int) then (b.length : Int) else (g : Int)) = ((max b.length g : Nat) : Int) := by split <;> omega
    rw [hmx]
    refine ⟨⟨j + 1, max b.length g, by omega, rfl, rfl, fun k hk => ?_, ?_, e1⟩, by dsimp only; omega⟩
    · by_cases hkj : k = j
      · subst hkj; rw [hb]; omega
      · have := hall k (by omega); omega
    · rcases Nat.le_total b.length g with h1 | h1
      · rcases hg with h2 | ⟨k, hk, h2⟩
        · left; omega
        · right; exact ⟨k, by omega, by omega⟩
      · right; exact ⟨j, by omega, by rw [hb]; omega⟩
  obtain rfl : j = bs.length := by omega
  have hmem : ∀ b ∈ bs, b.length ≤ 80 ∧ b.length ≤ g := by
    intro b hb
    obtain ⟨k, hk, rfl⟩ := List.getElem_of_mem hb
    have := hall k hk
    simpa [List.getD, hk] using this
  have hgm : g = 0 ∨ ∃ b ∈ bs, g = b.length := by
    rcases hg with h1 | ⟨k, hk, h1⟩
    · exact .inl h1
    · exact .inr ⟨bs.getD k [], by simp [List.getD, hk], h1⟩
  have h64 : ∀ b ∈ bs, b.length < 18446744073709551616 := fun b hb => by have := hmem b hb; omega
  have hfl := encBs_bound bs 80 (fun b hb => (hmem b hb).1) (by omega)
  have hel : (encBs bs).length = (B1.enc bs.length).length + (bs.flatMap encB).length := by simp [encBs]
  have he10 := B1.enc_le_ten (m := bs.length) (by omega)
  have he1 : (B1.enc bs.length).length = 1 := by rw [B1.enc_lt (by omega)]; rfl
  refine (Blobs_spec (OwnB.nil _) (Imm.none (h.ext KBs_pos e1) KBs_pos) (by omega) (by simp; omega)).mono ?_
  rw [List.nil_append]
  rintro v w2 ⟨A, ca, rfl, ho, hg2⟩
  have e2 := e1.trans' (hg2.ext (.refl _ _) (New.none _))
  refine ⟨_, _, _, rfl, ?_⟩
  refine (GetBlobs_spec ho.imm0 (by omega) ho.le 0 many most (by omega) (by omega)).mono ?_
  rintro v w3 ⟨_, _, rfl, _, e3, _⟩
  refine ⟨_, _, _, _, _, rfl, ?_⟩
  have e23 := e3
  have e3 := e2.trans' e3
  have hle := ho.le
  have hfull := getBs_full (l := encBs bs) (r := []) (p := 0) many most (by simp) (by omega) (by omega) h64
  rw [Nat.zero_add, show ((0 : Nat) : Int) = 0 from rfl] at hfull
  have hmt : Int.tmod (IntKind.i64.wrap (cut : Int)) ((encBs bs).length : Int) = ((cut % (encBs bs).length : Nat) : Int) := by
    rw [wi _ (by omega) (by omega), Int.tmod_eq_emod_of_nonneg (by omega)]; omega
  have hclt : cut % (encBs bs).length < (encBs bs).length := Nat.mod_lt _ (by omega)
  have hi3 := ho.imm0
  rw [hmt]
  simp only [Int.toNat_natCast]
  generalize hk : cut % (encBs bs).length = k at *
  have hcutI : ∀ u, Ext w u → Ext w2 u → Imm KB NoB u (cutAt A ca 0 1) ((encBs bs).take k) := fun u _ hu => by
    have h1 := (hi3.ext KB_pos hu).cut (lo := 0) (hi := k) (m := ca) (by omega)
    rwa [List.drop_zero] at h1
  have hlk : ((encBs bs).take k).length = k - 0 := by rw [List.length_take]; omega
  have hf11 : (getBs ((encBs bs).take k) 0 10 80).2.2 = 11 := by
    rw [getBs_cut 10 80 hclt (by omega) (by omega) (fun b hb => ⟨by have := hmem b hb; omega, h64 b hb⟩)]
  have hg3 : 0 < k → (getBs ((encBs bs).take k) 0 ((bs.length : Int) - 1) 80).2.2 = 3 := fun h0 => by
    rw [getBs_long _ 80 (by omega) (by omega) (by omega)]
  have hg0 : k = 0 → (getBs ((encBs bs).take k) 0 ((bs.length : Int) - 1) 80).2.2 = 11 := fun h0 => by
    subst h0; rw [List.take_zero]; rfl
  have hz0 : bs.length = 0 → ∀ b ∈ bs, ¬ (most < 0 ∨ most < (b.length : Int)) := fun h0 b hb => by
    rw [List.eq_nil_of_length_eq_zero h0] at hb; cases hb
  refine brd (fun c1 => brd (fun c2 => brd (fun c3 => ⟨fun w4 => Ext w2 w4, ?_, ?_⟩) (fun c3 => absurd c3 (by omega))) (fun c2 => brd (fun c4 => brd (fun c3 => ⟨fun w4 => Ext w2 w4, ?_, ?_⟩) (fun c3 => ⟨fun w4 => Ext w2 w4, ?_, ?_⟩)) (fun c4 => ⟨fun w4 => Ext w2 w4, ?_, ?_⟩))) (fun c1 => ⟨fun w4 => Ext w2 w4, ?_, ?_⟩)
  all_goals first
  | (intro w4 e4
     refine brd (fun h => absurd h (by omega)) (fun _ => ⟨by omega, ⟨by omega, by omega⟩, ?_⟩)
     rw [← hlk]
     refine (GetBlobs_spec (hcutI w4 (e2.trans' e4) e4) (by omega) (by omega) 0 10 80 (by decide) (by decide)).mono ?_
     rintro v w5 ⟨_, _, rfl, _, e5, _⟩
     refine ⟨_, _, _, _, _, rfl, ⟨by omega, by omega⟩, ?_⟩
     rw [wi ((bs.length : Int) - 1) (by omega) (by omega)]
     refine (GetBlobs_spec (hcutI w5 ((e2.trans' e4).trans' e5) (e4.trans' e5)) (by omega) (by omega) 0 ((bs.length : Int) - 1) 80 (by decide) (by omega)).mono ?_
     rintro v w6 ⟨_, _, rfl, _, e6, _⟩
     refine ⟨_, _, _, _, _, rfl, ?_⟩
     have e6 : Ext w w6 := ((e2.trans' e4).trans' e5).trans' e6
     refine ⟨fun w7 => Ext w w7, ?_, ?_⟩
     · intro w7 e7
       exact brd (fun _ => aw w7 e7) (fun h => absurd hf11 h)
     · refine brd (fun h0 => ?_) (fun h0 => ?_)
       · exact brn (fun h => absurd (hg3 (by omega)) h) (fun _ => brd (fun h => absurd h (by omega)) (fun _ => e6))
       · exact brd (fun h => brn (fun h => absurd (hg0 (by omega)) h) (fun _ => e6)) (fun _ => e6))
  | skip
  · rw [hfull, if_neg (by omega), if_pos (fun b hb => by have := hmem b hb; omega)]
    refine brn (fun h => absurd (by simp) h) (fun _ => ?_)
    exact brn (fun h => absurd rfl h) (fun _ => e23)
  · rw [hfull, if_neg (by omega), if_pos (hz0 (by omega))]
    refine brn (fun h => absurd (by simp) h) (fun _ => ?_)
    exact brn (fun h => absurd rfl h) (fun _ => e23)
  · rw [hfull, if_neg (by omega), if_pos (hz0 (by omega))]
    refine brn (fun h => absurd (by rw [decide_eq_true c4]; rfl) h) (fun _ => ?_)
    refine brn (fun h => absurd c4 h) (fun _ => ?_)
    refine brd (fun _ => ?_) (fun h => absurd c4 h)
    exact brn (fun h => absurd rfl h) (fun _ => e23)
  · have hr : ¬ ∀ b ∈ bs, ¬ (most < 0 ∨ most < (b.length : Int)) := fun hall => by
      rcases hgm with h1 | ⟨b, hb, h1⟩
      · have hp : 0 < bs.length := by omega
        have := hall bs[0] (by simp)
        omega
      · have := hall b hb
        omega
    rw [hfull, if_neg (by omega), if_neg hr]
    refine brn (fun h => absurd (by simp) h) (fun _ => ?_)
    exact brn (fun h => absurd rfl h) (fun _ => e23)
  · rw [hfull, if_pos (by omega)]
    refine brn (fun h => absurd (by simp) h) (fun _ => ?_)
    exact brn (fun h => absurd rfl h) (fun _ => e23)
end Go.Proofs.Ytbpcfkahnhlahaa
