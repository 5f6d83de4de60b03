/- 'BytesCount' answers true. -/
import Derived.Test.YtbpcfkahnhlahaaB6
import Derived.Test.YtbpcfkahnhlahaaNestsP
set_option linter.unusedVariables false
set_option linter.unusedSimpArgs false
namespace Go.Proofs.Ytbpcfkahnhlahaa
open Go Go.Sx
set_option maxRecDepth 10000 in
theorem count_spec {w : World} {A : Option Addr} {c : Nat} {l : List UInt8} (h : Imm KB NoB w A l) (hlc : l.length ≤ c) (hlm : l.length ≤ maxLen) (from_ : Nat) (hfr : from_ < 65536) : CallsV Try.prog 6 #[.slice A l.length c, .int .u16 from_] w fun v w' => v = .bool true ∧ Ext w w' := by
  refine cardindexlaw01_BytesCount.calls okay ?_
  unfold cardindexlaw01_BytesCount.W
  have aw : ∀ w5, Ext w w5 → CallsV Try.prog 14 #[] w5 fun v w' => ∃ x, v = .bool x ∧ ((fun v w' => v = .bool true ∧ Ext w w' : Value → World → Prop) (.bool x) w') := by
    intro w5 e5
    refine (awake_spec w5).mono ?_
    rintro v w6 ⟨rfl, e6⟩
    exact ⟨_, rfl, rfl, e5.trans' e6⟩
  refine brd (fun _ => aw w (.refl _ _)) (fun hsm => ?_)
  have hl1 : IntKind.i64.wrap ((l.length : Int) + 1) = ((l.length + 1 : Nat) : Int) := by rw [wi _ (by omega) (by omega)]; omega
  have hf0 : ∃ f : Nat, f ≤ l.length ∧ Int.tmod (IntKind.i64.wrap (from_ : Int)) ((l.length + 1 : Nat) : Int) = (f : Int) := by
    refine ⟨from_ % (l.length + 1), by have := Nat.mod_lt from_ (show 0 < l.length + 1 by omega); omega, ?_⟩
    rw [wi _ (by omega) (by omega), Int.tmod_eq_emod_of_nonneg (by omega)]; omega
  rw [hl1]
  obtain ⟨f, hf, hfe⟩ := hf0
  rw [hfe]
  simp only [Int.toNat_natCast]
  refine ⟨by omega, ?_⟩
  refine ⟨fun x m A2 n2 c2 w2 => ∃ p k : Nat, x = (p : Int) ∧ f ≤ p ∧ p ≤ l.length ∧ m = (k : Int) ∧ n2 = ((l.drop f).take (p - f)).length ∧ OwnB w2 A2 c2 ((l.drop f).take (p - f)) ∧ Ext w w2 ∧ B1.low ((l.drop f).take (p - f)) = k, ?_, ?_⟩
  · rintro _ _ A2 _ c2 w2 ⟨p, k, rfl, hfp, hpl, rfl, rfl, ho, e2, hlow⟩
    simp only [Int.toNat_natCast]
    refine ⟨⟨by omega, by omega⟩, ⟨by omega, by omega⟩, ?_⟩
    have hcut : Imm KB NoB w2 (cutAt A c f 1) ((l.drop f).take (p - f)) := by
      have h1 := (h.ext KB_pos e2).cut (lo := f) (hi := p) (m := c) (by omega)
      rwa [List.drop_take] at h1
    have hlen : ((l.drop f).take (p - f)).length = p - f := by simp; omega
    generalize (l.drop f).take (p - f) = s at *
    refine ⟨fun lo i w3 => ∃ j : Nat, j ≤ s.length ∧ i = (j : Int) ∧ lo = ((B1.low (s.take j) : Nat) : Int) ∧ Ext w2 w3, fun _ i _ => (s.length - i).toNat, ⟨0, by omega, rfl, rfl, .refl _ _⟩, ?_⟩
    rintro _ _ w3 ⟨j, hj, rfl, rfl, e3⟩
    have hlle : B1.low (s.take j) ≤ s.length := Nat.le_trans (B1.low_le _) (by rw [List.length_take]; omega)
    refine brd (fun hlt => ?_) (fun hge => ?_)
    · obtain ⟨ad, hA, hc⟩ := byteI (hcut.ext KB_pos e3) (x := (j : Int)) (by omega) (by omega)
      refine ⟨ad, hA, ⟨by omega, by omega⟩, _, hc _ (.refl _ _), ?_⟩
      rw [Int.toNat_natCast]
      have hsn := B1.low_snoc s j (by omega)
      rw [wi ((j : Int) + 1) (by omega) (by omega)]
      generalize (s.getD j 0).toNat = b at *
      refine brd (fun hb => ?_) (fun hb => ?_)
      · rw [if_pos (by omega)] at hsn
        rw [wi _ (by omega) (by omega)]
        exact ⟨⟨j + 1, by omega, rfl, by rw [hsn]; rfl, e3⟩, by dsimp only; omega⟩
      · rw [if_neg (by omega)] at hsn
        exact ⟨⟨j + 1, by omega, rfl, by rw [hsn]; rfl, e3⟩, by dsimp only; omega⟩
    · obtain rfl : j = s.length := by omega
      rw [List.take_length, hlow]
      refine ⟨fun u => Ext w3 u, Fr.drew NoB w3, ?_⟩
      refine brd (fun _ => ?_) (fun h => absurd rfl h)
      refine ⟨_, to_str_all bt (ho.imm0.ext KB_pos e3) c2, ⟨by omega, by omega⟩, ⟨by omega, by omega⟩, _, by rw [← hlen]; exact to_str_all bt (hcut.ext KB_pos e3) _, ?_⟩
      refine brS (fun _ => ?_) (fun h => absurd rfl h)
      refine (awake_spec w3.drew).mono ?_
      rintro v w6 ⟨rfl, e6⟩
      exact ⟨true, rfl, fun u => Ext w3 u, fun u hu => hu, e6.drew0, rfl, (e2.trans' e3).trans' e6.drew0⟩
  · refine ⟨fun x m A2 n2 c2 i w2 => ∃ p k : Nat, x = (p : Int) ∧ f ≤ p ∧ p ≤ l.length ∧ m = (k : Int) ∧ n2 = ((l.drop f).take (p - f)).length ∧ OwnB w2 A2 c2 ((l.drop f).take (p - f)) ∧ New w A2 ∧ Ext w w2 ∧ B1.low ((l.drop f).take (p - f)) = k ∧ ∃ j : Nat, i = (j : Int) ∧ j ≤ l.length + 1,
      fun _ _ _ _ _ i _ => (l.length + 1 - i).toNat, ⟨f, 0, rfl, Nat.le_refl _, hf, rfl, by simp, by simpa using OwnB.nil _, New.none _, .refl _ _, by simp [B1.low], 0, rfl, by omega⟩, ?_⟩
    rintro _ _ A2 _ c2 _ w2 ⟨p, k, rfl, hfp, hpl, rfl, rfl, ho, hn2, e2, hlow, j, rfl, hj⟩
    have hJ : ∀ w3, Ext w2 w3 → ∃ p' k' : Nat, ((p : Nat) : Int) = (p' : Int) ∧ f ≤ p' ∧ p' ≤ l.length ∧ ((k : Nat) : Int) = (k' : Int) ∧ ((l.drop f).take (p - f)).length = ((l.drop f).take (p' - f)).length ∧ OwnB w3 A2 c2 ((l.drop f).take (p' - f)) ∧ Ext w w3 ∧ B1.low ((l.drop f).take (p' - f)) = k' :=
      fun w3 e3 => ⟨p, k, rfl, hfp, hpl, rfl, rfl, ho.ext e3, e2.trans' e3, hlow⟩
    refine brd (fun hlt => ?_) (fun hge => hJ w2 (.refl _ _))
    refine (GetUint_spec (h.ext KB_pos e2) (by omega) p).mono ?_
    rintro v w3 ⟨rfl, e3⟩
    refine ⟨_, _, _, rfl, ?_⟩
    have hg : B1.getU l (p : Int) = (B1.dec 0 (l.drop p)).at p := by rw [B1.getU, if_neg (by omega), Int.toNat_natCast]
    have hok := B1.dec_ok (l.drop p) 0
    have hsh := B1.dec_short (l.drop p) 0 (by omega)
    rw [hg]
    cases hd : B1.dec 0 (l.drop p) with
    | ok n u =>
      obtain ⟨u0, ul, ht, _, hl1⟩ := hok n u (by omega) hd
      rw [List.length_drop] at ul
      have hn64 : n < 18446744073709551616 := by
        have := getU_ok (l := l) (at_ := p)
        rw [hg, hd] at this
        obtain ⟨_, _, _, h, _⟩ := this rfl
        exact h
      show cond (!decide ((0 : Int) = 0)) _ _
      refine brn (fun h => absurd rfl h) (fun _ => ?_)
      show cond (decide ((p : Int) + u ≤ p)) _ _
      refine brd (fun h => absurd h (by omega)) (fun _ => ?_)
      refine brd (fun h => absurd h (by dsimp only [B1.Dec.at]; omega)) (fun _ => ?_)
      have hlen : ((l.drop f).take (p - f)).length = p - f := by simp; omega
      refine (Uint_spec (ho.ext e3) n (by omega) (by omega)).mono ?_
      rintro v w4 ⟨A4, c4, rfl, ho4, hg4, _⟩
      refine ⟨_, _, _, rfl, ?_⟩
      have hcat : (l.drop f).take (p - f) ++ B1.enc n = (l.drop f).take (p + u - f) := by
        rw [← ht, show p + u - f = (p - f) + u by omega, List.take_add, List.drop_drop, show f + (p - f) = p by omega]
      rw [hcat] at ho4 ⊢
      have hkl : k ≤ p - f := by have h9 := B1.low_le ((l.drop f).take (p - f)); omega
      rw [wi ((k : Int) + 1) (by omega) (by omega), wi ((j : Int) + 1) (by omega) (by omega)]
      refine ⟨⟨p + u, k + 1, rfl, by omega, by omega, rfl, rfl, ho4, hg4.new (e2.trans' e3) hn2, hg4.ext (e2.trans' e3) hn2, ?_, j + 1, rfl, by omega⟩, by dsimp only; omega⟩
      rw [← hcat, B1.low_append, hlow, ← ht, hl1]
    | short =>
      have := hsh hd
      rw [List.length_drop] at this
      show cond (!decide ((11 : Int) = 0)) _ _
      refine brn (fun _ => ?_) (fun h => by omega)
      refine brd (fun h => absurd (show (11 : Int) = 2 from h) (by decide)) (fun _ => ?_)
      refine brd (fun _ => ?_) (fun h => absurd rfl h)
      rw [wi _ (by omega) (by omega)]
      exact brd (fun h => absurd h (by omega)) (fun _ => hJ w3 e3)
    | bad =>
      show cond (!decide ((10 : Int) = 0)) _ _
      refine brn (fun _ => ?_) (fun h => by omega)
      refine brd (fun h => absurd (show (10 : Int) = 2 from h) (by decide)) (fun _ => ?_)
      exact brd (fun h => absurd (show (10 : Int) = 11 from h) (by decide)) (fun _ => hJ w3 e3)
end Go.Proofs.Ytbpcfkahnhlahaa
