/- Layer 1 (bytes): reading a number. -/
import Derived.Test.YtpaockbhbdeekaaB1
set_option linter.unusedVariables false
set_option linter.unusedSimpArgs false
namespace Go.Proofs.Ytpaockbhbdeekaa
open Go Go.Sx

theorem byteI {Ω : Nat → Prop} {w : World} {A : Option Addr} {l : List UInt8} (h : Imm KB Ω w A l) {x : Int} (h0 : 0 ≤ x) (h1 : x < (l.length : Nat)) :
    ∃ ad, A = some ad ∧ ∀ u, Ext w u → u.cell? (ad.add (x.toNat * 1)) = some (.int .u8 ((l.getD x.toNat 0).toNat : Int)) := by
  obtain ⟨ad, hA, _⟩ := h.byte (i := x.toNat) (by omega)
  refine ⟨ad, hA, fun u hu => ?_⟩
  obtain ⟨ad', hA', hc⟩ := (h.keep KB_pos (hu.step Ω)).byte (i := x.toNat) (by omega)
  rw [hA] at hA'; cases hA'
  rw [hc]
  have : x.toNat < l.length := by omega
  simp [List.getD, this]

def tri (r : Nat × Int × Int) : Value := .tuple #[.int .u64 r.1, .int .i64 r.2.1, .int .i64 r.2.2]

theorem GetUint_spec {Ω : Nat → Prop} {w : World} {A : Option Addr} {c : Nat} {l : List UInt8} (h : Imm KB Ω w A l) (hl : l.length ≤ 140737488355328) (at_ : Int) :
    CallsV Try.prog 53 #[.slice A l.length c, .int .i64 at_] w fun v w' => v = tri (B1.getU l at_) ∧ Ext w w' := by
  refine bytes_GetUint.calls okay ?_
  unfold bytes_GetUint.W
  refine brd (fun h0 => ?_) (fun h0 => ?_)
  · exact ⟨by rw [B1.getU, if_pos (.inl h0)]; rfl, .refl _ _⟩
  refine brd (fun h1 => ?_) (fun h1 => ?_)
  · exact ⟨by rw [B1.getU, if_pos (.inr h1)]; rfl, .refl _ _⟩
  obtain ⟨a, rfl⟩ : ∃ a : Nat, at_ = (a : Int) := ⟨at_.toNat, by omega⟩
  have hg : B1.getU l (a : Int) = (B1.dec 0 (l.drop a)).at a := by
    rw [B1.getU, if_neg (by omega), Int.toNat_natCast]
  have hm : (l.drop a).length = l.length - a := by simp
  have hgd : ∀ j, (l.drop a).getD j 0 = l.getD (a + j) 0 := fun j => B1.getD_drop l a j 0
  rw [B1.dec_eq] at hg
  have hsl := B1.scan_le (l.drop a) 0
  have hs9 := B1.scan_nine (l.drop a) 0 (by omega)
  have hbig := B1.vt_lt_u64 (l := l.drop a)
  have hscan := B1.scan_ge (l.drop a) 0
  have huniq := B1.scan_unique (l.drop a) 0
  generalize hsdef : B1.scan 0 (l.drop a) = s at *
  refine ⟨fun x w1 => x = ((a + s : Nat) : Int) ∧ w = w1, ?_, ?_⟩
  · rintro _ _ ⟨rfl, rfl⟩
    refine brd (fun he => ?_) (fun he => ?_)
    · exact ⟨by rw [hg, if_neg (by omega)]; rfl, .refl _ _⟩
    have hlt : s < (l.drop a).length := by omega
    rw [if_pos hlt] at hg
    have hb256 := ((l.drop a).getD s 0).toNat_lt
    obtain ⟨ad, hA, hc⟩ := byteI h (x := ((a + s : Nat) : Int)) (by omega) (by omega)
    rw [Int.toNat_natCast, ← hgd] at hc
    refine ⟨fun u => Ext w u, .drew _ _, ad, hA, ⟨by omega, by omega⟩, _, hc, ?_⟩
    refine ⟨fun w1 => Ext w w1 ∧ ¬ ((0 < 0 + s ∧ ((l.drop a).getD s 0).toNat = 0) ∨ (0 + s = 9 ∧ 2 ≤ ((l.drop a).getD s 0).toNat)), ?_, ?_⟩
    · rintro w1 ⟨he1, hnb⟩
      rw [if_neg hnb] at hg
      have hbig := hbig hlt (fun h2 => hnb (.inr ⟨by omega, h2.2⟩))
      have hx1 : IntKind.i64.wrap (((a + s : Nat) : Int) - 1) = ((a + s : Nat) : Int) - 1 := wi _ (by omega) (by omega)
      refine ⟨fun i n w2 => ∃ j : Nat, j ≤ s ∧ i = ((a + j : Nat) : Int) - 1 ∧ n = (B1.vt (s - j) ((l.drop a).drop j) : Nat) ∧ Ext w w2, fun i _ _ => (i + 1).toNat,
        ⟨s, Nat.le_refl _, hx1, ?_, he1⟩, ?_⟩
      · rw [wu _ (by omega) (by omega), Nat.sub_self, B1.vt_zero _ (by simp; omega), B1.getD_drop (l.drop a) s 0 0]; rfl
      · rintro _ _ w2 ⟨j, hj, rfl, rfl, he2⟩
        refine brd (fun hle => ?_) (fun hle => ?_)
        · obtain ⟨j, rfl⟩ : ∃ j', j = j' + 1 := ⟨j - 1, by omega⟩
          obtain ⟨ad, hA, hc⟩ := byteI h (x := ((a + (j + 1) : Nat) : Int) - 1) (by omega) (by omega)
          refine ⟨ad, hA, ⟨by omega, by omega⟩, _, hc _ he2, ?_⟩
          have e1 : (((a + (j + 1) : Nat) : Int) - 1).toNat = a + j := by omega
          rw [e1, ← hgd]
          have hge := hscan j (by omega)
          have hlt' := ((l.drop a).getD j 0).toNat_lt
          have hv := B1.vt_drop j s (l.drop a) (by omega) (by omega)
          have hvm := B1.vt_mono s (l.drop a) j (by omega) (by omega)
          have e2 : IntKind.u64.wrap (IntKind.u64.wrap (((B1.vt (s - (j + 1)) ((l.drop a).drop (j + 1)) : Nat) : Int) * 128) + IntKind.u64.wrap (IntKind.u8.wrap ((((l.drop a).getD j 0).toNat : Int) - 128)))
              = ((B1.vt (s - j) ((l.drop a).drop j) : Nat) : Int) := by
            rw [w8 _ (by omega) (by omega), wu ((((l.drop a).getD j 0).toNat : Int) - 128) (by omega) (by omega), wu (_ * 128) (by omega) (by omega), wu _ (by omega) (by omega), hv]
            omega
          have e3 : IntKind.i64.wrap (((a + (j + 1) : Nat) : Int) - 1 - 1) = ((a + j : Nat) : Int) - 1 := by rw [wi _ (by omega) (by omega)]; omega
          rw [e2, e3]
          exact ⟨⟨j, by omega, rfl, rfl, he2⟩, by dsimp only; omega⟩
        · obtain rfl : j = 0 := by omega
          refine ⟨?_, he2⟩
          rw [hg]
          have e4 : IntKind.i64.wrap (((a + s : Nat) : Int) - a) = (s : Int) := by rw [wi _ (by omega) (by omega)]; omega
          have e5 : IntKind.i64.wrap ((s : Int) + 1) = ((s + 1 : Nat) : Int) := by rw [wi _ (by omega) (by omega)]; omega
          have e6 : IntKind.i64.wrap ((a : Int) + ((s + 1 : Nat) : Int)) = (a : Int) + ((s + 1 : Nat) : Int) := wi _ (by omega) (by omega)
          rw [e4, e5, e6]
          rfl
    · have e4 : IntKind.i64.wrap (((a + s : Nat) : Int) - a) = (s : Int) := by rw [wi _ (by omega) (by omega)]; omega
      have e5 : IntKind.i64.wrap ((s : Int) + 1) = ((s + 1 : Nat) : Int) := by rw [wi _ (by omega) (by omega)]; omega
      rw [e4, e5]
      have hbad : ((0 < 0 + s ∧ ((l.drop a).getD s 0).toNat = 0) ∨ (0 + s = 9 ∧ 2 ≤ ((l.drop a).getD s 0).toNat)) → (Value.tuple #[.int .u64 0, .int .i64 0, .int .i64 10] = tri (B1.getU l (a : Int))) := by
        intro hb; rw [hg, if_pos hb]; rfl
      refine brd (fun h1 => ?_) (fun h1 => ?_)
      · refine brd (fun h2 => ?_) (fun h2 => ?_)
        · exact ⟨hbad (.inl ⟨by omega, by omega⟩), .drew _ _⟩
        refine brd (fun h3 => ?_) (fun h3 => ?_)
        · refine brd (fun h4 => ?_) (fun h4 => ?_)
          · exact ⟨hbad (.inr ⟨by omega, by omega⟩), .drew _ _⟩
          · exact ⟨.drew _ _, by omega⟩
        · exact ⟨.drew _ _, by omega⟩
      · refine brd (fun h3 => ?_) (fun h3 => ?_)
        · refine brd (fun h4 => ?_) (fun h4 => ?_)
          · exact ⟨hbad (.inr ⟨by omega, by omega⟩), .drew _ _⟩
          · exact ⟨.drew _ _, by omega⟩
        · exact ⟨.drew _ _, by omega⟩
  · refine ⟨fun x w1 => ∃ j : Nat, x = ((a + j : Nat) : Int) ∧ j ≤ 9 ∧ j ≤ (l.drop a).length ∧ (∀ i, i < j → 128 ≤ ((l.drop a).getD i 0).toNat) ∧ w = w1, fun x _ => (l.length - x).toNat, ⟨0, rfl, by omega, by omega, fun i hi => by omega, rfl⟩, ?_⟩
    rintro _ _ ⟨j, rfl, hj9, hjl, hge, rfl⟩
    refine brd (fun h2 => ?_) (fun h2 => ?_)
    · have e1 : IntKind.i64.wrap (IntKind.i64.wrap ((a : Int) + 10) - 1) = (a : Int) + 9 := by
        rw [wi ((a : Int) + 10) (by omega) (by omega), wi _ (by omega) (by omega)]; omega
      rw [e1]
      refine brd (fun h3 => ?_) (fun h3 => ?_)
      · obtain ⟨ad, hA, hc⟩ := byteI h (x := ((a + j : Nat) : Int)) (by omega) (by omega)
        rw [Int.toNat_natCast, ← hgd] at hc
        refine ⟨ad, hA, ⟨by omega, by omega⟩, _, hc _ (.refl _ _), ?_⟩
        refine brd (fun h4 => ?_) (fun h4 => ?_)
        · have e3 : IntKind.i64.wrap (((a + j : Nat) : Int) + 1) = ((a + (j + 1) : Nat) : Int) := by rw [wi _ (by omega) (by omega)]; omega
          rw [e3]
          exact ⟨⟨j + 1, rfl, by omega, by omega, fun i hi => if hij : i = j then by subst hij; omega else hge i (by omega), rfl⟩, by dsimp only; omega⟩
        · exact ⟨by rw [huniq j (by omega) hjl hge (.inr (.inr (by omega)))], rfl⟩
      · exact ⟨by rw [huniq j (by omega) hjl hge (.inr (.inl (by omega)))], rfl⟩
    · exact ⟨by rw [huniq j (by omega) hjl hge (.inl (by omega))], rfl⟩
end Go.Proofs.Ytpaockbhbdeekaa
