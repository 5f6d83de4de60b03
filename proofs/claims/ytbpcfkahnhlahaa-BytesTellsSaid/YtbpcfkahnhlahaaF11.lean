/- The document's answer for layer 1: strings, lists of strings. -/
import Derived.Test.YtbpcfkahnhlahaaF5
import Derived.Test.YtbpcfkahnhlahaaB4
set_option linter.unusedVariables false
set_option linter.unusedSimpArgs false
namespace Go.Proofs.Ytbpcfkahnhlahaa
open Go Go.Sx

theorem BlobR_spec {w : World} {A B : Option Addr} {c d n m : Nat} {l b : List UInt8} (hn : n = l.length) (hm : m = b.length) (h : Imm KB NoB w A l) (hB : Imm KB NoB w B b) (hl : l.length + b.length ≤ 1000000000000) :
    CallsV Try.prog 24 #[.slice A n c, .slice B m d] w fun r w' => MadeB w (l ++ encB b) r w' := by
  subst hm
  refine cardindexref01_Blob.calls okay ?_
  unfold cardindexref01_Blob.W
  rw [wu _ (by omega) (by omega)]
  refine (UintR_spec hn h b.length (by omega) (by omega)).mono ?_
  rintro _ w1 ⟨X, cX, rfl, oX, e1, nX⟩
  refine ⟨_, _, _, rfl, ?_⟩
  have := B1.enc_le_ten (m := b.length) (by omega)
  refine (behind_spec rfl rfl oX.imm0 (hB.ext KB_pos e1) (by rw [List.length_append]; omega)).mono ?_
  rintro _ w2 ⟨Y, cY, rfl, oY, e2, nY⟩
  refine ⟨_, _, _, rfl, Y, cY, ?_, ?_, e1.trans' e2, nY.ext e1⟩
  · simp [encB]
  · unfold encB; rw [← List.append_assoc]; exact oY
theorem BlobsR_spec {w : World} {A L : Option Addr} {c cl n m : Nat} {l : List UInt8} {bs : List (List UInt8)} (hn : n = l.length) (hm : m = bs.length) (h : Imm KB NoB w A l) (hL : Imm KBs NoB w L bs) (hb : l.length + (encBs bs).length ≤ 1000000000000) (hbl : bs.length ≤ 1000000000000) :
    CallsV Try.prog 25 #[.slice A n c, .slice L m cl] w fun r w' => MadeB w (l ++ encBs bs) r w' := by
  subst hm
  refine cardindexref01_Blobs.calls okay ?_
  unfold cardindexref01_Blobs.W
  rw [wu _ (by omega) (by omega)]
  refine (UintR_spec hn h bs.length (by omega) (by omega)).mono ?_
  rintro _ w1 ⟨A1, c1, rfl, ho, e1, n1⟩
  refine ⟨_, _, _, rfl, ?_⟩
  refine ⟨fun A2 n2 c2 k w2 => ∃ j : Nat, j ≤ bs.length ∧ k = (j : Int) ∧ n2 = (l ++ B1.enc bs.length ++ (bs.take j).flatMap encB).length ∧ OwnB w2 A2 c2 (l ++ B1.enc bs.length ++ (bs.take j).flatMap encB) ∧ Ext w w2 ∧ New w A2,
    fun _ _ _ k _ => (bs.length - k).toNat, ⟨0, by omega, rfl, by simp, by simpa using ho, e1, n1⟩, ?_⟩
  rintro A2 _ c2 _ w2 ⟨j, hj, rfl, rfl, ho2, e2, n2⟩
  refine brd (fun hlt => ?_) (fun hlt => ?_)
  · obtain ⟨ad, hA, B, cb, hcb, hi, hc⟩ := itemI (hL.ext KBs_pos e2) (x := (j : Int)) (by omega) (by omega)
    refine ⟨ad, hA, ⟨by omega, by omega⟩, _, _, _, hc _ (.refl _ _), ?_⟩
    rw [Int.toNat_natCast] at hi ⊢
    have hle := take_flat_le (f := encB) bs (j + 1)
    rw [take_flat bs j (by omega)] at hle
    have hel : (encB (bs.getD j [])).length = (B1.enc (bs.getD j []).length).length + (bs.getD j []).length := by simp [encB]
    have hbs : (encBs bs).length = (B1.enc bs.length).length + (bs.flatMap encB).length := by simp [encBs]
    rw [List.length_append] at hle
    refine (BlobR_spec rfl rfl ho2.imm0 hi (by simp only [List.length_append]; omega)).mono ?_
    rintro v w3 ⟨A3, c3, rfl, ho3, e3, n3⟩
    have hw : IntKind.i64.wrap ((j : Int) + 1) = ((j + 1 : Nat) : Int) := by rw [wi _ (by omega) (by omega)]; simp
    refine ⟨_, _, _, rfl, ?_⟩
    rw [hw]
    refine ⟨⟨j + 1, by omega, rfl, ?_, ?_, e2.trans' e3, n3.ext e2⟩, by dsimp only; omega⟩
    · rw [take_flat bs j (by omega), List.append_assoc _ _ (encB _)]
    · rw [take_flat bs j (by omega), ← List.append_assoc]; exact ho3
  · obtain rfl : j = bs.length := by omega
    rw [List.take_length] at ho2 ⊢
    refine ⟨A2, c2, ?_, ?_, e2, n2⟩
    · simp [encBs]
    · unfold encBs; rw [← List.append_assoc]; exact ho2
/-- what GetBlob tells, in memory of its own -/
theorem GetBlobR_spec {w : World} {A : Option Addr} {c n : Nat} {l : List UInt8} (hn : n = l.length) (h : Imm KB NoB w A l) (hl : l.length ≤ 1000000000000) (hlc : l.length ≤ c) (at_ most : Int) (hm : most < 9223372036854775808) :
    CallsV Try.prog 17 #[.slice A n c, .int .i64 at_, .int .i64 most] w fun v w' => ∃ A' c',
      v = .tuple #[.slice A' (getB l at_ most).1.length c', .int .i64 (getB l at_ most).2.1, .int .i64 (getB l at_ most).2.2] ∧ OwnB w' A' c' (getB l at_ most).1 ∧ Ext w w' ∧ New w A' := by
  subst hn
  refine cardindexref01_GetBlob.calls okay ?_
  unfold cardindexref01_GetBlob.W
  refine (GetUintR_spec rfl h hl at_).mono ?_
  rintro v w1 ⟨rfl, he⟩
  refine ⟨_, _, _, rfl, ?_⟩
  have hok := getU_ok (l := l) (at_ := at_)
  have hgb : getB l at_ most = (let r := B1.getU l at_; if r.2.2 ≠ 0 then ([], 0, r.2.2) else if most < 0 ∨ most < (r.1 : Int) then ([], 0, 3) else if l.length - r.2.1.toNat < r.1 then ([], 0, 11)
  else ((l.drop r.2.1.toNat).take r.1, r.2.1 + r.1, 0)) := rfl
  generalize getB l at_ most = g at *
  generalize B1.getU l at_ = r at *
  obtain ⟨n, p, e⟩ := r
  dsimp only at hgb hok ⊢
  have bail : ∀ x : Int, g = ([], 0, x) → ∃ A' c', Value.tuple #[.slice none 0 0, .int .i64 0, .int .i64 x] = .tuple #[.slice A' g.1.length c', .int .i64 g.2.1, .int .i64 g.2.2] ∧ OwnB w1 A' c' g.1 ∧ Ext w w1 ∧ New w A' := by
    rintro x rfl
    exact ⟨none, 0, rfl, OwnB.nil _, he, New.none _⟩
  refine brn (fun h0 => bail _ (by rw [hgb, if_pos h0])) (fun h0 => ?_)
  obtain ⟨q, rfl, hq, hn, _, _⟩ := hok h0
  rw [if_neg (by omega)] at hgb
  rw [Int.toNat_natCast] at hgb ⊢
  refine brd (fun h1 => bail _ (by rw [hgb, if_pos (.inl h1)])) (fun h1 => ?_)
  rw [wu most (by omega) (by omega)]
  refine brd (fun h2 => bail _ (by rw [hgb, if_pos (.inr h2)])) (fun h2 => ?_)
  rw [if_neg (by omega)] at hgb
  rw [wu _ (by omega) (by omega)]
  refine brd (fun h3 => bail _ (by rw [hgb, if_pos (by omega)])) (fun h3 => ?_)
  have e1 : IntKind.i64.wrap (n : Int) = (n : Int) := wi _ (by omega) (by omega)
  rw [e1, wi _ (by omega) (by omega), wi _ (by omega) (by omega)]
  refine brd (fun h4 => bail _ (by rw [hgb, if_pos (by omega)])) (fun h4 => ?_)
  rw [if_neg (by omega)] at hgb
  subst hgb
  refine ⟨⟨by omega, by omega⟩, ⟨by omega, by omega⟩, ?_⟩
  have e2 : ((q : Int) + (n : Int)).toNat = q + n := by omega
  rw [e2]
  have hcut := ((h.ext KB_pos he).cut (lo := q) (hi := q + n) (m := c) (by omega))
  have hln : ((l.drop q).take n).length = n := by simp; omega
  have e3 : (l.take (q + n)).drop q = (l.drop q).take n := by rw [List.drop_take]; congr 1; omega
  rw [e3] at hcut
  refine (behind_spec (a := []) rfl (by rw [hln]; omega) (Imm.nil _ NoB _ _) hcut (by rw [hln]; simp; omega)).mono ?_
  rintro _ w2 ⟨Y, cY, rfl, oY, e2, nY⟩
  rw [List.nil_append] at oY ⊢
  exact ⟨_, _, _, rfl, Y, cY, rfl, oY, he.trans' e2, nY.ext he⟩
theorem GetBlobsR_spec {w : World} {A : Option Addr} {c n : Nat} {l : List UInt8} (hn : n = l.length) (h : Imm KB NoB w A l) (hl : l.length ≤ 1000000000) (hlc : l.length ≤ c) (at_ many most : Int) (hm : most < 9223372036854775808) (hmn : many < 9223372036854775808) :
    CallsV Try.prog 18 #[.slice A n c, .int .i64 at_, .int .i64 many, .int .i64 most] w fun v w' => ∃ A' c',
      v = .tuple #[.slice A' (getBs l at_ many most).1.length c', .int .i64 (getBs l at_ many most).2.1, .int .i64 (getBs l at_ many most).2.2] ∧ OwnK (Kd.ownBytes w.heap.size) w' A' c' (getBs l at_ many most).1 ∧ Ext w w' ∧ New w A' := by
  subst hn
  refine cardindexref01_GetBlobs.calls okay ?_
  unfold cardindexref01_GetBlobs.W
  refine (GetUintR_spec rfl h (by omega) at_).mono ?_
  rintro v w1 ⟨rfl, he⟩
  refine ⟨_, _, _, rfl, ?_⟩
  have hok := getU_ok (l := l) (at_ := at_)
  have hgb : getBs l at_ many most = (let r := B1.getU l at_; if r.2.2 ≠ 0 then ([], 0, r.2.2) else if many < 0 ∨ many < (r.1 : Int) then ([], 0, 3) else getsF l most r.1 [] r.2.1) := rfl
  generalize getBs l at_ many most = g at *
  generalize B1.getU l at_ = r at *
  obtain ⟨N, p, e⟩ := r
  dsimp only at hgb hok ⊢
  have bail : ∀ (u : World) (x : Int), Ext w u → g = ([], 0, x) → ∃ A' c', Value.tuple #[.slice none 0 0, .int .i64 0, .int .i64 x] = .tuple #[.slice A' g.1.length c', .int .i64 g.2.1, .int .i64 g.2.2] ∧ OwnK (Kd.ownBytes w.heap.size) u A' c' g.1 ∧ Ext w u ∧ New w A' := by
    rintro u x hu rfl
    exact ⟨none, 0, rfl, OwnK.nil _ _, hu, New.none _⟩
  refine brn (fun h0 => bail _ _ he (by rw [hgb, if_pos h0])) (fun h0 => ?_)
  obtain ⟨q, rfl, hq, hN, _, _⟩ := hok h0
  rw [if_neg (by omega)] at hgb
  refine brd (fun h1 => bail _ _ he (by rw [hgb, if_pos (.inl h1)])) (fun h1 => ?_)
  rw [wu many (by omega) (by omega)]
  refine brd (fun h2 => bail _ _ he (by rw [hgb, if_pos (.inr h2)])) (fun h2 => ?_)
  rw [if_neg (by omega)] at hgb
  refine ⟨fun p A2 n2 c2 i u => ∃ acc : List (List UInt8), n2 = acc.length ∧ i = ((acc.length : Nat) : Int) ∧ OwnK (Kd.ownBytes w.heap.size) u A2 c2 acc ∧ Ext w u ∧ New w A2 ∧ acc.length ≤ N ∧ 0 ≤ p ∧ (acc.length : Int) ≤ p ∧ p ≤ (l.length : Int) ∧ g = getsF l most (N - acc.length) acc p,
    fun _ _ _ _ i _ => (N - i).toNat, ⟨[], rfl, rfl, OwnK.nil _ _, he, New.none _, by simp, by omega, by simp, by omega, hgb⟩, ?_⟩
  rintro p A2 _ c2 _ u ⟨acc, rfl, rfl, ho, e, nA, haN, hp0, hap, hpl, hg⟩
  refine brd (fun hlt => ?_) (fun hge => ?_)
  · obtain ⟨k, hk⟩ : ∃ k, N - acc.length = k + 1 := ⟨N - acc.length - 1, by omega⟩
    rw [hk, getsF] at hg
    refine (GetBlobR_spec rfl (h.ext KB_pos e) (by omega) hlc p most hm).mono ?_
    rintro v w4 ⟨A4, c4, rfl, ho4, he4, hn4⟩
    refine ⟨_, _, _, _, _, rfl, ?_⟩
    have hbok := getB_ok (l := l) (at_ := p) (most := most)
    generalize getB l p most = gb at *
    refine brn (fun h5 => bail _ _ (e.trans' he4) (by rw [hg, if_neg h5])) (fun h5 => ?_)
    rw [if_pos h5] at hg
    obtain ⟨h6, h7, h8⟩ := hbok h5
    have hrep : (Kd.ownBytes w.heap.size).rep (ownB A2) w4 gb.1 [.slice A4 gb.1.length c4] := ⟨A4, c4, rfl, ho4, fun k hk => ⟨fun h' => by
      obtain ⟨xs, hox, _⟩ := ho
      exact absurd (hn4 k hk) (Nat.not_le.2 (hox.lt k h')), Nat.le_trans e.size (hn4 k hk)⟩⟩
    intro g1 w5 f
    obtain ⟨rfl, rfl⟩ := f
    obtain ⟨A5, c5, w5, hr5, ho5, hg5⟩ := (ho.ext he4).push (K := Kd.ownBytes w.heap.size) slBs (ty := 34) (e' := 30) hrep (by simp [Value.oneCell']) (by simp [maxLen]; omega) (by omega)
    refine ⟨_, _, _, _, hr5, ?_⟩
    rw [wu _ (by omega) (by omega)]
    refine ⟨⟨acc ++ [gb.1], by simp, by simp, ho5, hg5.ext (e.trans' he4) nA, hg5.new (e.trans' he4) nA, by simp; omega, by omega, by simp; omega, h8, ?_⟩, by dsimp only; omega⟩
    rw [hg, show N - (acc ++ [gb.1]).length = k by simp; omega]
  · have : N - acc.length = 0 := by omega
    rw [this, getsF] at hg
    subst hg
    exact ⟨A2, c2, rfl, ho, e, nA⟩
end Go.Proofs.Ytbpcfkahnhlahaa
