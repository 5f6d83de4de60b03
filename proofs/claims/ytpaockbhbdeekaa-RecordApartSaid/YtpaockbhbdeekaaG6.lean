/- Layer 3: RecordBack. -/
import Derived.Test.YtpaockbhbdeekaaG5
set_option linter.unusedVariables false
set_option linter.unusedSimpArgs false
namespace Go.Proofs.Ytpaockbhbdeekaa
open Go Go.Sx R1

theorem smallR_of {a : List V} (h : right3 a (20 : Nat) = true) : SmallR a ∧ a.length ≤ 20 := by
  obtain ⟨h20, h100, hr⟩ := right3_true h
  exact ⟨⟨by omega, hr, h100⟩, h20⟩
theorem Put_at {w : World} {A : Option Addr} {c n : Nat} {l : List V} (hn : n = l.length) (h : Imm KV NoB w A l) (hl : l.length ≤ maxLen) (hg : ∀ v ∈ l, good v) :
    CallsV Try.prog 17 #[.slice A n c] w fun r w' => Tells w (putR l) r w' := by
  subst hn
  exact Put_spec h hl hg
theorem RecordBack_holds {w : World} {AA OA LA BA : Option Addr} {ac oc lc bc : Nat} {a o : List V} {l : List Bool} {b : List UInt8} (hA : Imm KV NoB w AA a) (hO : Imm KV NoB w OA o) (hL : Imm Kd.bool NoB w LA l) (hB : Imm KB NoB w BA b) (hal : a.length ≤ maxLen) (hol : o.length ≤ maxLen) (hll : l.length ≤ maxLen) (hbl : b.length ≤ maxLen) (hbc : b.length ≤ bc) (hg : ∀ v ∈ a, good v) (hgo : ∀ v ∈ o, good v) :
    CallsV Try.prog 8 #[.slice AA a.length ac, .slice OA o.length oc, .slice LA l.length lc, .slice BA b.length bc] w fun v w' => v = .bool true ∧ Ext w w' := by
  refine cardindexlaw03_RecordBack.calls okay ?_
  unfold cardindexlaw03_RecordBack.W
  have aw : ∀ w5, Ext w w5 → CallsV Try.prog 12 #[] w5 fun v w' => ∃ x, v = .bool x ∧ ((fun v w' => v = .bool true ∧ Ext w w' : Value → World → Prop) (.bool x) w') := by
    intro w5 e5
    refine (awake_spec w5).mono ?_
    rintro v w6 ⟨rfl, e6⟩
    exact ⟨_, rfl, rfl, e5.trans' e6⟩
  refine (right3_spec hA hal (20 : Nat)).mono ?_
  rintro _ w1 ⟨rfl, e1⟩
  refine ⟨_, rfl, brnb (fun _ => aw _ e1) (fun h3 => ?_)⟩
  obtain ⟨sa, h20⟩ := smallR_of h3
  refine (right3_spec (hO.ext KV_pos e1) hol (20 : Nat)).mono ?_
  rintro _ w2 ⟨rfl, e2⟩
  have e2 := e1.trans' e2
  refine ⟨_, rfl, brnb (fun _ => aw _ e2) (fun h4 => ?_)⟩
  obtain ⟨so, k20⟩ := smallR_of h4
  refine brd (fun _ => aw _ e2) (fun h5 => brd (fun _ => aw _ e2) (fun h6 => ?_))
  have hbm : b.length ≤ 2000 := by omega
  have hlm : l.length ≤ 30 := by omega
  refine (flags_spec (hL.ext KBo_pos e2) hll a.length (by omega)).mono ?_
  rintro _ w3 ⟨D, dc, rfl, oD, e3, nD⟩
  have e3 := e2.trans' e3
  have hdl := fl_length l a.length
  generalize fl l a.length = ds at *
  refine ⟨_, _, _, rfl, ?_⟩
  obtain ⟨gX, lX⟩ := getR_put sa hg
  obtain ⟨gO, lO⟩ := getR_put so hgo
  refine (Put_spec (hA.ext KV_pos e3) hal hg).mono ?_
  rw [sa.put]
  rintro _ w4 ⟨X, cX, rfl, oX, a4, nX⟩
  have e4 := e3.trans' a4
  dsimp only at oX ⊢
  refine ⟨_, _, _, _, rfl, ?_⟩
  refine (Get_spec rfl oX.imm0 (by omega) oX.le).mono ?_
  rw [gX]
  rintro _ w5 ⟨Y, cY, rfl, oY, a5, nY⟩
  have e5 := e4.trans' a5
  dsimp only at oY ⊢
  refine ⟨_, _, _, _, rfl, ?_⟩
  refine (Key_at rfl rfl (hA.ext KV_pos e5) (oD.imm.ext KBo_pos (a4.trans' a5)) hal (max100 (by omega)) hg).mono ?_
  rw [(sa.key hdl).1]
  rintro _ w6 ⟨Z, cZ, rfl, oZ, a6, nZ⟩
  have e6 := e5.trans' a6
  dsimp only at oZ ⊢
  refine ⟨_, _, _, _, rfl, ?_⟩
  have hzl := (sa.key hdl).2
  refine (Unkey_spec rfl rfl oZ.imm0 (oD.imm.ext KBo_pos ((a4.trans' a5).trans' a6)) (by simp only [maxLen]; omega) (max100 (by omega))).mono ?_
  rw [unkeyRR_key sa hdl hg]
  rintro _ w7 ⟨T, cT, rfl, oT, a7, nT⟩
  have e7 := e6.trans' a7
  dsimp only at oT ⊢
  refine ⟨_, _, _, _, rfl, ?_⟩
  refine (Put_spec (hO.ext KV_pos e7) hol hgo).mono ?_
  rw [so.put]
  rintro _ w8 ⟨Q, cQ, rfl, oQ, a8, nQ⟩
  have e8 := e7.trans' a8
  dsimp only at oQ ⊢
  refine ⟨_, _, _, _, rfl, brn (fun h => absurd rfl h) (fun _ => brn (fun h => absurd rfl h) (fun _ => brn (fun h => absurd rfl h) (fun _ => brn (fun h => absurd rfl h) (fun _ => brn (fun h => absurd rfl h) (fun _ => ?_)))))⟩
  have b5 : Ext w5 w8 := (a6.trans' a7).trans' a8
  refine (SameValues_spec rfl rfl ((oY.ext b5).imm KV_pos) (hA.ext KV_pos e8) (by omega)).mono ?_
  rintro _ w9 ⟨⟨x, rfl, hx⟩, a9⟩
  obtain rfl : x = true := hx.2 rfl
  refine ⟨_, rfl, brnb (fun h => by cases h) (fun _ => ?_)⟩
  have e9 := e8.trans' a9
  refine (SameValues_spec rfl rfl ((oT.ext (a8.trans' a9)).imm KV_pos) (hA.ext KV_pos e9) (by omega)).mono ?_
  rintro _ w10 ⟨⟨x, rfl, hx⟩, a10⟩
  obtain rfl : x = true := hx.2 rfl
  refine ⟨_, rfl, brnb (fun h => by cases h) (fun _ => ?_)⟩
  have e10 := e9.trans' a10
  have b8 := a9.trans' a10
  refine (SameBytes_spec (oX.ext ((a5.trans' b5).trans' b8)).imm0 (oQ.ext b8).imm0).same ⟨_, rfl, ?_⟩
  refine (SameValues_spec rfl rfl (hA.ext KV_pos e10) (hO.ext KV_pos e10) (by omega)).mono ?_
  rintro _ w11 ⟨⟨x, rfl, hx⟩, a11⟩
  have e11 := e10.trans' a11
  refine ⟨_, rfl, brn (fun hne => ?_) (fun _ => ?_)⟩
  · exfalso
    apply hne
    have : (putL a = putL o) ↔ a = o := ⟨fun h => row_inj sa.len sa.rt hg lX so.len so.rt hgo h, fun h => by rw [h]⟩
    cases x with
    | true => exact decide_eq_true (this.2 (hx.1 rfl))
    | false => exact decide_eq_false (fun h => by have := hx.2 (this.1 h); cases this)
  refine ⟨fun u => Ext w u, fun u eu => ?_, ?_⟩
  · refine (Unkey_spec rfl rfl (hB.ext KB_pos eu) (hL.ext KBo_pos eu) hbl hll).mono ?_
    cases hU : unkeyR b l with
    | none =>
      rw [show unkeyRR b l = ([], 10) by unfold unkeyRR; rw [hU]]
      rintro _ u1 ⟨R, cR, rfl, oR, c1, nR⟩
      exact ⟨_, _, _, _, rfl, brd (fun h => by cases h) (fun _ => aw _ (eu.trans' c1))⟩
    | some row =>
      rw [show unkeyRR b l = (row, 0) by unfold unkeyRR; rw [hU]]
      rintro _ u1 ⟨R, cR, rfl, oR, c1, nR⟩
      have hk := keyR_unkey hU
      have hu : unkeyP b l = some row := by
        unfold unkeyR at hU
        split at hU
        · cases hU
        · exact hU
      obtain ⟨q1, q2, q3, q4⟩ := unkey_canon l b row hu
      refine ⟨_, _, _, _, rfl, brd (fun _ => ?_) (fun h => absurd rfl h)⟩
      refine (Key_at rfl rfl (oR.imm KV_pos) (hL.ext KBo_pos (eu.trans' c1)) (max100 (by show row.length ≤ 1000; omega)) hll q4).mono ?_
      rw [hk]
      rintro _ u2 ⟨E, cE, rfl, oE, c2, nE⟩
      dsimp only at oE ⊢
      refine ⟨_, _, _, _, rfl, brn (fun h => absurd rfl h) (fun _ => ?_)⟩
      refine (SameBytes_spec oE.imm0 (hB.ext KB_pos ((eu.trans' c1).trans' c2))).same ⟨_, rfl, ?_⟩
      rw [decide_eq_true rfl]
      exact brnb (fun h => by cases h) (fun _ => aw _ ((eu.trans' c1).trans' c2))
  · refine (Get_spec rfl (hB.ext KB_pos e11) (by omega) hbc).mono ?_
    cases hG : getP b with
    | none =>
      rw [show getR b = ([], 10) by unfold getR; rw [hG]]
      rintro _ u1 ⟨R, cR, rfl, oR, c1, nR⟩
      exact ⟨_, _, _, _, rfl, brd (fun h => by cases h) (fun _ => e11.trans' c1)⟩
    | some row =>
      rw [show getR b = (row, 0) by unfold getR; rw [hG]]
      rintro _ u1 ⟨R, cR, rfl, oR, c1, nR⟩
      obtain ⟨q1, q2, q3, q4, q5⟩ := get_canon hG
      refine ⟨_, _, _, _, rfl, brd (fun _ => ?_) (fun h => absurd rfl h)⟩
      refine (Put_at rfl (oR.imm KV_pos) (max100 (by show row.length ≤ 1000; omega)) q5).mono ?_
      rw [putR_get hG]
      rintro _ u2 ⟨E, cE, rfl, oE, c2, nE⟩
      dsimp only at oE ⊢
      refine ⟨_, _, _, _, rfl, brn (fun h => absurd rfl h) (fun _ => ?_)⟩
      refine (SameBytes_spec oE.imm0 (hB.ext KB_pos ((e11.trans' c1).trans' c2))).same ⟨_, rfl, ?_⟩
      rw [decide_eq_true rfl]
      exact brnb (fun h => by cases h) (fun _ => (e11.trans' c1).trans' c2)
end Go.Proofs.Ytpaockbhbdeekaa
