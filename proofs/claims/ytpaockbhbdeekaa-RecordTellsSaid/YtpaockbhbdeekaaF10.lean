/- Layer 3: RecordTells. -/
import Derived.Test.YtpaockbhbdeekaaF9
import Derived.Test.YtpaockbhbdeekaaNestsM
import Derived.Test.YtpaockbhbdeekaaR6
set_option linter.unusedVariables false
set_option linter.unusedSimpArgs false
namespace Go.Proofs.Ytpaockbhbdeekaa
open Go Go.Sx R1

theorem getR_len (b : List UInt8) : (getR b).1.length ≤ 200 := by
  unfold getR
  cases h : getP b with
  | none => simp
  | some l => exact (get_canon h).2.1
theorem unkeyRR_len (b : List UInt8) (ds : List Bool) : (unkeyRR b ds).1.length ≤ 200 := by
  unfold unkeyRR
  cases h : unkeyR b ds with
  | none => simp
  | some l =>
    unfold unkeyR at h
    split at h
    · cases h
    · have := (unkey_canon ds b l h).2.1
      dsimp only; omega
set_option maxRecDepth 10000 in
theorem RecordTells_holds {w : World} {AA LA BA : Option Addr} {ac lc bc : Nat} {a : List V} {l : List Bool} {b : List UInt8} (hA : Imm KV NoB w AA a) (hL : Imm Kd.bool NoB w LA l) (hB : Imm KB NoB w BA b) (hal : a.length ≤ maxLen) (hll : l.length ≤ maxLen) (hbl : b.length ≤ maxLen) (hbc : b.length ≤ bc) (hg : ∀ v ∈ a, good v) :
    CallsV Try.prog 7 #[.slice AA a.length ac, .slice LA l.length lc, .slice BA b.length bc] w fun v w' => v = .bool true ∧ Ext w w' := by
  refine cardindexlaw03_RecordTells.calls okay ?_
  unfold cardindexlaw03_RecordTells.W
  have aw : ∀ w5, Ext w w5 → CallsV Try.prog 12 #[] w5 fun v w' => ∃ x, v = .bool x ∧ ((fun v w' => v = .bool true ∧ Ext w w' : Value → World → Prop) (.bool x) w') := by
    intro w5 e5
    refine (awake_spec w5).mono ?_
    rintro v w6 ⟨rfl, e6⟩
    exact ⟨_, rfl, rfl, e5.trans' e6⟩
  refine (Small_spec hA hal 250 300).same ⟨_, rfl, ?_⟩
  refine brnb (fun _ => aw _ (.refl _ _)) (fun hS => brd (fun _ => aw _ (.refl _ _)) (fun h2 => brd (fun _ => aw _ (.refl _ _)) (fun h3 => ?_)))
  have ha : a.length ≤ 250 := by
    unfold smallV at hS
    simp only [Bool.and_eq_true, decide_eq_true_eq] at hS
    omega
  refine (CopyValues_spec hA (by omega)).mono ?_
  rintro _ w1 ⟨I, cI, rfl, oI, e1, nI⟩
  refine ⟨_, _, _, rfl, ?_⟩
  refine (CopyBytes_spec (hB.ext KB_pos e1) (by omega)).mono ?_
  rintro _ w2 ⟨Y, rfl, oY, e2, nY⟩
  have f2 := e1.trans' e2
  refine ⟨_, _, _, rfl, ?_⟩
  have iI := (oI.ext e2).imm KV_pos
  have iY := oY.imm0
  refine (Put_spec iI hal hg).mono ?_
  rintro _ w3 ⟨C, cC, rfl, oC, e3, nC⟩
  refine ⟨_, _, _, _, rfl, ?_⟩
  refine (PutR_spec rfl (hA.ext KV_pos (f2.trans' e3)) hal hg).mono ?_
  rintro _ w4 ⟨D, cD, rfl, oD, e4, nD⟩
  have e24 := e3.trans' e4
  refine ⟨_, _, _, _, rfl, ?_⟩
  refine (Key_at rfl rfl (iI.ext KV_pos e24) (hL.ext KBo_pos (f2.trans' e24)) hal hll hg).mono ?_
  rintro _ w5 ⟨G, cG, rfl, oG, e5, nG⟩
  have e25 := e24.trans' e5
  refine ⟨_, _, _, _, rfl, ?_⟩
  refine (KeyR_spec rfl rfl (hA.ext KV_pos (f2.trans' e25)) (hL.ext KBo_pos (f2.trans' e25)) hal hll hg).mono ?_
  rintro _ w6 ⟨H, cH, rfl, oH, e6, nH⟩
  have e26 := e25.trans' e6
  refine ⟨_, _, _, _, rfl, ?_⟩
  refine (Get_spec rfl (iY.ext KB_pos e26) (by omega) (Nat.le_refl _)).mono ?_
  rintro _ w7 ⟨K, cK, rfl, oK, e7, nK⟩
  have e27 := e26.trans' e7
  refine ⟨_, _, _, _, rfl, ?_⟩
  refine (GetR_spec rfl (hB.ext KB_pos (f2.trans' e27)) (by omega) hbc).mono ?_
  rintro _ w8 ⟨M, cM, rfl, oM, e8, nM⟩
  have e28 := e27.trans' e8
  refine ⟨_, _, _, _, rfl, ?_⟩
  refine (Unkey_spec rfl rfl (iY.ext KB_pos e28) (hL.ext KBo_pos (f2.trans' e28)) hbl hll).mono ?_
  rintro _ w9 ⟨O, cO, rfl, oO, e9, nO⟩
  have e29 := e28.trans' e9
  refine ⟨_, _, _, _, rfl, ?_⟩
  refine (UnkeyR_spec rfl rfl (hB.ext KB_pos (f2.trans' e29)) (hL.ext KBo_pos (f2.trans' e29)) (by omega) hll).mono ?_
  rintro _ w10 ⟨Q, cQ, rfl, oQ, e10, nQ⟩
  have e2a := e29.trans' e10
  refine ⟨_, _, _, _, rfl, ?_⟩
  have x9 := e9.trans' e10
  have x8 := e8.trans' x9
  have x7 := e7.trans' x8
  have x6 := e6.trans' x7
  have x5 := e5.trans' x6
  have x4 := e4.trans' x5
  have bt0 : ∀ {p q : Prop}, p → cond true p q := fun h => h
  refine (SameBytes_spec (oC.ext x4).imm0 (oD.ext x5).imm0).same ⟨_, rfl, ?_⟩
  rw [decide_eq_true rfl]
  refine bt0 (brd (fun _ => ?_) (fun h => absurd rfl h))
  refine (SameBytes_spec (oG.ext x6).imm0 (oH.ext x7).imm0).same ⟨_, rfl, ?_⟩
  rw [decide_eq_true rfl]
  refine bt0 (brd (fun _ => ?_) (fun h => absurd rfl h))
  have l1 := getR_len b
  have l2 := unkeyRR_len b l
  refine (SameValues_spec rfl rfl ((oK.ext x8).imm KV_pos) ((oM.ext x9).imm KV_pos) (by omega)).mono ?_
  rintro _ u1 ⟨⟨x, rfl, hx⟩, a1⟩
  obtain rfl : x = true := hx.2 rfl
  refine ⟨_, rfl, bt0 (brd (fun _ => ?_) (fun h => absurd rfl h))⟩
  refine (SameValues_spec rfl rfl ((oO.ext (e10.trans' a1)).imm KV_pos) ((oQ.ext a1).imm KV_pos) (by omega)).mono ?_
  rintro _ u2 ⟨⟨x, rfl, hx⟩, a2⟩
  obtain rfl : x = true := hx.2 rfl
  refine ⟨_, rfl, bt0 (brd (fun _ => ?_) (fun h => absurd rfl h))⟩
  have a12 := a1.trans' a2
  refine (SameValues_spec rfl rfl (iI.ext KV_pos (e2a.trans' a12)) (hA.ext KV_pos (f2.trans' (e2a.trans' a12))) (by omega)).mono ?_
  rintro _ u3 ⟨⟨x, rfl, hx⟩, a3⟩
  obtain rfl : x = true := hx.2 rfl
  refine ⟨_, rfl, bt0 ?_⟩
  have a13 := (e2a.trans' a12).trans' a3
  refine (SameBytes_spec (iY.ext KB_pos a13) (hB.ext KB_pos (f2.trans' a13))).same ⟨_, rfl, ?_⟩
  rw [decide_eq_true rfl]
  exact bt0 (aw _ (f2.trans' a13))
end Go.Proofs.Ytpaockbhbdeekaa
