/- Layer 3: RecordApart. -/
import Derived.Test.YtpaockbhbdeekaaG6
set_option linter.unusedVariables false
set_option linter.unusedSimpArgs false
namespace Go.Proofs.Ytpaockbhbdeekaa
open Go Go.Sx R1

theorem CopyBytes_at {Ω : Nat → Prop} {w : World} {A : Option Addr} {c n : Nat} {l : List UInt8} (hn : n = l.length) (h : Imm KB Ω w A l) (hl : l.length ≤ 140737488355328) :
    CallsV Try.prog 16 #[.slice A n c] w fun r w' => ∃ A', r = .slice A' l.length l.length ∧ OwnB w' A' l.length l ∧ Ext w w' ∧ New w A' := by
  subst hn; exact CopyBytes_spec h hl
theorem take0 {α : Type} (l : List α) (k : Nat) : (l.take k).drop 0 = l.take k := by simp
theorem RecordApart_holds {w : World} {AA BA LA : Option Addr} {ac bc lc : Nat} {a b : List V} {l : List Bool} (hA : Imm KV NoB w AA a) (hB : Imm KV NoB w BA b) (hL : Imm Kd.bool NoB w LA l) (hal : a.length ≤ maxLen) (hbl : b.length ≤ maxLen) (hac : a.length ≤ ac) (hbc : b.length ≤ bc) (hll : l.length ≤ maxLen) (hg : ∀ v ∈ a, good v) (hgb : ∀ v ∈ b, good v) (cut : Nat) (hcut : cut < 65536) :
    CallsV Try.prog 9 #[.slice AA a.length ac, .slice BA b.length bc, .slice LA l.length lc, .int .u16 (cut : Int)] w fun v w' => v = .bool true ∧ Ext w w' := by
  refine cardindexlaw03_RecordApart.calls okay ?_
  unfold cardindexlaw03_RecordApart.W
  have aw : ∀ w5, Ext w w5 → CallsV Try.prog 12 #[] w5 fun v w' => ∃ x, v = .bool x ∧ ((fun v w' => v = .bool true ∧ Ext w w' : Value → World → Prop) (.bool x) w') := by
    intro w5 e5
    refine (awake_spec w5).mono ?_
    rintro v w6 ⟨rfl, e6⟩
    exact ⟨_, rfl, rfl, e5.trans' e6⟩
  refine (right3_spec hA hal (20 : Nat)).mono ?_
  rintro _ w1 ⟨rfl, e1⟩
  refine ⟨_, rfl, brnb (fun _ => aw _ e1) (fun h3 => ?_)⟩
  obtain ⟨h20, h100, hr⟩ := right3_true h3
  refine (right3_spec (hB.ext KV_pos e1) hbl (20 : Nat)).mono ?_
  rintro _ w2 ⟨rfl, e2⟩
  have e2 := e1.trans' e2
  refine ⟨_, rfl, brnb (fun _ => aw _ e2) (fun h4 => ?_)⟩
  obtain ⟨k20, k100, kr⟩ := right3_true h4
  have hmin : (if (b.length : Int) < (a.length : Int) then (b.length : Int) else (a.length : Int)) = ((min a.length b.length : Nat) : Int) := by split <;> omega
  have hma : min a.length b.length ≤ a.length := by omega
  have hmb : min a.length b.length ≤ b.length := by omega
  rw [hmin]
  generalize min a.length b.length = n at *
  refine brd (fun _ => aw _ e2) (fun hn0 => ?_)
  refine (flags_spec (hL.ext KBo_pos e2) hll n (by omega)).mono ?_
  rintro _ w3 ⟨D, dc, rfl, oD, e3, nD⟩
  have e3 := e2.trans' e3
  have hdl := fl_length l n
  generalize fl l n = ds at *
  simp only [Int.toNat_natCast]
  refine ⟨_, _, _, rfl, ⟨by omega, by omega⟩, ?_⟩
  have cA : ∀ {u}, Ext w u → Imm KV NoB u (cutAt AA ac 0 3) (a.take n) := fun hu => by
    have := (hA.ext KV_pos hu).cut (lo := 0) (hi := n) (m := ac) (by omega)
    rw [take0] at this; exact this
  have cB : ∀ {u}, Ext w u → Imm KV NoB u (cutAt BA bc 0 3) (b.take n) := fun hu => by
    have := (hB.ext KV_pos hu).cut (lo := 0) (hi := n) (m := bc) (by omega)
    rw [take0] at this; exact this
  have hlA : n - 0 = (a.take n).length := by rw [List.length_take]; omega
  have hlB : n - 0 = (b.take n).length := by rw [List.length_take]; omega
  have hg' : ∀ v ∈ a.take n, good v := fun v hv => hg v (List.mem_of_mem_take hv)
  have kg' : ∀ v ∈ b.take n, good v := fun v hv => hgb v (List.mem_of_mem_take hv)
  have sa : SmallR (a.take n) := ⟨by omega, fun v hv => hr v (List.mem_of_mem_take hv), fun v hv => h100 v (List.mem_of_mem_take hv)⟩
  have sb : SmallR (b.take n) := ⟨by omega, fun v hv => kr v (List.mem_of_mem_take hv), fun v hv => k100 v (List.mem_of_mem_take hv)⟩
  generalize a.take n = x at *
  generalize b.take n = y at *
  have hx : ds.length = x.length := by omega
  have hy : ds.length = y.length := by omega
  obtain ⟨hR, hRl⟩ := sa.key hx
  obtain ⟨hR2, hR2l⟩ := sb.key hy
  refine (Key_at hlA rfl (cA e3) oD.imm (max100 (by omega)) (max100 (by omega)) hg').mono ?_
  rw [hR]
  rintro _ w4 ⟨X, cX, rfl, oX, a4, nX⟩
  have e4 := e3.trans' a4
  dsimp only at oX ⊢
  refine ⟨_, _, _, _, rfl, ⟨by omega, by omega⟩, ?_⟩
  refine (Key_at hlB rfl (cB e4) (oD.imm.ext KBo_pos a4) (max100 (by omega)) (max100 (by omega)) kg').mono ?_
  rw [hR2]
  rintro _ w5 ⟨Y, cY, rfl, oY, a5, nY⟩
  have e5 := e4.trans' a5
  dsimp only at oY ⊢
  have hpos : 0 < (key x ds).length := by
    match x, ds, hx with
    | v :: x, d :: ds, _ => have := kpart_pos v; simp only [key, List.length_append, tn_length]; omega
    | [], _, _ => simp at hlA; omega
    | _ :: _, [], h => simp at h
  refine ⟨_, _, _, _, rfl, brn (fun h => absurd rfl h) (fun _ => brn (fun h => absurd rfl h) (fun _ => brd (fun h => by omega) (fun _ => ?_)))⟩
  refine ⟨_, _, to_str_all bt (oX.imm0) _ _ a5, _, _, to_str_all bt oY.imm0 _ _ (.refl _ _), ?_⟩
  refine (HasPrefix_spec w5 _ _).mono ?_
  rintro _ w5' ⟨⟨q, rfl, hq⟩, h55⟩
  have h56 := h55.symm
  subst h56
  refine ⟨_, rfl, ?_⟩
  refine (SameBytes_spec (oX.ext a5).imm0 oY.imm0).same ⟨_, rfl, ?_⟩
  refine brn (fun hne => ?_) (fun _ => ?_)
  · exfalso
    apply hne
    have : (∃ z, key x ds = key y ds ++ z) ↔ key x ds = key y ds := by
      constructor
      · rintro ⟨z, hz⟩
        have := key_inj hx.symm sa.rt hg' hy.symm sb.rt kg' z hz
        rw [hz, this, List.append_nil]
      · intro h; exact ⟨[], by rw [h, List.append_nil]⟩
    cases q with
    | true => exact (decide_eq_true (this.1 (hq.1 rfl))).symm
    | false => exact (decide_eq_false (fun h => by have := hq.2 (this.2 h); cases this)).symm
  have hw : ∀ k : Nat, IntKind.i64.wrap (cut : Int) = (cut : Int) := fun _ => wi _ (by omega) (by omega)
  have hc0 := hw 0
  obtain ⟨c8, hc8⟩ : ∃ c : UInt8, IntKind.u8.wrap (cut : Int) = (c.toNat : Int) := ⟨(cut % 256).toUInt8, by
    rw [B1.toUInt8_toNat (Nat.mod_lt _ (by decide))]
    show (cut : Int) % 256 = _
    omega⟩
  rw [hc0]
  have hmod : ∀ k : Nat, 0 < k → Int.tmod (cut : Int) (k : Int) = ((cut % k : Nat) : Int) ∧ cut % k < k := fun k hk => ⟨by rw [Int.tmod_eq_emod_of_nonneg (by omega)]; rfl, Nat.mod_lt _ hk⟩
  obtain ⟨hm1, hm2⟩ := hmod _ hpos
  rw [hm1]
  generalize cut % (key x ds).length = j at *
  have hcap := oX.le
  refine ⟨by omega, ⟨by omega, by omega⟩, ?_⟩
  simp only [Int.toNat_natCast]
  have cutX : Imm KB NoB w5 (cutAt X cX 0 1) ((key x ds).take j) := by
    have := (oX.ext a5).imm0.cut (lo := 0) (hi := j) (m := cX) (by omega)
    rw [take0] at this; exact this
  have unk : ∀ (z : List UInt8), unkeyP z ds = none → unkeyRR z ds = ([], 10) := fun z hz => by
    unfold unkeyRR unkeyR
    split
    · rename_i h; split at h
      · rfl
      · rfl
    · rename_i h; split at h
      · cases h
      · rw [hz] at h; cases h
  refine (Unkey_spec (by rw [List.length_take]; omega) rfl cutX (oD.imm.ext KBo_pos (a4.trans' a5)) (by rw [List.length_take]; simp only [maxLen]; omega) (max100 (by omega))).mono ?_
  rw [unk _ (unkey_cut hx.symm sa.rt hg' hm2)]
  rintro _ w6 ⟨U, cU, rfl, _, a6, _⟩
  have e6 := e5.trans' a6
  refine ⟨_, _, _, _, rfl, ?_⟩
  refine (CopyBytes_spec ((oX.ext a5).ext a6).imm0 (by omega)).mono ?_
  rintro _ w7 ⟨Q, rfl, oQ, a7, nQ⟩
  have e7 := e6.trans' a7
  refine ⟨_, _, _, rfl, ?_⟩
  intro g w8 f8
  obtain ⟨rfl, rfl⟩ := f8
  rw [hc8]
  obtain ⟨E, cE, w8, hr8, oE, g8, _⟩ := appendB oQ c8 (by omega) 5 27
  refine ⟨_, _, _, _, hr8, ?_⟩
  have a68 := g8.ext a7 nQ
  have e8 := e6.trans' a68
  have hbad : unkeyP (key x ds ++ [c8]) ds = none := by
    rw [unkey_key x ds [c8] hx.symm sa.rt hg', if_neg (by simp)]
  refine (Unkey_spec (by simp) rfl oE.imm0 (oD.imm.ext KBo_pos (((a4.trans' a5).trans' a6).trans' a68)) (by simp only [List.length_append, List.length_singleton, maxLen]; omega) (max100 (by omega))).mono ?_
  rw [unk _ hbad]
  rintro _ w9 ⟨U2, cU2, rfl, _, a9, _⟩
  have e9 := e8.trans' a9
  refine ⟨_, _, _, _, rfl, ⟨by omega, by omega⟩, ?_⟩
  obtain ⟨gR, lR⟩ := getR_put sa hg'
  have hR200 := sa.len
  refine (Put_at hlA (cA e9) (max100 (by omega)) hg').mono ?_
  rw [sa.put]
  rintro _ w10 ⟨R, cR, rfl, oR, a10, nR⟩
  have e10 := e9.trans' a10
  dsimp only at oR ⊢
  have hrpos : 0 < (putL x).length := by
    have := B1.enc_length_pos x.length
    unfold putL; rw [List.length_append, List.length_append]; omega
  have hmax : (if (1 : Int) > ((putL x).length : Int) then (1 : Int) else ((putL x).length : Int)) = ((putL x).length : Int) := by split <;> omega
  obtain ⟨hn1, hn2⟩ := hmod _ hrpos
  refine ⟨_, _, _, _, rfl, ?_⟩
  rw [hmax, hn1]
  generalize cut % (putL x).length = i at *
  have hcapR := oR.le
  refine ⟨by omega, ⟨by omega, by omega⟩, ?_⟩
  simp only [Int.toNat_natCast]
  have cutR : Imm KB NoB w10 (cutAt R cR 0 1) ((putL x).take i) := by
    have := oR.imm0.cut (lo := 0) (hi := i) (m := cR) (by omega)
    rw [take0] at this; exact this
  have nog : ∀ (z : List UInt8), getP z = none → getR z = ([], 10) := fun z hz => by unfold getR; rw [hz]
  refine (Get_spec (by rw [List.length_take]; omega) cutR (by rw [List.length_take]; omega) (by rw [List.length_take]; omega)).mono ?_
  rw [nog ((putL x).take i) (get_cut sa.len sa.rt hg' lR hn2)]
  rintro _ w11 ⟨U3, cU3, rfl, _, a11, _⟩
  have e11 := e10.trans' a11
  refine ⟨_, _, _, _, rfl, ?_⟩
  refine (CopyBytes_spec (oR.ext a11).imm0 (by omega)).mono ?_
  rintro _ w12 ⟨Q2, rfl, oQ2, a12, nQ2⟩
  refine ⟨_, _, _, rfl, ?_⟩
  intro g w13 f13
  obtain ⟨rfl, rfl⟩ := f13
  obtain ⟨F, cF, w13, hr13, oF, g13, _⟩ := appendB oQ2 c8 (by omega) 5 27
  refine ⟨_, _, _, _, hr13, ?_⟩
  have e13 := e11.trans' (g13.ext a12 nQ2)
  have hoF := oF.le
  have hlF : (putL x ++ [c8]).length = (putL x).length + 1 := by simp
  have hbad2 : getP (putL x ++ [c8]) = none := by
    rcases Nat.lt_or_ge 1048576 (putL x ++ [c8]).length with h | h
    · unfold getP
      split
      · rfl
      · rename_i hh
        exact absurd (.inr (.inr h)) hh
    · have := get_put sa.len sa.rt hg' [c8] h
      rw [if_neg (by simp)] at this
      exact this
  refine (Get_spec (by simp) oF.imm0 (by omega) (by omega)).mono ?_
  rw [nog _ hbad2]
  rintro _ w14 ⟨U4, cU4, rfl, _, a14, _⟩
  refine ⟨_, _, _, _, rfl, ?_⟩
  exact brd (fun _ => brd (fun _ => brd (fun _ => brd (fun _ => brd (fun _ => aw _ (e13.trans' a14)) (fun h => absurd (by trivial) h)) (fun h => absurd (by trivial) h)) (fun h => absurd (by trivial) h)) (fun h => absurd (by trivial) h)) (fun h => absurd (by trivial) h)
end Go.Proofs.Ytpaockbhbdeekaa
