/- Layer 3 (record): Get. -/
import Derived.Test.YtpaockbhbdeekaaG1
set_option linter.unusedVariables false
set_option linter.unusedSimpArgs false
namespace Go.Proofs.Ytpaockbhbdeekaa
open Go Go.Sx R1

theorem getU_ok {l : List UInt8} {at_ : Int} (h : (B1.getU l at_).2.2 = 0) : 0 ≤ at_ ∧ (B1.getU l at_).1 < 18446744073709551616 ∧ at_ < (B1.getU l at_).2.1 ∧ (B1.getU l at_).2.1 ≤ l.length := by
  unfold B1.getU at h ⊢
  by_cases hr : at_ < 0 ∨ (l.length : Int) < at_
  · rw [if_pos hr] at h; cases h
  · rw [if_neg hr] at h ⊢
    have hd := B1.dec_eq (l.drop at_.toNat) 0
    by_cases hs : B1.scan 0 (l.drop at_.toNat) < (l.drop at_.toNat).length
    · rw [if_pos hs] at hd
      by_cases hb : (0 < 0 + B1.scan 0 (l.drop at_.toNat) ∧ ((l.drop at_.toNat).getD (B1.scan 0 (l.drop at_.toNat)) 0).toNat = 0) ∨ (0 + B1.scan 0 (l.drop at_.toNat) = 9 ∧ 2 ≤ ((l.drop at_.toNat).getD (B1.scan 0 (l.drop at_.toNat)) 0).toNat)
      · rw [if_pos hb] at hd
        rw [hd] at h; cases h
      · rw [if_neg hb] at hd
        rw [hd]
        have hv := B1.vt_lt_u64 hs (fun h => hb (.inr ⟨by omega, h.2⟩))
        rw [List.length_drop] at hs
        simp only [B1.Dec.at]
        refine ⟨by omega, hv, by omega, by omega⟩
    · rw [if_neg hs] at hd
      rw [hd] at h; cases h
theorem got_le {b : List UInt8} {k : Nat} {v : V} {n : Nat} (h : got b k = some (v, n)) : n ≤ b.length := by
  unfold got at h
  split at h
  · cases h; omega
  · split at h
    · split at h
      · cases h
      · split at h
        · cases h; omega
        · cases h
    · split at h
      · cases h
      · split at h
        · cases h
        · split at h
          · cases h
          · cases h; omega
theorem slU : SlT Try.prog 76 65 1 8 [.int .u64 0] := ⟨by kernel_rfl, ⟨Try.t65, by kernel_rfl, by kernel_rfl, by kernel_rfl, .int .u64 0, by kernel_rfl, by kernel_rfl⟩, rfl, by decide⟩
abbrev KU : Kd Int := Kd.int .u64
theorem KU_pos : 0 < KU.size := by decide
def getR (b : List UInt8) : List V × Int := match getP b with | none => ([], 10) | some row => (row, 0)
def TellsR (w : World) (r : List V × Int) (v : Value) (w' : World) : Prop := ∃ A c, v = .tuple #[.slice A r.1.length c, .int .i64 r.2] ∧ OwnK KV w' A c r.1 ∧ Ext w w' ∧ New w A
theorem TellsR.nil {w w' : World} (e : Ext w w') (x : Int) : TellsR w ([], x) (.tuple #[.slice none 0 0, .int .i64 x]) w' := ⟨none, 0, rfl, OwnK.nil _ _, e, New.none _⟩
def natI (k : Nat) : Int := (k : Int)
theorem getN {l : List Nat} {i : Nat} (h : i < l.length) : (l.map natI)[i]? = some ((l.getD i 0 : Nat) : Int) := by simp [List.getD, h, natI]
theorem dropN (l : List Nat) (i : Nat) (h : i < l.length) : l.drop i = l.getD i 0 :: l.drop (i + 1) := by rw [List.drop_eq_getElem_cons h]; simp [List.getD, h]
theorem Get_spec {w : World} {A : Option Addr} {c n : Nat} {b : List UInt8} (hn : n = b.length) (h : Imm KB NoB w A b) (hl : b.length ≤ 140737488355328) (hc : b.length ≤ c) :
    CallsV Try.prog 24 #[.slice A n c] w fun r w' => TellsR w (getR b) r w' := by
  subst hn
  refine record_Get.calls okay ?_
  unfold record_Get.W
  have bad : ∀ {w'}, getP b = none → Ext w w' → TellsR w (getR b) (.tuple #[.slice none 0 0, .int .i64 10]) w' := by
    intro w' hp e
    unfold getR; rw [hp]; exact TellsR.nil e 10
  refine (GetUint_spec h hl 0).mono ?_
  rintro _ w1 ⟨rfl, e1⟩
  refine ⟨_, _, _, rfl, ?_⟩
  refine brn (fun he => bad (by unfold getP; rw [if_pos (.inl he)]) e1) (fun he => brd (fun h2 => bad (by unfold getP; rw [if_pos (.inr (.inl (by omega)))]) e1) (fun h2 => brd (fun h3 => bad (by unfold getP; rw [if_pos (.inr (.inr (by omega)))]) e1) (fun h3 => ?_)))
  obtain ⟨_, hm0, ha0, hb0⟩ := getU_ok he
  have hP : getP b = match sortsP b (B1.getU b 0).1 (B1.getU b 0).2.1 with
    | none => none
    | some (ks, at_) => match rowsP b ks at_.toNat with
      | none => none
      | some (row, e) => if e < b.length then none else some row := by
    unfold getP; rw [if_neg (by rintro (h | h | h) <;> omega)]; rfl
  generalize (B1.getU b 0).2.1 = at0 at *
  generalize (B1.getU b 0).1 = N at *
  have hN : N ≤ 200 := by omega
  have hbl : b.length ≤ 1048576 := by omega
  refine ⟨fun x x4 x5 x6 y u => ∃ (i : Nat) (dn : List Nat), i ≤ N ∧ y = (i : Int) ∧ dn.length = i ∧ x5 = (dn.map natI).length ∧ (∀ k ∈ dn, k < 18446744073709551616) ∧ 0 ≤ x ∧ x ≤ b.length ∧ sortsP b N at0 = (sortsP b (N - i) x).map (fun r => (dn ++ r.1, r.2)) ∧ OwnK KU u x4 x6 (dn.map natI) ∧ Ext w u ∧ New w x4,
    fun _ _ _ _ y _ => (N - y).toNat, ⟨0, [], by omega, rfl, rfl, rfl, fun _ h => (by cases h), by omega, by omega, by cases hh : sortsP b N at0 <;> simp [hh], OwnK.nil _ _, e1, New.none _⟩, ?_⟩
  rintro x x4 _ x6 _ u ⟨i, dn, hi, rfl, hdl, rfl, hdn, hx0, hxl, hso, ho, eu, nu⟩
  refine brd (fun hlt => ?_) (fun hge => ?_)
  · refine (GetUint_spec (h.ext KB_pos eu) hl x).mono ?_
    rintro _ u1 ⟨rfl, a1⟩
    have e1' := eu.trans' a1
    refine ⟨_, _, _, rfl, ?_⟩
    have hst : sortsP b (N - i) x = if (B1.getU b x).2.2 ≠ 0 then none else (sortsP b (N - (i + 1)) (B1.getU b x).2.1).map fun r => ((B1.getU b x).1 :: r.1, r.2) := by
      rw [show N - i = (N - (i + 1)) + 1 by omega, sortsP]
    refine brn (fun hne => bad (by rw [hP, hso, hst, if_pos hne]; rfl) e1') (fun heq => ?_)
    rw [if_neg (by simpa using heq)] at hst
    obtain ⟨_, g1, g2, g3⟩ := getU_ok heq
    generalize (B1.getU b x).1 = k at *
    generalize (B1.getU b x).2.1 = nx at *
    intro gn u2 f2
    obtain ⟨rfl, rfl⟩ := f2
    have hlen : (dn.map natI).length = i := by rw [List.length_map]; exact hdl
    obtain ⟨y, y2, u3, hr3, ho3, g3'⟩ := (ho.ext a1).push slU (ty := 76) (K := KU) (a := (k : Int)) (cs := [.int .u64 (k : Int)]) (e' := 65) rfl (by simp [Value.oneCell']) (by simp only [maxLen]; omega) (by omega)
    have hsn : (dn ++ [k]).map natI = dn.map natI ++ [(k : Int)] := by simp [natI]
    rw [← hsn] at hr3 ho3
    refine ⟨_, _, _, _, hr3, ?_⟩
    rw [wu _ (by omega) (by omega)]
    refine ⟨⟨i + 1, dn ++ [k], by omega, rfl, by simp [hdl], rfl, fun q hq => ?_, by omega, by omega, ?_, ho3, g3'.ext e1' nu, g3'.new e1' nu⟩, by dsimp only; omega⟩
    · rcases List.mem_append.1 hq with hq | hq
      · exact hdn q hq
      · rw [List.mem_singleton.1 hq]; exact g1
    · rw [hso, hst]
      cases sortsP b (N - (i + 1)) nx <;> simp
  · obtain rfl : i = N := by omega
    rw [Nat.sub_self] at hso
    have hso' : sortsP b i at0 = some (dn, x) := by rw [hso]; simp [sortsP]
    rw [hso'] at hP
    dsimp only at hP
    have iK := ho.imm KU_pos
    refine ⟨fun y x8 x9 x10 q v => ∃ (j at_ : Nat) (row : List V), j ≤ dn.length ∧ q = (j : Int) ∧ y = (at_ : Int) ∧ at_ ≤ b.length ∧ x9 = row.length ∧ row.length = j ∧ rowsP b dn x.toNat = (rowsP b (dn.drop j) at_).map (fun r => (row ++ r.1, r.2)) ∧ OwnK KV v x8 x10 row ∧ Ext u v ∧ New u x8,
      fun _ _ _ _ q _ => (dn.length - q).toNat, ⟨0, x.toNat, [], by omega, rfl, by omega, by omega, rfl, rfl, by cases hh : rowsP b dn x.toNat <;> simp [hh], OwnK.nil _ _, .refl _ _, New.none _⟩, ?_⟩
    rintro _ x8 _ x10 _ v ⟨j, at_, row, hj, rfl, rfl, hat, rfl, hrl, hro, hoR, ev, nv⟩
    have ewv := eu.trans' ev
    refine brd (fun hlt => ?_) (fun hge => ?_)
    · have hjl : j < dn.length := by simp at hlt; omega
      obtain ⟨ad, hA, hno, cs, hr, hcl⟩ := iK j _ (getN hjl)
      have hr : cs = [.int .u64 ((dn.getD j 0 : Nat) : Int)] := hr
      subst hr
      have hcell := ev.cell (fun h => h) (hcl 0 _ rfl)
      have hkk : dn.getD j 0 < 18446744073709551616 := hdn _ (by simp [List.getD, hjl])
      have hdrop := dropN dn j hjl
      rw [hdrop] at hro
      generalize dn.getD j 0 = k at *
      simp only [Int.toNat_natCast]
      have hcut : Imm KB NoB v (cutAt A c at_ 1) (b.drop at_) := by
        have := (h.ext KB_pos ewv).cut (lo := at_) (hi := b.length) (m := c) hc
        rwa [List.take_length] at this
      refine ⟨ad, hA, ⟨by omega, by omega⟩, _, hcell, ⟨by omega, by omega⟩, ?_⟩
      refine (got_spec (by rw [List.length_drop]) hcut (by rw [List.length_drop]; omega) (by rw [List.length_drop]; omega) k hkk).mono ?_
      rintro _ v1 ⟨val, nn, rfl, hval, a1⟩
      refine ⟨_, _, _, _, _, rfl, ?_⟩
      intro g v2 f2
      refine ⟨okW3 f2.blk _ _ _, ?_⟩
      intro v3 hv3
      have b3 := setW3 f2.blk (.int .u8 val.k) (.int .i64 val.n) (.string val.s)
      have e3 : Ext v1 v3 := by rw [hv3]; exact f2.ext.setAll f2.ge _ _
      rw [← hv3] at b3
      have ev3 := ev.trans' (a1.trans' e3)
      cases hgot : got (b.drop at_) k with
      | none =>
        refine brnb (fun _ => bad ?_ (eu.trans' ev3)) (fun h => by cases h)
        rw [hP, hro, rowsP, hgot]; rfl
      | some pr =>
        obtain ⟨val', n'⟩ := pr
        have := hval _ hgot
        cases this
        have hle := got_le hgot
        rw [List.length_drop] at hle
        refine brnb (fun h => by cases h) (fun _ => ⟨_, b3.cell rfl, _, b3.cell rfl, _, b3.cell rfl, ?_⟩)
        intro g4 v4 f4
        obtain ⟨rfl, rfl⟩ := f4
        obtain ⟨y, y2, v5, hr5, ho5, g5⟩ := (hoR.ext (a1.trans' e3)).push slV (ty := 22) (K := KV) (a := val) (cs := vc val) (e' := 37) rfl (KV_one (fun _ => False) v3 val (vc val) rfl) (by simp only [maxLen]; omega) (by omega)
        refine ⟨_, _, _, _, hr5, ?_⟩
        rw [wi _ (by omega) (by omega), wi _ (by omega) (by omega)]
        refine ⟨⟨j + 1, at_ + nn, row ++ [val], by omega, rfl, by omega, by omega, rfl, by simp [hrl], ?_, ho5, g5.ext ev3 nv, g5.new ev3 nv⟩, by omega⟩
        rw [hro, rowsP, hgot]
        dsimp only
        cases rowsP b (dn.drop (j + 1)) (at_ + nn) <;> simp
    · have hjl : j = dn.length := by simp at hge; omega
      subst hjl
      rw [List.drop_length] at hro
      have hro' : rowsP b dn x.toNat = some (row, at_) := by rw [hro]; simp [rowsP]
      rw [hro'] at hP
      dsimp only at hP
      refine brd (fun hlt => bad (by rw [hP, if_pos (by omega)]) ewv) (fun hge2 => ?_)
      unfold getR
      rw [hP, if_neg (by omega)]
      exact ⟨x8, x10, rfl, hoR, ewv, nv.ext eu⟩
end Go.Proofs.Ytpaockbhbdeekaa
