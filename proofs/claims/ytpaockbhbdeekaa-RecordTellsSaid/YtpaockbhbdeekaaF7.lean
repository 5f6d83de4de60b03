/- The document's answer for layer 3: Get, the walk. -/
import Derived.Test.YtpaockbhbdeekaaF6
set_option linter.unusedVariables false
set_option linter.unusedSimpArgs false
namespace Go.Proofs.Ytpaockbhbdeekaa
open Go Go.Sx R1

set_option maxRecDepth 100000 in
theorem GetR_spec {w : World} {A : Option Addr} {c n : Nat} {b : List UInt8} (hn : n = b.length) (h : Imm KB NoB w A b) (hl : b.length ≤ 1000000000000) (hc : b.length ≤ c) :
    CallsV Try.prog 25 #[.slice A n c] w fun r w' => TellsR w (getR b) r w' := by
  subst hn
  refine cardindexref03_Get.calls okay ?_
  unfold cardindexref03_Get.W
  have bad : ∀ {w'}, getP b = none → Ext w w' → TellsR w (getR b) (.tuple #[.slice none 0 0, .int .i64 10]) w' := by
    intro w' hp e
    unfold getR; rw [hp]; exact TellsR.nil e 10
  have cont : ∀ {Q : Prop}, (getP b ≠ none → False) → getP b = none := fun hh => Classical.byContradiction hh
  refine (GetUintR_spec rfl h hl 0).mono ?_
  rintro _ w1 ⟨rfl, e1⟩
  refine ⟨_, _, _, rfl, ?_⟩
  refine brn (fun he => bad (by unfold getP; rw [if_pos (.inl he)]) e1) (fun he => brd (fun h2 => bad (by unfold getP; rw [if_pos (.inr (.inl (by omega)))]) e1) (fun h2 => brd (fun h3 => bad (by unfold getP; rw [if_pos (.inr (.inr (by omega)))]) e1) (fun h3 => ?_)))
  obtain ⟨_, hm0, ha0, hb0⟩ := getU_ok he
  have hP : getP b = match sortsP b (B1.getU b 0).1 (B1.getU b 0).2.1 with
    | none => none
    | some (ks, at_) => match rowsP b ks at_.toNat with
      | none => none
      | some (row, e) => if e < b.length then none else some row := by
    unfold getP; rw [if_neg (by rintro (h | h | h) <;> omega)]; rfl
  have hin : ∀ {l ks k e}, getP b = some l → sortsP b (B1.getU b 0).1 (B1.getU b 0).2.1 = some (ks, e) → k ∈ ks → k ≤ 2 * b.length + 11 := fun hg hs hk => sort_in hg rfl rfl hs hk
  generalize (B1.getU b 0).2.1 = at0 at *
  generalize (B1.getU b 0).1 = N at *
  have hN : N ≤ 200 := by omega
  have hbl : b.length ≤ 1048576 := by omega
  have wN : IntKind.i64.wrap (N : Int) = (N : Int) := wi _ (by omega) (by omega)
  have wL : IntKind.u64.wrap (IntKind.i64.wrap (IntKind.i64.wrap (2 * (b.length : Int)) + 11)) = ((2 * b.length + 11 : Nat) : Int) := by
    rw [wi (2 * (b.length : Int)) (by omega) (by omega), wi _ (by omega) (by omega), wu _ (by omega) (by omega)]; omega
  rw [wN, wL]
  refine ⟨fun x x4 x5 x6 y u => ∃ (i : Nat) (dn : List Nat), i ≤ N ∧ y = (i : Int) ∧ dn.length = i ∧ x5 = (dn.map natI).length ∧ (∀ k ∈ dn, k ≤ 2 * b.length + 11) ∧ 0 ≤ x ∧ x ≤ b.length ∧ sortsP b N at0 = (sortsP b (N - i) x).map (fun r => (dn ++ r.1, r.2)) ∧ OwnK KU u x4 x6 (dn.map natI) ∧ Ext w u ∧ New w x4,
    fun _ _ _ _ y _ => (N - y).toNat, ⟨0, [], by omega, rfl, rfl, rfl, fun _ h => (by cases h), by omega, by omega, by cases hh : sortsP b N at0 <;> simp [hh], OwnK.nil _ _, e1, New.none _⟩, ?_⟩
  rintro x x4 _ x6 _ u ⟨i, dn, hi, rfl, hdl, rfl, hdn, hx0, hxl, hso, ho, eu, nu⟩
  refine brd (fun hlt => ?_) (fun hge => ?_)
  · refine (GetUintR_spec rfl (h.ext KB_pos eu) hl x).mono ?_
    rintro _ u1 ⟨rfl, a1⟩
    have e1' := eu.trans' a1
    refine ⟨_, _, _, rfl, ?_⟩
    have hst : sortsP b (N - i) x = if (B1.getU b x).2.2 ≠ 0 then none else (sortsP b (N - (i + 1)) (B1.getU b x).2.1).map fun r => ((B1.getU b x).1 :: r.1, r.2) := by
      rw [show N - i = (N - (i + 1)) + 1 by omega, sortsP]
    refine brn (fun hne => bad (by rw [hP, hso, hst, if_pos hne]; rfl) e1') (fun heq => ?_)
    rw [if_neg (by simpa using heq)] at hst
    obtain ⟨_, g1, g2, g3⟩ := getU_ok heq
    generalize (B1.getU b x).1 = k at *
    generalize (B1.getU b x).2.1 = nx at *
    refine brd (fun hbig => bad ?_ e1') (fun hbig => ?_)
    · cases hg : getP b with
      | none => rfl
      | some l =>
        exfalso
        rw [hst] at hso
        cases hs2 : sortsP b (N - (i + 1)) nx with
        | none =>
          rw [hs2] at hso
          rw [hso] at hP
          rw [hg] at hP
          cases hP
        | some r2 =>
          rw [hs2] at hso
          have := hin (k := k) hg hso (by simp)
          omega
    intro gn u2 f2
    obtain ⟨rfl, rfl⟩ := f2
    have hlen : (dn.map natI).length = i := by rw [List.length_map]; exact hdl
    obtain ⟨y, y2, u3, hr3, ho3, g3'⟩ := (ho.ext a1).push slU (ty := 76) (K := KU) (a := (k : Int)) (cs := [.int .u64 (k : Int)]) (e' := 65) rfl (by simp [Value.oneCell']) (by simp only [maxLen]; omega) (by omega)
    have hsn : (dn ++ [k]).map natI = dn.map natI ++ [(k : Int)] := by simp [natI]
    rw [← hsn] at hr3 ho3
    refine ⟨_, _, _, _, hr3, ?_⟩
    rw [wi _ (by omega) (by omega)]
    refine ⟨⟨i + 1, dn ++ [k], by omega, rfl, by simp [hdl], rfl, fun q hq => ?_, by omega, by omega, ?_, ho3, g3'.ext e1' nu, g3'.new e1' nu⟩, by dsimp only; omega⟩
    · rcases List.mem_append.1 hq with hq | hq
      · exact hdn q hq
      · rw [List.mem_singleton.1 hq]; omega
    · rw [hso, hst]
      cases sortsP b (N - (i + 1)) nx <;> simp
  · obtain rfl : i = N := by omega
    rw [Nat.sub_self] at hso
    have hso' : sortsP b i at0 = some (dn, x) := by rw [hso]; simp [sortsP]
    rw [hso'] at hP
    dsimp only at hP
    have iK := ho.imm KU_pos
    have hrow : getP b ≠ none → rowsP b dn x.toNat ≠ none := by
      intro hh hr
      rw [hr] at hP
      exact hh hP
    refine ⟨fun y x8 x9 x10 q v => ∃ (j at_ : Nat) (row : List V), j ≤ dn.length ∧ q = (j : Int) ∧ y = (at_ : Int) ∧ at_ ≤ b.length ∧ x9 = row.length ∧ row.length = j ∧ (∀ v ∈ row, good v) ∧ (getP b ≠ none → rowsP b dn x.toNat = (rowsP b (dn.drop j) at_).map (fun r => (row ++ r.1, r.2))) ∧ OwnK KV v x8 x10 row ∧ Ext u v ∧ New u x8,
      fun _ _ _ _ q _ => (dn.length - q).toNat, ⟨0, x.toNat, [], by omega, rfl, by omega, by omega, rfl, rfl, fun _ h => (by cases h), fun _ => by cases hh : rowsP b dn x.toNat <;> simp [hh], OwnK.nil _ _, .refl _ _, New.none _⟩, ?_⟩
    rintro _ x8 _ x10 _ v ⟨j, at_, row, hj, rfl, rfl, hat, rfl, hrl, hrg, hro, hoR, ev, nv⟩
    have ewv := eu.trans' ev
    refine brd (fun hlt => ?_) (fun hge => ?_)
    · have hjl : j < dn.length := by simp at hlt; omega
      refine ⟨fun y x8 x9 x10 v => ∃ (at_ : Nat) (row : List V), y = (at_ : Int) ∧ at_ ≤ b.length ∧ x9 = row.length ∧ row.length = j + 1 ∧ (∀ v ∈ row, good v) ∧ (getP b ≠ none → rowsP b dn x.toNat = (rowsP b (dn.drop (j + 1)) at_).map (fun r => (row ++ r.1, r.2))) ∧ OwnK KV v x8 x10 row ∧ Ext u v ∧ New u x8, ?_, ?_⟩
      · rintro y x8' _ x10' v' ⟨at', row', rfl, hat', rfl, hrl', hrg', hro', hoR', ev', nv'⟩
        rw [wi _ (by omega) (by omega)]
        exact ⟨⟨j + 1, at', row', by omega, rfl, rfl, hat', rfl, hrl', hrg', hro', hoR', ev', nv'⟩, by dsimp only; omega⟩
      obtain ⟨ad, hA, hno, cs, hr, hcl⟩ := iK j _ (getN hjl)
      have hr : cs = [.int .u64 ((dn.getD j 0 : Nat) : Int)] := hr
      subst hr
      have hcell := ev.cell (fun h => h) (hcl 0 _ rfl)
      have hkk : dn.getD j 0 ≤ 2 * b.length + 11 := hdn _ (by simp [List.getD, hjl])
      have hdrop := dropN dn j hjl
      rw [hdrop] at hro
      generalize dn.getD j 0 = k at *
      have wk : IntKind.i64.wrap (k : Int) = (k : Int) := wi _ (by omega) (by omega)
      refine ⟨ad, hA, ⟨by omega, by omega⟩, _, by rw [Int.toNat_natCast]; exact hcell, ?_⟩
      rw [wk]
      have hH : getP b ≠ none → k ≠ 9 ∧ longOf k ≤ b.length - at_ ∧ got (b.drop at_) k = some (valOf (b.drop at_) k, longOf k) := by
        intro hh
        have h1 := hrow hh
        rw [hro hh, rowsP] at h1
        cases hg : got (b.drop at_) k with
        | none => rw [hg] at h1; exact absurd rfl h1
        | some p =>
          obtain ⟨v', n'⟩ := p
          obtain ⟨q1, q2, q3, q4⟩ := got_ref hg
          rw [List.length_drop] at q3
          exact ⟨q1, q3, by rw [← q2, ← q4]⟩
      have hlr : (b.drop at_).length = b.length - at_ := List.length_drop
      have hcutr : ∀ q, (b.drop at_).getD q 0 = b.getD (at_ + q) 0 := fun q => B1.getD_drop b at_ q 0
      have hcutb : longOf k ≤ b.length - at_ → Imm KB NoB v (cutAt A c at_ 1) ((b.drop at_).take (longOf k)) := by
        intro hle
        have := (h.ext KB_pos ewv).cut (lo := at_) (hi := at_ + longOf k) (m := c) (by omega)
        rw [cut_drop] at this; exact this
      have hgood : good (valOf (b.drop at_) k) := by
        unfold valOf
        split
        · exact rightZ.2
        · split
          · rename_i h0 h8
            have hbe := be_lt ((b.drop at_).take k)
            have hlt2 : be ((b.drop at_).take k) < 256 ^ k := Nat.lt_of_lt_of_le hbe (Nat.pow_le_pow_right (by decide) (by rw [List.length_take]; omega))
            obtain ⟨_, q2, q3⟩ := hi_sgn (x := be ((b.drop at_).take k)) (k := k) (by omega) h8 hlt2
            exact (rightN q2 q3).2
          · refine ⟨?_, ⟨by dsimp only; omega, by dsimp only; omega⟩, ?_⟩
            · dsimp only; split <;> constructor <;> decide
            · rw [sb_size, List.length_take]; simp only [maxLen]; omega
      refine ⟨fun L v' => L = ((longOf k : Nat) : Int) ∧ v' = v, ?_, ?_⟩
      · rintro _ v' ⟨rfl, rfl⟩
        have nob : (¬ (k ≠ 9 ∧ longOf k ≤ b.length - at_)) → getP b = none := by
          intro hh
          exact Classical.byContradiction fun hg => hh ⟨(hH hg).1, (hH hg).2.1⟩
        have wa : IntKind.i64.wrap ((b.length : Int) - (at_ : Int)) = ((b.length - at_ : Nat) : Int) := by rw [wi _ (by omega) (by omega)]; omega
        rw [wa]
        refine brd (fun h9 => bad (nob (by omega)) ewv) (fun h9 => brd (fun hL => bad (nob (by omega)) ewv) (fun hL => ?_))
        have hLr : longOf k ≤ b.length - at_ := by omega
        have hcb := hcutb hLr
        intro g v1 f1
        refine ⟨okW3 f1.blk _ _ _, ?_⟩
        intro v2 hv2
        have b2 := setW3 f1.blk (.int .u8 0) (.int .i64 0) (.string (ByteArray.mk #[]))
        have e2 : Ext v' v2 := by rw [hv2]; exact f1.ext.setAll f1.ge _ _
        rw [← hv2] at b2
        have hgv := f1.ge
        have hge2 : ∀ k, k < v'.heap.size → ¬ (k = g) := fun k hk he => by omega
        have wal : IntKind.i64.wrap ((at_ : Int) + ((longOf k : Nat) : Int)) = ((at_ + longOf k : Nat) : Int) := by rw [wi _ (by omega) (by omega)]; omega
        rw [wal]
        simp only [Int.toNat_natCast]
        refine ⟨fun z => Blk z g [.int .u8 (if 1 ≤ k ∧ k ≤ 8 then 1 else 0), .int .i64 (if 1 ≤ k ∧ k ≤ 8 then numT (b.drop at_) k else 0), .string (ByteArray.mk #[])] ∧ Ext v' z, ?_, ?_⟩
        · rintro v3 ⟨b3, e3⟩
          refine ⟨fun z => Blk z g [.int .u8 (valOf (b.drop at_) k).k, .int .i64 (valOf (b.drop at_) k).n, .string (valOf (b.drop at_) k).s] ∧ Ext v' z, ?_, ?_⟩
          · rintro v4 ⟨b4, e4⟩
            refine ⟨_, b4.cell rfl, _, b4.cell rfl, _, b4.cell rfl, ?_⟩
            intro g5 v5 f5
            obtain ⟨rfl, rfl⟩ := f5
            obtain ⟨y, y2, v6, hr6, ho6, g6⟩ := (hoR.ext e4).push slV (ty := 22) (K := KV) (a := valOf (b.drop at_) k) (cs := vc (valOf (b.drop at_) k)) (e' := 37) rfl (KV_one (fun _ => False) v4 _ _ rfl) (by simp only [maxLen]; omega) (by omega)
            refine ⟨_, _, _, _, hr6, ?_⟩
            refine ⟨at_ + longOf k, row ++ [valOf (b.drop at_) k], rfl, by omega, rfl, by simp [hrl], ?_, ?_, ho6, g6.ext (ev.trans' e4) nv, g6.new (ev.trans' e4) nv⟩
            · intro v hv
              rcases List.mem_append.1 hv with hv | hv
              · exact hrg v hv
              · rw [List.mem_singleton.1 hv]; exact hgood
            · intro hh
              rw [hro hh, rowsP, (hH hh).2.2]
              dsimp only
              cases rowsP b (dn.drop (j + 1)) (at_ + longOf k) <;> simp
          · refine brd (fun h10 => ?_) (fun h10 => ?_)
            · obtain ⟨o5, s5⟩ := set1 b3 (i := 0) (by simp) (.int .u8 3)
              refine ⟨o5, fun v5 hv5 => ⟨by decide, ?_⟩⟩
              obtain ⟨b5, f5⟩ := s5 v5 hv5
              have e5 : Ext v' v5 := e3.trans f5 (fun _ _ h => h) (fun q hq he => hge2 q hq he)
              have hN0 : (if 1 ≤ k ∧ k ≤ 8 then numT (b.drop at_) k else 0) = 0 := if_neg (by omega)
              rw [hN0] at b5
              have tm : Int.tmod (k : Int) 2 = ((k % 2 : Nat) : Int) := by rw [Int.tmod_eq_emod_of_nonneg (by omega)]; rfl
              rw [tm]
              have hval : valOf (b.drop at_) k = ⟨if k % 2 = 1 then 2 else 3, 0, ⟨((b.drop at_).take (longOf k)).toArray⟩⟩ := by
                unfold valOf; rw [if_neg (by omega), if_neg (by omega)]
              have hlen : ((b.drop at_).take (longOf k)).length = at_ + longOf k - at_ := by rw [List.length_take]; omega
              have str : ∀ z, Ext v' z → RunsTo Try.prog (convert 27 9 (.slice (cutAt A c at_ 1) (at_ + longOf k - at_) (c - at_))) z (.string ⟨((b.drop at_).take (longOf k)).toArray⟩) z := by
                intro z hz
                have := to_str_all btF hcb (c - at_) z hz
                rw [hlen] at this; exact this
              refine brd (fun hodd => ?_) (fun hev => ?_)
              · obtain ⟨o6, s6⟩ := set1 b5 (i := 0) (by simp) (.int .u8 2)
                refine ⟨o6, fun v6 hv6 => ?_⟩
                obtain ⟨b6, f6⟩ := s6 v6 hv6
                have e6 : Ext v' v6 := e5.trans f6 (fun _ _ h => h) (fun q hq he => hge2 q hq he)
                obtain ⟨o7, s7⟩ := set1 b6 (i := 2) (by simp) (.string ⟨((b.drop at_).take (longOf k)).toArray⟩)
                refine ⟨⟨by omega, by omega⟩, ⟨by omega, by omega⟩, _, _, str v6 e6, o7, fun v7 hv7 => ?_⟩
                obtain ⟨b7, f7⟩ := s7 v7 hv7
                refine ⟨?_, e6.trans f7 (fun _ _ h => h) (fun q hq he => hge2 q hq he)⟩
                rw [hval, if_pos (by omega)]
                exact b7
              · obtain ⟨o7, s7⟩ := set1 b5 (i := 2) (by simp) (.string ⟨((b.drop at_).take (longOf k)).toArray⟩)
                refine ⟨⟨by omega, by omega⟩, ⟨by omega, by omega⟩, _, _, str v5 e5, o7, fun v7 hv7 => ?_⟩
                obtain ⟨b7, f7⟩ := s7 v7 hv7
                refine ⟨?_, e5.trans f7 (fun _ _ h => h) (fun q hq he => hge2 q hq he)⟩
                rw [hval, if_neg (by omega)]
                exact b7
            · refine ⟨?_, e3⟩
              by_cases h0 : k = 0
              · subst h0
                exact b3
              · have hk8 : 1 ≤ k ∧ k ≤ 8 := by omega
                rw [if_pos hk8, if_pos hk8] at b3
                unfold valOf
                rw [if_neg h0, if_pos hk8.2]
                have hL8 : longOf k = k := by unfold longOf; rw [if_neg (by omega)]
                rw [numT_sgn hk8.1 hk8.2 (by omega)] at b3
                exact b3
        · have zero : ¬ (1 ≤ k ∧ k ≤ 8) → Blk v2 g [.int .u8 (if 1 ≤ k ∧ k ≤ 8 then 1 else 0), .int .i64 (if 1 ≤ k ∧ k ≤ 8 then numT (b.drop at_) k else 0), .string (ByteArray.mk #[])] ∧ Ext v' v2 := by
            intro hk
            rw [if_neg hk, if_neg hk]
            exact ⟨b2, e2⟩
          refine brd (fun hk1 => brd (fun hk8 => ?_) (fun hk8 => zero (by omega))) (fun hk1 => zero (by omega))
          have hL8 : longOf k = k := by unfold longOf; rw [if_neg (by omega)]
          have k1 : 1 ≤ k := by omega
          have k8 : k ≤ 8 := by omega
          rw [if_pos ⟨k1, k8⟩, if_pos ⟨k1, k8⟩]
          obtain ⟨o3, s3⟩ := set1 b2 (i := 0) (by simp) (.int .u8 1)
          refine ⟨o3, fun v3 hv3 => ?_⟩
          obtain ⟨b3, f3⟩ := s3 v3 hv3
          have e3 : Ext v' v3 := e2.trans f3 (fun _ _ h => h) (fun q hq he => hge2 q hq he)
          have hw3 := ewv.trans' e3
          have hT0 : numT (b.drop at_) 0 = if 128 ≤ ((b.drop at_).getD 0 0).toNat then -1 else 0 := by
            unfold numT
            show (if _ then ((0 : Nat) : Int) - ((1 : Nat) : Int) else ((0 : Nat) : Int)) = _
            rfl
          refine ⟨fun z => Blk z g [.int .u8 1, .int .i64 (numT (b.drop at_) 0), .string (ByteArray.mk #[])] ∧ Ext v' z, ?_, ?_⟩
          · rintro v4 ⟨b4, e4⟩
            refine ⟨fun y z => ∃ q : Nat, q ≤ k ∧ y = (q : Int) ∧ Blk z g [.int .u8 1, .int .i64 (numT (b.drop at_) q), .string (ByteArray.mk #[])] ∧ Ext v' z, fun y _ => (k - y).toNat, ⟨0, by omega, rfl, b4, e4⟩, ?_⟩
            rintro _ z ⟨q, hq, rfl, bz, ez⟩
            refine brd (fun hlt3 => ?_) (fun hge3 => ?_)
            · have hql : q < (b.drop at_).length := by omega
              have hqk : q < k := by omega
              obtain ⟨bd, hB, hcB⟩ := itemBx h (j := at_ + q) (by omega)
              rw [← hcutr q] at hcB
              have waq : IntKind.i64.wrap ((at_ : Int) + (q : Int)) = ((at_ + q : Nat) : Int) := by rw [wi _ (by omega) (by omega)]; omega
              rw [waq]
              simp only [Int.toNat_natCast]
              have ed : Ext z z.drew := Fr.drew NoB z
              have hst := numT_step hql
              have hsg := numT_sgn (r := b.drop at_) (q := q + 1) (by omega) (by omega) (by omega)
              have hbe := be_lt ((b.drop at_).take (q + 1))
              have hlt2 : be ((b.drop at_).take (q + 1)) < 256 ^ (q + 1) := Nat.lt_of_lt_of_le hbe (Nat.pow_le_pow_right (by decide) (by rw [List.length_take]; omega))
              obtain ⟨_, r1, r2⟩ := hi_sgn (x := be ((b.drop at_).take (q + 1))) (k := q + 1) (by omega) (by omega) hlt2
              rw [← hsg] at r1 r2
              have hb256 := ((b.drop at_).getD q 0).toNat_lt
              have hval : IntKind.i64.wrap (IntKind.i64.wrap (numT (b.drop at_) q * 256) + IntKind.i64.wrap (((b.drop at_).getD q 0).toNat : Int)) = numT (b.drop at_) (q + 1) := by
                rw [hst] at r1 r2 ⊢
                exact w_add (by omega) (by omega) r1 r2
              have bzd := bz.ext ed
              obtain ⟨o5, s5⟩ := set1 bzd (i := 1) (by simp) (.int .i64 (numT (b.drop at_) (q + 1)))
              refine ⟨fun y => Ext z y, ed, _, fun y hy => (bz.ext hy).cell rfl, bd, hB, ⟨by omega, by omega⟩, _, fun y hy => hcB y ((ewv.trans' ez).trans' hy), ?_⟩
              rw [hval]
              refine ⟨o5, fun z2 hz2 => ?_⟩
              obtain ⟨b5, f5⟩ := s5 z2 hz2
              rw [wi _ (by omega) (by omega)]
              exact ⟨⟨q + 1, by omega, rfl, b5, (ez.trans' ed).trans f5 (fun _ _ h => h) (fun q hq he => hge2 q hq he)⟩, by omega⟩
            · obtain rfl : q = k := by omega
              exact ⟨bz, ez⟩
          · obtain ⟨bd, hB, hcB⟩ := itemBx h (j := at_) (by omega)
            have h00 := hcutr 0
            rw [Nat.add_zero] at h00
            rw [← h00] at hcB
            simp only [Int.toNat_natCast]
            refine ⟨bd, hB, ⟨by omega, by omega⟩, _, hcB v3 hw3, ?_⟩
            refine brd (fun hneg => ?_) (fun hpos => ?_)
            · obtain ⟨o5, s5⟩ := set1 b3 (i := 1) (by simp) (.int .i64 (-1))
              refine ⟨o5, fun v5 hv5 => ?_⟩
              obtain ⟨b5, f5⟩ := s5 v5 hv5
              rw [hT0, if_pos (by omega)]
              exact ⟨b5, e3.trans f5 (fun _ _ h => h) (fun q hq he => hge2 q hq he)⟩
            · rw [hT0, if_neg (by omega)]
              exact ⟨b3, e3⟩
      · have t10 : ∀ (m : Nat), Int.tdiv (m : Int) 2 = ((m / 2 : Nat) : Int) := fun m => by rw [Int.tdiv_eq_ediv_of_nonneg (by omega)]; rfl
        refine brd (fun h10 => ⟨by decide, ?_, rfl⟩) (fun h10 => ⟨?_, rfl⟩)
        · have : IntKind.i64.wrap ((k : Int) - 10) = ((k - 10 : Nat) : Int) := by rw [wi _ (by omega) (by omega)]; omega
          rw [this, t10, wi _ (by omega) (by omega)]
          unfold longOf; rw [if_pos (by omega)]
        · unfold longOf; rw [if_neg (by omega)]
    · have hjl : j = dn.length := by simp at hge; omega
      subst hjl
      rw [List.drop_length] at hro
      have hfin : getP b ≠ none → getP b = some row := by
        intro hh
        have h1 := hro hh
        rw [h1] at hP
        simp only [rowsP, Option.map_some, List.append_nil] at hP
        rw [hP] at hh ⊢
        split at hh
        · exact absurd rfl hh
        · rw [if_neg (by assumption)]
      have hno : ¬ ((putR row).2 = 0 ∧ (putR row).1 = b) → getP b = none := by
        intro hh
        refine Classical.byContradiction fun hg => hh ?_
        have := putR_get (hfin hg)
        rw [this]
        exact ⟨rfl, rfl⟩
      refine (PutR_spec rfl (hoR.imm KV_pos) (by simp only [maxLen]; omega) hrg).mono ?_
      rintro _ v1 ⟨Z, cZ, rfl, oZ, e2, nZ⟩
      refine ⟨_, _, _, _, rfl, ?_⟩
      have e3 := ewv.trans' e2
      refine brn (fun hne => bad (hno (fun hh => hne hh.1)) e3) (fun he0 => ?_)
      have hpl := (putR_ok he0).2.1
      have hpe := (putR_ok he0).2.2
      refine (sameR_spec rfl rfl oZ.imm0 (h.ext KB_pos e3) (by rw [hpe]; dsimp only; omega)).mono ?_
      rintro _ v2 ⟨rfl, e4⟩
      refine ⟨_, rfl, brnb (fun hne => bad (hno (fun hh => of_decide_eq_false hne hh.2)) (e3.trans' e4)) (fun heq => ?_)⟩
      have hget := get_of_put he0 (of_decide_eq_true heq) hrg
      unfold getR
      rw [hget]
      exact ⟨x8, x10, rfl, hoR.ext (e2.trans' e4), e3.trans' e4, nv.ext eu⟩
end Go.Proofs.Ytpaockbhbdeekaa
