/- 'SorterNumbers' answers true. -/
import Derived.Test.YtakmlaliglmnmaaSNum
set_option linter.unusedVariables false
set_option linter.unusedSimpArgs false
namespace Go.Proofs.Ytakmlaliglmnmaa
open Go Go.Sx R1 S1 Go.Lib
theorem setVal {w : World} {A : Option Addr} {c i : Nat} {l : List V} (h : OwnK KV w A c l) (hi : i < l.length) (v : V) :
    ∃ g, A = some ⟨g, 0, none⟩ ∧ stOK (Addr.add ⟨g, 0, none⟩ (i * 3)) 0 (vc v) w ∧ ∀ w', w' = setAll (Addr.add ⟨g, 0, none⟩ (i * 3)) 0 (vc v) w → OwnK KV w' A c (l.set i v) ∧ Fr (ownB A) w w' := by
  obtain ⟨xs, ho, hx⟩ := id h
  obtain ⟨g, hA, _, _, _⟩ := ho.at_ (j := i * 3) (by show i * 3 < l.length * 3; omega)
  subst hA
  refine ⟨g, rfl, stOK_of _ 0 (fun j hj => ?_), ?_⟩
  · have hj3 : j < 3 := hj
    obtain ⟨g', hg', h1, h2, _⟩ := ho.at_ (j := i * 3 + j) (by show i * 3 + j < l.length * 3; omega)
    cases hg'
    rw [add_new, add_new, Nat.zero_add, Nat.zero_add]
    exact ⟨h1, h2⟩
  · rintro w' rfl
    rw [add_new, Nat.zero_add]
    exact ⟨h.set (fun _ _ _ h => h) hi (a := v) rfl rfl, (Fr.setAll _ _ _).mono fun k _ hk => by rw [ownB_some]; exact hk.symm⟩
theorem L7 {β : Type} (a : β) (n : Nat) : n = (List.replicate n a).length := by rw [List.length_replicate]
theorem L1000 {β : Type} (a : β) (n : Nat) (h : n ≤ 1000) : (List.replicate n a).length ≤ 1000 := by rw [List.length_replicate]; exact h
theorem good_k1 : ∀ v ∈ k1, good v := fun v hv => by rw [List.mem_singleton.1 hv]; exact ⟨⟨by decide, by decide⟩, ⟨by decide, by decide⟩, by decide⟩
theorem good_one {v : V} (h : good v) : ∀ x ∈ [v], good x := fun x hx => by rw [List.mem_singleton.1 hx]; exact h
theorem good_nil : ∀ v ∈ ([] : List V), good v := fun v hv => by cases hv
set_option maxRecDepth 200000 in
set_option maxHeartbeats 4000000 in
theorem SorterNumbers_holds (w : World) : CallsV Try.prog 9 #[] w fun v w' => v = .bool true ∧ Ext w w' := by
  refine cardindexlaw07_SorterNumbers.calls okay ?_
  unfold cardindexlaw07_SorterNumbers.W
  obtain ⟨w1, hr1, oA, e1⟩ := make_ownK (K := Kd.bool) (a := false) slBo (fun _ _ => rfl) w 201 (by decide) (by decide) .i64 .i64
  refine ⟨_, _, _, _, hr1, ?_⟩
  refine (New_bad (by decide) false).mono ?_
  rintro _ u ⟨rfl, hu⟩
  obtain rfl : w1 = u := hu.symm
  refine ⟨_, _, rfl, ?_⟩
  obtain ⟨w2, hr2, oB, e2'⟩ := make_ownK (K := Kd.bool) (a := false) slBo (fun _ _ => rfl) w1 200 (by decide) (by decide) .i64 .i64
  have e2 := e1.trans' e2'
  refine ⟨_, _, _, _, hr2, ?_⟩
  refine (New_n (L7 false 200) (oB.imm KBo_pos) (by rw [List.length_replicate]; omega) false).mono ?_
  rintro _ w3 ⟨gw, Dw, dcw, rfl, hw, e3'⟩
  have e3 := e2.trans' e3'
  refine ⟨_, _, rfl, ?_⟩
  intro g4 w4 f4
  have e4 := e3.trans' f4.ext
  refine (New_n (ds := [false]) rfl (freshFlag f4).imm (by simp) false).mono ?_
  rintro _ w5 ⟨gs, Ds, dcs, rfl, hs, e5'⟩
  have e5 := e4.trans' e5'
  refine ⟨_, _, rfl, brn (fun h => absurd rfl h) (fun _ => brn (fun h => absurd rfl h) (fun _ => brn (fun h => absurd rfl h) (fun _ => ?_)))⟩
  refine (num_spec w5 1).mono ?_
  rintro _ w6 ⟨rfl, e6'⟩
  refine ⟨_, _, _, rfl, ?_⟩
  intro kk w7 f7
  have e67 := e6'.trans' f7.ext
  have k7 : OwnK KV w7 (some ⟨kk, 0, none⟩) 1 k1 := freshRow f7 k1 (by simp [k1, maxLen]) rfl
  have hkk : w5.heap.size ≤ kk := Nat.le_trans e6'.size f7.ge
  have hS : SN ⟨w, w2.heap.size, w4.heap.size, gw, Dw, dcw, gs, Ds, dcs, kk⟩ (fun _ => False) True w7 sS := by
    refine ⟨⟨fun k => w4.heap.size ≤ k ∧ k < w5.heap.size, none, 0, fun k hk => ⟨hk.1, Nat.lt_of_lt_of_le hk.2 e67.size⟩, (hs.sub fun k hk hr => ⟨hr, hk⟩).ext e67, ?_, fun k hk => hk.elim⟩, fun _ => ((hw.ext f4.ext).sub fun k hk hr => ⟨hr, hk⟩).ext (e5'.trans' e67), fun k hk => hk.elim, ⟨Nat.le_trans e5'.size hkk, f7.blk.lt⟩, e5.trans' e67, Nat.le_trans e5'.size e67.size, ⟨e2.size, Nat.le_trans e3'.size f4.ext.size⟩⟩
    exact (immKV_off (S := fun k => (w4.heap.size ≤ k ∧ k < w5.heap.size) ∨ False) (k7.imm KV_pos) (fun q => q.elim (fun q => by omega) id)).sub KV_pos fun k _ q => .inr q
  clear hs hw e6' e67 hkk
  have hS := hS.go (Fr.drew NoB w7)
  refine (hS.addX (key := []) add1 (stay add1 (by decide)) rfl (rfl : 1 = k1.length) (immNil _ _) hS.key good_nil good_k1 (by simp) (by simp [k1])).mono ?_
  rintro _ u1 ⟨rfl, hS⟩
  refine ⟨_, rfl, brd (fun _ => ?_) (fun h => absurd rfl h)⟩
  intro g8 w8 f8
  have hS := hS.go f8.ext
  refine (hS.addX (key := [⟨9, 0, ByteArray.mk #[]⟩]) add2 (stay add2 (by decide)) rfl (rfl : 1 = k1.length) ((freshRow f8 [⟨9, 0, ByteArray.mk #[]⟩] (by simp [maxLen]) rfl).imm KV_pos) hS.key (good_one ⟨⟨by decide, by decide⟩, ⟨by decide, by decide⟩, by decide⟩) good_k1 (by simp) (by simp [k1])).mono ?_
  rintro _ u2 ⟨rfl, hS⟩
  refine ⟨_, rfl, brd (fun _ => ?_) (fun h => absurd rfl h)⟩
  intro g9 w9 f9
  have hS := hS.go f9.ext
  refine (hS.addX (key := k1) (row := [⟨0, 1, ByteArray.mk #[]⟩]) add3 (stay add3 (by decide)) rfl rfl hS.key ((freshRow f9 [⟨0, 1, ByteArray.mk #[]⟩] (by simp [maxLen]) rfl).imm KV_pos) good_k1 (good_one ⟨⟨by decide, by decide⟩, ⟨by decide, by decide⟩, by decide⟩) (by simp [k1]) (by simp)).mono ?_
  rintro _ u3 ⟨rfl, hS⟩
  refine ⟨_, rfl, brd (fun _ => ?_) (fun h => absurd rfl h)⟩
  obtain ⟨w10, hr10, oM, e10⟩ := make_ownK (K := KV) (a := V0) slV (fun _ _ => rfl) u3 201 (by decide) (by decide) .i64 .i64
  refine ⟨_, _, _, _, hr10, ?_⟩
  have hS := hS.go e10
  refine (hS.addX (key := k1) add4 (stay add4 (by decide)) rfl (L7 V0 201) hS.key (oM.imm KV_pos) good_k1 (rep_good null_good 201) (by simp [k1]) (L1000 V0 201 (by decide))).mono ?_
  rintro _ u4 ⟨rfl, hS⟩
  refine ⟨_, rfl, brd (fun _ => ?_) (fun h => absurd rfl h)⟩
  obtain ⟨w11, hr11, oM, e11⟩ := make_ownK (K := KV) (a := V0) slV (fun _ _ => rfl) u4 201 (by decide) (by decide) .i64 .i64
  refine ⟨_, _, _, _, hr11, ?_⟩
  have hS := hS.go e11
  refine (hS.addX (row := k1) add5 (stay add5 (by decide)) (L7 V0 201) rfl (oM.imm KV_pos) hS.key (rep_good null_good 201) good_k1 (L1000 V0 201 (by decide)) (by simp [k1])).mono ?_
  rintro _ u5 ⟨rfl, hS⟩
  refine ⟨_, rfl, brd (fun _ => ?_) (fun h => absurd rfl h)⟩
  clear oM e10 e11 hr10 hr11 f8 f9
  refine ⟨?_, ?_⟩
  all_goals (
   obtain ⟨w12, hr12, oP, e12⟩ := make_ownK (K := KV) (a := V0) slV (fun _ _ => rfl) u5 200 (by decide) (by decide) .i64 .i64
   refine ⟨_, _, _, _, hr12, ?_⟩
   obtain ⟨w13, hr13, oQ, e13⟩ := make_ownK (K := KV) (a := V0) slV (fun _ _ => rfl) w12 200 (by decide) (by decide) .i64 .i64
   refine ⟨_, _, _, _, hr13, ?_⟩
   have hS := hS.go (e12.trans' e13)
   have iP := (oP.imm KV_pos).ext KV_pos e13
   have iQ := oQ.imm KV_pos
   refine CallsV.mono (hS.addW addW (L7 V0 200) (L7 V0 200) (by first | exact iP | exact iQ) (by first | exact iQ | exact iP) (rep_good null_good 200) (rep_good null_good 200) (L1000 V0 200 (by decide)) (L1000 V0 200 (by decide))) ?_
   clear hS iP iQ oP oQ e12 e13 hr12 hr13
   rintro _ u6 ⟨rfl, hS⟩
   refine ⟨_, rfl, ?_⟩
   obtain ⟨w14, hr14, oL, e14⟩ := make_ownK (K := KV) (a := V0) slV (fun _ _ => rfl) u6 16 (by decide) (by decide) .i64 .i64
   refine ⟨_, _, _, _, hr14, ?_⟩
   have hlt14 : u6.heap.size < w14.heap.size := by
     obtain ⟨xs', ho, _⟩ := id oL
     exact ho.lt _ ⟨_, rfl, rfl⟩
   have hS : SN ⟨w, w2.heap.size, w4.heap.size, gw, Dw, dcw, gs, Ds, dcs, kk⟩ (ownB (some ⟨u6.heap.size, 0, none⟩)) False w14 sS := hS.beside e14 (fun k hk => by rw [ownB_some] at hk; subst hk; exact ⟨Nat.le_refl _, hlt14⟩)
   refine ⟨fun i u => ∃ j : Nat, j ≤ 16 ∧ i = (j : Int) ∧ OwnK KV u (some ⟨u6.heap.size, 0, none⟩) 16 (List.replicate j bigV ++ List.replicate (16 - j) V0) ∧ SN ⟨w, w2.heap.size, w4.heap.size, gw, Dw, dcw, gs, Ds, dcs, kk⟩ (ownB (some ⟨u6.heap.size, 0, none⟩)) False u sS, fun i _ => (16 - i).toNat, ⟨0, by omega, rfl, oL, hS⟩, ?_⟩
   clear hS oL
   rintro _ u7 ⟨j, hj, rfl, oL, hS⟩
   refine brd (fun hlt => ?_) (fun hge => ?_)
   · have hj16 : j < 16 := by omega
     refine (Repeat_spec u7).mono ?_
     rintro _ w15 ⟨rfl, e15⟩
     refine ⟨_, rfl, ?_⟩
     refine (text_spec w15 _).mono ?_
     rintro _ w16 ⟨rfl, e16⟩
     refine ⟨_, _, _, rfl, ?_⟩
     have e1516 := e15.trans' e16
     have hlen : j < (List.replicate j bigV ++ List.replicate (16 - j) V0).length := by rw [List.length_append, List.length_replicate, List.length_replicate]; omega
     obtain ⟨g, hg, hok, hset⟩ := setVal (oL.ext e1516) hlen bigV
     cases hg
     refine ⟨_, rfl, ⟨by omega, by omega⟩, by rw [Int.toNat_natCast]; exact hok, ?_⟩
     rw [Int.toNat_natCast]
     intro w17 hw17
     obtain ⟨o17, f17⟩ := hset w17 hw17
     have hst : (List.replicate j bigV ++ List.replicate (16 - j) V0).set j bigV = List.replicate (j + 1) bigV ++ List.replicate (16 - (j + 1)) V0 := by
       rw [List.set_append_right _ _ (by rw [List.length_replicate]; omega), List.length_replicate, Nat.sub_self, show 16 - j = (16 - (j + 1)) + 1 by omega, List.replicate_succ, List.set_cons_zero, List.replicate_succ' (n := j)]
       simp
     rw [hst] at o17
     rw [wi _ (by omega) (by omega)]
     exact ⟨⟨j + 1, by omega, rfl, o17, (hS.go e1516).write f17⟩, by dsimp only; omega⟩
   obtain rfl : j = 16 := by omega
   have oL : OwnK KV u7 (some ⟨u6.heap.size, 0, none⟩) 16 (List.replicate 16 bigV) := by simpa using oL
   refine (hS.addX (key := k1) addL (stay addL (by decide)) rfl (L7 bigV 16) hS.key (oL.imm KV_pos) good_k1 (rep_good big_good 16) (by simp [k1]) (L1000 bigV 16 (by decide))).mono ?_
   clear hS oL
   rintro _ u8 ⟨rfl, hS⟩
   refine ⟨_, rfl, brd (fun _ => ?_) (fun h => absurd rfl h)⟩
   refine hS.len.mono ?_
   rintro _ u ⟨rfl, hu⟩
   obtain rfl : u8 = u := hu.symm
   refine ⟨_, rfl, brd (fun _ => ?_) (fun h => absurd rfl h)⟩
   refine hS.rewind.mono ?_
   clear hS
   rintro _ u9 ⟨rfl, hS⟩
   have hS : SN ⟨w, w2.heap.size, w4.heap.size, gw, Dw, dcw, gs, Ds, dcs, kk⟩ (ownB (some ⟨u6.heap.size, 0, none⟩)) False u9 sS := hS
   refine ⟨_, rfl, ?_⟩
   refine (text_spec u9 _).mono ?_
   rintro _ w18 ⟨rfl, e18⟩
   refine ⟨_, _, _, rfl, ?_⟩
   intro gi w19 f19
   have o19 : OwnK KV w19 (some ⟨gi, 0, none⟩) 1 [inV] := freshRow f19 [inV] (by simp [maxLen]) rfl
   have hgi : w18.heap.size ≤ gi := f19.ge
   have hS : SN ⟨w, w2.heap.size, w4.heap.size, gw, Dw, dcw, gs, Ds, dcs, kk⟩ (ownB (some ⟨gi, 0, none⟩)) False w19 sS := (hS.go e18).beside f19.ext (fun k hk => by rw [ownB_some] at hk; subst hk; exact ⟨hgi, f19.blk.lt⟩)
   refine (hS.addK (key := k1) (row := [inV]) addI addI' rfl rfl hS.key (o19.imm KV_pos) good_k1 (good_one ⟨⟨by decide, by decide⟩, ⟨by decide, by decide⟩, by decide⟩) (by simp [k1]) (by simp)).mono ?_
   have bi := f19.blk
   clear hS o19
   rintro _ u10 ⟨rfl, hS, hblk⟩
   have bi : Blk u10 gi [.int .u8 inV.k, .int .i64 inV.n, .string inV.s] := by
     obtain ⟨e, hb⟩ := bi
     exact ⟨e, (hblk gi ⟨_, rfl, rfl⟩).trans hb⟩
   refine ⟨_, rfl, ?_⟩
   refine (text_spec u10 _).mono ?_
   rintro _ w20 ⟨rfl, e20⟩
   have bi := bi.ext e20
   refine ⟨_, _, _, rfl, _, rfl, ⟨by decide, by decide⟩, okV3 bi _ _ _, ?_⟩
   intro w21 hw21
   have f21 : Fr (ownB (some ⟨gi, 0, none⟩)) w20 w21 := by
     rw [hw21]
     exact (Fr.setAll (g := gi) (o := 0) _ 0 w20).mono fun k _ hk => by rw [ownB_some]; exact hk.symm
   have hS := (hS.go e20).write f21
   clear bi hblk f21 hw21
   refine hS.sort.mono ?_
   rw [sortI]
   clear hS
   rintro _ u11 ⟨rfl, hS⟩
   refine ⟨_, rfl, ?_⟩
   refine hS.sort.mono ?_
   clear hS
   rintro _ u12 ⟨rfl, hS⟩
   refine ⟨_, rfl, ?_⟩
   refine hS.nextA.mono ?_
   clear hS
   rintro _ u13 ⟨A, cA, rfl, oA1, hS⟩
   have oA1 : OwnK KV u13 A cA [inV] := oA1
   refine ⟨_, _, _, _, rfl, brn (fun h => absurd rfl h) (fun _ => ?_)⟩
   refine (text_spec u13 _).mono ?_
   rintro _ w22 ⟨rfl, e22⟩
   obtain ⟨ga, hga, hok, hset⟩ := setVal (i := 0) (oA1.ext e22) (by simp) outV
   refine ⟨_, _, _, rfl, _, hga, ⟨by decide, by decide⟩, hok, ?_⟩
   intro w23 hw23
   have hS := (hS.go e22).write (hset w23 hw23).2
   clear hset oA1 hok
   refine hS.nextA.mono ?_
   clear hS
   rintro _ u14 ⟨A2, cA2, rfl, _, hS⟩
   refine ⟨_, _, _, _, rfl, ?_⟩
   refine hS.rewind.mono ?_
   clear hS
   rintro _ u15 ⟨rfl, hS⟩
   refine ⟨_, rfl, ?_⟩
   refine hS.nextA.mono ?_
   clear hS
   rintro _ u16 ⟨A3, cA3, rfl, oA3, hS⟩
   have oA3 : OwnK KV u16 A3 cA3 [inV] := oA3
   have eu16 := hS.ext
   clear hS
   refine ⟨_, _, _, _, rfl, ?_⟩
   refine (New_n (ds := []) rfl (Imm.nil _ _ _ _) (by simp) true).mono ?_
   rintro _ u17 ⟨gf, Df, dcf, rfl, hf, e17⟩
   refine ⟨_, _, rfl, ?_⟩
   obtain ⟨M, hM⟩ : ∃ M : Nat, M = 65536 := ⟨_, rfl⟩
   refine ⟨fun i v => ∃ j : Nat, j ≤ M ∧ i = (j : Int) ∧ ∃ L lc, Sor (fun k => u16.heap.size ≤ k) v gf L lc Df dcf (fullS j) ∧ Ext u16 v, fun i _ => ((M : Int) - i).toNat, ⟨0, by omega, rfl, none, 0, hf, e17⟩, ?_⟩
   clear hf e17
   intro i u18 hI
   obtain ⟨j, hI⟩ := hI
   obtain ⟨hj, hI⟩ := hI
   obtain ⟨hi, hI⟩ := hI
   obtain ⟨Lf, lcf, hf, e18⟩ := hI
   subst hi
   generalize hN : (65536 : Int) = N
   refine brd (fun hlt => ?_) (fun hge => ?_)
   · refine (Add_spec (key := []) (row := []) hf (fun k hk => Nat.le_trans e18.size hk) (immNil _ _) (immNil _ _) good_nil good_nil (by simp) (by simp)).mono ?_
     rw [full_addE, if_neg (by omega), full_addS j (by omega)]
     rintro _ u19 ⟨rfl, m⟩
     have e19 := m.ext hf e18 (fun k hk => hk)
     obtain ⟨L', lc', hf', _, _⟩ := m
     refine ⟨_, rfl, brn (fun h => absurd rfl h) (fun _ => ?_)⟩
     rw [wi _ (by omega) (by omega)]
     exact ⟨⟨j + 1, by omega, rfl, L', lc', hf', e19⟩, by dsimp only; omega⟩
   obtain rfl : j = M := by omega
   have c5 := full_addE j
   rw [if_pos (by omega)] at c5
   have c6 : addS (fullS j) [] [] = fullS j := by rw [addS, c5, if_neg (by decide)]
   have c7 : (sortS (fullS j)).l.length = 1 := by
     obtain ⟨m, rfl⟩ : ∃ m, j = m + 1 := ⟨j - 1, by omega⟩
     exact full_sort' m
   refine (Add_spec (key := []) (row := []) hf (fun k hk => Nat.le_trans e18.size hk) (immNil _ _) (immNil _ _) good_nil good_nil (by simp) (by simp)).mono ?_
   rw [c5, c6]
   rintro _ u19 ⟨rfl, m⟩
   have e19 := m.ext hf e18 (fun k hk => hk)
   obtain ⟨L', lc', hf', _, _⟩ := m
   refine ⟨_, rfl, ?_⟩
   refine (Len_spec hf').mono ?_
   rintro _ u ⟨rfl, hu⟩
   obtain rfl : u19 = u := hu.symm
   refine ⟨_, rfl, ?_⟩
   have hlen : ((fullS j).l.length : Int) = N := by
     show (((List.replicate j blank).length : Nat) : Int) = N
     rw [List.length_replicate]; omega
   refine (Sort_spec hf' (fun k hk => Nat.le_trans e19.size hk)).mono ?_
   rintro _ u20 ⟨rfl, m⟩
   have e20 := m.ext hf' e19 (fun k hk => hk)
   obtain ⟨L2, lc2, hf2, _, _⟩ := m
   refine ⟨_, rfl, ?_⟩
   refine brd (fun _ => ?_) (fun h => absurd rfl h)
   refine brd (fun _ => ?_) (fun h => absurd rfl h)
   refine brd (fun _ => ?_) (fun h => absurd rfl h)
   refine brd (fun _ => ?_) (fun h => absurd rfl h)
   refine brd (fun _ => ?_) (fun h => absurd rfl h)
   refine br (fun _ => ?_) (fun h => by cases h)
   refine brnb (fun _ => ?_) (fun h => by cases h)
   refine brd (fun _ => ?_) (fun h => absurd rfl h)
   refine br (fun _ => ?_) (fun h => by cases h)
   refine brd (fun _ => ?_) (fun h => absurd rfl h)
   have ed := e20.trans' (Fr.drew NoB u20)
   obtain ⟨ad, hA3, cs, hrep, hc⟩ := ((oA3.imm KV_pos).ext KV_pos ed).get1 (i := 0) (by simp)
   have hrep : cs = vc inV := hrep
   subst hrep
   have hcell : ∀ z, Ext u20.drew z → ∀ k v, (vc inV)[k]? = some v → z.cell? ((Addr.add ad (Int.toNat 0 * 3)).add k) = some v := fun z hz k v hv => by
     rw [add_add]
     exact hz.cell (fun h => h) (hc k v hv)
   refine ⟨ad, hA3, ⟨by decide, by decide⟩, fun z => Ext u20.drew z, .refl _ _, inV.k, fun z hz => hcell z hz 0 _ rfl, inV.n, fun z hz => hcell z hz 1 _ rfl, inV.s, fun z hz => hcell z hz 2 _ rfl, ?_⟩
   refine (text_spec u20.drew _).mono ?_
   rintro _ u21 ⟨rfl, e21⟩
   refine ⟨_, _, _, rfl, e21, cfalse (by kernel_rfl) ?_⟩
   refine br (fun _ => ?_) (fun h => absurd ((eqV inV inV).2 rfl) (by rw [show (decide (inV.k = inV.k) && (decide (inV.n = inV.n) && (ByteArray.toList inV.s == ByteArray.toList inV.s && true))) = false from h]; decide))
   refine brd (fun _ => ?_) (fun h => absurd rfl h)
   refine brd (fun _ => ?_) (fun h => absurd hlen h)
   refine brd (fun _ => ?_) (fun h => absurd rfl h)
   refine (Len_spec (hf2.ext ((Fr.drew NoB u20).ext e21))).mono ?_
   rw [c7]
   rintro _ u ⟨rfl, hu⟩
   obtain rfl : u21 = u := hu.symm
   refine ⟨_, rfl, e21, ?_⟩
   refine brd (fun _ => ?_) (fun h => absurd rfl h)
   refine (awake_spec u21).mono ?_
   rintro _ u22 ⟨rfl, e22⟩
   exact ⟨_, rfl, e21.trans' e22, rfl, eu16.trans' ((ed.trans' e21).trans' e22)⟩)
end Go.Proofs.Ytakmlaliglmnmaa
