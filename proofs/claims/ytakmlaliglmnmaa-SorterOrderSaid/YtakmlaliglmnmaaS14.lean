/- Layer 7: SorterAgain. -/
import Derived.Test.YtakmlaliglmnmaaS13
set_option linter.unusedVariables false
set_option linter.unusedSimpArgs false
namespace Go.Proofs.Ytakmlaliglmnmaa
open Go Go.Sx R1 S1 Go.Lib

/-- the key's values of a sorted row -/
def pr (x : S1.One) : V × V := (x.r.getD 0 V0, x.r.getD 1 V0)
theorem IsOne.key {ds : List Bool} {x : S1.One} (h : IsOne ds x) : x.k = R1.key [(pr x).1, (pr x).2] ds := by
  obtain ⟨p, n, _, _, rfl⟩ := h.ex
  rfl
theorem IsOne.ok {ds : List Bool} {x : S1.One} (h : IsOne ds x) : okP (pr x) ∧ goodP (pr x) := by
  obtain ⟨p, n, h1, h2, rfl⟩ := h.ex
  exact ⟨h1, h2⟩
theorem IsOne.two {ds : List Bool} {x : S1.One} (h : IsOne ds x) : x.r.take 2 = [(pr x).1, (pr x).2] := by
  obtain ⟨p, n, _, _, rfl⟩ := h.ex
  rfl
theorem IsOne.turn {ds : List Bool} (e : List Bool) {x : S1.One} (h : IsOne ds x) : IsOne e ⟨R1.key [(pr x).1, (pr x).2] e, x.r⟩ := by
  obtain ⟨p, n, h1, h2, rfl⟩ := h.ex
  exact ⟨p, n, h1, h2, rfl⟩
theorem again_keys (ds : List Bool) : ∀ (O : List S1.One) (i : Nat), (onesFrom ds i (O.map pr)).map S1.One.k = O.map fun x => R1.key [(pr x).1, (pr x).2] ds
  | [], i => rfl
  | x :: O, i => by
    rw [List.map_cons, onesFrom, List.map_cons, again_keys ds O (i + 1)]; rfl
theorem rowsC_not : ∀ (a b : List V) (ds : List Bool), rowsC a b (ds.map (!·)) = - rowsC a b ds
  | a :: xs, b :: ys, d :: ds => by
    rw [List.map_cons, rowsC, rowsC, rowsC_not xs ys ds]
    split
    · cases d <;> simp
    · rfl
  | [], _, _ => by simp [rowsC]
  | _ :: _, [], _ => by simp [rowsC]
  | _ :: _, _ :: _, [] => by simp [rowsC]
theorem again_up {ds : List Bool} {O : List S1.One} (his : ∀ x ∈ O, IsOne ds x) (hp : O.Pairwise fun a b => compareBytes a.k b.k < 0) : inOrder (onesFrom ds 0 (O.map pr)) = onesFrom ds 0 (O.map pr) := by
  refine inOrder_self ?_
  have h1 : ((onesFrom ds 0 (O.map pr)).map S1.One.k).Pairwise (fun a b => compareBytes a b < 0) := by
    rw [again_keys, List.pairwise_map]
    refine List.Pairwise.imp_of_mem (fun {a b} ha hb hab => ?_) hp
    rw [← (his a ha).key, ← (his b hb).key]; exact hab
  rw [List.pairwise_map] at h1
  exact h1.imp fun h => by unfold le; omega
theorem again_down {d0 d1 : Bool} {O : List S1.One} (his : ∀ x ∈ O, IsOne [d0, d1] x) (hp : O.Pairwise fun a b => compareBytes a.k b.k < 0) : inOrder (onesFrom [!d0, !d1] 0 (O.map pr)) = (onesFrom [!d0, !d1] 0 (O.map pr)).reverse := by
  refine inOrder_reverse ?_
  have h1 : ((onesFrom [!d0, !d1] 0 (O.map pr)).map S1.One.k).Pairwise (fun a b => 0 < compareBytes a b) := by
    rw [again_keys, List.pairwise_map]
    refine List.Pairwise.imp_of_mem (fun {a b} ha hb hab => ?_) hp
    have h2 := ((his a ha).turn [!d0, !d1]).cmp rfl ((his b hb).turn [!d0, !d1])
    have h3 := (his a ha).cmp rfl (his b hb)
    have h4 := rowsC_not [a.r.getD 0 V0, a.r.getD 1 V0] [b.r.getD 0 V0, b.r.getD 1 V0] [d0, d1]
    have h5 : compareBytes (R1.key [(pr a).1, (pr a).2] [!d0, !d1]) (R1.key [(pr b).1, (pr b).2] [!d0, !d1]) = rowsC [a.r.getD 0 V0, a.r.getD 1 V0] [b.r.getD 0 V0, b.r.getD 1 V0] [!d0, !d1] := h2.symm
    rw [h5]
    have h6 : rowsC [a.r.getD 0 V0, a.r.getD 1 V0] [b.r.getD 0 V0, b.r.getD 1 V0] [!d0, !d1] = - compareBytes a.k b.k := by rw [← h3]; exact h4
    rw [h6]; omega
  rw [List.pairwise_map] at h1
  exact h1
theorem slP : SlT Try.prog 22 33 6 64 [.int .u8 0, .int .i64 0, .string ByteArray.empty, .int .u8 0, .int .i64 0, .string ByteArray.empty] := ⟨by kernel_rfl, ⟨Try.t33, by kernel_rfl, by kernel_rfl, by kernel_rfl, .agg #[.int .u8 0, .int .i64 0, .string ByteArray.empty, .int .u8 0, .int .i64 0, .string ByteArray.empty], by kernel_rfl, by kernel_rfl⟩, rfl, by decide⟩
theorem ones_getR {ds : List Bool} {O : List S1.One} (his : ∀ x ∈ O, IsOne ds x) (e : List Bool) {i : Nat} (hi : i < O.length) : ((onesFrom e 0 (O.map pr)).getD i O0) = ⟨R1.key [(pr (O.getD i O0)).1, (pr (O.getD i O0)).2] e, [(pr (O.getD i O0)).1, (pr (O.getD i O0)).2, numW (i : Int)]⟩ := by
  have h := onesFrom_get e (O.map pr) 0 i
  have h2 : (O.map pr)[i]? = some (pr (O.getD i O0)) := by simp [List.getD, hi]
  rw [h2] at h
  simp only [Option.map_some, Nat.zero_add] at h
  rw [List.getD_eq_getElem?_getD, h]
  rfl
/-- the first two of a row -/
theorem firstTwo {w : World} {A : Option Addr} {c : Nat} {l : List V} (h : Imm KV NoB w A l) (hl : 2 ≤ l.length) (hc : l.length ≤ c) : Imm KV NoB w A (l.take 2) := by
  have := h.cut (lo := 0) (hi := 2) (m := c) (by omega)
  rw [List.drop_zero] at this
  rwa [show cutAt A c 0 KV.size = A from cut0] at this

theorem SorterAgain_holds {w : World} {A : Option Addr} {c : Nat} {l : List (V × V)} (hA : Imm KP NoB w A l) (hl : l.length ≤ maxLen) (hg : ∀ p ∈ l, goodP p) (d0 d1 : Bool) :
    CallsV Try.prog 3 #[.slice A l.length c, .agg #[.bool d0, .bool d1]] w fun v w' => v = .bool true ∧ Ext w w' := by
  refine cardindexlaw07_SorterAgain.calls okay ?_
  unfold cardindexlaw07_SorterAgain.W
  have aw : ∀ w5, Ext w w5 → CallsV Try.prog 11 #[] w5 fun v w' => ∃ x, v = .bool x ∧ ((fun v w' => v = .bool true ∧ Ext w w' : Value → World → Prop) (.bool x) w') := by
    intro w5 e5
    refine (awake_spec w5).mono ?_
    rintro v w6 ⟨rfl, e6⟩
    exact ⟨_, rfl, rfl, e5.trans' e6⟩
  intro g w1 f1
  have e1 := f1.ext
  have b1 := f1.blk
  refine (rightP_spec (hA.ext KP_pos e1) hl).mono ?_
  rintro _ w2 ⟨rfl, e2⟩
  have e12 := e1.trans' e2
  refine ⟨_, rfl, brnb (fun _ => aw _ e12) (fun hr => ?_)⟩
  obtain ⟨h120, hok⟩ := rightP_true hr
  have b2 := b1.ext e2
  refine ⟨_, b2.cell rfl, _, b2.cell rfl, ?_⟩
  refine (sorted_spec rfl (hA.ext KP_pos e12) h120 hok hg d0 d1 true).mono ?_
  rintro _ w3 ⟨X, cX, rfl, hcX, iX, e3⟩
  have b3 := b2.ext e3
  have e13 := e12.trans' e3
  have hla := outL_len [d0, d1] true l
  have hisx : ∀ x ∈ outL [d0, d1] true l, IsOne [d0, d1] x := fun x hx => isOne_of hok hg (outL_mem hx)
  have hpw : (outL [d0, d1] true l).Pairwise fun a b => compareBytes a.k b.k < 0 := (once_srt (inOrder_srt (onesFrom [d0, d1] 0 l))).1
  generalize outL [d0, d1] true l = O at *
  have his : ∀ i, i < O.length → IsOne [d0, d1] (O.getD i O0) := fun i hi => hisx _ (getO_mem hi)
  have hlm : (O.map S1.One.r).length = O.length := by simp
  refine ⟨_, _, _, _, rfl, ?_⟩
  refine ⟨fun x x1 x2 q u => ∃ j : Nat, j ≤ O.length ∧ q = (j : Int) ∧ x1 = ((O.take j).map pr).length ∧ OwnK KP u x x2 ((O.take j).map pr) ∧ Ext w3 u ∧ New w3 x, fun _ _ _ q _ => (O.length - q).toNat, ⟨0, by omega, rfl, rfl, OwnK.nil _ _, .refl _ _, New.none _⟩, ?_⟩
  rintro x _ x2 _ u ⟨j, hj, rfl, rfl, ho, eu, nx⟩
  have htl : ((O.take j).map pr).length = j := by rw [List.length_map, List.length_take]; omega
  refine brd (fun hlt => ?_) (fun hge => ?_)
  · have hjl : j < O.length := by omega
    obtain ⟨ad, hX, P1, c1, hc1, iP, cP⟩ := iX.item (x := (j : Int)) (by omega) (by omega)
    rw [Int.toNat_natCast, mapR_get hjl] at hc1 iP cP
    have is1 := his j hjl
    have h3 := is1.len
    obtain ⟨a0, ha0, _, c0⟩ := itemV iP (x := 0) (by omega) (by omega)
    obtain ⟨a1, ha1, _, c1'⟩ := itemV iP (x := 1) (by omega) (by omega)
    have ed : Ext w3 u.drew := eu.trans' (Fr.drew NoB u)
    simp only [Int.toNat_natCast]
    refine ⟨ad, hX, ⟨by omega, by omega⟩, fun z => Ext w3 z, ed, _, _, _, fun z hz => cP z hz, a0, ha0, ⟨by omega, by omega⟩, _, fun z hz => (c0 z (.inr (.inl hz))).1, _, fun z hz => (c0 z (.inr (.inl hz))).2.1, _, fun z hz => (c0 z (.inr (.inl hz))).2.2,
      ad, hX, ⟨by omega, by omega⟩, _, _, _, fun z hz => cP z hz, a1, ha1, ⟨by omega, by omega⟩, _, fun z hz => (c1' z (.inr (.inl hz))).1, _, fun z hz => (c1' z (.inr (.inl hz))).2.1, _, fun z hz => (c1' z (.inr (.inl hz))).2.2, ?_⟩
    intro gn u1 f
    have e31 := ed.trans' f.ext
    refine ⟨e31, ?_⟩
    obtain ⟨rfl, rfl⟩ := f
    obtain ⟨y, y2, u2, hr2, ho2, g2⟩ := (ho.ext (Fr.drew NoB u)).push slP (ty := 22) (K := KP) (a := pr (O.getD j O0)) (cs := vc (pr (O.getD j O0)).1 ++ vc (pr (O.getD j O0)).2) (e' := 33) rfl (by
      intro v hv
      simp only [vc, List.cons_append, List.nil_append, List.mem_cons, List.not_mem_nil, or_false] at hv
      rcases hv with rfl | rfl | rfl | rfl | rfl | rfl <;> rfl) (by simp only [maxLen]; omega) (by omega)
    have hsn : (O.take (j + 1)).map pr = (O.take j).map pr ++ [pr (O.getD j O0)] := by rw [takeO _ _ hjl, List.map_append]; rfl
    rw [← hsn] at hr2 ho2
    have e32 := g2.ext ed nx
    refine ⟨_, _, _, _, hr2, e32, ?_⟩
    rw [wi _ (by omega) (by omega)]
    exact ⟨⟨j + 1, by omega, rfl, rfl, ho2, e32, g2.new ed nx⟩, by omega⟩
  · obtain rfl : j = O.length := by omega
    rw [List.take_length] at ho htl
    have bu := b3.ext eu
    have ewu := e13.trans' eu
    have hokP : ∀ p ∈ O.map pr, okP p := fun p hp => by
      obtain ⟨y, hy, rfl⟩ := List.mem_map.1 hp
      exact (hisx y hy).ok.1
    have hgP : ∀ p ∈ O.map pr, goodP p := fun p hp => by
      obtain ⟨y, hy, rfl⟩ := List.mem_map.1 hp
      exact (hisx y hy).ok.2
    refine ⟨_, bu.cell rfl, _, bu.cell rfl, ?_⟩
    refine (sorted_spec (l := O.map pr) (by rw [List.take_length]) (ho.imm KP_pos) (by omega) hokP hgP d0 d1 false).mono ?_
    rintro _ w4 ⟨Y, cY, rfl, hcY, iY, e4⟩
    have b4 := bu.ext e4
    have hB : outL [d0, d1] false (O.map pr) = onesFrom [d0, d1] 0 (O.map pr) := again_up hisx hpw
    rw [hB] at hcY iY
    rw [hB]
    have hlb : (onesFrom [d0, d1] 0 (O.map pr)).length = O.length := by rw [onesFrom_length, List.length_map]
    refine ⟨_, _, _, _, rfl, ⟨by omega, by omega⟩, _, b4.cell rfl, ⟨by omega, by omega⟩, _, b4.cell rfl, ?_⟩
    refine (sorted_spec (l := O.map pr) (by rw [List.take_length]) ((ho.ext e4).imm KP_pos) (by omega) hokP hgP (!d0) (!d1) false).mono ?_
    rintro _ w5 ⟨Z, cZ, rfl, hcZ, iZ, e5⟩
    have hC : outL [!d0, !d1] false (O.map pr) = (onesFrom [!d0, !d1] 0 (O.map pr)).reverse := again_down hisx hpw
    rw [hC] at hcZ iZ
    rw [hC]
    have hlc : (onesFrom [!d0, !d1] 0 (O.map pr)).reverse.length = O.length := by rw [List.length_reverse, onesFrom_length, List.length_map]
    refine ⟨_, _, _, _, rfl, brnb (fun h => by cases h) (fun _ => brnb (fun h => by cases h) (fun _ => brnb (fun h => by cases h) (fun _ => brn (fun h => absurd (by rw [hlb]) h) (fun _ => brn (fun h => absurd (by rw [hlc]) h) (fun _ => ?_)))))⟩
    have iX5 := iX.ext KR_pos (eu.trans' (e4.trans' e5))
    have iY5 := iY.ext KR_pos e5
    have ew5 := ewu.trans' (e4.trans' e5)
    refine ⟨fun q v => ∃ i : Nat, i ≤ O.length ∧ q = (i : Int) ∧ Ext w5 v, fun q _ => (O.length - q).toNat, ⟨0, by omega, rfl, .refl _ _⟩, ?_⟩
    rintro _ v ⟨i, hi, rfl, ev⟩
    refine brd (fun hlt => ?_) (fun hge => aw _ (ew5.trans' ev))
    have hil : i < O.length := by omega
    have is1 := his i hil
    have hidx : IntKind.i64.wrap (IntKind.i64.wrap (((onesFrom [!d0, !d1] 0 (O.map pr)).reverse.length : Int) - 1) - (i : Int)) = ((O.length - 1 - i : Nat) : Int) := by
      rw [hlc, wi ((O.length : Int) - 1) (by omega) (by omega), wi _ (by omega) (by omega)]; omega
    rw [hidx]
    have hlz : ((onesFrom [!d0, !d1] 0 (O.map pr)).reverse.map S1.One.r).length = O.length := by rw [List.length_map, hlc]
    have hly : ((onesFrom [d0, d1] 0 (O.map pr)).map S1.One.r).length = O.length := by rw [List.length_map, hlb]
    obtain ⟨zd, hZ, ZP, z1, hz1, iZP, cZP⟩ := iZ.item (x := ((O.length - 1 - i : Nat) : Int)) (by omega) (by omega)
    obtain ⟨xd, hX, XP, x1, hx1, iXP, cXP⟩ := iX5.item (x := (i : Int)) (by omega) (by omega)
    obtain ⟨yd, hY, YP, y1, hy1, iYP, cYP⟩ := iY5.item (x := (i : Int)) (by omega) (by omega)
    have hrow : (onesFrom [!d0, !d1] 0 (O.map pr)).reverse.getD (O.length - 1 - i) O0 = (onesFrom [!d0, !d1] 0 (O.map pr)).getD i O0 := by
      rw [List.getD_eq_getElem?_getD, List.getD_eq_getElem?_getD, List.getElem?_reverse (by rw [onesFrom_length, List.length_map]; omega)]
      congr 2
      rw [onesFrom_length, List.length_map]; omega
    rw [Int.toNat_natCast, mapR_get (by omega), hrow, ones_getR hisx _ hil] at hz1 iZP cZP
    rw [Int.toNat_natCast, mapR_get hil] at hx1 iXP cXP
    rw [Int.toNat_natCast, mapR_get (by omega), ones_getR hisx _ hil] at hy1 iYP cYP
    have h3 := is1.len
    have ed : Ext w5 v.drew := ev.trans' (Fr.drew NoB v)
    have t2 := is1.two
    simp only [Int.toNat_natCast, cut0]
    simp only [List.length_cons, List.length_nil] at hz1 hy1 cZP cYP
    have xx := firstTwo iXP (by omega) hx1
    have yy := firstTwo iYP (by simp) (by simpa using hy1)
    have zz := firstTwo iZP (by simp) (by simpa using hz1)
    rw [t2] at xx
    refine ⟨zd, hZ, ⟨by omega, by omega⟩, _, _, _, cZP v ev, xd, hX, ⟨by omega, by omega⟩, fun z => Ext w5 z, ed, _, _, _, fun z hz => cXP z hz, ⟨by omega, by omega⟩, yd, hY, ⟨by omega, by omega⟩, _, _, _, fun z hz => cYP z hz, ⟨by omega, by omega⟩, ?_⟩
    refine (SameValues_spec (a := [(pr (O.getD i O0)).1, (pr (O.getD i O0)).2]) (b := [(pr (O.getD i O0)).1, (pr (O.getD i O0)).2]) rfl rfl (xx.ext KV_pos ed) (yy.ext KV_pos ed) (by simp)).mono ?_
    rintro _ v1 ⟨⟨t, rfl, ht⟩, a1⟩
    have htt := ht.2 rfl
    subst htt
    have ed1 := ed.trans' a1
    refine ⟨_, rfl, ed1, brnb (fun h => by cases h) (fun _ => ?_)⟩
    obtain ⟨ya, hya, _, yc⟩ := itemV iYP (x := 2) (by omega) (by simp)
    refine ⟨yd, hY, ⟨by omega, by omega⟩, fun z => Ext w5 z, ed1, _, _, _, fun z hz => cYP z hz, ya, hya, ⟨by omega, by omega⟩, _, fun z hz => (yc z (.inr (.inl hz))).2.1, ?_⟩
    refine brn (fun h => absurd rfl h) (fun _ => ?_)
    refine ⟨xd, hX, ⟨by omega, by omega⟩, _, _, _, fun z hz => cXP z hz, ⟨by omega, by omega⟩, ⟨by omega, by omega⟩, ?_⟩
    refine (SameValues_spec (a := [(pr (O.getD i O0)).1, (pr (O.getD i O0)).2]) (b := [(pr (O.getD i O0)).1, (pr (O.getD i O0)).2]) rfl rfl (xx.ext KV_pos ed1) (zz.ext KV_pos ed1) (by simp)).mono ?_
    rintro _ v2 ⟨⟨t, rfl, ht⟩, a2⟩
    have htt := ht.2 rfl
    subst htt
    have ed2 := ed1.trans' a2
    refine ⟨_, rfl, ed2, ed2, brnb (fun h => by cases h) (fun _ => ?_)⟩
    rw [wi _ (by omega) (by omega)]
    exact ⟨⟨i + 1, by omega, rfl, ed2⟩, by omega⟩
end Go.Proofs.Ytakmlaliglmnmaa
