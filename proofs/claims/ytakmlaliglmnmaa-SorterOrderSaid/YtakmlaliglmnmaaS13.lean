/- Layer 7: SorterOnce. -/
import Derived.Test.YtakmlaliglmnmaaS12
set_option linter.unusedVariables false
set_option linter.unusedSimpArgs false
namespace Go.Proofs.Ytakmlaliglmnmaa
open Go Go.Sx R1 S1 Go.Lib

theorem less_spec {w : World} {A B : Option Addr} {ca cb n m : Nat} {a b : List V} (hn : n = a.length) (hm : m = b.length) (hA : Imm KV NoB w A a) (hB : Imm KV NoB w B b) (h2a : 2 ≤ a.length) (h2b : 2 ≤ b.length) (d0 d1 : Bool) :
    CallsV Try.prog 27 #[.slice A n ca, .slice B m cb, .agg #[.bool d0, .bool d1]] w fun v w' => v = .int .i64 (rowsC [a.getD 0 V0, a.getD 1 V0] [b.getD 0 V0, b.getD 1 V0] [d0, d1]) ∧ Ext w w' := by
  subst hn; subst hm
  refine cardindexlaw07_less.calls okay ?_
  unfold cardindexlaw07_less.W
  intro g w1 f1
  have e1 := f1.ext
  have b1 := f1.blk
  refine ⟨fun x u => ∃ j : Nat, j ≤ 2 ∧ x = (j : Int) ∧ rowsC [a.getD 0 V0, a.getD 1 V0] [b.getD 0 V0, b.getD 1 V0] [d0, d1] = rowsC ([a.getD 0 V0, a.getD 1 V0].drop j) ([b.getD 0 V0, b.getD 1 V0].drop j) ([d0, d1].drop j) ∧ Ext w1 u, fun x _ => (2 - x).toNat, ⟨0, by omega, rfl, rfl, .refl _ _⟩, ?_⟩
  rintro _ u ⟨j, hj, rfl, hr, e⟩
  refine brd (fun hlt => ?_) (fun hge => ?_)
  · have hj2 : j = 0 ∨ j = 1 := by omega
    have hd := e.trans' (Fr.drew NoB u)
    have hdw : Ext w u.drew := e1.trans' hd
    obtain ⟨ad, hA', _, cA⟩ := itemV hA (x := (j : Int)) (by omega) (by omega)
    obtain ⟨bd, hB', _, cB⟩ := itemV hB (x := (j : Int)) (by omega) (by omega)
    have hsp : rowsC ([a.getD 0 V0, a.getD 1 V0].drop j) ([b.getD 0 V0, b.getD 1 V0].drop j) ([d0, d1].drop j) = if vcmp (a.getD j V0) (b.getD j V0) ≠ 0 then (if ([d0, d1].getD j false) then - vcmp (a.getD j V0) (b.getD j V0) else vcmp (a.getD j V0) (b.getD j V0)) else rowsC ([a.getD 0 V0, a.getD 1 V0].drop (j + 1)) ([b.getD 0 V0, b.getD 1 V0].drop (j + 1)) ([d0, d1].drop (j + 1)) := by
      rcases hj2 with rfl | rfl <;> rfl
    have hcell : ∀ z, Ext w1 z → z.cell? ((⟨g, 0, none⟩ : Addr).add (j * 1)) = some (.bool ([d0, d1].getD j false)) := fun z hz => by
      rcases hj2 with rfl | rfl
      · exact (b1.ext hz).cell rfl
      · exact (b1.ext hz).cell rfl
    rw [Int.toNat_natCast] at cA cB
    simp only [Int.toNat_natCast]
    refine ⟨ad, hA', ⟨by omega, by omega⟩, fun z => Ext w z, hdw, _, fun u hu => (cA u (.inr (.inl hu))).1, _, fun u hu => (cA u (.inr (.inl hu))).2.1, _, fun u hu => (cA u (.inr (.inl hu))).2.2,
      bd, hB', ⟨by omega, by omega⟩, _, fun u hu => (cB u (.inr (.inl hu))).1, _, fun u hu => (cB u (.inr (.inl hu))).2.1, _, fun u hu => (cB u (.inr (.inl hu))).2.2, ?_⟩
    have hsg := vcmp_sign (a.getD j V0) (b.getD j V0)
    rw [hsp] at hr
    refine (vcmp_spec _ _ u.drew).mono ?_
    rintro _ u1 ⟨rfl, e2⟩
    have e2 := hd.trans' e2
    generalize vcmp (a.getD j V0) (b.getD j V0) = c at *
    refine ⟨_, rfl, brn (fun hc => ?_) (fun hc => ?_)⟩
    · rw [if_pos hc] at hr
      refine ⟨⟨by omega, by omega⟩, _, hcell _ e2, br (fun ht => ?_) (fun ht => ?_)⟩
      · rw [ht, if_pos rfl] at hr
        rw [hr, wi _ (by omega) (by omega)]
        exact ⟨by rw [Int.zero_sub], e1.trans' e2⟩
      · rw [ht, if_neg (by decide)] at hr
        rw [hr]; exact ⟨rfl, e1.trans' e2⟩
    · rw [if_neg (by simpa using hc)] at hr
      rw [wi _ (by omega) (by omega)]
      exact ⟨⟨j + 1, by omega, rfl, hr, e2⟩, by omega⟩
  · obtain rfl : j = 2 := by omega
    rw [hr]
    exact ⟨rfl, e1.trans' e⟩
/-- what a sorted row says -/
structure IsOne (ds : List Bool) (x : S1.One) : Prop where
  ex : ∃ (p : V × V) (n : Int), okP p ∧ goodP p ∧ x = ⟨key [p.1, p.2] ds, [p.1, p.2, numW n]⟩
theorem isOne_of {ds : List Bool} {l : List (V × V)} (hok : ∀ p ∈ l, okP p) (hg : ∀ p ∈ l, goodP p) {x : S1.One} {i : Nat} (h : x ∈ onesFrom ds i l) : IsOne ds x := by
  obtain ⟨p, hp, j, _, _, _, rfl⟩ := onesFrom_mem h
  exact ⟨p, (j : Int), hok p hp, hg p hp, rfl⟩
theorem IsOne.cmp {ds : List Bool} (hd : ds.length = 2) {x y : S1.One} (hx : IsOne ds x) (hy : IsOne ds y) : rowsC [x.r.getD 0 V0, x.r.getD 1 V0] [y.r.getD 0 V0, y.r.getD 1 V0] ds = compareBytes x.k y.k := by
  obtain ⟨p, n, hp, gp, rfl⟩ := hx.ex
  obtain ⟨q, m, hq, gq, rfl⟩ := hy.ex
  refine (key_cmp [p.1, p.2] [q.1, q.2] ds (by simp [hd]) (by simp [hd]) ?_ ?_ ?_ ?_).symm
  · intro v hv
    simp only [List.mem_cons, List.not_mem_nil, or_false] at hv
    rcases hv with rfl | rfl
    · exact hp.1
    · exact hp.2.2.1
  · intro v hv
    simp only [List.mem_cons, List.not_mem_nil, or_false] at hv
    rcases hv with rfl | rfl
    · exact hq.1
    · exact hq.2.2.1
  · intro v hv
    simp only [List.mem_cons, List.not_mem_nil, or_false] at hv
    rcases hv with rfl | rfl
    · exact gp.1
    · exact gp.2
  · intro v hv
    simp only [List.mem_cons, List.not_mem_nil, or_false] at hv
    rcases hv with rfl | rfl
    · exact gq.1
    · exact gq.2
theorem IsOne.len {ds : List Bool} {x : S1.One} (hx : IsOne ds x) : x.r.length = 3 := by
  obtain ⟨p, n, _, _, rfl⟩ := hx.ex
  rfl
theorem mapR_get {O : List S1.One} {i : Nat} (h : i < O.length) : (O.map S1.One.r).getD i [] = (O.getD i O0).r := by simp [List.getD, h]
theorem outL_is {ds : List Bool} {dist : Bool} {l : List (V × V)} (hok : ∀ p ∈ l, okP p) (hg : ∀ p ∈ l, goodP p) {i : Nat} (hi : i < (outL ds dist l).length) : IsOne ds ((outL ds dist l).getD i O0) :=
  isOne_of hok hg (outL_mem (getO_mem hi))

theorem SorterOnce_holds {w : World} {A : Option Addr} {c : Nat} {l : List (V × V)} (hA : Imm KP NoB w A l) (hl : l.length ≤ maxLen) (hg : ∀ p ∈ l, goodP p) (d0 d1 : Bool) :
    CallsV Try.prog 8 #[.slice A l.length c, .agg #[.bool d0, .bool d1]] w fun v w' => v = .bool true ∧ Ext w w' := by
  refine cardindexlaw07_SorterOnce.calls okay ?_
  unfold cardindexlaw07_SorterOnce.W
  have aw : ∀ w5, Ext w w5 → CallsV Try.prog 11 #[] w5 fun v w' => ∃ x, v = .bool x ∧ ((fun v w' => v = .bool true ∧ Ext w w' : Value → World → Prop) (.bool x) w') := by
    intro w5 e5
    refine (awake_spec w5).mono ?_
    rintro v w6 ⟨rfl, e6⟩
    exact ⟨_, rfl, rfl, e5.trans' e6⟩
  intro g w1 f1
  have e1 := f1.ext
  have b1 := f1.blk
  refine (rightP_spec (hA.ext KP_pos e1) hl).mono ?_
  rintro _ w2 ⟨rfl, e2⟩
  have e12 := e1.trans' e2
  refine ⟨_, rfl, brnb (fun _ => aw _ e12) (fun hr => ?_)⟩
  obtain ⟨h120, hok⟩ := rightP_true hr
  have b2 := b1.ext e2
  refine ⟨_, b2.cell rfl, _, b2.cell rfl, ?_⟩
  refine (sorted_spec rfl (hA.ext KP_pos e12) h120 hok hg d0 d1 false).mono ?_
  rintro _ w3 ⟨X, cX, rfl, hcX, iX, e3⟩
  have b3 := b2.ext e3
  have e13 := e12.trans' e3
  refine ⟨_, _, _, _, rfl, _, b3.cell rfl, _, b3.cell rfl, ?_⟩
  refine (sorted_spec rfl (hA.ext KP_pos e13) h120 hok hg d0 d1 true).mono ?_
  rintro _ w4 ⟨Y, cY, rfl, hcY, iY, e4⟩
  have b4 := b3.ext e4
  have e14 := e13.trans' e4
  have iX := iX.ext KR_pos e4
  have hOb : outL [d0, d1] true l = once (outL [d0, d1] false l) := rfl
  have hla := outL_len [d0, d1] false l
  have hlb := outL_len [d0, d1] true l
  have his : ∀ i, i < (outL [d0, d1] false l).length → IsOne [d0, d1] ((outL [d0, d1] false l).getD i O0) := fun i hi => outL_is hok hg hi
  rw [hOb] at hlb iY hcY ⊢
  generalize outL [d0, d1] false l = O at *
  refine ⟨_, _, _, _, rfl, brnb (fun h => by cases h) (fun _ => brnb (fun h => by cases h) (fun _ => ?_))⟩
  have hpre : ∀ i, i ≤ O.length → (once (O.take i)).length ≤ i := fun i hi => by
    have := once_le (O.take i); rw [List.length_take] at this; omega
  refine ⟨fun x y u => ∃ i : Nat, i ≤ O.length ∧ y = (i : Int) ∧ x = ((once (O.take i)).length : Int) ∧ Ext w4 u, fun _ y _ => (O.length - y).toNat, ⟨0, by omega, rfl, rfl, .refl _ _⟩, ?_⟩
  rintro _ _ u ⟨i, hi, rfl, rfl, eu⟩
  have hki := hpre i hi
  refine brd (fun hlt => ?_) (fun hge => ?_)
  · have hil : i < O.length := by omega
    have hlm : (O.map S1.One.r).length = O.length := by simp
    have hlm' : ((once O).map S1.One.r).length = (once O).length := by simp
    obtain ⟨ad, hX, P1, c1, hc1, iP, cP⟩ := iX.item (x := (i : Int)) (by omega) (by omega)
    rw [Int.toNat_natCast, mapR_get hil] at hc1 iP cP
    have is1 := his i hil
    have w1i : IntKind.i64.wrap ((i : Int) + 1) = ((i + 1 : Nat) : Int) := by rw [wi _ (by omega) (by omega)]; rfl
    have hkk : IntKind.i64.wrap (((once (O.take i)).length : Int) + 1) = (((once (O.take i)).length + 1 : Nat) : Int) := by rw [wi _ (by omega) (by omega)]; rfl
    rw [w1i, hkk]
    refine ⟨fun u => Ext w4 u ∧ once (O.take (i + 1)) = once (O.take i) ++ [O.getD i O0], ?_, ?_⟩
    · rintro v ⟨ev, hon⟩
      have hbk : (once (O.take i)).length < (once O).length ∧ (once O).getD (once (O.take i)).length O0 = O.getD i O0 := by
        obtain ⟨t, ht⟩ := once_prefix (O.take (i + 1)) (O.drop (i + 1))
        rw [List.take_append_drop, hon] at ht
        rw [ht]
        refine ⟨by simp, ?_⟩
        simp [List.getD]
      refine brd (fun h => by omega) (fun _ => ?_)
      have ed : Ext w4 v.drew := ev.trans' (Fr.drew NoB v)
      obtain ⟨bd, hY, Q1, c2, hc2, iQ, cQ⟩ := iY.item (x := ((once (O.take i)).length : Int)) (by omega) (by omega)
      rw [Int.toNat_natCast, mapR_get hbk.1, hbk.2] at hc2 iQ cQ
      simp only [Int.toNat_natCast]
      refine ⟨ad, hX, ⟨by omega, by omega⟩, fun z => Ext w4 z, ed, _, _, _, fun z hz => cP z hz, bd, hY, ⟨by omega, by omega⟩, _, _, _, fun z hz => cQ z hz, ?_⟩
      refine (SameValues_spec rfl rfl (iP.ext KV_pos ed) (iQ.ext KV_pos ed) (by rw [is1.len]; decide)).mono ?_
      rintro _ v1 ⟨⟨x, rfl, hx⟩, e5⟩
      have hxt := hx.2 rfl
      subst hxt
      refine ⟨_, rfl, brnb (fun h => by cases h) (fun _ => ?_)⟩
      refine ⟨⟨i + 1, by omega, rfl, ?_, ed.trans' e5⟩, by omega⟩
      rw [hon]; simp
    · have ed : Ext w4 u.drew := eu.trans' (Fr.drew NoB u)
      refine brd (fun hpos => ?_) (fun hz => ?_)
      · have hi0 : 0 < i := by omega
        have hos := once_step O i hi0 hil
        have w2i : IntKind.i64.wrap ((i : Int) - 1) = ((i - 1 : Nat) : Int) := by rw [wi _ (by omega) (by omega)]; omega
        obtain ⟨ad', hX', P0', c0, hc0, iP0, cP0⟩ := iX.item (x := ((i - 1 : Nat) : Int)) (by omega) (by omega)
        rw [Int.toNat_natCast, mapR_get (by omega)] at hc0 iP0 cP0
        have is0 := his (i - 1) (by omega)
        rw [w2i]
        simp only [Int.toNat_natCast]
        refine ⟨ad', hX', ⟨by omega, by omega⟩, fun z => Ext w4 z, ed, _, _, _, fun z hz => cP0 z hz, ad, hX, ⟨by omega, by omega⟩, _, _, _, fun z hz => cP z hz, _, fun z hz => (b4.ext hz).cell rfl, _, fun z hz => (b4.ext hz).cell rfl, ?_⟩
        refine (less_spec rfl rfl (iP0.ext KV_pos ed) (iP.ext KV_pos ed) (by rw [is0.len]; decide) (by rw [is1.len]; decide) d0 d1).mono ?_
        rintro _ v1 ⟨rfl, e5⟩
        rw [is0.cmp rfl is1]
        refine ⟨_, rfl, brd (fun hz => ?_) (fun hnz => ?_)⟩
        · rw [if_pos (cmp_zero.1 hz).symm] at hos
          exact ⟨⟨i + 1, by omega, rfl, by rw [hos], ed.trans' e5⟩, by omega⟩
        · rw [if_neg (fun h => hnz (cmp_zero.2 h.symm))] at hos
          exact ⟨ed.trans' e5, hos⟩
      · obtain rfl : i = 0 := by omega
        refine ⟨ed, ?_⟩
        have := takeO O 0 hil
        rw [this]; rfl
  · obtain rfl : i = O.length := by omega
    rw [List.take_length]
    exact brd (fun _ => aw _ (e14.trans' eu)) (fun h => absurd rfl h)
end Go.Proofs.Ytakmlaliglmnmaa
