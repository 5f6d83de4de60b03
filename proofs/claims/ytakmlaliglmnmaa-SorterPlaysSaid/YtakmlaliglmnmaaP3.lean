/- The document's answer for layer 7 (sorter): Sort. -/
import Derived.Test.YtakmlaliglmnmaaP2
set_option linter.unusedVariables false
set_option linter.unusedSimpArgs false
namespace Go.Proofs.Ytakmlaliglmnmaa
open Go Go.Sx R1 S1 Go.Lib

theorem onceL' : ∀ (l : List One) (k : List UInt8), (once' k l).length ≤ l.length
  | [], _ => by simp [once']
  | y :: l, k => by
    have h1 := onceL' l k
    have h2 := onceL' l y.k
    rw [once']
    split
    · rw [List.length_cons]; omega
    · rw [List.length_cons, List.length_cons]; omega
theorem rsort_le (d : Bool) (l : List One) : (rsort d l).length ≤ l.length := by
  have h := inOrder_length l
  unfold rsort
  split
  · cases hi : inOrder l with
    | nil => simp [once]
    | cons x r =>
      rw [hi] at h
      have := onceL' r x.k
      show (x :: once' x.k r).length ≤ _
      rw [List.length_cons] at h ⊢
      omega
  · omega
theorem getO {l : List One} {i : Nat} (h : i < l.length) : l.take (i + 1) = l.take i ++ [l.getD i O0] := by
  rw [List.take_add_one]; simp [List.getD, h]
set_option maxRecDepth 10000 in
theorem SortR_spec {Ω : Nat → Prop} {w : World} {D L : Option Addr} {dc lc : Nat} {st : St} (h : RSor Ω w D dc L lc st) (hΩ : ∀ k, Ω k → k < w.heap.size) :
    CallsV Try.prog 21 #[rval D dc L lc st] w fun r w' => ∃ L' lc', r = .tuple #[rval D dc L' lc' (sortS st), .int .i64 (if st.sorted then 70 else 0)] ∧ RSor Ω w' D dc L' lc' (sortS st) ∧ Ext w w' := by
  refine cardindexref07_Sorter_Sort.calls okay ?_
  unfold cardindexref07_Sorter_Sort.W
  intro g w1 f1 g1 w2 f2
  have hg1 : g1 ≠ g := by have := f2.ge; have := f1.lt; omega
  have hgw := f1.ge
  have hg1w : w.heap.size ≤ g1 := Nat.le_trans f1.ext.size f2.ge
  have e12 := f1.ext.trans' f2.ext
  have bG : Blk w2 g (rcl D dc L lc st) := f1.blk.ext f2.ext
  have bH := f2.blk
  have hn1 := h.n1
  refine ⟨_, bG.cell rfl, ?_⟩
  cases hs : st.sorted with
  | true =>
    refine br (fun _ => ?_) (fun h => by cases h)
    refine ⟨_, _, _, Blk.cell bG rfl, _, Blk.cell bG rfl, _, _, _, Blk.cell bG rfl, _, Blk.cell bG rfl, _, Blk.cell bG rfl, Blk.stOK bH [_, _, _, _, _] 0 (by simp), fun w9 hw9 => ?_⟩
    have b9 : Blk w9 g1 (rcl D dc L lc st) := by rw [hw9]; exact Blk.setAll (o := 0) (rcl D dc L lc st) 0 bH
    have e9 : Ext w w9 := by rw [hw9]; exact Ext.setAll e12 hg1w _ _
    refine ⟨_, _, _, Blk.cell b9 rfl, _, Blk.cell b9 rfl, _, _, _, Blk.cell b9 rfl, _, Blk.cell b9 rfl, _, Blk.cell b9 rfl, ?_⟩
    rw [sortS, hs, if_pos rfl]
    exact ⟨L, lc, by simp [rval, hs], h.ext e9, e9⟩
  | false =>
    refine br (fun h => by cases h) (fun _ => ?_)
    refine ⟨fun x n c i u => ∃ j : Nat, j ≤ st.l.length ∧ i = (j : Int) ∧ n = (rsort st.dist (st.l.take j)).length ∧ OwnK (KF Ω w) u x c (rsort st.dist (st.l.take j)) ∧ Ext w2 u ∧ New w2 x,
      fun _ _ _ i _ => (st.l.length - i).toNat, ⟨0, by omega, rfl, by rw [List.take_zero, rsort_nil]; rfl, by rw [List.take_zero, rsort_nil]; exact OwnK.nil _ _, .refl _ _, New.none _⟩, ?_⟩
    rintro x _ c _ u ⟨j, hj, rfl, rfl, oX, eu, nX⟩
    have ewu := e12.trans' eu
    refine ⟨_, _, _, (bG.ext eu).cell rfl, brd (fun hlt => ?_) (fun hge => ?_)⟩
    · have hjl : j < st.l.length := by omega
      have hsn := getO hjl
      have hrl := rsort_le st.dist (st.l.take j)
      have htl : (st.l.take j).length = j := by rw [List.length_take]; omega
      have hsrt := rsort_srt st.dist (st.l.take j)
      have hnext : rsort st.dist (st.l.take (j + 1)) = rstep st.dist (rsort st.dist (st.l.take j)) (st.l.getD j O0) := by rw [hsn, rsort_snoc]
      obtain ⟨ad, hA, kA, kc, rA, rc, one, hcell⟩ := itemO (fixO h.rows) (fun _ => .inr trivial) (i := j) hjl
      have hcu := hcell u ewu
      rw [show j * 2 = Int.toNat (j : Int) * 2 by rw [Int.toNat_natCast]] at hcu
      have hrep : KO.rep Ω w (st.l.getD j O0) (oc (st.l.getD j O0) kA kc rA rc) := ⟨kA, kc, rA, rc, rfl, one⟩
      generalize st.l.getD j O0 = xj at *
      generalize rsort st.dist (st.l.take j) = out at *
      refine ⟨fun y n c' z => n = (rstep st.dist out xj).length ∧ OwnK (KF Ω w) z y c' (rstep st.dist out xj) ∧ Ext u z ∧ New u y ∨ (n = (rstep st.dist out xj).length ∧ OwnK (KF Ω w) z y c' (rstep st.dist out xj) ∧ Ext u z ∧ y = x), ?_, _, _, _, (bG.ext eu).cell rfl, ad, hA, ⟨by omega, by show (j : Int) < (st.l.length : Int); omega⟩, _, _, _, hcu.1, _, _, _, hcu.2, ?_⟩
      · rintro y _ c' z hh
        rw [wi _ (by omega) (by omega)]
        rw [← hnext] at hh
        rcases hh with ⟨rfl, o, e, n⟩ | ⟨rfl, o, e, rfl⟩
        · exact ⟨⟨j + 1, by omega, rfl, rfl, o, eu.trans' e, n.ext eu⟩, by dsimp only; omega⟩
        · exact ⟨⟨j + 1, by omega, rfl, rfl, o, eu.trans' e, nX⟩, by dsimp only; omega⟩
      intro g2 v1 f3
      refine ⟨f3.blk.stOK [_, _] 0 (by simp), fun v hv => ?_⟩
      have b2 : Blk v g2 (oc xj kA kc rA rc) := by rw [hv]; exact Blk.setAll (o := 0) (oc xj kA kc rA rc) 0 f3.blk
      have euv : Ext u v := by rw [hv]; exact f3.ext.setAll f3.ge _ _
      have ewv := ewu.trans' euv
      have oXv := oX.ext euv
      have lo : out.length ≤ c := oX.le
      -- one of what is sorted
      have item : ∀ q : Nat, 0 < q → q ≤ out.length → ∃ ad, x = some ad ∧ ∃ A' c', (∀ z, Ext v z → z.cell? ((ad.add ((q - 1) * 2)).add 0) = some (.slice A' (out.getD (q - 1) O0).k.length c')) ∧ Imm KB NoB w A' (out.getD (q - 1) O0).k ∧ (out.getD (q - 1) O0).k.length ≤ 1048576 := by
        intro q h0 hq
        obtain ⟨ad, hA', kA', kc', rA', rc', one', hcell'⟩ := itemO (immKF oXv (Ω := NoB) (fun _ _ h => h)) (fun _ => .inr trivial) (i := q - 1) (by omega)
        exact ⟨ad, hA', kA', kc', fun z hz => (hcell' z hz).1, immNo KB_pos one'.ik, one'.lk⟩
      refine ⟨fun q z => ∃ qn : Nat, q = (qn : Int) ∧ S1.Place out xj qn ∧ Ext v z, ?_, ?_⟩
      · rintro _ z ⟨q, rfl, pl, ez⟩
        have ewz := ewv.trans' ez
        have hq := pl.le
        have hins := pl.ins hsrt
        have hdup := pl.dup hsrt
        simp only [Int.toNat_natCast]
        refine ⟨fun z => rstep st.dist out xj = out.take q ++ xj :: out.drop q ∧ Ext v z, ?_, ?_⟩
        · rintro z ⟨hst, ez⟩
          have ewz := ewv.trans' ez
          have oXz := oXv.ext ez
          have cutLo := (immKF oXz (Ω := NoB) (fun _ _ h => h)).cut (lo := 0) (hi := q) (m := c) (by omega)
          rw [List.drop_zero] at cutLo
          have htk : (out.take q).length = q := by rw [List.length_take]; omega
          obtain ⟨M, cM, z1, hr1, o1, q1⟩ := (OwnK.nil (KF Ω w) z).append slR (ty := 42) (cb := c) (m := out.take q) (cutLo.sub KF_pos fun k _ h => (ownB_none k h).elim) (KF_one _ _) (by simp only [List.length_nil, maxLen]; omega) (by simp only [List.length_nil]; omega)
          rw [List.nil_append] at hr1 o1
          rw [htk] at hr1
          have e1 := q1.ext (.refl NoB z) (New.none _)
          have n1 := q1.new (.refl NoB z) (New.none _)
          refine ⟨⟨by omega, by omega⟩, _, _, _, _, hr1, _, _, _, ((b2.ext ez).ext e1).cell rfl, _, _, _, ((b2.ext ez).ext e1).cell rfl, ?_⟩
          intro g5 z2 f5
          obtain ⟨rfl, rfl⟩ := f5
          rw [← htk] 
          obtain ⟨N, cN, z3, hr3, o3, q3⟩ := o1.push slR (ty := 42) (a := xj) (cs := oc xj kA kc rA rc) (e' := 83) hrep (by simp [oc, Value.oneCell']) (by simp only [maxLen]; omega) (by omega)
          have e3 := q3.ext e1 n1
          have n3 := q3.new e1 n1
          have nN : ∀ k, ownB x k → ¬ ownB N k := fun k hx hN => by
            have := n3 k hN
            have := OwnK.lt oXz k hx
            omega
          have cutHi := (immKF (oXz.ext e3) (Ω := ownB N) nN).cut (lo := q) (hi := out.length) (m := c) lo
          rw [List.take_length] at cutHi
          obtain ⟨Q, cQ, z4, hr4, o4, q4⟩ := o3.append slR (ty := 42) (cb := c - q) (m := out.drop q) cutHi (KF_one _ _) (by simp only [List.length_append, List.length_singleton, List.length_drop, maxLen]; omega) (by simp only [List.length_append, List.length_singleton, List.length_drop]; omega)
          rw [List.length_drop] at hr4
          refine ⟨_, _, _, _, hr3, ⟨by omega, by omega⟩, _, _, _, _, by rw [htk]; exact hr4, ?_⟩
          have heq : out.take q ++ [xj] ++ out.drop q = rstep st.dist out xj := by rw [hst]; simp
          rw [heq] at o4 ⊢
          have e4 := q4.ext e3 n3
          have n4 := q4.new e3 n3
          exact .inl ⟨rfl, o4, (euv.trans' ez).trans' e4, (n4.ext ez).ext euv⟩
        · have ed : Ext z z.drew := Fr.drew NoB z
          have ezd := ez.trans' ed
          have bGz := bG.ext ((eu.trans' euv).trans' ez)
          refine ⟨fun y => Ext z y, ed, _, fun y hy => (bGz.ext hy).cell rfl, ?_⟩
          cases hd : st.dist with
          | false =>
            refine br (fun h => by cases h) (fun _ => ⟨?_, ezd⟩)
            unfold rstep; rw [if_neg (by simp), hins]
          | true =>
            refine br (fun _ => brd (fun h0 => ?_) (fun h0 => ⟨?_, ezd⟩)) (fun h => by cases h)
            · have h0' : 0 < q := by omega
              obtain ⟨bd, hB, A', c', hcB, ik', lk'⟩ := item q h0' hq
              have hi1 : IntKind.i64.wrap ((q : Int) - 1) = ((q - 1 : Nat) : Int) := by rw [wi _ (by omega) (by omega)]; omega
              rw [hi1]
              simp only [Int.toNat_natCast]
              refine ⟨bd, hB, ⟨by omega, by omega⟩, _, _, _, fun y hy => hcB y (ez.trans' hy), _, _, _, fun y hy => ((b2.ext ez).ext hy).cell rfl, ?_⟩
              have ewd := ewz.trans' ed
              refine (CompareR_spec rfl rfl (ik'.ext KB_pos ewd) (immNo KB_pos (one.ik.ext KB_pos ewd)) (by omega)).mono ?_
              rintro _ y ⟨rfl, ey⟩
              refine ⟨_, rfl, ed.trans' ey, brd (fun hz => ?_) (fun hz => ⟨?_, ezd.trans' ey⟩)⟩
              · have hst : rstep true out xj = out := by unfold rstep; rw [if_pos ⟨rfl, hdup.2 ⟨h0', hz⟩⟩]
                rw [hst]
                have ee := ezd.trans' ey
                exact .inr ⟨rfl, oXv.ext ee, euv.trans' ee, by trivial⟩
              · unfold rstep; rw [if_neg (fun hh => hz (hdup.1 hh.2).2), hins]
            · unfold rstep; rw [if_neg (fun hh => by have := (hdup.1 hh.2).1; omega), hins]
      · refine ⟨fun q z => ∃ qn : Nat, q = (qn : Int) ∧ qn ≤ out.length ∧ (∀ i, qn ≤ i → i < out.length → 0 < compareBytes (out.getD i O00).k xj.k) ∧ Ext v z, fun q _ => q.toNat, ⟨out.length, rfl, Nat.le_refl _, fun i h1 h2 => by omega, .refl _ _⟩, ?_⟩
        rintro _ z ⟨q, rfl, hq, hhi, ez⟩
        have ed : Ext z z.drew := Fr.drew NoB z
        refine brd (fun h0 => ?_) (fun h0 => ⟨q, rfl, ⟨hq, hhi, .inl (by omega)⟩, ez.trans' ed⟩)
        have h0' : 0 < q := by omega
        obtain ⟨bd, hB, A', c', hcB, ik', lk'⟩ := item q h0' hq
        have hi1 : IntKind.i64.wrap ((q : Int) - 1) = ((q - 1 : Nat) : Int) := by rw [wi _ (by omega) (by omega)]; omega
        rw [hi1]
        simp only [Int.toNat_natCast]
        have ewd := (ewv.trans' ez).trans' ed
        refine ⟨bd, hB, ⟨by omega, by omega⟩, fun y => Ext z y, ed, _, _, _, fun y hy => hcB y (ez.trans' hy), _, _, _, fun y hy => ((b2.ext ez).ext hy).cell rfl, ?_⟩
        refine (CompareR_spec rfl rfl (ik'.ext KB_pos ewd) (immNo KB_pos (one.ik.ext KB_pos ewd)) (by omega)).mono ?_
        rintro _ y ⟨rfl, ey⟩
        have ezy := (ez.trans' ed).trans' ey
        refine ⟨_, rfl, brd (fun hp => ?_) (fun hp => ⟨q, rfl, ⟨hq, hhi, .inr (by show compareBytes (out.getD (q - 1) O0).k xj.k ≤ 0; omega)⟩, ezy⟩)⟩
        refine ⟨⟨q - 1, rfl, by omega, fun i h1 h2 => ?_, ezy⟩, by omega⟩
        rcases Nat.lt_or_ge i q with hlt | hge
        · have : i = q - 1 := by omega
          rw [this]; exact hp
        · exact hhi i hge h2
    · have hjl : j = st.l.length := by omega
      rw [hjl, List.take_length] at oX ⊢
      have hst : sortS st = { st with l := rsort st.dist st.l, sorted := true } := by
        unfold sortS; rw [hs, if_neg (by simp)]; rfl
      have bGu := bG.ext eu
      have bHu := bH.ext eu
      obtain ⟨o3, s3⟩ := set1R bGu (i := 2) (show 2 < 5 by decide) (.slice x (rsort st.dist st.l).length c)
      refine ⟨o3, fun w3 hw3 => ?_⟩
      obtain ⟨b3, f3⟩ := s3 w3 hw3
      obtain ⟨o4, s4⟩ := set1R b3 (i := 3) (show 3 < 5 by decide) (.bool true)
      refine ⟨o4, fun w4 hw4 => ?_⟩
      obtain ⟨b4, f4⟩ := s4 w4 hw4
      have bG4 : Blk w4 g (rcl D dc x c (sortS st)) := by rw [hst]; exact b4
      have f34 : Fr (fun k => k = g) u w4 := f3.trans f4 (fun _ _ h => h) (fun _ _ h => h)
      have bH4 := bHu.keep f34 hg1
      have e4 : Ext w w4 := ewu.trans f34 (fun _ _ h => h) (fun k hk he => by omega)
      have hd : st.desc = (sortS st).desc := by rw [hst]
      refine ⟨_, _, _, Blk.cell bG4 rfl, _, Blk.cell bG4 rfl, _, _, _, Blk.cell bG4 rfl, _, Blk.cell bG4 rfl, _, Blk.cell bG4 rfl, Blk.stOK bH4 [_, _, _, _, _] 0 (by simp), fun w9 hw9 => ?_⟩
      have b9 : Blk w9 g1 (rcl D dc x c (sortS st)) := by rw [hw9]; exact Blk.setAll (o := 0) (rcl D dc x c (sortS st)) 0 bH4
      have e9 : Ext w w9 := by rw [hw9]; exact Ext.setAll e4 hg1w _ _
      refine ⟨_, _, _, Blk.cell b9 rfl, _, Blk.cell b9 rfl, _, _, _, Blk.cell b9 rfl, _, Blk.cell b9 rfl, _, Blk.cell b9 rfl, ?_⟩
      have f49 : Fr (fun k => k = g ∨ k = g1) u w9 := by
        rw [hw9]; exact f34.trans (Fr.setAll _ 0 _) (fun _ _ h => .inl h) (fun _ _ h => .inr h)
      have off : ∀ k, ownB x k → ¬ (k = g ∨ k = g1) := fun k hk hh => by
        have := nX k hk; have := bG.lt; have := bH.lt; omega
      have hrl := rsort_le st.dist st.l
      refine ⟨x, c, by rw [if_neg (by simp)]; rfl, ?_, e9⟩
      rw [hst]
      refine ⟨h.desc.ext KBo_pos e9, unfixO (kf_fr oX f49 off) e9 (fun k hk ho => by have := nX k hk; have := hΩ k ho; have := e12.size; omega), by show (rsort st.dist st.l).length ≤ 65536; omega, h.n2, by show st.at_ ≤ _; rw [h.n4 hs]; omega, fun hh => by cases hh⟩
end Go.Proofs.Ytakmlaliglmnmaa
