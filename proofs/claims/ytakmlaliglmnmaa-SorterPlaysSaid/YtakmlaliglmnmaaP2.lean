/- The document's answer for layers 4 (Compare) and 7 (sorter): its calls. -/
import Derived.Test.YtakmlaliglmnmaaF4
import Derived.Test.YtakmlaliglmnmaaNestsP
import Derived.Test.YtakmlaliglmnmaaS7
import Derived.Test.YtakmlaliglmnmaaP0Pure
set_option linter.unusedVariables false
set_option linter.unusedSimpArgs false
namespace Go.Proofs.Ytakmlaliglmnmaa
open Go Go.Sx R1 S1 Go.Lib

theorem cmp_eq (a b : List UInt8) (j : Nat) (h : a.take j = b.take j) (h1 : j ≤ a.length) (h2 : j ≤ b.length) : compareBytes a b = compareBytes (a.drop j) (b.drop j) := by
  rw [← List.take_append_drop j a, ← List.take_append_drop j b, h, cmp_same, ← h, List.take_append_drop, h, List.take_append_drop]
theorem CompareR_spec {w : World} {A B : Option Addr} {c d n m : Nat} {a b : List UInt8} (hn : n = a.length) (hm : m = b.length) (hA : Imm KB NoB w A a) (hB : Imm KB NoB w B b) (hl : a.length ≤ 1000000000000) :
    CallsV Try.prog 47 #[.slice A n c, .slice B m d] w fun r w' => r = .int .i64 (compareBytes a b) ∧ Ext w w' := by
  subst hn; subst hm
  refine cardindexref04_Compare.calls okay ?_
  unfold cardindexref04_Compare.W
  refine ⟨fun u => ∃ j, (j = a.length ∨ j = b.length) ∧ j ≤ a.length ∧ j ≤ b.length ∧ a.take j = b.take j ∧ Ext w u, ?_, ?_⟩
  · rintro u ⟨j, hor, ha, hb, heq, e⟩
    have hc := cmp_eq a b j heq ha hb
    refine brd (fun h1 => ⟨?_, e⟩) (fun h1 => brd (fun h2 => ⟨?_, e⟩) (fun h2 => ⟨?_, e⟩))
    · have hj : j = a.length := by omega
      rw [hc, hj, List.drop_length]
      cases hd : b.drop a.length with
      | nil => rw [List.drop_eq_nil_iff] at hd; omega
      | cons x r => rfl
    · have hj : j = b.length := by omega
      rw [hc, hj, List.drop_length]
      cases hd : a.drop b.length with
      | nil => rw [List.drop_eq_nil_iff] at hd; omega
      | cons x r => rfl
    · rw [hc, List.drop_of_length_le (by omega), List.drop_of_length_le (by omega)]; rfl
  · refine ⟨fun i u => ∃ j : Nat, i = (j : Int) ∧ j ≤ a.length ∧ j ≤ b.length ∧ a.take j = b.take j ∧ Ext w u, fun i _ => (a.length - i).toNat, ⟨0, rfl, by omega, by omega, by simp, .refl _ _⟩, ?_⟩
    rintro _ u ⟨j, rfl, ha, hb, heq, e⟩
    refine brd (fun h1 => brd (fun h2 => ?_) (fun h2 => ⟨j, by omega, ha, hb, heq, e⟩)) (fun h1 => ⟨j, by omega, ha, hb, heq, e⟩)
    obtain ⟨ad, hA', ca⟩ := itemBx hA (j := j) (by omega)
    obtain ⟨bd, hB', cb⟩ := itemBx hB (j := j) (by omega)
    have e1 := e.trans' (Fr.drew NoB u)
    have e2 := e1.trans' (Fr.drew NoB u.drew)
    have hc := cmp_eq a b j heq ha hb
    have da : a.drop j = a.getD j 0 :: a.drop (j + 1) := by rw [List.drop_eq_getElem_cons (by omega)]; simp [List.getD, show j < a.length by omega]
    have db : b.drop j = b.getD j 0 :: b.drop (j + 1) := by rw [List.drop_eq_getElem_cons (by omega)]; simp [List.getD, show j < b.length by omega]
    have ta := take_sn a j (by omega)
    have tb := take_sn b j (by omega)
    rw [da, db, compareBytes] at hc
    rw [Int.toNat_natCast]
    generalize a.getD j 0 = x at *
    generalize b.getD j 0 = y at *
    refine ⟨ad, hA', ⟨by omega, by omega⟩, fun z => Ext w z, e1, _, fun z hz => ca z hz, bd, hB', ⟨by omega, by omega⟩, _, fun z hz => cb z hz, ?_⟩
    refine brd (fun hlt => ⟨?_, e1⟩) (fun hlt => ⟨ad, hA', ⟨by omega, by omega⟩, fun z => Ext w z, e2, _, fun z hz => ca z hz, bd, hB', ⟨by omega, by omega⟩, _, fun z hz => cb z hz, brd (fun hgt => ⟨?_, e2⟩) (fun hgt => ?_)⟩)
    · rw [hc, if_pos (by rw [UInt8.lt_iff_toNat_lt]; omega)]
    · rw [hc, if_neg (by rw [UInt8.lt_iff_toNat_lt]; omega), if_pos (by rw [UInt8.lt_iff_toNat_lt]; omega)]
    · rw [wi _ (by omega) (by omega)]
      have hxy : x = y := UInt8.toNat_inj.1 (by omega)
      exact ⟨⟨j + 1, by omega, by omega, by omega, by rw [ta, tb, heq, hxy], e2⟩, by dsimp only; omega⟩

/-! ## the sorter, a value -/
def rcl (D : Option Addr) (dc : Nat) (L : Option Addr) (lc : Nat) (st : St) : List Value := [.slice D st.desc.length dc, .bool st.dist, .slice L st.l.length lc, .bool st.sorted, .int .i64 (st.at_ : Int)]
def rval (D : Option Addr) (dc : Nat) (L : Option Addr) (lc : Nat) (st : St) : Value := .agg #[.slice D st.desc.length dc, .bool st.dist, .slice L st.l.length lc, .bool st.sorted, .int .i64 (st.at_ : Int)]
/-- what it says, none of it in the blocks Ω -/
structure RSor (Ω : Nat → Prop) (w : World) (D : Option Addr) (dc : Nat) (L : Option Addr) (lc : Nat) (st : St) : Prop where
  desc : Imm Kd.bool Ω w D st.desc
  rows : Imm KO Ω w L st.l
  n1 : st.l.length ≤ 65536
  n2 : st.desc.length ≤ 200
  n3 : st.at_ ≤ st.l.length
  n4 : st.sorted = false → st.at_ = 0
theorem KO_pos : 0 < KO.size := show 0 < 2 by decide
theorem RSor.keep {Ω Ω' : Nat → Prop} {w w' : World} {D L : Option Addr} {dc lc : Nat} {st : St} (h : RSor Ω w D dc L lc st) (s : Step Ω w Ω' w') : RSor Ω' w' D dc L lc st :=
  ⟨h.desc.keep KBo_pos s, h.rows.keep KO_pos s, h.n1, h.n2, h.n3, h.n4⟩
theorem RSor.ext {Ω : Nat → Prop} {w w' : World} {D L : Option Addr} {dc lc : Nat} {st : St} (h : RSor Ω w D dc L lc st) (e : Ext w w') : RSor Ω w' D dc L lc st := h.keep (e.step Ω)
theorem immNo {α : Type} {K : Kd α} {Ω : Nat → Prop} {w : World} {A : Option Addr} {l : List α} (hz : 0 < K.size) (h : Imm K Ω w A l) : Imm K NoB w A l := h.sub hz fun _ _ h => h.elim
theorem slR : SlT Try.prog 42 83 2 48 [.slice none 0 0, .slice none 0 0] := ⟨by kernel_rfl, ⟨Try.t83, by kernel_rfl, by kernel_rfl, by kernel_rfl, .agg #[.slice none 0 0, .slice none 0 0], by kernel_rfl, by kernel_rfl⟩, rfl, by decide⟩
theorem fixO {Ω : Nat → Prop} {w : World} {A : Option Addr} {l : List One} (h : Imm KO Ω w A l) : Imm (KF Ω w) NoB w A l := fun i a ha => by
  obtain ⟨ad, hA, hn, cs, hr, hc⟩ := h i a ha
  exact ⟨ad, hA, fun h => h, cs, hr, hc⟩
theorem unfixO {Ω : Nat → Prop} {w0 w : World} {A : Option Addr} {c : Nat} {l : List One} (h : OwnK (KF Ω w0) w A c l) (e : Ext w0 w) (hΩ : ∀ k, ownB A k → ¬ Ω k) : Imm KO Ω w A l := by
  obtain ⟨xs, ho, hr⟩ := h
  exact Own.imm (K := KO) KO_pos ho hΩ fun i a ha => KO.keep (show KO.rep Ω w0 a _ from hr i a ha) (e.step Ω)
theorem NewR_spec {w : World} {A : Option Addr} {c n : Nat} {ds : List Bool} (hn : n = ds.length) (dist : Bool) :
    CallsV Try.prog 15 #[.slice A n c, .bool dist] w fun r w' => Ext w w' ∧ ((200 < ds.length ∧ r = .tuple #[rval none 0 none 0 ⟨[], false, [], false, 0⟩, .int .i64 2]) ∨ (ds.length ≤ 200 ∧ r = .tuple #[rval A c none 0 ⟨ds, dist, [], false, 0⟩, .int .i64 0])) := by
  subst hn
  refine cardindexref07_New.calls okay ?_
  unfold cardindexref07_New.W
  intro g w1 f1
  have b1 := f1.blk
  refine brd (fun h => ⟨b1.stOK [_, _, _, _, _] 0 (by simp), fun w2 hw2 => ?_⟩) (fun h => ⟨b1.stOK [_, _, _, _, _] 0 (by simp), fun w2 hw2 => ?_⟩)
  · have b2 : Blk w2 g (rcl none 0 none 0 ⟨[], false, [], false, 0⟩) := by rw [hw2]; exact Blk.setAll (o := 0) (rcl none 0 none 0 ⟨[], false, [], false, 0⟩) 0 b1
    have e2 : Ext w w2 := by rw [hw2]; exact f1.ext.setAll f1.ge _ _
    exact ⟨_, _, _, b2.cell rfl, _, b2.cell rfl, _, _, _, b2.cell rfl, _, b2.cell rfl, _, b2.cell rfl, e2, .inl ⟨by omega, rfl⟩⟩
  · have b2 : Blk w2 g (rcl A c none 0 ⟨ds, dist, [], false, 0⟩) := by rw [hw2]; exact Blk.setAll (o := 0) (rcl A c none 0 ⟨ds, dist, [], false, 0⟩) 0 b1
    have e2 : Ext w w2 := by rw [hw2]; exact f1.ext.setAll f1.ge _ _
    exact ⟨_, _, _, b2.cell rfl, _, b2.cell rfl, _, _, _, b2.cell rfl, _, b2.cell rfl, _, b2.cell rfl, e2, .inr ⟨by omega, rfl⟩⟩
theorem set1R {w : World} {g i : Nat} {cur : List Value} (b : Blk w g cur) (hi : i < cur.length) (v : Value) : stOK ((⟨g, 0, none⟩ : Addr).add i) 0 [v] w ∧ ∀ w', w' = setAll ((⟨g, 0, none⟩ : Addr).add i) 0 [v] w → Blk w' g (cur.set i v) ∧ Fr (fun k => k = g) w w' := by
  rw [add_new, Nat.zero_add]
  refine ⟨b.stOK [v] 0 (by simp; omega), ?_⟩
  rintro w' rfl
  exact ⟨Blk.setAll (o := i) [v] 0 b, Fr.setAll [v] 0 w⟩
theorem RewindR_spec {w : World} {D L : Option Addr} {dc lc : Nat} {st : St} :
    CallsV Try.prog 25 #[rval D dc L lc st] w fun r w' => r = .tuple #[rval D dc L lc (if st.sorted then { st with at_ := 0 } else st), .int .i64 (if st.sorted then 0 else 70)] ∧ Ext w w' := by
  refine cardindexref07_Sorter_Rewind.calls okay ?_
  unfold cardindexref07_Sorter_Rewind.W
  intro g w1 f1 g1 w2 f2
  have hg1 : g1 ≠ g := by have := f2.ge; have := f1.lt; omega
  have hg1w : w.heap.size ≤ g1 := Nat.le_trans f1.ext.size f2.ge
  have e12 := f1.ext.trans' f2.ext
  have bG : Blk w2 g (rcl D dc L lc st) := f1.blk.ext f2.ext
  have bH := f2.blk
  refine ⟨_, bG.cell rfl, ?_⟩
  cases hs : st.sorted with
  | false =>
    refine brnb (fun _ => ?_) (fun h => by cases h)
    refine ⟨_, _, _, Blk.cell bG rfl, _, Blk.cell bG rfl, _, _, _, Blk.cell bG rfl, _, Blk.cell bG rfl, _, Blk.cell bG rfl, Blk.stOK bH [_, _, _, _, _] 0 (by simp), fun w9 hw9 => ?_⟩
    have b9 : Blk w9 g1 (rcl D dc L lc st) := by rw [hw9]; exact Blk.setAll (o := 0) (rcl D dc L lc st) 0 bH
    have e9 : Ext w w9 := by rw [hw9]; exact Ext.setAll e12 hg1w _ _
    refine ⟨_, _, _, Blk.cell b9 rfl, _, Blk.cell b9 rfl, _, _, _, Blk.cell b9 rfl, _, Blk.cell b9 rfl, _, Blk.cell b9 rfl, ?_⟩
    refine ⟨?_, e9⟩
    simp [rval, hs]
  | true =>
    refine brnb (fun h => by cases h) (fun _ => ?_)
    obtain ⟨o3, s3⟩ := set1R bG (i := 4) (show 4 < 5 by decide) (.int .i64 0)
    refine ⟨o3, fun w3 hw3 => ?_⟩
    obtain ⟨b3, f3⟩ := s3 w3 hw3
    have bG3 : Blk w3 g (rcl D dc L lc { st with at_ := 0 }) := b3
    have bH3 := bH.keep f3 hg1
    have e3 : Ext w w3 := e12.trans f3 (fun _ _ h => h) (fun k hk he => by have := f1.ge; omega)
    refine ⟨_, _, _, Blk.cell bG3 rfl, _, Blk.cell bG3 rfl, _, _, _, Blk.cell bG3 rfl, _, Blk.cell bG3 rfl, _, Blk.cell bG3 rfl, Blk.stOK bH3 [_, _, _, _, _] 0 (by simp), fun w9 hw9 => ?_⟩
    have b9 : Blk w9 g1 (rcl D dc L lc { st with at_ := 0 }) := by rw [hw9]; exact Blk.setAll (o := 0) (rcl D dc L lc { st with at_ := 0 }) 0 bH3
    have e9 : Ext w w9 := by rw [hw9]; exact Ext.setAll e3 hg1w _ _
    refine ⟨_, _, _, Blk.cell b9 rfl, _, Blk.cell b9 rfl, _, _, _, Blk.cell b9 rfl, _, Blk.cell b9 rfl, _, Blk.cell b9 rfl, ?_⟩
    refine ⟨?_, e9⟩
    simp [rval, hs]
theorem NextR_spec {Ω : Nat → Prop} {w : World} {D L : Option Addr} {dc lc : Nat} {st : St} (h : RSor Ω w D dc L lc st) :
    CallsV Try.prog 23 #[rval D dc L lc st] w fun r w' => ∃ A c, r = .tuple #[rval D dc L lc (nextS st), .slice A (nextR st).length c, .bool (nextOk st)] ∧ Imm KV Ω w' A (nextR st) ∧ Ext w w' ∧ (nextR st).length ≤ 200 := by
  refine cardindexref07_Sorter_Next.calls okay ?_
  unfold cardindexref07_Sorter_Next.W
  intro g w1 f1 g1 w2 f2
  have hg1 : g1 ≠ g := by have := f2.ge; have := f1.lt; omega
  have hg1w : w.heap.size ≤ g1 := Nat.le_trans f1.ext.size f2.ge
  have e12 := f1.ext.trans' f2.ext
  have bG : Blk w2 g (rcl D dc L lc st) := f1.blk.ext f2.ext
  have bH := f2.blk
  refine ⟨_, bG.cell rfl, ?_⟩
  have no : nextOk st = false → ∀ w', Ext w w' → ∃ A c, Value.tuple #[rval D dc L lc st, .slice none 0 0, .bool false] = .tuple #[rval D dc L lc (nextS st), .slice A (nextR st).length c, .bool (nextOk st)] ∧ Imm KV Ω w' A (nextR st) ∧ Ext w w' ∧ (nextR st).length ≤ 200 := by
    intro hn w' e
    rw [nextR, nextS, hn]
    exact ⟨none, 0, rfl, Imm.nil _ _ _ _, e, by simp⟩
  cases hs : st.sorted with
  | false =>
    refine brnb (fun _ => ?_) (fun h => by cases h)
    refine ⟨_, _, _, Blk.cell bG rfl, _, Blk.cell bG rfl, _, _, _, Blk.cell bG rfl, _, Blk.cell bG rfl, _, Blk.cell bG rfl, Blk.stOK bH [_, _, _, _, _] 0 (by simp), fun w9 hw9 => ?_⟩
    have b9 : Blk w9 g1 (rcl D dc L lc st) := by rw [hw9]; exact Blk.setAll (o := 0) (rcl D dc L lc st) 0 bH
    have e9 : Ext w w9 := by rw [hw9]; exact Ext.setAll e12 hg1w _ _
    refine ⟨_, _, _, Blk.cell b9 rfl, _, Blk.cell b9 rfl, _, _, _, Blk.cell b9 rfl, _, Blk.cell b9 rfl, _, Blk.cell b9 rfl, ?_⟩
    exact no (by unfold nextOk; rw [hs]; rfl) w9 e9
  | true =>
    refine brnb (fun h => by cases h) (fun _ => ⟨_, bG.cell rfl, _, _, _, bG.cell rfl, brd (fun hle => ?_) (fun hlt => ?_)⟩)
    · refine ⟨_, _, _, Blk.cell bG rfl, _, Blk.cell bG rfl, _, _, _, Blk.cell bG rfl, _, Blk.cell bG rfl, _, Blk.cell bG rfl, Blk.stOK bH [_, _, _, _, _] 0 (by simp), fun w9 hw9 => ?_⟩
      have b9 : Blk w9 g1 (rcl D dc L lc st) := by rw [hw9]; exact Blk.setAll (o := 0) (rcl D dc L lc st) 0 bH
      have e9 : Ext w w9 := by rw [hw9]; exact Ext.setAll e12 hg1w _ _
      refine ⟨_, _, _, Blk.cell b9 rfl, _, Blk.cell b9 rfl, _, _, _, Blk.cell b9 rfl, _, Blk.cell b9 rfl, _, Blk.cell b9 rfl, ?_⟩
      exact no (by unfold nextOk; rw [hs, decide_eq_false (by omega)]; rfl) w9 e9
    · have hok : nextOk st = true := by unfold nextOk; rw [hs, decide_eq_true (by omega)]; rfl
      have hn1 := h.n1
      refine ⟨_, bG.cell rfl, ?_⟩
      rw [wi _ (by omega) (by omega)]
      obtain ⟨o3, s3⟩ := set1R bG (i := 4) (show 4 < 5 by decide) (.int .i64 ((st.at_ : Int) + 1))
      refine ⟨o3, fun w3 hw3 => ?_⟩
      obtain ⟨b3, f3⟩ := s3 w3 hw3
      have bG3 : Blk w3 g (rcl D dc L lc { st with at_ := st.at_ + 1 }) := b3
      have e3 : Ext w w3 := e12.trans f3 (fun _ _ h => h) (fun k hk he => by have := f1.ge; omega)
      have ed : Ext w3 w3.drew := Fr.drew NoB w3
      have bGd := bG3.ext ed
      have bHd := (bH.keep f3 hg1).ext ed
      have ewd := e3.trans' ed
      obtain ⟨ad, hA, kA, kc, rA, rc, one, hcell⟩ := itemO (fixO h.rows) (fun _ => .inr trivial) (i := st.at_) (by omega)
      have hcd := (hcell w3.drew ewd).2
      have hi1 : IntKind.i64.wrap (((st.at_ + 1 : Nat) : Int) - 1) = (st.at_ : Int) := by rw [wi _ (by omega) (by omega)]; omega
      refine ⟨fun u => Blk u g (rcl D dc L lc { st with at_ := st.at_ + 1 }) ∧ Ext w u, ⟨bGd, ewd⟩, _, _, _, fun u hu => hu.1.cell rfl, _, fun u hu => hu.1.cell rfl, _, _, _, fun u hu => hu.1.cell rfl, _, fun u hu => hu.1.cell rfl, _, fun u hu => hu.1.cell rfl, _, _, _, fun u hu => hu.1.cell rfl, _, fun u hu => hu.1.cell rfl, ad, hA, ?_⟩
      rw [hi1]
      refine ⟨⟨by omega, by show (st.at_ : Int) < (st.l.length : Int); omega⟩, _, _, _, fun u hu => by rw [Int.toNat_natCast]; exact (hcell u hu.2).2, bHd.stOK [_, _, _, _, _] 0 (by simp), fun w9 hw9 => ?_⟩
      have b9 : Blk w9 g1 (rcl D dc L lc { st with at_ := st.at_ + 1 }) := by rw [hw9]; exact Blk.setAll (o := 0) (rcl D dc L lc { st with at_ := st.at_ + 1 }) 0 bHd
      have e9 : Ext w w9 := by rw [hw9]; exact Ext.setAll ewd hg1w _ _
      have bG9 : Blk w9 g (rcl D dc L lc { st with at_ := st.at_ + 1 }) := by
        rw [hw9]; exact bGd.keep (Fr.setAll _ 0 _) (fun he => hg1 he.symm)
      refine ⟨⟨bG9, e9⟩, _, _, _, b9.cell rfl, _, b9.cell rfl, _, _, _, b9.cell rfl, _, b9.cell rfl, _, b9.cell rfl, ?_⟩
      rw [nextR, nextS, hok]
      exact ⟨rA, rc, rfl, one.ir.ext KV_pos e9, e9, one.lr⟩
end Go.Proofs.Ytakmlaliglmnmaa
/- The document's answer for layer 7 (sorter): Add, Sort. -/
set_option linter.unusedVariables false
set_option linter.unusedSimpArgs false
namespace Go.Proofs.Ytakmlaliglmnmaa
open Go Go.Sx R1 S1 Go.Lib

/-- what is told of things and their cells, in no world -/
def Kd.pred {α : Type} (n : Nat) (P : α → List Value → Prop) (h : ∀ a cs, P a cs → cs.length = n) : Kd α := ⟨n, fun _ _ a cs => P a cs, fun h1 => h _ _ h1, fun h1 _ => h1⟩
def PO (Ω : Nat → Prop) (w : World) (n : One) (ns : List Value) (a : One) (cs : List Value) : Prop := KO.rep Ω w a cs ∨ (a = n ∧ cs = ns ∧ cs.length = 2 ∧ ∀ v ∈ cs, v.oneCell' = true)
theorem PO_len {Ω : Nat → Prop} {w : World} {n : One} {ns : List Value} : ∀ a cs, PO Ω w n ns a cs → cs.length = 2 := by
  rintro a cs (h | h)
  · exact KO.len h
  · exact h.2.2.1
abbrev KP1 (Ω : Nat → Prop) (w : World) (n : One) (ns : List Value) : Kd One := Kd.pred 2 (PO Ω w n ns) PO_len
theorem KP1_one {Ω : Nat → Prop} {w : World} {n : One} {ns : List Value} : ∀ (Ω' : Nat → Prop) (w' : World) a cs, (KP1 Ω w n ns).rep Ω' w' a cs → ∀ v ∈ cs, v.oneCell' = true := by
  rintro _ _ a cs (h | h)
  · exact KF_one (Ω0 := Ω) (w0 := w) Ω w a cs h
  · exact h.2.2.2
theorem AddR_spec {Ω : Nat → Prop} {w : World} {D L : Option Addr} {dc lc : Nat} {st : St} (h : RSor Ω w D dc L lc st) (hΩ : ∀ k, Ω k → k < w.heap.size) {KA RA : Option Addr} {kc rc kn rn : Nat} {key row : List V} (hkn : kn = key.length) (hrn : rn = row.length) (hK : Imm KV NoB w KA key) (hRow : Imm KV NoB w RA row) (gk : ∀ v ∈ key, good v) (gr : ∀ v ∈ row, good v) (lk : key.length ≤ maxLen) (lr : row.length ≤ maxLen) :
    CallsV Try.prog 19 #[rval D dc L lc st, .slice KA kn kc, .slice RA rn rc] w fun r w' => ∃ L' lc', r = .tuple #[rval D dc L' lc' (addS st key row), .int .i64 (addE st key row)] ∧ RSor Ω w' D dc L' lc' (addS st key row) ∧ Ext w w' := by
  subst hkn; subst hrn
  refine cardindexref07_Sorter_Add.calls okay ?_
  unfold cardindexref07_Sorter_Add.W
  intro g w1 f1 g1 w2 f2
  have hg1 : g1 ≠ g := by have := f2.ge; have := f1.lt; omega
  have hgw := f1.ge
  have hg1w : w.heap.size ≤ g1 := Nat.le_trans f1.ext.size f2.ge
  have e12 := f1.ext.trans' f2.ext
  have bG : Blk w2 g (rcl D dc L lc st) := f1.blk.ext f2.ext
  have bH := f2.blk
  have fin : ∀ {e : Int} {w'}, addE st key row = e → e ≠ 0 → Ext w w' → ∃ L' lc', Value.tuple #[rval D dc L lc st, .int .i64 e] = .tuple #[rval D dc L' lc' (addS st key row), .int .i64 (addE st key row)] ∧ RSor Ω w' D dc L' lc' (addS st key row) ∧ Ext w w' := by
    intro e w' hE h0 hw
    rw [addS, hE, if_neg h0]
    exact ⟨L, lc, rfl, h.ext hw, hw⟩
  refine ⟨_, bG.cell rfl, ?_⟩
  cases hs : st.sorted with
  | true =>
    refine br (fun _ => ?_) (fun h => by cases h)
    refine ⟨_, _, _, Blk.cell bG rfl, _, Blk.cell bG rfl, _, _, _, Blk.cell bG rfl, _, Blk.cell bG rfl, _, Blk.cell bG rfl, Blk.stOK bH [_, _, _, _, _] 0 (by simp), fun w9 hw9 => ?_⟩
    have b9 : Blk w9 g1 (rcl D dc L lc st) := by rw [hw9]; exact Blk.setAll (o := 0) (rcl D dc L lc st) 0 bH
    have e9 : Ext w w9 := by rw [hw9]; exact Ext.setAll e12 hg1w _ _
    refine ⟨_, _, _, Blk.cell b9 rfl, _, Blk.cell b9 rfl, _, _, _, Blk.cell b9 rfl, _, Blk.cell b9 rfl, _, Blk.cell b9 rfl, ?_⟩
    exact fin (by unfold addE; rw [hs, if_pos rfl]) (by decide) e9
  | false =>
    refine br (fun h => by cases h) (fun _ => ⟨_, _, _, bG.cell rfl, ?_⟩)
    refine (KeyR_spec rfl rfl (hK.ext KV_pos e12) (immNo KBo_pos (h.desc.ext KBo_pos e12)) lk (by have := h.n2; simp only [maxLen]; omega) gk).mono ?_
    rintro _ w3 ⟨X, cX, rfl, oX, e3, nX⟩
    have e13 := e12.trans' e3
    refine ⟨_, _, _, _, rfl, brn (fun hk => ?_) (fun hk => ?_)⟩
    · have bG3 := bG.ext e3
      have bH3 := bH.ext e3
      refine ⟨_, _, _, Blk.cell bG3 rfl, _, Blk.cell bG3 rfl, _, _, _, Blk.cell bG3 rfl, _, Blk.cell bG3 rfl, _, Blk.cell bG3 rfl, Blk.stOK bH3 [_, _, _, _, _] 0 (by simp), fun w9 hw9 => ?_⟩
      have b9 : Blk w9 g1 (rcl D dc L lc st) := by rw [hw9]; exact Blk.setAll (o := 0) (rcl D dc L lc st) 0 bH3
      have e9 : Ext w w9 := by rw [hw9]; exact Ext.setAll e13 hg1w _ _
      refine ⟨_, _, _, Blk.cell b9 rfl, _, Blk.cell b9 rfl, _, _, _, Blk.cell b9 rfl, _, Blk.cell b9 rfl, _, Blk.cell b9 rfl, ?_⟩
      exact fin (by unfold addE; rw [hs, if_neg (by simp), if_pos hk]) hk e9
    have hk0 : ¬ (keyR key st.desc).2 ≠ 0 := by simpa using hk
    refine (PutR_spec rfl (hRow.ext KV_pos e13) lr gr).mono ?_
    rintro _ w4 ⟨Y, cY, rfl, oY, e4, nY⟩
    have e14 := e13.trans' e4
    have e24 := e3.trans' e4
    have bG4 := bG.ext e24
    have bH4 := bH.ext e24
    refine ⟨_, _, _, _, rfl, brn (fun hp => ?_) (fun hp => ⟨_, _, _, bG4.cell rfl, brd (fun hf => ?_) (fun hf => ?_)⟩)⟩
    · refine ⟨_, _, _, Blk.cell bG4 rfl, _, Blk.cell bG4 rfl, _, _, _, Blk.cell bG4 rfl, _, Blk.cell bG4 rfl, _, Blk.cell bG4 rfl, Blk.stOK bH4 [_, _, _, _, _] 0 (by simp), fun w9 hw9 => ?_⟩
      have b9 : Blk w9 g1 (rcl D dc L lc st) := by rw [hw9]; exact Blk.setAll (o := 0) (rcl D dc L lc st) 0 bH4
      have e9 : Ext w w9 := by rw [hw9]; exact Ext.setAll e14 hg1w _ _
      refine ⟨_, _, _, Blk.cell b9 rfl, _, Blk.cell b9 rfl, _, _, _, Blk.cell b9 rfl, _, Blk.cell b9 rfl, _, Blk.cell b9 rfl, ?_⟩
      exact fin (by unfold addE; rw [hs, if_neg (by simp), if_neg hk0, if_pos hp]) hp e9
    · refine ⟨_, _, _, Blk.cell bG4 rfl, _, Blk.cell bG4 rfl, _, _, _, Blk.cell bG4 rfl, _, Blk.cell bG4 rfl, _, Blk.cell bG4 rfl, Blk.stOK bH4 [_, _, _, _, _] 0 (by simp), fun w9 hw9 => ?_⟩
      have b9 : Blk w9 g1 (rcl D dc L lc st) := by rw [hw9]; exact Blk.setAll (o := 0) (rcl D dc L lc st) 0 bH4
      have e9 : Ext w w9 := by rw [hw9]; exact Ext.setAll e14 hg1w _ _
      refine ⟨_, _, _, Blk.cell b9 rfl, _, Blk.cell b9 rfl, _, _, _, Blk.cell b9 rfl, _, Blk.cell b9 rfl, _, Blk.cell b9 rfl, ?_⟩
      exact fin (by unfold addE; rw [hs, if_neg (by simp), if_neg hk0, if_neg (by simpa using hp), if_pos (by omega)]) (by decide) e9
    · have hp0 : ¬ (putR row).2 ≠ 0 := by simpa using hp
      have hE : addE st key row = 0 := by unfold addE; rw [hs, if_neg (by simp), if_neg hk0, if_neg hp0, if_neg (by omega)]
      have hrl := putR_right hp
      have rows4 := h.rows.ext KO_pos e14
      refine ⟨_, _, _, bG4.cell rfl, ?_⟩
      obtain ⟨M, cM, w5, hr5, o5, g5⟩ := (OwnK.nil (KF Ω w) w4).append slR (ty := 42) (cb := lc) (K := KF Ω w) (m := st.l) (fun i a ha => by
        obtain ⟨ad, hA, hn, cs, hr, hc⟩ := h.rows i a ha
        exact ⟨ad, hA, fun h => ownB_none _ h, cs, hr, fun j v hj => e14.cell (fun h => h) (hc j v hj)⟩) (KF_one _ _) (by simp only [List.length_nil, maxLen]; omega) (by simp only [List.length_nil]; omega)
      rw [List.nil_append] at hr5 o5
      have e5 := g5.ext (.refl NoB w4) (New.none _)
      have n5 := g5.new (.refl NoB w4) (New.none _)
      refine ⟨_, _, _, _, hr5, ?_⟩
      have e15 := e14.trans' e5
      obtain ⟨Z, cZ, w6, hr6, o6, g6⟩ := (OwnK.nil KV w5).append slV (ty := 32) (cb := rc) ((hRow.ext KV_pos e15).sub KV_pos fun k _ h => (ownB_none k h).elim) (KV_one _ _) (by simp only [List.length_nil, maxLen]; omega) (by simp only [List.length_nil]; omega)
      rw [List.nil_append] at hr6 o6
      have e6 := g6.ext (.refl NoB w5) (New.none _)
      have n6 := g6.new (.refl NoB w5) (New.none _)
      refine ⟨_, _, _, _, hr6, ?_⟩
      have e46 := e5.trans' e6
      have e16 := e14.trans' e46
      intro g3 w7 f7
      obtain ⟨rfl, rfl⟩ := f7
      have noX : ∀ k, ownB X k → ¬ Ω k := fun k hk ho => by have := nX k hk; have := hΩ k ho; have := e12.size; omega
      have noZ : ∀ k, ownB Z k → ¬ Ω k := fun k hk ho => by have := n6 k hk; have := hΩ k ho; have := e15.size; omega
      have noM : ∀ k, ownB M k → ¬ Ω k := fun k hk ho => by have := n5 k hk; have := hΩ k ho; have := e14.size; omega
      have o6' : OwnK (KP1 Ω w ⟨(keyR key st.desc).1, row⟩ (oc ⟨(keyR key st.desc).1, row⟩ X cX Z cZ)) w6 M cM st.l := by
        obtain ⟨xs, ho, hr⟩ := o5.ext e6
        exact ⟨xs, ho, fun i a ha => .inl (show KO.rep Ω w a _ from hr i a ha)⟩
      obtain ⟨N, cN, w8, hr8, o8, g8⟩ := o6'.push slR (ty := 42) (K := KP1 Ω w ⟨(keyR key st.desc).1, row⟩ (oc ⟨(keyR key st.desc).1, row⟩ X cX Z cZ)) (a := ⟨(keyR key st.desc).1, row⟩) (cs := oc ⟨(keyR key st.desc).1, row⟩ X cX Z cZ) (e' := 83) (.inr ⟨rfl, rfl, rfl, by simp [oc, Value.oneCell']⟩) (by simp [oc, Value.oneCell']) (by simp only [maxLen]; omega) (by omega)
      have nM6 : New w M := n5.ext e14
      have e8 := g8.ext e16 nM6
      have n8 := g8.new e16 nM6
      have e68 : Fr (ownB M) w6 w8 := g8.fr
      have hgM : ¬ ownB M g := fun hm => by have := n5 g hm; have := bG4.lt; omega
      have hgM1 : ¬ ownB M g1 := fun hm => by have := n5 g1 hm; have := bH4.lt; omega
      have bG8 := (bG4.ext e46).keep e68 hgM
      have bH8 := (bH4.ext e46).keep e68 hgM1
      refine ⟨_, _, _, _, hr8, ?_⟩
      have hst : addS st key row = { st with l := st.l ++ [⟨(keyR key st.desc).1, row⟩] } := by rw [addS, hE, if_pos rfl]
      obtain ⟨o9, s9⟩ := set1R bG8 (i := 2) (show 2 < 5 by decide) (.slice N (st.l ++ [(⟨(keyR key st.desc).1, row⟩ : S1.One)]).length cN)
      refine ⟨o9, fun wa hwa => ?_⟩
      obtain ⟨ba, fa⟩ := s9 wa hwa
      have bGa : Blk wa g (rcl D dc N cN (addS st key row)) := by rw [hst]; exact ba
      have bHa := bH8.keep fa hg1
      have ea : Ext w wa := e8.trans fa (fun _ _ h => h) (fun k hk he => by omega)
      refine ⟨_, _, _, Blk.cell bGa rfl, _, Blk.cell bGa rfl, _, _, _, Blk.cell bGa rfl, _, Blk.cell bGa rfl, _, Blk.cell bGa rfl, Blk.stOK bHa [_, _, _, _, _] 0 (by simp), fun w9 hw9 => ?_⟩
      have b9 : Blk w9 g1 (rcl D dc N cN (addS st key row)) := by rw [hw9]; exact Blk.setAll (o := 0) (rcl D dc N cN (addS st key row)) 0 bHa
      have e9 : Ext w w9 := by rw [hw9]; exact Ext.setAll ea hg1w _ _
      refine ⟨_, _, _, Blk.cell b9 rfl, _, Blk.cell b9 rfl, _, _, _, Blk.cell b9 rfl, _, Blk.cell b9 rfl, _, Blk.cell b9 rfl, ?_⟩
      rw [hE]
      refine ⟨N, cN, rfl, ?_, e9⟩
      have noN : ∀ k, ownB N k → ¬ Ω k := fun k hk ho => by have := n8 k hk; have := hΩ k ho; omega
      have hgN : ∀ k, ownB N k → k ≠ g := fun k hk he => by
        subst he
        rcases g8.sub k hk with hm | hm
        · exact hgM hm
        · have := (bG4.ext e46).lt; omega
      have hgN1 : ∀ k, ownB N k → k ≠ g1 := fun k hk he => by
        subst he
        rcases g8.sub k hk with hm | hm
        · exact hgM1 hm
        · have := (bH4.ext e46).lt; omega
      have f8a : Fr (fun k => k = g ∨ k = g1) w8 w9 := by
        rw [hw9]
        exact fa.trans (Fr.setAll _ 0 _) (fun _ _ h => .inl h) (fun _ _ h => .inr h)
      have f89 : Fr (fun k => ownB M k ∨ k = g ∨ k = g1) w6 w9 := g8.fr.trans f8a (fun _ _ h => .inl h) (fun _ _ h => .inr h)
      have hltX : ∀ k, ownB X k → k < w4.heap.size := fun k hk => Nat.lt_of_lt_of_le (Own.lt oX k hk) e4.size
      have keepB : ∀ k, (ownB M k ∨ k = g ∨ k = g1) → ¬ ownB X k ∧ ¬ ownB Z k := by
        rintro k (hm | rfl | rfl)
        · refine ⟨fun hx => ?_, fun hz => ?_⟩
          · have := n5 k hm; have := hltX k hx; omega
          · have := n6 k hz; have := OwnK.lt o5 k hm; omega
        · refine ⟨fun hx => ?_, fun hz => ?_⟩
          · have := nX k hx; have := bG.lt; omega
          · have := n6 k hz; have := bG4.lt; have := e5.size; omega
        · refine ⟨fun hx => ?_, fun hz => ?_⟩
          · have := nX k hx; have := bH.lt; omega
          · have := n6 k hz; have := bH4.lt; have := e5.size; omega
      have hnew : OneAt Ω w9 ⟨(keyR key st.desc).1, row⟩ X cX Z cZ := by
        refine ⟨oX.le, o6.le, (((oX.ext e4).ext e46).keep f89 (fun k hk hm => (keepB k hm).1 hk)).imm noX, ?_, keyR_le hk, hrl, gr⟩
        obtain ⟨xs, ho, hr⟩ := OwnK.fr o6 f89 (fun k hk hm => (keepB k hm).2 hk) (fun a cs _ h => h)
        exact Own.imm (K := KV) KV_pos ho noZ hr
      have rows9 : Imm KO Ω w9 N (st.l ++ [⟨(keyR key st.desc).1, row⟩]) := by
        obtain ⟨xs, ho, hr⟩ := OwnK.fr o8 f8a (fun k hk he => he.elim (hgN k hk) (hgN1 k hk)) (fun a cs _ h => h)
        refine Own.imm (K := KO) KO_pos ho noN fun i a ha => ?_
        rcases (show PO Ω w _ _ a _ from hr i a ha) with hold | ⟨h1, h2, _⟩
        · exact KO.keep hold (e9.step Ω)
        · subst h1
          exact ⟨X, cX, Z, cZ, h2, hnew⟩
      rw [hst]
      exact ⟨h.desc.ext KBo_pos e9, rows9, by simp; omega, h.n2, by have := h.n3; simp; omega, h.n4⟩
end Go.Proofs.Ytakmlaliglmnmaa
