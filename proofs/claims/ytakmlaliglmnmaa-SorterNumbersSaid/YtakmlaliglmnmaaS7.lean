/- Layer 7 (sorter): Sort, Next. -/
import Derived.Test.YtakmlaliglmnmaaS6
set_option linter.unusedVariables false
set_option linter.unusedSimpArgs false
namespace Go.Proofs.Ytakmlaliglmnmaa
open Go Go.Sx R1 S1 Go.Lib

def sorted' (st : St) : List S1.One := if st.dist then once (inOrder st.l) else inOrder st.l
def sortS (st : St) : St := if st.sorted then st else { st with l := sorted' st, sorted := true }
theorem rows_unfix {Ω0 G : Nat → Prop} {w0 w : World} {A : Option Addr} {c : Nat} {l : List S1.One} (h : OwnK (KF Ω0 w0) w A c l) (st : Step Ω0 w0 (fun k => ownB A k ∨ G k) w) : OwnK (Kd.out G KO) w A c l := by
  obtain ⟨xs, ho, hr⟩ := h
  exact ⟨xs, ho, fun i a ha => KO.keep (show KO.rep Ω0 w0 a _ from hr i a ha) st⟩
theorem kf_fr {Ω0 S : Nat → Prop} {w0 w w' : World} {A : Option Addr} {c : Nat} {l : List S1.One} (h : OwnK (KF Ω0 w0) w A c l) (hf : Fr S w w') (hn : ∀ k, ownB A k → ¬ S k) : OwnK (KF Ω0 w0) w' A c l := h.fr hf hn fun _ _ _ h => h
theorem Sort_spec {R : Nat → Prop} {w : World} {g : Nat} {L : Option Addr} {lc : Nat} {D : Option Addr} {dc : Nat} {st : St} (h : Sor R w g L lc D dc st) (hR : ∀ k, w.heap.size ≤ k → R k) :
    CallsV Try.prog 20 #[.pointer (some ⟨g, 0, none⟩)] w fun r w' => r = .int .i64 (if st.sorted then 70 else 0) ∧ Moved R w w' g L D dc (sortS st) := by
  refine sorter_Sorter_Sort.calls okay ?_
  unfold sorter_Sorter_Sort.W
  refine (may_spec h false).same ⟨_, rfl, ?_⟩
  cases hs : st.sorted with
  | true =>
    refine brn (fun _ => ⟨rfl, ?_⟩) (fun h => by cases h)
    rw [sortS, if_pos hs]
    exact Moved.same h (.refl _ _)
  | false =>
  refine brn (fun h => absurd rfl h) (fun _ => ⟨_, rfl, _, _, _, h.blk.cell rfl, ?_⟩)
  let Ω0 : Nat → Prop := fun k => ownB L k ∨ (¬ R k ∨ k = g)
  have hkf : OwnK (KF Ω0 w) w L lc st.l := h.rows
  have hglt := h.blk.lt
  have hLlt := h.rows.lt
  have at0 := h.n4 hs
  refine (order_spec (.refl _ _) (immKF (Ω := NoB) hkf (fun _ _ h => h)) h.rows.le h.n1).mono ?_
  rintro r w1 ⟨e1, hor⟩
  have hone : ∃ L1 c1, r = .slice L1 (inOrder st.l).length c1 ∧ OwnK (KF Ω0 w) w1 L1 c1 (inOrder st.l) ∧ (∀ k, ownB L1 k → ownB L k ∨ w.heap.size ≤ k) ∧ (2 ≤ (inOrder st.l).length → New w L1) := by
    rcases hor with ⟨h1, rfl⟩ | ⟨L1, c1, rfl, ho, hn⟩
    · rw [inOrder_short h1]
      exact ⟨L, lc, rfl, hkf.ext e1, fun _ h => .inl h, fun h => by omega⟩
    · exact ⟨L1, c1, rfl, ho, fun k hk => .inr (hn k hk), fun _ => hn⟩
  obtain ⟨L1, c1, rfl, ho1, hL1, hn1⟩ := hone
  have hg1 : ¬ ownB L1 g := fun hk => (hL1 g hk).elim h.off (fun hh => by omega)
  have b1 := h.blk.ext e1
  refine ⟨_, _, _, rfl, _, rfl, okOne b1 (show 3 < 6 by decide) _, ?_⟩
  intro w2 hw2
  obtain ⟨b2, f2⟩ := setOne w1 g 3 (.slice L1 (inOrder st.l).length c1) b1
  rw [← hw2] at b2 f2
  have ho2 := kf_fr ho1 f2 (fun k hk e => hg1 (by rw [← e]; exact hk))
  have fr2 : Fr (fun k => k = g) w w2 := e1.trans f2 (fun _ _ h => h.elim) (fun _ _ h => h)
  refine ⟨_, rfl, _, b2.cell rfl, ?_⟩
  have fin : ∀ {w' : World} {l' : List S1.One}, sorted' st = l' → Blk w' g (sc L1 c1 D dc { st with l := l', sorted := true }) → OwnK (KF Ω0 w) w' L1 c1 l' → Fr (fun k => k = g ∨ ownB L1 k) w w' → l'.length ≤ st.l.length → Value.int .i64 0 = .int .i64 0 ∧ Moved R w w' g L D dc (sortS st) := by
    intro w' l' hl hb ho hf hlen
    have hf' : Fr (fun k => k = g ∨ ownB L k) w w' := hf.mono fun k hk hh => hh.imp id (fun hh => (hL1 k hh).elim id (fun hh => by omega))
    refine ⟨rfl, ?_⟩
    rw [sortS, hs, if_neg (by decide), hl]
    refine ⟨L1, c1, ⟨hb, h.rg, fun k hk => (hL1 k hk).elim (h.rL k) (hR k), hg1, h.hd, ?_, ?_, by have := h.n1; dsimp only; omega, h.n2, by dsimp only; omega, fun h => by cases h⟩, hf', hL1⟩
    · refine h.desc.keep KBo_pos (hf'.step (fun k hk hh => .inr hh) fun k hk hh => ?_)
      rcases hh with hh | hh | hh
      · exact .inl hh
      · exact .inr (.inl hh)
      · exact (hL1 k hh).elim (fun hh => .inr (.inr hh)) (fun hh => by omega)
    · refine rows_unfix ho (hf'.step (fun k hk hh => ?_) (fun k hk hh => ?_))
      · rcases hh with hh | hh
        · exact .inr (.inr hh)
        · exact .inl hh
      · rcases hh with hh | hh
        · exact (hL1 k hh).elim .inl (fun hh => by omega)
        · exact .inr hh
  cases hd : st.dist with
  | true =>
    rw [cond_true]
    refine ⟨_, rfl, _, _, _, b2.cell rfl, ?_⟩
    have frO : Fr Ω0 w w2 := fr2.mono fun k _ e => .inr (.inr e)
    refine (compact_spec frO ho2 hn1 (by rw [inOrder_length]; exact h.n1)).mono ?_
    rintro _ w3 ⟨rfl, ho3, f3⟩
    have b3 := b2.keep f3 hg1
    refine ⟨_, _, _, rfl, _, rfl, okOne b3 (show 3 < 6 by decide) _, ?_⟩
    intro w4 hw4
    obtain ⟨b4, f4⟩ := setOne w3 g 3 (.slice L1 (once (inOrder st.l)).length c1) b3
    rw [← hw4] at b4 f4
    have ho4 := kf_fr ho3 f4 (fun k hk e => hg1 (by rw [← e]; exact hk))
    refine ⟨_, rfl, okOne b4 (show 4 < 6 by decide) _, ?_⟩
    intro w5 hw5
    obtain ⟨b5, f5⟩ := setOne w4 g 4 (.bool true) b4
    rw [← hw5] at b5 f5
    have ho5 := kf_fr ho4 f5 (fun k hk e => hg1 (by rw [← e]; exact hk))
    refine fin (l' := once (inOrder st.l)) (by unfold sorted'; rw [hd, if_pos rfl]) b5 ho5 ?_ (by have := once_le (inOrder st.l); rw [inOrder_length] at this; exact this)
    exact ((fr2.trans f3 (S'' := fun k => k = g ∨ ownB L1 k) (fun _ _ h => .inl h) (fun _ _ h => .inr h)).trans f4 (fun _ _ h => h) (fun _ _ h => .inl h)).trans f5 (fun _ _ h => h) (fun _ _ h => .inl h)
  | false =>
    rw [cond_false]
    refine ⟨_, rfl, okOne b2 (show 4 < 6 by decide) _, ?_⟩
    intro w5 hw5
    obtain ⟨b5, f5⟩ := setOne w2 g 4 (.bool true) b2
    rw [← hw5] at b5 f5
    have ho5 := kf_fr ho2 f5 (fun k hk e => hg1 (by rw [← e]; exact hk))
    refine fin (l' := inOrder st.l) (by unfold sorted'; rw [hd, if_neg (by decide)]) b5 ho5 ?_ (Nat.le_of_eq (inOrder_length _))
    exact fr2.trans f5 (fun _ _ h => .inl h) (fun _ _ h => .inl h)

def nextOk (st : St) : Bool := st.sorted && decide (st.at_ < st.l.length)
def nextR (st : St) : List V := if nextOk st then (st.l.getD st.at_ O0).r else []
def nextS (st : St) : St := if nextOk st then { st with at_ := st.at_ + 1 } else st
theorem Next_spec {R : Nat → Prop} {w : World} {g : Nat} {L : Option Addr} {lc : Nat} {D : Option Addr} {dc : Nat} {st : St} (h : Sor R w g L lc D dc st) :
    CallsV Try.prog 22 #[.pointer (some ⟨g, 0, none⟩)] w fun r w' => ∃ A c, r = .tuple #[.slice A (nextR st).length c, .bool (nextOk st)] ∧ OwnK KV w' A c (nextR st) ∧ New w A ∧ Sor R w' g L lc D dc (nextS st) ∧ Fr (fun k => k = g) w w' := by
  refine sorter_Sorter_Next.calls okay ?_
  unfold sorter_Sorter_Next.W
  have ed : Ext w w.drew := Fr.drew NoB w
  have hd := h.ext ed
  refine (may_spec hd true).same ⟨_, rfl, ?_⟩
  have none' : nextOk st = false → ∃ A c, Value.tuple #[.slice none 0 0, .bool false] = .tuple #[.slice A (nextR st).length c, .bool (nextOk st)] ∧ OwnK KV w.drew A c (nextR st) ∧ New w A ∧ Sor R w.drew g L lc D dc (nextS st) ∧ Fr (fun k => k = g) w w.drew := by
    intro hn
    rw [nextR, nextS, hn]
    exact ⟨none, 0, rfl, OwnK.nil _ _, New.none _, hd, ed.fr⟩
  cases hs : st.sorted with
  | false =>
    exact brn (fun _ => none' (by unfold nextOk; rw [hs]; rfl)) (fun h => by cases h)
  | true =>
  refine brn (fun h => absurd rfl h) (fun _ => ⟨_, rfl, fun u => Blk u g (sc L lc D dc st), hd.blk, _, fun u hu => hu.cell rfl, _, rfl, _, _, _, fun u hu => hu.cell rfl, brd (fun hge => none' (by unfold nextOk; rw [hs, decide_eq_false (by omega)]; rfl)) (fun hlt => ?_)⟩)
  have hok : nextOk st = true := by unfold nextOk; rw [hs, decide_eq_true (by omega)]; rfl
  have hat : st.at_ < st.l.length := by omega
  have n1 := h.n1
  refine ⟨_, rfl, _, hd.blk.cell rfl, _, rfl, okOne hd.blk (show 5 < 6 by decide) _, ?_⟩
  intro w1 hw1
  rw [wi _ (by omega) (by omega)] at hw1
  obtain ⟨b1, f1⟩ := setOne w.drew g 5 (.int .i64 ((st.at_ : Int) + 1)) hd.blk
  rw [← hw1] at b1 f1
  have h1 : Sor R w1 g L lc D dc { st with at_ := st.at_ + 1 } := hd.touch f1 b1 rfl rfl hat (fun h => by rw [hs] at h; cases h)
  have fr1 : Fr (fun k => k = g) w w1 := ed.fr.trans f1 (fun _ _ h => h) (fun _ _ h => h)
  have hkf : OwnK (KF (fun k => ownB L k ∨ (¬ R k ∨ k = g)) w1) w1 L lc st.l := h1.rows
  obtain ⟨ad, hA, kA, kc, rA, rc, hx, cx⟩ := itemO (immKF (Ω := NoB) hkf (fun _ _ h => h)) (fun _ => .inr trivial) (i := st.at_) hat
  have ed1 : Ext w1 w1.drew := Fr.drew NoB w1
  have e1 : IntKind.i64.wrap ((st.at_ : Int) + 1 - 1) = (st.at_ : Int) := by rw [wi _ (by omega) (by omega)]; omega
  refine ⟨_, rfl, fun u => Ext w1 u, ed1, _, _, _, fun u hu => (b1.ext hu).cell rfl, _, rfl, _, fun u hu => (b1.ext hu).cell rfl, ad, hA, ?_⟩
  have e2 : IntKind.i64.wrap ((((st.at_ + 1 : Nat)) : Int) - 1) = (st.at_ : Int) := by rw [wi _ (by omega) (by omega)]; omega
  rw [e1]
  simp only [Int.toNat_natCast]
  refine ⟨⟨by omega, by omega⟩, _, _, _, fun u hu => (cx u hu).2, ?_⟩
  refine (CloneV_spec ((hx.ir.sub KV_pos fun _ _ h => h.elim).ext KV_pos ed1) (by have := hx.lr; omega)).mono ?_
  rintro _ w2 ⟨Z, cZ, rfl, oZ, e3, nZ⟩
  have e12 : Ext w1 w2 := ed1.trans' e3
  refine ⟨_, _, _, rfl, e12, Z, cZ, ?_, ?_, ?_, ?_, fr1.ext e12.fr⟩
  · rw [nextR, hok]; rfl
  · rw [nextR, hok]; exact oZ
  · exact fun k hk => Nat.le_trans fr1.size (nZ k hk)
  · rw [nextS, hok]; exact h1.ext e12
end Go.Proofs.Ytakmlaliglmnmaa
