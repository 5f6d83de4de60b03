/- Layer 7: sorted rows, and how two of them compare. -/
import Derived.Test.YtakmlaliglmnmaaS11
import Derived.Test.YtakmlaliglmnmaaS2Pure
import Derived.Test.YtakmlaliglmnmaaRCmp
set_option linter.unusedVariables false
set_option linter.unusedSimpArgs false
namespace Go.Proofs.Ytakmlaliglmnmaa
open Go Go.Sx R1 S1 Go.Lib

abbrev KR : Kd (List V) := Kd.slice KV KV_pos
theorem KR_pos : 0 < KR.size := by decide
theorem slR : SlT Try.prog 26 32 1 24 [.slice none 0 0] := ⟨by kernel_rfl, ⟨Try.t32, by kernel_rfl, by kernel_rfl, by kernel_rfl, .slice none 0 0, by kernel_rfl, by kernel_rfl⟩, rfl, by decide⟩
theorem freshFlags {w w' : World} {g : Nat} {d e : Bool} {t : TypeId} (f : Fresh w g w' [.bool d, .bool e] t) : OwnF w' (some ⟨g, 0, none⟩) 2 [d, e] := by
  obtain ⟨rfl, rfl⟩ := f
  exact own_lit (cs := [.bool d, .bool e]) (sz := 1) (n := 2) rfl (by decide)
theorem Imm.conv {α : Type} {K K' : Kd α} {Ω : Nat → Prop} {w : World} {A : Option Addr} {l : List α} (h : Imm K Ω w A l) (hs : K.size = K'.size) (hr : ∀ a cs, K.rep Ω w a cs → K'.rep Ω w a cs) : Imm K' Ω w A l := by
  intro i a ha
  obtain ⟨ad, hA, hn, cs, hrep, hc⟩ := h i a ha
  exact ⟨ad, hA, hn, cs, hr a cs hrep, by rw [← hs]; exact hc⟩
theorem V0_eq : V00 = V0 := rfl
theorem keyP {ds : List Bool} (hd : ds.length = 2) {p : V × V} (r1 : right p.1 = true) (s1 : p.1.s.size ≤ 100) (r2 : right p.2 = true) (s2 : p.2.s.size ≤ 100) : keyR [p.1, p.2] ds = (key [p.1, p.2] ds, 0) :=
  ((SmallR.cons r1 s1 (SmallR.cons r2 s2 SmallR.nil (by simp)) (by simp)).key (by simp; exact hd)).1
def okP (p : V × V) : Prop := right p.1 = true ∧ p.1.s.size ≤ 100 ∧ right p.2 = true ∧ p.2.s.size ≤ 100
theorem right_num (n : Int) : right (numV n) = true := by
  show (if (1 : Int) = 0 then _ else if (1 : Int) = 1 then decide ((ByteArray.mk #[]).size = 0) else _) = true
  rw [if_neg (by decide), if_pos rfl]; decide +kernel
theorem outL_len (ds : List Bool) (dist : Bool) (l : List (V × V)) : (outL ds dist l).length ≤ l.length := by
  have := sorted'_len ⟨ds, dist, onesFrom ds 0 l, false, 0⟩
  rwa [show (⟨ds, dist, onesFrom ds 0 l, false, 0⟩ : St).l.length = l.length from onesFrom_length ds l 0] at this
theorem outL_mem {ds : List Bool} {dist : Bool} {l : List (V × V)} {x : S1.One} (h : x ∈ outL ds dist l) : x ∈ onesFrom ds 0 l := sorted'_mem ⟨ds, dist, onesFrom ds 0 l, false, 0⟩ x h
theorem outL_three {ds : List Bool} {dist : Bool} {l : List (V × V)} {x : S1.One} (h : x ∈ outL ds dist l) : x.r.length = 3 := by
  obtain ⟨p, _, j, _, _, _, rfl⟩ := onesFrom_mem (outL_mem h)
  rfl

theorem sorted_spec {w : World} {A : Option Addr} {c n : Nat} {l : List (V × V)} (hn : n = l.length) (hA : Imm KP NoB w A l) (hl : l.length ≤ 120) (hok : ∀ p ∈ l, okP p) (hg : ∀ p ∈ l, goodP p) (d0 d1 dist : Bool) :
    CallsV Try.prog 12 #[.slice A n c, .agg #[.bool d0, .bool d1], .bool dist] w fun r w' => ∃ B b, r = .tuple #[.slice B (outL [d0, d1] dist l).length b, .bool true] ∧ (outL [d0, d1] dist l).length ≤ b ∧ Imm KR NoB w' B ((outL [d0, d1] dist l).map S1.One.r) ∧ Ext w w' := by
  subst hn
  refine cardindexlaw07_sorted.calls okay ?_
  unfold cardindexlaw07_sorted.W
  intro g0 w1 f1
  have e1 := f1.ext
  have hb := e1.size
  rw [cut0]
  refine (New_spec (ds := [d0, d1]) (freshFlags f1).imm (by simp) dist).mono ?_
  rintro _ w2 ⟨g, D, dc, rfl, h2, e2⟩
  have hlast : ∀ {u L lc st}, Sor (fun k => w1.heap.size ≤ k) u g L lc D dc st → ∀ k, k < w.heap.size → k = g → False := fun h k hk e => by
    have : w1.heap.size ≤ g := h.rg
    omega
  refine ⟨_, _, rfl, brn (fun h => absurd rfl h) (fun _ => ?_)⟩
  refine ⟨fun x u => ∃ (j : Nat) (L : Option Addr) (lc : Nat), j ≤ l.length ∧ x = (j : Int) ∧ Sor (fun k => w1.heap.size ≤ k) u g L lc D dc ⟨[d0, d1], dist, onesFrom [d0, d1] 0 (l.take j), false, 0⟩ ∧ Ext w u ∧ w1.heap.size ≤ u.heap.size, fun x _ => (l.length - x).toNat, ⟨0, none, 0, by omega, rfl, h2, e1.trans' e2, e2.size⟩, ?_⟩
  rintro _ u ⟨j, L, lc, hj, rfl, hu, eu, hsz⟩
  refine brd (fun hlt => ?_) (fun hge => ?_)
  · have hjl : j < l.length := by omega
    obtain ⟨ad, hA', hi⟩ := itemP (hA.ext KP_pos eu) hjl
    have htk := takeP l j hjl
    obtain ⟨r1, s1, r2, s2⟩ := hok _ (getP_mem hjl)
    obtain ⟨g1, g2⟩ := hg _ (getP_mem hjl)
    generalize l.getD j P0 = p at *
    obtain ⟨a0, ha0, _, c0⟩ := itemV hi (x := 0) (by omega) (by simp)
    obtain ⟨a1, ha1, _, c1⟩ := itemV hi (x := 1) (by omega) (by simp)
    cases ha0; cases ha1
    simp only [Int.toNat_natCast, cut0]
    have ed : Ext u u.drew := Fr.drew NoB u
    refine ⟨ad, hA', ⟨by omega, by omega⟩, ad, hA', ⟨by omega, by omega⟩, ⟨by omega, by omega⟩, fun z => Ext u z, ed, _, fun z hz => (c0 z (.inr (.inl hz))).1, _, fun z hz => (c0 z (.inr (.inl hz))).2.1, _, fun z hz => (c0 z (.inr (.inl hz))).2.2,
      ad, hA', ⟨by omega, by omega⟩, ⟨by omega, by omega⟩, _, fun z hz => (c1 z (.inr (.inl hz))).1, _, fun z hz => (c1 z (.inr (.inl hz))).2.1, _, fun z hz => (c1 z (.inr (.inl hz))).2.2, ?_⟩
    refine (num_spec _ _).mono ?_
    rintro _ u1 ⟨rfl, a1⟩
    have a1 := ed.trans' a1
    refine ⟨_, _, _, rfl, a1, ?_⟩
    intro gr u2 fr
    have a2 := a1.trans' fr.ext
    have orow : OwnK KV u2 _ 3 [p.1, p.2, numV (j : Int)] := freshRow fr [p.1, p.2, numV (j : Int)] (by simp [maxLen]) rfl
    have hsz2 := Nat.le_trans hsz a2.size
    have hu2 := hu.ext a2
    refine (Add_spec (kc := 2 - 0) (key := [p.1, p.2]) (row := [p.1, p.2, numV (j : Int)]) hu2 (fun k hk => Nat.le_trans hsz2 hk) (hi.ext KV_pos a2) (orow.imm KV_pos) (fun x hx => by
      simp only [List.mem_cons, List.not_mem_nil, or_false] at hx
      rcases hx with rfl | rfl
      · exact g1
      · exact g2) (fun x hx => by
      simp only [List.mem_cons, List.not_mem_nil, or_false] at hx
      rcases hx with rfl | rfl | rfl
      · exact g1
      · exact g2
      · exact good_num _ ⟨by omega, by omega⟩) (by simp [maxLen]) (by simp [maxLen])).mono ?_
    rintro _ u3 ⟨rfl, hm⟩
    have hlen : (onesFrom [d0, d1] 0 (l.take j)).length = j := by rw [onesFrom_length, List.length_take]; omega
    have hE : addE ⟨[d0, d1], dist, onesFrom [d0, d1] 0 (l.take j), false, 0⟩ [p.1, p.2] [p.1, p.2, numV (j : Int)] = 0 :=
      addE_small rfl (SmallR.cons r1 s1 (SmallR.cons r2 s2 SmallR.nil (by simp)) (by simp)) rfl (SmallR.cons r1 s1 (SmallR.cons r2 s2 (SmallR.cons (right_num _) (show (ByteArray.mk #[]).size ≤ 100 by decide) SmallR.nil (by simp)) (by simp)) (by simp)) (by show (onesFrom [d0, d1] 0 (l.take j)).length < 65536; omega)
    have hem := hm.ext hu2 (eu.trans' a2) (fun k hk => Nat.le_trans hb hk)
    obtain ⟨L', lc', h1, hf1, _⟩ := hm
    have hS : addS ⟨[d0, d1], dist, onesFrom [d0, d1] 0 (l.take j), false, 0⟩ [p.1, p.2] [p.1, p.2, numV (j : Int)] = ⟨[d0, d1], dist, onesFrom [d0, d1] 0 (l.take (j + 1)), false, 0⟩ := by
      rw [addS, if_pos hE, htk, onesFrom_append, keyP rfl r1 s1 r2 s2]
      have : 0 + (l.take j).length = j := by rw [List.length_take]; omega
      rw [this]; rfl
    rw [hS] at h1
    refine ⟨_, rfl, brn (fun h => absurd hE h) (fun _ => ?_)⟩
    rw [wi _ (by omega) (by omega)]
    exact ⟨⟨j + 1, L', lc', by omega, rfl, h1, hem, Nat.le_trans hsz2 hf1.size⟩, by omega⟩
  · obtain rfl : j = l.length := by omega
    rw [List.take_length] at hu
    refine (Sort_spec hu (fun k hk => Nat.le_trans hsz hk)).mono ?_
    rintro _ u1 ⟨rfl, hm⟩
    have hem := hm.ext hu eu (fun k hk => Nat.le_trans hb hk)
    obtain ⟨L1, lc1, h1, hf1, _⟩ := hm
    have hS : sortS ⟨[d0, d1], dist, onesFrom [d0, d1] 0 l, false, 0⟩ = ⟨[d0, d1], dist, outL [d0, d1] dist l, true, 0⟩ := rfl
    rw [hS] at h1
    have holen := outL_len [d0, d1] dist l
    have hthree : ∀ x ∈ outL [d0, d1] dist l, x.r.length = 3 := fun x hx => outL_three hx
    generalize outL [d0, d1] dist l = O at *
    refine ⟨_, rfl, brn (fun h => absurd rfl h) (fun _ => ?_)⟩
    let G : Nat → Prop := fun k => k = g
    let Rc : Nat → Prop := fun k => w1.heap.size ≤ k ∧ k < u1.heap.size
    have h1 : Sor Rc u1 g L1 lc1 D dc ⟨[d0, d1], dist, O, true, 0⟩ := h1.sub fun k hk hr => ⟨hr, hk⟩
    have hw1u : w.heap.size ≤ u1.heap.size := hem.size
    have hlast : ∀ {u L lc st}, Sor Rc u g L lc D dc st → ∀ k, k < w.heap.size → k = g → False := fun h k hk e => by
      have : w1.heap.size ≤ g := h.rg.1
      omega
    refine ⟨fun x x1 x2 q v => ∃ j : Nat, j ≤ O.length ∧ q = (j : Int) ∧ x1 = ((O.take j).map S1.One.r).length ∧ OwnK (Kd.out G KR) v x x2 ((O.take j).map S1.One.r) ∧ ¬ ownB x g ∧ Sor Rc v g L1 lc1 D dc ⟨[d0, d1], dist, O, true, j⟩ ∧ Ext w v ∧ New u1 x ∧ u1.heap.size ≤ v.heap.size, fun _ _ _ q _ => (200 - q).toNat, ⟨0, by omega, rfl, rfl, OwnK.nil _ _, ownB_none g, h1, hem, New.none _, Nat.le_refl _⟩, ?_⟩
    rintro x _ x2 _ v ⟨j, hj, rfl, rfl, ho, off, hv, ev, nv, szv⟩
    have htl : ((O.take j).map S1.One.r).length = j := by rw [List.length_map, List.length_take]; omega
    refine brd (fun _ => ?_) (fun h => by omega)
    refine (Next_spec hv).mono ?_
    rintro _ v1 ⟨Z, cZ, rfl, oZ, nZ, hv1, fv⟩
    have ev1 : Ext w v1 := ev.trans fv (fun _ _ h => h) (fun k hk e => hlast hv k hk e)
    have hxlt := ho.lt
    have hglt := hv.blk.lt
    have ho1 : OwnK (Kd.out G KR) v1 x x2 ((O.take j).map S1.One.r) := ho.fr fv (fun k hk e => off (by rw [← e]; exact hk)) fun a cs _ hr => by
      exact KR.keep (show KR.rep (fun k => ownB x k ∨ G k) v a cs from hr) (fv.step (fun k _ e => .inr e) fun _ _ h => h)
    refine ⟨_, _, _, _, rfl, ?_⟩
    by_cases hjl : j < O.length
    · have hokN : nextOk ⟨[d0, d1], dist, O, true, j⟩ = true := by unfold nextOk; rw [decide_eq_true (by exact hjl)]; rfl
      have hnr : nextR ⟨[d0, d1], dist, O, true, j⟩ = (O.getD j O0).r := by rw [nextR, hokN]; rfl
      have hns : nextS ⟨[d0, d1], dist, O, true, j⟩ = ⟨[d0, d1], dist, O, true, j + 1⟩ := by rw [nextS, hokN]; rfl
      rw [hns] at hv1
      rw [hnr] at oZ ⊢
      rw [hokN]
      have h3 := hthree _ (getO_mem hjl)
      refine brnb (fun h => by cases h) (fun _ => brn (fun h => absurd (by rw [h3]; rfl) h) (fun _ => ?_))
      intro gn v2 f2
      have hrep : (Kd.out G KR).rep (ownB x) v1 (O.getD j O0).r [.slice Z (O.getD j O0).r.length cZ] := by
        refine ⟨Z, cZ, rfl, oZ.le, ?_⟩
        obtain ⟨xs, hoz, hr⟩ := oZ
        refine Own.imm (K := KV) KV_pos hoz (fun k hk hh => ?_) hr
        have := nZ k hk
        rcases hh with hh | hh
        · have := hxlt k hh; omega
        · have : k = g := hh; omega
      obtain ⟨rfl, rfl⟩ := f2
      obtain ⟨y, y2, v3, hr3, ho3, g3⟩ := ho1.push slR (ty := 26) (K := Kd.out G KR) (e' := 32) hrep (by simp [Value.oneCell']) (by simp only [maxLen]; omega) (by omega)
      have hsn : (O.take (j + 1)).map S1.One.r = (O.take j).map S1.One.r ++ [(O.getD j O0).r] := by rw [takeO _ _ hjl, List.map_append]; rfl
      rw [← hsn] at hr3 ho3
      have htl2 : ((O.take (j + 1)).map S1.One.r).length = j + 1 := by rw [List.length_map, List.length_take]; omega
      refine ⟨_, _, _, _, hr3, ?_⟩
      rw [wi _ (by omega) (by omega)]
      have off3 : ¬ ownB y g := fun hk => (g3.sub g hk).elim off (fun hh => by have := fv.size; omega)
      have hv3 : Sor Rc v3 g L1 lc1 D dc ⟨[d0, d1], dist, O, true, j + 1⟩ := hv1.frame g3.fr fun k _ hk hr => absurd hr.2 (Nat.not_lt.2 (nv k hk))
      have nw : New w x := fun k hk => Nat.le_trans hw1u (nv k hk)
      have nv3 : New u1 y := fun k hk => (g3.sub k hk).elim (nv k) (fun hh => Nat.le_trans (Nat.le_trans szv fv.size) hh)
      exact ⟨⟨j + 1, by omega, rfl, rfl, ho3, off3, hv3, g3.ext ev1 nw, nv3, Nat.le_trans szv (Nat.le_trans fv.size g3.fr.size)⟩, by dsimp only; omega⟩
    · obtain rfl : j = O.length := by omega
      have hokN : nextOk ⟨[d0, d1], dist, O, true, O.length⟩ = false := by unfold nextOk; rw [decide_eq_false (by exact Nat.lt_irrefl _)]; rfl
      have hns : nextS ⟨[d0, d1], dist, O, true, O.length⟩ = ⟨[d0, d1], dist, O, true, O.length⟩ := by rw [nextS, hokN]; rfl
      rw [hns] at hv1
      rw [hokN]
      refine brnb (fun _ => ?_) (fun h => by cases h)
      refine (Len_spec hv1).same ⟨_, rfl, x, x2, ?_, ?_, ?_, ev1⟩
      · simp
      · have := ho1.le; omega
      · rw [List.take_length] at ho1
        refine Imm.conv (ho1.imm (show 0 < (Kd.out G KR).size from KR_pos)) rfl fun a cs hr => ?_
        exact KR.keep (show KR.rep (fun k => NoB k ∨ G k) v1 a cs from hr) ⟨Nat.le_refl _, fun _ _ _ => rfl, fun _ _ h => h.elim⟩
end Go.Proofs.Ytakmlaliglmnmaa
