/- Layer 7: SorterNone, SorterRewinds. -/
import Derived.Test.YtakmlaliglmnmaaS10
import Derived.Test.YtakmlaliglmnmaaSOpen
set_option linter.unusedVariables false
set_option linter.unusedSimpArgs false
namespace Go.Proofs.Ytakmlaliglmnmaa
open Go Go.Sx R1 S1 Go.Lib

/-- nil, or a Sorter that New did not make -/
def zc : List Value := [.bool false, .slice none 0 0, .bool false, .slice none 0 0, .bool false, .int .i64 0]
def UnM (w : World) (p : Option Addr) : Prop := p = none ∨ ∃ g, p = some ⟨g, 0, none⟩ ∧ Blk w g zc
theorem UnM.ext {w w' : World} {p : Option Addr} (h : UnM w p) (e : Ext w w') : UnM w' p := h.imp id fun ⟨g, hp, b⟩ => ⟨g, hp, b.ext e⟩
theorem may_un {w : World} {p : Option Addr} (h : UnM w p) (b : Bool) : CallsV Try.prog 35 #[.pointer p, .bool b] w fun r w' => r = .int .i64 1 ∧ w' = w := by
  rcases h with rfl | ⟨g, rfl, hb⟩
  · exact may_none w b
  · refine sorter_Sorter_may.calls okay ?_
    unfold sorter_Sorter_may.W
    exact br (fun h => by cases h) (fun _ => ⟨_, rfl, _, hb.cell rfl, brnb (fun _ => ⟨rfl, rfl⟩) (fun h => by cases h)⟩)
theorem Next_un {w : World} {p : Option Addr} (h : UnM w p) : CallsV Try.prog 22 #[.pointer p] w fun r w' => r = .tuple #[.slice none 0 0, .bool false] ∧ Ext w w' := by
  refine sorter_Sorter_Next.calls okay ?_
  unfold sorter_Sorter_Next.W
  exact (may_un (h.ext (Fr.drew NoB w)) true).same ⟨_, rfl, brn (fun _ => ⟨rfl, Fr.drew NoB w⟩) (fun h => by cases h)⟩
theorem Add_un {w : World} {p : Option Addr} (h : UnM w p) {KA RA : Option Addr} {kn kc rn rc : Nat} : CallsV Try.prog 18 #[.pointer p, .slice KA kn kc, .slice RA rn rc] w fun r w' => r = .int .i64 1 ∧ w' = w := by
  refine sorter_Sorter_Add.calls okay ?_
  unfold sorter_Sorter_Add.W
  exact (may_un h false).same ⟨_, rfl, brn (fun _ => ⟨rfl, rfl⟩) (fun h => by cases h)⟩
theorem Sort_un {w : World} {p : Option Addr} (h : UnM w p) : CallsV Try.prog 20 #[.pointer p] w fun r w' => r = .int .i64 1 ∧ w' = w := by
  refine sorter_Sorter_Sort.calls okay ?_
  unfold sorter_Sorter_Sort.W
  exact (may_un h false).same ⟨_, rfl, brn (fun _ => ⟨rfl, rfl⟩) (fun h => by cases h)⟩
theorem Rewind_un {w : World} {p : Option Addr} (h : UnM w p) : CallsV Try.prog 24 #[.pointer p] w fun r w' => r = .int .i64 1 ∧ w' = w := by
  refine sorter_Sorter_Rewind.calls okay ?_
  unfold sorter_Sorter_Rewind.W
  exact (may_un h true).same ⟨_, rfl, brn (fun _ => ⟨rfl, rfl⟩) (fun h => by cases h)⟩
theorem Len_un {w : World} {p : Option Addr} (h : UnM w p) : CallsV Try.prog 26 #[.pointer p] w fun r w' => r = .int .i64 0 ∧ w' = w := by
  refine sorter_Sorter_Len.calls okay ?_
  unfold sorter_Sorter_Len.W
  rcases h with rfl | ⟨g, rfl, hb⟩
  · exact br (fun _ => ⟨rfl, rfl⟩) (fun h => by cases h)
  · exact br (fun h => by cases h) (fun _ => ⟨_, rfl, _, _, _, hb.cell rfl, rfl, rfl⟩)

theorem SorterNone_holds {w : World} {KA RA : Option Addr} {kn kc rn rc : Nat} : CallsV Try.prog 5 #[.slice KA kn kc, .slice RA rn rc] w fun v w' => v = .bool true ∧ Ext w w' := by
  refine cardindexlaw07_SorterNone.calls okay ?_
  unfold cardindexlaw07_SorterNone.W
  intro g w1 f1
  intro g2 w2 f2
  have e2 := f1.ext.trans' f2.ext
  refine ⟨fun x u => ∃ j : Nat, j ≤ 2 ∧ x = (j : Int) ∧ Ext w2 u, fun x _ => (2 - x).toNat, ⟨0, by omega, rfl, .refl _ _⟩, ?_⟩
  rintro _ u ⟨j, hj, rfl, e⟩
  refine brd (fun hlt => ?_) (fun hge => ?_)
  · have hp : ∃ p, UnM u p ∧ u.cell? ((⟨g2, 0, none⟩ : Addr).add (j * 1)) = some (.pointer p) := by
      have b := f2.blk.ext e
      have : j = 0 ∨ j = 1 := by omega
      rcases this with rfl | rfl
      · exact ⟨none, .inl rfl, b.cell rfl⟩
      · exact ⟨some ⟨g, 0, none⟩, .inr ⟨g, rfl, (f1.blk.ext f2.ext).ext e⟩, b.cell rfl⟩
    obtain ⟨p, hun, hc⟩ := hp
    refine ⟨_, rfl, ⟨by omega, by omega⟩, _, by rw [Int.toNat_natCast]; exact hc, ?_⟩
    refine (Next_un hun).mono ?_
    rintro _ u1 ⟨rfl, e1⟩
    have h1 := hun.ext e1
    refine ⟨_, _, _, _, rfl, (Add_un h1).same ⟨_, rfl, brn (fun h => absurd rfl h) (fun _ => (Sort_un h1).same ⟨_, rfl, brn (fun h => absurd rfl h) (fun _ => (Rewind_un h1).same ⟨_, rfl, brn (fun h => absurd rfl h) (fun _ => brn (fun h => absurd rfl h) (fun _ => ?_))⟩)⟩)⟩⟩
    refine br (fun h => by cases h) (fun _ => (Len_un h1).same ⟨_, rfl, brn (fun h => absurd rfl h) (fun _ => ?_)⟩)
    rw [wi _ (by omega) (by omega)]
    exact ⟨⟨j + 1, by omega, rfl, e.trans' e1⟩, by dsimp only; omega⟩
  · refine (awake_spec u).mono ?_
    rintro v u1 ⟨rfl, e1⟩
    exact ⟨_, rfl, rfl, (e2.trans' e).trans' e1⟩

/-! ## SorterRewinds -/
def rowsP (l : List (V × V)) : List S1.One := l.map fun p => ⟨[], [p.1, p.2]⟩
theorem rowsP_order (l : List (V × V)) : inOrder (rowsP l) = rowsP l := by
  refine (inOrder_unique ?_ fun k => rfl).symm
  have : ∀ x ∈ rowsP l, x.k = [] := by
    intro x hx
    obtain ⟨p, _, rfl⟩ := List.mem_map.1 hx
    rfl
  refine List.pairwise_of_forall_mem_list fun a ha b hb => ?_
  unfold le
  rw [this a ha, this b hb, cmp_self]; decide
theorem takeP (l : List (V × V)) (j : Nat) (h : j < l.length) : l.take (j + 1) = l.take j ++ [l.getD j P0] := by rw [List.take_add_one]; simp [List.getD, h]
theorem getP_mem {l : List (V × V)} {i : Nat} (h : i < l.length) : l.getD i P0 ∈ l := by simp [List.getD, h]
theorem SorterRewinds_holds {w : World} {A : Option Addr} {c : Nat} {l : List (V × V)} (hA : Imm KP NoB w A l) (hl : l.length ≤ maxLen) (hg : ∀ p ∈ l, goodP p) (ahead : Nat) (ha : ahead < 256) :
    CallsV Try.prog 6 #[.slice A l.length c, .int .u8 (ahead : Int)] w fun v w' => v = .bool true ∧ Ext w w' := by
  refine cardindexlaw07_SorterRewinds.calls okay ?_
  unfold cardindexlaw07_SorterRewinds.W
  have aw : ∀ w5, Ext w w5 → CallsV Try.prog 11 #[] w5 fun v w' => ∃ x, v = .bool x ∧ ((fun v w' => v = .bool true ∧ Ext w w' : Value → World → Prop) (.bool x) w') := by
    intro w5 e5
    refine (awake_spec w5).mono ?_
    rintro v w6 ⟨rfl, e6⟩
    exact ⟨_, rfl, rfl, e5.trans' e6⟩
  refine (rightP_spec hA hl).mono ?_
  rintro _ w1 ⟨rfl, e1⟩
  refine ⟨_, rfl, brnb (fun _ => aw _ e1) (fun hr => ?_)⟩
  obtain ⟨h120, hall⟩ := rightP_true hr
  refine (New_spec (A := none) (c := 0) (ds := []) (immNil _ _) (by simp) false).mono ?_
  rintro _ w2 ⟨g, D, dc, rfl, h2, e2⟩
  have e12 := e1.trans' e2
  have hb := e1.size
  have hlast : ∀ {u L lc st}, Sor (fun k => w1.heap.size ≤ k) u g L lc D dc st → ∀ k, k < w.heap.size → k = g → False := fun h k hk e => by
    have : w1.heap.size ≤ g := h.rg
    omega
  refine ⟨_, _, rfl, brn (fun h => absurd rfl h) (fun _ => ?_)⟩
  refine ⟨fun x u => ∃ (j : Nat) (L : Option Addr) (lc : Nat), j ≤ l.length ∧ x = (j : Int) ∧ Sor (fun k => w1.heap.size ≤ k) u g L lc D dc ⟨[], false, rowsP (l.take j), false, 0⟩ ∧ Ext w u ∧ w1.heap.size ≤ u.heap.size, fun x _ => (l.length - x).toNat, ⟨0, none, 0, by omega, rfl, h2, e12, e2.size⟩, ?_⟩
  rintro _ u ⟨j, L, lc, hj, rfl, hu, eu, hsz⟩
  refine brd (fun hlt => ?_) (fun hge => ?_)
  · have hjl : j < l.length := by omega
    obtain ⟨ad, hA', hi⟩ := itemP (hA.ext KP_pos eu) hjl
    have htk := takeP l j hjl
    obtain ⟨r1, s1, r2, s2⟩ := hall _ (getP_mem hjl)
    obtain ⟨g1, g2⟩ := hg _ (getP_mem hjl)
    generalize l.getD j P0 = p at *
    simp only [Int.toNat_natCast, cut0]
    refine ⟨ad, hA', ⟨by omega, by omega⟩, ?_⟩
    refine (Add_spec (KA := none) (kc := 0) (key := []) (rc := 2 - 0) (row := [p.1, p.2]) hu (fun k hk => Nat.le_trans hsz hk) (immNil _ _) hi (fun _ h => by cases h) (fun x hx => by
      simp only [List.mem_cons, List.not_mem_nil, or_false] at hx
      rcases hx with rfl | rfl
      · exact g1
      · exact g2) (by simp [maxLen]) (by simp [maxLen])).mono ?_
    rintro _ u1 ⟨rfl, hm⟩
    have hE : addE ⟨[], false, rowsP (l.take j), false, 0⟩ [] [p.1, p.2] = 0 := addE_small rfl SmallR.nil rfl (SmallR.cons r1 s1 (SmallR.cons r2 s2 SmallR.nil (by simp)) (by simp)) (by simp [rowsP]; omega)
    have hem := hm.ext hu eu (fun k hk => Nat.le_trans hb hk)
    obtain ⟨L', lc', h1, hf1, _⟩ := hm
    have hS : addS ⟨[], false, rowsP (l.take j), false, 0⟩ [] [p.1, p.2] = ⟨[], false, rowsP (l.take (j + 1)), false, 0⟩ := by
      rw [addS, if_pos hE, htk, rowsP, rowsP, List.map_append]; rfl
    rw [hS] at h1
    refine ⟨_, rfl, brn (fun h => absurd hE h) (fun _ => ?_)⟩
    rw [wi _ (by omega) (by omega)]
    exact ⟨⟨j + 1, L', lc', by omega, rfl, h1, hem, Nat.le_trans hsz hf1.size⟩, by omega⟩
  · obtain rfl : j = l.length := by omega
    rw [List.take_length] at hu
    refine (Sort_spec hu (fun k hk => Nat.le_trans hsz hk)).mono ?_
    rintro _ u1 ⟨rfl, hm⟩
    have hem := hm.ext hu eu (fun k hk => Nat.le_trans hb hk)
    obtain ⟨L1, lc1, h1, hf1, _⟩ := hm
    have hS : sortS ⟨[], false, rowsP l, false, 0⟩ = ⟨[], false, rowsP l, true, 0⟩ := by
      show (⟨[], false, inOrder (rowsP l), true, 0⟩ : St) = _
      rw [rowsP_order]
    rw [hS] at h1
    have sz1 := Nat.le_trans hsz hf1.size
    have hlen : (rowsP l).length = l.length := by simp [rowsP]
    refine ⟨_, rfl, ?_⟩
    refine ⟨fun x v => ∃ (i a : Nat), i ≤ ahead ∧ x = (i : Int) ∧ Sor (fun k => w1.heap.size ≤ k) v g L1 lc1 D dc ⟨[], false, rowsP l, true, a⟩ ∧ Ext w v ∧ w1.heap.size ≤ v.heap.size, fun x _ => (ahead - x).toNat, ⟨0, 0, by omega, rfl, h1, hem, sz1⟩, ?_⟩
    rintro _ v ⟨i, a, hi, rfl, hv, ev, szv⟩
    have wa : IntKind.i64.wrap (ahead : Int) = (ahead : Int) := wi _ (by omega) (by omega)
    rw [wa]
    have moved : ∀ {v' : World}, Fr (fun k => k = g) v v' → Ext w v → Ext w v' := fun f e => e.trans f (fun _ _ h => h) (fun k hk e => hlast hv k hk e)
    refine brd (fun hia => ?_) (fun hia => ?_)
    · refine (Next_spec hv).mono ?_
      rintro _ v1 ⟨B, cB, rfl, _, _, hv1, f1⟩
      refine ⟨_, _, _, _, rfl, ?_⟩
      rw [wi _ (by omega) (by omega)]
      have hn : ∃ a', nextS ⟨[], false, rowsP l, true, a⟩ = ⟨[], false, rowsP l, true, a'⟩ := by unfold nextS; split <;> exact ⟨_, rfl⟩
      obtain ⟨a', hn⟩ := hn
      rw [hn] at hv1
      exact ⟨⟨i + 1, a', by omega, rfl, hv1, moved f1 ev, Nat.le_trans szv f1.size⟩, by dsimp only; omega⟩
    · refine (Rewind_spec hv).mono ?_
      rintro _ v1 ⟨rfl, hv1, f1⟩
      have ev1 := moved f1 ev
      have sz1 := Nat.le_trans szv f1.size
      refine ⟨_, rfl, brn (fun h => absurd rfl h) (fun _ => ?_)⟩
      have hv1 : Sor (fun k => w1.heap.size ≤ k) v1 g L1 lc1 D dc ⟨[], false, rowsP l, true, 0⟩ := hv1
      refine ⟨fun x u => ∃ i : Nat, i ≤ l.length ∧ x = (i : Int) ∧ Sor (fun k => w1.heap.size ≤ k) u g L1 lc1 D dc ⟨[], false, rowsP l, true, i⟩ ∧ Ext w u, fun x _ => (l.length - x).toNat, ⟨0, by omega, rfl, hv1, ev1⟩, ?_⟩
      rintro _ u2 ⟨i, hi, rfl, hu2, eu2⟩
      refine (show _ from ?_)
      by_cases hil : i < l.length
      · rw [decide_eq_true (by omega), cond_true]
        refine (Next_spec hu2).mono ?_
        rintro _ u3 ⟨B, cB, rfl, oB, nB, hu3, f3⟩
        have hok : nextOk ⟨[], false, rowsP l, true, i⟩ = true := by unfold nextOk; rw [decide_eq_true (by rw [hlen]; exact hil)]; rfl
        have hnr : nextR ⟨[], false, rowsP l, true, i⟩ = [(l.getD i P0).1, (l.getD i P0).2] := by
          rw [nextR, hok, if_pos rfl]
          show ((rowsP l).getD i O0).r = _
          simp [rowsP, List.getD, hil]
        have hns : nextS ⟨[], false, rowsP l, true, i⟩ = ⟨[], false, rowsP l, true, i + 1⟩ := by rw [nextS, hok]; rfl
        rw [hns] at hu3
        rw [hnr] at oB
        have eu3 : Ext w u3 := eu2.trans f3 (fun _ _ h => h) (fun k hk e => hlast hu2 k hk e)
        rw [hok, hnr]
        refine ⟨_, _, _, _, rfl, brnb (fun h => by cases h) (fun _ => ?_)⟩
        obtain ⟨ad, hA', hi'⟩ := itemP (hA.ext KP_pos eu3) hil
        simp only [Int.toNat_natCast, cut0]
        refine ⟨ad, hA', ⟨by omega, by omega⟩, ?_⟩
        refine (SameValues_spec rfl rfl (oB.imm KV_pos) hi' (by simp)).mono ?_
        rintro _ u4 ⟨⟨x, rfl, hx⟩, e4⟩
        have hxt := hx.2 rfl
        subst hxt
        refine ⟨_, rfl, brnb (fun h => by cases h) (fun _ => ?_)⟩
        rw [wi _ (by omega) (by omega)]
        exact ⟨⟨i + 1, by omega, rfl, hu3.ext e4, eu3.trans' e4⟩, by omega⟩
      · obtain rfl : i = l.length := by omega
        rw [decide_eq_false (by omega), cond_false]
        refine ⟨fun x u => ∃ q : Nat, q ≤ 3 ∧ x = (q : Int) ∧ Sor (fun k => w1.heap.size ≤ k) u g L1 lc1 D dc ⟨[], false, rowsP l, true, l.length⟩ ∧ Ext w u, fun x _ => (3 - x).toNat, ⟨0, by omega, rfl, hu2, eu2⟩, ?_⟩
        rintro _ u3 ⟨q, hq, rfl, hu3, eu3⟩
        refine brd (fun hq3 => ?_) (fun hq3 => ?_)
        · refine (Next_spec hu3).mono ?_
          rintro _ u4 ⟨B, cB, rfl, oB, nB, hu4, f4⟩
          have hok : nextOk ⟨[], false, rowsP l, true, l.length⟩ = false := by unfold nextOk; rw [decide_eq_false (by rw [hlen]; exact Nat.lt_irrefl _)]; rfl
          have hnr : nextR ⟨[], false, rowsP l, true, l.length⟩ = [] := by rw [nextR, hok]; rfl
          have hns : nextS ⟨[], false, rowsP l, true, l.length⟩ = ⟨[], false, rowsP l, true, l.length⟩ := by rw [nextS, hok]; rfl
          rw [hns] at hu4
          rw [hok, hnr]
          refine ⟨_, _, _, _, rfl, br (fun h => by cases h) (fun _ => brn (fun h => absurd rfl h) (fun _ => ?_))⟩
          rw [wi _ (by omega) (by omega)]
          exact ⟨⟨q + 1, by omega, rfl, hu4, eu3.trans f4 (fun _ _ h => h) (fun k hk e => hlast hu3 k hk e)⟩, by dsimp only; omega⟩
        · refine (Len_spec hu3).same ⟨_, rfl, brd (fun _ => aw _ eu3) (fun h => absurd (by rw [hlen]) h)⟩
end Go.Proofs.Ytakmlaliglmnmaa
