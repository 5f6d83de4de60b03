/- Layer 7: SorterOrder. -/
import Derived.Test.YtakmlaliglmnmaaS14
import Derived.Test.YtakmlaliglmnmaaS3Pure
set_option linter.unusedVariables false
set_option linter.unusedSimpArgs false
namespace Go.Proofs.Ytakmlaliglmnmaa
open Go Go.Sx R1 S1 Go.Lib

theorem one_at {ds : List Bool} {l : List (V × V)} {x : S1.One} (h : x ∈ onesFrom ds 0 l) : ∃ n : Nat, n < l.length ∧ x = oneP ds (l.getD n P0) n := by
  obtain ⟨p, hp, j, _, hj, hg, rfl⟩ := onesFrom_mem h
  refine ⟨j, by omega, ?_⟩
  rw [Nat.sub_zero] at hg
  rw [List.getD_eq_getElem?_getD, hg]
  rfl
theorem lex_at {O : List S1.One} (h : O.Pairwise Lex) {i j : Nat} (hij : i < j) (hj : j < O.length) : Lex (O.getD i O0) (O.getD j O0) := by
  have := List.pairwise_iff_getElem.1 h i j (by omega) hj hij
  simpa [List.getD, hj, show i < O.length by omega] using this
set_option maxRecDepth 100000 in
theorem SorterOrder_holds {w : World} {A : Option Addr} {c : Nat} {l : List (V × V)} (hA : Imm KP NoB w A l) (hl : l.length ≤ maxLen) (hg : ∀ p ∈ l, goodP p) (d0 d1 : Bool) :
    CallsV Try.prog 7 #[.slice A l.length c, .agg #[.bool d0, .bool d1]] w fun v w' => v = .bool true ∧ Ext w w' := by
  refine cardindexlaw07_SorterOrder.calls okay ?_
  unfold cardindexlaw07_SorterOrder.W
  have aw : ∀ w5, Ext w w5 → CallsV Try.prog 11 #[] w5 fun v w' => ∃ x, v = .bool x ∧ ((fun v w' => v = .bool true ∧ Ext w w' : Value → World → Prop) (.bool x) w') := by
    intro w5 e5
    refine (awake_spec w5).mono ?_
    rintro v w6 ⟨rfl, e6⟩
    exact ⟨_, rfl, rfl, e5.trans' e6⟩
  intro g w1 f1
  have e1 := f1.ext
  have b1 := f1.blk
  refine (rightP_spec (hA.ext KP_pos e1) hl).mono ?_
  rintro _ w2 ⟨rfl, e2⟩
  have e12 := e1.trans' e2
  refine ⟨_, rfl, brnb (fun _ => aw _ e12) (fun hr => ?_)⟩
  obtain ⟨h120, hok⟩ := rightP_true hr
  have b2 := b1.ext e2
  refine ⟨_, b2.cell rfl, _, b2.cell rfl, ?_⟩
  refine (sorted_spec rfl (hA.ext KP_pos e12) h120 hok hg d0 d1 false).mono ?_
  rintro _ w4 ⟨X, cX, rfl, hcX, iX, e3⟩
  have b4 := b2.ext e3
  have e14 := e12.trans' e3
  have hO : outL [d0, d1] false l = inOrder (onesFrom [d0, d1] 0 l) := rfl
  have hlen : (outL [d0, d1] false l).length = l.length := by rw [hO, inOrder_length, onesFrom_length]
  have hlex : (outL [d0, d1] false l).Pairwise Lex := order_lex [d0, d1] l
  have hisx : ∀ x ∈ outL [d0, d1] false l, IsOne [d0, d1] x := fun x hx => isOne_of hok hg (outL_mem hx)
  have hat : ∀ x ∈ outL [d0, d1] false l, ∃ n : Nat, n < l.length ∧ x = oneP [d0, d1] (l.getD n P0) n := fun x hx => one_at (outL_mem hx)
  generalize outL [d0, d1] false l = O at *
  refine ⟨_, _, _, _, rfl, brnb (fun h => by cases h) (fun _ => brn (fun h => absurd (by rw [hlen]) h) (fun _ => ?_))⟩
  obtain ⟨w5, hr5, ho5, e5⟩ := make_own slBo rfl w4 l.length (by simp only [maxLen]; omega) (by omega) .i64 .i64
  refine ⟨_, _, _, _, hr5, ?_⟩
  have hlm : (O.map S1.One.r).length = O.length := by simp
  have hs0 : OwnF w5 (some ⟨w4.heap.size, 0, none⟩) l.length (List.replicate l.length false) := by unfold OwnF; simpa using ho5
  refine ⟨fun x u => ∃ (i : Nat) (s : List Bool), i ≤ O.length ∧ x = (i : Int) ∧ s.length = l.length ∧ OwnF u (some ⟨w4.heap.size, 0, none⟩) l.length s ∧ (∀ n, s.getD n false = true → ∃ q, q < i ∧ idx (O.getD q O0) = (n : Int)) ∧ Ext w4 u, fun x _ => (O.length - x).toNat, ⟨0, List.replicate l.length false, by omega, rfl, by simp, hs0, ?_, e5⟩, ?_⟩
  · intro n hn
    rw [List.getD_eq_getElem?_getD, List.getElem?_replicate] at hn
    split at hn <;> cases hn
  rintro _ u ⟨i, s, hi, rfl, hsl, hs, hseen, eu⟩
  refine brd (fun hlt => ?_) (fun hge => aw _ (e14.trans' eu))
  have hil : i < O.length := by omega
  have is1 := hisx _ (getO_mem hil)
  obtain ⟨n, hnl, hx⟩ := hat _ (getO_mem hil)
  obtain ⟨ad, hX, P1, c1, hc1, iP, cP⟩ := iX.item (x := (i : Int)) (by omega) (by omega)
  rw [Int.toNat_natCast, mapR_get hil] at hc1 iP cP
  have hidx : idx (O.getD i O0) = (n : Int) := by rw [hx]; rfl
  have hrl : (O.getD i O0).r.length = 3 := is1.len
  have hnot : s.getD n false = false := by
    cases hsn : s.getD n false with
    | false => rfl
    | true =>
      obtain ⟨q, hq, hqn⟩ := hseen n hsn
      have hlx := lex_at hlex hq hil
      rcases hlx with h | ⟨_, h⟩
      · obtain ⟨m, hm, hxq⟩ := hat _ (getO_mem (show q < O.length by omega))
        have hqm : idx (O.getD q O0) = (m : Int) := by rw [hxq]; rfl
        have : m = n := by omega
        rw [hxq, hx, this, cmp_self] at h
        omega
      · omega
  have hrow : (O.getD i O0).r = [(l.getD n P0).1, (l.getD n P0).2, numW (n : Int)] := by rw [hx]; rfl
  rw [hrow] at iP cP
  have ed : Ext u u.drew := Fr.drew NoB u
  obtain ⟨ra, hra, _, rc⟩ := itemV iP (x := 0) (by omega) (by simp)
  have r0 : ∀ z, Ext w4 z → z.cell? ((ra.add (Int.toNat 0 * 3)).add 0) = some (.int .u8 (l.getD n P0).1.k) ∧ z.cell? ((ra.add (Int.toNat 0 * 3)).add (0 + 1)) = some (.int .i64 (l.getD n P0).1.n) ∧ z.cell? ((ra.add (Int.toNat 0 * 3)).add (0 + 1 + 1)) = some (.string (l.getD n P0).1.s) := fun z hz => rc z (.inr (.inl hz))
  obtain ⟨rb, hrb, _, rc1⟩ := itemV iP (x := 1) (by omega) (by simp)
  have r1 : ∀ z, Ext w4 z → z.cell? ((rb.add (Int.toNat 1 * 3)).add 0) = some (.int .u8 (l.getD n P0).2.k) ∧ z.cell? ((rb.add (Int.toNat 1 * 3)).add (0 + 1)) = some (.int .i64 (l.getD n P0).2.n) ∧ z.cell? ((rb.add (Int.toNat 1 * 3)).add (0 + 1 + 1)) = some (.string (l.getD n P0).2.s) := fun z hz => rc1 z (.inr (.inl hz))
  obtain ⟨rd, hrd, _, rc2⟩ := itemV iP (x := 2) (by omega) (by simp)
  have r2 : ∀ z, Ext w4 z → z.cell? ((rd.add (Int.toNat 2 * 3)).add 1) = some (.int .i64 (n : Int)) := fun z hz => (rc2 z (.inr (.inl hz))).2.1
  obtain ⟨kd, hK, iK⟩ := itemP hA hnl
  obtain ⟨ka, hka, _, kc⟩ := itemV iK (x := 0) (by omega) (by simp)
  cases hka
  have k0 : ∀ z, Ext w z → z.cell? (((kd.add (n * 6)).add (Int.toNat 0 * 3)).add 0) = some (.int .u8 (l.getD n P0).1.k) ∧ z.cell? (((kd.add (n * 6)).add (Int.toNat 0 * 3)).add (0 + 1)) = some (.int .i64 (l.getD n P0).1.n) ∧ z.cell? (((kd.add (n * 6)).add (Int.toNat 0 * 3)).add (0 + 1 + 1)) = some (.string (l.getD n P0).1.s) := fun z hz => kc z (.inr (.inl hz))
  obtain ⟨kb, hkb, _, kc1⟩ := itemV iK (x := 1) (by omega) (by simp)
  cases hkb
  have k1 : ∀ z, Ext w z → z.cell? (((kd.add (n * 6)).add (Int.toNat 1 * 3)).add 0) = some (.int .u8 (l.getD n P0).2.k) ∧ z.cell? (((kd.add (n * 6)).add (Int.toNat 1 * 3)).add (0 + 1)) = some (.int .i64 (l.getD n P0).2.n) ∧ z.cell? (((kd.add (n * 6)).add (Int.toNat 1 * 3)).add (0 + 1 + 1)) = some (.string (l.getD n P0).2.s) := fun z hz => kc1 z (.inr (.inl hz))
  have ex4 : ∀ z, Ext u z → Ext w4 z := fun z hz => eu.trans' hz
  have exw : ∀ z, Ext u z → Ext w z := fun z hz => e14.trans' (ex4 z hz)
  have hsd := hs.ext ed
  have hscell : ∀ z, Ext u z → z.cell? ((⟨w4.heap.size, 0, none⟩ : Addr).add (n * 1)) = some (.bool false) := fun z hz => by
    obtain ⟨sd, hS, q⟩ := itemF (hs.ext hz).imm (x := (n : Int)) (by omega) (by omega)
    cases hS
    rw [Int.toNat_natCast, hnot] at q
    exact q
  simp only [Int.toNat_natCast]
  have hr3 : ([(l.getD n P0).1, (l.getD n P0).2, numW (n : Int)] : List V).length = 3 := rfl
  refine ⟨ad, hX, ⟨by omega, by omega⟩, _, _, _, cP u eu, rd, hrd, ⟨by omega, by rw [hr3]; decide⟩, _, r2 u eu, brd (fun h => by omega) (fun _ => brd (fun h => by omega) (fun _ => ?_))⟩
  simp only [Int.toNat_natCast]
  refine ⟨_, rfl, ⟨by omega, by omega⟩, fun z => Ext u z, ed, _, fun z hz => hscell z hz, ?_⟩
  rw [cond_false]
  refine ⟨ad, hX, ⟨by omega, by omega⟩, _, _, _, fun z hz => cP z (ex4 z hz), ra, hra, ⟨by omega, by rw [hr3]; decide⟩, _, fun z hz => (r0 z (ex4 z hz)).1, _, fun z hz => (r0 z (ex4 z hz)).2.1, _, fun z hz => (r0 z (ex4 z hz)).2.2,
    kd, hK, ⟨by omega, by omega⟩, ⟨by omega, by omega⟩, _, fun z hz => (k0 z (exw z hz)).1, _, fun z hz => (k0 z (exw z hz)).2.1, _, fun z hz => (k0 z (exw z hz)).2.2, cfalse (by kernel_rfl) ?_⟩
  refine brnb (fun h => absurd (((eqV (l.getD n P0).1 (l.getD n P0).1).2 rfl).symm.trans h) (by decide)) (fun _ => ?_)
  refine ⟨ad, hX, ⟨by omega, by omega⟩, _, _, _, fun z hz => cP z (ex4 z hz), rb, hrb, ⟨by omega, by rw [hr3]; decide⟩, _, fun z hz => (r1 z (ex4 z hz)).1, _, fun z hz => (r1 z (ex4 z hz)).2.1, _, fun z hz => (r1 z (ex4 z hz)).2.2,
    kd, hK, ⟨by omega, by omega⟩, ⟨by omega, by omega⟩, _, fun z hz => (k1 z (exw z hz)).1, _, fun z hz => (k1 z (exw z hz)).2.1, _, fun z hz => (k1 z (exw z hz)).2.2, cfalse (by kernel_rfl) ?_⟩
  refine brnb (fun h => absurd (((eqV (l.getD n P0).2 (l.getD n P0).2).2 rfl).symm.trans h) (by decide)) (fun _ => ?_)
  obtain ⟨sd, hS, q1, q2, q3⟩ := hsd.set (x := (n : Int)) (by omega) (by omega) true
  cases hS
  rw [Int.toNat_natCast] at q1 q2 q3
  refine ⟨_, rfl, ⟨by omega, by omega⟩, q1, ?_⟩
  intro u2 hu2
  have hu2' : u2 = u.drew.setCell (((⟨w4.heap.size, 0, none⟩ : Addr).add (n * 1)).add 0) (.bool true) := hu2
  rw [← hu2'] at q2 q3
  have eu2 : Ext w4 u2 := (eu.trans' ed).trans q3 (fun _ _ h => h) (fun k hk ho => by rw [ownB_some] at ho; omega)
  have ew2 : Ext w u2 := e14.trans' eu2
  have hsl2 : (s.set n true).length = l.length := by rw [List.length_set]; exact hsl
  have hseen2 : ∀ m, (s.set n true).getD m false = true → ∃ q, q < i + 1 ∧ idx (O.getD q O0) = (m : Int) := by
    intro m hm
    by_cases hmn : n = m
    · subst hmn; exact ⟨i, by omega, hidx⟩
    · rw [List.getD_eq_getElem?_getD, List.getElem?_set_ne hmn, ← List.getD_eq_getElem?_getD] at hm
      obtain ⟨q, hq, hq2⟩ := hseen m hm
      exact ⟨q, by omega, hq2⟩
  have wi1 : IntKind.i64.wrap ((i : Int) + 1) = ((i + 1 : Nat) : Int) := by rw [wi _ (by omega) (by omega)]; rfl
  rw [wi1]
  have fin : ∀ z, Ext u2 z → (∃ (i' : Nat) (s : List Bool), i' ≤ O.length ∧ ((i + 1 : Nat) : Int) = (i' : Int) ∧ s.length = l.length ∧ OwnF z (some ⟨w4.heap.size, 0, none⟩) l.length s ∧ (∀ n, s.getD n false = true → ∃ q, q < i' ∧ idx (O.getD q O0) = (n : Int)) ∧ Ext w4 z) ∧ ((O.length : Int) - ((i + 1 : Nat) : Int)).toNat < ((O.length : Int) - (i : Int)).toNat := by
    intro z hz
    exact ⟨⟨i + 1, s.set n true, by omega, rfl, hsl2, q2.ext hz, hseen2, eu2.trans' hz⟩, by omega⟩
  refine brd (fun hpos => ?_) (fun h0 => fin u2 (.refl _ _))
  have hi0 : 0 < i := by omega
  have wi0 : IntKind.i64.wrap ((i : Int) - 1) = ((i - 1 : Nat) : Int) := by rw [wi _ (by omega) (by omega)]; omega
  rw [wi0]
  have hip : i - 1 < O.length := by omega
  have is0 := hisx _ (getO_mem hip)
  obtain ⟨m, hml, hx0⟩ := hat _ (getO_mem hip)
  obtain ⟨pd, hP, P0', c0, hc0, iP0, cP0⟩ := iX.item (x := ((i - 1 : Nat) : Int)) (by omega) (by omega)
  rw [Int.toNat_natCast, mapR_get hip] at hc0 iP0 cP0
  have hrow0 : (O.getD (i - 1) O0).r = [(l.getD m P0).1, (l.getD m P0).2, numW (m : Int)] := by rw [hx0]; rfl
  have hcmp := is0.cmp rfl is1
  have hlx := lex_at hlex (show i - 1 < i by omega) hil
  have hidx0 : idx (O.getD (i - 1) O0) = (m : Int) := by rw [hx0]; rfl
  rw [hrow0] at iP0 cP0
  rw [hrow, hrow0] at hcmp
  have hr30 : ([(l.getD m P0).1, (l.getD m P0).2, numW (m : Int)] : List V).length = 3 := rfl
  simp only [Int.toNat_natCast]
  have ed2 : Ext u2 u2.drew := Fr.drew NoB u2
  have b2' : ∀ z, Ext u2 z → Blk z g [.bool d0, .bool d1] := fun z hz => b4.ext (eu2.trans' hz)
  refine ⟨pd, hP, ⟨by omega, by omega⟩, fun z => Ext u2 z, ed2, _, _, _, fun z hz => cP0 z (eu2.trans' hz), ad, hX, ⟨by omega, by omega⟩, _, _, _, fun z hz => cP z (eu2.trans' hz), _, fun z hz => (b2' z hz).cell rfl, _, fun z hz => (b2' z hz).cell rfl, ?_⟩
  have ed4 : Ext w4 u2.drew := eu2.trans' ed2
  refine (less_spec rfl rfl (iP0.ext KV_pos ed4) (iP.ext KV_pos ed4) (by rw [hr30]; decide) (by rw [hr3]; decide) d0 d1).mono ?_
  rintro _ u3 ⟨rfl, e6⟩
  have e63 := ed2.trans' e6
  rw [hcmp]
  have hle : compareBytes (O.getD (i - 1) O0).k (O.getD i O0).k ≤ 0 := by
    rcases hlx with h | ⟨h, _⟩
    · omega
    · rw [h, cmp_self]; decide
  have ed3 : Ext u3 u3.drew := Fr.drew NoB u3
  refine ⟨_, rfl, brd (fun h => by omega) (fun _ => brd (fun hz => ?_) (fun hnz => ?_))⟩
  · obtain ⟨pa, hpa, _, pc⟩ := itemV iP0 (x := 2) (by omega) (by simp)
    have p2 : ∀ z, Ext w4 z → z.cell? ((pa.add (Int.toNat 2 * 3)).add 1) = some (.int .i64 (m : Int)) := fun z hz => (pc z (.inr (.inl hz))).2.1
    have hmn : (m : Int) < (n : Int) := by
      rcases hlx with h | ⟨_, h⟩
      · omega
      · rw [hidx0, hidx] at h; exact h
    have e7 := e63.trans' ed3
    refine ⟨pd, hP, ⟨by omega, by omega⟩, fun z => Ext w4 z, eu2.trans' e7, _, _, _, fun z hz => cP0 z hz, pa, hpa, ⟨by omega, by rw [hr30]; decide⟩, _, fun z hz => p2 z hz, ad, hX, ⟨by omega, by omega⟩, _, _, _, fun z hz => cP z hz, rd, hrd, ⟨by omega, by rw [hr3]; decide⟩, _, fun z hz => r2 z hz, ?_⟩
    refine brd (fun h => by omega) (fun _ => fin _ e7)
  · exact fin _ (e63.trans' ed3)
end Go.Proofs.Ytakmlaliglmnmaa
