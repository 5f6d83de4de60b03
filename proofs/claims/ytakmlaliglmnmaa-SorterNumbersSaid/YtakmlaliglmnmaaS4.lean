/- Layer 7 (sorter): each key once. -/
import Derived.Test.YtakmlaliglmnmaaS3
set_option linter.unusedVariables false
set_option linter.unusedSimpArgs false
namespace Go.Proofs.Ytakmlaliglmnmaa
open Go Go.Sx R1 S1 Go.Lib

theorem take2 (l : List One) (j : Nat) (h1 : 1 ≤ j) (h : j < l.length) : l.take (j + 1) = l.take (j - 1) ++ [l.getD (j - 1) O0, l.getD j O0] ∧ l.take j = l.take (j - 1) ++ [l.getD (j - 1) O0] := by
  obtain ⟨i, rfl⟩ : ∃ i, j = i + 1 := ⟨j - 1, by omega⟩
  have e1 : l.take (i + 1) = l.take i ++ [l.getD i O0] := by rw [List.take_add_one]; simp [List.getD, show i < l.length by omega]
  have e2 : l.take (i + 1 + 1) = l.take (i + 1) ++ [l.getD (i + 1) O0] := by rw [List.take_add_one]; simp [List.getD, h]
  rw [Nat.add_sub_cancel, e2, e1]
  simp
theorem once_step (l : List One) (j : Nat) (h1 : 1 ≤ j) (h : j < l.length) : once (l.take (j + 1)) = if (l.getD j O0).k = (l.getD (j - 1) O0).k then once (l.take j) else once (l.take j) ++ [l.getD j O0] := by
  obtain ⟨e1, e2⟩ := take2 l j h1 h
  rw [e1, e2, once_snoc]
theorem cut0 {A : Option Addr} {m sz : Nat} : cutAt A m 0 sz = A := by
  unfold cutAt
  split
  · rfl
  · cases A <;> simp [add_zero']
theorem setS (g o k2 : Nat) (vs : List Value) (w : World) : setAll (((⟨g, o, none⟩ : Addr)).add k2) 0 vs w = setAll ⟨g, o + k2, none⟩ 0 vs w := by rw [add_new]
theorem once_le (l : List One) : (once l).length ≤ l.length := by
  have : ∀ (l : List One) k, (once' k l).length ≤ l.length := by
    intro l
    induction l with
    | nil => intro k; simp [once']
    | cons y l ih =>
      intro k
      have h1 := ih k
      have h2 := ih y.k
      rw [once']
      split
      · rw [List.length_cons]; omega
      · rw [List.length_cons, List.length_cons]; omega
  cases l with
  | nil => simp [once]
  | cons x l => simp only [once, List.length_cons]; have := this l x.k; omega

theorem compact_spec {Ω0 : Nat → Prop} {w0 w : World} (e0 : Fr Ω0 w0 w) {D : Option Addr} {d : Nat} {l : List One} (h : OwnK (KF Ω0 w0) w D d l) (hD : 2 ≤ l.length → New w0 D) (hl : l.length ≤ 65536) :
    CallsV Try.prog 44 #[.slice D l.length d, .func (.func 45) #[] #[]] w fun r w' => r = .slice D (once l).length d ∧ OwnK (KF Ω0 w0) w' D d (once l) ∧ Fr (ownB D) w w' := by
  refine slices_CompactFunc_sorter_one_sorter_one.calls okay ?_
  unfold slices_CompactFunc_sorter_one_sorter_one.W
  refine brd (fun hlt => ?_) (fun hge => ?_)
  · have : once l = l := by
      match l, hlt with
      | [], _ => rfl
      | [x], _ => rfl
      | _ :: _ :: _, h => simp at h; omega
    rw [this]
    exact ⟨rfl, h, .refl _ _⟩
  have nD := hD (by omega)
  have hle := h.le
  obtain ⟨g, rfl, _⟩ := h.blk KF_pos (i := 0) (by omega)
  have hnew : ∀ k, k < w0.heap.size → ¬ ownB (some (⟨g, 0, none⟩ : Addr)) k := fun k hk ho => absurd hk (Nat.not_lt.2 (nD k ho))
  have fr0 : ∀ {u}, Fr (ownB (some ⟨g, 0, none⟩)) w u → Fr Ω0 w0 u := fun hu => e0.trans hu (fun _ _ h => h) (fun k hk ho => absurd ho (hnew k hk))
  refine ⟨fun x u => ∃ j : Nat, 1 ≤ j ∧ j ≤ l.length ∧ x = (j : Int) ∧ once (l.take j) = l.take j ∧ Ext w u, fun x _ => (l.length - x).toNat, ⟨1, by omega, by omega, rfl, ?_, .refl _ _⟩, ?_⟩
  · cases l with
    | nil => rfl
    | cons x l => simp [once, once']
  rintro _ u ⟨j, hj1, hj, rfl, hon, e⟩
  have w1 : IntKind.i64.wrap ((j : Int) - 1) = ((j - 1 : Nat) : Int) := by rw [wi _ (by omega) (by omega)]; omega
  rw [w1]
  simp only [Int.toNat_natCast]
  have hu := h.ext e
  refine brd (fun hjl => ?_) (fun hjl => ?_)
  · have hj' : j < l.length := by omega
    have iu := immKF (Ω := NoB) hu (fun _ _ h => h)
    obtain ⟨ad, hA, kA, kc, rA, rc, hx, cx⟩ := itemO iu (fun _ => .inr trivial) (i := j) hj'
    obtain ⟨bd, hB, kB, kd, rB, rd, hy, cy⟩ := itemO iu (fun _ => .inr trivial) (i := j - 1) (by omega)
    have ed : Ext u u.drew := Fr.drew NoB u
    refine ⟨ad, hA, ⟨by omega, by omega⟩, fun z => Ext u z, ed, _, _, _, fun z hz => (cx z hz).1, _, _, _, fun z hz => (cx z hz).2, bd, hB, ⟨by omega, by omega⟩, _, _, _, fun z hz => (cy z hz).1, _, _, _, fun z hz => (cy z hz).2, ?_⟩
    have hos := once_step l j hj1 hj'
    refine (equal_spec ((fr0 e.fr).ext ed.fr) (fun _ h => h) hx hy).mono ?_
    rintro _ u1 ⟨rfl, e1⟩
    have e1 : Ext u u1 := ed.trans' e1
    have ew1 := e.trans' e1
    refine ⟨_, rfl, brd (fun heq => ?_) (fun hne => ?_)⟩
    · rw [if_pos heq, hon] at hos
      refine ⟨⟨by omega, by omega⟩, ?_⟩
      refine ⟨fun p q v => ∃ (cur : List One) (k k2 : Nat), p = (k : Int) ∧ q = (k2 : Int) ∧ cur.length = l.length ∧ 1 ≤ k2 ∧ j + k2 ≤ l.length ∧ k ≤ j + k2 - 1 ∧ cur.take k = once (l.take (j + k2)) ∧ cur.drop (j + k2 - 1) = l.drop (j + k2 - 1) ∧ OwnK (KF Ω0 w0) v (some ⟨g, 0, none⟩) d cur ∧ Fr (ownB (some ⟨g, 0, none⟩)) w v,
        fun _ q _ => (l.length - q).toNat, ⟨l, j, 1, rfl, rfl, rfl, by omega, by omega, by omega, hos.symm, rfl, h.ext ew1, ew1.fr⟩, ?_⟩
      rintro _ _ v ⟨cur, k, k2, rfl, rfl, hcl, hk21, hk2, hk, htk, hdr, ho, fv⟩
      have hcut : cutAt (some ⟨g, 0, none⟩) d j 2 = some (⟨g, j * 2, none⟩ : Addr) := by
        unfold cutAt; rw [if_neg (by omega)]; simp [add_new]
      have w2 : IntKind.i64.wrap ((k2 : Int) - 1) = ((k2 - 1 : Nat) : Int) := by rw [wi _ (by omega) (by omega)]; omega
      rw [w2]
      simp only [Int.toNat_natCast]
      refine brd (fun hq => ?_) (fun hq => ?_)
      · have hq' : j + k2 < l.length := by omega
        have ed2 : Ext v v.drew := Fr.drew NoB v
        have iv := (immKF (Ω := NoB) ho (fun _ _ h => h)).cut (lo := j) (hi := cur.length) (m := d) (by omega)
        rw [List.take_length] at iv
        have hgd : ∀ i, (cur.drop j).getD i O0 = cur.getD (j + i) O0 := fun i => by simp [List.getD, List.getElem?_drop]
        have hcl2 : ∀ i, j + k2 - 1 ≤ i → cur.getD i O0 = l.getD i O0 := fun i hi => by
          have := congrArg (fun m : List One => m.getD (i - (j + k2 - 1)) O0) hdr
          simp only [List.getD_eq_getElem?_getD, List.getElem?_drop] at this
          rw [show j + k2 - 1 + (i - (j + k2 - 1)) = i by omega] at this
          simpa [List.getD_eq_getElem?_getD] using this
        obtain ⟨ad, hA, kA, kc, rA, rc, hx, cx⟩ := itemO iv (fun _ => .inr trivial) (i := k2) (by rw [List.length_drop]; omega)
        obtain ⟨bd, hB, kB, kd, rB, rd, hy, cy⟩ := itemO iv (fun _ => .inr trivial) (i := k2 - 1) (by rw [List.length_drop]; omega)
        rw [hgd, hcl2 _ (by omega)] at hx cx hy cy
        have hos := once_step l (j + k2) (by omega) hq'
        rw [show j + (k2 - 1) = j + k2 - 1 by omega] at hy cy
        refine ⟨ad, hA, ⟨by omega, by omega⟩, fun z => Ext v z, ed2, _, _, _, fun z hz => (cx z hz).1, _, _, _, fun z hz => (cx z hz).2, bd, hB, ⟨by omega, by omega⟩, _, _, _, fun z hz => (cy z hz).1, _, _, _, fun z hz => (cy z hz).2, ?_⟩
        refine (equal_spec ((fr0 fv).ext ed2.fr) (fun _ h => h) hx hy).mono ?_
        rintro _ v1 ⟨rfl, e1⟩
        have e1 : Ext v v1 := ed2.trans' e1
        have ho1 := ho.ext e1
        have fv1 := fv.ext e1.fr
        refine ⟨_, rfl, brn (fun hne => ?_) (fun heq => ?_)⟩
        · rw [if_neg hne] at hos
          have hkl : k < cur.length := by omega
          obtain ⟨g', hg', hcells⟩ := ho1.blk KF_pos hkl
          cases hg'
          refine ⟨ad, hA, ⟨by omega, by omega⟩, _, _, _, (cx v1 e1).1, _, _, _, (cx v1 e1).2, ⟨g, 0, none⟩, rfl, ⟨by omega, by omega⟩, ?_⟩
          rw [add_new, Nat.zero_add]
          refine ⟨stOK_of _ 0 (fun i hi => ?_), ?_⟩
          · rw [Nat.zero_add, add_new]
            exact hcells i hi
          rintro v2 rfl
          have ho2 := ho1.set (fun _ _ _ h => h) hkl (a := l.getD (j + k2) O0) (cs := oc (l.getD (j + k2) O0) kA kc rA rc) ⟨_, _, _, _, rfl, hx⟩ rfl
          rw [wi _ (by omega) (by omega), wi _ (by omega) (by omega)]
          refine ⟨⟨cur.set k (l.getD (j + k2) O0), k + 1, k2 + 1, rfl, rfl, by simpa using hcl, by omega, by omega, by omega, ?_, ?_, ho2, ?_⟩, by omega⟩
          · rw [show j + (k2 + 1) = j + k2 + 1 by omega, hos, ← htk, List.take_add_one, List.getElem?_set_self hkl, List.take_set_of_le (by omega)]; rfl
          · rw [List.drop_set_of_lt (by omega), show j + (k2 + 1) - 1 = (j + k2 - 1) + 1 by omega, ← List.drop_drop, hdr, List.drop_drop]
          · exact fv1.trans (Fr.setAll _ 0 v1) (fun _ _ h => h) (fun b hb hbg => by rw [ownB_some]; exact hbg.symm)
        · rw [if_pos (by simpa using heq)] at hos
          rw [wi _ (by omega) (by omega)]
          refine ⟨⟨cur, k, k2 + 1, rfl, rfl, hcl, by omega, by omega, by omega, by rw [show j + (k2 + 1) = j + k2 + 1 by omega, hos, htk], ?_, ho1, fv1⟩, by omega⟩
          rw [show j + (k2 + 1) - 1 = (j + k2 - 1) + 1 by omega, ← List.drop_drop, hdr, List.drop_drop]
      · have hend : j + k2 = l.length := by omega
        rw [hend, List.take_length] at htk
        have hkle : k ≤ cur.length := by omega
        obtain ⟨v1, hr, ho1, f1⟩ := clear_own slO (by simp [Value.oneCell']) (ty := 0) ho (fun _ _ _ h => h) hkle (d - k)
        rw [hcl] at hr
        refine ⟨⟨by omega, by omega⟩, _, hr, ⟨by omega, by omega⟩, ?_, ?_, fv.trans f1 (fun _ _ h => h) (fun _ _ h => h)⟩
        · have : (once l).length = k := by rw [← htk, List.length_take]; omega
          rw [cut0, this]; rfl
        · rw [← htk]; exact ho1
    · rw [if_neg hne, hon] at hos
      rw [wi _ (by omega) (by omega)]
      obtain ⟨t1, t2⟩ := take2 l j hj1 hj'
      refine ⟨⟨j + 1, by omega, by omega, rfl, ?_, ew1⟩, by omega⟩
      rw [hos, t1, t2]; simp
  · obtain rfl : j = l.length := by omega
    rw [List.take_length] at hon
    rw [hon]
    exact ⟨rfl, hu, e.fr⟩
end Go.Proofs.Ytakmlaliglmnmaa
