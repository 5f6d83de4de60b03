/- Layer 7 (sorter): order. -/
import Derived.Test.YtakmlaliglmnmaaS2
set_option linter.unusedVariables false
set_option linter.unusedSimpArgs false
namespace Go.Proofs.Ytakmlaliglmnmaa
open Go Go.Sx R1 S1 Go.Lib

theorem immKF {Ω0 Ω : Nat → Prop} {w0 w : World} {A : Option Addr} {c : Nat} {l : List One} (h : OwnK (KF Ω0 w0) w A c l) (hΩ : ∀ k, ownB A k → ¬ Ω k) : Imm (KF Ω0 w0) Ω w A l := by
  obtain ⟨xs, ho, hr⟩ := h
  exact Own.imm (K := KF Ω0 w0) KF_pos ho hΩ hr
theorem cutA (cur : List One) (i m : Nat) : (cur.take (min (i + m) cur.length)).drop i = (cur.drop i).take m := by
  rw [List.drop_take, List.take_eq_take_iff, List.length_drop]; omega
theorem cutB (cur : List One) (i m : Nat) : (cur.take (min (i + 2 * m) cur.length)).drop (min (i + m) cur.length) = (cur.drop (i + m)).take m := by
  rcases Nat.lt_or_ge cur.length (i + m) with h | h
  · rw [Nat.min_eq_right (Nat.le_of_lt h), Nat.min_eq_right (by omega), List.take_length, List.drop_length, List.drop_of_length_le (Nat.le_of_lt h), List.take_nil]
  · rw [Nat.min_eq_left h, List.drop_take, List.take_eq_take_iff, List.length_drop]; omega
theorem inOrder_short {l : List One} (h : l.length ≤ 1) : inOrder l = l := by
  refine (inOrder_unique ?_ fun k => rfl).symm
  match l, h with
  | [], _ => exact List.Pairwise.nil
  | [x], _ => exact List.pairwise_singleton _ _

theorem order_spec {Ω0 : Nat → Prop} {w0 w : World} (e0 : Ext w0 w) {A : Option Addr} {c : Nat} {l : List One} (hA : Imm (KF Ω0 w0) NoB w A l) (hc : l.length ≤ c) (hl : l.length ≤ 65536) :
    CallsV Try.prog 41 #[.slice A l.length c, .func (.func 42) #[] #[]] w fun r w' => Ext w w' ∧
      ((l.length ≤ 1 ∧ r = .slice A l.length c) ∨ ∃ D d, r = .slice D (inOrder l).length d ∧ OwnK (KF Ω0 w0) w' D d (inOrder l) ∧ New w D) := by
  refine sorter_order_sorter_one.calls okay ?_
  unfold sorter_order_sorter_one.W
  refine ⟨fun x x1 x2 n u => ∃ (cur : List One) (m : Nat), x1 = cur.length ∧ n = (m : Int) ∧ 1 ≤ m ∧ m ≤ 131072 ∧ cur.length = l.length ∧ cur.length ≤ x2 ∧ Imm (KF Ω0 w0) NoB u x cur ∧ Runs m cur ∧ (∀ k, cls k cur = cls k l) ∧ Ext w u ∧ ((m = 1 ∧ x = A ∧ x2 = c) ∨ (OwnK (KF Ω0 w0) u x x2 cur ∧ New w x)),
    fun _ _ _ n _ => (200000 - n).toNat, ⟨l, 1, rfl, rfl, by omega, by omega, rfl, hc, hA, runs_one l, fun _ => rfl, .refl _ _, .inl ⟨rfl, rfl, rfl⟩⟩, ?_⟩
  rintro x _ x2 _ u ⟨cur, m, rfl, rfl, hm1, hm2, hlen, hx2, hX, hruns, hcls, e, hor⟩
  refine brd (fun hlt => ?_) (fun hge => ?_)
  · refine ⟨fun y y1 y2 q v => ∃ (out : List One) (i : Nat), y1 = out.length ∧ q = (i : Int) ∧ Pass cur m i out ∧ i ≤ cur.length + 2 * m ∧ OwnK (KF Ω0 w0) v y y2 out ∧ Ext u v ∧ New u y, fun _ _ _ q _ => (cur.length - q).toNat,
      ⟨[], 0, rfl, rfl, Pass.zero cur m, by omega, OwnK.nil _ _, .refl _ _, New.none _⟩, ?_⟩
    rintro y _ y2 _ v ⟨out, i, rfl, rfl, hp, hi2, ho, ev, nv⟩
    have e1 : IntKind.i64.wrap ((i : Int) + (m : Int)) = ((i + m : Nat) : Int) := by rw [wi _ (by omega) (by omega)]; omega
    have e2 : IntKind.i64.wrap ((i : Int) + IntKind.i64.wrap (2 * (m : Int))) = ((i + 2 * m : Nat) : Int) := by rw [wi (2 * (m : Int)) (by omega) (by omega), wi _ (by omega) (by omega)]; omega
    have m1 : (if (cur.length : Int) < ((i + m : Nat) : Int) then (cur.length : Int) else ((i + m : Nat) : Int)) = ((min (i + m) cur.length : Nat) : Int) := by split <;> omega
    have m2 : (if (cur.length : Int) < ((i + 2 * m : Nat) : Int) then (cur.length : Int) else ((i + 2 * m : Nat) : Int)) = ((min (i + 2 * m) cur.length : Nat) : Int) := by split <;> omega
    rw [e1, e2, m1, m2]
    simp only [Int.toNat_natCast]
    refine brd (fun hil => ?_) (fun hil => ?_)
    · have hil' : i < cur.length := by omega
      refine ⟨⟨by omega, by omega⟩, ⟨by omega, by omega⟩, ⟨by omega, by omega⟩, ⟨by omega, by omega⟩, ?_⟩
      have ed := ev.trans' (Fr.drew NoB v)
      have hXd := hX.ext KF_pos ed
      have ha := hXd.cut (lo := i) (hi := min (i + m) cur.length) (m := x2) (by omega)
      have hb := hXd.cut (lo := min (i + m) cur.length) (hi := min (i + 2 * m) cur.length) (m := x2) (by omega)
      rw [cutA] at ha
      rw [cutB] at hb
      have la : ((cur.drop i).take m).length = min (i + m) cur.length - i := by rw [List.length_take, List.length_drop]; omega
      have lb : ((cur.drop (i + m)).take m).length = min (i + 2 * m) cur.length - min (i + m) cur.length := by rw [List.length_take, List.length_drop]; omega
      refine (merged_spec ((e0.trans' e).trans' ed) la.symm lb.symm ha hb (by rw [la]; omega) (by rw [lb]; omega) (by omega)).mono ?_
      rintro _ v1 ⟨D, d, rfl, hoD, ev1, nD⟩
      have hps := hp.step hruns (by omega) hil'
      have hml := mergeL_length _ ((cur.drop i).take m) ((cur.drop (i + m)).take m) rfl
      have hol : out.length = i := by rw [hp.len]; omega
      refine ⟨_, _, _, rfl, ?_⟩
      have ho1 := ho.ext ((Fr.drew NoB v).ext ev1)
      have hylt := ho.lt
      have hD : Imm (KF Ω0 w0) (ownB y) v1 D (mergeL ((cur.drop i).take m) ((cur.drop (i + m)).take m)) := immKF hoD fun k hk hk' => by
        have h1 := nD k hk
        have h2 := hylt k hk'
        have h3 : v.drew.heap.size = v.heap.size := rfl
        omega
      obtain ⟨F, f, v2, hr2, ho2, g2⟩ := ho1.append slO (ty := 61) (cb := d) hD (fun a cs h => KF_one _ _ a cs h) (by simp only [maxLen]; omega) (by omega)
      have ev2 := g2.ext (ed.trans' ev1) nv
      have nv2 := g2.new (ed.trans' ev1) nv
      refine ⟨_, _, _, _, hr2, ⟨_, i + 2 * m, rfl, rfl, hps, by omega, ho2, ev2, nv2⟩, by omega⟩
    · obtain ⟨hd1, hd2, hd3⟩ := hp.done (by omega)
      rw [wi _ (by omega) (by omega)]
      refine ⟨⟨out, 2 * m, rfl, by omega, by omega, by omega, by omega, ho.le, ho.imm KF_pos, hd3, fun k => (hd2 k).trans (hcls k), e.trans' ev, .inr ⟨ho, nv.ext e⟩⟩, by omega⟩
  · refine ⟨e, ?_⟩
    have hs : cur = inOrder l := inOrder_unique (runs_all hruns (by omega)) hcls
    rcases hor with ⟨rfl, rfl, rfl⟩ | ⟨ho, n⟩
    · exact .inl ⟨by omega, by rw [hlen]⟩
    · subst hs
      exact .inr ⟨x, x2, rfl, ho, n⟩
end Go.Proofs.Ytakmlaliglmnmaa
