/- Layer 7 (sorter): merging, order. -/
import Derived.Test.YtakmlaliglmnmaaS1
set_option linter.unusedVariables false
set_option linter.unusedSimpArgs false
namespace Go.Proofs.Ytakmlaliglmnmaa
open Go Go.Sx R1 S1 Go.Lib

theorem immTail {α : Type} {K : Kd α} {Ω : Nat → Prop} {w : World} {A : Option Addr} {l : List α} (h : Imm K Ω w A l) {c : Nat} (hc : l.length ≤ c) : Imm K Ω w (cutAt A c 1 K.size) (l.drop 1) := by
  have := h.cut (lo := 1) (hi := l.length) (m := c) hc
  rwa [List.take_length] at this
theorem dropO (l : List One) (h : 0 < l.length) : l = l.getD 0 O0 :: l.drop 1 := by
  cases l with
  | nil => simp at h
  | cons x l => rfl
theorem append2 {Ω0 : Nat → Prop} {w0 w : World} {C A B : Option Addr} {cc ca cb : Nat} {o a b : List One} (ho : OwnK (KF Ω0 w0) w C cc o) (ha : Imm (KF Ω0 w0) NoB w A a) (hb : Imm (KF Ω0 w0) NoB w B b) {w1 : World} (e : Ext w1 w) (n : New w1 C) (ha' : Imm (KF Ω0 w0) NoB w1 A a) (hb' : Imm (KF Ω0 w0) NoB w1 B b) (hl : o.length + a.length + b.length ≤ 1000000) :
    ∃ D d w2, RunsTo Try.prog (Builtin.append_ #[61, 61] 61 #[.slice C o.length cc, .slice A a.length ca]) w (.slice D (o ++ a).length d) w2 ∧
      ∃ F f w3, RunsTo Try.prog (Builtin.append_ #[61, 61] 61 #[.slice D (o ++ a).length d, .slice B b.length cb]) w2 (.slice F (o ++ a ++ b).length f) w3 ∧ OwnK (KF Ω0 w0) w3 F f (o ++ a ++ b) ∧ Ext w1 w3 ∧ New w1 F := by
  obtain ⟨D, d, w2, hr, hoD, gD⟩ := ho.append slO (ty := 61) (cb := ca) (ha'.keep KF_pos (e.stepTo fun k hk ho => absurd hk (Nat.not_lt.2 (n k ho)))) (fun a cs h => KF_one _ _ a cs h) (by simp only [maxLen]; omega) (by omega)
  have e2 := gD.ext e n
  have n2 := gD.new e n
  obtain ⟨F, f, w3, hr3, hoF, gF⟩ := hoD.append slO (ty := 61) (cb := cb) (hb'.keep KF_pos (e2.stepTo fun k hk ho => absurd hk (Nat.not_lt.2 (n2 k ho)))) (fun a cs h => KF_one _ _ a cs h) (by simp only [maxLen, List.length_append]; omega) (by simp only [List.length_append]; omega)
  exact ⟨D, d, w2, hr, F, f, w3, hr3, hoF, gF.ext e2 n2, gF.new e2 n2⟩

theorem merged_spec {Ω0 : Nat → Prop} {w0 w : World} (e0 : Ext w0 w) {A B : Option Addr} {ca cb na nb : Nat} {a b : List One} (hna : na = a.length) (hnb : nb = b.length) (ha : Imm (KF Ω0 w0) NoB w A a) (hb : Imm (KF Ω0 w0) NoB w B b) (hca : a.length ≤ ca) (hcb : b.length ≤ cb) (hl : a.length + b.length ≤ 200000) :
    CallsV Try.prog 71 #[.slice A na ca, .slice B nb cb, .func (.func 42) #[] #[]] w fun r w' => ∃ D d, r = .slice D (mergeL a b).length d ∧ OwnK (KF Ω0 w0) w' D d (mergeL a b) ∧ Ext w w' ∧ New w D := by
  subst hna; subst hnb
  refine sorter_merged_sorter_one.calls okay ?_
  unfold sorter_merged_sorter_one.W
  rw [wi _ (by omega) (by omega)]
  obtain ⟨C, w1, hr1, hown, e1, n1⟩ := make_room slO (by simp [Value.oneCell']) w (a.length + b.length) (by simp only [maxLen]; omega) (by omega) .i64 .i64
  have ho1 : OwnK (KF Ω0 w0) w1 C (a.length + b.length) [] := ⟨[], hown, fun i a h => by simp at h⟩
  refine ⟨_, _, _, _, by rw [← Int.natCast_add]; exact hr1, ?_⟩
  refine ⟨fun A' n ca' B' m cb' C' p cc' u => ∃ (a' b' o : List One), n = a'.length ∧ m = b'.length ∧ p = o.length ∧ a'.length ≤ ca' ∧ b'.length ≤ cb' ∧ Imm (KF Ω0 w0) NoB w A' a' ∧ Imm (KF Ω0 w0) NoB w B' b' ∧ OwnK (KF Ω0 w0) u C' cc' o ∧ Ext w u ∧ New w C' ∧ o ++ mergeL a' b' = mergeL a b ∧ o.length + a'.length + b'.length ≤ 200000,
    fun _ n _ _ m _ _ _ _ _ => n + m, ⟨a, b, [], rfl, rfl, rfl, hca, hcb, ha, hb, ho1, e1, n1, rfl, by simpa using hl⟩, ?_⟩
  rintro A' _ ca' B' _ cb' C' _ cc' u ⟨a', b', o, rfl, rfl, rfl, hca', hcb', ha', hb', ho, e, n, hm, hlen⟩
  have finish : (a' = [] ∨ b' = []) → ∃ x x_1 x_2 w', RunsTo Try.prog (Builtin.append_ #[61, 61] 61 #[.slice C' o.length cc', .slice A' a'.length ca']) u (.slice x x_1 x_2) w' ∧ ∃ y y_1 y_2 w'', RunsTo Try.prog (Builtin.append_ #[61, 61] 61 #[.slice x x_1 x_2, .slice B' b'.length cb']) w' (.slice y y_1 y_2) w'' ∧ ∃ D d, Value.slice y y_1 y_2 = .slice D (mergeL a b).length d ∧ OwnK (KF Ω0 w0) w'' D d (mergeL a b) ∧ Ext w w'' ∧ New w D := by
    intro hnil
    obtain ⟨D, d, w2, hr2, F, f, w3, hr3, hoF, e3, n3⟩ := append2 (ca := ca') (cb := cb') ho (ha'.ext KF_pos e) (hb'.ext KF_pos e) e n ha' hb' (by omega)
    have hmm : o ++ a' ++ b' = mergeL a b := by
      rw [← hm]
      rcases hnil with rfl | rfl
      · rw [mergeL_nil']; simp
      · rw [mergeL_nil]; simp
    rw [hmm] at hr3 hoF
    exact ⟨_, _, _, _, hr2, _, _, _, _, hr3, F, f, rfl, hoF, e3, n3⟩
  refine brd (fun h1 => brd (fun h2 => ?_) (fun h2 => finish (.inr (List.eq_nil_of_length_eq_zero (by omega))))) (fun h1 => finish (.inl (List.eq_nil_of_length_eq_zero (by omega))))
  have ed : Ext w u.drew := e.trans' (Fr.drew NoB u)
  obtain ⟨ad, hA', kA, kc, rA, rc, hx, cx⟩ := itemO ha' (fun _ => .inr trivial) (i := 0) (by omega)
  obtain ⟨bd, hB', kB, kd, rB, rd, hy, cy⟩ := itemO hb' (fun _ => .inr trivial) (i := 0) (by omega)
  have da := dropO a' (by omega)
  have db := dropO b' (by omega)
  have hdl : (a'.drop 1).length = a'.length - 1 := by simp
  have hdl' : (b'.drop 1).length = b'.length - 1 := by simp
  have ta := immTail ha' hca'
  have tb := immTail hb' hcb'
  have hmc := mergeL_cons (a'.getD 0 O0) (a'.drop 1) (b'.getD 0 O0) (b'.drop 1)
  rw [← da, ← db] at hmc
  generalize a'.getD 0 O0 = x at *
  generalize b'.getD 0 O0 = y at *
  refine ⟨ad, hA', ⟨by omega, by omega⟩, fun v => Ext w v, ed, _, _, _, fun v hv => (cx v hv).1, _, _, _, fun v hv => (cx v hv).2, bd, hB', ⟨by omega, by omega⟩, _, _, _, fun v hv => (cy v hv).1, _, _, _, fun v hv => (cy v hv).2, ?_⟩
  refine (later_spec (e0.trans' ed) hx hy).mono ?_
  rintro _ u1 ⟨rfl, e1'⟩
  have e1 : Ext w u1 := ed.trans' e1'
  have ho1 := ho.ext ((Fr.drew NoB u).ext e1')
  refine ⟨_, rfl, ?_⟩
  have ed1 : Ext w u1.drew := e1.trans' (Fr.drew NoB u1)
  refine brd (fun hlt => ?_) (fun hge => ?_)
  · rw [if_pos hlt] at hmc
    refine ⟨bd, hB', ⟨by omega, by omega⟩, fun v => Ext w v, ed1, _, _, _, fun v hv => (cy v hv).1, _, _, _, fun v hv => (cy v hv).2, ⟨by omega, by omega⟩, ?_⟩
    intro g u2 f2
    have e2 : Ext w u2 := ed1.trans' f2.ext
    obtain ⟨rfl, rfl⟩ := f2
    obtain ⟨F, f, u3, hr3, ho3, g3⟩ := OwnK.push slO (ty := 61) (K := KF Ω0 w0) (ho1.ext (Fr.drew NoB u1)) (a := y) (cs := oc y kB kd rB rd) (e' := 81) ⟨_, _, _, _, rfl, hy⟩ (by simp [oc, Value.oneCell']) (by simp only [maxLen]; omega) (by omega)
    refine ⟨_, _, _, _, hr3, ?_⟩
    have e3 := g3.ext ed1 n
    have n3 := g3.new ed1 n
    refine ⟨⟨a', b'.drop 1, o ++ [y], rfl, by rw [hdl']; rfl, rfl, hca', by rw [hdl']; omega, ha', tb, ho3, e3, n3, ?_, ?_⟩, by dsimp only; omega⟩
    · rw [← hm, hmc]; simp
    · rw [List.length_append, hdl', List.length_singleton]; omega
  · rw [if_neg hge] at hmc
    refine ⟨ad, hA', ⟨by omega, by omega⟩, fun v => Ext w v, ed1, _, _, _, fun v hv => (cx v hv).1, _, _, _, fun v hv => (cx v hv).2, ⟨by omega, by omega⟩, ?_⟩
    intro g u2 f2
    have e2 : Ext w u2 := ed1.trans' f2.ext
    obtain ⟨rfl, rfl⟩ := f2
    obtain ⟨F, f, u3, hr3, ho3, g3⟩ := OwnK.push slO (ty := 61) (K := KF Ω0 w0) (ho1.ext (Fr.drew NoB u1)) (a := x) (cs := oc x kA kc rA rc) (e' := 81) ⟨_, _, _, _, rfl, hx⟩ (by simp [oc, Value.oneCell']) (by simp only [maxLen]; omega) (by omega)
    refine ⟨_, _, _, _, hr3, ?_⟩
    have e3 := g3.ext ed1 n
    have n3 := g3.new ed1 n
    refine ⟨⟨a'.drop 1, b', o ++ [x], by rw [hdl]; rfl, rfl, rfl, by rw [hdl]; omega, hcb', ta, hb', ho3, e3, n3, ?_, ?_⟩, by dsimp only; omega⟩
    · rw [← hm, hmc]; simp
    · rw [List.length_append, hdl, List.length_singleton]; omega
end Go.Proofs.Ytakmlaliglmnmaa
