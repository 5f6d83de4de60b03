/- Part 5 of the texts of this claim: the engine, contracts, plain laws. -/
import Derived.Test.YtabfhckjinejfaaDoorZCDepthP2
import Derived.Test.YtabfhckjinejfaaDoorZCDepthP4
import Derived.Test.YtabfhckjinejfaaDoorZCDepthP3
import Derived.WalkKit
import Derived.ProofKit
import Derived.OpenShut
import Derived.Carry
import Derived.Deep.Slices
import Derived.ChangeMaps5
/- Layer 16: what the statements look at; the chapter's examples. -/
set_option linter.unusedVariables false
set_option linter.unusedSimpArgs false
namespace Go.Proofs.YtabfhckjinejfaaDoor
open Go Go.Sx R1 K15 L16
set_option maxRecDepth 10000 in
theorem Great_spec {w : World} {p : Prog} {a : PAd} (h : PIm w p a) : CallsV Tryd.prog 15 #[pagg p a] w fun r w' => ∃ b, r = .bool b ∧ Ext w w' := by
  have m1 := h.l1
  have m2 := h.l2
  have m3 := h.l3
  have m4 := h.l4
  have m5 := h.l5
  simp only [maxLen] at m1 m2 m3 m4 m5
  refine cardindexlaw15_Great.calls okay ?_
  unfold cardindexlaw15_Great.W
  intro g w1 f
  have bp := f.blk
  have h := h.ext f.ext
  have e1 := f.ext
  repeat (first | refine ⟨_, Blk.cell (bp) (by rfl), ?_⟩ | refine ⟨_, _, _, Blk.cell (bp) (by rfl), ?_⟩)
  refine brd (fun _ => ⟨_, rfl, e1⟩) (fun _ => ?_)
  repeat (first | refine ⟨_, Blk.cell (bp) (by rfl), ?_⟩ | refine ⟨_, _, _, Blk.cell (bp) (by rfl), ?_⟩)
  refine brd (fun _ => ⟨_, rfl, e1⟩) (fun _ => ?_)
  repeat (first | refine ⟨_, Blk.cell (bp) (by rfl), ?_⟩ | refine ⟨_, _, _, Blk.cell (bp) (by rfl), ?_⟩)
  refine brd (fun _ => ⟨_, rfl, e1⟩) (fun _ => ?_)
  repeat (first | refine ⟨_, Blk.cell (bp) (by rfl), ?_⟩ | refine ⟨_, _, _, Blk.cell (bp) (by rfl), ?_⟩)
  refine ⟨fun x y u => ∃ k : Nat, k ≤ p.names.length ∧ y = (k : Int) ∧ u = w1, fun x y u => ((p.names.length : Int) - y).toNat, ⟨0, by omega, rfl, rfl⟩, ?_⟩
  rintro x _ u ⟨k, hk, rfl, hu⟩
  obtain rfl : w1 = u := hu.symm
  refine brd (fun hlt => ?_) (fun _ => ?_)
  · repeat (first | refine ⟨_, Blk.cell (bp) (by rfl), ?_⟩ | refine ⟨_, _, _, Blk.cell (bp) (by rfl), ?_⟩)
    obtain ⟨ad, hA, cs, hrep, hc⟩ := h.names.get1 (show k < p.names.length by omega)
    have hcs : cs = [.string p.names[k]] := hrep
    subst hcs
    rw [wi ((k : Int) + 1) (by omega) (by omega)]
    exact ⟨ad, hA, ⟨by omega, by omega⟩, _, hc 0 _ rfl, ⟨k + 1, by omega, by omega, rfl⟩, by dsimp only; omega⟩
  repeat (first | refine ⟨_, Blk.cell (bp) (by rfl), ?_⟩ | refine ⟨_, _, _, Blk.cell (bp) (by rfl), ?_⟩)
  refine ⟨fun x y u => ∃ k : Nat, k ≤ p.consts.length ∧ y = (k : Int) ∧ u = w1, fun x y u => ((p.consts.length : Int) - y).toNat, ⟨0, by omega, rfl, rfl⟩, ?_⟩
  rintro x _ u ⟨k, hk, rfl, hu⟩
  obtain rfl : w1 = u := hu.symm
  refine brd (fun hlt => ?_) (fun _ => ?_)
  · repeat (first | refine ⟨_, Blk.cell (bp) (by rfl), ?_⟩ | refine ⟨_, _, _, Blk.cell (bp) (by rfl), ?_⟩)
    obtain ⟨ad, hA, cs, hrep, hc⟩ := h.consts.get1 (show k < p.consts.length by omega)
    have hcs : cs = vc p.consts[k] := hrep
    subst hcs
    rw [wi ((k : Int) + 1) (by omega) (by omega)]
    exact ⟨ad, hA, ⟨by omega, by omega⟩, _, by rw [add_add]; exact hc 2 _ rfl, ⟨k + 1, by omega, by omega, rfl⟩, by dsimp only; omega⟩
  repeat (first | refine ⟨_, Blk.cell (bp) (by rfl), ?_⟩ | refine ⟨_, _, _, Blk.cell (bp) (by rfl), ?_⟩)
  refine ⟨fun x y u => ∃ k : Nat, k ≤ p.curs.length ∧ y = (k : Int) ∧ u = w1, fun x y u => ((p.curs.length : Int) - y).toNat, ⟨0, by omega, rfl, rfl⟩, ?_⟩
  rintro x _ u ⟨k, hk, rfl, hu⟩
  obtain rfl : w1 = u := hu.symm
  refine brd (fun hlt => ?_) (fun _ => ?_)
  · repeat (first | refine ⟨_, Blk.cell (bp) (by rfl), ?_⟩ | refine ⟨_, _, _, Blk.cell (bp) (by rfl), ?_⟩)
    obtain ⟨ad, hA, cs, hrep, hc⟩ := h.curs.get1 (show k < p.curs.length by omega)
    have hcs : cs = [.string p.curs[k].name, .bool p.curs[k].ix, .bool p.curs[k].wr] := hrep
    subst hcs
    rw [wi ((k : Int) + 1) (by omega) (by omega)]
    exact ⟨ad, hA, ⟨by omega, by omega⟩, _, by rw [add_add]; exact hc 0 _ rfl, ⟨k + 1, by omega, by omega, rfl⟩, by dsimp only; omega⟩
  repeat (first | refine ⟨_, Blk.cell (bp) (by rfl), ?_⟩ | refine ⟨_, _, _, Blk.cell (bp) (by rfl), ?_⟩)
  refine ⟨fun x y u => ∃ k : Nat, k ≤ p.sorts.length ∧ y = (k : Int) ∧ u = w1, fun x y u => ((p.sorts.length : Int) - y).toNat, ⟨0, by omega, rfl, rfl⟩, ?_⟩
  rintro x _ u ⟨k, hk, rfl, hu⟩
  obtain rfl : w1 = u := hu.symm
  refine brd (fun hlt => ?_) (fun _ => ?_)
  · repeat (first | refine ⟨_, Blk.cell (bp) (by rfl), ?_⟩ | refine ⟨_, _, _, Blk.cell (bp) (by rfl), ?_⟩)
    obtain ⟨ad, hA, cs, hrep, hc⟩ := h.sorts.get1 (show k < p.sorts.length by omega)
    obtain ⟨B, d, hcs, _⟩ := id hrep
    subst hcs
    rw [wi ((k : Int) + 1) (by omega) (by omega)]
    exact ⟨ad, hA, ⟨by omega, by omega⟩, _, _, _, by rw [add_add]; exact hc 0 _ rfl, ⟨k + 1, by omega, by omega, rfl⟩, by dsimp only; omega⟩
  repeat (first | refine ⟨_, Blk.cell (bp) (by rfl), ?_⟩ | refine ⟨_, _, _, Blk.cell (bp) (by rfl), ?_⟩)
  refine ⟨fun x y u => ∃ k : Nat, k ≤ p.tots.length ∧ y = (k : Int) ∧ u = w1, fun x y u => ((p.tots.length : Int) - y).toNat, ⟨0, by omega, rfl, rfl⟩, ?_⟩
  rintro x _ u ⟨k, hk, rfl, hu⟩
  obtain rfl : w1 = u := hu.symm
  refine brd (fun hlt => ?_) (fun _ => ⟨_, rfl, e1⟩)
  repeat (first | refine ⟨_, Blk.cell (bp) (by rfl), ?_⟩ | refine ⟨_, _, _, Blk.cell (bp) (by rfl), ?_⟩)
  obtain ⟨ad, hA, cs, hrep, hc⟩ := h.tots.get1 (show k < p.tots.length by omega)
  have hcs : cs = [.string p.tots[k].fn, .bool p.tots[k].dist] := hrep
  subst hcs
  rw [wi ((k : Int) + 1) (by omega) (by omega)]
  exact ⟨ad, hA, ⟨by omega, by omega⟩, _, by rw [add_add]; exact hc 0 _ rfl, ⟨k + 1, by omega, by omega, rfl⟩, by dsimp only; omega⟩
theorem great_spec {w : World} {p : Prog} {a : PAd} (h : PIm w p a) : CallsV Tryd.prog 7 #[pagg p a] w fun r w' => ∃ b, r = .bool b ∧ (b = false → p.code.length ≤ 300) ∧ Ext w w' := by
  refine cardindexlaw16_great.calls okay ?_
  unfold cardindexlaw16_great.W
  intro g w1 f
  repeat (first | refine ⟨_, Blk.cell (f.blk) (by rfl), ?_⟩ | refine ⟨_, _, _, Blk.cell (f.blk) (by rfl), ?_⟩)
  refine (Great_spec (h.ext f.ext)).mono ?_
  rintro _ w2 ⟨b, rfl, e⟩
  refine ⟨_, rfl, br (fun _ => ⟨_, rfl, fun h => (by cases h), f.ext.trans' e⟩) (fun _ => ?_)⟩
  repeat (first | refine ⟨_, Blk.cell (f.blk.ext e) (by rfl), ?_⟩ | refine ⟨_, _, _, Blk.cell (f.blk.ext e) (by rfl), ?_⟩)
  exact ⟨_, rfl, fun h => by have := of_decide_eq_false h; omega, f.ext.trans' e⟩
/-- a program of a cursor, of some instructions -/
def progP (l : List Ins) : Prog := ⟨1, 4, 0, [ByteArray.mk #[97]], [], [⟨ByteArray.mk #[116], false, true⟩, ⟨ByteArray.mk #[117], false, false⟩], [⟨[], 1, false⟩], [], l⟩
set_option maxRecDepth 10000 in
theorem prog_spec {w : World} {A : Option Addr} {c n : Nat} {l : List Ins} (hn : n = l.length) (hi : Imm KIns NoB w A l) (hl : l.length ≤ maxLen) (hc : l.length ≤ c) :
    CallsV Tryd.prog 11 #[.slice A n c] w fun r w' => ∃ a, r = pagg (progP l) a ∧ PIm w' (progP l) a ∧ Ext w w' ∧ a.dA = A ∧ a.dc = c := by
  subst hn
  refine cardindexlaw16_prog.calls okay ?_
  unfold cardindexlaw16_prog.W
  intro g w1 f1 g1 w2 f2 g2 w3 f3 g3 w4 f4
  have h1 : Imm Kd.str (fun k => k = g) w2 (some ⟨g1, 0, none⟩) [ByteArray.mk #[97]] := f2.imm (by have := f2.ge; have := f1.lt; omega) KStr_pos rfl (by simp [maxLen]) (by
    intro i a h
    rcases i with _ | i
    · simp at h; subst h; rfl
    · simp at h)
  have h2 : Imm KCur (fun k => k = g) w3 (some ⟨g2, 0, none⟩) [⟨ByteArray.mk #[116], false, true⟩, ⟨ByteArray.mk #[117], false, false⟩] := f3.imm (by have := f3.ge; have := f1.lt; have := f2.ext.size; omega) KCur_pos rfl (by simp [maxLen]) (by
    intro i a h
    rcases i with _ | _ | i
    · simp at h; subst h; rfl
    · simp at h; subst h; rfl
    · simp at h)
  have h3 : Imm KSrt (fun k => k = g) w4 (some ⟨g3, 0, none⟩) [⟨[], 1, false⟩] := f4.imm (by have := f4.ge; have := f1.lt; have := f2.ext.size; have := f3.ext.size; omega) KSrt_pos rfl (by simp [maxLen]) (by
    intro i a h
    rcases i with _ | i
    · simp at h; subst h; exact ⟨none, 0, rfl, Nat.le_refl _, Imm.nil _ _ _ _⟩
    · simp at h)
  have b1 := f1.blk.ext ((f2.ext.trans' f3.ext).trans' f4.ext)
  have hz : (0 : Nat) ≤ maxLen := by simp [maxLen]
  refine ⟨b1.stOK [_, _, _, _, _, _, _, _, _] 0 (by simp), fun w5 hw5 => ?_⟩
  have f5 : Fr (fun k => k = g) w4 w5 := by rw [hw5]; exact Fr.setAll _ _ _
  have b5 : Blk w5 g (pcs (progP l) ⟨some ⟨g1, 0, none⟩, 1, none, 0, some ⟨g2, 0, none⟩, 2, some ⟨g3, 0, none⟩, 1, none, 0, A, c⟩) := by
    rw [hw5]; exact Blk.setAll (o := 0) (pcs (progP l) ⟨some ⟨g1, 0, none⟩, 1, none, 0, some ⟨g2, 0, none⟩, 2, some ⟨g3, 0, none⟩, 1, none, 0, A, c⟩) 0 b1
  have e4 : Ext w w4 := f1.ext.trans' ((f2.ext.trans' f3.ext).trans' f4.ext)
  have e5 : Ext w w5 := e4.trans f5 (fun _ _ h => h) (fun k hk e => by have := f1.ge; omega)
  clear hw5
  repeat (first | refine ⟨_, Blk.cell (b5) (by rfl), ?_⟩ | refine ⟨_, _, _, Blk.cell (b5) (by rfl), ?_⟩)
  have out : ∀ {α : Type} {K : Kd α} {u : World} {A : Option Addr} {l : List α}, 0 < K.size → Imm K (fun k => k = g) u A l → Ext u w4 → Imm K NoB w5 A l := fun hz hi e =>
    (hi.ext hz e).keep hz (f5.step (fun _ _ h => h) (fun _ _ h => h.elim))
  exact ⟨⟨some ⟨g1, 0, none⟩, 1, none, 0, some ⟨g2, 0, none⟩, 2, some ⟨g3, 0, none⟩, 1, none, 0, A, c⟩, rfl, ⟨out KStr_pos h1 (f3.ext.trans' f4.ext), Imm.nil _ _ _ _, out KCur_pos h2 f4.ext, out KSrt_pos h3 (.refl _ _), Imm.nil _ _ _ _, hi.ext KIns_pos e5, by simp [progP, maxLen], by simp [progP, maxLen], by simp [progP, maxLen], by simp [progP, maxLen], by simp [progP, maxLen], hl, hc⟩, e5, rfl, rfl⟩
end Go.Proofs.YtabfhckjinejfaaDoor
/- Layer 16: the chapter's examples. -/
set_option linter.unusedVariables false
set_option linter.unusedSimpArgs false
namespace Go.Proofs.YtabfhckjinejfaaDoor
open Go Go.Sx R1 K15 L16
def iFirst : Ins := ⟨13, 0, 3, 0, 0⟩
def iRow : Ins := ⟨27, 0, 0, 0, 0⟩
def iNext : Ins := ⟨15, 0, 1, 0, 0⟩
def iHalt : Ins := ⟨35, 0, 0, 0, 0⟩
def iJump : Ins := ⟨10, 2, 0, 0, 0⟩
theorem loops1 : loopsP (progP [iFirst, iRow, iNext, iHalt]) = ([⟨0, 2, 0, -1, 0, -1⟩], 0) := by kernel_rfl
theorem loops2 : loopsP (progP [iFirst, iJump, iNext, iHalt]) = ([⟨0, 2, 0, -1, 0, -1⟩], 0) := by kernel_rfl
theorem loops3 : loopsP (progP [iRow, iNext, iHalt]) = ([], 141) := by kernel_rfl
set_option maxRecDepth 20000 in
set_option maxHeartbeats 4000000 in
theorem awake_spec {w : World} (hT : Tab w) : CallsV Tryd.prog 8 #[] w fun r w' => r = .bool true ∧ Ext w w' := by
  refine cardindexlaw16_awake.calls okay ?_
  unfold cardindexlaw16_awake.W
  intro g0 w1 f0 g1 w2 f1 g2 w3 f2 g3 w4 f3
  have n0 := f0.ge
  have n1 := f1.ge
  have n2 := f2.ge
  have n3 := f3.ge
  have s0 := f0.ext.size
  have s1 := f1.ext.size
  have s2 := f2.ext.size
  have l0 := f0.lt
  have l1 := f1.lt
  have l2 := f2.lt
  have b0 := f0.blk.ext ((f1.ext.trans' f2.ext).trans' f3.ext)
  have b1 := f1.blk.ext (f2.ext.trans' f3.ext)
  have b2 := f2.blk.ext f3.ext
  have b3 := f3.blk
  have e4 : Ext w w4 := f0.ext.trans' ((f1.ext.trans' f2.ext).trans' f3.ext)
  clear f0 f1 f2 f3
  have step : ∀ {u v : World} {k : Nat}, Ext w u → Fr (fun q => q = k) u v → w.heap.size ≤ k → Ext w v := fun e f h => e.trans f (fun _ _ h => h) (fun k hk e => by omega)
  refine ⟨b0.stOK (insC iFirst) 0 (by simp), fun w5 hw => ?_⟩
  obtain ⟨b0, q⟩ := set0 b0 hw rfl
  have b1 := b1.keep q (by omega)
  have b2 := b2.keep q (by omega)
  have b3 := b3.keep q (by omega)
  have e5 := step e4 q (by omega)
  clear hw q e4
  refine ⟨b1.stOK (insC iRow) 0 (by simp), fun w6 hw => ?_⟩
  obtain ⟨b1, q⟩ := set0 b1 hw rfl
  have b0 := b0.keep q (by omega)
  have b2 := b2.keep q (by omega)
  have b3 := b3.keep q (by omega)
  have e6 := step e5 q (by omega)
  clear hw q e5
  refine ⟨b2.stOK (insC iNext) 0 (by simp), fun w7 hw => ?_⟩
  obtain ⟨b2, q⟩ := set0 b2 hw rfl
  have b0 := b0.keep q (by omega)
  have b1 := b1.keep q (by omega)
  have b3 := b3.keep q (by omega)
  have e7 := step e6 q (by omega)
  clear hw q e6
  refine ⟨b3.stOK (insC iHalt) 0 (by simp), fun w8 hw => ?_⟩
  obtain ⟨b3, q⟩ := set0 b3 hw rfl
  have b0 := b0.keep q (by omega)
  have b1 := b1.keep q (by omega)
  have b2 := b2.keep q (by omega)
  have e8 := step e7 q (by omega)
  clear hw q e7 n0 n1 n2 n3 s0 s1 s2 l0 l1 l2 step
  repeat (first | refine ⟨_, Blk.cell (b0) (by rfl), ?_⟩ | refine ⟨_, _, _, Blk.cell (b0) (by rfl), ?_⟩ | refine ⟨_, Blk.cell (b1) (by rfl), ?_⟩ | refine ⟨_, _, _, Blk.cell (b1) (by rfl), ?_⟩ | refine ⟨_, Blk.cell (b2) (by rfl), ?_⟩ | refine ⟨_, _, _, Blk.cell (b2) (by rfl), ?_⟩ | refine ⟨_, Blk.cell (b3) (by rfl), ?_⟩ | refine ⟨_, _, _, Blk.cell (b3) (by rfl), ?_⟩)
  intro g4 w9 f4
  have i4 : Imm KIns NoB w9 (some ⟨g4, 0, none⟩) [iFirst, iRow, iNext, iHalt] := f4.imm (fun h => h) KIns_pos rfl (by simp [maxLen]) (by
    intro i a h
    rcases i with _ | _ | _ | _ | i
    · simp at h; subst h; rfl
    · simp at h; subst h; rfl
    · simp at h; subst h; rfl
    · simp at h; subst h; rfl
    · simp at h)
  refine (prog_spec (l := [iFirst, iRow, iNext, iHalt]) rfl i4 (by simp [maxLen]) (by simp)).mono ?_
  rintro _ w10 ⟨a1, rfl, p1, k1, _⟩
  refine ⟨_, _, _, _, _, _, _, _, _, _, _, _, _, _, _, _, _, _, _, _, _, rfl, ?_⟩
  have e10 := (e8.trans' f4.ext).trans' k1
  refine (Loops_spec p1 (hT.ext e10)).mono ?_
  rintro _ w11 ⟨A1, c1, rfl, hc1, hi1, k2⟩
  rw [loops1] at hc1 hi1 ⊢
  refine ⟨_, _, _, _, rfl, ?_⟩
  have e11 := e10.trans' k2
  have k11 : Ext w8 w11 := (f4.ext.trans' k1).trans' k2
  clear f4 i4 p1 k1 k2 e10
  repeat (first | refine ⟨_, Blk.cell (b0.ext k11) (by rfl), ?_⟩ | refine ⟨_, _, _, Blk.cell (b0.ext k11) (by rfl), ?_⟩ | refine ⟨_, Blk.cell (b2.ext k11) (by rfl), ?_⟩ | refine ⟨_, _, _, Blk.cell (b2.ext k11) (by rfl), ?_⟩ | refine ⟨_, Blk.cell (b3.ext k11) (by rfl), ?_⟩ | refine ⟨_, _, _, Blk.cell (b3.ext k11) (by rfl), ?_⟩)
  intro g5 w12 f5
  have i5 : Imm KIns NoB w12 (some ⟨g5, 0, none⟩) [iFirst, iJump, iNext, iHalt] := f5.imm (fun h => h) KIns_pos rfl (by simp [maxLen]) (by
    intro i a h
    rcases i with _ | _ | _ | _ | i
    · simp at h; subst h; rfl
    · simp at h; subst h; rfl
    · simp at h; subst h; rfl
    · simp at h; subst h; rfl
    · simp at h)
  refine (prog_spec (l := [iFirst, iJump, iNext, iHalt]) rfl i5 (by simp [maxLen]) (by simp)).mono ?_
  rintro _ w13 ⟨a2, rfl, p2, k3, _⟩
  refine ⟨_, _, _, _, _, _, _, _, _, _, _, _, _, _, _, _, _, _, _, _, _, rfl, ?_⟩
  have e13 := (e11.trans' f5.ext).trans' k3
  refine (Loops_spec p2 (hT.ext e13)).mono ?_
  rintro _ w14 ⟨A2, c2, rfl, hc2, hi2, k4⟩
  rw [loops2] at hc2 hi2 ⊢
  refine ⟨_, _, _, _, rfl, ?_⟩
  have e14 := e13.trans' k4
  have k14 : Ext w11 w14 := (f5.ext.trans' k3).trans' k4
  clear f5 i5 p2 k3 k4 e13
  repeat (first | refine ⟨_, Blk.cell (b1.ext (k11.trans' k14)) (by rfl), ?_⟩ | refine ⟨_, _, _, Blk.cell (b1.ext (k11.trans' k14)) (by rfl), ?_⟩ | refine ⟨_, Blk.cell (b2.ext (k11.trans' k14)) (by rfl), ?_⟩ | refine ⟨_, _, _, Blk.cell (b2.ext (k11.trans' k14)) (by rfl), ?_⟩ | refine ⟨_, Blk.cell (b3.ext (k11.trans' k14)) (by rfl), ?_⟩ | refine ⟨_, _, _, Blk.cell (b3.ext (k11.trans' k14)) (by rfl), ?_⟩)
  intro g6 w15 f6
  have i6 : Imm KIns NoB w15 (some ⟨g6, 0, none⟩) [iRow, iNext, iHalt] := f6.imm (fun h => h) KIns_pos rfl (by simp [maxLen]) (by
    intro i a h
    rcases i with _ | _ | _ | i
    · simp at h; subst h; rfl
    · simp at h; subst h; rfl
    · simp at h; subst h; rfl
    · simp at h)
  refine (prog_spec (l := [iRow, iNext, iHalt]) rfl i6 (by simp [maxLen]) (by simp)).mono ?_
  rintro _ w16 ⟨a3, rfl, p3, k5, _⟩
  refine ⟨_, _, _, _, _, _, _, _, _, _, _, _, _, _, _, _, _, _, _, _, _, rfl, ?_⟩
  have e16 := (e14.trans' f6.ext).trans' k5
  refine (Loops_spec p3 (hT.ext e16)).mono ?_
  rintro _ w17 ⟨A3, c3, rfl, hc3, hi3, k6⟩
  rw [loops3] at hc3 hi3 ⊢
  refine ⟨_, _, _, _, rfl, ?_⟩
  have e17 := e16.trans' k6
  have k17 : Ext w14 w17 := (f6.ext.trans' k5).trans' k6
  clear f6 i6 p3 k5 k6 e16
  have hi1 := hi1.ext KLp_pos (k14.trans' k17)
  have hi2 := hi2.ext KLp_pos k17
  intro g7 w18 f7
  refine ⟨f7.blk.stOK (lpC ⟨0, 2, 0, -1, 0, -1⟩) 0 (by simp), fun w19 hw => ?_⟩
  obtain ⟨b7, q7⟩ := set0 f7.blk hw rfl
  have k19 : Ext w17 w19 := f7.ext.trans q7 (fun _ _ h => h) (fun k hk e => by have := f7.ge; omega)
  clear hw q7 f7
  have e19 := e17.trans' k19
  refine brt (decide_eq_true rfl) (brt (decide_eq_true rfl) (brt (decide_eq_true rfl) (brt (decide_eq_true rfl) ?_)))
  obtain ⟨ad1, hA1, hc1⟩ := lp_imm (hi1.ext KLp_pos k19) (show ([⟨0, 2, 0, -1, 0, -1⟩] : List Lp)[0]? = some _ from rfl)
  obtain ⟨ad2, hA2, hc2⟩ := lp_imm (hi2.ext KLp_pos k19) (show ([⟨0, 2, 0, -1, 0, -1⟩] : List Lp)[0]? = some _ from rfl)
  refine ⟨ad1, hA1, ⟨by decide, by decide⟩, fun u => Ext w19 u, Fr.drew NoB w19, ?_⟩
  repeat (first | refine ⟨_, fun u e => (hc1) u e _ _ (by rfl), ?_⟩ | refine ⟨_, _, _, fun u e => (hc1) u e _ _ (by rfl), ?_⟩)
  repeat (first | refine ⟨_, fun u e => Blk.cell (Blk.ext (b7) e) (by rfl), ?_⟩ | refine ⟨_, _, _, fun u e => Blk.cell (Blk.ext (b7) e) (by rfl), ?_⟩)
  refine brf (by kernel_rfl) (brt (by decide) (brt (decide_eq_true rfl) ?_))
  refine ⟨ad2, hA2, ⟨by decide, by decide⟩, ?_⟩
  repeat (first | refine ⟨_, fun u e => (hc2) u e _ _ (by rfl), ?_⟩ | refine ⟨_, _, _, fun u e => (hc2) u e _ _ (by rfl), ?_⟩)
  repeat (first | refine ⟨_, fun u e => Blk.cell (Blk.ext (b7) e) (by rfl), ?_⟩ | refine ⟨_, _, _, fun u e => Blk.cell (Blk.ext (b7) e) (by rfl), ?_⟩)
  refine brf (by kernel_rfl) ⟨rfl, e19.drew⟩
end Go.Proofs.YtabfhckjinejfaaDoor
/- Layer 16, plain: what is so of a program's loops. -/
set_option linter.unusedVariables false
set_option linter.unusedSimpArgs false
namespace L16
open Go.Sx R1 K15
/-- a loop is one that an instruction begins -/
def Bg (p : Prog) (x : Lp) : Prop := ∃ (s : Nat) (h : s < p.code.length), (p.code[s].op = 13 ∨ p.code[s].op = 14 ∨ p.code[s].op = 21) ∧ loopI p s p.code[s] = (x, true)
theorem foundI_all (p : Prog) : ∀ (r : List Ins) (t n : Nat) (l L : List Lp), p.code.drop t = r → foundI p t r l n = (L, true) → (∀ x ∈ l, Bg p x) → (∀ x ∈ l, x.fr < (t : Int)) → l.Pairwise (fun x y => x.fr < y.fr) → (∀ x ∈ L, Bg p x) ∧ L.Pairwise (fun x y => x.fr < y.fr)
  | [], t, n, l, L, hr, h, h1, h2, h3 => by
    rw [foundI] at h
    have : l = L := congrArg Prod.fst h
    subst this
    exact ⟨h1, h3⟩
  | i :: r, t, n, l, L, hr, h, h1, h2, h3 => by
    have ht : t < p.code.length := by
      rcases Nat.lt_or_ge t p.code.length with h | h
      · exact h
      · rw [List.drop_eq_nil_of_le h] at hr; cases hr
    rw [List.drop_eq_getElem_cons ht] at hr
    injection hr with hi hr
    have lt : ∀ (m : List Lp), (∀ x ∈ m, x.fr < (t : Int)) → ∀ x ∈ m, x.fr < ((t + 1 : Nat) : Int) := fun m hm x hx => by have := hm x hx; omega
    rw [foundI] at h
    split at h
    · exact foundI_all p r (t + 1) (n + 1) l L hr h h1 (lt l h2) h3
    · split at h
      · rename_i ho
        split at h
        · rename_i h4
          have hfr : (loopI p t i).1.fr = (t : Int) := by unfold loopI; dsimp only; split <;> rfl
          refine foundI_all p r (t + 1) n _ L hr h (fun x hx => ?_) (fun x hx => ?_) ?_
          · rcases List.mem_append.1 hx with hx | hx
            · exact h1 x hx
            · simp only [List.mem_singleton] at hx
              subst hx
              refine ⟨t, ht, by rw [hi]; exact ho, ?_⟩
              rw [hi]
              exact Prod.ext rfl h4
          · rcases List.mem_append.1 hx with hx | hx
            · exact lt l h2 x hx
            · simp only [List.mem_singleton] at hx
              subst hx
              rw [hfr]; omega
          · rw [List.pairwise_append]
            refine ⟨h3, by simp, fun x hx y hy => ?_⟩
            simp only [List.mem_singleton] at hy
            subst hy
            rw [hfr]; exact h2 x hx
        · cases h
      · exact foundI_all p r (t + 1) n l L hr h h1 (lt l h2) h3
/-- the same loop, but for how deep it is and what it is in -/
def Like (x y : Lp) : Prop := x.fr = y.fr ∧ x.en = y.en ∧ x.cu = y.cu ∧ x.so = y.so
theorem nestL_from : ∀ (r acc l : List Lp), nestL acc r = some l → (∀ x ∈ acc, x.dp < 12) → ∀ x ∈ l, x.dp < 12 ∧ (x ∈ acc ∨ ∃ y ∈ r, Like x y)
  | [], acc, l, h, ha, x, hx => by cases h; exact ⟨ha x hx, .inl hx⟩
  | y :: r, acc, l, h, ha, x, hx => by
    rw [nestL] at h
    split at h
    · cases h
    · split at h
      · cases h
      · rename_i hd
        obtain ⟨h1, h2⟩ := nestL_from r _ l h (fun z hz => by
          rcases List.mem_append.1 hz with hz | hz
          · exact ha z hz
          · simp only [List.mem_singleton] at hz
            subst hz
            show ((cnt acc y.fr : Nat) : Int) < 12
            omega) x hx
        refine ⟨h1, ?_⟩
        rcases h2 with h2 | ⟨z, hz, hl⟩
        · rcases List.mem_append.1 h2 with h2 | h2
          · exact .inl h2
          · simp only [List.mem_singleton] at h2
            subst h2
            exact .inr ⟨y, List.mem_cons_self, rfl, rfl, rfl, rfl⟩
        · exact .inr ⟨z, List.mem_cons_of_mem _ hz, hl⟩
/-- what is so of a program's loops -/
structure LoopsOK (p : Prog) (l : List Lp) : Prop where
  chk : Checked p
  nest : Nested l
  bg : ∀ x ∈ l, x.dp < 12 ∧ ∃ (s : Nat) (h : s < p.code.length), x.fr = (s : Int) ∧ x.en = p.code[s].b - 1 ∧ x.fr < x.en ∧ x.en < p.code.length ∧ (p.code[s].op = 13 ∨ p.code[s].op = 14 ∨ p.code[s].op = 21) ∧
    ((p.code[s].op = 21 ∧ x.cu = -1 ∧ x.so = p.code[s].a ∧ 0 ≤ x.so) ∨ (p.code[s].op ≠ 21 ∧ x.cu = p.code[s].a ∧ x.so = -1 ∧ 0 ≤ x.cu))
  calm : calmAll l 0 p.code = true
theorem field_c {p : Prog} {t n : Int} {l : Int} (hl : l = 99 ∨ l = 105 ∨ l = 115) (h : fieldP p t l n = true) : 0 ≤ n := by
  rcases hl with rfl | rfl | rfl <;> simp [fieldP, below] at h <;> omega
theorem loops_ok {p : Prog} {l : List Lp} (h : loopsP p = (l, 0)) : LoopsOK p l := by
  unfold loopsP at h
  cases hc : checkP p with
  | false => rw [hc] at h; simp at h
  | true =>
  rw [hc] at h
  simp only [Bool.not_true, Bool.false_eq_true, if_false] at h
  have hC := checked hc
  cases hf : foundI p 0 p.code [] 0 with
  | mk L ok =>
  rw [hf] at h
  cases ok with
  | false => simp at h
  | true =>
  simp only at h
  cases hn : nestL [] L with
  | none => rw [hn] at h; simp at h
  | some l' =>
  rw [hn] at h
  simp only at h
  split at h
  · simp at h
  · split at h
    · rename_i hcalm
      cases h
      obtain ⟨hb, hpw⟩ := foundI_all p p.code 0 0 [] L rfl hf (fun x hx => by simp at hx) (fun x hx => by simp at hx) List.Pairwise.nil
      have hbg : ∀ x ∈ L, ∃ (s : Nat) (h : s < p.code.length), x.fr = (s : Int) ∧ x.en = p.code[s].b - 1 ∧ x.fr < x.en ∧ x.en < p.code.length ∧ (p.code[s].op = 13 ∨ p.code[s].op = 14 ∨ p.code[s].op = 21) ∧
          ((p.code[s].op = 21 ∧ x.cu = -1 ∧ x.so = p.code[s].a ∧ 0 ≤ x.so) ∨ (p.code[s].op ≠ 21 ∧ x.cu = p.code[s].a ∧ x.so = -1 ∧ 0 ≤ x.cu)) := by
        intro x hx
        obtain ⟨s, hs, hop, hl⟩ := hb x hx
        have hj := (jumps hC s hs).2.1 (by rcases hop with h | h | h <;> simp [h])
        have hE : insAt p s = p.code[s] := by simp [insAt, hs]
        have ho := hC.at_ s hs
        simp only [okAt, Bool.and_eq_true] at ho
        have hfld := ho.1
        have hne : ¬ (p.code[s].b - 1).toNat = s := by
          intro he
          have h2 := congrArg Prod.snd hl
          unfold loopI at h2
          dsimp only at h2
          rw [he, hE] at h2
          simp only [Bool.and_eq_true, decide_eq_true_eq] at h2
          have := h2.1
          rcases hop with h | h | h <;> rw [h] at this <;> simp at this
        have h1 := congrArg Prod.fst hl
        unfold loopI at h1
        dsimp only at h1
        have sh : ∀ o l, p.code[s].op = o → lookS shapes o = l → shapeP p.code[s].op = l := fun o l h1 h2 => by rw [h1]; exact h2
        refine ⟨s, hs, ?_⟩
        by_cases h21 : p.code[s].op = 21
        · rw [if_pos h21] at h1
          subst h1
          have := field_c (.inr (.inr rfl)) (show fieldP p s 115 p.code[s].a = true from (fieldsL_of (sh _ _ h21 rfl) hfld).1)
          exact ⟨rfl, rfl, by dsimp only; omega, by dsimp only; omega, hop, .inl ⟨h21, rfl, rfl, this⟩⟩
        · rw [if_neg h21] at h1
          subst h1
          have : 0 ≤ p.code[s].a := by
            rcases hop with h | h | h
            · exact field_c (.inl rfl) (show fieldP p s 99 p.code[s].a = true from (fieldsL_of (sh _ _ h rfl) hfld).1)
            · exact field_c (.inr (.inl rfl)) (show fieldP p s 105 p.code[s].a = true from (fieldsL_of (sh _ _ h rfl) hfld).1)
            · exact absurd h h21
          exact ⟨rfl, rfl, by dsimp only; omega, by dsimp only; omega, hop, .inr ⟨h21, rfl, rfl, this⟩⟩
      have hnest : Nested l := nestL_nested L [] l ⟨fun i j x y h => by simp at h, fun i x h => by simp at h, fun i j x y h => by simp at h, fun i x h => by simp at h⟩ (fun i x y h => by simp at h) (fun x hx => by obtain ⟨s, hs, _, _, h, _⟩ := hbg x hx; exact h) hpw hn
      refine ⟨hC, hnest, fun x hx => ?_, hcalm⟩
      obtain ⟨hd, hx⟩ := nestL_from L [] l hn (fun x hx => by simp at hx) x hx
      refine ⟨hd, ?_⟩
      rcases hx with hx | ⟨y, hy, l1, l2, l3, l4⟩
      · simp at hx
      · rw [l1, l2, l3, l4]; exact hbg y hy
    · simp at h
theorem insF_le {p : Prog} {l : List Lp} (h : LoopsOK p l) (a : Int) : cnt l a ≤ 12 := by
  rcases Nat.eq_zero_or_pos (cnt l a) with h0 | h0
  · omega
  · have hl : cnt l a - 1 < (insF l 0 a).length := by rw [insF_length]; omega
    obtain ⟨x, hx, hd, _⟩ := depth_place h.nest a (cnt l a - 1) _ (List.getElem?_eq_getElem hl)
    have := (h.bg x (List.mem_of_getElem? hx)).1
    omega
end L16
/- Layer 16: FlowDepth. -/
set_option linter.unusedVariables false
set_option linter.unusedSimpArgs false
namespace Go.Proofs.YtabfhckjinejfaaDoor
open Go Go.Sx R1 K15 L16
theorem ups_of {p : Prog} {l : List Lp} (h : LoopsOK p l) : Ups l := by
  have hl4 := h.chk.hi
  have rng : ∀ x ∈ l, 0 ≤ x.fr ∧ x.fr ≤ 4000 := fun x hx => by
    obtain ⟨_, s, hs, h1, _⟩ := h.bg x hx
    omega
  have hlt : ∀ (k : Nat) (h' : k < l.length), (k : Int) ≤ l[k].fr := by
    intro k
    induction k with
    | zero => intro h'; exact (rng _ (by simp)).1
    | succ k ih =>
      intro h'
      have h1 := ih (by omega)
      have h2 := h.nest.up k (k + 1) _ _ (List.getElem?_eq_getElem (by omega)) (List.getElem?_eq_getElem h') (by omega)
      omega
  have hlen : l.length ≤ 4000 := by
    rcases Nat.lt_or_ge l.length 4001 with h' | h'
    · omega
    · have h1 := hlt 4000 (by omega)
      obtain ⟨_, s, hs, h2, _⟩ := h.bg l[4000] (by simp)
      omega
  exact ⟨h.nest.up, rng, hlen⟩
set_option maxRecDepth 20000 in
theorem FlowDepth_holds {w : World} {p : Prog} {a : PAd} (h : PIm w p a) (hT : Tab w) : CallsV Tryd.prog 3 #[pagg p a] w fun r w' => r = .bool true ∧ Ext w w' := by
  refine cardindexlaw16_FlowDepth.calls okay ?_
  unfold cardindexlaw16_FlowDepth.W
  intro g w1 f
  repeat (first | refine ⟨_, Blk.cell (f.blk) (by rfl), ?_⟩ | refine ⟨_, _, _, Blk.cell (f.blk) (by rfl), ?_⟩)
  refine (great_spec (h.ext f.ext)).mono ?_
  rintro _ w2 ⟨b, rfl, hb, k2⟩
  have e2 := f.ext.trans' k2
  have fin : ∀ u, Ext w u → CallsV Tryd.prog 8 #[] u fun v w' => ∃ x, v = .bool x ∧ (Value.bool x = .bool true ∧ Ext w w') := fun u e => by
    refine (awake_spec (hT.ext e)).mono ?_
    rintro _ u1 ⟨rfl, e1⟩
    exact ⟨_, rfl, rfl, e.trans' e1⟩
  refine ⟨_, rfl, br (fun _ => fin w2 e2) (fun hgr => ?_)⟩
  repeat (first | refine ⟨_, Blk.cell (f.blk.ext k2) (by rfl), ?_⟩ | refine ⟨_, _, _, Blk.cell (f.blk.ext k2) (by rfl), ?_⟩)
  refine (Loops_spec (h.ext e2) (hT.ext e2)).mono ?_
  rintro _ w3 ⟨A, c, rfl, hc, hi, k3⟩
  have e3 := e2.trans' k3
  refine ⟨_, _, _, _, rfl, brn (fun _ => fin w3 e3) (fun h0 => ?_)⟩
  have hLO : LoopsOK p (loopsP p).1 := loops_ok (by rw [← h0])
  have bp := f.blk.ext (k2.trans' k3)
  clear f
  generalize (loopsP p).1 = l at *
  have hU := ups_of hLO
  have hN := hLO.nest
  have hlen := hLO.chk.hi
  have hll := hU.len
  have getx : ∀ (k : Nat) (x : Lp), l[k]? = some x → ∀ u, Ext w3 u → ∃ ad, A = some ad ∧ ∀ v, Ext u v → ∀ (j : Nat) (y : Value), (lpC x)[j]? = some y → v.cell? ((ad.add (k * 6)).add j) = some y := fun k x hk u e => by
    obtain ⟨ad, hA, hcell⟩ := lp_imm (hi.ext (by decide) e) hk
    exact ⟨ad, hA, hcell⟩
  repeat (first | refine ⟨_, Blk.cell (bp) (by rfl), ?_⟩ | refine ⟨_, _, _, Blk.cell (bp) (by rfl), ?_⟩)
  refine ⟨fun x u => ∃ t : Nat, t ≤ p.code.length ∧ x = (t : Int) ∧ Ext w3 u, fun x _ => ((p.code.length : Int) - x).toNat, ⟨0, by omega, rfl, .refl _ _⟩, ?_⟩
  rintro _ u ⟨t, ht, rfl, e⟩
  refine brd (fun hlt => ?_) (fun _ => ?_)
  · refine (Inside_spec rfl (hi.ext (by decide) e) hU (t : Int) (by have := insF_le hLO (t : Int); omega)).mono ?_
    rintro _ v ⟨B, d, rfl, hd, hI, k4⟩
    have e4 := e.trans' k4
    have hZ : ∀ (j : Nat) (h : j < (insZ l t).length), ∃ k : Nat, (insZ l t)[j] = (k : Int) ∧ (insF l 0 t)[j]? = some k ∧ k < l.length := fun j h => insZ_get (List.getElem?_eq_getElem h)
    have hzl := insZ_length l (t : Int)
    have h12 := insF_le hLO (t : Int)
    have hIl := insF_length (t : Int) l 0
    refine ⟨_, _, _, rfl, fun x u => ∃ j : Nat, j ≤ (insZ l t).length ∧ x = (j : Int) ∧ Ext v u, fun x _ => (((insZ l t).length : Int) - x).toNat, ⟨0, by omega, rfl, .refl _ _⟩, ?_⟩
    rintro _ v1 ⟨j, hj, rfl, k5⟩
    refine brd (fun hlt => ?_) (fun _ => ?_)
    rotate_left
    · rw [wi _ (by omega) (by omega)]
      exact ⟨⟨t + 1, by omega, rfl, e4.trans' k5⟩, by dsimp only; omega⟩
    have hjl : j < (insZ l t).length := by omega
    obtain ⟨k, hk, hk1, hkl⟩ := hZ j hjl
    obtain ⟨x, hx, hdp, hin⟩ := depth_place hN (t : Int) j k hk1
    obtain ⟨ad, hA, hcell⟩ := ints_imm (hI.ext (by decide) k5) hjl
    refine ⟨ad, hA, ⟨by omega, by omega⟩, _, hcell v1 (.refl _ _), ?_⟩
    rw [hk]
    obtain ⟨ad2, hA2, hx2⟩ := getx k x hx v1 (e4.trans' k5)
    refine ⟨ad2, hA2, ⟨by omega, by omega⟩, fun u => Ext v1 u, Fr.drew NoB v1, _, fun u e => hx2 u e 4 _ rfl, brn (fun hne => absurd hdp hne) (fun _ => ?_)⟩
    rw [wi ((j : Int) + 1) (by omega) (by omega)]
    have next : (∃ j' : Nat, j' ≤ (insZ l t).length ∧ (j : Int) + 1 = (j' : Int) ∧ Ext v v1.drew) ∧ (((insZ l t).length : Int) - ((j : Int) + 1)).toNat < (((insZ l t).length : Int) - (j : Int)).toNat := ⟨⟨j + 1, by omega, rfl, k5.drew⟩, by omega⟩
    have up : ∀ (h : 0 < j), ∃ k' : Nat, (insZ l t)[j - 1]? = some (k' : Int) ∧ x.inn = (k' : Int) := fun h => by
      obtain ⟨k', hk', hk1', _⟩ := hZ (j - 1) (by omega)
      refine ⟨k', by rw [List.getElem?_eq_getElem (by omega), hk'], ?_⟩
      rw [hin, if_neg (by omega)]
      simp [List.getD, hk1']
    have prev : 0 < j → (0 ≤ IntKind.i64.wrap ((j : Int) - 1) ∧ IntKind.i64.wrap ((j : Int) - 1) < ((insZ l t).length : Int)) ∧ ∃ z, (∀ u, Ext v1 u → u.cell? (ad.add (Int.toNat (IntKind.i64.wrap ((j : Int) - 1)) * 1)) = some (.int .i64 z)) ∧ x.inn = z := fun h => by
      rw [wi ((j : Int) - 1) (by omega) (by omega)]
      obtain ⟨k', hk', hin'⟩ := up h
      obtain ⟨hl', hk''⟩ := List.getElem?_eq_some_iff.1 hk'
      obtain ⟨ad', hA', hcell'⟩ := ints_imm (hI.ext (by decide) k5) hl'
      rw [hA] at hA'; cases hA'
      refine ⟨⟨by omega, by omega⟩, (k' : Int), fun u e => ?_, hin'⟩
      rw [show Int.toNat ((j : Int) - 1) = j - 1 by omega, hcell' u e, hk'']
    refine brd (fun hj0 => ?_) (fun hj0 => ?_)
    · refine ⟨ad2, hA2, ⟨by omega, by omega⟩, _, fun u e => hx2 u e 5 _ rfl, brn (fun hne => absurd (by rw [hin, if_pos (by omega)]) hne) (fun _ => ?_)⟩
      exact brd (fun h => by omega) (fun _ => next)
    · refine brd (fun hjp => ?_) (fun _ => next)
      obtain ⟨hr, z, hz1, hz2⟩ := prev (by omega)
      exact ⟨ad2, hA2, ⟨by omega, by omega⟩, _, fun u e => hx2 u e 5 _ rfl, ad, hA, hr, _, hz1, brn (fun hne => absurd hz2 hne) (fun _ => next)⟩
  · refine ⟨fun x v => ∃ k : Nat, k ≤ l.length ∧ x = (k : Int) ∧ Ext w3 v, fun x _ => ((l.length : Int) - x).toNat, ⟨0, by omega, rfl, e⟩, ?_⟩
    rintro _ v ⟨k, hk, rfl, k4⟩
    refine brd (fun hlt => ?_) (fun _ => fin v (e3.trans' k4))
    have hkl : k < l.length := by omega
    have hx := List.getElem?_eq_getElem hkl
    generalize l[k] = x at *
    obtain ⟨ad, hA, hcell⟩ := getx k x hx v k4
    refine ⟨ad, hA, ⟨by omega, by omega⟩, ?_⟩
    repeat (first | refine ⟨_, (hcell v (.refl _ _)) _ _ (by rfl), ?_⟩ | refine ⟨_, _, _, (hcell v (.refl _ _)) _ _ (by rfl), ?_⟩)
    clear hcell
    intro g4 v1 f4
    refine ⟨f4.blk.stOK (lpC x) 0 (by simp), fun v2 hv2 => ?_⟩
    obtain ⟨b4, q4⟩ := set0 f4.blk hv2 rfl
    have k5 : Ext v v2 := f4.ext.trans q4 (fun _ _ h => h) (fun k hk e => by have := f4.ge; omega)
    clear hv2 f4 q4
    repeat (first | refine ⟨_, Blk.cell (b4) (by rfl), ?_⟩ | refine ⟨_, _, _, Blk.cell (b4) (by rfl), ?_⟩)
    have e5 := k4.trans' k5
    refine (Inside_spec rfl (hi.ext (by decide) e5) hU x.fr (by have := insF_le hLO x.fr; omega)).mono ?_
    rintro _ v3 ⟨B, d, rfl, hd, hI, k6⟩
    have e6 := e5.trans' k6
    have b4 := b4.ext k6
    obtain ⟨q1, q2, q3⟩ := depth_own hN k x hx
    have hzl := insZ_length l x.fr
    have hIl := insF_length x.fr l 0
    have h12 := insF_le hLO x.fr
    obtain ⟨_, s, hs, _, _, _, _, _, hcs⟩ := hLO.bg x (List.mem_of_getElem? hx)
    have hxor : ¬ decide (x.cu < 0) = decide (x.so < 0) := by
      rcases hcs with ⟨_, h1, _, h2⟩ | ⟨_, _, h1, h2⟩
      · rw [decide_eq_true (by omega : x.cu < 0), decide_eq_false (by omega : ¬ x.so < 0)]; decide
      · rw [decide_eq_false (by omega : ¬ x.cu < 0), decide_eq_true (by omega : x.so < 0)]; decide
    have tail : ∃ z, (∀ u, Ext v3 u → u.cell? ((⟨g4, 0, none⟩ : Addr).add 2) = some (.int .i64 z)) ∧ ∃ z', (∀ u, Ext v3 u → u.cell? ((⟨g4, 0, none⟩ : Addr).add 3) = some (.int .i64 z')) ∧
        bif decide (decide (z < 0) = decide (z' < 0)) then (Value.bool false = .bool true ∧ Ext w v3.drew) else ∃ y, (∀ u, Ext v3 u → u.cell? ((⟨g4, 0, none⟩ : Addr).add 5) = some (.int .i64 y)) ∧
          bif decide ((k : Int) ≤ y) then (Value.bool false = .bool true ∧ Ext w v3.drew) else ((∃ k' : Nat, k' ≤ l.length ∧ IntKind.i64.wrap ((k : Int) + 1) = (k' : Int) ∧ Ext w3 v3.drew) ∧ (fun (x : Int) (_ : World) => ((l.length : Int) - x).toNat) (IntKind.i64.wrap ((k : Int) + 1)) v3.drew < (fun (x : Int) (_ : World) => ((l.length : Int) - x).toNat) (k : Int) v) := by
      refine ⟨_, fun u e => (b4.ext e).cell rfl, _, fun u e => (b4.ext e).cell rfl, brd (fun h => absurd h hxor) (fun _ => ⟨_, fun u e => (b4.ext e).cell rfl, brd (fun h => by omega) (fun _ => ?_)⟩)⟩
      rw [wi ((k : Int) + 1) (by omega) (by omega)]
      exact ⟨⟨k + 1, by omega, rfl, e6.drew⟩, by dsimp only; omega⟩
    refine ⟨_, _, _, rfl, fun u => Ext v3 u, Fr.drew NoB v3, _, fun u e => (b4.ext e).cell rfl, brn (fun hne => absurd (by omega) hne) (fun _ => ⟨_, fun u e => (b4.ext e).cell rfl, brd (fun hpos => ?_) (fun _ => tail)⟩)⟩
    have hj : (insZ l x.fr).length - 1 < (insZ l x.fr).length := by omega
    obtain ⟨k', hk', hk1', _⟩ := insZ_get (List.getElem?_eq_getElem hj)
    obtain ⟨ad', hA', hcell'⟩ := ints_imm hI hj
    have hin : x.inn = (k' : Int) := by
      rw [q2 (by omega)]
      rw [hzl] at hk1'
      rw [hIl]
      simp [List.getD, hk1']
    refine ⟨_, fun u e => (b4.ext e).cell rfl, ad', hA', ?_⟩
    rw [wi (x.dp - 1) (by omega) (by omega)]
    refine ⟨⟨by omega, by omega⟩, (k' : Int), fun u e => ?_, _, fun u e => (b4.ext e).cell rfl, brn (fun hne => absurd hin.symm hne) (fun _ => tail)⟩
    rw [show Int.toNat (x.dp - 1) = (insZ l x.fr).length - 1 by omega, hcell' u e, hk']
end Go.Proofs.YtabfhckjinejfaaDoor
/- From what a call does to the given statement: the law answered true, and of what was there nothing turned. -/
set_option linter.unusedVariables false
set_option linter.unusedSimpArgs false
namespace Go.Sx
open Go.ChangeShapes Go.WideShapes Go.ChangeAt Go.RowKit
theorem Ext.below {w w' : World} (h : Ext w w') : Below w.heap.size w w' := ⟨h.os, h.tape, h.output, h.size, fun k hk => h.block k hk (fun h => h)⟩
section
variable {H : Type} {enc : TypeId × Value → H} {P : Program}
theorem trodAll_stays (hl : laidOutB P = true) {w w' : World} {sp : Nat → Bool} (hb : Below w.heap.size w w') : ∀ {ts : List TypeId} {vs : List Value} {ds : List (DataW H)} {ps : List MemPlace},
    (∀ t ∈ ts, P.readableRec t = true ∧ t < P.types.size) → DataW.TrodAll enc P w 0 (fun _ => true) true ts vs ds ps → (∀ p ∈ ps, p.block < w.heap.size) → (∀ p ∈ ps, sp p.block = true) → DataW.TrodAll enc P w' 0 sp true ts vs ds ps
  | [], [], [], _, _, h, _, _ => h
  | _ :: _, _ :: _, _ :: _, _, hT, ⟨p, q, h1, h2, e⟩, hlt, hs =>
    ⟨p, q, WideElems.Trod_stays hl (hT _ (List.mem_cons.2 (.inl rfl))).1 (hT _ (List.mem_cons.2 (.inl rfl))).2 h1 (fun x hx => hb.same (hlt x (by rw [e]; exact List.mem_append_left _ hx))) (fun x hx => hs x (by rw [e]; exact List.mem_append_left _ hx)),
      trodAll_stays hl hb (fun t ht => hT t (List.mem_cons.2 (.inr ht))) h2 (fun x hx => hlt x (by rw [e]; exact List.mem_append_right _ hx)) (fun x hx => hs x (by rw [e]; exact List.mem_append_right _ hx)), e⟩

theorem post_law {f : Func} {s : ChangeSpec} {apart fresh handsOn again : Bool} {W W' : World} {args : Array Value} {ds gs : List (DataW H)} {before : List MemPlace}
    (hW : DataW.Whole enc P f.params.toList s.vars apart W args.toList ds gs before) (hv : s.vars = []) (hfn : s.fn H (ds ++ gs) = { results := [.lit (.bool true)], args := ds })
    (hl : laidOutB P = true) (hT : ∀ t ∈ f.params.toList, P.readableRec t = true ∧ t < P.types.size) {tb : TypeId} (hres : f.resultTypes = #[tb]) (htb : P.underlying tb = some .bool) (e : Ext W W') :
    s.post enc P f apart fresh handsOn again W args (.bool true) W' := by
  have hW' := hW
  obtain ⟨p, q, hA, hV, hb, hz, hn⟩ := hW
  rw [hv] at hV
  obtain ⟨rfl, rfl⟩ := trodVars_none hV
  rw [List.append_nil] at hb
  subst hb
  have hlt : ∀ x ∈ before, x.block < W.heap.size := fun x hx => by simpa using hW'.lt x hx
  have hargs : ∀ sp : Nat → Bool, (∀ x ∈ before, sp x.block = true) → DataW.TrodAll enc P W' 0 sp true f.params.toList args.toList (s.fn H (ds ++ [])).args before := by
    intro sp hsp
    rw [hfn]
    exact trodAll_stays hl e.below hT hA hlt hsp
  have hr : ∀ (b : Nat) (sp : Nat → Bool) (hd : Bool), DataW.TrodAll enc P W' b sp hd f.resultTypes.toList ((Value.bool true).resultList f.resultTypes.size) (s.fn H (ds ++ [])).results [] := by
    intro b sp hd
    rw [hfn, hres]
    exact trodAll_cons_mk (shut_bool htb _) trodAll_mk0
  have hvars : ∀ sp : Nat → Bool, DataW.TrodVars enc P W' sp s.vars (s.fn H (ds ++ [])).vars [] := by
    intro sp
    rw [hfn, hv]
    exact rfl
  have hold : ∀ x ∈ before, (fun b => decide (b < W.heap.size)) x.block = true := fun x hx => by simpa using hlt x hx
  refine ⟨ds, [], before, [], before, [], by simpa using hW', hr _ _ _, hargs _ hold, hvars _, World.keptBut_mono (fun x hx => ⟨hx, .inr (.inl hx)⟩) (e.below.frame _), fun _ => ⟨?_, _, _, ([] ++ before) ++ [], ⟨[] ++ before, [], trodAll_append (hargs _ (fun _ _ => rfl)) (hr _ _ _), hvars _, rfl, ?_, ?_⟩, ?_⟩⟩
  · exact ok_one (by rw [hres]) rfl (okWide_bool_mk htb _)
  · intro b off hp
    have hp' : MemPlace.cell b off ∈ before := by simpa using hp
    rw [e.below.frozen (p := ⟨b, off, none⟩) (hlt _ hp')]
    exact hz b off (by simpa using hp')
  · intro ha
    have := hn ha
    simpa using this
  · intro x hx _
    simpa using hx
end
end Go.Sx
/- An argument that reads as data, as the engine's own kinds of memory. -/
set_option linter.unusedVariables false
set_option linter.unusedSimpArgs false
namespace Go.Sx
open Go.ChangeShapes Go.WideShapes Go.ChangeAt Go.RowKit
/-- what reads as data of type t is of kind K -/
def Opens {α : Type} (P : Program) (t : TypeId) (K : Kd α) (good : α → Prop) : Prop :=
  ∀ {H : Type} (enc : TypeId × Value → H) (w : World) (fuel : Nat) (cs : List Value) (x : DataW H × List MemPlace), DataW.trod enc P w 0 (fun _ => true) true fuel t cs = some x → ∃ a, K.rep NoB w a cs ∧ good a
section
variable {P : Program}
theorem opens_u8 {t : TypeId} (h : P.underlying t = some (.int .u8)) : Opens P t Kd.u8 (fun _ => True) := by
  intro H enc w fuel cs x hx
  obtain ⟨n, rfl, _, hw⟩ := DataW.trod_int h hx
  have hb : 0 ≤ n ∧ n ≤ 255 := by simpa [Lit.wf, IntKind.min, IntKind.max, IntKind.signed, IntKind.bits] using hw
  refine ⟨n.toNat.toUInt8, ?_, trivial⟩
  show [Value.int .u8 n] = [u8 n.toNat.toUInt8]
  rw [← toUInt8_int (by omega), Int.toNat_of_nonneg hb.1]
theorem opens_int {t : TypeId} {k : IntKind} (h : P.underlying t = some (.int k)) : Opens P t (Kd.int k) (fun n => (Lit.int k n).wf = true) := by
  intro H enc w fuel cs x hx
  obtain ⟨n, rfl, _, hw⟩ := DataW.trod_int h hx
  exact ⟨n, rfl, hw⟩
theorem opens_str {t : TypeId} (h : P.underlying t = some .string) : Opens P t Kd.str (fun s => s.size ≤ maxLen) := by
  intro H enc w fuel cs x hx
  obtain ⟨s, rfl, _, hs⟩ := DataW.trod_string h hx
  exact ⟨s, rfl, hs⟩
theorem opens_slice {α : Type} {K : Kd α} {t e : TypeId} {good : α → Prop} (ht : P.underlying t = some (.slice e)) (hc : P.cellsOf e = K.size) (hz : 0 < K.size) (he : Opens P e K good) :
    Opens P t (Kd.slice K hz) (fun l => l.length ≤ maxLen ∧ ∀ a ∈ l, good a) := by
  intro H enc w fuel cs x hx
  rcases Go.Deep.open_slice ht hx with ⟨rfl, _⟩ | ⟨a, len, cap, m, n, D, Pl, rfl, _, hl, hm, hmm, _, hel⟩
  · exact ⟨[], ⟨none, 0, rfl, Nat.le_refl _, Imm.nil K _ _ _⟩, by simp, by simp⟩
  · rw [if_pos rfl] at hmm
    subst hmm
    have hex : ∀ i : Fin len, ∃ b, ∃ cs', w.cells? 0 (a.add (i.val * K.size)) K.size = some cs' ∧ K.rep NoB w b cs' ∧ good b := fun i => by
      obtain ⟨cs', h1, h2⟩ := hel i.val (Nat.lt_of_lt_of_le i.isLt hl)
      obtain ⟨b, hb, hg⟩ := he enc w n cs' _ h2
      rw [hc] at h1
      exact ⟨b, cs', h1, hb, hg⟩
    let f : Fin len → α := fun i => Classical.choose (hex i)
    have hf : ∀ i, ∃ cs', w.cells? 0 (a.add (i.val * K.size)) K.size = some cs' ∧ K.rep NoB w (f i) cs' ∧ good (f i) := fun i => Classical.choose_spec (hex i)
    refine ⟨List.ofFn f, ⟨some a, m, by rw [List.length_ofFn], by rw [List.length_ofFn]; exact hl, ?_⟩, by rw [List.length_ofFn]; omega, ?_⟩
    · intro i b hi
      have hlt : i < len := by have := (List.getElem?_eq_some_iff.1 hi).1; rwa [List.length_ofFn] at this
      have hb : f ⟨i, hlt⟩ = b := by simpa [List.getElem?_ofFn, hlt] using hi
      obtain ⟨cs', h1, h2, _⟩ := hf ⟨i, hlt⟩
      rw [hb] at h2
      refine ⟨a, rfl, fun h => h, cs', h2, fun j v hj => ?_⟩
      obtain ⟨_, hlen, hcell⟩ := World.cells?_some h1
      have hjl : j < K.size := by rw [← hlen]; exact (List.getElem?_eq_some_iff.1 hj).1
      rw [← add_add, hcell j hjl]
      exact hj
    · intro b hb
      obtain ⟨i, rfl⟩ := List.mem_ofFn.1 hb
      obtain ⟨_, _, _, hg⟩ := hf i
      exact hg

/-- an argument that is a slice -/
theorem arg_slice {α : Type} {K : Kd α} {H : Type} {enc : TypeId × Value → H} {W : World} {r : Reach} {base : Nat} {t e : TypeId} {good : α → Prop} {v : Value} {d : DataW H} {ps : List MemPlace} (ht : P.underlying t = some (.slice e)) (hc : P.cellsOf e = K.size) (hz : 0 < K.size) (he : Opens P e K good)
    (hval : Value.okWide P W r base t v) (h : DataW.Trod enc P W 0 (fun _ => true) true t v d ps) : ∃ A c l, v = .slice A l.length c ∧ l.length ≤ c ∧ l.length ≤ maxLen ∧ Imm K NoB W A l ∧ ∀ a ∈ l, good a := by
  obtain ⟨A, n, c, rfl⟩ := okWide_slice ht hval
  obtain ⟨fuel, hf⟩ := h
  obtain ⟨l, ⟨A', c', he', hl, hi⟩, hm, hg⟩ := opens_slice ht hc hz he enc W fuel _ _ hf
  have : Value.slice A n c = .slice A' l.length c' := by simpa [Value.cells] using he'
  cases this
  exact ⟨A, c, l, rfl, hl, hm, hi, hg⟩
theorem int_range {k : IntKind} {x : Int} (h : (Lit.int k x).wf = true) : k.min ≤ x ∧ x ≤ k.max := by simpa [Lit.wf] using h
theorem i64_range {x : Int} (h : (Lit.int .i64 x).wf = true) : -9223372036854775808 ≤ x ∧ x ≤ 9223372036854775807 := by
  simpa [Lit.wf, IntKind.min, IntKind.max, IntKind.signed, IntKind.bits] using h
theorem u64_nat {x : Int} (h : (Lit.int .u64 x).wf = true) : ∃ n : Nat, x = (n : Int) ∧ n < 18446744073709551616 := by
  have hx : 0 ≤ x ∧ x ≤ 18446744073709551615 := by simpa [Lit.wf, IntKind.min, IntKind.max, IntKind.signed, IntKind.bits] using h
  exact ⟨x.toNat, by omega, by omega⟩
theorem u16_nat {x : Int} (h : (Lit.int .u16 x).wf = true) : ∃ n : Nat, x = (n : Int) ∧ n < 65536 := by
  have hx : 0 ≤ x ∧ x ≤ 65535 := by simpa [Lit.wf, IntKind.min, IntKind.max, IntKind.signed, IntKind.bits] using h
  exact ⟨x.toNat, by omega, by omega⟩
theorem u8_nat {x : Int} (h : (Lit.int .u8 x).wf = true) : ∃ n : Nat, x = (n : Int) ∧ n < 256 := by
  have hx : 0 ≤ x ∧ x ≤ 255 := by simpa [Lit.wf, IntKind.min, IntKind.max, IntKind.signed, IntKind.bits] using h
  exact ⟨x.toNat, by omega, by omega⟩
theorem opens_bool {t : TypeId} (h : P.underlying t = some .bool) : Opens P t Kd.bool (fun _ => True) := by
  intro H enc w fuel cs x hx
  obtain ⟨b, rfl, _⟩ := DataW.trod_bool h hx
  exact ⟨b, rfl, trivial⟩
/-- a struct's fields -/
def sfs (P : Program) (t : TypeId) : Array Field := match P.underlying t with | some (.struct fs) => fs | _ => #[]
theorem opens_fields {t : TypeId} (ht : P.underlying t = some (.struct (sfs P t))) {H : Type} {enc : TypeId × Value → H} {w : World} {fuel : Nat} {cs : List Value} {x : DataW H × List MemPlace} (h : DataW.trod enc P w 0 (fun _ => true) true fuel t cs = some x) :
    cs.length = P.cellsOf t ∧ ∀ {α : Type} (i : Nat) {ft : TypeId} {off : Nat} {K : Kd α} {good : α → Prop}, ((sfs P t)[i]?).map (fun f => (f.type, f.offset)) = some (ft, off) → P.cellsOf ft = K.size → Opens P ft K good → ∃ a, K.rep NoB w a ((cs.drop off).take K.size) ∧ good a := by
  obtain ⟨xs, n, _, rfl, hl, hlen, hf⟩ := DataW.trod_struct ht h
  refine ⟨hl, fun {α} i {ft off K good} hi hc ho => ?_⟩
  cases hg : (sfs P t)[i]? with
  | none => simp [hg] at hi
  | some f =>
    simp [hg] at hi
    obtain ⟨rfl, rfl⟩ := hi
    have h1 := hf i f hg
    have hlt : i < xs.length := by rw [hlen]; exact (Array.getElem?_eq_some_iff.1 hg).1
    rw [List.getElem?_eq_getElem hlt] at h1
    rw [hc] at h1
    exact ho enc w n _ _ h1
theorem okWide_array {w : World} {r : Reach} {base n : Nat} {t e : TypeId} {v : Value} (ht : P.underlying t = some (.array n e)) (h : Value.okWide P w r base t v) : ∃ cs, v = .agg cs ∧ cs.size = P.cellsOf t := by
  unfold Value.okWide at h
  rw [ht] at h
  cases v <;> simp at h
  exact ⟨_, rfl, h.1⟩
/-- two flags, as an array -/
theorem arg_flags2 {H : Type} {enc : TypeId × Value → H} {W : World} {r : Reach} {base : Nat} {t e : TypeId} {v : Value} {d : DataW H} {ps : List MemPlace} (ht : P.underlying t = some (.array 2 e)) (he : P.underlying e = some .bool) (hc : P.cellsOf e = 1) (hc2 : P.cellsOf t = 2)
    (hval : Value.okWide P W r base t v) (h : DataW.Trod enc P W 0 (fun _ => true) true t v d ps) : ∃ a b, v = .agg #[.bool a, .bool b] := by
  obtain ⟨cs, rfl, hs⟩ := okWide_array ht hval
  obtain ⟨fuel, hf⟩ := h
  obtain ⟨xs, m, _, _, hl, hlen, hx⟩ := DataW.trod_array ht hf
  rw [hc2] at hs
  rw [hc] at hx
  obtain ⟨l⟩ := cs
  match l, hs, xs, hlen with
  | [c0, c1], _, [x0, x1], _ =>
    obtain ⟨a, ha, _⟩ := DataW.trod_bool he (show DataW.trod enc P W 0 (fun _ => true) true m e [c0] = some x0 from hx 0 (by decide))
    obtain ⟨b, hb, _⟩ := DataW.trod_bool he (show DataW.trod enc P W 0 (fun _ => true) true m e [c1] = some x1 from hx 1 (by decide))
    cases ha; cases hb
    exact ⟨a, b, rfl⟩
end
end Go.Sx
/- Layer 3: an argument of values. -/
set_option linter.unusedVariables false
namespace Go.Proofs.YtabfhckjinejfaaDoor
open Go Go.Sx R1
theorem opens_V : Opens Tryd.prog 67 KV good := by
  intro H enc w fuel cs x hx
  obtain ⟨hl, hf⟩ := opens_fields (by kernel_rfl) hx
  obtain ⟨k, hk, gk⟩ := hf 0 (ft := 65) (off := 0) (K := Kd.int .u8) (by kernel_rfl) (by kernel_rfl) (opens_int (by kernel_rfl))
  obtain ⟨n, hn, gn⟩ := hf 1 (ft := 2) (off := 1) (K := Kd.int .i64) (by kernel_rfl) (by kernel_rfl) (opens_int (by kernel_rfl))
  obtain ⟨s, hs, gs⟩ := hf 2 (ft := 9) (off := 2) (K := Kd.str) (by kernel_rfl) (by kernel_rfl) (opens_str (by kernel_rfl))
  have hl3 : cs.length = 3 := hl.trans (by kernel_rfl)
  match cs, hl3 with
  | [a, b, c], _ =>
    have hk : [a] = [.int .u8 k] := hk
    have hn : [b] = [.int .i64 n] := hn
    have hs : [c] = [.string s] := hs
    obtain ⟨m, rfl, hm⟩ := u8_nat gk
    exact ⟨⟨(m : Int), n, s⟩, by cases hk; cases hn; cases hs; rfl, ⟨by dsimp only; omega, by dsimp only; omega⟩, i64_range gn, gs⟩
theorem opens_flag : Opens Tryd.prog 4 Kd.bool (fun _ => True) := opens_bool (by kernel_rfl)
end Go.Proofs.YtabfhckjinejfaaDoor
/- Layer 15: an argument that is a program. -/
set_option linter.unusedVariables false
set_option linter.unusedSimpArgs false
namespace Go.Proofs.YtabfhckjinejfaaDoor
open Go Go.Sx R1 K15
def isI (x : Int) : Prop := -9223372036854775808 ≤ x ∧ x ≤ 9223372036854775807
def gCur (c : Cur) : Prop := c.name.size ≤ maxLen
def gSrt (s : Srt) : Prop := s.desc.length ≤ maxLen ∧ isI s.cols
def gTot (t : Tot) : Prop := t.fn.size ≤ maxLen
def gIns (i : Ins) : Prop := (0 ≤ i.op ∧ i.op < 256) ∧ isI i.a ∧ isI i.b ∧ isI i.c ∧ isI i.d
theorem opens_Cur : Opens Tryd.prog 43 KCur gCur := by
  intro H enc w fuel cs x hx
  obtain ⟨hl, hf⟩ := opens_fields (by kernel_rfl) hx
  obtain ⟨a, ha, g1⟩ := hf 0 (ft := 9) (off := 0) (K := Kd.str) (by kernel_rfl) (by kernel_rfl) (opens_str (by kernel_rfl))
  obtain ⟨b, hb, _⟩ := hf 1 (ft := 4) (off := 1) (K := Kd.bool) (by kernel_rfl) (by kernel_rfl) (opens_bool (by kernel_rfl))
  obtain ⟨c, hc, _⟩ := hf 2 (ft := 4) (off := 2) (K := Kd.bool) (by kernel_rfl) (by kernel_rfl) (opens_bool (by kernel_rfl))
  have hl3 : cs.length = 3 := hl.trans (by kernel_rfl)
  match cs, hl3 with
  | [x, y, z], _ =>
    have ha : [x] = [.string a] := ha
    have hb : [y] = [.bool b] := hb
    have hc : [z] = [.bool c] := hc
    exact ⟨⟨a, b, c⟩, by cases ha; cases hb; cases hc; rfl, g1⟩
theorem opens_Tot : Opens Tryd.prog 69 KTot gTot := by
  intro H enc w fuel cs x hx
  obtain ⟨hl, hf⟩ := opens_fields (by kernel_rfl) hx
  obtain ⟨a, ha, g1⟩ := hf 0 (ft := 9) (off := 0) (K := Kd.str) (by kernel_rfl) (by kernel_rfl) (opens_str (by kernel_rfl))
  obtain ⟨b, hb, _⟩ := hf 1 (ft := 4) (off := 1) (K := Kd.bool) (by kernel_rfl) (by kernel_rfl) (opens_bool (by kernel_rfl))
  have hl3 : cs.length = 2 := hl.trans (by kernel_rfl)
  match cs, hl3 with
  | [x, y], _ =>
    have ha : [x] = [.string a] := ha
    have hb : [y] = [.bool b] := hb
    exact ⟨⟨a, b⟩, by cases ha; cases hb; rfl, g1⟩
theorem opens_Srt : Opens Tryd.prog 64 KSrt gSrt := by
  intro H enc w fuel cs x hx
  obtain ⟨hl, hf⟩ := opens_fields (by kernel_rfl) hx
  obtain ⟨a, ha, g1, _⟩ := hf 0 (ft := 50) (off := 0) (K := Kd.slice Kd.bool (by decide)) (by kernel_rfl) (by kernel_rfl) (opens_slice (by kernel_rfl) (by kernel_rfl) (by decide) (opens_bool (t := 4) (by kernel_rfl)))
  obtain ⟨b, hb, g2⟩ := hf 1 (ft := 3) (off := 1) (K := Kd.int .i64) (by kernel_rfl) (by kernel_rfl) (opens_int (by kernel_rfl))
  obtain ⟨c, hc, _⟩ := hf 2 (ft := 4) (off := 2) (K := Kd.bool) (by kernel_rfl) (by kernel_rfl) (opens_bool (by kernel_rfl))
  have hl3 : cs.length = 3 := hl.trans (by kernel_rfl)
  match cs, hl3 with
  | [x, y, z], _ =>
    obtain ⟨A, d, ha, hd, hi⟩ := ha
    have ha : [x] = [.slice A a.length d] := ha
    have hb : [y] = [.int .i64 b] := hb
    have hc : [z] = [.bool c] := hc
    exact ⟨⟨a, b, c⟩, ⟨A, d, by cases ha; cases hb; cases hc; rfl, hd, hi⟩, g1, i64_range g2⟩
theorem opens_Ins : Opens Tryd.prog 46 KIns gIns := by
  intro H enc w fuel cs x hx
  obtain ⟨hl, hf⟩ := opens_fields (by kernel_rfl) hx
  obtain ⟨a, ha, g1⟩ := hf 0 (ft := 44) (off := 0) (K := Kd.int .u8) (by kernel_rfl) (by kernel_rfl) (opens_int (by kernel_rfl))
  obtain ⟨b, hb, g2⟩ := hf 1 (ft := 3) (off := 1) (K := Kd.int .i64) (by kernel_rfl) (by kernel_rfl) (opens_int (by kernel_rfl))
  obtain ⟨c, hc, g3⟩ := hf 2 (ft := 3) (off := 2) (K := Kd.int .i64) (by kernel_rfl) (by kernel_rfl) (opens_int (by kernel_rfl))
  obtain ⟨d, hd, g4⟩ := hf 3 (ft := 3) (off := 3) (K := Kd.int .i64) (by kernel_rfl) (by kernel_rfl) (opens_int (by kernel_rfl))
  obtain ⟨e, he, g5⟩ := hf 4 (ft := 3) (off := 4) (K := Kd.int .i64) (by kernel_rfl) (by kernel_rfl) (opens_int (by kernel_rfl))
  have hl3 : cs.length = 5 := hl.trans (by kernel_rfl)
  match cs, hl3 with
  | [x, y, z, u, v], _ =>
    have ha : [x] = [.int .u8 a] := ha
    have hb : [y] = [.int .i64 b] := hb
    have hc : [z] = [.int .i64 c] := hc
    have hd : [u] = [.int .i64 d] := hd
    have he : [v] = [.int .i64 e] := he
    obtain ⟨m, rfl, hm⟩ := u8_nat g1
    exact ⟨⟨(m : Int), b, c, d, e⟩, by cases ha; cases hb; cases hc; cases hd; cases he; rfl, ⟨by dsimp only; omega, by dsimp only; omega⟩, i64_range g2, i64_range g3, i64_range g4, i64_range g5⟩
/-- what an argument is, by its type alone -/
structure gProg (p : Prog) : Prop where
  ver : isI p.ver
  regs : isI p.regs
  binds : isI p.binds
  names : ∀ s ∈ p.names, s.size ≤ maxLen
  consts : ∀ v ∈ p.consts, good v
  curs : ∀ c ∈ p.curs, gCur c
  sorts : ∀ s ∈ p.sorts, gSrt s
  tots : ∀ t ∈ p.tots, gTot t
  code : ∀ i ∈ p.code, gIns i
theorem okWide_struct {P : Program} {w : World} {r : Reach} {base : Nat} {t : TypeId} {fs : Array Field} {v : Value} (ht : P.underlying t = some (.struct fs)) (h : Value.okWide P w r base t v) : ∃ cs, v = .agg cs ∧ cs.size = P.cellsOf t := by
  unfold Value.okWide at h
  rw [ht] at h
  cases v <;> simp at h
  exact ⟨_, rfl, h.1⟩
set_option maxRecDepth 10000 in
theorem arg_prog {H : Type} {enc : TypeId × Value → H} {W : World} {r : Reach} {base : Nat} {v : Value} {d : DataW H} {ps : List MemPlace}
    (hval : Value.okWide Tryd.prog W r base 29 v) (h : DataW.Trod enc Tryd.prog W 0 (fun _ => true) true 29 v d ps) : ∃ p a, v = pagg p a ∧ PIm W p a ∧ gProg p := by
  obtain ⟨arr, rfl, hs⟩ := okWide_struct (fs := sfs Tryd.prog 29) (by kernel_rfl) hval
  obtain ⟨fuel, hf⟩ := h
  obtain ⟨hl, hf⟩ := opens_fields (by kernel_rfl) hf
  obtain ⟨ver, h0, g0⟩ := hf 0 (ft := 3) (off := 0) (K := Kd.int .i64) (by kernel_rfl) (by kernel_rfl) (opens_int (by kernel_rfl))
  obtain ⟨regs, h1, g1⟩ := hf 1 (ft := 3) (off := 1) (K := Kd.int .i64) (by kernel_rfl) (by kernel_rfl) (opens_int (by kernel_rfl))
  obtain ⟨binds, h2, g2⟩ := hf 2 (ft := 3) (off := 2) (K := Kd.int .i64) (by kernel_rfl) (by kernel_rfl) (opens_int (by kernel_rfl))
  obtain ⟨names, ⟨A3, c3, h3, k3, i3⟩, m3, g3⟩ := hf 3 (ft := 22) (off := 3) (K := Kd.slice Kd.str KStr_pos) (by kernel_rfl) (by kernel_rfl) (opens_slice (by kernel_rfl) (by kernel_rfl) KStr_pos (opens_str (t := 9) (by kernel_rfl)))
  obtain ⟨consts, ⟨A4, c4, h4, k4, i4⟩, m4, g4⟩ := hf 4 (ft := 23) (off := 4) (K := Kd.slice KV KV_pos) (by kernel_rfl) (by kernel_rfl) (opens_slice (by kernel_rfl) (by kernel_rfl) KV_pos opens_V)
  obtain ⟨curs, ⟨A5, c5, h5, k5, i5⟩, m5, g5⟩ := hf 5 (ft := 24) (off := 5) (K := Kd.slice KCur KCur_pos) (by kernel_rfl) (by kernel_rfl) (opens_slice (by kernel_rfl) (by kernel_rfl) KCur_pos opens_Cur)
  obtain ⟨sorts, ⟨A6, c6, h6, k6, i6⟩, m6, g6⟩ := hf 6 (ft := 25) (off := 6) (K := Kd.slice KSrt KSrt_pos) (by kernel_rfl) (by kernel_rfl) (opens_slice (by kernel_rfl) (by kernel_rfl) KSrt_pos opens_Srt)
  obtain ⟨tots, ⟨A7, c7, h7, k7, i7⟩, m7, g7⟩ := hf 7 (ft := 26) (off := 7) (K := Kd.slice KTot KTot_pos) (by kernel_rfl) (by kernel_rfl) (opens_slice (by kernel_rfl) (by kernel_rfl) KTot_pos opens_Tot)
  obtain ⟨code, ⟨A8, c8, h8, k8, i8⟩, m8, g8⟩ := hf 8 (ft := 27) (off := 8) (K := Kd.slice KIns KIns_pos) (by kernel_rfl) (by kernel_rfl) (opens_slice (by kernel_rfl) (by kernel_rfl) KIns_pos opens_Ins)
  have hl9 : arr.size = 9 := hs.trans (by kernel_rfl)
  obtain ⟨cs⟩ := arr
  have hl9 : cs.length = 9 := hl9
  match cs, hl9 with
  | [x0, x1, x2, x3, x4, x5, x6, x7, x8], _ =>
    have h0 : [x0] = [.int .i64 ver] := h0
    have h1 : [x1] = [.int .i64 regs] := h1
    have h2 : [x2] = [.int .i64 binds] := h2
    have h3 : [x3] = [.slice A3 names.length c3] := h3
    have h4 : [x4] = [.slice A4 consts.length c4] := h4
    have h5 : [x5] = [.slice A5 curs.length c5] := h5
    have h6 : [x6] = [.slice A6 sorts.length c6] := h6
    have h7 : [x7] = [.slice A7 tots.length c7] := h7
    have h8 : [x8] = [.slice A8 code.length c8] := h8
    exact ⟨⟨ver, regs, binds, names, consts, curs, sorts, tots, code⟩, ⟨A3, c3, A4, c4, A5, c5, A6, c6, A7, c7, A8, c8⟩, by cases h0; cases h1; cases h2; cases h3; cases h4; cases h5; cases h6; cases h7; cases h8; rfl,
      ⟨i3, i4, i5, i6, i7, i8, m3, m4, m5, m6, m7, m8, k8⟩, ⟨i64_range g0, i64_range g1, i64_range g2, g3, g4, g5, g6, g7, g8⟩⟩
end Go.Proofs.YtabfhckjinejfaaDoor
