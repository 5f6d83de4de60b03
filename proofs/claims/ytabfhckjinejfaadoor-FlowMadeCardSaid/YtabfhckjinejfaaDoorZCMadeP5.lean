/- Part 5 of the texts of this claim: the engine, contracts, plain laws. -/
import Derived.Test.YtabfhckjinejfaaDoorZCMadeP2
import Derived.Test.YtabfhckjinejfaaDoorZCMadeP4
import Derived.Test.YtabfhckjinejfaaDoorZCMadeP3
import Derived.WalkKit
import Derived.ProofKit
import Derived.OpenShut
import Derived.Carry
import Derived.Deep.Slices
import Derived.ChangeMaps5
/- Layer 16 (flow): loops are told what they are in. -/
set_option linter.unusedVariables false
set_option linter.unusedSimpArgs false
namespace Go.Proofs.YtabfhckjinejfaaDoor
open Go Go.Sx R1 K15 L16
theorem cnt_append (a : Int) : ∀ (l r : List Lp), cnt (l ++ r) a = cnt l a + cnt r a
  | [], r => by simp [cnt]
  | y :: l, r => by rw [List.cons_append, cnt, cnt, cnt_append a l r]; omega
theorem cnt_le (a : Int) : ∀ (l : List Lp), cnt l a ≤ l.length
  | [] => by simp [cnt]
  | y :: l => by rw [cnt, List.length_cons]; have := cnt_le a l; split <;> omega
theorem cnt_snoc (l : List Lp) (y : Lp) (a : Int) : cnt (l ++ [y]) a = cnt l a + (if inL y a then 1 else 0) := by rw [cnt_append]; simp [cnt]
theorem lst_snoc (l : List Lp) (y : Lp) (a : Int) : lst (l ++ [y]) 0 a = if inL y a then (l.length : Int) else lst l 0 a := by
  rw [lst_last, lst_last, insF_append]
  cases h : inL y a
  · simp [insF, h]
  · simp [insF, h]
theorem crosses_snoc (l : List Lp) (y x : Lp) : crosses (l ++ [y]) x = (crosses l x || (inL y x.fr != inL y x.en)) := by simp [crosses]
theorem KLp_fix {Ω : Nat → Prop} (w w' : World) (a : Lp) (cs : List Value) (h : KLp.rep Ω w a cs) : KLp.rep Ω w' a cs := h
theorem nestL_cons (acc : List Lp) (x : Lp) (r : List Lp) : nestL acc (x :: r) = if crosses acc x then none else if 12 ≤ cnt acc x.fr then none else nestL (acc ++ [deep acc x]) r := by rw [nestL]
set_option maxRecDepth 10000 in
theorem nest_spec {w : World} {A : Option Addr} {c : Nat} {l : List Lp} (ho : OwnK KLp w A c l) (hz : ∀ x ∈ l, x.dp = 0 ∧ x.inn = -1) (hl : l.length ≤ 4000) :
    CallsV Tryd.prog 18 #[.slice A l.length c] w fun r w' => r = .bool (nestL [] l).isSome ∧ (∀ l', nestL [] l = some l' → OwnK KLp w' A c l') ∧ Fr (ownB A) w w' := by
  refine flow_nest.calls okay ?_
  unfold flow_nest.W
  refine ⟨fun x u => ∃ (k : Nat) (acc : List Lp), x = (k : Int) ∧ k ≤ l.length ∧ acc.length = k ∧ OwnK KLp u A c (acc ++ l.drop k) ∧ Fr (ownB A) w u ∧ nestL [] l = nestL acc (l.drop k),
    fun x u => ((l.length : Int) - x).toNat, ⟨0, [], rfl, by omega, rfl, by simpa using ho, .refl _ _, rfl⟩, ?_⟩
  rintro _ u ⟨k, acc, rfl, hk, hacc, hu, hf, heq⟩
  refine brd (fun hlt => ?_) (fun hge => ?_)
  rotate_left
  · obtain rfl : k = l.length := by omega
    rw [List.drop_length, nestL] at heq
    rw [List.drop_length, List.append_nil] at hu
    rw [heq]
    exact ⟨rfl, fun l' e => by cases e; exact hu, hf⟩
  have hlt : k < l.length := by omega
  rw [List.drop_eq_getElem_cons hlt] at hu heq
  have hzx := hz l[k] (by simp)
  generalize l[k] = x at *
  have hget : (acc ++ x :: l.drop (k + 1))[k]? = some x := by rw [List.getElem?_append_right (by omega)]; simp [hacc]
  have hfull : (acc ++ x :: l.drop (k + 1)).length = l.length := by simp; omega
  obtain ⟨ad, hA, hc⟩ := lp_imm (hu.imm KLp_pos) hget
  refine ⟨ad, hA, ⟨by omega, by omega⟩, _, rfl, fun v => Ext u v, Fr.drew NoB u, ?_⟩
  refine ⟨_, fun v e => hc v e 0 _ rfl, _, rfl, _, fun v e => hc v e 1 _ rfl, ?_⟩
  clear hc
  refine (inside_spec u.drew x.fr).mono ?_
  rintro _ u1 ⟨gf, rfl, bf, e1, ngf⟩
  have e1 : Ext u u1 := (Fr.drew NoB u).ext e1
  refine ⟨_, rfl, e1, (inside_spec u1 x.en).mono ?_⟩
  rintro _ u2 ⟨gt, rfl, bt, e2, ngt⟩
  have e2' := e1.trans' e2
  have hu2 := hu.ext e2'
  have bf := bf.ext e2
  have nof : ¬ ownB A gf := fun h => by have := hu.lt gf h; have : u.heap.size ≤ gf := ngf; omega
  have not_ : ¬ ownB A gt := fun h => by have := hu.lt gt h; have := e1.size; omega
  have hcap := hu2.le
  refine ⟨_, rfl, ⟨by omega, by omega⟩, ?_⟩
  rw [cutAt_zero, show Int.toNat (k : Int) - 0 = k by omega]
  refine ⟨fun y v => ∃ m : Nat, y = (m : Int) ∧ m ≤ k ∧ OwnK KLp v A c (acc ++ { x with dp := (cnt (acc.take m) x.fr : Int), inn := lst (acc.take m) 0 x.fr } :: l.drop (k + 1)) ∧ crosses (acc.take m) x = false ∧ Fr (ownB A) w v ∧ Blk v gf [.int .i64 x.fr] ∧ Blk v gt [.int .i64 x.en],
    fun y v => ((k : Int) - y).toNat, ⟨0, rfl, by omega, ?_, rfl, ?_, bf, bt⟩, ?_⟩
  · obtain ⟨x1, x2, x3, x4, x5, x6⟩ := x
    simp only at hzx
    obtain ⟨rfl, rfl⟩ := hzx
    exact hu2
  · exact hf.ext e2'.fr
  rintro _ v ⟨m, rfl, hm, hv, hcr, hfv, bf, bt⟩
  refine brd (fun hmk => ?_) (fun hmk => ?_)
  · have hmk : m < k := by omega
    have hma : m < acc.length := by omega
    have htk : acc.take (m + 1) = acc.take m ++ [acc[m]] := by rw [List.take_add_one]; simp [hma]
    have hgm : (acc ++ { x with dp := (cnt (acc.take m) x.fr : Int), inn := lst (acc.take m) 0 x.fr } :: l.drop (k + 1))[m]? = some acc[m] := by rw [List.getElem?_append_left hma]; simp [hma]
    obtain ⟨ad2, hA2, hc2⟩ := lp_imm (hv.imm KLp_pos) hgm
    refine ⟨ad2, hA2, ⟨by omega, by omega⟩, ?_⟩
    repeat (first | refine ⟨_, (hc2 v (.refl _ _)) _ _ (by rfl), ?_⟩ | refine ⟨_, _, _, (hc2 v (.refl _ _)) _ _ (by rfl), ?_⟩)
    clear hc2
    generalize acc[m] = y at *
    intro g4 v1 f4
    refine ⟨f4.blk.stOK (lpC y) 0 (by simp), fun v2 hv2 => ?_⟩
    have b4 : Blk v2 g4 (lpC y) := by rw [hv2]; exact Blk.setAll (o := 0) (lpC y) 0 f4.blk
    have k4 : Ext v v2 := by rw [hv2]; exact Ext.setAll f4.ext f4.ge _ _
    clear hv2 f4
    refine ⟨fun q => Ext v2 q, Fr.drew NoB v2, ?_⟩
    repeat (first | refine ⟨_, fun u e => Blk.cell (Blk.ext (b4) e) (by rfl), ?_⟩ | refine ⟨_, _, _, fun u e => Blk.cell (Blk.ext (b4) e) (by rfl), ?_⟩)
    refine ⟨_, _, _, rfl, insF1_bodied, ?_⟩
    refine (inside1_spec (bf.ext k4.drew) y).mono ?_
    rintro _ v3 ⟨rfl, e3⟩
    have e3 : Ext v2 v3 := (Fr.drew NoB v2).ext e3
    refine ⟨_, rfl, e3, _, _, _, rfl, insF1_bodied, ?_⟩
    refine (inside1_spec ((bt.ext k4).ext e3) y).mono ?_
    rintro _ v4 ⟨rfl, e4⟩
    have e4 := e3.trans' e4
    refine ⟨_, rfl, ?_⟩
    have e5 := k4.trans' e4
    refine brn (fun hne => ?_) (fun hne => ?_)
    · have : nestL [] l = none := by
        rw [heq, nestL_cons, if_pos]
        refine List.any_eq_true.2 ⟨y, ?_, by simpa using hne⟩
        have : y ∈ acc.take (m + 1) := by rw [htk]; simp
        exact List.mem_of_mem_take this
      rw [this]
      exact ⟨rfl, fun l' e => (by cases e), hfv.ext e5.fr⟩
    have hcr2 : crosses (acc.take (m + 1)) x = false := by rw [htk, crosses_snoc, hcr]; simpa using hne
    repeat (first | refine ⟨_, Blk.cell (b4.ext e4) (by rfl), ?_⟩ | refine ⟨_, _, _, Blk.cell (b4.ext e4) (by rfl), ?_⟩)
    refine ⟨_, _, _, rfl, insF1_bodied, ?_⟩
    refine (inside1_spec (bf.ext e5) y).mono ?_
    rintro _ v6 ⟨rfl, e6⟩
    have e6 := e5.trans' e6
    have hv6 := hv.ext e6
    have hcnt := cnt_snoc (acc.take m) y x.fr
    have hlst := lst_snoc (acc.take m) y x.fr
    rw [← htk] at hcnt hlst
    have hlm : (acc.take m).length = m := by rw [List.length_take]; omega
    have hcl := cnt_le x.fr (acc.take m)
    rw [hlm] at hcl hlst
    refine ⟨_, rfl, br (fun hin => ?_) (fun hin => ?_)⟩
    · rw [hin] at hcnt hlst
      have hgk : (acc ++ { x with dp := (cnt (acc.take m) x.fr : Int), inn := lst (acc.take m) 0 x.fr } :: l.drop (k + 1))[k]? = some { x with dp := (cnt (acc.take m) x.fr : Int), inn := lst (acc.take m) 0 x.fr } := by rw [List.getElem?_append_right (by omega)]; simp [hacc]
      obtain ⟨ad3, hA3, hc3⟩ := lp_imm (hv6.imm KLp_pos) hgk
      rw [hA] at hA3; cases hA3
      refine ⟨_, rfl, _, hc3 v6 (.refl _ _) 4 _ rfl, _, rfl, ?_⟩
      rw [wi _ (by dsimp only; omega) (by dsimp only; omega)]
      obtain ⟨g, hAg, q1, q2, q3, q4⟩ := hv6.setC (KLp_fix _) hgk (q := 4) (by decide) (v := .int .i64 ((cnt (acc.take m) x.fr : Int) + 1)) (a := { x with dp := (cnt (acc.take m) x.fr : Int) + 1, inn := lst (acc.take m) 0 x.fr }) (fun cs hr => by
        have hr : cs = lpC _ := hr
        subst hr; rfl)
      rw [hA] at hAg; cases hAg
      simp only [add_new, Nat.zero_add]
      have ea : ((k : Int).toNat * 6 + 4) = k * KLp.size + 4 := rfl
      rw [ea]
      refine ⟨⟨by simpa only [add_new, Nat.add_zero] using q1, by simpa only [add_new, Nat.add_zero] using q2⟩, fun v7 hv7 => ?_⟩
      have hv7 : v7 = v6.setCell ⟨g, k * KLp.size + 4, none⟩ (.int .i64 ((cnt (acc.take m) x.fr : Int) + 1)) := hv7
      rw [← hv7] at q3 q4
      clear hv7 q1 q2
      rw [List.set_append_right _ _ (by omega), hacc, Nat.sub_self, List.set_cons_zero] at q3
      have hgk2 : (acc ++ { x with dp := (cnt (acc.take m) x.fr : Int) + 1, inn := lst (acc.take m) 0 x.fr } :: l.drop (k + 1))[k]? = some { x with dp := (cnt (acc.take m) x.fr : Int) + 1, inn := lst (acc.take m) 0 x.fr } := by rw [List.getElem?_append_right (by omega)]; simp [hacc]
      obtain ⟨g, hAg, r1, r2, r3, r4⟩ := q3.setC (KLp_fix _) hgk2 (q := 5) (by decide) (v := .int .i64 m) (a := { x with dp := (cnt (acc.take m) x.fr : Int) + 1, inn := m }) (fun cs hr => by
        have hr : cs = lpC _ := hr
        subst hr; rfl)
      rw [hA] at hAg; cases hAg
      refine ⟨_, rfl, ?_⟩
      simp only [add_new]
      have ea : ((k : Int).toNat * 6 + 5) = k * KLp.size + 5 := rfl
      rw [ea]
      refine ⟨⟨by simpa only [add_new, Nat.add_zero] using r1, by simpa only [add_new, Nat.add_zero] using r2⟩, fun v8 hv8 => ?_⟩
      have hv8 : v8 = v7.setCell ⟨g, k * KLp.size + 5, none⟩ (.int .i64 m) := hv8
      rw [← hv8] at r3 r4
      rw [List.set_append_right _ _ (by omega), hacc, Nat.sub_self, List.set_cons_zero] at r3
      have f8 : Fr (ownB (some ⟨g, 0, none⟩)) v6 v8 := by rw [hA] at q4 r4; exact q4.trans r4 (fun _ _ h => h) (fun _ _ h => h)
      rw [wi _ (by omega) (by omega)]
      rw [hA] at nof not_
      refine ⟨⟨m + 1, by omega, by omega, ?_, hcr2, ?_, (bf.ext e6).keep f8 nof, (bt.ext e6).keep f8 not_⟩, by omega⟩
      · rw [hcnt, hlst, if_pos rfl]
        simpa using r3
      · exact (hfv.ext e6.fr).trans f8 (fun _ _ h => h) (fun _ _ h => by rw [hA]; exact h)
    · rw [hin] at hcnt hlst
      rw [wi _ (by omega) (by omega)]
      refine ⟨⟨m + 1, by omega, by omega, ?_, hcr2, hfv.ext e6.fr, bf.ext e6, bt.ext e6⟩, by dsimp only; omega⟩
      rw [hcnt, hlst]
      simpa using hv6
  · obtain rfl : m = k := by omega
    have htk : acc.take m = acc := by rw [← hacc, List.take_length]
    rw [htk] at hv hcr
    have hgk : (acc ++ { x with dp := (cnt acc x.fr : Int), inn := lst acc 0 x.fr } :: l.drop (m + 1))[m]? = some { x with dp := (cnt acc x.fr : Int), inn := lst acc 0 x.fr } := by rw [List.getElem?_append_right (by omega)]; simp [hacc]
    obtain ⟨ad3, hA3, hc3⟩ := lp_imm (hv.imm KLp_pos) hgk
    rw [hA] at hA3; cases hA3
    rw [nestL_cons, if_neg (by rw [hcr]; decide)] at heq
    refine ⟨_, rfl, _, hc3 v (.refl _ _) 4 _ rfl, brd (fun h12 => ?_) (fun h12 => ?_)⟩
    · rw [if_pos (by dsimp only at h12; omega)] at heq
      rw [heq]
      exact ⟨rfl, fun l' e => (by cases e), hfv⟩
    · rw [if_neg (by dsimp only at h12; omega)] at heq
      rw [wi _ (by omega) (by omega)]
      refine ⟨⟨m + 1, acc ++ [deep acc x], by omega, by omega, by simp [hacc], ?_, hfv, heq⟩, by dsimp only; omega⟩
      rw [List.append_assoc]
      exact hv
end Go.Proofs.YtabfhckjinejfaaDoor
/- Layer 16 (flow): questions of loops: what leads into them, what is busy. -/
set_option linter.unusedVariables false
set_option linter.unusedSimpArgs false
namespace Go.Proofs.YtabfhckjinejfaaDoor
open Go Go.Sx R1 K15 L16
theorem index_loop {w : World} {A : Option Addr} {c n : Nat} {l : List Lp} {f : Value} {p : Lp → Bool} (hn : n = l.length) (hi : Imm KLp NoB w A l) (hl : l.length ≤ maxLen) (hf : Tests KLp argA w f p) :
    CallsV Tryd.prog 68 #[.slice A n c, f] w fun r w' => r = .int .i64 (firstI p l 0) ∧ Ext w w' := by
  subst hn
  simp only [maxLen] at hl
  refine slices_IndexFunc_api_Loop_api_Loop.calls okay ?_
  unfold slices_IndexFunc_api_Loop_api_Loop.W
  refine ⟨fun x u => ∃ j : Nat, j ≤ l.length ∧ x = (j : Int) ∧ firstI p l 0 = firstI p (l.drop j) j ∧ Ext w u, fun x _ => (l.length - x).toNat, ⟨0, by omega, rfl, rfl, .refl _ _⟩, ?_⟩
  rintro _ u ⟨j, hj, rfl, hq, e⟩
  refine brd (fun hlt => ?_) (fun hge => ?_)
  · have hjl : j < l.length := by omega
    obtain ⟨ad, hA, hc⟩ := lp_imm (hi.ext (by decide) e) (List.getElem?_eq_getElem hjl)
    rw [firstI_drop p l j hjl] at hq
    obtain ⟨fid, first, captured, rfl, hb, hcall⟩ := hf u e l[j] (lpC l[j]) rfl
    refine ⟨ad, hA, ⟨by omega, by omega⟩, ?_⟩
    repeat (first | refine ⟨_, (hc u (.refl _ _)) _ _ (by rfl), ?_⟩ | refine ⟨_, _, _, (hc u (.refl _ _)) _ _ (by rfl), ?_⟩)
    refine ⟨fid, first, captured, rfl, hb, ?_⟩
    refine hcall.mono ?_
    rintro _ u1 ⟨rfl, e1⟩
    refine ⟨_, rfl, ?_⟩
    cases hp : p l[j] with
    | true =>
      rw [cond_true]
      rw [hp, if_pos rfl] at hq
      exact ⟨by rw [hq], e.trans' e1⟩
    | false =>
      rw [cond_false]
      rw [hp, if_neg (by decide)] at hq
      rw [wi _ (by omega) (by omega)]
      exact ⟨⟨j + 1, by omega, rfl, hq, e.trans' e1⟩, by dsimp only; omega⟩
  · obtain rfl : j = l.length := by omega
    rw [List.drop_length] at hq
    exact ⟨by rw [hq]; rfl, e⟩
theorem contains_loop {w : World} {A : Option Addr} {c n : Nat} {l : List Lp} {f : Value} {p : Lp → Bool} (hn : n = l.length) (hi : Imm KLp NoB w A l) (hl : l.length ≤ maxLen) (hf : Tests KLp argA w f p) :
    CallsV Tryd.prog 31 #[.slice A n c, f] w fun r w' => r = .bool (l.any p) ∧ Ext w w' := by
  refine slices_ContainsFunc_api_Loop_api_Loop.calls okay ?_
  unfold slices_ContainsFunc_api_Loop_api_Loop.W
  refine (index_loop hn hi hl hf).mono ?_
  rintro _ u ⟨rfl, e⟩
  exact ⟨_, rfl, by rw [firstI_any], e⟩
abbrev KOp : Kd Int := Kd.int .u8
theorem contains_op {w : World} {g n : Nat} {l : List Int} (hn : n = l.length) (hb : Blk w g (l.map (Value.int .u8))) (hl : l.length < 100) (x : Int) :
    CallsV Tryd.prog 34 #[.slice (some ⟨g, 0, none⟩) n n, .int .u8 x] w fun r w' => r = .bool (decide (x ∈ l)) ∧ w' = w := by
  subst hn
  refine slices_Contains_api_Op_api_Op.calls okay ?_
  unfold slices_Contains_api_Op_api_Op.W
  have hI : CallsV Tryd.prog 69 #[.slice (some ⟨g, 0, none⟩) l.length l.length, .int .u8 x] w fun r w' => r = .int .i64 (firstI (fun y => decide (x = y)) l 0) ∧ w' = w := by
    refine slices_Index_api_Op_api_Op.calls okay ?_
    unfold slices_Index_api_Op_api_Op.W
    refine ⟨fun y u => ∃ j : Nat, j ≤ l.length ∧ y = (j : Int) ∧ firstI (fun y => decide (x = y)) l 0 = firstI (fun y => decide (x = y)) (l.drop j) j ∧ u = w, fun x _ => (l.length - x).toNat, ⟨0, by omega, rfl, rfl, rfl⟩, ?_⟩
    rintro _ u ⟨j, hj, rfl, hq, rfl⟩
    refine brd (fun hlt => ?_) (fun hge => ?_)
    · have hjl : j < l.length := by omega
      rw [firstI_drop _ l j hjl] at hq
      refine ⟨_, rfl, ⟨by omega, by omega⟩, l[j], hb.cell (by simp [hjl]), ?_⟩
      refine brd (fun hp => ?_) (fun hp => ?_)
      · rw [if_pos (by simpa using hp)] at hq
        exact ⟨by rw [hq], rfl⟩
      · rw [if_neg (by simpa using hp)] at hq
        rw [wi _ (by omega) (by omega)]
        exact ⟨⟨j + 1, by omega, rfl, hq, rfl⟩, by dsimp only; omega⟩
    · obtain rfl : j = l.length := by omega
      rw [List.drop_length] at hq
      exact ⟨by rw [hq]; rfl, rfl⟩
  refine hI.mono ?_
  rintro _ u ⟨rfl, rfl⟩
  refine ⟨_, rfl, ?_, rfl⟩
  rw [firstI_any]
  congr 1
  rw [Bool.eq_iff_iff]
  simp
abbrev fnB (g : Nat) : List Value := [insF1 g]
theorem sorters1_test {w : World} {g g1 g2 : Nat} {t : Int} {i : Ins} (b : Blk w g [.int .i64 t]) (b1 : Blk w g1 (fnB g)) (b2 : Blk w g2 (insC i)) :
    Tests KLp argA w (.func (.func 32) #[] #[.pointer (some ⟨g1, 0, none⟩), .pointer (some ⟨g2, 0, none⟩)]) (fun x => inL x t && decide (x.so = i.b)) := by
  intro u e x cs hr
  have hr : cs = lpC x := hr
  subst hr
  refine ⟨_, _, _, rfl, by kernel_rfl, ?_⟩
  refine flow_sorters_1.calls okay ?_
  unfold flow_sorters_1.W
  intro g3 w1 f
  have e1 := e.trans' f.ext
  refine ⟨_, (b1.ext e1).cell0 rfl, ?_⟩
  repeat (first | refine ⟨_, Blk.cell (f.blk) (by rfl), ?_⟩ | refine ⟨_, _, _, Blk.cell (f.blk) (by rfl), ?_⟩)
  refine ⟨_, _, _, rfl, insF1_bodied, (inside1_spec (b.ext e1) x).mono ?_⟩
  rintro _ w2 ⟨rfl, e2⟩
  refine ⟨_, rfl, br (fun h => ?_) (fun h => ⟨by simp [h], f.ext.trans' e2⟩)⟩
  repeat (first | refine ⟨_, Blk.cell (f.blk.ext e2) (by rfl), ?_⟩ | refine ⟨_, _, _, Blk.cell (f.blk.ext e2) (by rfl), ?_⟩ | refine ⟨_, Blk.cell (b2.ext (e1.trans' e2)) (by rfl), ?_⟩ | refine ⟨_, _, _, Blk.cell (b2.ext (e1.trans' e2)) (by rfl), ?_⟩)
  exact ⟨by simp [h], f.ext.trans' e2⟩
theorem enters1_test {w : World} {g1 g2 g3 ga gt : Nat} {t tg : Int} (b : Blk w ga [.int .i64 tg]) (b1 : Blk w g1 (fnB ga)) (b' : Blk w gt [.int .i64 t]) (b2 : Blk w g2 (fnB gt)) (b3 : Blk w g3 [.int .i64 t]) {g4 : Nat} (b4 : Blk w g4 [.int .i64 tg]) (ht : 0 ≤ t ∧ t < 100000) :
    Tests KLp argA w (.func (.func 33) #[] #[.pointer (some ⟨g1, 0, none⟩), .pointer (some ⟨g2, 0, none⟩), .pointer (some ⟨g3, 0, none⟩), .pointer (some ⟨g4, 0, none⟩)]) (fun x => inL x tg && (!inL x t && (!decide (t = x.fr) || !decide (tg = t + 1)))) := by
  intro u e x cs hr
  have hr : cs = lpC x := hr
  subst hr
  refine ⟨_, _, _, rfl, by kernel_rfl, ?_⟩
  refine flow_enters_1.calls okay ?_
  unfold flow_enters_1.W
  intro g5 w1 f
  have e1 := e.trans' f.ext
  refine ⟨_, (b1.ext e1).cell0 rfl, ?_⟩
  repeat (first | refine ⟨_, Blk.cell (f.blk) (by rfl), ?_⟩ | refine ⟨_, _, _, Blk.cell (f.blk) (by rfl), ?_⟩)
  refine ⟨_, _, _, rfl, insF1_bodied, (inside1_spec (b.ext e1) x).mono ?_⟩
  rintro _ w2 ⟨rfl, e2⟩
  have e2' := e1.trans' e2
  have f2 := f.ext.trans' e2
  refine ⟨_, rfl, br (fun h => ?_) (fun h => ⟨by simp [h], f2⟩)⟩
  refine ⟨_, (b2.ext e2').cell0 rfl, ?_⟩
  repeat (first | refine ⟨_, Blk.cell (f.blk.ext e2) (by rfl), ?_⟩ | refine ⟨_, _, _, Blk.cell (f.blk.ext e2) (by rfl), ?_⟩)
  refine ⟨_, _, _, rfl, insF1_bodied, (inside1_spec (b'.ext e2') x).mono ?_⟩
  rintro _ w3 ⟨rfl, e3⟩
  have e3' := e2'.trans' e3
  have f3 := f2.trans' e3
  refine ⟨_, rfl, brnb (fun h2 => ?_) (fun h2 => ⟨by simp [h2], f3⟩)⟩
  refine ⟨_, (b3.ext e3').cell0 rfl, ?_⟩
  repeat (first | refine ⟨_, Blk.cell (f.blk.ext (e2.trans' e3)) (by rfl), ?_⟩ | refine ⟨_, _, _, Blk.cell (f.blk.ext (e2.trans' e3)) (by rfl), ?_⟩)
  refine brn (fun h3 => ⟨by simp [h, h2, h3], f3⟩) (fun h3 => ?_)
  refine ⟨_, (b4.ext e3').cell0 rfl, _, (b3.ext e3').cell0 rfl, ?_, f3⟩
  dsimp only
  rw [wi _ (by omega) (by omega), h, h2, decide_eq_true h3]
  simp
theorem busy1_test {w : World} {g g1 g2 g3 g4 g5 : Nat} {t : Int} {i : Ins} {cu so : Bool} (b : Blk w g [.int .i64 t]) (b1 : Blk w g1 (fnB g)) (b2 : Blk w g2 [.int .i64 t]) (b3 : Blk w g3 [.bool cu]) (b4 : Blk w g4 (insC i)) (b5 : Blk w g5 [.bool so]) :
    Tests KLp argA w (.func (.func 35) #[] #[.pointer (some ⟨g1, 0, none⟩), .pointer (some ⟨g2, 0, none⟩), .pointer (some ⟨g3, 0, none⟩), .pointer (some ⟨g4, 0, none⟩), .pointer (some ⟨g5, 0, none⟩)]) (fun x => inL x t && (!decide (t = x.en) && ((cu && decide (x.cu = i.a)) || (so && decide (x.so = i.a))))) := by
  intro u e x cs hr
  have hr : cs = lpC x := hr
  subst hr
  refine ⟨_, _, _, rfl, by kernel_rfl, ?_⟩
  refine flow_busy_1.calls okay ?_
  unfold flow_busy_1.W
  intro g6 w1 f
  have e1 := e.trans' f.ext
  refine ⟨_, (b1.ext e1).cell0 rfl, ?_⟩
  repeat (first | refine ⟨_, Blk.cell (f.blk) (by rfl), ?_⟩ | refine ⟨_, _, _, Blk.cell (f.blk) (by rfl), ?_⟩)
  refine ⟨_, _, _, rfl, insF1_bodied, (inside1_spec (b.ext e1) x).mono ?_⟩
  rintro _ w2 ⟨rfl, e2⟩
  have e2' := e1.trans' e2
  have f2 := f.ext.trans' e2
  have bf := f.blk.ext e2
  have c4 := b4.ext e2'
  refine ⟨_, rfl, br (fun h => ?_) (fun h => ⟨by simp [h], f2⟩)⟩
  refine ⟨_, (b2.ext e2').cell0 rfl, ?_⟩
  repeat (first | refine ⟨_, Blk.cell (bf) (by rfl), ?_⟩ | refine ⟨_, _, _, Blk.cell (bf) (by rfl), ?_⟩)
  refine brn (fun h2 => ?_) (fun h2 => ⟨by simp [h2], f2⟩)
  refine ⟨_, (b3.ext e2').cell0 rfl, br (fun h3 => ?_) (fun h3 => ?_)⟩
  · repeat (first | refine ⟨_, Blk.cell (bf) (by rfl), ?_⟩ | refine ⟨_, _, _, Blk.cell (bf) (by rfl), ?_⟩ | refine ⟨_, Blk.cell (c4) (by rfl), ?_⟩ | refine ⟨_, _, _, Blk.cell (c4) (by rfl), ?_⟩)
    refine brd (fun h4 => ⟨by simp [h, h2, h3, h4], f2⟩) (fun h4 => ?_)
    refine ⟨_, (b5.ext e2').cell0 rfl, br (fun h5 => ?_) (fun h5 => ⟨by simp [h4, h5], f2⟩)⟩
    repeat (first | refine ⟨_, Blk.cell (bf) (by rfl), ?_⟩ | refine ⟨_, _, _, Blk.cell (bf) (by rfl), ?_⟩ | refine ⟨_, Blk.cell (c4) (by rfl), ?_⟩ | refine ⟨_, _, _, Blk.cell (c4) (by rfl), ?_⟩)
    exact ⟨by simp [h, h2, h4, h5], f2⟩
  · refine ⟨_, (b5.ext e2').cell0 rfl, br (fun h5 => ?_) (fun h5 => ⟨by simp [h3, h5], f2⟩)⟩
    repeat (first | refine ⟨_, Blk.cell (bf) (by rfl), ?_⟩ | refine ⟨_, _, _, Blk.cell (bf) (by rfl), ?_⟩ | refine ⟨_, Blk.cell (c4) (by rfl), ?_⟩ | refine ⟨_, _, _, Blk.cell (c4) (by rfl), ?_⟩)
    exact ⟨by simp [h, h2, h3, h5], f2⟩
/-- a function value, put into a block of its own -/
theorem fn_box {w0 w w' w'' : World} {g g1 : Nat} {v : Value} {e : TypeId} (f : Fresh w g1 w' [.nilFunc] e) (h : w'' = setAll ⟨g1, 0, none⟩ 0 [v] w') : Blk w'' g1 [v] ∧ Ext w w'' := by
  subst h
  exact ⟨Blk.setAll (o := 0) [v] 0 f.blk, Ext.setAll f.ext f.ge _ _⟩
theorem box1 {w w' w'' : World} {g1 : Nat} {v0 v : Value} {e : TypeId} (f : Fresh w g1 w' [v0] e) (h : w'' = setAll ⟨g1, 0, none⟩ 0 [v] w') : Blk w'' g1 [v] ∧ Ext w w'' := by
  subst h
  exact ⟨Blk.setAll (o := 0) [v] 0 f.blk, Ext.setAll f.ext f.ge _ _⟩
theorem busy_spec {w : World} {i : Ins} {t : Int} {A : Option Addr} {c n : Nat} {l : List Lp} (hn : n = l.length) (hi : Imm KLp NoB w A l) (hl : l.length ≤ maxLen) :
    CallsV Tryd.prog 21 #[.agg (insC i).toArray, .int .i64 t, .slice A n c] w fun r w' => r = .bool (busyI i t l) ∧ Ext w w' := by
  refine flow_busy.calls okay ?_
  unfold flow_busy.W
  intro g wa fa g1 wb fb
  refine ⟨_, fb.blk.cell0 rfl, (inside_spec wb t).mono ?_⟩
  rintro _ wc ⟨ga, rfl, ba, ec, _⟩
  refine ⟨_, rfl, ?_⟩
  intro g2 wd fd
  refine ⟨rfl, rfl, fd.blk.stOK [_] 0 (by simp), fun w1 hw1 => ?_⟩
  obtain ⟨b2, k1⟩ := box1 fd hw1
  clear hw1 fd
  have e1 := ((fa.ext.trans' fb.ext).trans' ec).trans' k1
  have bi := fa.blk.ext ((fb.ext.trans' ec).trans' k1)
  have bt := fb.blk.ext (ec.trans' k1)
  have ba := ba.ext k1
  clear fa fb
  intro g3 w2 f3
  repeat (first | refine ⟨_, Blk.cell (bi.ext f3.ext) (by rfl), ?_⟩ | refine ⟨_, _, _, Blk.cell (bi.ext f3.ext) (by rfl), ?_⟩)
  refine (contains_op (l := [13, 14, 15, 17]) rfl f3.blk (by decide) i.op).mono ?_
  rintro _ w3 ⟨rfl, hw3⟩
  obtain rfl : w2 = w3 := hw3.symm
  refine ⟨_, rfl, ?_⟩
  intro g4 w4 f4
  refine ⟨f4.blk.stOK [_] 0 (by simp), fun w5 hw5 => ?_⟩
  obtain ⟨b4, k4⟩ := box1 f4 hw5
  have k5 := f3.ext.trans' k4
  clear hw5 f4 f3 k4
  intro g6 w6 f6
  repeat (first | refine ⟨_, Blk.cell (bi.ext (k5.trans' f6.ext)) (by rfl), ?_⟩ | refine ⟨_, _, _, Blk.cell (bi.ext (k5.trans' f6.ext)) (by rfl), ?_⟩)
  refine (contains_op (l := [20, 21, 22]) rfl f6.blk (by decide) i.op).mono ?_
  rintro _ w7 ⟨rfl, hw7⟩
  obtain rfl : w6 = w7 := hw7.symm
  refine ⟨_, rfl, ?_⟩
  intro g7 w7 f7
  refine ⟨f7.blk.stOK [_] 0 (by simp), fun w8 hw8 => ?_⟩
  obtain ⟨b7, k7⟩ := box1 f7 hw8
  have k8 := f6.ext.trans' k7
  clear hw8 f7 f6 k7
  have e := (e1.trans' k5).trans' k8
  have k58 := k5.trans' k8
  refine (contains_loop hn (hi.ext (by decide) e) hl (busy1_test (ba.ext k58) (b2.ext k58) (bt.ext k58) (b4.ext k8) (bi.ext k58) b7)).mono ?_
  rintro _ w9 ⟨rfl, e9⟩
  refine ⟨_, rfl, ?_, e.trans' e9⟩
  rw [busyI]
  congr 3
  funext x
  have h1 : decide (i.op ∈ [(13 : Int), 14, 15, 17]) = decide (i.op = 13 ∨ i.op = 14 ∨ i.op = 15 ∨ i.op = 17) := decide_eq_decide.2 (by simp)
  have h2 : decide (i.op ∈ [(20 : Int), 21, 22]) = decide (i.op = 20 ∨ i.op = 21 ∨ i.op = 22) := decide_eq_decide.2 (by simp)
  rw [h1, h2]
set_option maxRecDepth 10000 in
theorem enters_spec {w : World} {p : Prog} {a : PAd} (h : PIm w p a) {t : Nat} (ht : t < p.code.length) (hlen : p.code.length ≤ 4000) {A : Option Addr} {c n : Nat} {l : List Lp} (hn : n = l.length) (hi : Imm KLp NoB w A l) (hl : l.length ≤ maxLen) :
    CallsV Tryd.prog 20 #[pagg p a, .int .i64 t, .slice A n c] w fun r w' => r = .bool (entersI p.code[t] t l) ∧ Ext w w' := by
  refine flow_enters.calls okay ?_
  unfold flow_enters.W
  intro g wa fa g1 wb fb
  refine ⟨_, fb.blk.cell0 rfl, (inside_spec wb t).mono ?_⟩
  rintro _ wc ⟨ga, rfl, ba, ec, _⟩
  refine ⟨_, rfl, ?_⟩
  intro g2 wd fd
  refine ⟨rfl, rfl, fd.blk.stOK [_] 0 (by simp), fun w1 hw1 => ?_⟩
  obtain ⟨b2, k1⟩ := box1 fd hw1
  clear hw1 fd
  have e1 := ((fa.ext.trans' fb.ext).trans' ec).trans' k1
  have bp := fa.blk.ext ((fb.ext.trans' ec).trans' k1)
  have bt := fb.blk.ext (ec.trans' k1)
  have ba := ba.ext k1
  clear fa fb
  repeat (first | refine ⟨_, Blk.cell (bp) (by rfl), ?_⟩ | refine ⟨_, _, _, Blk.cell (bp) (by rfl), ?_⟩)
  refine ⟨_, bt.cell0 rfl, (leads_spec (h.ext e1) ht).mono ?_⟩
  rintro _ w2 ⟨B, d, rfl, hd, hL, e2⟩
  have hE : entersI p.code[t] t l = (leadsI p.code[t] t).any fun tg => l.any fun x => inL x tg && (!inL x t && (!decide ((t : Int) = x.fr) || !decide (tg = (t : Int) + 1))) := rfl
  have hll : (leadsI p.code[t] t).length ≤ 2 := by
    unfold leadsI two
    repeat' split
    all_goals simp
  rw [hE]
  clear hE
  generalize leadsI p.code[t] t = L at *
  generalize hq : (fun tg : Int => l.any fun x => inL x tg && (!inL x t && (!decide ((t : Int) = x.fr) || !decide (tg = (t : Int) + 1)))) = q
  refine ⟨_, _, _, rfl, fun x u => ∃ j : Nat, j ≤ L.length ∧ x = (j : Int) ∧ L.any q = (L.drop j).any q ∧ Ext w2 u, fun x _ => (L.length - x).toNat, ⟨0, by omega, rfl, rfl, .refl _ _⟩, ?_⟩
  rintro _ u ⟨j, hj, rfl, hany, e⟩
  refine brd (fun hlt => ?_) (fun hge => ?_)
  rotate_left
  · obtain rfl : j = L.length := by omega
    rw [List.drop_length] at hany
    rw [hany]
    exact ⟨rfl, (e1.trans' e2).trans' e⟩
  have hjl : j < L.length := by omega
  rw [List.drop_eq_getElem_cons hjl, List.any_cons] at hany
  obtain ⟨ad, hA, cs, hrep, hc⟩ := (hL.ext (by decide) e).get1 hjl
  have hcs : cs = [.int .i64 L[j]] := hrep
  subst hcs
  refine ⟨ad, hA, ⟨by omega, by omega⟩, _, hc 0 _ rfl, ?_⟩
  clear hc
  generalize L[j] = tg at *
  intro g4 u1 f4
  refine ⟨f4.blk.stOK [_] 0 (by simp), fun u2 hu2 => ?_⟩
  obtain ⟨b4, k4⟩ := box1 f4 hu2
  clear hu2 f4
  refine ⟨_, b4.cell0 rfl, (inside_spec u2 tg).mono ?_⟩
  rintro _ u3 ⟨gb, rfl, bb, e3, _⟩
  refine ⟨_, rfl, ?_⟩
  intro g5 u4 f5
  refine ⟨rfl, rfl, f5.blk.stOK [_] 0 (by simp), fun u5 hu5 => ?_⟩
  obtain ⟨b5, k5⟩ := box1 f5 hu5
  clear hu5 f5
  have k35 := e3.trans' k5
  have k : Ext w1 u5 := (e2.trans' e).trans' (k4.trans' k35)
  refine (contains_loop hn (hi.ext (by decide) (e1.trans' k)) hl (enters1_test (tg := tg) (t := t) (bb.ext k5) b5 (ba.ext k) (b2.ext k) (bt.ext k) (b4.ext k35) ⟨by omega, by omega⟩)).mono ?_
  rintro _ u6 ⟨rfl, e6⟩
  have hqt : q tg = l.any fun x => inL x tg && (!inL x t && (!decide ((t : Int) = x.fr) || !decide (tg = (t : Int) + 1))) := by rw [← hq]
  rw [← hqt]
  have e7 : Ext w2 u6 := (e.trans' (k4.trans' k35)).trans' e6
  refine ⟨_, rfl, br (fun hb => ?_) (fun hb => ?_)⟩
  · rw [hany, hb]; exact ⟨rfl, (e1.trans' e2).trans' e7⟩
  · rw [hb, Bool.false_or] at hany
    rw [wi _ (by omega) (by omega)]
    exact ⟨⟨j + 1, by omega, rfl, hany, e7⟩, by dsimp only; omega⟩
end Go.Proofs.YtabfhckjinejfaaDoor
/- Layer 16 (flow): are sorters filled, sorted and told as they may be; a program's loops. -/
set_option linter.unusedVariables false
set_option linter.unusedSimpArgs false
namespace Go.Proofs.YtabfhckjinejfaaDoor
open Go Go.Sx R1 K15 L16
abbrev kI : Int → Value := fun a => Value.int .i64 a
def mv (m : List (Int × Int)) : List (Int × Value) := m.map fun q => (q.1, .int .i64 q.2)
theorem getM_mv (x : Int) : ∀ m : List (Int × Int), getM (mv m) x = (m.lookup x).map (Value.int .i64)
  | [] => rfl
  | (a, v) :: m => by
    have ih := getM_mv x m
    unfold mv at ih ⊢
    rw [List.map_cons, getM, List.lookup]
    by_cases h : x = a
    · subst h; simp
    · rw [if_neg h, ih]
      have : (x == a) = false := by simpa using h
      rw [this]
theorem findM_of_get {α : Type} [DecidableEq α] (a : α) (l : List (α × Value)) (i : Nat) (h : getM l a = none) : findM l a i = none := by
  have := findM_get a l i
  rw [h] at this
  cases hf : findM l a i with
  | none => rfl
  | some q => rw [hf] at this; cases this
theorem setM_mv (m : List (Int × Int)) (a v : Int) (h : m.lookup a = none) : setM (mv m) a (.int .i64 v) = mv (m ++ [(a, v)]) := by
  rw [findM_none a _ (mv m) 0 (findM_of_get a _ 0 (by rw [getM_mv, h]; rfl))]
  simp [mv]
theorem beginI_cons (x : Lp) (l : List Lp) (m : List (Int × Int)) : beginI (x :: l) m = if x.so < 0 then beginI l m else if (m.lookup x.so).isSome || decide (0 < x.dp) then none else beginI l (m ++ [(x.so, x.fr)]) := by rw [beginI]
theorem sortAll_drop (l : List Lp) (m : List (Int × Int)) (p : Prog) (t : Nat) (h : t < p.code.length) : sortAll l m t (p.code.drop t) = (sortI l m t p.code[t] && sortAll l m (t + 1) (p.code.drop (t + 1))) := by
  rw [List.drop_eq_getElem_cons h, sortAll]
theorem keyI : KeyF Tryd.prog 3 (.int .i64) kI := keyInt (by kernel_rfl)
theorem mapI : und Tryd.prog 77 = some (.map 3 3) := by kernel_rfl
set_option maxRecDepth 10000 in
theorem sorters_spec {w : World} {p : Prog} {a : PAd} (h : PIm w p a) (hlen : p.code.length ≤ 4000) {A : Option Addr} {c n : Nat} {l : List Lp} (hn : n = l.length) (hi : Imm KLp NoB w A l) (hl : l.length ≤ 4000) :
    CallsV Tryd.prog 19 #[pagg p a, .slice A n c] w fun r w' => r = .bool (sortersP p l) ∧ Ext w w' := by
  subst hn
  refine flow_sorters.calls okay ?_
  unfold flow_sorters.W
  intro g wa fa
  refine ⟨_, _, makeMap_run _ _, ?_⟩
  have hM : MapK kI (wa.alloc (.map #[] 0)) wa.heap.size (mv []) := MapK.new _ _
  have eM : Ext wa (wa.alloc (.map #[] 0)) := Fr.alloc NoB _ _
  generalize wa.alloc (.map #[] 0) = w1 at *
  generalize hMb : wa.heap.size = M at *
  have nM : w.heap.size ≤ M := by rw [← hMb]; exact fa.ext.size
  have bp := fa.blk.ext eM
  have gM : g < M := by rw [← hMb]; exact fa.lt
  have e1 := fa.ext.trans' eM
  have step : ∀ {u v : World}, Ext w u → Fr (fun k => k = M) u v → Ext w v := fun e f => e.trans f (fun _ _ h => h) (fun k hk e => by omega)
  refine ⟨fun x u => ∃ (j : Nat) (m : List (Int × Int)), j ≤ l.length ∧ x = (j : Int) ∧ MapK kI u M (mv m) ∧ Blk u g (pcs p a) ∧ Ext w u ∧ beginI l [] = beginI (l.drop j) m, fun x _ => (l.length - x).toNat, ⟨0, [], by omega, rfl, hM, bp, e1, rfl⟩, ?_⟩
  clear hM bp eM fa
  rintro _ u ⟨j, m, hj, rfl, hM, bp, e, hb⟩
  refine brd (fun hlt => ?_) (fun hge => ?_)
  · have hjl : j < l.length := by omega
    obtain ⟨ad, hA, hc⟩ := lp_imm (hi.ext (by decide) e) (List.getElem?_eq_getElem hjl)
    rw [List.drop_eq_getElem_cons hjl, beginI_cons] at hb
    refine ⟨ad, hA, ⟨by omega, by omega⟩, ?_⟩
    repeat (first | refine ⟨_, (hc u (.refl _ _)) _ _ (by rfl), ?_⟩ | refine ⟨_, _, _, (hc u (.refl _ _)) _ _ (by rfl), ?_⟩)
    clear hc
    generalize l[j] = x at *
    intro g4 v1 f4
    refine ⟨f4.blk.stOK (lpC x) 0 (by simp), fun v2 hv2 => ?_⟩
    have b4 : Blk v2 g4 (lpC x) := by rw [hv2]; exact Blk.setAll (o := 0) (lpC x) 0 f4.blk
    have k4 : Ext u v2 := by rw [hv2]; exact Ext.setAll f4.ext f4.ge _ _
    clear hv2 f4
    have e4 := e.trans' k4
    have hM := hM.ext k4
    have bp := bp.ext k4
    have out : ∀ (b : Bool) (v : World), beginI l [] = none → Ext w v → (Value.bool false = .bool (sortersP p l) ∧ Ext w v) := fun b v h e => ⟨by rw [sortersP, h], e⟩
    rw [wi _ (by omega) (by omega)]
    repeat (first | refine ⟨_, Blk.cell (b4) (by rfl), ?_⟩ | refine ⟨_, _, _, Blk.cell (b4) (by rfl), ?_⟩)
    refine brd (fun h0 => ?_) (fun h0 => ?_)
    · rw [if_pos h0] at hb
      exact ⟨⟨j + 1, m, by omega, rfl, hM, bp, e4, hb⟩, by dsimp only; omega⟩
    rw [if_neg h0] at hb
    repeat (first | refine ⟨_, Blk.cell (b4) (by rfl), ?_⟩ | refine ⟨_, _, _, Blk.cell (b4) (by rfl), ?_⟩)
    obtain ⟨hr, _⟩ := hM.look keyI mapI x.so (z := .int .i64 0) (fun w => by kernel_rfl)
    rw [getM_mv] at hr
    cases hlk : m.lookup x.so with
    | some y =>
      rw [hlk] at hr hb
      refine ⟨_, _, _, hr, ?_⟩
      exact out true _ (by rw [hb]; rfl) e4
    | none =>
      rw [hlk] at hr hb
      refine ⟨_, _, _, hr, ?_⟩
      show bif false then _ else _
      rw [cond_false]
      repeat (first | refine ⟨_, Blk.cell (b4) (by rfl), ?_⟩ | refine ⟨_, _, _, Blk.cell (b4) (by rfl), ?_⟩)
      refine brd (fun h1 => out true _ (by rw [hb]; simp [h1]) e4) (fun h1 => ?_)
      rw [if_neg (by simp [h1])] at hb
      repeat (first | refine ⟨_, Blk.cell (b4) (by rfl), ?_⟩ | refine ⟨_, _, _, Blk.cell (b4) (by rfl), ?_⟩)
      obtain ⟨w', hr2, hM2, hf2⟩ := hM.update keyI mapI x.so (.int .i64 x.fr)
      rw [setM_mv m _ _ hlk] at hM2
      refine ⟨w', hr2, ⟨j + 1, _, by omega, rfl, hM2, bp.keep hf2 (by omega), step e4 hf2, hb⟩, by dsimp only; omega⟩
  · obtain rfl : j = l.length := by omega
    rw [List.drop_length, beginI] at hb
    have hsp : sortersP p l = sortAll l m 0 p.code := by rw [sortersP, hb]
    rw [hsp]
    repeat (first | refine ⟨_, Blk.cell (bp) (by rfl), ?_⟩ | refine ⟨_, _, _, Blk.cell (bp) (by rfl), ?_⟩)
    refine ⟨fun x v => ∃ t : Nat, t ≤ p.code.length ∧ x = (t : Int) ∧ MapK kI v M (mv m) ∧ Ext u v ∧ sortAll l m 0 p.code = sortAll l m t (p.code.drop t), fun x _ => (p.code.length - x).toNat, ⟨0, by omega, rfl, hM, .refl _ _, rfl⟩, ?_⟩
    rintro _ v ⟨t, ht, rfl, hM, k, hq⟩
    refine brd (fun hlt => ?_) (fun hge => ?_)
    rotate_left
    · obtain rfl : t = p.code.length := by omega
      rw [List.drop_length, sortAll] at hq
      rw [hq]
      exact ⟨rfl, e.trans' k⟩
    have hlt : t < p.code.length := by omega
    rw [sortAll_drop l m p t hlt] at hq
    obtain ⟨ad, hA, hc⟩ := insAt_imm h hlt
    refine ⟨ad, hA, ⟨by omega, by omega⟩, ?_⟩
    repeat (first | refine ⟨_, (hc v (e.trans' k)) _ _ (by rfl), ?_⟩ | refine ⟨_, _, _, (hc v (e.trans' k)) _ _ (by rfl), ?_⟩)
    clear hc
    generalize p.code[t] = i at *
    intro g4 v1 f4
    refine ⟨f4.blk.stOK (insC i) 0 (by simp), fun v2 hv2 => ?_⟩
    have b4 : Blk v2 g4 (insC i) := by rw [hv2]; exact Blk.setAll (o := 0) (insC i) 0 f4.blk
    have k4 : Ext v v2 := by rw [hv2]; exact Ext.setAll f4.ext f4.ge _ _
    clear hv2 f4
    refine (inside_spec v2 t).mono ?_
    rintro _ v3 ⟨ga, rfl, ba, k5, _⟩
    refine ⟨_, rfl, ?_⟩
    intro g5 v4 f5
    refine ⟨rfl, rfl, f5.blk.stOK [_] 0 (by simp), fun v5 hv5 => ?_⟩
    obtain ⟨b5, k6⟩ := box1 f5 hv5
    clear hv5 f5
    have k7 := k5.trans' k6
    have k8 : Ext u v5 := k.trans' (k4.trans' k7)
    have hM := hM.ext (k4.trans' k7)
    rw [wi _ (by omega) (by omega)]
    repeat (first | refine ⟨_, Blk.cell (b4.ext k7) (by rfl), ?_⟩ | refine ⟨_, _, _, Blk.cell (b4.ext k7) (by rfl), ?_⟩)
    have no : ∀ (v : World) (b : Bool), sortI l m t i = b → Ext u v → b = false → (Value.bool false = .bool (sortAll l m 0 p.code) ∧ Ext w v) := fun v b h k hb => ⟨by rw [hq, h, hb, Bool.false_and], e.trans' k⟩
    have yes : ∀ (v : World), sortI l m t i = true → MapK kI v M (mv m) → Ext u v → ((∃ t' : Nat, t' ≤ p.code.length ∧ (t : Int) + 1 = (t' : Int) ∧ MapK kI v M (mv m) ∧ Ext u v ∧ sortAll l m 0 p.code = sortAll l m t' (p.code.drop t')) ∧ (p.code.length - ((t : Int) + 1)).toNat < (p.code.length - (t : Int)).toNat) := fun v h hM k => ⟨⟨t + 1, by omega, rfl, hM, k, by rw [hq, h, Bool.true_and]⟩, by omega⟩
    refine brd (fun h23 => ?_) (fun h23 => ?_)
    · refine (contains_loop rfl (hi.ext (by decide) (e.trans' k8)) (by simp only [maxLen]; omega) (sorters1_test (i := i) (ba.ext k6) b5 (b4.ext k7))).mono ?_
      rintro _ v6 ⟨rfl, k9⟩
      have hs : sortI l m t i = l.any fun x => inL x t && decide (x.so = i.b) := by rw [sortI, if_pos h23]
      rw [← hs]
      refine ⟨_, rfl, brnb (fun hb => no _ _ rfl (k8.trans' k9) hb) (fun hb => yes _ hb (hM.ext k9) (k8.trans' k9))⟩
    refine brd (fun h20 => ?_) (fun h20 => yes _ (by rw [sortI, if_neg h23, if_neg h20]) hM k8)
    repeat (first | refine ⟨_, Blk.cell (b4.ext k7) (by rfl), ?_⟩ | refine ⟨_, _, _, Blk.cell (b4.ext k7) (by rfl), ?_⟩)
    obtain ⟨hr, _⟩ := hM.look keyI mapI i.a (z := .int .i64 0) (fun w => by kernel_rfl)
    rw [getM_mv] at hr
    cases hlk : m.lookup i.a with
    | none =>
      rw [hlk] at hr
      refine ⟨_, _, _, hr, ?_⟩
      exact yes _ (by rw [sortI, if_neg h23, if_pos h20, hlk]) hM k8
    | some y =>
      rw [hlk] at hr
      refine ⟨_, _, _, hr, ?_⟩
      have hs : sortI l m t i = !decide (y < (t : Int)) := by rw [sortI, if_neg h23, if_pos h20, hlk]
      refine brd (fun hy => no _ _ rfl k8 (by rw [hs]; simp [hy])) (fun hy => yes _ (by rw [hs]; simp [hy]) hM k8)
end Go.Proofs.YtabfhckjinejfaaDoor
/- Layer 15, plain: what is so of each instruction of a program that may be. -/
set_option linter.unusedVariables false
set_option linter.unusedSimpArgs false
namespace K15
open Go.Sx R1
theorem okFrom_at (p : Prog) : ∀ (l : List Ins) (s : Nat), okFrom p s l = true → ∀ (t : Nat) (h : t < l.length), okAt p (s + t) l[t] = true
  | [], s, _, t, h => by simp at h
  | i :: l, s, ho, t, h => by
    rw [okFrom, Bool.and_eq_true] at ho
    cases t with
    | zero => exact ho.1
    | succ t =>
      have := okFrom_at p l (s + 1) ho.2 t (by simpa using h)
      rw [show s + (t + 1) = s + 1 + t by omega]
      simpa using this
structure Checked (p : Prog) : Prop where
  parts : partsP p = true
  lo : 1 ≤ p.code.length
  hi : p.code.length ≤ 4000
  last : (p.code.getD (p.code.length - 1) I0).op = 35
  at_ : ∀ (t : Nat) (h : t < p.code.length), okAt p t p.code[t] = true
theorem checked {p : Prog} (h : checkP p = true) : Checked p := by
  simp only [checkP, Bool.and_eq_true, decide_eq_true_eq] at h
  obtain ⟨h1, h2, h3, h4, h5⟩ := h
  exact ⟨h1, h2, h3, h4, fun t ht => by have := okFrom_at p p.code 0 h5 t ht; rwa [Nat.zero_add] at this⟩
theorem fieldsL_of {p : Prog} {t : Int} {i : Ins} {x y z u : UInt8} (hs : shapeP i.op = [x, y, z, u]) (h : fieldsP p t i = true) :
    fieldP p t x.toNat i.a = true ∧ fieldP p t y.toNat i.b = true ∧ fieldP p t z.toNat i.c = true ∧ fieldP p t u.toNat i.d = true := by
  unfold fieldsP at h
  rw [hs] at h
  simp only [fieldsL, Bool.and_eq_true] at h
  exact h
theorem field_j {p : Prog} {t n : Int} (h : fieldP p t ((106 : UInt8).toNat : Int) n = true) : t < n ∧ n < p.code.length := by
  have h : fieldP p t 106 n = true := h
  simpa [fieldP] using h
theorem field_n {p : Prog} {t n : Int} (h : fieldP p t ((110 : UInt8).toNat : Int) n = true) : 1 ≤ n ∧ n ≤ t := by
  have h : fieldP p t 110 n = true := h
  simpa [fieldP] using h
/-- where instructions lead, of a program that may be -/
theorem jumps {p : Prog} (h : Checked p) (t : Nat) (ht : t < p.code.length) :
    ((p.code[t].op = 10 ∨ p.code[t].op = 11 ∨ p.code[t].op = 12) → (t : Int) < p.code[t].a ∧ p.code[t].a < p.code.length) ∧
    ((p.code[t].op = 13 ∨ p.code[t].op = 14 ∨ p.code[t].op = 16 ∨ p.code[t].op = 17 ∨ p.code[t].op = 21) → (t : Int) < p.code[t].b ∧ p.code[t].b < p.code.length) ∧
    ((p.code[t].op = 15 ∨ p.code[t].op = 22) → 1 ≤ p.code[t].b ∧ p.code[t].b ≤ (t : Int)) := by
  have ho := h.at_ t ht
  simp only [okAt, Bool.and_eq_true] at ho
  have hf := ho.1
  generalize p.code[t] = i at *
  have sh : ∀ o l, i.op = o → lookS shapes o = l → shapeP i.op = l := fun o l h1 h2 => by rw [h1]; exact h2
  refine ⟨fun h => ?_, fun h => ?_, fun h => ?_⟩
  · rcases h with h | h | h
    · exact field_j (fieldsL_of (sh _ _ h rfl) hf).1
    · exact field_j (fieldsL_of (sh _ _ h rfl) hf).1
    · exact field_j (fieldsL_of (sh _ _ h rfl) hf).1
  · rcases h with h | h | h | h | h
    · exact field_j (fieldsL_of (sh _ _ h rfl) hf).2.1
    · exact field_j (fieldsL_of (sh _ _ h rfl) hf).2.1
    · exact field_j (fieldsL_of (sh _ _ h rfl) hf).2.1
    · exact field_j (fieldsL_of (sh _ _ h rfl) hf).2.1
    · exact field_j (fieldsL_of (sh _ _ h rfl) hf).2.1
  · rcases h with h | h
    · exact field_n (fieldsL_of (sh _ _ h rfl) hf).2.1
    · exact field_n (fieldsL_of (sh _ _ h rfl) hf).2.1
end K15
/- Layer 16 (flow): a program's loops. -/
set_option linter.unusedVariables false
set_option linter.unusedSimpArgs false
namespace Go.Proofs.YtabfhckjinejfaaDoor
open Go Go.Sx R1 K15 L16
theorem calmAll_drop (l : List Lp) (p : Prog) (t : Nat) (h : t < p.code.length) : calmAll l t (p.code.drop t) = (!(entersI p.code[t] t l || busyI p.code[t] t l) && calmAll l (t + 1) (p.code.drop (t + 1))) := by
  rw [List.drop_eq_getElem_cons h, calmAll]
theorem foundI_fresh (p : Prog) : ∀ (r : List Ins) (t n : Nat) (l : List Lp), (∀ x ∈ l, x.dp = 0 ∧ x.inn = -1) → ∀ x ∈ (foundI p t r l n).1, x.dp = 0 ∧ x.inn = -1
  | [], t, n, l, h => h
  | i :: r, t, n, l, h => by
    rw [foundI]
    split
    · exact foundI_fresh p r _ _ l h
    · split
      · split
        · refine foundI_fresh p r _ _ _ (fun x hx => ?_)
          rcases List.mem_append.1 hx with hx | hx
          · exact h x hx
          · simp only [List.mem_singleton] at hx
            subst hx
            unfold loopI
            dsimp only
            split <;> exact ⟨rfl, rfl⟩
        · intro x hx; simp at hx
      · exact foundI_fresh p r _ _ l h
theorem nestL_len : ∀ (r acc l : List Lp), nestL acc r = some l → l.length = acc.length + r.length
  | [], acc, l, h => by cases h; simp
  | x :: r, acc, l, h => by
    rw [nestL_cons] at h
    split at h
    · cases h
    · split at h
      · cases h
      · have := nestL_len r _ l h
        simp at this ⊢; omega
set_option maxRecDepth 20000 in
theorem Loops_spec {w : World} {p : Prog} {a : PAd} (h : PIm w p a) (hT : Tab w) :
    CallsV Tryd.prog 9 #[pagg p a] w fun r w' => ∃ A c, r = .tuple #[.slice A (loopsP p).1.length c, .int .i64 (loopsP p).2] ∧ (loopsP p).1.length ≤ c ∧ Imm KLp NoB w' A (loopsP p).1 ∧ Ext w w' := by
  refine flow_Loops.calls okay ?_
  unfold flow_Loops.W
  intro g wa fa
  repeat (first | refine ⟨_, Blk.cell (fa.blk) (by rfl), ?_⟩ | refine ⟨_, _, _, Blk.cell (fa.blk) (by rfl), ?_⟩)
  refine (Check_spec (h.ext fa.ext) (hT.ext fa.ext)).mono ?_
  rintro _ w1 ⟨rfl, k1⟩
  have e1 := fa.ext.trans' k1
  have out : ∀ (v : World) (x : Int), loopsP p = ([], x) → Ext w v → (∃ A c, (.tuple #[.slice none 0 0, .int .i64 x] : Value) = .tuple #[.slice A (loopsP p).1.length c, .int .i64 (loopsP p).2] ∧ (loopsP p).1.length ≤ c ∧ Imm KLp NoB v A (loopsP p).1 ∧ Ext w v) := fun v x hl e => by
    rw [hl]; exact ⟨none, 0, rfl, by simp, Imm.nil _ _ _ _, e⟩
  cases hc : checkP p with
  | false => exact ⟨_, rfl, out w1 140 (by simp [loopsP, hc]) e1⟩
  | true =>
  refine ⟨_, rfl, ?_⟩
  show bif !decide ((0 : Int) = 0) then _ else _
  rw [decide_eq_true rfl, Bool.not_true, cond_false]
  have hC := checked hc
  have hB : Bs p := fun t ht ho => (jumps hC t ht).2.1 (by rcases ho with h | h | h <;> simp [h])
  repeat (first | refine ⟨_, Blk.cell (fa.blk.ext k1) (by rfl), ?_⟩ | refine ⟨_, _, _, Blk.cell (fa.blk.ext k1) (by rfl), ?_⟩)
  refine (found_spec (h.ext e1) hB hC.hi).mono ?_
  rintro _ w2 ⟨A, c, rfl, ho, hn, k2⟩
  have e2 := e1.trans' k2
  refine ⟨_, _, _, _, rfl, ?_⟩
  have hfl := foundI_len p p.code 0 0 []
  have hff := foundI_fresh p p.code 0 0 [] (fun x hx => by simp at hx)
  have hlo : loopsP p = (match foundI p 0 p.code [] 0 with
    | (_, false) => ([], 141)
    | (l, true) => (match nestL [] l with
      | none => ([], 141)
      | some l' => if !sortersP p l' then ([], 141) else if calmAll l' 0 p.code then (l', 0) else ([], 141))) := by unfold loopsP; rw [hc]; rfl
  rw [List.length_nil, Nat.zero_add] at hfl
  have hC4 := hC.hi
  generalize foundI p 0 p.code [] 0 = q at *
  obtain ⟨l, ok⟩ := q
  cases ok with
  | false => exact out w2 141 hlo e2
  | true =>
  dsimp only at hfl hff hlo ho
  show bif !true then _ else _
  rw [Bool.not_true, cond_false]
  refine (nest_spec ho hff (by omega)).mono ?_
  rintro _ w3 ⟨rfl, ho3, k3⟩
  have e3 : Ext w w3 := e2.trans k3 (fun _ _ h => h) (fun k hk hb => by have := hn k hb; have := e1.size; omega)
  have k23 : Ext wa w3 := (k1.trans' k2).trans k3 (fun _ _ h => h) (fun k hk hb => by have := hn k hb; have := k1.size; omega)
  refine ⟨_, rfl, ?_⟩
  cases hnl : nestL [] l with
  | none =>
    rw [hnl] at hlo
    exact out w3 141 hlo e3
  | some l' =>
  rw [hnl] at hlo
  dsimp only at hlo
  show bif !true then _ else _
  rw [Bool.not_true, cond_false]
  have ho3 := ho3 l' hnl
  have hll := nestL_len _ _ _ hnl
  rw [List.length_nil, Nat.zero_add] at hll
  have hi3 := ho3.imm KLp_pos
  have hle := ho3.le
  repeat (first | refine ⟨_, Blk.cell (fa.blk.ext k23) (by rfl), ?_⟩ | refine ⟨_, _, _, Blk.cell (fa.blk.ext k23) (by rfl), ?_⟩)
  refine (sorters_spec (h.ext e3) hC4 hll.symm hi3 (by omega)).mono ?_
  rintro _ w4 ⟨rfl, k4⟩
  have e4 := e3.trans' k4
  refine ⟨_, rfl, brnb (fun hs => out w4 141 (by rw [hlo, hs]; rfl) e4) (fun hs => ?_)⟩
  rw [hs] at hlo
  simp only [Bool.not_true, Bool.false_eq_true, if_false] at hlo
  have bp4 := fa.blk.ext (k23.trans' k4)
  repeat (first | refine ⟨_, Blk.cell (bp4) (by rfl), ?_⟩ | refine ⟨_, _, _, Blk.cell (bp4) (by rfl), ?_⟩)
  have hi4 := hi3.ext KLp_pos k4
  refine ⟨fun x u => ∃ t : Nat, t ≤ p.code.length ∧ x = (t : Int) ∧ Ext w4 u ∧ calmAll l' 0 p.code = calmAll l' t (p.code.drop t), fun x _ => (p.code.length - x).toNat, ⟨0, by omega, rfl, .refl _ _, rfl⟩, ?_⟩
  rintro _ u ⟨t, ht, rfl, k, hq⟩
  refine brd (fun hlt => ?_) (fun hge => ?_)
  rotate_left
  · obtain rfl : t = p.code.length := by omega
    rw [List.drop_length, calmAll] at hq
    rw [hq, if_pos rfl] at hlo
    rw [hlo]
    exact ⟨A, c, by rw [hll], hle, hi4.ext KLp_pos k, e4.trans' k⟩
  have hlt : t < p.code.length := by omega
  rw [calmAll_drop l' p t hlt] at hq
  have e := e4.trans' k
  obtain ⟨ad, hA, hcell⟩ := insAt_imm h hlt
  refine ⟨ad, hA, ⟨by omega, by omega⟩, ?_⟩
  repeat (first | refine ⟨_, (hcell u e) _ _ (by rfl), ?_⟩ | refine ⟨_, _, _, (hcell u e) _ _ (by rfl), ?_⟩)
  clear hcell
  have hent := fun {v : World} (k : Ext w4 v) => enters_spec (h.ext (e4.trans' k)) hlt hC4 hll.symm (hi4.ext KLp_pos k) (c := c) (by simp only [maxLen]; omega)
  generalize p.code[t] = i at *
  intro g4 v1 f4
  refine ⟨f4.blk.stOK (insC i) 0 (by simp), fun v2 hv2 => ?_⟩
  have b4 : Blk v2 g4 (insC i) := by rw [hv2]; exact Blk.setAll (o := 0) (insC i) 0 f4.blk
  have k5 : Ext u v2 := by rw [hv2]; exact Ext.setAll f4.ext f4.ge _ _
  clear hv2 f4
  have k6 := k.trans' k5
  repeat (first | refine ⟨_, Blk.cell (bp4.ext k6) (by rfl), ?_⟩ | refine ⟨_, _, _, Blk.cell (bp4.ext k6) (by rfl), ?_⟩)
  refine (hent k6).mono ?_
  rintro _ v3 ⟨rfl, k7⟩
  have k8 := k6.trans' k7
  have no : ∀ v, Ext w4 v → calmAll l' 0 p.code = false → loopsP p = ([], 141) := fun v k hq => by rw [hlo, hq]; rfl
  refine ⟨_, rfl, br (fun hb => out _ _ (no v3 k8 (by rw [hq, hb]; rfl)) (e4.trans' k8)) (fun hb => ?_)⟩
  repeat (first | refine ⟨_, Blk.cell (b4.ext k7) (by rfl), ?_⟩ | refine ⟨_, _, _, Blk.cell (b4.ext k7) (by rfl), ?_⟩)
  refine (busy_spec hll.symm (hi4.ext KLp_pos k8) (by simp only [maxLen]; omega)).mono ?_
  rintro _ v4 ⟨rfl, k9⟩
  refine ⟨_, rfl, br (fun hb2 => out _ _ (no v4 (k8.trans' k9) (by rw [hq, hb, hb2]; rfl)) (e4.trans' (k8.trans' k9))) (fun hb2 => ?_)⟩
  rw [wi _ (by omega) (by omega)]
  exact ⟨⟨t + 1, by omega, rfl, k8.trans' k9, by rw [hq, hb, hb2]; simp⟩, by dsimp only; omega⟩
end Go.Proofs.YtabfhckjinejfaaDoor
/- Layer 16 (flow): which loops a place is within. -/
set_option linter.unusedVariables false
set_option linter.unusedSimpArgs false
namespace Go.Proofs.YtabfhckjinejfaaDoor
open Go Go.Sx R1 K15 L16
/-- of numbers that stand in order, a function value says so -/
def CmpUp (w : World) (f : Value) (d : List Int) : Prop := ∃ (fid : FuncId) (cap : Array Value), f = .func (.func fid) #[] cap ∧ bodied Tryd.prog fid = true ∧
  ∀ u, Ext w u → ∀ (j : Nat) (h : j + 1 < d.length), CallsV Tryd.prog fid (#[.int .i64 d[j + 1], .int .i64 d[j]] ++ cap) u fun r w' => ∃ x, r = .int .i64 x ∧ 0 ≤ x ∧ Ext u w'
theorem CmpUp.ext {w w' : World} {f : Value} {d : List Int} (h : CmpUp w f d) (e : Ext w w') : CmpUp w' f d := by
  obtain ⟨fid, cap, h1, h2, h3⟩ := h
  exact ⟨fid, cap, h1, h2, fun u eu => h3 u (e.trans' eu)⟩
theorem ints_imm {w : World} {A : Option Addr} {d : List Int} (h : Imm KI NoB w A d) {j : Nat} (hj : j < d.length) : ∃ ad, A = some ad ∧ ∀ u, Ext w u → u.cell? (ad.add (j * 1)) = some (.int .i64 d[j]) := by
  obtain ⟨ad, hA, cs, hrep, hc⟩ := h.get1 hj
  have hcs : cs = [.int .i64 d[j]] := hrep
  subst hcs
  exact ⟨ad, hA, fun u e => e.cell (fun h => h) (hc 0 _ rfl)⟩
theorem ins_sorted {w : World} {A : Option Addr} {c n : Nat} {d : List Int} {f : Value} (hn : n = d.length) (hi : Imm KI NoB w A d) (hd : d.length ≤ 1000) (hf : CmpUp w f d) (lo hi' : Nat) (h1 : lo ≤ hi') (h2 : hi' ≤ d.length) :
    CallsV Tryd.prog 70 #[.slice A n c, .int .i64 lo, .int .i64 hi', f] w fun r w' => r = .tuple #[] ∧ Ext w w' := by
  subst hn
  refine slices_insertionSortCmpFunc_int.calls okay ?_
  unfold slices_insertionSortCmpFunc_int.W
  rw [wi _ (by omega) (by omega)]
  refine ⟨fun x u => ∃ k : Nat, x = (k : Int) ∧ lo < k ∧ Ext w u, fun x _ => ((hi' : Int) - x).toNat, ⟨lo + 1, rfl, by omega, .refl _ _⟩, ?_⟩
  rintro _ u ⟨k, rfl, hk, e⟩
  refine brd (fun hlt => ?_) (fun hge => ⟨rfl, e⟩)
  refine ⟨fun x v => x = (k : Int) ∧ Ext w v, fun x _ => 0, ⟨rfl, e⟩, ?_⟩
  rintro _ v ⟨rfl, e⟩
  refine brd (fun h => ?_) (fun h => by omega)
  have hk1 : k < d.length := by omega
  rw [wi ((k : Int) - 1) (by omega) (by omega), wi ((k : Int) + 1) (by omega) (by omega)]
  obtain ⟨ad, hA, hc⟩ := ints_imm (hi.ext (by decide) e) hk1
  obtain ⟨ad', hA', hc'⟩ := ints_imm (hi.ext (by decide) e) (show k - 1 < d.length by omega)
  rw [hA] at hA'; cases hA'
  refine ⟨ad, hA, ⟨by omega, by omega⟩, fun q => Ext v q, Fr.drew NoB v, _, fun q eq => hc q eq, ad, hA, ⟨by omega, by omega⟩, _, fun q eq => by rw [show Int.toNat ((k : Int) - 1) = k - 1 by omega]; exact hc' q eq, ?_⟩
  obtain ⟨fid, cap, rfl, hb, hcall⟩ := hf
  refine ⟨fid, _, _, rfl, hb, ?_⟩
  have := hcall v.drew e.drew (k - 1) (by omega)
  simp only [show k - 1 + 1 = k by omega] at this
  have ea : (Array.toList (#[] : Array Value) ++ ([Value.int .i64 d[k], .int .i64 d[k - 1]] ++ cap.toList)).toArray = #[.int .i64 d[k], .int .i64 d[k - 1]] ++ cap := by simp
  rw [ea]
  refine this.mono ?_
  rintro _ v1 ⟨x, rfl, hx, e1⟩
  refine ⟨_, rfl, brd (fun h => by omega) (fun _ => ?_)⟩
  exact ⟨⟨k + 1, by omega, by omega, e.drew.trans' e1⟩, by dsimp only; omega⟩
theorem stable_sorted {w : World} {A : Option Addr} {c n : Nat} {d : List Int} {f : Value} (hn : n = d.length) (hi : Imm KI NoB w A d) (hd : d.length < 20) (hf : CmpUp w f d) :
    CallsV Tryd.prog 23 #[.slice A n c, f] w fun r w' => r = .tuple #[] ∧ Ext w w' := by
  subst hn
  refine slices_SortStableFunc_int_int.calls okay ?_
  unfold slices_SortStableFunc_int_int.W
  have : CallsV Tryd.prog 37 #[.slice A d.length c, .int .i64 d.length, f] w fun r w' => r = .tuple #[] ∧ Ext w w' := by
    refine slices_stableCmpFunc_int.calls okay ?_
    unfold slices_stableCmpFunc_int.W
    refine ⟨fun x y u => x = 0 ∧ y = 20 ∧ Ext w u, fun _ _ _ => 0, ⟨rfl, rfl, .refl _ _⟩, ?_⟩
    rintro _ _ u ⟨rfl, rfl, e⟩
    refine brd (fun h => by omega) (fun _ => ?_)
    refine (ins_sorted rfl (hi.ext (by decide) e) (by omega) (hf.ext e) 0 d.length (by omega) (by omega)).mono ?_
    rintro _ v ⟨rfl, e1⟩
    refine ⟨rfl, fun x u => x = 20 ∧ Ext w u, fun _ _ => 0, ⟨rfl, e.trans' e1⟩, ?_⟩
    rintro _ u ⟨rfl, e⟩
    exact brd (fun h => by omega) (fun _ => ⟨rfl, e⟩)
  refine this.mono ?_
  rintro _ v ⟨rfl, e⟩
  exact ⟨rfl, rfl, e⟩
/-- loops that stand in order, and do not reach far -/
structure Ups (l : List Lp) : Prop where
  up : ∀ (i j : Nat) (x y : Lp), l[i]? = some x → l[j]? = some y → i < j → x.fr < y.fr
  rng : ∀ x ∈ l, 0 ≤ x.fr ∧ x.fr ≤ 4000
  len : l.length ≤ 4000
def insZ (l : List Lp) (a : Int) : List Int := (insF l 0 a).map Int.ofNat
theorem insF_up (a : Int) : ∀ (l : List Lp) (m j p q : Nat), (insF l m a)[j]? = some p → (insF l m a)[j + 1]? = some q → p < q
  | [], m, j, p, q, h, _ => by simp [insF] at h
  | y :: l, m, j, p, q, h, h' => by
    rw [insF] at h h'
    split at h
    · rename_i hy
      rw [if_pos hy] at h'
      cases j with
      | zero =>
        simp at h h'
        subst h
        obtain ⟨i, x, _, hx, _⟩ := (insF_mem a l (m + 1) q).1 (List.mem_of_getElem? (i := 0) (by simpa using h'))
        omega
      | succ j => exact insF_up a l (m + 1) j p q (by simpa using h) (by simpa using h')
    · rename_i hy
      rw [if_neg hy] at h'
      exact insF_up a l (m + 1) j p q h h'
theorem insZ_get {l : List Lp} {a : Int} {j : Nat} {x : Int} (h : (insZ l a)[j]? = some x) : ∃ p : Nat, x = (p : Int) ∧ (insF l 0 a)[j]? = some p ∧ p < l.length := by
  unfold insZ at h
  rw [List.getElem?_map] at h
  cases hp : (insF l 0 a)[j]? with
  | none => rw [hp] at h; cases h
  | some p =>
    rw [hp] at h
    cases h
    obtain ⟨i, y, hy, hpi, _⟩ := (insF_mem a l 0 p).1 (List.mem_of_getElem? hp)
    have := (List.getElem?_eq_some_iff.1 hy).1
    exact ⟨p, rfl, rfl, by omega⟩
theorem insZ_length (l : List Lp) (a : Int) : (insZ l a).length = cnt l a := by unfold insZ; rw [List.length_map, insF_length]
theorem cmp_up {w : World} {g : Nat} {A : Option Addr} {c : Nat} {l : List Lp} (hi : Imm KLp NoB w A l) (hU : Ups l) (b : Blk w g [.slice A l.length c]) (a : Int) :
    CmpUp w (.func (.func 24) #[] #[.pointer (some ⟨g, 0, none⟩)]) (insZ l a) := by
  refine ⟨_, _, rfl, by kernel_rfl, fun u e j hj => ?_⟩
  obtain ⟨p, hp, hp1, hpl⟩ := insZ_get (List.getElem?_eq_getElem (show j < (insZ l a).length by omega))
  obtain ⟨q, hq, hq1, hql⟩ := insZ_get (List.getElem?_eq_getElem hj)
  have hlt := insF_up a l 0 j p q hp1 hq1
  refine flow_Inside_1.calls okay ?_
  unfold flow_Inside_1.W
  rw [hp, hq]
  obtain ⟨ad, hA, hc⟩ := lp_imm (hi.ext (by decide) e) (List.getElem?_eq_getElem hql)
  obtain ⟨ad', hA', hc'⟩ := lp_imm (hi.ext (by decide) e) (List.getElem?_eq_getElem hpl)
  rw [hA] at hA'; cases hA'
  have hup := hU.up p q _ _ (List.getElem?_eq_getElem hpl) (List.getElem?_eq_getElem hql) hlt
  have r1 := hU.rng l[p] (by simp)
  have r2 := hU.rng l[q] (by simp)
  refine ⟨fun v => Ext u v, Fr.drew NoB u, _, _, _, fun v ev => (b.ext (e.trans' ev)).cell0 rfl, ad, hA, ⟨by omega, by omega⟩, _, fun v ev => hc v ev 0 _ rfl, _, _, _, fun v ev => (b.ext (e.trans' ev)).cell0 rfl, ad, hA, ⟨by omega, by omega⟩, _, fun v ev => hc' v ev 0 _ rfl, ?_⟩
  refine ⟨_, rfl, ?_, Fr.drew NoB u⟩
  rw [wi _ (by omega) (by omega)]
  omega
set_option maxRecDepth 10000 in
theorem Inside_spec {w : World} {A : Option Addr} {c n : Nat} {l : List Lp} (hn : n = l.length) (hi : Imm KLp NoB w A l) (hU : Ups l) (a : Int) (hs : cnt l a < 20) :
    CallsV Tryd.prog 10 #[.slice A n c, .int .i64 a] w fun r w' => ∃ B d, r = .slice B (insZ l a).length d ∧ (insZ l a).length ≤ d ∧ Imm KI NoB w' B (insZ l a) ∧ Ext w w' := by
  subst hn
  have h4 := hU.len
  refine flow_Inside.calls okay ?_
  unfold flow_Inside.W
  intro g wa fa
  refine (inside_spec wa a).mono ?_
  rintro _ w1 ⟨ga, rfl, ba, k1, _⟩
  have bl := fa.blk.ext k1
  refine ⟨_, rfl, _, _, _, bl.cell0 rfl, ?_⟩
  have e1 := fa.ext.trans' k1
  refine ⟨fun B n d x u => ∃ (k : Nat) (m : List Int), x = (k : Int) ∧ n = m.length ∧ k ≤ l.length ∧ m = insZ (l.take k) a ∧ Own u 1 B m.length d (m.map eI) ∧ New w1 B ∧ Ext w1 u, fun B n d x _ => (l.length - x).toNat, ⟨0, [], rfl, rfl, by omega, rfl, Own.nil _ _, New.none _, .refl _ _⟩, ?_⟩
  rintro B _ d _ u ⟨k, m, rfl, rfl, hk, hm, ho, hnB, e⟩
  refine brd (fun hlt => ?_) (fun hge => ?_)
  rotate_left
  · obtain rfl : k = l.length := by omega
    rw [List.take_length] at hm
    subst hm
    obtain ⟨_, hI, hcap⟩ := own_ints ho
    refine (stable_sorted rfl hI (by rw [insZ_length]; omega) (cmp_up ((hi.ext (by decide) e1).ext (by decide) e) hU (bl.ext e) a)).mono ?_
    rintro _ v ⟨rfl, k2⟩
    exact ⟨rfl, B, d, rfl, hcap, hI.ext (by decide) k2, (e1.trans' e).trans' k2⟩
  have hkl : k < l.length := by omega
  obtain ⟨ad, hA, hc⟩ := lp_imm ((hi.ext (by decide) e1).ext (by decide) e) (List.getElem?_eq_getElem hkl)
  refine ⟨ad, hA, ⟨by omega, by omega⟩, ?_⟩
  repeat (first | refine ⟨_, (hc u (.refl _ _)) _ _ (by rfl), ?_⟩ | refine ⟨_, _, _, (hc u (.refl _ _)) _ _ (by rfl), ?_⟩)
  clear hc
  have htk : insZ (l.take (k + 1)) a = m ++ (if inL l[k] a then [(k : Int)] else []) := by
    rw [hm]
    unfold insZ
    have : l.take (k + 1) = l.take k ++ [l[k]] := by rw [List.take_add_one]; simp [hkl]
    rw [this, insF_append, List.map_append]
    congr 1
    have hlk : (l.take k).length = k := by rw [List.length_take]; omega
    rw [hlk, Nat.zero_add, insF]
    split <;> simp [insF]
  have hml : m.length ≤ k := by
    rw [hm, insZ_length]
    have := cnt_le a (l.take k)
    rw [List.length_take] at this; omega
  generalize l[k] = x at *
  intro g4 v1 f4
  refine ⟨f4.blk.stOK (lpC x) 0 (by simp), fun v2 hv2 => ?_⟩
  have b4 : Blk v2 g4 (lpC x) := by rw [hv2]; exact Blk.setAll (o := 0) (lpC x) 0 f4.blk
  have k4 : Ext u v2 := by rw [hv2]; exact Ext.setAll f4.ext f4.ge _ _
  clear hv2 f4
  have e2 := e.trans' k4
  repeat (first | refine ⟨_, Blk.cell (b4) (by rfl), ?_⟩ | refine ⟨_, _, _, Blk.cell (b4) (by rfl), ?_⟩)
  refine ⟨_, _, _, rfl, insF1_bodied, (inside1_spec (ba.ext e2) x).mono ?_⟩
  rintro _ v3 ⟨rfl, k5⟩
  have e3 := e2.trans' k5
  have ho3 := ho.keep (k4.trans' k5) (fun _ _ h => h)
  rw [wi _ (by omega) (by omega)]
  refine ⟨_, rfl, br (fun hb => ?_) (fun hb => ?_)⟩
  · intro g6 v6 f6
    rw [hb, if_pos rfl] at htk
    obtain ⟨h61, h62⟩ := f6
    subst h61; subst h62
    obtain ⟨B', d', w', hr, ho', hf, hbk, _⟩ := append_one (ty := 36) sl_int ho3 (cs := [.int .i64 k]) rfl (by intro v hv; simp at hv; subst hv; rfl) (e' := 3) (by simp only [maxLen]; omega) (by omega)
    have hg : Grew B B' v3 w' := ⟨hf, hbk⟩
    refine ⟨B', m.length + 1, d', w', hr, ⟨k + 1, m ++ [(k : Int)], by omega, by simp, by omega, htk.symm, by simpa using ho', hg.new e3 hnB, hg.ext e3 hnB⟩, by dsimp only; omega⟩
  · rw [hb, if_neg (by decide), List.append_nil] at htk
    exact ⟨⟨k + 1, m, by omega, rfl, by omega, htk.symm, ho3, hnB, e3⟩, by dsimp only; omega⟩
end Go.Proofs.YtabfhckjinejfaaDoor
/- Layer 16: what the statements look at; the chapter's examples. -/
set_option linter.unusedVariables false
set_option linter.unusedSimpArgs false
namespace Go.Proofs.YtabfhckjinejfaaDoor
open Go Go.Sx R1 K15 L16
set_option maxRecDepth 10000 in
theorem Great_spec {w : World} {p : Prog} {a : PAd} (h : PIm w p a) : CallsV Tryd.prog 15 #[pagg p a] w fun r w' => ∃ b, r = .bool b ∧ Ext w w' := by
  have m1 := h.l1
  have m2 := h.l2
  have m3 := h.l3
  have m4 := h.l4
  have m5 := h.l5
  simp only [maxLen] at m1 m2 m3 m4 m5
  refine cardindexlaw15_Great.calls okay ?_
  unfold cardindexlaw15_Great.W
  intro g w1 f
  have bp := f.blk
  have h := h.ext f.ext
  have e1 := f.ext
  repeat (first | refine ⟨_, Blk.cell (bp) (by rfl), ?_⟩ | refine ⟨_, _, _, Blk.cell (bp) (by rfl), ?_⟩)
  refine brd (fun _ => ⟨_, rfl, e1⟩) (fun _ => ?_)
  repeat (first | refine ⟨_, Blk.cell (bp) (by rfl), ?_⟩ | refine ⟨_, _, _, Blk.cell (bp) (by rfl), ?_⟩)
  refine brd (fun _ => ⟨_, rfl, e1⟩) (fun _ => ?_)
  repeat (first | refine ⟨_, Blk.cell (bp) (by rfl), ?_⟩ | refine ⟨_, _, _, Blk.cell (bp) (by rfl), ?_⟩)
  refine brd (fun _ => ⟨_, rfl, e1⟩) (fun _ => ?_)
  repeat (first | refine ⟨_, Blk.cell (bp) (by rfl), ?_⟩ | refine ⟨_, _, _, Blk.cell (bp) (by rfl), ?_⟩)
  refine ⟨fun x y u => ∃ k : Nat, k ≤ p.names.length ∧ y = (k : Int) ∧ u = w1, fun x y u => ((p.names.length : Int) - y).toNat, ⟨0, by omega, rfl, rfl⟩, ?_⟩
  rintro x _ u ⟨k, hk, rfl, hu⟩
  obtain rfl : w1 = u := hu.symm
  refine brd (fun hlt => ?_) (fun _ => ?_)
  · repeat (first | refine ⟨_, Blk.cell (bp) (by rfl), ?_⟩ | refine ⟨_, _, _, Blk.cell (bp) (by rfl), ?_⟩)
    obtain ⟨ad, hA, cs, hrep, hc⟩ := h.names.get1 (show k < p.names.length by omega)
    have hcs : cs = [.string p.names[k]] := hrep
    subst hcs
    rw [wi ((k : Int) + 1) (by omega) (by omega)]
    exact ⟨ad, hA, ⟨by omega, by omega⟩, _, hc 0 _ rfl, ⟨k + 1, by omega, by omega, rfl⟩, by dsimp only; omega⟩
  repeat (first | refine ⟨_, Blk.cell (bp) (by rfl), ?_⟩ | refine ⟨_, _, _, Blk.cell (bp) (by rfl), ?_⟩)
  refine ⟨fun x y u => ∃ k : Nat, k ≤ p.consts.length ∧ y = (k : Int) ∧ u = w1, fun x y u => ((p.consts.length : Int) - y).toNat, ⟨0, by omega, rfl, rfl⟩, ?_⟩
  rintro x _ u ⟨k, hk, rfl, hu⟩
  obtain rfl : w1 = u := hu.symm
  refine brd (fun hlt => ?_) (fun _ => ?_)
  · repeat (first | refine ⟨_, Blk.cell (bp) (by rfl), ?_⟩ | refine ⟨_, _, _, Blk.cell (bp) (by rfl), ?_⟩)
    obtain ⟨ad, hA, cs, hrep, hc⟩ := h.consts.get1 (show k < p.consts.length by omega)
    have hcs : cs = vc p.consts[k] := hrep
    subst hcs
    rw [wi ((k : Int) + 1) (by omega) (by omega)]
    exact ⟨ad, hA, ⟨by omega, by omega⟩, _, by rw [add_add]; exact hc 2 _ rfl, ⟨k + 1, by omega, by omega, rfl⟩, by dsimp only; omega⟩
  repeat (first | refine ⟨_, Blk.cell (bp) (by rfl), ?_⟩ | refine ⟨_, _, _, Blk.cell (bp) (by rfl), ?_⟩)
  refine ⟨fun x y u => ∃ k : Nat, k ≤ p.curs.length ∧ y = (k : Int) ∧ u = w1, fun x y u => ((p.curs.length : Int) - y).toNat, ⟨0, by omega, rfl, rfl⟩, ?_⟩
  rintro x _ u ⟨k, hk, rfl, hu⟩
  obtain rfl : w1 = u := hu.symm
  refine brd (fun hlt => ?_) (fun _ => ?_)
  · repeat (first | refine ⟨_, Blk.cell (bp) (by rfl), ?_⟩ | refine ⟨_, _, _, Blk.cell (bp) (by rfl), ?_⟩)
    obtain ⟨ad, hA, cs, hrep, hc⟩ := h.curs.get1 (show k < p.curs.length by omega)
    have hcs : cs = [.string p.curs[k].name, .bool p.curs[k].ix, .bool p.curs[k].wr] := hrep
    subst hcs
    rw [wi ((k : Int) + 1) (by omega) (by omega)]
    exact ⟨ad, hA, ⟨by omega, by omega⟩, _, by rw [add_add]; exact hc 0 _ rfl, ⟨k + 1, by omega, by omega, rfl⟩, by dsimp only; omega⟩
  repeat (first | refine ⟨_, Blk.cell (bp) (by rfl), ?_⟩ | refine ⟨_, _, _, Blk.cell (bp) (by rfl), ?_⟩)
  refine ⟨fun x y u => ∃ k : Nat, k ≤ p.sorts.length ∧ y = (k : Int) ∧ u = w1, fun x y u => ((p.sorts.length : Int) - y).toNat, ⟨0, by omega, rfl, rfl⟩, ?_⟩
  rintro x _ u ⟨k, hk, rfl, hu⟩
  obtain rfl : w1 = u := hu.symm
  refine brd (fun hlt => ?_) (fun _ => ?_)
  · repeat (first | refine ⟨_, Blk.cell (bp) (by rfl), ?_⟩ | refine ⟨_, _, _, Blk.cell (bp) (by rfl), ?_⟩)
    obtain ⟨ad, hA, cs, hrep, hc⟩ := h.sorts.get1 (show k < p.sorts.length by omega)
    obtain ⟨B, d, hcs, _⟩ := id hrep
    subst hcs
    rw [wi ((k : Int) + 1) (by omega) (by omega)]
    exact ⟨ad, hA, ⟨by omega, by omega⟩, _, _, _, by rw [add_add]; exact hc 0 _ rfl, ⟨k + 1, by omega, by omega, rfl⟩, by dsimp only; omega⟩
  repeat (first | refine ⟨_, Blk.cell (bp) (by rfl), ?_⟩ | refine ⟨_, _, _, Blk.cell (bp) (by rfl), ?_⟩)
  refine ⟨fun x y u => ∃ k : Nat, k ≤ p.tots.length ∧ y = (k : Int) ∧ u = w1, fun x y u => ((p.tots.length : Int) - y).toNat, ⟨0, by omega, rfl, rfl⟩, ?_⟩
  rintro x _ u ⟨k, hk, rfl, hu⟩
  obtain rfl : w1 = u := hu.symm
  refine brd (fun hlt => ?_) (fun _ => ⟨_, rfl, e1⟩)
  repeat (first | refine ⟨_, Blk.cell (bp) (by rfl), ?_⟩ | refine ⟨_, _, _, Blk.cell (bp) (by rfl), ?_⟩)
  obtain ⟨ad, hA, cs, hrep, hc⟩ := h.tots.get1 (show k < p.tots.length by omega)
  have hcs : cs = [.string p.tots[k].fn, .bool p.tots[k].dist] := hrep
  subst hcs
  rw [wi ((k : Int) + 1) (by omega) (by omega)]
  exact ⟨ad, hA, ⟨by omega, by omega⟩, _, by rw [add_add]; exact hc 0 _ rfl, ⟨k + 1, by omega, by omega, rfl⟩, by dsimp only; omega⟩
theorem great_spec {w : World} {p : Prog} {a : PAd} (h : PIm w p a) : CallsV Tryd.prog 7 #[pagg p a] w fun r w' => ∃ b, r = .bool b ∧ (b = false → p.code.length ≤ 300) ∧ Ext w w' := by
  refine cardindexlaw16_great.calls okay ?_
  unfold cardindexlaw16_great.W
  intro g w1 f
  repeat (first | refine ⟨_, Blk.cell (f.blk) (by rfl), ?_⟩ | refine ⟨_, _, _, Blk.cell (f.blk) (by rfl), ?_⟩)
  refine (Great_spec (h.ext f.ext)).mono ?_
  rintro _ w2 ⟨b, rfl, e⟩
  refine ⟨_, rfl, br (fun _ => ⟨_, rfl, fun h => (by cases h), f.ext.trans' e⟩) (fun _ => ?_)⟩
  repeat (first | refine ⟨_, Blk.cell (f.blk.ext e) (by rfl), ?_⟩ | refine ⟨_, _, _, Blk.cell (f.blk.ext e) (by rfl), ?_⟩)
  exact ⟨_, rfl, fun h => by have := of_decide_eq_false h; omega, f.ext.trans' e⟩
/-- a program of a cursor, of some instructions -/
def progP (l : List Ins) : Prog := ⟨1, 4, 0, [ByteArray.mk #[97]], [], [⟨ByteArray.mk #[116], false, true⟩, ⟨ByteArray.mk #[117], false, false⟩], [⟨[], 1, false⟩], [], l⟩
set_option maxRecDepth 10000 in
theorem prog_spec {w : World} {A : Option Addr} {c n : Nat} {l : List Ins} (hn : n = l.length) (hi : Imm KIns NoB w A l) (hl : l.length ≤ maxLen) (hc : l.length ≤ c) :
    CallsV Tryd.prog 11 #[.slice A n c] w fun r w' => ∃ a, r = pagg (progP l) a ∧ PIm w' (progP l) a ∧ Ext w w' ∧ a.dA = A ∧ a.dc = c := by
  subst hn
  refine cardindexlaw16_prog.calls okay ?_
  unfold cardindexlaw16_prog.W
  intro g w1 f1 g1 w2 f2 g2 w3 f3 g3 w4 f4
  have h1 : Imm Kd.str (fun k => k = g) w2 (some ⟨g1, 0, none⟩) [ByteArray.mk #[97]] := f2.imm (by have := f2.ge; have := f1.lt; omega) KStr_pos rfl (by simp [maxLen]) (by
    intro i a h
    rcases i with _ | i
    · simp at h; subst h; rfl
    · simp at h)
  have h2 : Imm KCur (fun k => k = g) w3 (some ⟨g2, 0, none⟩) [⟨ByteArray.mk #[116], false, true⟩, ⟨ByteArray.mk #[117], false, false⟩] := f3.imm (by have := f3.ge; have := f1.lt; have := f2.ext.size; omega) KCur_pos rfl (by simp [maxLen]) (by
    intro i a h
    rcases i with _ | _ | i
    · simp at h; subst h; rfl
    · simp at h; subst h; rfl
    · simp at h)
  have h3 : Imm KSrt (fun k => k = g) w4 (some ⟨g3, 0, none⟩) [⟨[], 1, false⟩] := f4.imm (by have := f4.ge; have := f1.lt; have := f2.ext.size; have := f3.ext.size; omega) KSrt_pos rfl (by simp [maxLen]) (by
    intro i a h
    rcases i with _ | i
    · simp at h; subst h; exact ⟨none, 0, rfl, Nat.le_refl _, Imm.nil _ _ _ _⟩
    · simp at h)
  have b1 := f1.blk.ext ((f2.ext.trans' f3.ext).trans' f4.ext)
  have hz : (0 : Nat) ≤ maxLen := by simp [maxLen]
  refine ⟨b1.stOK [_, _, _, _, _, _, _, _, _] 0 (by simp), fun w5 hw5 => ?_⟩
  have f5 : Fr (fun k => k = g) w4 w5 := by rw [hw5]; exact Fr.setAll _ _ _
  have b5 : Blk w5 g (pcs (progP l) ⟨some ⟨g1, 0, none⟩, 1, none, 0, some ⟨g2, 0, none⟩, 2, some ⟨g3, 0, none⟩, 1, none, 0, A, c⟩) := by
    rw [hw5]; exact Blk.setAll (o := 0) (pcs (progP l) ⟨some ⟨g1, 0, none⟩, 1, none, 0, some ⟨g2, 0, none⟩, 2, some ⟨g3, 0, none⟩, 1, none, 0, A, c⟩) 0 b1
  have e4 : Ext w w4 := f1.ext.trans' ((f2.ext.trans' f3.ext).trans' f4.ext)
  have e5 : Ext w w5 := e4.trans f5 (fun _ _ h => h) (fun k hk e => by have := f1.ge; omega)
  clear hw5
  repeat (first | refine ⟨_, Blk.cell (b5) (by rfl), ?_⟩ | refine ⟨_, _, _, Blk.cell (b5) (by rfl), ?_⟩)
  have out : ∀ {α : Type} {K : Kd α} {u : World} {A : Option Addr} {l : List α}, 0 < K.size → Imm K (fun k => k = g) u A l → Ext u w4 → Imm K NoB w5 A l := fun hz hi e =>
    (hi.ext hz e).keep hz (f5.step (fun _ _ h => h) (fun _ _ h => h.elim))
  exact ⟨⟨some ⟨g1, 0, none⟩, 1, none, 0, some ⟨g2, 0, none⟩, 2, some ⟨g3, 0, none⟩, 1, none, 0, A, c⟩, rfl, ⟨out KStr_pos h1 (f3.ext.trans' f4.ext), Imm.nil _ _ _ _, out KCur_pos h2 f4.ext, out KSrt_pos h3 (.refl _ _), Imm.nil _ _ _ _, hi.ext KIns_pos e5, by simp [progP, maxLen], by simp [progP, maxLen], by simp [progP, maxLen], by simp [progP, maxLen], by simp [progP, maxLen], hl, hc⟩, e5, rfl, rfl⟩
end Go.Proofs.YtabfhckjinejfaaDoor
/- Layer 16: the chapter's examples. -/
set_option linter.unusedVariables false
set_option linter.unusedSimpArgs false
namespace Go.Proofs.YtabfhckjinejfaaDoor
open Go Go.Sx R1 K15 L16
def iFirst : Ins := ⟨13, 0, 3, 0, 0⟩
def iRow : Ins := ⟨27, 0, 0, 0, 0⟩
def iNext : Ins := ⟨15, 0, 1, 0, 0⟩
def iHalt : Ins := ⟨35, 0, 0, 0, 0⟩
def iJump : Ins := ⟨10, 2, 0, 0, 0⟩
theorem loops1 : loopsP (progP [iFirst, iRow, iNext, iHalt]) = ([⟨0, 2, 0, -1, 0, -1⟩], 0) := by kernel_rfl
theorem loops2 : loopsP (progP [iFirst, iJump, iNext, iHalt]) = ([⟨0, 2, 0, -1, 0, -1⟩], 0) := by kernel_rfl
theorem loops3 : loopsP (progP [iRow, iNext, iHalt]) = ([], 141) := by kernel_rfl
set_option maxRecDepth 20000 in
set_option maxHeartbeats 4000000 in
theorem awake_spec {w : World} (hT : Tab w) : CallsV Tryd.prog 8 #[] w fun r w' => r = .bool true ∧ Ext w w' := by
  refine cardindexlaw16_awake.calls okay ?_
  unfold cardindexlaw16_awake.W
  intro g0 w1 f0 g1 w2 f1 g2 w3 f2 g3 w4 f3
  have n0 := f0.ge
  have n1 := f1.ge
  have n2 := f2.ge
  have n3 := f3.ge
  have s0 := f0.ext.size
  have s1 := f1.ext.size
  have s2 := f2.ext.size
  have l0 := f0.lt
  have l1 := f1.lt
  have l2 := f2.lt
  have b0 := f0.blk.ext ((f1.ext.trans' f2.ext).trans' f3.ext)
  have b1 := f1.blk.ext (f2.ext.trans' f3.ext)
  have b2 := f2.blk.ext f3.ext
  have b3 := f3.blk
  have e4 : Ext w w4 := f0.ext.trans' ((f1.ext.trans' f2.ext).trans' f3.ext)
  clear f0 f1 f2 f3
  have step : ∀ {u v : World} {k : Nat}, Ext w u → Fr (fun q => q = k) u v → w.heap.size ≤ k → Ext w v := fun e f h => e.trans f (fun _ _ h => h) (fun k hk e => by omega)
  refine ⟨b0.stOK (insC iFirst) 0 (by simp), fun w5 hw => ?_⟩
  obtain ⟨b0, q⟩ := set0 b0 hw rfl
  have b1 := b1.keep q (by omega)
  have b2 := b2.keep q (by omega)
  have b3 := b3.keep q (by omega)
  have e5 := step e4 q (by omega)
  clear hw q e4
  refine ⟨b1.stOK (insC iRow) 0 (by simp), fun w6 hw => ?_⟩
  obtain ⟨b1, q⟩ := set0 b1 hw rfl
  have b0 := b0.keep q (by omega)
  have b2 := b2.keep q (by omega)
  have b3 := b3.keep q (by omega)
  have e6 := step e5 q (by omega)
  clear hw q e5
  refine ⟨b2.stOK (insC iNext) 0 (by simp), fun w7 hw => ?_⟩
  obtain ⟨b2, q⟩ := set0 b2 hw rfl
  have b0 := b0.keep q (by omega)
  have b1 := b1.keep q (by omega)
  have b3 := b3.keep q (by omega)
  have e7 := step e6 q (by omega)
  clear hw q e6
  refine ⟨b3.stOK (insC iHalt) 0 (by simp), fun w8 hw => ?_⟩
  obtain ⟨b3, q⟩ := set0 b3 hw rfl
  have b0 := b0.keep q (by omega)
  have b1 := b1.keep q (by omega)
  have b2 := b2.keep q (by omega)
  have e8 := step e7 q (by omega)
  clear hw q e7 n0 n1 n2 n3 s0 s1 s2 l0 l1 l2 step
  repeat (first | refine ⟨_, Blk.cell (b0) (by rfl), ?_⟩ | refine ⟨_, _, _, Blk.cell (b0) (by rfl), ?_⟩ | refine ⟨_, Blk.cell (b1) (by rfl), ?_⟩ | refine ⟨_, _, _, Blk.cell (b1) (by rfl), ?_⟩ | refine ⟨_, Blk.cell (b2) (by rfl), ?_⟩ | refine ⟨_, _, _, Blk.cell (b2) (by rfl), ?_⟩ | refine ⟨_, Blk.cell (b3) (by rfl), ?_⟩ | refine ⟨_, _, _, Blk.cell (b3) (by rfl), ?_⟩)
  intro g4 w9 f4
  have i4 : Imm KIns NoB w9 (some ⟨g4, 0, none⟩) [iFirst, iRow, iNext, iHalt] := f4.imm (fun h => h) KIns_pos rfl (by simp [maxLen]) (by
    intro i a h
    rcases i with _ | _ | _ | _ | i
    · simp at h; subst h; rfl
    · simp at h; subst h; rfl
    · simp at h; subst h; rfl
    · simp at h; subst h; rfl
    · simp at h)
  refine (prog_spec (l := [iFirst, iRow, iNext, iHalt]) rfl i4 (by simp [maxLen]) (by simp)).mono ?_
  rintro _ w10 ⟨a1, rfl, p1, k1, _⟩
  refine ⟨_, _, _, _, _, _, _, _, _, _, _, _, _, _, _, _, _, _, _, _, _, rfl, ?_⟩
  have e10 := (e8.trans' f4.ext).trans' k1
  refine (Loops_spec p1 (hT.ext e10)).mono ?_
  rintro _ w11 ⟨A1, c1, rfl, hc1, hi1, k2⟩
  rw [loops1] at hc1 hi1 ⊢
  refine ⟨_, _, _, _, rfl, ?_⟩
  have e11 := e10.trans' k2
  have k11 : Ext w8 w11 := (f4.ext.trans' k1).trans' k2
  clear f4 i4 p1 k1 k2 e10
  repeat (first | refine ⟨_, Blk.cell (b0.ext k11) (by rfl), ?_⟩ | refine ⟨_, _, _, Blk.cell (b0.ext k11) (by rfl), ?_⟩ | refine ⟨_, Blk.cell (b2.ext k11) (by rfl), ?_⟩ | refine ⟨_, _, _, Blk.cell (b2.ext k11) (by rfl), ?_⟩ | refine ⟨_, Blk.cell (b3.ext k11) (by rfl), ?_⟩ | refine ⟨_, _, _, Blk.cell (b3.ext k11) (by rfl), ?_⟩)
  intro g5 w12 f5
  have i5 : Imm KIns NoB w12 (some ⟨g5, 0, none⟩) [iFirst, iJump, iNext, iHalt] := f5.imm (fun h => h) KIns_pos rfl (by simp [maxLen]) (by
    intro i a h
    rcases i with _ | _ | _ | _ | i
    · simp at h; subst h; rfl
    · simp at h; subst h; rfl
    · simp at h; subst h; rfl
    · simp at h; subst h; rfl
    · simp at h)
  refine (prog_spec (l := [iFirst, iJump, iNext, iHalt]) rfl i5 (by simp [maxLen]) (by simp)).mono ?_
  rintro _ w13 ⟨a2, rfl, p2, k3, _⟩
  refine ⟨_, _, _, _, _, _, _, _, _, _, _, _, _, _, _, _, _, _, _, _, _, rfl, ?_⟩
  have e13 := (e11.trans' f5.ext).trans' k3
  refine (Loops_spec p2 (hT.ext e13)).mono ?_
  rintro _ w14 ⟨A2, c2, rfl, hc2, hi2, k4⟩
  rw [loops2] at hc2 hi2 ⊢
  refine ⟨_, _, _, _, rfl, ?_⟩
  have e14 := e13.trans' k4
  have k14 : Ext w11 w14 := (f5.ext.trans' k3).trans' k4
  clear f5 i5 p2 k3 k4 e13
  repeat (first | refine ⟨_, Blk.cell (b1.ext (k11.trans' k14)) (by rfl), ?_⟩ | refine ⟨_, _, _, Blk.cell (b1.ext (k11.trans' k14)) (by rfl), ?_⟩ | refine ⟨_, Blk.cell (b2.ext (k11.trans' k14)) (by rfl), ?_⟩ | refine ⟨_, _, _, Blk.cell (b2.ext (k11.trans' k14)) (by rfl), ?_⟩ | refine ⟨_, Blk.cell (b3.ext (k11.trans' k14)) (by rfl), ?_⟩ | refine ⟨_, _, _, Blk.cell (b3.ext (k11.trans' k14)) (by rfl), ?_⟩)
  intro g6 w15 f6
  have i6 : Imm KIns NoB w15 (some ⟨g6, 0, none⟩) [iRow, iNext, iHalt] := f6.imm (fun h => h) KIns_pos rfl (by simp [maxLen]) (by
    intro i a h
    rcases i with _ | _ | _ | i
    · simp at h; subst h; rfl
    · simp at h; subst h; rfl
    · simp at h; subst h; rfl
    · simp at h)
  refine (prog_spec (l := [iRow, iNext, iHalt]) rfl i6 (by simp [maxLen]) (by simp)).mono ?_
  rintro _ w16 ⟨a3, rfl, p3, k5, _⟩
  refine ⟨_, _, _, _, _, _, _, _, _, _, _, _, _, _, _, _, _, _, _, _, _, rfl, ?_⟩
  have e16 := (e14.trans' f6.ext).trans' k5
  refine (Loops_spec p3 (hT.ext e16)).mono ?_
  rintro _ w17 ⟨A3, c3, rfl, hc3, hi3, k6⟩
  rw [loops3] at hc3 hi3 ⊢
  refine ⟨_, _, _, _, rfl, ?_⟩
  have e17 := e16.trans' k6
  have k17 : Ext w14 w17 := (f6.ext.trans' k5).trans' k6
  clear f6 i6 p3 k5 k6 e16
  have hi1 := hi1.ext KLp_pos (k14.trans' k17)
  have hi2 := hi2.ext KLp_pos k17
  intro g7 w18 f7
  refine ⟨f7.blk.stOK (lpC ⟨0, 2, 0, -1, 0, -1⟩) 0 (by simp), fun w19 hw => ?_⟩
  obtain ⟨b7, q7⟩ := set0 f7.blk hw rfl
  have k19 : Ext w17 w19 := f7.ext.trans q7 (fun _ _ h => h) (fun k hk e => by have := f7.ge; omega)
  clear hw q7 f7
  have e19 := e17.trans' k19
  refine brt (decide_eq_true rfl) (brt (decide_eq_true rfl) (brt (decide_eq_true rfl) (brt (decide_eq_true rfl) ?_)))
  obtain ⟨ad1, hA1, hc1⟩ := lp_imm (hi1.ext KLp_pos k19) (show ([⟨0, 2, 0, -1, 0, -1⟩] : List Lp)[0]? = some _ from rfl)
  obtain ⟨ad2, hA2, hc2⟩ := lp_imm (hi2.ext KLp_pos k19) (show ([⟨0, 2, 0, -1, 0, -1⟩] : List Lp)[0]? = some _ from rfl)
  refine ⟨ad1, hA1, ⟨by decide, by decide⟩, fun u => Ext w19 u, Fr.drew NoB w19, ?_⟩
  repeat (first | refine ⟨_, fun u e => (hc1) u e _ _ (by rfl), ?_⟩ | refine ⟨_, _, _, fun u e => (hc1) u e _ _ (by rfl), ?_⟩)
  repeat (first | refine ⟨_, fun u e => Blk.cell (Blk.ext (b7) e) (by rfl), ?_⟩ | refine ⟨_, _, _, fun u e => Blk.cell (Blk.ext (b7) e) (by rfl), ?_⟩)
  refine brf (by kernel_rfl) (brt (by decide) (brt (decide_eq_true rfl) ?_))
  refine ⟨ad2, hA2, ⟨by decide, by decide⟩, ?_⟩
  repeat (first | refine ⟨_, fun u e => (hc2) u e _ _ (by rfl), ?_⟩ | refine ⟨_, _, _, fun u e => (hc2) u e _ _ (by rfl), ?_⟩)
  repeat (first | refine ⟨_, fun u e => Blk.cell (Blk.ext (b7) e) (by rfl), ?_⟩ | refine ⟨_, _, _, fun u e => Blk.cell (Blk.ext (b7) e) (by rfl), ?_⟩)
  refine brf (by kernel_rfl) ⟨rfl, e19.drew⟩
end Go.Proofs.YtabfhckjinejfaaDoor
/- Layer 16, plain: what is so of a program's loops. -/
set_option linter.unusedVariables false
set_option linter.unusedSimpArgs false
namespace L16
open Go.Sx R1 K15
/-- a loop is one that an instruction begins -/
def Bg (p : Prog) (x : Lp) : Prop := ∃ (s : Nat) (h : s < p.code.length), (p.code[s].op = 13 ∨ p.code[s].op = 14 ∨ p.code[s].op = 21) ∧ loopI p s p.code[s] = (x, true)
theorem foundI_all (p : Prog) : ∀ (r : List Ins) (t n : Nat) (l L : List Lp), p.code.drop t = r → foundI p t r l n = (L, true) → (∀ x ∈ l, Bg p x) → (∀ x ∈ l, x.fr < (t : Int)) → l.Pairwise (fun x y => x.fr < y.fr) → (∀ x ∈ L, Bg p x) ∧ L.Pairwise (fun x y => x.fr < y.fr)
  | [], t, n, l, L, hr, h, h1, h2, h3 => by
    rw [foundI] at h
    have : l = L := congrArg Prod.fst h
    subst this
    exact ⟨h1, h3⟩
  | i :: r, t, n, l, L, hr, h, h1, h2, h3 => by
    have ht : t < p.code.length := by
      rcases Nat.lt_or_ge t p.code.length with h | h
      · exact h
      · rw [List.drop_eq_nil_of_le h] at hr; cases hr
    rw [List.drop_eq_getElem_cons ht] at hr
    injection hr with hi hr
    have lt : ∀ (m : List Lp), (∀ x ∈ m, x.fr < (t : Int)) → ∀ x ∈ m, x.fr < ((t + 1 : Nat) : Int) := fun m hm x hx => by have := hm x hx; omega
    rw [foundI] at h
    split at h
    · exact foundI_all p r (t + 1) (n + 1) l L hr h h1 (lt l h2) h3
    · split at h
      · rename_i ho
        split at h
        · rename_i h4
          have hfr : (loopI p t i).1.fr = (t : Int) := by unfold loopI; dsimp only; split <;> rfl
          refine foundI_all p r (t + 1) n _ L hr h (fun x hx => ?_) (fun x hx => ?_) ?_
          · rcases List.mem_append.1 hx with hx | hx
            · exact h1 x hx
            · simp only [List.mem_singleton] at hx
              subst hx
              refine ⟨t, ht, by rw [hi]; exact ho, ?_⟩
              rw [hi]
              exact Prod.ext rfl h4
          · rcases List.mem_append.1 hx with hx | hx
            · exact lt l h2 x hx
            · simp only [List.mem_singleton] at hx
              subst hx
              rw [hfr]; omega
          · rw [List.pairwise_append]
            refine ⟨h3, by simp, fun x hx y hy => ?_⟩
            simp only [List.mem_singleton] at hy
            subst hy
            rw [hfr]; exact h2 x hx
        · cases h
      · exact foundI_all p r (t + 1) n l L hr h h1 (lt l h2) h3
/-- the same loop, but for how deep it is and what it is in -/
def Like (x y : Lp) : Prop := x.fr = y.fr ∧ x.en = y.en ∧ x.cu = y.cu ∧ x.so = y.so
theorem nestL_from : ∀ (r acc l : List Lp), nestL acc r = some l → (∀ x ∈ acc, x.dp < 12) → ∀ x ∈ l, x.dp < 12 ∧ (x ∈ acc ∨ ∃ y ∈ r, Like x y)
  | [], acc, l, h, ha, x, hx => by cases h; exact ⟨ha x hx, .inl hx⟩
  | y :: r, acc, l, h, ha, x, hx => by
    rw [nestL] at h
    split at h
    · cases h
    · split at h
      · cases h
      · rename_i hd
        obtain ⟨h1, h2⟩ := nestL_from r _ l h (fun z hz => by
          rcases List.mem_append.1 hz with hz | hz
          · exact ha z hz
          · simp only [List.mem_singleton] at hz
            subst hz
            show ((cnt acc y.fr : Nat) : Int) < 12
            omega) x hx
        refine ⟨h1, ?_⟩
        rcases h2 with h2 | ⟨z, hz, hl⟩
        · rcases List.mem_append.1 h2 with h2 | h2
          · exact .inl h2
          · simp only [List.mem_singleton] at h2
            subst h2
            exact .inr ⟨y, List.mem_cons_self, rfl, rfl, rfl, rfl⟩
        · exact .inr ⟨z, List.mem_cons_of_mem _ hz, hl⟩
/-- what is so of a program's loops -/
structure LoopsOK (p : Prog) (l : List Lp) : Prop where
  chk : Checked p
  nest : Nested l
  bg : ∀ x ∈ l, x.dp < 12 ∧ ∃ (s : Nat) (h : s < p.code.length), x.fr = (s : Int) ∧ x.en = p.code[s].b - 1 ∧ x.fr < x.en ∧ x.en < p.code.length ∧ (p.code[s].op = 13 ∨ p.code[s].op = 14 ∨ p.code[s].op = 21) ∧
    ((p.code[s].op = 21 ∧ x.cu = -1 ∧ x.so = p.code[s].a ∧ 0 ≤ x.so) ∨ (p.code[s].op ≠ 21 ∧ x.cu = p.code[s].a ∧ x.so = -1 ∧ 0 ≤ x.cu))
  calm : calmAll l 0 p.code = true
  ends : ∀ x ∈ l, (insAt p x.en.toNat).b = x.fr + 1
theorem field_c {p : Prog} {t n : Int} {l : Int} (hl : l = 99 ∨ l = 105 ∨ l = 115) (h : fieldP p t l n = true) : 0 ≤ n := by
  rcases hl with rfl | rfl | rfl <;> simp [fieldP, below] at h <;> omega
theorem loops_ok {p : Prog} {l : List Lp} (h : loopsP p = (l, 0)) : LoopsOK p l := by
  unfold loopsP at h
  cases hc : checkP p with
  | false => rw [hc] at h; simp at h
  | true =>
  rw [hc] at h
  simp only [Bool.not_true, Bool.false_eq_true, if_false] at h
  have hC := checked hc
  cases hf : foundI p 0 p.code [] 0 with
  | mk L ok =>
  rw [hf] at h
  cases ok with
  | false => simp at h
  | true =>
  simp only at h
  cases hn : nestL [] L with
  | none => rw [hn] at h; simp at h
  | some l' =>
  rw [hn] at h
  simp only at h
  split at h
  · simp at h
  · split at h
    · rename_i hcalm
      cases h
      obtain ⟨hb, hpw⟩ := foundI_all p p.code 0 0 [] L rfl hf (fun x hx => by simp at hx) (fun x hx => by simp at hx) List.Pairwise.nil
      have hbg : ∀ x ∈ L, ∃ (s : Nat) (h : s < p.code.length), x.fr = (s : Int) ∧ x.en = p.code[s].b - 1 ∧ x.fr < x.en ∧ x.en < p.code.length ∧ (p.code[s].op = 13 ∨ p.code[s].op = 14 ∨ p.code[s].op = 21) ∧
          ((p.code[s].op = 21 ∧ x.cu = -1 ∧ x.so = p.code[s].a ∧ 0 ≤ x.so) ∨ (p.code[s].op ≠ 21 ∧ x.cu = p.code[s].a ∧ x.so = -1 ∧ 0 ≤ x.cu)) := by
        intro x hx
        obtain ⟨s, hs, hop, hl⟩ := hb x hx
        have hj := (jumps hC s hs).2.1 (by rcases hop with h | h | h <;> simp [h])
        have hE : insAt p s = p.code[s] := by simp [insAt, hs]
        have ho := hC.at_ s hs
        simp only [okAt, Bool.and_eq_true] at ho
        have hfld := ho.1
        have hne : ¬ (p.code[s].b - 1).toNat = s := by
          intro he
          have h2 := congrArg Prod.snd hl
          unfold loopI at h2
          dsimp only at h2
          rw [he, hE] at h2
          simp only [Bool.and_eq_true, decide_eq_true_eq] at h2
          have := h2.1
          rcases hop with h | h | h <;> rw [h] at this <;> simp at this
        have h1 := congrArg Prod.fst hl
        unfold loopI at h1
        dsimp only at h1
        have sh : ∀ o l, p.code[s].op = o → lookS shapes o = l → shapeP p.code[s].op = l := fun o l h1 h2 => by rw [h1]; exact h2
        refine ⟨s, hs, ?_⟩
        by_cases h21 : p.code[s].op = 21
        · rw [if_pos h21] at h1
          subst h1
          have := field_c (.inr (.inr rfl)) (show fieldP p s 115 p.code[s].a = true from (fieldsL_of (sh _ _ h21 rfl) hfld).1)
          exact ⟨rfl, rfl, by dsimp only; omega, by dsimp only; omega, hop, .inl ⟨h21, rfl, rfl, this⟩⟩
        · rw [if_neg h21] at h1
          subst h1
          have : 0 ≤ p.code[s].a := by
            rcases hop with h | h | h
            · exact field_c (.inl rfl) (show fieldP p s 99 p.code[s].a = true from (fieldsL_of (sh _ _ h rfl) hfld).1)
            · exact field_c (.inr (.inl rfl)) (show fieldP p s 105 p.code[s].a = true from (fieldsL_of (sh _ _ h rfl) hfld).1)
            · exact absurd h h21
          exact ⟨rfl, rfl, by dsimp only; omega, by dsimp only; omega, hop, .inr ⟨h21, rfl, rfl, this⟩⟩
      have hnest : Nested l := nestL_nested L [] l ⟨fun i j x y h => by simp at h, fun i x h => by simp at h, fun i j x y h => by simp at h, fun i x h => by simp at h⟩ (fun i x y h => by simp at h) (fun x hx => by obtain ⟨s, hs, _, _, h, _⟩ := hbg x hx; exact h) hpw hn
      refine ⟨hC, hnest, fun x hx => ?_, hcalm, fun x hx => ?_⟩
      · obtain ⟨hd, hx⟩ := nestL_from L [] l hn (fun x hx => by simp at hx) x hx
        refine ⟨hd, ?_⟩
        rcases hx with hx | ⟨y, hy, l1, l2, l3, l4⟩
        · simp at hx
        · rw [l1, l2, l3, l4]; exact hbg y hy
      · obtain ⟨hd, hx⟩ := nestL_from L [] l hn (fun x hx => by simp at hx) x hx
        rcases hx with hx | ⟨y, hy, l1, l2, l3, l4⟩
        · simp at hx
        · rw [l1, l2]
          obtain ⟨s, hs, hop, hl⟩ := hb y hy
          have h2 := congrArg Prod.snd hl
          have h1 := congrArg Prod.fst hl
          unfold loopI at h1 h2
          dsimp only at h1 h2
          simp only [Bool.and_eq_true, decide_eq_true_eq] at h2
          rw [← h1]
          split <;> exact h2.2.2
    · simp at h
theorem loops_err (p : Prog) : (loopsP p).2 = 0 ∨ ((loopsP p).1 = [] ∧ ((loopsP p).2 = 140 ∨ (loopsP p).2 = 141)) := by
  unfold loopsP
  split
  · exact .inr ⟨rfl, .inl rfl⟩
  · split
    · exact .inr ⟨rfl, .inr rfl⟩
    · split
      · exact .inr ⟨rfl, .inr rfl⟩
      · split
        · exact .inr ⟨rfl, .inr rfl⟩
        · split
          · exact .inl rfl
          · exact .inr ⟨rfl, .inr rfl⟩
theorem calm_at {l : List Lp} : ∀ (r : List Ins) (t : Nat), calmAll l t r = true → ∀ (k : Nat) (h : k < r.length), entersI r[k] ((t + k : Nat) : Int) l = false ∧ busyI r[k] ((t + k : Nat) : Int) l = false
  | [], t, _, k, h => by simp at h
  | i :: r, t, hc, k, h => by
    rw [calmAll] at hc
    simp only [Bool.and_eq_true, Bool.not_eq_true', Bool.or_eq_false_iff] at hc
    cases k with
    | zero => exact hc.1
    | succ k =>
      have := calm_at r (t + 1) hc.2 k (by simpa using h)
      rw [show t + 1 + k = t + (k + 1) by omega] at this
      simpa using this
/-- a place within a loop is come to by its begin, or from within -/
theorem enter_ok {p : Prog} {l : List Lp} (h : LoopsOK p l) {t : Nat} (ht : t < p.code.length) {z : Int} (hz : z ∈ leadsI p.code[t] t) {x : Lp} (hx : x ∈ l) (hi : inL x z = true) : inL x t = true ∨ (t : Int) = x.fr := by
  obtain ⟨h1, _⟩ := calm_at p.code 0 h.calm t ht
  rw [Nat.zero_add] at h1
  unfold entersI at h1
  rw [List.any_eq_false] at h1
  have h2 := h1 z hz
  simp only [Bool.not_eq_true] at h2
  rw [List.any_eq_false] at h2
  have h3 := h2 x hx
  rw [hi] at h3
  simp only [Bool.true_and, Bool.and_eq_true, Bool.not_eq_true', Bool.or_eq_true, decide_eq_false_iff_not, not_and, not_or] at h3
  cases hb : inL x (t : Int) with
  | true => exact .inl rfl
  | false => exact .inr (Classical.not_not.1 (h3 hb).1)
/-- loops are within one another, or apart -/
theorem apart_ok {p : Prog} {l : List Lp} (h : LoopsOK p l) {i j : Nat} {a b : Lp} (hi : l[i]? = some a) (hj : l[j]? = some b) (hij : j < i) : b.en < a.fr ∨ (b.fr < a.fr ∧ a.en < b.en) := by
  have h1 := h.nest.up j i b a hj hi hij
  have h2 := h.nest.within j i b a hj hi hij
  have h3 := h.nest.proper i a hi
  rw [Bool.eq_iff_iff, inL_iff, inL_iff] at h2
  rcases Int.lt_or_le b.en a.fr with h4 | h4
  · exact .inl h4
  · right
    have h5 := (h2.1 ⟨h1, h4⟩).2
    refine ⟨h1, ?_⟩
    rcases Int.lt_or_eq_of_le h5 with h6 | h6
    · exact h6
    · have e1 := h.ends a (List.mem_of_getElem? hi)
      have e2 := h.ends b (List.mem_of_getElem? hj)
      rw [h6] at e1
      omega
/-- where an instruction leads, but for the end: further on at last, and to a place that there is -/
theorem leads_on {p : Prog} (h : Checked p) {t : Nat} (ht : t < p.code.length) (hn : leadsI p.code[t] t ≠ []) : ∃ (z : Int), (leadsI p.code[t] t)[(leadsI p.code[t] t).length - 1]? = some z ∧ (t : Int) < z ∧ ∀ y ∈ leadsI p.code[t] t, y < p.code.length := by
  have hop : p.code[t].op ≠ 35 := by
    intro e
    apply hn
    unfold leadsI
    rw [if_pos e]
  have hlast : (t : Int) + 1 < p.code.length := by
    rcases Nat.lt_or_ge (t + 1) p.code.length with h1 | h1
    · omega
    · exfalso
      have h2 := h.last
      have e : p.code.length - 1 = t := by omega
      rw [e] at h2
      apply hop
      simpa [List.getD, ht] using h2
  obtain ⟨j1, j2, j3⟩ := jumps h t ht
  generalize p.code[t] = i at *
  have htwo : ∀ x : Int, x < p.code.length → leadsI i t = two (t + 1) x → ∃ (z : Int), (leadsI i t)[(leadsI i t).length - 1]? = some z ∧ (t : Int) < z ∧ ∀ y ∈ leadsI i t, y < p.code.length := by
    intro x hx he
    rw [he]
    unfold two
    split
    · exact ⟨x, rfl, by omega, fun y hy => by simp at hy; omega⟩
    · split
      · exact ⟨(t : Int) + 1, rfl, by omega, fun y hy => by simp at hy; omega⟩
      · exact ⟨(t : Int) + 1, rfl, by omega, fun y hy => by simp at hy; omega⟩
  by_cases h10 : i.op = 10
  · have he : leadsI i t = [i.a] := by unfold leadsI; rw [if_neg hop, if_pos h10]
    have := j1 (.inl h10)
    rw [he]
    exact ⟨i.a, rfl, this.1, fun y hy => by simp at hy; omega⟩
  by_cases h11 : i.op = 11 ∨ i.op = 12
  · have := j1 (.inr h11)
    exact htwo i.a this.2 (by unfold leadsI; rw [if_neg hop, if_neg h10, if_pos h11])
  by_cases h13 : i.op = 13 ∨ i.op = 14 ∨ i.op = 16 ∨ i.op = 17 ∨ i.op = 21 ∨ i.op = 15 ∨ i.op = 22
  · refine htwo i.b ?_ (by unfold leadsI; rw [if_neg hop, if_neg h10, if_neg h11, if_pos h13])
    rcases h13 with h | h | h | h | h | h | h
    · exact (j2 (by simp [h])).2
    · exact (j2 (by simp [h])).2
    · exact (j2 (by simp [h])).2
    · exact (j2 (by simp [h])).2
    · exact (j2 (by simp [h])).2
    · have := j3 (by simp [h]); omega
    · have := j3 (by simp [h]); omega
  · have he : leadsI i t = [(t : Int) + 1] := by unfold leadsI; rw [if_neg hop, if_neg h10, if_neg h11, if_neg h13]
    rw [he]
    exact ⟨(t : Int) + 1, rfl, by omega, fun y hy => by simp at hy; omega⟩
theorem insF_le {p : Prog} {l : List Lp} (h : LoopsOK p l) (a : Int) : cnt l a ≤ 12 := by
  rcases Nat.eq_zero_or_pos (cnt l a) with h0 | h0
  · omega
  · have hl : cnt l a - 1 < (insF l 0 a).length := by rw [insF_length]; omega
    obtain ⟨x, hx, hd, _⟩ := depth_place h.nest a (cnt l a - 1) _ (List.getElem?_eq_getElem hl)
    have := (h.bg x (List.mem_of_getElem? hx)).1
    omega
end L16
/- Layer 16: FlowDepth. -/
set_option linter.unusedVariables false
set_option linter.unusedSimpArgs false
namespace Go.Proofs.YtabfhckjinejfaaDoor
open Go Go.Sx R1 K15 L16
theorem ups_of {p : Prog} {l : List Lp} (h : LoopsOK p l) : Ups l := by
  have hl4 := h.chk.hi
  have rng : ∀ x ∈ l, 0 ≤ x.fr ∧ x.fr ≤ 4000 := fun x hx => by
    obtain ⟨_, s, hs, h1, _⟩ := h.bg x hx
    omega
  have hlt : ∀ (k : Nat) (h' : k < l.length), (k : Int) ≤ l[k].fr := by
    intro k
    induction k with
    | zero => intro h'; exact (rng _ (by simp)).1
    | succ k ih =>
      intro h'
      have h1 := ih (by omega)
      have h2 := h.nest.up k (k + 1) _ _ (List.getElem?_eq_getElem (by omega)) (List.getElem?_eq_getElem h') (by omega)
      omega
  have hlen : l.length ≤ 4000 := by
    rcases Nat.lt_or_ge l.length 4001 with h' | h'
    · omega
    · have h1 := hlt 4000 (by omega)
      obtain ⟨_, s, hs, h2, _⟩ := h.bg l[4000] (by simp)
      omega
  exact ⟨h.nest.up, rng, hlen⟩
set_option maxRecDepth 20000 in
theorem FlowDepth_holds {w : World} {p : Prog} {a : PAd} (h : PIm w p a) (hT : Tab w) : CallsV Tryd.prog 3 #[pagg p a] w fun r w' => r = .bool true ∧ Ext w w' := by
  refine cardindexlaw16_FlowDepth.calls okay ?_
  unfold cardindexlaw16_FlowDepth.W
  intro g w1 f
  repeat (first | refine ⟨_, Blk.cell (f.blk) (by rfl), ?_⟩ | refine ⟨_, _, _, Blk.cell (f.blk) (by rfl), ?_⟩)
  refine (great_spec (h.ext f.ext)).mono ?_
  rintro _ w2 ⟨b, rfl, hb, k2⟩
  have e2 := f.ext.trans' k2
  have fin : ∀ u, Ext w u → CallsV Tryd.prog 8 #[] u fun v w' => ∃ x, v = .bool x ∧ (Value.bool x = .bool true ∧ Ext w w') := fun u e => by
    refine (awake_spec (hT.ext e)).mono ?_
    rintro _ u1 ⟨rfl, e1⟩
    exact ⟨_, rfl, rfl, e.trans' e1⟩
  refine ⟨_, rfl, br (fun _ => fin w2 e2) (fun hgr => ?_)⟩
  repeat (first | refine ⟨_, Blk.cell (f.blk.ext k2) (by rfl), ?_⟩ | refine ⟨_, _, _, Blk.cell (f.blk.ext k2) (by rfl), ?_⟩)
  refine (Loops_spec (h.ext e2) (hT.ext e2)).mono ?_
  rintro _ w3 ⟨A, c, rfl, hc, hi, k3⟩
  have e3 := e2.trans' k3
  refine ⟨_, _, _, _, rfl, brn (fun _ => fin w3 e3) (fun h0 => ?_)⟩
  have hLO : LoopsOK p (loopsP p).1 := loops_ok (by rw [← h0])
  have bp := f.blk.ext (k2.trans' k3)
  clear f
  generalize (loopsP p).1 = l at *
  have hU := ups_of hLO
  have hN := hLO.nest
  have hlen := hLO.chk.hi
  have hll := hU.len
  have getx : ∀ (k : Nat) (x : Lp), l[k]? = some x → ∀ u, Ext w3 u → ∃ ad, A = some ad ∧ ∀ v, Ext u v → ∀ (j : Nat) (y : Value), (lpC x)[j]? = some y → v.cell? ((ad.add (k * 6)).add j) = some y := fun k x hk u e => by
    obtain ⟨ad, hA, hcell⟩ := lp_imm (hi.ext (by decide) e) hk
    exact ⟨ad, hA, hcell⟩
  repeat (first | refine ⟨_, Blk.cell (bp) (by rfl), ?_⟩ | refine ⟨_, _, _, Blk.cell (bp) (by rfl), ?_⟩)
  refine ⟨fun x u => ∃ t : Nat, t ≤ p.code.length ∧ x = (t : Int) ∧ Ext w3 u, fun x _ => ((p.code.length : Int) - x).toNat, ⟨0, by omega, rfl, .refl _ _⟩, ?_⟩
  rintro _ u ⟨t, ht, rfl, e⟩
  refine brd (fun hlt => ?_) (fun _ => ?_)
  · refine (Inside_spec rfl (hi.ext (by decide) e) hU (t : Int) (by have := insF_le hLO (t : Int); omega)).mono ?_
    rintro _ v ⟨B, d, rfl, hd, hI, k4⟩
    have e4 := e.trans' k4
    have hZ : ∀ (j : Nat) (h : j < (insZ l t).length), ∃ k : Nat, (insZ l t)[j] = (k : Int) ∧ (insF l 0 t)[j]? = some k ∧ k < l.length := fun j h => insZ_get (List.getElem?_eq_getElem h)
    have hzl := insZ_length l (t : Int)
    have h12 := insF_le hLO (t : Int)
    have hIl := insF_length (t : Int) l 0
    refine ⟨_, _, _, rfl, fun x u => ∃ j : Nat, j ≤ (insZ l t).length ∧ x = (j : Int) ∧ Ext v u, fun x _ => (((insZ l t).length : Int) - x).toNat, ⟨0, by omega, rfl, .refl _ _⟩, ?_⟩
    rintro _ v1 ⟨j, hj, rfl, k5⟩
    refine brd (fun hlt => ?_) (fun _ => ?_)
    rotate_left
    · rw [wi _ (by omega) (by omega)]
      exact ⟨⟨t + 1, by omega, rfl, e4.trans' k5⟩, by dsimp only; omega⟩
    have hjl : j < (insZ l t).length := by omega
    obtain ⟨k, hk, hk1, hkl⟩ := hZ j hjl
    obtain ⟨x, hx, hdp, hin⟩ := depth_place hN (t : Int) j k hk1
    obtain ⟨ad, hA, hcell⟩ := ints_imm (hI.ext (by decide) k5) hjl
    refine ⟨ad, hA, ⟨by omega, by omega⟩, _, hcell v1 (.refl _ _), ?_⟩
    rw [hk]
    obtain ⟨ad2, hA2, hx2⟩ := getx k x hx v1 (e4.trans' k5)
    refine ⟨ad2, hA2, ⟨by omega, by omega⟩, fun u => Ext v1 u, Fr.drew NoB v1, _, fun u e => hx2 u e 4 _ rfl, brn (fun hne => absurd hdp hne) (fun _ => ?_)⟩
    rw [wi ((j : Int) + 1) (by omega) (by omega)]
    have next : (∃ j' : Nat, j' ≤ (insZ l t).length ∧ (j : Int) + 1 = (j' : Int) ∧ Ext v v1.drew) ∧ (((insZ l t).length : Int) - ((j : Int) + 1)).toNat < (((insZ l t).length : Int) - (j : Int)).toNat := ⟨⟨j + 1, by omega, rfl, k5.drew⟩, by omega⟩
    have up : ∀ (h : 0 < j), ∃ k' : Nat, (insZ l t)[j - 1]? = some (k' : Int) ∧ x.inn = (k' : Int) := fun h => by
      obtain ⟨k', hk', hk1', _⟩ := hZ (j - 1) (by omega)
      refine ⟨k', by rw [List.getElem?_eq_getElem (by omega), hk'], ?_⟩
      rw [hin, if_neg (by omega)]
      simp [List.getD, hk1']
    have prev : 0 < j → (0 ≤ IntKind.i64.wrap ((j : Int) - 1) ∧ IntKind.i64.wrap ((j : Int) - 1) < ((insZ l t).length : Int)) ∧ ∃ z, (∀ u, Ext v1 u → u.cell? (ad.add (Int.toNat (IntKind.i64.wrap ((j : Int) - 1)) * 1)) = some (.int .i64 z)) ∧ x.inn = z := fun h => by
      rw [wi ((j : Int) - 1) (by omega) (by omega)]
      obtain ⟨k', hk', hin'⟩ := up h
      obtain ⟨hl', hk''⟩ := List.getElem?_eq_some_iff.1 hk'
      obtain ⟨ad', hA', hcell'⟩ := ints_imm (hI.ext (by decide) k5) hl'
      rw [hA] at hA'; cases hA'
      refine ⟨⟨by omega, by omega⟩, (k' : Int), fun u e => ?_, hin'⟩
      rw [show Int.toNat ((j : Int) - 1) = j - 1 by omega, hcell' u e, hk'']
    refine brd (fun hj0 => ?_) (fun hj0 => ?_)
    · refine ⟨ad2, hA2, ⟨by omega, by omega⟩, _, fun u e => hx2 u e 5 _ rfl, brn (fun hne => absurd (by rw [hin, if_pos (by omega)]) hne) (fun _ => ?_)⟩
      exact brd (fun h => by omega) (fun _ => next)
    · refine brd (fun hjp => ?_) (fun _ => next)
      obtain ⟨hr, z, hz1, hz2⟩ := prev (by omega)
      exact ⟨ad2, hA2, ⟨by omega, by omega⟩, _, fun u e => hx2 u e 5 _ rfl, ad, hA, hr, _, hz1, brn (fun hne => absurd hz2 hne) (fun _ => next)⟩
  · refine ⟨fun x v => ∃ k : Nat, k ≤ l.length ∧ x = (k : Int) ∧ Ext w3 v, fun x _ => ((l.length : Int) - x).toNat, ⟨0, by omega, rfl, e⟩, ?_⟩
    rintro _ v ⟨k, hk, rfl, k4⟩
    refine brd (fun hlt => ?_) (fun _ => fin v (e3.trans' k4))
    have hkl : k < l.length := by omega
    have hx := List.getElem?_eq_getElem hkl
    generalize l[k] = x at *
    obtain ⟨ad, hA, hcell⟩ := getx k x hx v k4
    refine ⟨ad, hA, ⟨by omega, by omega⟩, ?_⟩
    repeat (first | refine ⟨_, (hcell v (.refl _ _)) _ _ (by rfl), ?_⟩ | refine ⟨_, _, _, (hcell v (.refl _ _)) _ _ (by rfl), ?_⟩)
    clear hcell
    intro g4 v1 f4
    refine ⟨f4.blk.stOK (lpC x) 0 (by simp), fun v2 hv2 => ?_⟩
    obtain ⟨b4, q4⟩ := set0 f4.blk hv2 rfl
    have k5 : Ext v v2 := f4.ext.trans q4 (fun _ _ h => h) (fun k hk e => by have := f4.ge; omega)
    clear hv2 f4 q4
    repeat (first | refine ⟨_, Blk.cell (b4) (by rfl), ?_⟩ | refine ⟨_, _, _, Blk.cell (b4) (by rfl), ?_⟩)
    have e5 := k4.trans' k5
    refine (Inside_spec rfl (hi.ext (by decide) e5) hU x.fr (by have := insF_le hLO x.fr; omega)).mono ?_
    rintro _ v3 ⟨B, d, rfl, hd, hI, k6⟩
    have e6 := e5.trans' k6
    have b4 := b4.ext k6
    obtain ⟨q1, q2, q3⟩ := depth_own hN k x hx
    have hzl := insZ_length l x.fr
    have hIl := insF_length x.fr l 0
    have h12 := insF_le hLO x.fr
    obtain ⟨_, s, hs, _, _, _, _, _, hcs⟩ := hLO.bg x (List.mem_of_getElem? hx)
    have hxor : ¬ decide (x.cu < 0) = decide (x.so < 0) := by
      rcases hcs with ⟨_, h1, _, h2⟩ | ⟨_, _, h1, h2⟩
      · rw [decide_eq_true (by omega : x.cu < 0), decide_eq_false (by omega : ¬ x.so < 0)]; decide
      · rw [decide_eq_false (by omega : ¬ x.cu < 0), decide_eq_true (by omega : x.so < 0)]; decide
    have tail : ∃ z, (∀ u, Ext v3 u → u.cell? ((⟨g4, 0, none⟩ : Addr).add 2) = some (.int .i64 z)) ∧ ∃ z', (∀ u, Ext v3 u → u.cell? ((⟨g4, 0, none⟩ : Addr).add 3) = some (.int .i64 z')) ∧
        bif decide (decide (z < 0) = decide (z' < 0)) then (Value.bool false = .bool true ∧ Ext w v3.drew) else ∃ y, (∀ u, Ext v3 u → u.cell? ((⟨g4, 0, none⟩ : Addr).add 5) = some (.int .i64 y)) ∧
          bif decide ((k : Int) ≤ y) then (Value.bool false = .bool true ∧ Ext w v3.drew) else ((∃ k' : Nat, k' ≤ l.length ∧ IntKind.i64.wrap ((k : Int) + 1) = (k' : Int) ∧ Ext w3 v3.drew) ∧ (fun (x : Int) (_ : World) => ((l.length : Int) - x).toNat) (IntKind.i64.wrap ((k : Int) + 1)) v3.drew < (fun (x : Int) (_ : World) => ((l.length : Int) - x).toNat) (k : Int) v) := by
      refine ⟨_, fun u e => (b4.ext e).cell rfl, _, fun u e => (b4.ext e).cell rfl, brd (fun h => absurd h hxor) (fun _ => ⟨_, fun u e => (b4.ext e).cell rfl, brd (fun h => by omega) (fun _ => ?_)⟩)⟩
      rw [wi ((k : Int) + 1) (by omega) (by omega)]
      exact ⟨⟨k + 1, by omega, rfl, e6.drew⟩, by dsimp only; omega⟩
    refine ⟨_, _, _, rfl, fun u => Ext v3 u, Fr.drew NoB v3, _, fun u e => (b4.ext e).cell rfl, brn (fun hne => absurd (by omega) hne) (fun _ => ⟨_, fun u e => (b4.ext e).cell rfl, brd (fun hpos => ?_) (fun _ => tail)⟩)⟩
    have hj : (insZ l x.fr).length - 1 < (insZ l x.fr).length := by omega
    obtain ⟨k', hk', hk1', _⟩ := insZ_get (List.getElem?_eq_getElem hj)
    obtain ⟨ad', hA', hcell'⟩ := ints_imm hI hj
    have hin : x.inn = (k' : Int) := by
      rw [q2 (by omega)]
      rw [hzl] at hk1'
      rw [hIl]
      simp [List.getD, hk1']
    refine ⟨_, fun u e => (b4.ext e).cell rfl, ad', hA', ?_⟩
    rw [wi (x.dp - 1) (by omega) (by omega)]
    refine ⟨⟨by omega, by omega⟩, (k' : Int), fun u e => ?_, _, fun u e => (b4.ext e).cell rfl, brn (fun hne => absurd hin.symm hne) (fun _ => tail)⟩
    rw [show Int.toNat (x.dp - 1) = (insZ l x.fr).length - 1 by omega, hcell' u e, hk']
end Go.Proofs.YtabfhckjinejfaaDoor
/- Layer 16: FlowNested, FlowEnds. -/
set_option linter.unusedVariables false
set_option linter.unusedSimpArgs false
namespace Go.Proofs.YtabfhckjinejfaaDoor
open Go Go.Sx R1 K15 L16
/-- where a place leads: none, where the program may not be -/
def nextP (p : Prog) (t : Nat) : List Int := if checkP p then leadsI (insAt p t) t else []
set_option maxRecDepth 10000 in
theorem Next_spec {w : World} {p : Prog} {a : PAd} (h : PIm w p a) (hT : Tab w) {t : Nat} (ht : t < p.code.length) :
    CallsV Tryd.prog 12 #[pagg p a, .int .i64 t] w fun r w' => ∃ A c, r = .slice A (nextP p t).length c ∧ (nextP p t).length ≤ c ∧ Imm KI NoB w' A (nextP p t) ∧ Ext w w' := by
  refine flow_Next.calls okay ?_
  unfold flow_Next.W
  intro g w1 f
  refine brd (fun h => by omega) (fun _ => ?_)
  repeat (first | refine ⟨_, Blk.cell (f.blk) (by rfl), ?_⟩ | refine ⟨_, _, _, Blk.cell (f.blk) (by rfl), ?_⟩)
  refine brd (fun h => by omega) (fun _ => ?_)
  repeat (first | refine ⟨_, Blk.cell (f.blk) (by rfl), ?_⟩ | refine ⟨_, _, _, Blk.cell (f.blk) (by rfl), ?_⟩)
  refine (Check_spec (h.ext f.ext) (hT.ext f.ext)).mono ?_
  rintro _ w2 ⟨rfl, k2⟩
  have e2 := f.ext.trans' k2
  refine ⟨_, rfl, ?_⟩
  unfold nextP
  cases hc : checkP p with
  | false => exact ⟨none, 0, rfl, Nat.le_refl _, Imm.nil _ _ _ _, e2⟩
  | true =>
    rw [if_pos rfl, if_pos rfl]
    refine brn (fun h => absurd rfl h) (fun _ => ?_)
    repeat (first | refine ⟨_, Blk.cell (f.blk.ext k2) (by rfl), ?_⟩ | refine ⟨_, _, _, Blk.cell (f.blk.ext k2) (by rfl), ?_⟩)
    refine (leads_spec (h.ext e2) ht).mono ?_
    rintro _ w3 ⟨A, c, rfl, hc, hi, k3⟩
    rw [insAt_get ht]
    exact ⟨_, _, _, rfl, A, c, rfl, hc, hi, e2.trans' k3⟩
theorem Pick_spec (w : World) (x n : Int) (h1 : 1 ≤ n) (h2 : n ≤ 9223372036854775807) :
    CallsV Tryd.prog 14 #[.int .i64 x, .int .i64 n] w fun r w' => ∃ k : Nat, r = .int .i64 (k : Int) ∧ (k : Int) < n ∧ w' = w := by
  refine cardindexkit_Pick.calls okay ?_
  unfold cardindexkit_Pick.W
  have a1 := Int.lt_tmod_of_pos x (show 0 < n by omega)
  have a2 := Int.tmod_lt_of_pos x (show 0 < n by omega)
  refine brd (fun h => by omega) (fun _ => ⟨by omega, brd (fun h => ?_) (fun h => ?_)⟩)
  · rw [wi _ (by omega) (by omega)]
    exact ⟨(x.tmod n + n).toNat, by congr 1; omega, by omega, rfl⟩
  · exact ⟨(x.tmod n).toNat, by congr 1; omega, by omega, rfl⟩
theorem FlowNested1_spec {w : World} {g : Nat} {x : Lp} (b : Blk w g (lpC x)) (n : Int) : CallsV Tryd.prog 13 #[.int .i64 n, .pointer (some ⟨g, 0, none⟩)] w fun r w' => r = .bool (inL x n) ∧ w' = w := by
  refine cardindexlaw16_FlowNested_1.calls okay ?_
  unfold cardindexlaw16_FlowNested_1.W
  repeat (first | refine ⟨_, Blk.cell (b) (by rfl), ?_⟩ | refine ⟨_, _, _, Blk.cell (b) (by rfl), ?_⟩)
  refine brd (fun h => ?_) (fun h => ⟨by simp [inL, h], rfl⟩)
  repeat (first | refine ⟨_, Blk.cell (b) (by rfl), ?_⟩ | refine ⟨_, _, _, Blk.cell (b) (by rfl), ?_⟩)
  exact ⟨by simp [inL, h], rfl⟩
theorem nextP_ok {p : Prog} {l : List Lp} (h : LoopsOK p l) (hc : checkP p = true) {t : Nat} (ht : t < p.code.length) : nextP p t = leadsI p.code[t] t := by
  unfold nextP; rw [if_pos hc, insAt_get ht]
theorem leads_len (i : Ins) (t : Int) : (leadsI i t).length ≤ 2 := by
  unfold leadsI two
  repeat' split
  all_goals simp
theorem loops_chk {p : Prog} {l : List Lp} (h : loopsP p = (l, 0)) : checkP p = true := by
  cases hc : checkP p with
  | true => rfl
  | false => unfold loopsP at h; rw [hc] at h; simp at h
set_option maxRecDepth 20000 in
set_option maxHeartbeats 1000000 in
theorem FlowNested_holds {w : World} {p : Prog} {a : PAd} (h : PIm w p a) (hT : Tab w) : CallsV Tryd.prog 5 #[pagg p a] w fun r w' => r = .bool true ∧ Ext w w' := by
  refine cardindexlaw16_FlowNested.calls okay ?_
  unfold cardindexlaw16_FlowNested.W
  intro g w1 f
  repeat (first | refine ⟨_, Blk.cell (f.blk) (by rfl), ?_⟩ | refine ⟨_, _, _, Blk.cell (f.blk) (by rfl), ?_⟩)
  refine (great_spec (h.ext f.ext)).mono ?_
  rintro _ w2 ⟨b, rfl, hb, k2⟩
  have e2 := f.ext.trans' k2
  have fin : ∀ u, Ext w u → CallsV Tryd.prog 8 #[] u fun v w' => ∃ x, v = .bool x ∧ (Value.bool x = .bool true ∧ Ext w w') := fun u e => by
    refine (awake_spec (hT.ext e)).mono ?_
    rintro _ u1 ⟨rfl, e1⟩
    exact ⟨_, rfl, rfl, e.trans' e1⟩
  refine ⟨_, rfl, br (fun _ => fin w2 e2) (fun hgr => ?_)⟩
  repeat (first | refine ⟨_, Blk.cell (f.blk.ext k2) (by rfl), ?_⟩ | refine ⟨_, _, _, Blk.cell (f.blk.ext k2) (by rfl), ?_⟩)
  refine (Loops_spec (h.ext e2) (hT.ext e2)).mono ?_
  rintro _ w3 ⟨A, c, rfl, hc, hi, k3⟩
  have e3 := e2.trans' k3
  refine ⟨_, _, _, _, rfl, brn (fun h0 => ?_) (fun h0 => ?_)⟩
  · rcases loops_err p with h1 | ⟨h1, h2⟩
    · exact absurd h1 h0
    · refine brd (fun _ => brd (fun _ => fin w3 e3) (fun hne => absurd (by rw [h1]; rfl) hne)) (fun h140 => brd (fun _ => brd (fun _ => fin w3 e3) (fun hne => absurd (by rw [h1]; rfl) hne)) (fun h141 => ?_))
      rcases h2 with h2 | h2
      · exact absurd h2 h140
      · exact absurd h2 h141
  have hl0 : loopsP p = ((loopsP p).1, 0) := by rw [← h0]
  have hLO : LoopsOK p (loopsP p).1 := loops_ok hl0
  have hck := loops_chk hl0
  have bp := f.blk.ext (k2.trans' k3)
  clear f hl0
  generalize (loopsP p).1 = l at *
  have hU := ups_of hLO
  have hlen := hLO.chk.hi
  have hll := hU.len
  have getx : ∀ (k : Nat) (x : Lp), l[k]? = some x → ∀ u, Ext w3 u → ∃ ad, A = some ad ∧ ∀ v, Ext u v → ∀ (j : Nat) (y : Value), (lpC x)[j]? = some y → v.cell? ((ad.add (k * 6)).add j) = some y := fun k x hk u e => lp_imm (hi.ext (by decide) e) hk
  have mk : ∀ {v v1 v2 : World} {g4 : Nat} {x : Lp}, Fresh v g4 v1 (lpC Lp0) 39 → v2 = setAll ⟨g4, 0, none⟩ 0 (lpC x) v1 → Blk v2 g4 (lpC x) ∧ Ext v v2 := fun f4 hv2 => by
    obtain ⟨b4, q4⟩ := set0 f4.blk hv2 rfl
    exact ⟨b4, f4.ext.trans q4 (fun _ _ h => h) (fun k hk e => by have := f4.ge; omega)⟩
  refine ⟨fun x u => ∃ i : Nat, i ≤ l.length ∧ x = (i : Int) ∧ Ext w3 u, fun x _ => ((l.length : Int) - x).toNat, ⟨0, by omega, rfl, .refl _ _⟩, ?_⟩
  rintro _ u ⟨i, hil, rfl, e⟩
  refine brd (fun hlt => ?_) (fun _ => ?_)
  · have hlt : i < l.length := by omega
    have hx := List.getElem?_eq_getElem hlt
    generalize l[i] = x at *
    obtain ⟨ad, hA, hcell⟩ := getx i x hx u e
    refine ⟨ad, hA, ⟨by omega, by omega⟩, ?_⟩
    repeat (first | refine ⟨_, (hcell u (.refl _ _)) _ _ (by rfl), ?_⟩ | refine ⟨_, _, _, (hcell u (.refl _ _)) _ _ (by rfl), ?_⟩)
    intro g4 v1 f4
    refine ⟨f4.blk.stOK (lpC x) 0 (by simp), fun v2 hv2 => ?_⟩
    obtain ⟨b4, k5⟩ := mk f4 hv2
    clear hv2 f4
    have e5 := e.trans' k5
    obtain ⟨hd12, s, hs, hfr, hen, hpr, hto, _⟩ := hLO.bg x (List.mem_of_getElem? hx)
    rw [wi ((i : Int) + 1) (by omega) (by omega)]
    refine ⟨fun v => Ext v2 v, fun v3 k6 => ?_, ?_⟩
    · refine ⟨⟨by omega, by omega⟩, ?_⟩
      rw [cutAt_zero, show Int.toNat (i : Int) - 0 = i by omega]
      have e6 := e5.trans' k6
      refine ⟨fun y v => ∃ j : Nat, j ≤ i ∧ y = (j : Int) ∧ Ext v3 v, fun y _ => ((i : Int) - y).toNat, ⟨0, by omega, rfl, .refl _ _⟩, ?_⟩
      rintro _ v4 ⟨j, hj, rfl, k7⟩
      refine brd (fun hji => ?_) (fun _ => ?_)
      · have hji : j < i := by omega
        have hjl : j < l.length := by omega
        have hy := List.getElem?_eq_getElem hjl
        generalize l[j] = y at *
        have hap := apart_ok hLO hx hy hji
        obtain ⟨ad2, hA2, hcell2⟩ := getx j y hy v4 (e6.trans' k7)
        refine ⟨ad2, hA2, ⟨by omega, by omega⟩, ?_⟩
        repeat (first | refine ⟨_, (hcell2 v4 (.refl _ _)) _ _ (by rfl), ?_⟩ | refine ⟨_, _, _, (hcell2 v4 (.refl _ _)) _ _ (by rfl), ?_⟩)
        intro g5 v5 f5
        refine ⟨f5.blk.stOK (lpC y) 0 (by simp), fun v6 hv6 => ?_⟩
        obtain ⟨b6, k8⟩ := mk f5 hv6
        clear hv6 f5
        have bx := b4.ext (k6.trans' (k7.trans' k8))
        rw [wi ((j : Int) + 1) (by omega) (by omega)]
        have next : (∃ j' : Nat, j' ≤ i ∧ (j : Int) + 1 = (j' : Int) ∧ Ext v3 v6.drew) ∧ ((i : Int) - ((j : Int) + 1)).toNat < ((i : Int) - (j : Int)).toNat := ⟨⟨j + 1, by omega, rfl, (k7.trans' k8).drew⟩, by omega⟩
        refine ⟨fun q => Ext v6 q, Fr.drew NoB v6, _, fun q eq => (bx.ext eq).cell rfl, _, fun q eq => (b6.ext eq).cell rfl, _, fun q eq => (bx.ext eq).cell rfl, _, fun q eq => (b6.ext eq).cell rfl, ?_⟩
        refine brd (fun h1 => ⟨_, fun q eq => (bx.ext eq).cell rfl, _, fun q eq => (b6.ext eq).cell rfl, brn (fun h2 => brn (fun h3 => by omega) (fun _ => next)) (fun _ => next)⟩) (fun h1 => brn (fun h2 => by omega) (fun _ => next))
      · exact ⟨⟨i + 1, by omega, rfl, e6.trans' k7⟩, by dsimp only; omega⟩
    · have kd : Ext v2 v2.drew := Fr.drew NoB v2
      refine ⟨fun q => Ext v2 q, kd, _, fun q eq => (b4.ext eq).cell rfl, _, fun q eq => (b4.ext eq).cell rfl, brd (fun h1 => by omega) (fun _ => ⟨_, fun q eq => (b4.ext eq).cell rfl, _, _, _, fun q eq => (bp.ext ((e.trans' k5).trans' eq)).cell rfl, brd (fun h1 => by omega) (fun _ => ?_)⟩)⟩
      refine brd (fun hi0 => ?_) (fun _ => kd)
      have hx' := List.getElem?_eq_getElem (show i - 1 < l.length by omega)
      have hup := hU.up (i - 1) i _ _ hx' hx (by omega)
      obtain ⟨ad', hA', hcell'⟩ := getx (i - 1) _ hx' v2 e5
      rw [wi ((i : Int) - 1) (by omega) (by omega)]
      exact ⟨ad', hA', ⟨by omega, by omega⟩, _, fun q eq => by rw [show Int.toNat ((i : Int) - 1) = i - 1 by omega]; exact hcell' q eq 0 _ rfl, _, fun q eq => (b4.ext eq).cell rfl, brd (fun h1 => by omega) (fun _ => kd)⟩
  · have bp := bp.ext e
    repeat (first | refine ⟨_, Blk.cell (bp) (by rfl), ?_⟩ | refine ⟨_, _, _, Blk.cell (bp) (by rfl), ?_⟩)
    refine ⟨fun x v => ∃ t : Nat, t ≤ p.code.length ∧ x = (t : Int) ∧ Ext u v, fun x _ => ((p.code.length : Int) - x).toNat, ⟨0, by omega, rfl, .refl _ _⟩, ?_⟩
    rintro _ v ⟨t, htl, rfl, k4⟩
    refine brd (fun hlt => ?_) (fun _ => fin v (e3.trans' (e.trans' k4)))
    have hlt : t < p.code.length := by omega
    repeat (first | refine ⟨_, Blk.cell (bp.ext k4) (by rfl), ?_⟩ | refine ⟨_, _, _, Blk.cell (bp.ext k4) (by rfl), ?_⟩)
    have e4 := e.trans' k4
    refine (Next_spec (h.ext (e3.trans' e4)) (hT.ext (e3.trans' e4)) hlt).mono ?_
    rintro _ v1 ⟨B, d, rfl, hd, hI, k5⟩
    have e5 := e4.trans' k5
    have hnx := nextP_ok hLO hck hlt
    have hl2 := leads_len p.code[t] (t : Int)
    have hen := fun {z : Int} (hz : z ∈ leadsI p.code[t] t) {x : Lp} (hx : x ∈ l) => enter_ok hLO hlt hz hx
    rw [← hnx] at hl2 hen
    clear hnx
    generalize nextP p t = m at *
    rw [wi ((t : Int) + 1) (by omega) (by omega)]
    refine ⟨_, _, _, rfl, fun x v => ∃ j : Nat, j ≤ m.length ∧ x = (j : Int) ∧ Ext v1 v, fun x _ => ((m.length : Int) - x).toNat, ⟨0, by omega, rfl, .refl _ _⟩, ?_⟩
    rintro _ v2 ⟨j, hj, rfl, k6⟩
    refine brd (fun hjm => ?_) (fun _ => ⟨⟨t + 1, by omega, rfl, (k4.trans' k5).trans' k6⟩, by dsimp only; omega⟩)
    have hjm : j < m.length := by omega
    obtain ⟨ad, hA, hcell⟩ := ints_imm (hI.ext (by decide) k6) hjm
    refine ⟨ad, hA, ⟨by omega, by omega⟩, _, hcell v2 (.refl _ _), ?_⟩
    have hz : m[j] ∈ m := by simp
    generalize m[j] = z at *
    rw [wi ((j : Int) + 1) (by omega) (by omega)]
    refine ⟨fun x v => ∃ i : Nat, i ≤ l.length ∧ x = (i : Int) ∧ Ext v2 v, fun x _ => ((l.length : Int) - x).toNat, ⟨0, by omega, rfl, .refl _ _⟩, ?_⟩
    rintro _ v3 ⟨i, hil, rfl, k7⟩
    refine brd (fun hil => ?_) (fun _ => ⟨⟨j + 1, by omega, rfl, k6.trans' k7⟩, by dsimp only; omega⟩)
    have hil : i < l.length := by omega
    have hx := List.getElem?_eq_getElem hil
    generalize l[i] = x at *
    have e7 := e5.trans' (k6.trans' k7)
    obtain ⟨ad2, hA2, hcell2⟩ := getx i x hx v3 e7
    refine ⟨ad2, hA2, ⟨by omega, by omega⟩, ?_⟩
    repeat (first | refine ⟨_, (hcell2 v3 (.refl _ _)) _ _ (by rfl), ?_⟩ | refine ⟨_, _, _, (hcell2 v3 (.refl _ _)) _ _ (by rfl), ?_⟩)
    intro g5 v5 f5
    refine ⟨f5.blk.stOK (lpC x) 0 (by simp), fun v6 hv6 => ?_⟩
    obtain ⟨b6, k8⟩ := mk f5 hv6
    clear hv6 f5
    rw [wi ((i : Int) + 1) (by omega) (by omega)]
    have next : (∃ i' : Nat, i' ≤ l.length ∧ (i : Int) + 1 = (i' : Int) ∧ Ext v2 v6) ∧ ((l.length : Int) - ((i : Int) + 1)).toNat < ((l.length : Int) - (i : Int)).toNat := ⟨⟨i + 1, by omega, rfl, k7.trans' k8⟩, by omega⟩
    refine (FlowNested1_spec b6 z).mono ?_
    rintro _ q ⟨rfl, hq⟩
    obtain rfl : v6 = q := hq.symm
    refine ⟨_, rfl, br (fun h1 => ?_) (fun _ => next)⟩
    refine (FlowNested1_spec b6 t).mono ?_
    rintro _ q ⟨rfl, hq⟩
    obtain rfl : v6 = q := hq.symm
    refine ⟨_, rfl, brnb (fun h2 => ?_) (fun _ => next)⟩
    repeat (first | refine ⟨_, Blk.cell (b6) (by rfl), ?_⟩ | refine ⟨_, _, _, Blk.cell (b6) (by rfl), ?_⟩)
    refine brn (fun h3 => ?_) (fun _ => next)
    rcases hen hz (List.mem_of_getElem? hx) h1 with h4 | h4
    · rw [h4] at h2; cases h2
    · exact absurd h4 h3
set_option maxRecDepth 20000 in
theorem FlowEnds_holds {w : World} {p : Prog} {a : PAd} (h : PIm w p a) (hT : Tab w) (from_ : Int) {B : Option Addr} {d : Nat} {ways : List Bool} (hw : Imm Kd.bool NoB w B ways) (hwl : ways.length ≤ maxLen) :
    CallsV Tryd.prog 6 #[pagg p a, .int .i64 from_, .slice B ways.length d] w fun r w' => r = .bool true ∧ Ext w w' := by
  refine cardindexlaw16_FlowEnds.calls okay ?_
  unfold cardindexlaw16_FlowEnds.W
  intro g w1 f
  repeat (first | refine ⟨_, Blk.cell (f.blk) (by rfl), ?_⟩ | refine ⟨_, _, _, Blk.cell (f.blk) (by rfl), ?_⟩)
  refine (great_spec (h.ext f.ext)).mono ?_
  rintro _ w2 ⟨b, rfl, hb, k2⟩
  have e2 := f.ext.trans' k2
  have fin : ∀ u, Ext w u → CallsV Tryd.prog 8 #[] u fun v w' => ∃ x, v = .bool x ∧ (Value.bool x = .bool true ∧ Ext w w') := fun u e => by
    refine (awake_spec (hT.ext e)).mono ?_
    rintro _ u1 ⟨rfl, e1⟩
    exact ⟨_, rfl, rfl, e.trans' e1⟩
  refine ⟨_, rfl, br (fun _ => fin w2 e2) (fun hgr => ?_)⟩
  have hlen := hb hgr
  have bp := f.blk.ext k2
  clear f
  repeat (first | refine ⟨_, Blk.cell (bp) (by rfl), ?_⟩ | refine ⟨_, _, _, Blk.cell (bp) (by rfl), ?_⟩)
  refine brd (fun _ => fin w2 e2) (fun h0 => ?_)
  repeat (first | refine ⟨_, Blk.cell (bp) (by rfl), ?_⟩ | refine ⟨_, _, _, Blk.cell (bp) (by rfl), ?_⟩)
  refine (Pick_spec w2 from_ _ (by omega) (by omega)).mono ?_
  rintro _ u ⟨k0, rfl, hk0, hu⟩
  obtain rfl : w2 = u := hu.symm
  refine ⟨_, rfl, fun x n u => ∃ (t m : Nat), x = (t : Int) ∧ n = (m : Int) ∧ t < p.code.length ∧ m ≤ t ∧ Ext w2 u, fun x n _ => ((p.code.length : Int) - x).toNat, ⟨k0, 0, rfl, rfl, by omega, by omega, .refl _ _⟩, ?_⟩
  rintro _ _ u ⟨t, m, rfl, rfl, ht, hm, e⟩
  have bp := bp.ext e
  repeat (first | refine ⟨_, Blk.cell (bp) (by rfl), ?_⟩ | refine ⟨_, _, _, Blk.cell (bp) (by rfl), ?_⟩)
  refine brd (fun _ => ?_) (fun h => by omega)
  repeat (first | refine ⟨_, Blk.cell (bp) (by rfl), ?_⟩ | refine ⟨_, _, _, Blk.cell (bp) (by rfl), ?_⟩)
  refine (Next_spec (h.ext (e2.trans' e)) (hT.ext (e2.trans' e)) ht).mono ?_
  rintro _ v ⟨A, c, rfl, hc, hi, k3⟩
  have e3 := e.trans' k3
  refine ⟨_, _, _, rfl, brd (fun _ => fin v (e2.trans' e3)) (fun hne => ?_)⟩
  have hck : checkP p = true := by
    cases hck : checkP p with
    | true => rfl
    | false => exfalso; unfold nextP at hne; rw [hck] at hne; simp at hne
  have hnx : nextP p t = leadsI p.code[t] t := by unfold nextP; rw [if_pos hck, insAt_get ht]
  have hl2 := leads_len p.code[t] (t : Int)
  have hon := leads_on (checked hck) ht
  rw [← hnx] at hl2 hon
  clear hnx
  generalize nextP p t = l at *
  have hne : l.length ≠ 0 := by omega
  obtain ⟨z, hz1, hz2, hz3⟩ := hon (fun e => hne (by rw [e]; rfl))
  obtain ⟨hzl, hz1⟩ := List.getElem?_eq_some_iff.1 hz1
  rw [wi ((l.length : Int) - 1) (by omega) (by omega), wi ((m : Int) + 1) (by omega) (by omega)]
  obtain ⟨ad, hA, hcell⟩ := ints_imm hi hzl
  rw [hz1] at hcell
  refine ⟨ad, hA, ⟨by omega, by omega⟩, z, by rw [show Int.toNat ((l.length : Int) - 1) = l.length - 1 by omega]; exact hcell v (.refl _ _), ?_⟩
  have hzm : z ∈ l := by rw [← hz1]; simp
  obtain ⟨ad0, hA0, hcell0⟩ := ints_imm hi (show 0 < l.length by omega)
  rw [hA] at hA0; cases hA0
  have hy : l[0]'(by omega) ∈ l := by simp
  generalize l[0]'(by omega) = y at *
  refine ⟨fun q u => (∃ q' : Int, q = q' ∧ (t : Int) < q' ∧ q' ∈ l) ∧ u = v, ?_, ?_⟩
  · rintro q u ⟨⟨q', rfl, h1, h2⟩, rfl⟩
    have := hz3 q h2
    refine brd (fun h => by omega) (fun _ => ⟨⟨q.toNat, m + 1, by omega, rfl, by omega, by omega, e3⟩, by dsimp only; omega⟩)
  · refine brd (fun hmw => ?_) (fun _ => ⟨⟨z, rfl, hz2, hzm⟩, rfl⟩)
    obtain ⟨ad2, hA2, cs, hrep, hc2⟩ := (hw.ext (by decide) (e2.trans' e3)).get1 (show m < ways.length by omega)
    have hcs : cs = [.bool ways[m]] := hrep
    subst hcs
    refine ⟨ad2, hA2, ⟨by omega, by omega⟩, _, hc2 0 _ rfl, br (fun _ => ?_) (fun _ => ⟨⟨z, rfl, hz2, hzm⟩, rfl⟩)⟩
    refine ⟨ad, hA, ⟨by omega, by omega⟩, y, hcell0 v (.refl _ _), brd (fun h => ?_) (fun _ => ⟨⟨z, rfl, hz2, hzm⟩, rfl⟩)⟩
    exact ⟨ad, hA, ⟨by omega, by omega⟩, y, hcell0 v (.refl _ _), ⟨y, rfl, h, hy⟩, rfl⟩
end Go.Proofs.YtabfhckjinejfaaDoor
/- Layer 16, plain: loops of cursors within one another. -/
set_option linter.unusedVariables false
set_option linter.unusedSimpArgs false
namespace L16
open Go.Sx R1 K15
def curM (i : Nat) : Cur := ⟨ByteArray.mk #[116] ++ ⟨#[(97 + i).toUInt8]⟩, false, false⟩
def curU : Cur := ⟨ByteArray.mk #[117], false, false⟩
def cursM (k : Nat) : List Cur := ((List.range (min k 12)).map curM ++ [curU]).take (min (max k 1) 12)
def insA (k : Nat) (i : Nat) : Ins := ⟨13, ((i % 12 : Nat) : Int), 2 * (k : Int) - i, 0, 0⟩
def insB (i : Nat) : Ins := ⟨15, ((i % 12 : Nat) : Int), (i : Int) + 1, 0, 0⟩
def insH : Ins := ⟨35, 0, 0, 0, 0⟩
def codeM (k : Nat) : List Ins := (List.range k).map (insA k) ++ (List.range k).reverse.map insB ++ [insH]
def codeX (k : Nat) : List Ins :=
  let l := codeM k
  let l1 := (l.set k (l.getD (k + 1) I0)).set (k + 1) (l.getD k I0)
  let l2 := l1.set (k - 1) { l1.getD (k - 1) I0 with b := (k : Int) + 1 + 1 }
  l2.set (k - 2) { l2.getD (k - 2) I0 with b := (k : Int) + 1 }
def progM (cs : List Cur) (l : List Ins) : Prog := ⟨1, 4, 0, [ByteArray.mk #[97]], [], cs, [⟨[], 1, false⟩], [], l⟩
def madeP (k : Nat) (x : Bool) : Prog := progM (cursM k) (if x && decide (2 ≤ k) then codeX k else codeM k)
def lpEq (x y : Lp) : Bool := decide (x.fr = y.fr) && (decide (x.en = y.en) && (decide (x.dp = y.dp) && decide (x.inn = y.inn)))
def lpsEq : List Lp → List Lp → Bool
  | [], [] => true
  | x :: l, y :: r => lpEq x y && lpsEq l r
  | _, _ => false
def wantL (k : Nat) : List Lp := (List.range k).map fun (i : Nat) => ⟨(i : Int), 2 * (k : Int) - 1 - i, 0, 0, (i : Int), (i : Int) - 1⟩
def chkM (k : Nat) (x : Bool) : Bool := if 12 < k ∨ (x = true ∧ 2 ≤ k) then decide ((loopsP (madeP k x)).2 = 141) else decide ((loopsP (madeP k x)).2 = 0) && lpsEq (loopsP (madeP k x)).1 (wantL k)
theorem chk_all : (List.range 16).all (fun k => chkM k false && chkM k true) = true := by decide +kernel
theorem lpsEq_get : ∀ (l r : List Lp), lpsEq l r = true → l.length = r.length ∧ ∀ (i : Nat) (x y : Lp), l[i]? = some x → r[i]? = some y → x.fr = y.fr ∧ x.en = y.en ∧ x.dp = y.dp ∧ x.inn = y.inn
  | [], [], _ => ⟨rfl, fun i x y h => by simp at h⟩
  | x :: l, y :: r, h => by
    simp only [lpsEq, lpEq, Bool.and_eq_true, decide_eq_true_eq] at h
    obtain ⟨h1, h2⟩ := lpsEq_get l r h.2
    refine ⟨by simp [h1], fun i a b ha hb => ?_⟩
    cases i with
    | zero => simp at ha hb; subst ha; subst hb; exact ⟨h.1.1, h.1.2.1, h.1.2.2.1, h.1.2.2.2⟩
    | succ i => exact h2 i a b (by simpa using ha) (by simpa using hb)
theorem made_ok (k : Nat) (hk : k < 16) (x : Bool) :
    ((12 < k ∨ (x = true ∧ 2 ≤ k)) → (loopsP (madeP k x)).2 = 141) ∧ (¬ (12 < k ∨ (x = true ∧ 2 ≤ k)) → (loopsP (madeP k x)).2 = 0 ∧ (loopsP (madeP k x)).1.length = k ∧
      ∀ (i : Nat) (y : Lp), (loopsP (madeP k x)).1[i]? = some y → y.fr = i ∧ y.en = 2 * (k : Int) - 1 - i ∧ y.dp = i ∧ y.inn = (i : Int) - 1) := by
  have h := List.all_eq_true.1 chk_all k (by simp [hk])
  rw [Bool.and_eq_true] at h
  have hc : chkM k x = true := by cases x; exact h.1; exact h.2
  unfold chkM at hc
  split at hc
  · rename_i h1
    exact ⟨fun _ => of_decide_eq_true hc, fun h => absurd h1 h⟩
  · rename_i h1
    refine ⟨fun h => absurd h h1, fun _ => ?_⟩
    rw [Bool.and_eq_true, decide_eq_true_eq] at hc
    obtain ⟨h2, h3⟩ := lpsEq_get _ _ hc.2
    have hw : (wantL k).length = k := by simp [wantL]
    refine ⟨hc.1, h2.trans hw, fun i y hy => ?_⟩
    have hi : i < k := by have := (List.getElem?_eq_some_iff.1 hy).1; omega
    exact h3 i y ⟨(i : Int), 2 * (k : Int) - 1 - i, 0, 0, (i : Int), (i : Int) - 1⟩ hy (by simp [wantL, hi])
end L16
/- Layer 16: FlowMade: a program that is made, its cursors and instructions in memory of their own. -/
set_option linter.unusedVariables false
set_option linter.unusedSimpArgs false
namespace Go.Proofs.YtabfhckjinejfaaDoor
open Go Go.Sx R1 K15 L16
theorem sl_cur : SlT Tryd.prog 24 43 3 24 [.string ByteArray.empty, .bool false, .bool false] := ⟨by kernel_rfl, ⟨Tryd.t43, by kernel_rfl, by kernel_rfl, by kernel_rfl, .agg #[.string ByteArray.empty, .bool false, .bool false], by kernel_rfl, by kernel_rfl⟩, rfl, by decide⟩
theorem sl_ins : SlT Tryd.prog 27 46 5 40 (insC I0) := ⟨by kernel_rfl, ⟨Tryd.t46, by kernel_rfl, by kernel_rfl, by kernel_rfl, .agg (insC I0).toArray, by kernel_rfl, by kernel_rfl⟩, rfl, by decide⟩
theorem insC_one (x : Ins) : ∀ v ∈ insC x, v.oneCell' = true := by intro v hv; simp at hv; rcases hv with rfl | rfl | rfl | rfl | rfl <;> rfl
abbrev curC (c : Cur) : List Value := [.string c.name, .bool c.ix, .bool c.wr]
theorem curC_one (x : Cur) : ∀ v ∈ curC x, v.oneCell' = true := by intro v hv; simp at hv; rcases hv with rfl | rfl | rfl <;> rfl
/-- a program in the making: in a block of its own, its cursors and instructions in blocks of their own -/
structure MSt (w1 u : World) (g : Nat) (p : Prog) (a : PAd) : Prop where
  blk : Blk u g (pcs p a)
  ext : Ext w1 u
  g0 : w1.heap.size ≤ g
  names : Imm Kd.str NoB w1 a.nA p.names
  consts : Imm KV NoB w1 a.cA p.consts
  sorts : Imm KSrt NoB w1 a.sA p.sorts
  tots : Imm KTot NoB w1 a.tA p.tots
  l1 : p.names.length ≤ maxLen
  l2 : p.consts.length ≤ maxLen
  l4 : p.sorts.length ≤ maxLen
  l5 : p.tots.length ≤ maxLen
  oc : OwnK KCur u a.uA a.uc p.curs
  od : OwnK KIns u a.dA a.dc p.code
  nc : New w1 a.uA
  nd : New w1 a.dA
  dj : ∀ k, ownB a.uA k → ¬ ownB a.dA k
  gc : ¬ ownB a.uA g
  gd : ¬ ownB a.dA g
theorem OwnK.len {α : Type} {K : Kd α} {w : World} {A : Option Addr} {c : Nat} {l : List α} (h : OwnK K w A c l) : c ≤ maxLen := by obtain ⟨xs, ho, _⟩ := h; exact ho.2.1
section
variable {w1 u : World} {g : Nat} {p : Prog} {a : PAd}
theorem MSt.pim (h : MSt w1 u g p a) : PIm u p a :=
  ⟨h.names.ext KStr_pos h.ext, h.consts.ext KV_pos h.ext, h.oc.imm KCur_pos, h.sorts.ext KSrt_pos h.ext, h.tots.ext KTot_pos h.ext, h.od.imm KIns_pos, h.l1, h.l2, Nat.le_trans h.oc.le (OwnK.len h.oc), h.l4, h.l5, Nat.le_trans h.od.le (OwnK.len h.od), h.od.le⟩
theorem MSt.mono (h : MSt w1 u g p a) {v : World} (e : Ext u v) : MSt w1 v g p a :=
  ⟨h.blk.ext e, h.ext.trans' e, h.g0, h.names, h.consts, h.sorts, h.tots, h.l1, h.l2, h.l4, h.l5, h.oc.ext e, h.od.ext e, h.nc, h.nd, h.dj, h.gc, h.gd⟩
theorem repFix {K : Kd Cur} (h : K = KCur) {Ω : Nat → Prop} (w w' : World) (a : Cur) (cs : List Value) (hr : KCur.rep Ω w a cs) : KCur.rep Ω w' a cs := hr
/-- the instructions turned, in their block -/
theorem MSt.codeFr (h : MSt w1 u g p a) {v : World} {B : Option Addr} {l : List Ins} {d : Nat} (hf : Fr (ownB a.dA) u v) (ho : OwnK KIns v B d l) (hs : ∀ k, ownB B k → ownB a.dA k ∨ u.heap.size ≤ k) :
    Blk v g (pcs p a) ∧ Ext w1 v ∧ OwnK KCur v a.uA a.uc p.curs ∧ New w1 B ∧ (∀ k, ownB a.uA k → ¬ ownB B k) ∧ ¬ ownB B g := by
  have hg := h.blk.lt
  refine ⟨h.blk.keep hf h.gd, h.ext.trans hf (fun _ _ h => h) (fun k hk e => by have := h.nd k e; omega), h.oc.fr hf h.dj (fun a cs _ h => h), fun k hk => ?_, fun k hk hb => ?_, fun hb => ?_⟩
  · rcases hs k hk with h' | h'
    · exact h.nd k h'
    · exact Nat.le_trans h.ext.size h'
  · rcases hs k hb with h' | h'
    · exact h.dj k hk h'
    · have := h.oc.lt k hk; omega
  · rcases hs g hb with h' | h'
    · exact h.gd h'
    · omega
theorem MSt.curFr (h : MSt w1 u g p a) {v : World} {B : Option Addr} {l : List Cur} {d : Nat} (hf : Fr (ownB a.uA) u v) (ho : OwnK KCur v B d l) (hs : ∀ k, ownB B k → ownB a.uA k ∨ u.heap.size ≤ k) :
    Blk v g (pcs p a) ∧ Ext w1 v ∧ OwnK KIns v a.dA a.dc p.code ∧ New w1 B ∧ (∀ k, ownB B k → ¬ ownB a.dA k) ∧ ¬ ownB B g := by
  have hg := h.blk.lt
  refine ⟨h.blk.keep hf h.gc, h.ext.trans hf (fun _ _ h => h) (fun k hk e => by have := h.nc k e; omega), h.od.fr hf (fun k hk hb => h.dj k hb hk) (fun a cs _ h => h), fun k hk => ?_, fun k hk hb => ?_, fun hb => ?_⟩
  · rcases hs k hk with h' | h'
    · exact h.nc k h'
    · exact Nat.le_trans h.ext.size h'
  · rcases hs k hk with h' | h'
    · exact h.dj k h' hb
    · have := h.od.lt k hb; omega
  · rcases hs g hb with h' | h'
    · exact h.gc h'
    · omega
/-- a cell of the program's block turned -/
theorem MSt.setG (hb : Blk u g (pcs p a)) (he : Ext w1 u) (hg0 : w1.heap.size ≤ g) {v : World} {o : Nat} {x : Value} (hv : v = setAll ((⟨g, 0, none⟩ : Addr).add o) 0 [x] u) : Blk v g ((pcs p a).set o x) ∧ Ext w1 v ∧ Fr (fun k => k = g) u v := by
  rw [add_new] at hv
  have h1 : Blk v g ((pcs p a).set (0 + o) x) := by rw [hv]; exact Blk.setAll (o := 0 + o) [x] 0 hb
  rw [Nat.zero_add] at h1
  exact ⟨h1, by rw [hv]; exact Ext.setAll he hg0 _ _, by rw [hv]; exact Fr.setAll _ _ _⟩
theorem MSt.pushC (h : MSt w1 u g p a) (hl : p.code.length < 100) (i : Ins) {g2 : Nat} {v : World} (f : Fresh u g2 v (insC i) 46) :
    ∃ B n d w', RunsTo Tryd.prog (Builtin.append_ #[27, 27] 27 #[.slice a.dA p.code.length a.dc, .slice (some ⟨g2, 0, none⟩) 1 1]) v (.slice B n d) w' ∧
      stOK ((⟨g, 0, none⟩ : Addr).add 8) 0 [.slice B n d] w' ∧ ∀ w'', w'' = setAll ((⟨g, 0, none⟩ : Addr).add 8) 0 [.slice B n d] w' → MSt w1 w'' g { p with code := p.code ++ [i] } { a with dA := B, dc := d } := by
  obtain ⟨hg2, hv⟩ := f
  subst hg2; subst hv
  obtain ⟨B, d, w', hr, ho, hg⟩ := OwnK.push (K := KIns) sl_ins (ty := 27) h.od (a := i) (cs := insC i) rfl (insC_one i) (e' := 46) (by simp only [maxLen]; omega) (by omega)
  obtain ⟨b1, e1, o1, n1, d1, g1⟩ := h.codeFr hg.fr ho hg.sub
  refine ⟨B, _, d, w', hr, ?_, fun w'' hw => ?_⟩
  · rw [add_new]; exact b1.stOK (o := 0 + 8) [_] 0 (by simp)
  · obtain ⟨b2, e2, f2⟩ := MSt.setG b1 e1 h.g0 hw
    exact ⟨b2, e2, h.g0, h.names, h.consts, h.sorts, h.tots, h.l1, h.l2, h.l4, h.l5, o1.fr f2 (fun k hk e => h.gc (e ▸ hk)) (fun a cs _ h => h), ho.fr f2 (fun k hk e => g1 (e ▸ hk)) (fun a cs _ h => h), h.nc, n1, d1, h.gc, g1⟩
theorem MSt.pushU (h : MSt w1 u g p a) (hl : p.curs.length < 100) (i : Cur) {g2 : Nat} {v : World} (f : Fresh u g2 v (curC i) 43) :
    ∃ B n d w', RunsTo Tryd.prog (Builtin.append_ #[24, 24] 24 #[.slice a.uA p.curs.length a.uc, .slice (some ⟨g2, 0, none⟩) 1 1]) v (.slice B n d) w' ∧ n = p.curs.length + 1 ∧ n ≤ d ∧
      stOK ((⟨g, 0, none⟩ : Addr).add 5) 0 [.slice B n d] w' ∧ ∀ m, m ≤ n → ∀ w'', w'' = setAll ((⟨g, 0, none⟩ : Addr).add 5) 0 [.slice B m d] w' → MSt w1 w'' g { p with curs := (p.curs ++ [i]).take m } { a with uA := B, uc := d } := by
  obtain ⟨hg2, hv⟩ := f
  subst hg2; subst hv
  obtain ⟨B, d, w', hr, ho, hg⟩ := OwnK.push (K := KCur) sl_cur (ty := 24) h.oc (a := i) (cs := curC i) rfl (curC_one i) (e' := 43) (by simp only [maxLen]; omega) (by omega)
  obtain ⟨b1, e1, o1, n1, d1, g1⟩ := h.curFr hg.fr ho hg.sub
  refine ⟨B, _, d, w', hr, by simp, ho.le, ?_, fun m hm w'' hw => ?_⟩
  · rw [add_new]; exact b1.stOK (o := 0 + 5) [_] 0 (by simp)
  · obtain ⟨b2, e2, f2⟩ := MSt.setG b1 e1 h.g0 hw
    have ho2 := (ho.take m hm).fr f2 (fun k hk e => g1 (e ▸ hk)) (fun a cs _ h => h)
    have hlen : ((p.curs ++ [i]).take m).length = m := by rw [List.length_take]; omega
    refine ⟨?_, e2, h.g0, h.names, h.consts, h.sorts, h.tots, h.l1, h.l2, h.l4, h.l5, ho2, o1.fr f2 (fun k hk e => h.gd (e ▸ hk)) (fun a cs _ h => h), n1, h.nd, d1, g1, h.gd⟩
    show Blk w'' g (pcs { p with curs := (p.curs ++ [i]).take m } { a with uA := B, uc := d })
    have e5 : pcs { p with curs := (p.curs ++ [i]).take m } { a with uA := B, uc := d } = (pcs p a).set 5 (.slice B ((p.curs ++ [i]).take m).length d) := rfl
    rw [e5, hlen]
    exact b2
end
theorem pcs_code {p : Prog} {a : PAd} {l : List Ins} (hl : l.length = p.code.length) : pcs { p with code := l } a = pcs p a := by
  show [_, _, _, _, _, _, _, _, Value.slice a.dA l.length a.dc] = _
  rw [hl]
/-- instructions of a program in the making, set in their midst -/
theorem MSt.setI {w1 u : World} {g : Nat} {p : Prog} {a : PAd} (h : MSt w1 u g p a) {k : Nat} (hk : k < p.code.length) : ∃ b, a.dA = some ⟨b, 0, none⟩ ∧
    (∀ i : Ins, stOK ((⟨b, 0, none⟩ : Addr).add (k * 5)) 0 (insC i) u ∧ ∀ w', w' = setAll ((⟨b, 0, none⟩ : Addr).add (k * 5)) 0 (insC i) u → MSt w1 w' g { p with code := p.code.set k i } a ∧ Fr (ownB a.dA) u w') ∧
    (∀ x : Int, stOK (((⟨b, 0, none⟩ : Addr).add (k * 5)).add 2) 0 [.int .i64 x] u ∧ ∀ w', w' = setAll (((⟨b, 0, none⟩ : Addr).add (k * 5)).add 2) 0 [.int .i64 x] u → MSt w1 w' g { p with code := p.code.set k { p.code.getD k I0 with b := x } } a ∧ Fr (ownB a.dA) u w') := by
  obtain ⟨b, hA, hc⟩ := h.od.blk KIns_pos hk
  refine ⟨b, hA, fun i => ⟨?_, fun w' hw => ?_⟩, fun x => ?_⟩
  · rw [add_new]
    exact stOK_of (insC i) 0 (fun j hj => by
      rw [add_new]
      have hj : j < 5 := hj
      have := hc j hj
      rw [show 0 + k * 5 + (0 + j) = k * KIns.size + j by show _ = k * 5 + j; omega]
      exact this)
  · rw [add_new] at hw
    have ho := h.od.set (K := KIns) (fun _ _ _ h => h) hk (a := i) (cs := insC i) rfl hA
    rw [show (⟨b, 0 + k * 5, none⟩ : Addr) = ⟨b, k * KIns.size, none⟩ by show _ = (⟨b, k * 5, none⟩ : Addr); rw [Nat.zero_add]] at hw
    rw [← hw] at ho
    have f : Fr (ownB a.dA) u w' := by rw [hw, hA]; exact (Fr.setAll (g := b) _ 0 u).mono (fun k _ e => by rw [ownB_some]; exact e.symm)
    obtain ⟨b1, e1, o1, n1, d1, g1⟩ := h.codeFr f ho (fun _ h => .inl h)
    have hlen : (p.code.set k i).length = p.code.length := List.length_set
    refine ⟨⟨?_, e1, h.g0, h.names, h.consts, h.sorts, h.tots, h.l1, h.l2, h.l4, h.l5, o1, ho, h.nc, n1, d1, h.gc, g1⟩, f⟩
    show Blk w' g (pcs { p with code := p.code.set k i } a)
    rw [pcs_code hlen]
    exact b1
  · have hget : p.code[k]? = some p.code[k] := List.getElem?_eq_getElem hk
    have hD : p.code.getD k I0 = p.code[k] := by simp [List.getD, hk]
    obtain ⟨b', hA', q1, q2, ho, f⟩ := h.od.setC (K := KIns) (fun _ _ _ h => h) hget (q := 2) (by decide) (v := .int .i64 x) (a := { p.code[k] with b := x }) (fun cs hr => by
      have hr : cs = insC p.code[k] := hr
      subst hr; rfl)
    rw [hA] at hA'; cases hA'
    have ea : (((⟨b, 0, none⟩ : Addr).add (k * 5)).add 2) = ⟨b, k * KIns.size + 2, none⟩ := by rw [add_new, add_new]; show (⟨b, 0 + k * 5 + 2, none⟩ : Addr) = ⟨b, k * 5 + 2, none⟩; rw [Nat.zero_add]
    rw [ea]
    refine ⟨⟨by rw [add_zero']; exact q1, by rw [add_zero']; exact q2⟩, fun w' hw => ?_⟩
    have hw : w' = u.setCell ⟨b, k * KIns.size + 2, none⟩ (.int .i64 x) := hw
    rw [← hw] at ho f
    obtain ⟨b1, e1, o1, n1, d1, g1⟩ := h.codeFr f ho (fun _ h => .inl h)
    rw [hD]
    have hlen : (p.code.set k { p.code[k] with b := x }).length = p.code.length := List.length_set
    refine ⟨⟨?_, e1, h.g0, h.names, h.consts, h.sorts, h.tots, h.l1, h.l2, h.l4, h.l5, o1, ho, h.nc, n1, d1, h.gc, g1⟩, f⟩
    show Blk w' g (pcs { p with code := p.code.set k { p.code[k] with b := x } } a)
    rw [pcs_code hlen]
    exact b1
theorem MSt.get {w1 u : World} {g : Nat} {p : Prog} {a : PAd} (h : MSt w1 u g p a) {k : Nat} (hk : k < p.code.length) {b : Nat} (hA : a.dA = some ⟨b, 0, none⟩) : ∀ v, Ext u v → ∀ (j : Nat) (y : Value), (insC (p.code.getD k I0))[j]? = some y → v.cell? (((⟨b, 0, none⟩ : Addr).add (k * 5)).add j) = some y := by
  obtain ⟨ad, hA2, hc⟩ := insAt_imm h.pim hk
  rw [hA] at hA2; cases hA2
  intro v e j y hy
  refine hc v e j y ?_
  rw [show p.code.getD k I0 = p.code[k] by simp [List.getD, hk]] at hy
  exact hy
theorem bt_u8 : BT Tryd.prog 41 5 9 := ⟨by kernel_rfl, by kernel_rfl, by kernel_rfl⟩
theorem pre_take {α : Type} {l : List α} {i : Nat} (h : i < l.length) : l.take (i + 1) = l.take i ++ [l[i]] := by rw [List.take_add_one]; simp [h]
end Go.Proofs.YtabfhckjinejfaaDoor
/- Layer 16: FlowMade, the law. -/
set_option linter.unusedVariables false
set_option linter.unusedSimpArgs false
namespace Go.Proofs.YtabfhckjinejfaaDoor
open Go Go.Sx R1 K15 L16
theorem brT {b : Bool} {A B : Prop} (h : b = true) (hA : A) : cond b A B := by rw [h]; exact hA
set_option maxRecDepth 20000 in
set_option maxHeartbeats 2000000 in
theorem FlowMade_holds {w : World} (hT : Tab w) (n : Nat) (hn : n < 256) (cr : Bool) : CallsV Tryd.prog 4 #[.int .u8 n, .bool cr] w fun r w' => r = .bool true ∧ Ext w w' := by
  refine cardindexlaw16_FlowMade.calls okay ?_
  unfold cardindexlaw16_FlowMade.W
  obtain ⟨k, hk16, hk⟩ : ∃ k : Nat, k < 16 ∧ IntKind.i64.wrap (Int.tmod (n : Int) 16) = (k : Int) := by
    refine ⟨n % 16, by omega, ?_⟩
    rw [Int.tmod_eq_emod_of_nonneg (by omega), wi _ (by omega) (by omega)]
    omega
  rw [hk]
  refine ⟨by decide, (prog_spec (l := []) rfl (Imm.nil _ _ _ _) (by simp [maxLen]) (by simp)).mono ?_⟩
  rintro _ w1 ⟨a0, rfl, hP, e1, hdA, hdc⟩
  refine ⟨_, _, _, _, _, _, _, _, _, _, _, _, _, _, _, _, _, _, _, _, _, rfl, ?_⟩
  intro g w2 f2
  refine ⟨f2.blk.stOK (pcs (progP []) a0) 0 (by simp), fun w3 hw3 => ?_⟩
  obtain ⟨b3, q3⟩ := set0 f2.blk hw3 rfl
  have e3 : Ext w1 w3 := f2.ext.trans q3 (fun _ _ h => h) (fun k hk e => by have := f2.ge; omega)
  have hg0 := f2.ge
  clear hw3 q3 f2
  refine ⟨by rw [add_new]; exact b3.stOK (o := 0 + 5) [_] 0 (by simp), fun w4 hw4 => ?_⟩
  obtain ⟨b4, e4, _⟩ := MSt.setG b3 e3 hg0 hw4
  have S4 : MSt w1 w4 g (progM [] []) { a0 with uA := none, uc := 0 } :=
    ⟨b4, e4, hg0, hP.names, hP.consts, hP.sorts, hP.tots, hP.l1, hP.l2, hP.l4, hP.l5, OwnK.nil _ _, by rw [show a0.dA = none from hdA, show a0.dc = 0 from hdc]; exact OwnK.nil _ _, New.none _, by rw [show a0.dA = none from hdA]; exact New.none _, fun k h => (ownB_none k h).elim, fun h => (ownB_none _ h), by rw [show a0.dA = none from hdA]; exact ownB_none _⟩
  clear hw4 b4 b3
  have hm1 : (if (12 : Int) < (k : Int) then (12 : Int) else (k : Int)) = ((min k 12 : Nat) : Int) := by split <;> omega
  rw [hm1]
  refine ⟨fun x u => ∃ i : Nat, x = (i : Int) ∧ i ≤ min k 12 ∧ ∃ a, MSt w1 u g (progM ((List.range i).map curM) []) a, fun x _ => ((12 : Int) - x).toNat, ⟨0, rfl, by omega, _, S4⟩, ?_⟩
  clear S4 e4 e3 hm1
  rintro _ u ⟨i, rfl, hi, a, S⟩
  refine brd (fun hlt => ?_) (fun hge => ?_)
  · repeat (first | refine ⟨_, Blk.cell (S.blk) (by rfl), ?_⟩ | refine ⟨_, _, _, Blk.cell (S.blk) (by rfl), ?_⟩)
    rw [wi _ (by omega) (by omega), w8 _ (by omega) (by omega)]
    intro g1 v1 f1
    have hI : Imm KB NoB v1 (some ⟨g1, 0, none⟩) [(97 + i).toUInt8] := f1.imm (fun h => h) KB_pos rfl (by simp [maxLen]) (by
      intro j b hb
      rcases j with _ | j
      · simp only [List.getElem?_cons_zero, Option.some.injEq] at hb
        subst hb
        show [Value.int .u8 (97 + (i : Int))] = [u8 (97 + i).toUInt8]
        rw [← toUInt8_int (by omega)]
        congr 2
      · simp at hb)
    refine ⟨_, _, to_str bt_u8 hI 1, by simp [ByteArray.size], ?_⟩
    intro g2 v2 f2
    have S1 := S.mono f1.ext
    obtain ⟨B, nn, d, v3, hr, hnn, hnd, hst, hset⟩ := S1.pushU (by simp [progM]; omega) (curM i) f2
    refine ⟨B, nn, d, v3, hr, hst, fun v4 hv4 => ?_⟩
    have S2 := hset nn (Nat.le_refl _) v4 hv4
    have hcl : (progM ((List.range i).map curM) []).curs = (List.range i).map curM := rfl
    rw [wi ((i : Int) + 1) (by omega) (by omega)]
    refine ⟨⟨i + 1, rfl, by omega, { a with uA := B, uc := d }, ?_⟩, by dsimp only; omega⟩
    have hc : ((progM ((List.range i).map curM) []).curs ++ [curM i]).take nn = (List.range (i + 1)).map curM := by
      rw [List.range_succ, List.map_append, hcl]
      exact List.take_of_length_le (by rw [hnn, hcl]; simp)
    have hp : { progM ((List.range i).map curM) [] with curs := ((progM ((List.range i).map curM) []).curs ++ [curM i]).take nn } = progM ((List.range (i + 1)).map curM) [] := by rw [hc]; rfl
    rw [← hp]
    exact S2
  obtain rfl : i = min k 12 := by omega
  repeat (first | refine ⟨_, Blk.cell (S.blk) (by rfl), ?_⟩ | refine ⟨_, _, _, Blk.cell (S.blk) (by rfl), ?_⟩)
  intro g1 v1 f1
  obtain ⟨B, nn, d, v2, hr, hnn, hnd, hst, hset⟩ := S.pushU (by simp [progM]; omega) curU f1
  have hcl : (progM ((List.range (min k 12)).map curM) []).curs = (List.range (min k 12)).map curM := rfl
  rw [hcl, List.length_map, List.length_range] at hnn
  refine ⟨B, nn, d, v2, hr, ?_⟩
  have hm2 : (if (12 : Int) < (if (1 : Int) > (k : Int) then (1 : Int) else (k : Int)) then (12 : Int) else if (1 : Int) > (k : Int) then (1 : Int) else (k : Int)) = ((min (max k 1) 12 : Nat) : Int) := by
    split
    · omega
    · split <;> omega
  rw [hm2, cutAt_zero, Int.toNat_natCast, Nat.sub_zero, Nat.sub_zero]
  refine ⟨⟨by omega, by omega⟩, ?_⟩
  refine ⟨?_, fun v3 hv3 => ?_⟩
  · have h5 : stOK ((⟨g, 0, none⟩ : Addr).add 5) 0 [.slice B nn d] v2 := hst
    exact h5
  have S2 := hset (min (max k 1) 12) (by omega) v3 hv3
  have hp : { progM ((List.range (min k 12)).map curM) [] with curs := ((progM ((List.range (min k 12)).map curM) []).curs ++ [curU]).take (min (max k 1) 12) } = progM (cursM k) [] := rfl
  rw [hp] at S2
  clear hp hcl hst hset hr hv3 hm2 hge S f1
  generalize hcs : cursM k = cs at *
  refine ⟨fun x u => ∃ i : Nat, x = (i : Int) ∧ i ≤ k ∧ ∃ a, MSt w1 u g (progM cs ((List.range i).map (insA k))) a, fun x _ => ((k : Int) - x).toNat, ⟨0, rfl, by omega, _, S2⟩, ?_⟩
  clear S2
  rintro _ u ⟨i, rfl, hi, a, S⟩
  refine brd (fun hlt => ?_) (fun hge => ?_)
  · repeat (first | refine ⟨_, Blk.cell (S.blk) (by rfl), ?_⟩ | refine ⟨_, _, _, Blk.cell (S.blk) (by rfl), ?_⟩)
    have ht : Int.tmod (i : Int) 12 = ((i % 12 : Nat) : Int) := by rw [Int.tmod_eq_emod_of_nonneg (by omega)]; omega
    rw [ht, wi (2 * (k : Int)) (by omega) (by omega), wi (2 * (k : Int) - i) (by omega) (by omega), wi ((i : Int) + 1) (by omega) (by omega)]
    refine ⟨by decide, ?_⟩
    intro g2 v2 f2
    obtain ⟨B, nn, d, v3, hr, hst, hset⟩ := S.pushC (by simp [progM]; omega) (insA k i) f2
    refine ⟨B, nn, d, v3, hr, hst, fun v4 hv4 => ⟨⟨i + 1, rfl, by omega, { a with dA := B, dc := d }, ?_⟩, by dsimp only; omega⟩⟩
    have S2 := hset v4 hv4
    have hc : (progM cs ((List.range i).map (insA k))).code ++ [insA k i] = (List.range (i + 1)).map (insA k) := by rw [List.range_succ, List.map_append]; rfl
    rw [hc] at S2
    exact S2
  obtain rfl : i = k := by omega
  refine ⟨fun x u => ∃ m : Nat, x = (i : Int) - 1 - m ∧ m ≤ i ∧ ∃ a, MSt w1 u g (progM cs ((List.range i).map (insA i) ++ ((List.range i).reverse.map insB).take m)) a, fun x _ => (x + 1).toNat, ?_, ?_⟩
  · rw [wi ((i : Int) - 1) (by omega) (by omega)]
    exact ⟨0, by omega, by omega, a, by rw [List.take_zero, List.append_nil]; exact S⟩
  clear S
  rintro _ u ⟨m, rfl, hm, a, S⟩
  have hrl : ((List.range i).reverse.map insB).length = i := by simp
  refine brd (fun hlt => ?_) (fun hge => ?_)
  · repeat (first | refine ⟨_, Blk.cell (S.blk) (by rfl), ?_⟩ | refine ⟨_, _, _, Blk.cell (S.blk) (by rfl), ?_⟩)
    have hj : ∃ j : Nat, (i : Int) - 1 - m = (j : Int) ∧ j = i - 1 - m := ⟨i - 1 - m, by omega, rfl⟩
    obtain ⟨j, hj, hj2⟩ := hj
    rw [hj]
    have ht : Int.tmod (j : Int) 12 = ((j % 12 : Nat) : Int) := by rw [Int.tmod_eq_emod_of_nonneg (by omega)]; omega
    rw [ht, wi ((j : Int) + 1) (by omega) (by omega), wi ((j : Int) - 1) (by omega) (by omega)]
    refine ⟨by decide, ?_⟩
    intro g2 v2 f2
    obtain ⟨B, nn, d, v3, hr, hst, hset⟩ := S.pushC (by simp [progM]; omega) (insB j) f2
    refine ⟨B, nn, d, v3, hr, hst, fun v4 hv4 => ⟨⟨m + 1, by omega, by omega, { a with dA := B, dc := d }, ?_⟩, by dsimp only; omega⟩⟩
    have S2 := hset v4 hv4
    have hc : (progM cs ((List.range i).map (insA i) ++ ((List.range i).reverse.map insB).take m)).code ++ [insB j] = (List.range i).map (insA i) ++ ((List.range i).reverse.map insB).take (m + 1) := by
      rw [pre_take (l := (List.range i).reverse.map insB) (by omega), ← List.append_assoc]
      congr 2
      simp [hj2]
    rw [hc] at S2
    exact S2
  obtain rfl : m = i := by omega
  rw [List.take_of_length_le (by omega)] at S
  repeat (first | refine ⟨_, Blk.cell (S.blk) (by rfl), ?_⟩ | refine ⟨_, _, _, Blk.cell (S.blk) (by rfl), ?_⟩)
  intro g2 v2 f2
  obtain ⟨B, nn, d, v3, hr, hst, hset⟩ := S.pushC (by simp [progM]; omega) insH f2
  refine ⟨B, nn, d, v3, hr, hst, fun v4 hv4 => ?_⟩
  have S5 : ∃ a, MSt w1 v4 g (progM cs (codeM m)) a := ⟨_, hset v4 hv4⟩
  clear S hset hr hst hv4 f2
  have fin : ∀ u, Ext w u → CallsV Tryd.prog 8 #[] u fun v w' => ∃ x, v = .bool x ∧ (Value.bool x = .bool true ∧ Ext w w') := fun u e => by
    refine (awake_spec (hT.ext e)).mono ?_
    rintro _ u1 ⟨rfl, e1⟩
    exact ⟨_, rfl, rfl, e.trans' e1⟩
  have hmade : madeP m cr = progM cs (if cr && decide (2 ≤ m) then codeX m else codeM m) := by rw [← hcs]; rfl
  refine ⟨fun u => ∃ a, MSt w1 u g (madeP m cr) a, ?_, ?_⟩
  · rintro u ⟨a, S⟩
    repeat (first | refine ⟨_, Blk.cell (S.blk) (by rfl), ?_⟩ | refine ⟨_, _, _, Blk.cell (S.blk) (by rfl), ?_⟩)
    have eu := e1.trans' S.ext
    refine (Loops_spec S.pim (hT.ext eu)).mono ?_
    rintro _ v ⟨A, c, rfl, hc, hI, ev⟩
    have ew := eu.trans' ev
    obtain ⟨ok1, ok2⟩ := made_ok m hk16 cr
    generalize (loopsP (madeP m cr)).1 = l at *
    generalize (loopsP (madeP m cr)).2 = er at *
    refine ⟨_, _, _, _, rfl, fun q => q = v ∧ ¬ (12 < m ∨ (cr = true ∧ 2 ≤ m)), ?_, ?_⟩
    · rintro q ⟨hq, hno⟩
      obtain rfl : v = q := hq.symm
      obtain ⟨o1, o2, o3⟩ := ok2 hno
      refine brn (fun h => absurd o1 h) (fun _ => brn (fun h => absurd (by rw [o2]) h) (fun _ => ?_))
      refine ⟨fun x q => ∃ i : Nat, i ≤ l.length ∧ x = (i : Int) ∧ Ext v q, fun x _ => ((l.length : Int) - x).toNat, ⟨0, by omega, rfl, .refl _ _⟩, ?_⟩
      rintro _ q ⟨i, hil, rfl, eq⟩
      refine brd (fun hlt => ?_) (fun _ => fin q (ew.trans' eq))
      have hlt : i < l.length := by omega
      have hx := List.getElem?_eq_getElem hlt
      generalize l[i] = x at *
      obtain ⟨p1, p2, p3, p4⟩ := o3 i x hx
      obtain ⟨ad, hA, hcell⟩ := lp_imm (hI.ext (by decide) eq) hx
      refine ⟨ad, hA, ⟨by omega, by omega⟩, ?_⟩
      repeat (first | refine ⟨_, (hcell q (.refl _ _)) _ _ (by rfl), ?_⟩ | refine ⟨_, _, _, (hcell q (.refl _ _)) _ _ (by rfl), ?_⟩)
      intro g5 v5 f5
      refine ⟨f5.blk.stOK (lpC x) 0 (by simp), fun v6 hv6 => ?_⟩
      obtain ⟨b6, q6⟩ := set0 f5.blk hv6 rfl
      have e6 : Ext q v6 := f5.ext.trans q6 (fun _ _ h => h) (fun k hk e => by have := f5.ge; omega)
      rw [wi ((i : Int) - 1) (by omega) (by omega), wi (2 * (m : Int)) (by omega) (by omega), wi (2 * (m : Int) - 1) (by omega) (by omega), wi (2 * (m : Int) - 1 - (i : Int)) (by omega) (by omega), wi ((i : Int) + 1) (by omega) (by omega)]
      repeat (first | refine ⟨_, Blk.cell (b6) (by rfl), ?_⟩ | refine ⟨_, _, _, Blk.cell (b6) (by rfl), ?_⟩)
      refine brn (fun h => absurd p3 h) (fun _ => ?_)
      repeat (first | refine ⟨_, Blk.cell (b6) (by rfl), ?_⟩ | refine ⟨_, _, _, Blk.cell (b6) (by rfl), ?_⟩)
      refine brn (fun h => absurd p4 h) (fun _ => ?_)
      repeat (first | refine ⟨_, Blk.cell (b6) (by rfl), ?_⟩ | refine ⟨_, _, _, Blk.cell (b6) (by rfl), ?_⟩)
      refine brn (fun h => absurd p1 h) (fun _ => ?_)
      repeat (first | refine ⟨_, Blk.cell (b6) (by rfl), ?_⟩ | refine ⟨_, _, _, Blk.cell (b6) (by rfl), ?_⟩)
      refine brn (fun h => absurd p2 h) (fun _ => ?_)
      exact ⟨⟨i + 1, by omega, rfl, eq.trans' e6⟩, by dsimp only; omega⟩
    · refine brd (fun h12 => brd (fun _ => fin v ew) (fun h => absurd (ok1 (.inl (by omega))) h)) (fun h12 => ?_)
      refine br (fun hcr => brd (fun h2 => brd (fun _ => fin v ew) (fun h => absurd (ok1 (.inr ⟨hcr, by omega⟩)) h)) (fun h2 => ⟨rfl, ?_⟩)) (fun hcr => ⟨rfl, ?_⟩)
      · rintro (h | ⟨_, h⟩) <;> omega
      · rintro (h | ⟨h, _⟩)
        · omega
        · rw [hcr] at h; cases h
  · obtain ⟨a, S⟩ := S5
    refine br (fun hcr => brd (fun h2 => ?_) (fun h2 => ⟨a, by rw [hmade, hcr, decide_eq_false (by omega : ¬ 2 ≤ m)]; exact S⟩)) (fun hcr => ⟨a, by rw [hmade, hcr]; exact S⟩)
    have h2 : 2 ≤ m := by omega
    have hcl : (codeM m).length = 2 * m + 1 := by simp [codeM]; omega
    have hcode : (progM cs (codeM m)).code = codeM m := rfl
    have hcl2 : (progM cs (codeM m)).code.length = 2 * m + 1 := hcl
    have kd : Ext v4 v4.drew := Fr.drew NoB v4
    have Sd := S.mono kd
    obtain ⟨b, hA, hset, _⟩ := Sd.setI (k := m) (by omega)
    have hgm := S.get (k := m) (by omega) hA
    have hgm1 := S.get (k := m + 1) (by omega) hA
    rw [hcode] at hgm hgm1
    rw [wi ((m : Int) + 1) (by omega) (by omega), wi ((m : Int) - 1) (by omega) (by omega), wi ((m : Int) - 2) (by omega) (by omega), wi ((m : Int) + 1 + 1) (by omega) (by omega)]
    have t1 : Int.toNat ((m : Int) + 1) = m + 1 := by omega
    have t2 : Int.toNat ((m : Int) - 1) = m - 1 := by omega
    have t3 : Int.toNat ((m : Int) - 2) = m - 2 := by omega
    rw [t1, t2, t3, Int.toNat_natCast]
    have kb : ∀ u, Ext v4 u → Blk u g (pcs (progM cs (codeM m)) a) := fun u e => S.blk.ext e
    refine ⟨fun u => Ext v4 u, kd, _, _, _, fun u e => (kb u e).cell rfl, fun u => Blk u g (pcs (progM cs (codeM m)) a), kb _ kd, _, _, _, fun u e => e.cell rfl, fun u => Ext v4 u, kd, _, _, _, fun u e => (kb u e).cell rfl, _, hA, ⟨by omega, by omega⟩, fun u => Ext v4 u, kd, ?_⟩
    repeat (first | refine ⟨_, fun u e => (hgm1) u e _ _ (by rfl), ?_⟩ | refine ⟨_, _, _, fun u e => (hgm1) u e _ _ (by rfl), ?_⟩)
    refine ⟨fun u => Blk u g (pcs (progM cs (codeM m)) a), kb _ kd, _, _, _, fun u e => e.cell rfl, _, hA, ⟨by omega, by omega⟩, fun u => Ext v4 u, kd, ?_⟩
    repeat (first | refine ⟨_, fun u e => (hgm) u e _ _ (by rfl), ?_⟩ | refine ⟨_, _, _, fun u e => (hgm) u e _ _ (by rfl), ?_⟩)
    obtain ⟨st1, set1⟩ := hset ((codeM m).getD (m + 1) I0)
    refine ⟨_, hA, ⟨by omega, by omega⟩, st1, fun w5 hw5 => ?_⟩
    obtain ⟨S5, f5⟩ := set1 w5 hw5
    clear hw5 st1 set1 hset
    have hb5 : Blk w5 g (pcs (progM cs (codeM m)) a) := Sd.blk.keep f5 Sd.gd
    refine ⟨hb5, hb5, _, hA, ⟨by omega, by omega⟩, ?_⟩
    obtain ⟨b', hA', hset, _⟩ := S5.setI (k := m + 1) (by show m + 1 < ((codeM m).set m _).length; rw [List.length_set]; omega)
    rw [hA] at hA'; cases hA'
    obtain ⟨st1, set1⟩ := hset ((codeM m).getD m I0)
    refine ⟨st1, fun w6 hw6 => ?_⟩
    obtain ⟨S6, f6⟩ := set1 w6 hw6
    clear hw6 st1 set1 hset S5 f5 f6 Sd hgm hgm1 kb kd S
    have hl6 : (((codeM m).set m ((codeM m).getD (m + 1) I0)).set (m + 1) ((codeM m).getD m I0)).length = 2 * m + 1 := by rw [List.length_set, List.length_set]; exact hcl
    have S6 : MSt w1 w6 g (progM cs (((codeM m).set m ((codeM m).getD (m + 1) I0)).set (m + 1) ((codeM m).getD m I0))) a := S6
    generalize hL : (((codeM m).set m ((codeM m).getD (m + 1) I0)).set (m + 1) ((codeM m).getD m I0)) = L at *
    have kd : Ext w6 w6.drew := Fr.drew NoB w6
    have Sd := S6.mono kd
    obtain ⟨b', hA', _, hset⟩ := Sd.setI (k := m - 1) (by show m - 1 < L.length; omega)
    rw [hA] at hA'; cases hA'
    obtain ⟨st1, set1⟩ := hset ((m : Int) + 1 + 1)
    have hLp : (progM cs L).code.length = 2 * m + 1 := hl6
    refine ⟨fun u => Ext w6 u, kd, _, _, _, fun u e => (S6.blk.ext e).cell rfl, fun u => Blk u g (pcs (progM cs L) a), Sd.blk, _, _, _, fun u e => e.cell rfl, _, hA, ⟨by omega, by omega⟩, st1, fun w7 hw7 => ?_⟩
    obtain ⟨S7, f7⟩ := set1 w7 hw7
    clear hw7 st1 set1 hset
    have hbl : Blk w7 g (pcs (progM cs L) a) := Sd.blk.keep f7 Sd.gd
    refine ⟨hbl, _, hA, ⟨by omega, by omega⟩, ?_⟩
    obtain ⟨b', hA', _, hset⟩ := S7.setI (k := m - 2) (by show m - 2 < (L.set (m - 1) _).length; rw [List.length_set]; omega)
    rw [hA] at hA'; cases hA'
    obtain ⟨st1, set1⟩ := hset ((m : Int) + 1)
    refine ⟨st1, fun w8 hw8 => ?_⟩
    obtain ⟨S8, f8⟩ := set1 w8 hw8
    refine ⟨a, ?_⟩
    rw [hmade, hcr, decide_eq_true h2]
    have hX : codeX m = (L.set (m - 1) { L.getD (m - 1) I0 with b := (m : Int) + 1 + 1 }).set (m - 2) { (L.set (m - 1) { L.getD (m - 1) I0 with b := (m : Int) + 1 + 1 }).getD (m - 2) I0 with b := (m : Int) + 1 } := by
      rw [← hL]; rfl
    show MSt w1 w8 g (progM cs (codeX m)) a
    rw [hX]
    exact S8
end Go.Proofs.YtabfhckjinejfaaDoor
/- From what a call does to the given statement: the law answered true, and of what was there nothing turned. -/
set_option linter.unusedVariables false
set_option linter.unusedSimpArgs false
namespace Go.Sx
open Go.ChangeShapes Go.WideShapes Go.ChangeAt Go.RowKit
theorem Ext.below {w w' : World} (h : Ext w w') : Below w.heap.size w w' := ⟨h.os, h.tape, h.output, h.size, fun k hk => h.block k hk (fun h => h)⟩
section
variable {H : Type} {enc : TypeId × Value → H} {P : Program}
theorem trodAll_stays (hl : laidOutB P = true) {w w' : World} {sp : Nat → Bool} (hb : Below w.heap.size w w') : ∀ {ts : List TypeId} {vs : List Value} {ds : List (DataW H)} {ps : List MemPlace},
    (∀ t ∈ ts, P.readableRec t = true ∧ t < P.types.size) → DataW.TrodAll enc P w 0 (fun _ => true) true ts vs ds ps → (∀ p ∈ ps, p.block < w.heap.size) → (∀ p ∈ ps, sp p.block = true) → DataW.TrodAll enc P w' 0 sp true ts vs ds ps
  | [], [], [], _, _, h, _, _ => h
  | _ :: _, _ :: _, _ :: _, _, hT, ⟨p, q, h1, h2, e⟩, hlt, hs =>
    ⟨p, q, WideElems.Trod_stays hl (hT _ (List.mem_cons.2 (.inl rfl))).1 (hT _ (List.mem_cons.2 (.inl rfl))).2 h1 (fun x hx => hb.same (hlt x (by rw [e]; exact List.mem_append_left _ hx))) (fun x hx => hs x (by rw [e]; exact List.mem_append_left _ hx)),
      trodAll_stays hl hb (fun t ht => hT t (List.mem_cons.2 (.inr ht))) h2 (fun x hx => hlt x (by rw [e]; exact List.mem_append_right _ hx)) (fun x hx => hs x (by rw [e]; exact List.mem_append_right _ hx)), e⟩

theorem post_law {f : Func} {s : ChangeSpec} {apart fresh handsOn again : Bool} {W W' : World} {args : Array Value} {ds gs : List (DataW H)} {before : List MemPlace}
    (hW : DataW.Whole enc P f.params.toList s.vars apart W args.toList ds gs before) (hv : s.vars = []) (hfn : s.fn H (ds ++ gs) = { results := [.lit (.bool true)], args := ds })
    (hl : laidOutB P = true) (hT : ∀ t ∈ f.params.toList, P.readableRec t = true ∧ t < P.types.size) {tb : TypeId} (hres : f.resultTypes = #[tb]) (htb : P.underlying tb = some .bool) (e : Ext W W') :
    s.post enc P f apart fresh handsOn again W args (.bool true) W' := by
  have hW' := hW
  obtain ⟨p, q, hA, hV, hb, hz, hn⟩ := hW
  rw [hv] at hV
  obtain ⟨rfl, rfl⟩ := trodVars_none hV
  rw [List.append_nil] at hb
  subst hb
  have hlt : ∀ x ∈ before, x.block < W.heap.size := fun x hx => by simpa using hW'.lt x hx
  have hargs : ∀ sp : Nat → Bool, (∀ x ∈ before, sp x.block = true) → DataW.TrodAll enc P W' 0 sp true f.params.toList args.toList (s.fn H (ds ++ [])).args before := by
    intro sp hsp
    rw [hfn]
    exact trodAll_stays hl e.below hT hA hlt hsp
  have hr : ∀ (b : Nat) (sp : Nat → Bool) (hd : Bool), DataW.TrodAll enc P W' b sp hd f.resultTypes.toList ((Value.bool true).resultList f.resultTypes.size) (s.fn H (ds ++ [])).results [] := by
    intro b sp hd
    rw [hfn, hres]
    exact trodAll_cons_mk (shut_bool htb _) trodAll_mk0
  have hvars : ∀ sp : Nat → Bool, DataW.TrodVars enc P W' sp s.vars (s.fn H (ds ++ [])).vars [] := by
    intro sp
    rw [hfn, hv]
    exact rfl
  have hold : ∀ x ∈ before, (fun b => decide (b < W.heap.size)) x.block = true := fun x hx => by simpa using hlt x hx
  refine ⟨ds, [], before, [], before, [], by simpa using hW', hr _ _ _, hargs _ hold, hvars _, World.keptBut_mono (fun x hx => ⟨hx, .inr (.inl hx)⟩) (e.below.frame _), fun _ => ⟨?_, _, _, ([] ++ before) ++ [], ⟨[] ++ before, [], trodAll_append (hargs _ (fun _ _ => rfl)) (hr _ _ _), hvars _, rfl, ?_, ?_⟩, ?_⟩⟩
  · exact ok_one (by rw [hres]) rfl (okWide_bool_mk htb _)
  · intro b off hp
    have hp' : MemPlace.cell b off ∈ before := by simpa using hp
    rw [e.below.frozen (p := ⟨b, off, none⟩) (hlt _ hp')]
    exact hz b off (by simpa using hp')
  · intro ha
    have := hn ha
    simpa using this
  · intro x hx _
    simpa using hx
end
end Go.Sx
/- An argument that reads as data, as the engine's own kinds of memory. -/
set_option linter.unusedVariables false
set_option linter.unusedSimpArgs false
namespace Go.Sx
open Go.ChangeShapes Go.WideShapes Go.ChangeAt Go.RowKit
/-- what reads as data of type t is of kind K -/
def Opens {α : Type} (P : Program) (t : TypeId) (K : Kd α) (good : α → Prop) : Prop :=
  ∀ {H : Type} (enc : TypeId × Value → H) (w : World) (fuel : Nat) (cs : List Value) (x : DataW H × List MemPlace), DataW.trod enc P w 0 (fun _ => true) true fuel t cs = some x → ∃ a, K.rep NoB w a cs ∧ good a
section
variable {P : Program}
theorem opens_u8 {t : TypeId} (h : P.underlying t = some (.int .u8)) : Opens P t Kd.u8 (fun _ => True) := by
  intro H enc w fuel cs x hx
  obtain ⟨n, rfl, _, hw⟩ := DataW.trod_int h hx
  have hb : 0 ≤ n ∧ n ≤ 255 := by simpa [Lit.wf, IntKind.min, IntKind.max, IntKind.signed, IntKind.bits] using hw
  refine ⟨n.toNat.toUInt8, ?_, trivial⟩
  show [Value.int .u8 n] = [u8 n.toNat.toUInt8]
  rw [← toUInt8_int (by omega), Int.toNat_of_nonneg hb.1]
theorem opens_int {t : TypeId} {k : IntKind} (h : P.underlying t = some (.int k)) : Opens P t (Kd.int k) (fun n => (Lit.int k n).wf = true) := by
  intro H enc w fuel cs x hx
  obtain ⟨n, rfl, _, hw⟩ := DataW.trod_int h hx
  exact ⟨n, rfl, hw⟩
theorem opens_str {t : TypeId} (h : P.underlying t = some .string) : Opens P t Kd.str (fun s => s.size ≤ maxLen) := by
  intro H enc w fuel cs x hx
  obtain ⟨s, rfl, _, hs⟩ := DataW.trod_string h hx
  exact ⟨s, rfl, hs⟩
theorem opens_slice {α : Type} {K : Kd α} {t e : TypeId} {good : α → Prop} (ht : P.underlying t = some (.slice e)) (hc : P.cellsOf e = K.size) (hz : 0 < K.size) (he : Opens P e K good) :
    Opens P t (Kd.slice K hz) (fun l => l.length ≤ maxLen ∧ ∀ a ∈ l, good a) := by
  intro H enc w fuel cs x hx
  rcases Go.Deep.open_slice ht hx with ⟨rfl, _⟩ | ⟨a, len, cap, m, n, D, Pl, rfl, _, hl, hm, hmm, _, hel⟩
  · exact ⟨[], ⟨none, 0, rfl, Nat.le_refl _, Imm.nil K _ _ _⟩, by simp, by simp⟩
  · rw [if_pos rfl] at hmm
    subst hmm
    have hex : ∀ i : Fin len, ∃ b, ∃ cs', w.cells? 0 (a.add (i.val * K.size)) K.size = some cs' ∧ K.rep NoB w b cs' ∧ good b := fun i => by
      obtain ⟨cs', h1, h2⟩ := hel i.val (Nat.lt_of_lt_of_le i.isLt hl)
      obtain ⟨b, hb, hg⟩ := he enc w n cs' _ h2
      rw [hc] at h1
      exact ⟨b, cs', h1, hb, hg⟩
    let f : Fin len → α := fun i => Classical.choose (hex i)
    have hf : ∀ i, ∃ cs', w.cells? 0 (a.add (i.val * K.size)) K.size = some cs' ∧ K.rep NoB w (f i) cs' ∧ good (f i) := fun i => Classical.choose_spec (hex i)
    refine ⟨List.ofFn f, ⟨some a, m, by rw [List.length_ofFn], by rw [List.length_ofFn]; exact hl, ?_⟩, by rw [List.length_ofFn]; omega, ?_⟩
    · intro i b hi
      have hlt : i < len := by have := (List.getElem?_eq_some_iff.1 hi).1; rwa [List.length_ofFn] at this
      have hb : f ⟨i, hlt⟩ = b := by simpa [List.getElem?_ofFn, hlt] using hi
      obtain ⟨cs', h1, h2, _⟩ := hf ⟨i, hlt⟩
      rw [hb] at h2
      refine ⟨a, rfl, fun h => h, cs', h2, fun j v hj => ?_⟩
      obtain ⟨_, hlen, hcell⟩ := World.cells?_some h1
      have hjl : j < K.size := by rw [← hlen]; exact (List.getElem?_eq_some_iff.1 hj).1
      rw [← add_add, hcell j hjl]
      exact hj
    · intro b hb
      obtain ⟨i, rfl⟩ := List.mem_ofFn.1 hb
      obtain ⟨_, _, _, hg⟩ := hf i
      exact hg

/-- an argument that is a slice -/
theorem arg_slice {α : Type} {K : Kd α} {H : Type} {enc : TypeId × Value → H} {W : World} {r : Reach} {base : Nat} {t e : TypeId} {good : α → Prop} {v : Value} {d : DataW H} {ps : List MemPlace} (ht : P.underlying t = some (.slice e)) (hc : P.cellsOf e = K.size) (hz : 0 < K.size) (he : Opens P e K good)
    (hval : Value.okWide P W r base t v) (h : DataW.Trod enc P W 0 (fun _ => true) true t v d ps) : ∃ A c l, v = .slice A l.length c ∧ l.length ≤ c ∧ l.length ≤ maxLen ∧ Imm K NoB W A l ∧ ∀ a ∈ l, good a := by
  obtain ⟨A, n, c, rfl⟩ := okWide_slice ht hval
  obtain ⟨fuel, hf⟩ := h
  obtain ⟨l, ⟨A', c', he', hl, hi⟩, hm, hg⟩ := opens_slice ht hc hz he enc W fuel _ _ hf
  have : Value.slice A n c = .slice A' l.length c' := by simpa [Value.cells] using he'
  cases this
  exact ⟨A, c, l, rfl, hl, hm, hi, hg⟩
theorem int_range {k : IntKind} {x : Int} (h : (Lit.int k x).wf = true) : k.min ≤ x ∧ x ≤ k.max := by simpa [Lit.wf] using h
theorem i64_range {x : Int} (h : (Lit.int .i64 x).wf = true) : -9223372036854775808 ≤ x ∧ x ≤ 9223372036854775807 := by
  simpa [Lit.wf, IntKind.min, IntKind.max, IntKind.signed, IntKind.bits] using h
theorem u64_nat {x : Int} (h : (Lit.int .u64 x).wf = true) : ∃ n : Nat, x = (n : Int) ∧ n < 18446744073709551616 := by
  have hx : 0 ≤ x ∧ x ≤ 18446744073709551615 := by simpa [Lit.wf, IntKind.min, IntKind.max, IntKind.signed, IntKind.bits] using h
  exact ⟨x.toNat, by omega, by omega⟩
theorem u16_nat {x : Int} (h : (Lit.int .u16 x).wf = true) : ∃ n : Nat, x = (n : Int) ∧ n < 65536 := by
  have hx : 0 ≤ x ∧ x ≤ 65535 := by simpa [Lit.wf, IntKind.min, IntKind.max, IntKind.signed, IntKind.bits] using h
  exact ⟨x.toNat, by omega, by omega⟩
theorem u8_nat {x : Int} (h : (Lit.int .u8 x).wf = true) : ∃ n : Nat, x = (n : Int) ∧ n < 256 := by
  have hx : 0 ≤ x ∧ x ≤ 255 := by simpa [Lit.wf, IntKind.min, IntKind.max, IntKind.signed, IntKind.bits] using h
  exact ⟨x.toNat, by omega, by omega⟩
theorem opens_bool {t : TypeId} (h : P.underlying t = some .bool) : Opens P t Kd.bool (fun _ => True) := by
  intro H enc w fuel cs x hx
  obtain ⟨b, rfl, _⟩ := DataW.trod_bool h hx
  exact ⟨b, rfl, trivial⟩
/-- a struct's fields -/
def sfs (P : Program) (t : TypeId) : Array Field := match P.underlying t with | some (.struct fs) => fs | _ => #[]
theorem opens_fields {t : TypeId} (ht : P.underlying t = some (.struct (sfs P t))) {H : Type} {enc : TypeId × Value → H} {w : World} {fuel : Nat} {cs : List Value} {x : DataW H × List MemPlace} (h : DataW.trod enc P w 0 (fun _ => true) true fuel t cs = some x) :
    cs.length = P.cellsOf t ∧ ∀ {α : Type} (i : Nat) {ft : TypeId} {off : Nat} {K : Kd α} {good : α → Prop}, ((sfs P t)[i]?).map (fun f => (f.type, f.offset)) = some (ft, off) → P.cellsOf ft = K.size → Opens P ft K good → ∃ a, K.rep NoB w a ((cs.drop off).take K.size) ∧ good a := by
  obtain ⟨xs, n, _, rfl, hl, hlen, hf⟩ := DataW.trod_struct ht h
  refine ⟨hl, fun {α} i {ft off K good} hi hc ho => ?_⟩
  cases hg : (sfs P t)[i]? with
  | none => simp [hg] at hi
  | some f =>
    simp [hg] at hi
    obtain ⟨rfl, rfl⟩ := hi
    have h1 := hf i f hg
    have hlt : i < xs.length := by rw [hlen]; exact (Array.getElem?_eq_some_iff.1 hg).1
    rw [List.getElem?_eq_getElem hlt] at h1
    rw [hc] at h1
    exact ho enc w n _ _ h1
theorem okWide_array {w : World} {r : Reach} {base n : Nat} {t e : TypeId} {v : Value} (ht : P.underlying t = some (.array n e)) (h : Value.okWide P w r base t v) : ∃ cs, v = .agg cs ∧ cs.size = P.cellsOf t := by
  unfold Value.okWide at h
  rw [ht] at h
  cases v <;> simp at h
  exact ⟨_, rfl, h.1⟩
/-- two flags, as an array -/
theorem arg_flags2 {H : Type} {enc : TypeId × Value → H} {W : World} {r : Reach} {base : Nat} {t e : TypeId} {v : Value} {d : DataW H} {ps : List MemPlace} (ht : P.underlying t = some (.array 2 e)) (he : P.underlying e = some .bool) (hc : P.cellsOf e = 1) (hc2 : P.cellsOf t = 2)
    (hval : Value.okWide P W r base t v) (h : DataW.Trod enc P W 0 (fun _ => true) true t v d ps) : ∃ a b, v = .agg #[.bool a, .bool b] := by
  obtain ⟨cs, rfl, hs⟩ := okWide_array ht hval
  obtain ⟨fuel, hf⟩ := h
  obtain ⟨xs, m, _, _, hl, hlen, hx⟩ := DataW.trod_array ht hf
  rw [hc2] at hs
  rw [hc] at hx
  obtain ⟨l⟩ := cs
  match l, hs, xs, hlen with
  | [c0, c1], _, [x0, x1], _ =>
    obtain ⟨a, ha, _⟩ := DataW.trod_bool he (show DataW.trod enc P W 0 (fun _ => true) true m e [c0] = some x0 from hx 0 (by decide))
    obtain ⟨b, hb, _⟩ := DataW.trod_bool he (show DataW.trod enc P W 0 (fun _ => true) true m e [c1] = some x1 from hx 1 (by decide))
    cases ha; cases hb
    exact ⟨a, b, rfl⟩
end
end Go.Sx
/- Layer 3: an argument of values. -/
set_option linter.unusedVariables false
namespace Go.Proofs.YtabfhckjinejfaaDoor
open Go Go.Sx R1
theorem opens_V : Opens Tryd.prog 67 KV good := by
  intro H enc w fuel cs x hx
  obtain ⟨hl, hf⟩ := opens_fields (by kernel_rfl) hx
  obtain ⟨k, hk, gk⟩ := hf 0 (ft := 65) (off := 0) (K := Kd.int .u8) (by kernel_rfl) (by kernel_rfl) (opens_int (by kernel_rfl))
  obtain ⟨n, hn, gn⟩ := hf 1 (ft := 2) (off := 1) (K := Kd.int .i64) (by kernel_rfl) (by kernel_rfl) (opens_int (by kernel_rfl))
  obtain ⟨s, hs, gs⟩ := hf 2 (ft := 9) (off := 2) (K := Kd.str) (by kernel_rfl) (by kernel_rfl) (opens_str (by kernel_rfl))
  have hl3 : cs.length = 3 := hl.trans (by kernel_rfl)
  match cs, hl3 with
  | [a, b, c], _ =>
    have hk : [a] = [.int .u8 k] := hk
    have hn : [b] = [.int .i64 n] := hn
    have hs : [c] = [.string s] := hs
    obtain ⟨m, rfl, hm⟩ := u8_nat gk
    exact ⟨⟨(m : Int), n, s⟩, by cases hk; cases hn; cases hs; rfl, ⟨by dsimp only; omega, by dsimp only; omega⟩, i64_range gn, gs⟩
theorem opens_flag : Opens Tryd.prog 4 Kd.bool (fun _ => True) := opens_bool (by kernel_rfl)
end Go.Proofs.YtabfhckjinejfaaDoor
/- Layer 15: an argument that is a program. -/
set_option linter.unusedVariables false
set_option linter.unusedSimpArgs false
namespace Go.Proofs.YtabfhckjinejfaaDoor
open Go Go.Sx R1 K15
def isI (x : Int) : Prop := -9223372036854775808 ≤ x ∧ x ≤ 9223372036854775807
def gCur (c : Cur) : Prop := c.name.size ≤ maxLen
def gSrt (s : Srt) : Prop := s.desc.length ≤ maxLen ∧ isI s.cols
def gTot (t : Tot) : Prop := t.fn.size ≤ maxLen
def gIns (i : Ins) : Prop := (0 ≤ i.op ∧ i.op < 256) ∧ isI i.a ∧ isI i.b ∧ isI i.c ∧ isI i.d
theorem opens_Cur : Opens Tryd.prog 43 KCur gCur := by
  intro H enc w fuel cs x hx
  obtain ⟨hl, hf⟩ := opens_fields (by kernel_rfl) hx
  obtain ⟨a, ha, g1⟩ := hf 0 (ft := 9) (off := 0) (K := Kd.str) (by kernel_rfl) (by kernel_rfl) (opens_str (by kernel_rfl))
  obtain ⟨b, hb, _⟩ := hf 1 (ft := 4) (off := 1) (K := Kd.bool) (by kernel_rfl) (by kernel_rfl) (opens_bool (by kernel_rfl))
  obtain ⟨c, hc, _⟩ := hf 2 (ft := 4) (off := 2) (K := Kd.bool) (by kernel_rfl) (by kernel_rfl) (opens_bool (by kernel_rfl))
  have hl3 : cs.length = 3 := hl.trans (by kernel_rfl)
  match cs, hl3 with
  | [x, y, z], _ =>
    have ha : [x] = [.string a] := ha
    have hb : [y] = [.bool b] := hb
    have hc : [z] = [.bool c] := hc
    exact ⟨⟨a, b, c⟩, by cases ha; cases hb; cases hc; rfl, g1⟩
theorem opens_Tot : Opens Tryd.prog 69 KTot gTot := by
  intro H enc w fuel cs x hx
  obtain ⟨hl, hf⟩ := opens_fields (by kernel_rfl) hx
  obtain ⟨a, ha, g1⟩ := hf 0 (ft := 9) (off := 0) (K := Kd.str) (by kernel_rfl) (by kernel_rfl) (opens_str (by kernel_rfl))
  obtain ⟨b, hb, _⟩ := hf 1 (ft := 4) (off := 1) (K := Kd.bool) (by kernel_rfl) (by kernel_rfl) (opens_bool (by kernel_rfl))
  have hl3 : cs.length = 2 := hl.trans (by kernel_rfl)
  match cs, hl3 with
  | [x, y], _ =>
    have ha : [x] = [.string a] := ha
    have hb : [y] = [.bool b] := hb
    exact ⟨⟨a, b⟩, by cases ha; cases hb; rfl, g1⟩
theorem opens_Srt : Opens Tryd.prog 64 KSrt gSrt := by
  intro H enc w fuel cs x hx
  obtain ⟨hl, hf⟩ := opens_fields (by kernel_rfl) hx
  obtain ⟨a, ha, g1, _⟩ := hf 0 (ft := 50) (off := 0) (K := Kd.slice Kd.bool (by decide)) (by kernel_rfl) (by kernel_rfl) (opens_slice (by kernel_rfl) (by kernel_rfl) (by decide) (opens_bool (t := 4) (by kernel_rfl)))
  obtain ⟨b, hb, g2⟩ := hf 1 (ft := 3) (off := 1) (K := Kd.int .i64) (by kernel_rfl) (by kernel_rfl) (opens_int (by kernel_rfl))
  obtain ⟨c, hc, _⟩ := hf 2 (ft := 4) (off := 2) (K := Kd.bool) (by kernel_rfl) (by kernel_rfl) (opens_bool (by kernel_rfl))
  have hl3 : cs.length = 3 := hl.trans (by kernel_rfl)
  match cs, hl3 with
  | [x, y, z], _ =>
    obtain ⟨A, d, ha, hd, hi⟩ := ha
    have ha : [x] = [.slice A a.length d] := ha
    have hb : [y] = [.int .i64 b] := hb
    have hc : [z] = [.bool c] := hc
    exact ⟨⟨a, b, c⟩, ⟨A, d, by cases ha; cases hb; cases hc; rfl, hd, hi⟩, g1, i64_range g2⟩
theorem opens_Ins : Opens Tryd.prog 46 KIns gIns := by
  intro H enc w fuel cs x hx
  obtain ⟨hl, hf⟩ := opens_fields (by kernel_rfl) hx
  obtain ⟨a, ha, g1⟩ := hf 0 (ft := 44) (off := 0) (K := Kd.int .u8) (by kernel_rfl) (by kernel_rfl) (opens_int (by kernel_rfl))
  obtain ⟨b, hb, g2⟩ := hf 1 (ft := 3) (off := 1) (K := Kd.int .i64) (by kernel_rfl) (by kernel_rfl) (opens_int (by kernel_rfl))
  obtain ⟨c, hc, g3⟩ := hf 2 (ft := 3) (off := 2) (K := Kd.int .i64) (by kernel_rfl) (by kernel_rfl) (opens_int (by kernel_rfl))
  obtain ⟨d, hd, g4⟩ := hf 3 (ft := 3) (off := 3) (K := Kd.int .i64) (by kernel_rfl) (by kernel_rfl) (opens_int (by kernel_rfl))
  obtain ⟨e, he, g5⟩ := hf 4 (ft := 3) (off := 4) (K := Kd.int .i64) (by kernel_rfl) (by kernel_rfl) (opens_int (by kernel_rfl))
  have hl3 : cs.length = 5 := hl.trans (by kernel_rfl)
  match cs, hl3 with
  | [x, y, z, u, v], _ =>
    have ha : [x] = [.int .u8 a] := ha
    have hb : [y] = [.int .i64 b] := hb
    have hc : [z] = [.int .i64 c] := hc
    have hd : [u] = [.int .i64 d] := hd
    have he : [v] = [.int .i64 e] := he
    obtain ⟨m, rfl, hm⟩ := u8_nat g1
    exact ⟨⟨(m : Int), b, c, d, e⟩, by cases ha; cases hb; cases hc; cases hd; cases he; rfl, ⟨by dsimp only; omega, by dsimp only; omega⟩, i64_range g2, i64_range g3, i64_range g4, i64_range g5⟩
/-- what an argument is, by its type alone -/
structure gProg (p : Prog) : Prop where
  ver : isI p.ver
  regs : isI p.regs
  binds : isI p.binds
  names : ∀ s ∈ p.names, s.size ≤ maxLen
  consts : ∀ v ∈ p.consts, good v
  curs : ∀ c ∈ p.curs, gCur c
  sorts : ∀ s ∈ p.sorts, gSrt s
  tots : ∀ t ∈ p.tots, gTot t
  code : ∀ i ∈ p.code, gIns i
theorem okWide_struct {P : Program} {w : World} {r : Reach} {base : Nat} {t : TypeId} {fs : Array Field} {v : Value} (ht : P.underlying t = some (.struct fs)) (h : Value.okWide P w r base t v) : ∃ cs, v = .agg cs ∧ cs.size = P.cellsOf t := by
  unfold Value.okWide at h
  rw [ht] at h
  cases v <;> simp at h
  exact ⟨_, rfl, h.1⟩
set_option maxRecDepth 10000 in
theorem arg_prog {H : Type} {enc : TypeId × Value → H} {W : World} {r : Reach} {base : Nat} {v : Value} {d : DataW H} {ps : List MemPlace}
    (hval : Value.okWide Tryd.prog W r base 29 v) (h : DataW.Trod enc Tryd.prog W 0 (fun _ => true) true 29 v d ps) : ∃ p a, v = pagg p a ∧ PIm W p a ∧ gProg p := by
  obtain ⟨arr, rfl, hs⟩ := okWide_struct (fs := sfs Tryd.prog 29) (by kernel_rfl) hval
  obtain ⟨fuel, hf⟩ := h
  obtain ⟨hl, hf⟩ := opens_fields (by kernel_rfl) hf
  obtain ⟨ver, h0, g0⟩ := hf 0 (ft := 3) (off := 0) (K := Kd.int .i64) (by kernel_rfl) (by kernel_rfl) (opens_int (by kernel_rfl))
  obtain ⟨regs, h1, g1⟩ := hf 1 (ft := 3) (off := 1) (K := Kd.int .i64) (by kernel_rfl) (by kernel_rfl) (opens_int (by kernel_rfl))
  obtain ⟨binds, h2, g2⟩ := hf 2 (ft := 3) (off := 2) (K := Kd.int .i64) (by kernel_rfl) (by kernel_rfl) (opens_int (by kernel_rfl))
  obtain ⟨names, ⟨A3, c3, h3, k3, i3⟩, m3, g3⟩ := hf 3 (ft := 22) (off := 3) (K := Kd.slice Kd.str KStr_pos) (by kernel_rfl) (by kernel_rfl) (opens_slice (by kernel_rfl) (by kernel_rfl) KStr_pos (opens_str (t := 9) (by kernel_rfl)))
  obtain ⟨consts, ⟨A4, c4, h4, k4, i4⟩, m4, g4⟩ := hf 4 (ft := 23) (off := 4) (K := Kd.slice KV KV_pos) (by kernel_rfl) (by kernel_rfl) (opens_slice (by kernel_rfl) (by kernel_rfl) KV_pos opens_V)
  obtain ⟨curs, ⟨A5, c5, h5, k5, i5⟩, m5, g5⟩ := hf 5 (ft := 24) (off := 5) (K := Kd.slice KCur KCur_pos) (by kernel_rfl) (by kernel_rfl) (opens_slice (by kernel_rfl) (by kernel_rfl) KCur_pos opens_Cur)
  obtain ⟨sorts, ⟨A6, c6, h6, k6, i6⟩, m6, g6⟩ := hf 6 (ft := 25) (off := 6) (K := Kd.slice KSrt KSrt_pos) (by kernel_rfl) (by kernel_rfl) (opens_slice (by kernel_rfl) (by kernel_rfl) KSrt_pos opens_Srt)
  obtain ⟨tots, ⟨A7, c7, h7, k7, i7⟩, m7, g7⟩ := hf 7 (ft := 26) (off := 7) (K := Kd.slice KTot KTot_pos) (by kernel_rfl) (by kernel_rfl) (opens_slice (by kernel_rfl) (by kernel_rfl) KTot_pos opens_Tot)
  obtain ⟨code, ⟨A8, c8, h8, k8, i8⟩, m8, g8⟩ := hf 8 (ft := 27) (off := 8) (K := Kd.slice KIns KIns_pos) (by kernel_rfl) (by kernel_rfl) (opens_slice (by kernel_rfl) (by kernel_rfl) KIns_pos opens_Ins)
  have hl9 : arr.size = 9 := hs.trans (by kernel_rfl)
  obtain ⟨cs⟩ := arr
  have hl9 : cs.length = 9 := hl9
  match cs, hl9 with
  | [x0, x1, x2, x3, x4, x5, x6, x7, x8], _ =>
    have h0 : [x0] = [.int .i64 ver] := h0
    have h1 : [x1] = [.int .i64 regs] := h1
    have h2 : [x2] = [.int .i64 binds] := h2
    have h3 : [x3] = [.slice A3 names.length c3] := h3
    have h4 : [x4] = [.slice A4 consts.length c4] := h4
    have h5 : [x5] = [.slice A5 curs.length c5] := h5
    have h6 : [x6] = [.slice A6 sorts.length c6] := h6
    have h7 : [x7] = [.slice A7 tots.length c7] := h7
    have h8 : [x8] = [.slice A8 code.length c8] := h8
    exact ⟨⟨ver, regs, binds, names, consts, curs, sorts, tots, code⟩, ⟨A3, c3, A4, c4, A5, c5, A6, c6, A7, c7, A8, c8⟩, by cases h0; cases h1; cases h2; cases h3; cases h4; cases h5; cases h6; cases h7; cases h8; rfl,
      ⟨i3, i4, i5, i6, i7, i8, m3, m4, m5, m6, m7, m8, k8⟩, ⟨i64_range g0, i64_range g1, i64_range g2, g3, g4, g5, g6, g7, g8⟩⟩
end Go.Proofs.YtabfhckjinejfaaDoor
