/- The document's answer for layer 3: Put, part, Key. -/
import Derived.Test.YtakmlaliglmnmaaF2
import Derived.Test.YtakmlaliglmnmaaR7Pure
set_option linter.unusedVariables false
set_option linter.unusedSimpArgs false
namespace Go.Proofs.Ytakmlaliglmnmaa
open Go Go.Sx R1

theorem body_int {v : V} (hr : right v = true) (h1 : v.k = 1) : body v = hi (v.n % 18446744073709551616).toNat (wide v.n) := by
  have hv := right1 hr h1
  unfold body; rw [if_pos h1]
  have : sb v.s = [] := by rw [hv]; rfl
  rw [this, List.append_nil]
theorem body_str {v : V} (h1 : v.k ≠ 1) : body v = sb v.s := by unfold body; rw [if_neg h1]; rfl
theorem PutR_spec {w : World} {A : Option Addr} {c n : Nat} {l : List V} (hn : n = l.length) (h : Imm KV NoB w A l) (hl : l.length ≤ maxLen) (hg : ∀ v ∈ l, good v) :
    CallsV Try.prog 40 #[.slice A n c] w fun r w' => Tells w (putR l) r w' := by
  subst hn
  refine cardindexref03_Put.calls okay ?_
  unfold cardindexref03_Put.W
  refine (rightR_spec rfl h hl).mono ?_
  rintro _ w1 ⟨rfl, e1⟩
  refine ⟨_, rfl, ?_⟩
  unfold putR
  refine brn (fun hr => ?_) (fun hr => ?_)
  · rw [if_pos hr]; exact Tells.nil e1 _
  rw [if_neg (by rw [hr]; simp)]
  obtain ⟨h200, hall⟩ := rightRow_zero hr
  rw [List.all_eq_true] at hall
  have h1 := h.ext KV_pos e1
  rw [wu _ (by omega) (by omega)]
  refine (Varint_spec w1 l.length (by omega)).mono ?_
  rintro _ w2 ⟨X0, cX0, rfl, oX0, e2, nX0⟩
  refine ⟨_, _, _, rfl, ?_⟩
  have e02 := e1.trans' e2
  have hsl : ∀ v ∈ l, (B1.enc (sort v)).length ≤ 10 := fun v hv => B1.enc_le_ten (sort_lt v (right_size (hall v hv)))
  have hbl : ∀ v ∈ l, (body v).length ≤ 65544 := fun v hv => by have := body_length v; have := right_size (hall v hv); omega
  have hE := B1.enc_le_ten (m := l.length) (by omega)
  have hS : ∀ j, ((l.take j).flatMap fun v => B1.enc (sort v)).length ≤ 2000 := fun j => by
    have := flat_le (f := fun v => B1.enc (sort v)) (M := 10) (l.take j) (fun v hv => hsl v (List.mem_of_mem_take hv))
    rw [List.length_take] at this; omega
  have hB : ∀ j, ((l.take j).flatMap body).length ≤ 13108800 := fun j => by
    have := flat_le (f := body) (M := 65544) (l.take j) (fun v hv => hbl v (List.mem_of_mem_take hv))
    rw [List.length_take] at this; omega
  refine ⟨fun X m c Y q d i u => ∃ j : Nat, j ≤ l.length ∧ i = (j : Int) ∧ m = (B1.enc l.length ++ (l.take j).flatMap fun v => B1.enc (sort v)).length ∧ q = ((l.take j).flatMap body).length ∧
      OwnB u X c (B1.enc l.length ++ (l.take j).flatMap fun v => B1.enc (sort v)) ∧ OwnB u Y d ((l.take j).flatMap body) ∧ Ext w u ∧ New w X ∧ New w Y ∧ ∀ k, ownB X k → ¬ ownB Y k,
    fun _ _ _ _ _ _ i _ => (l.length - i).toNat, ⟨0, by omega, rfl, by simp, by simp, by simpa using oX0, OwnB.nil _, e02, nX0.ext e1, New.none _, fun k _ hk => ownB_none k hk⟩, ?_⟩
  rintro X _ cX Y _ cY _ u ⟨j, hj, rfl, rfl, rfl, oX, oY, e, nX, nY, dis⟩
  have hSj := hS j
  have hBj := hB j
  refine brd (fun hlt => ?_) (fun hge => ?_)
  · have hjl : j < l.length := by omega
    obtain ⟨ad, hA, q1, q2, q3⟩ := itemV0 (h.ext KV_pos e) (x := (j : Int)) (by omega) (by omega)
    refine ⟨ad, hA, ⟨by omega, by omega⟩, _, q1, _, q2, _, q3, ?_⟩
    rw [Int.toNat_natCast]
    have hm := getD_mem hjl
    have hrv := hall _ hm
    have hgv := hg _ hm
    have hsl' := hsl _ hm
    have hbl' := hbl _ hm
    have hs1 := flat_snoc (f := fun v => B1.enc (sort v)) l j hjl
    have hb1 := flat_snoc (f := body) l j hjl
    generalize l.getD j V0 = v at *
    intro g u1 f1
    refine ⟨f1.blk.stOK [_, _, _] 0 (by simp), ?_⟩
    intro u2 hu2
    have b2 : Blk u2 g [.int .u8 v.k, .int .i64 v.n, .string v.s] := by rw [hu2]; exact Blk.setAll (o := 0) [_, _, _] 0 f1.blk
    have e12 : Ext u u2 := by rw [hu2]; exact f1.ext.setAll f1.ge _ _
    have eu2 := e.trans' e12
    have hgu := f1.ge
    have hgX : ∀ k, ownB X k → k < u.heap.size := Own.lt oX
    have hgY : ∀ k, ownB Y k → k < u.heap.size := Own.lt oY
    refine ⟨fun Z q d k u3 => k = ((sort v : Nat) : Int) ∧ q = ((l.take j).flatMap body ++ body v).length ∧ OwnB u3 X cX (B1.enc l.length ++ (l.take j).flatMap fun v => B1.enc (sort v)) ∧ OwnB u3 Z d ((l.take j).flatMap body ++ body v) ∧ Ext w u3 ∧ New w Z ∧ ∀ k, ownB X k → ¬ ownB Z k, ?_, ?_⟩
    · rintro Z _ d _ u3 ⟨rfl, rfl, oX3, oZ3, e3, nZ, dis3⟩
      refine (UintR_spec rfl oX3.imm0 (sort v) (sort_lt v (right_size hrv)) (by rw [List.length_append]; omega)).mono ?_
      rintro _ u4 ⟨X', cX', rfl, oX', e4, nX'⟩
      refine ⟨_, _, _, rfl, ?_⟩
      rw [wi _ (by omega) (by omega)]
      rw [List.append_assoc, ← hs1] at oX' ⊢
      rw [← hb1] at oZ3 ⊢
      exact ⟨⟨j + 1, by omega, rfl, rfl, rfl, oX', oZ3.ext e4, e3.trans' e4, nX'.ext e3, nZ, fun k hk hz => absurd (Own.lt oZ3 k hz) (Nat.not_lt.2 (nX' k hk))⟩, by dsimp only; omega⟩
    · have fin : ∀ {u3 u4 : World} {Z : Option Addr} {d : Nat}, Ext u2 u3 → OwnB u4 Z d ((l.take j).flatMap body ++ body v) → Grew Y Z u3 u4 → (OwnB u4 X cX (B1.enc l.length ++ (l.take j).flatMap fun v => B1.enc (sort v)) ∧ OwnB u4 Z d ((l.take j).flatMap body ++ body v) ∧ Ext w u4 ∧ New w Z ∧ ∀ k, ownB X k → ¬ ownB Z k) := by
        intro u3 u4 Z d e23 oZ g4
        have e03 := eu2.trans' e23
        have eu3 := e12.trans' e23
        refine ⟨(oX.ext eu3).keep g4.fr dis, oZ, g4.ext e03 nY, g4.new e03 nY, fun k hk hz => ?_⟩
        rcases g4.sub k hz with h | h
        · exact dis k hk h
        · have := hgX k hk; have := eu3.size; omega
      have str : v.k ≠ 1 → ∃ Z d u4, RunsTo Try.prog (Builtin.append_ #[76, 9] 76 #[.slice Y ((l.take j).flatMap body).length cY, .string v.s]) u2 (.slice Z ((l.take j).flatMap body ++ body v).length d) u4 ∧ OwnB u4 Z d ((l.take j).flatMap body ++ body v) ∧ Grew Y Z u2 u4 := by
        intro hk
        obtain ⟨Z, d, u4, hr4, oZ, g4⟩ := appendBs (oY.ext e12) (Src.sb u2 v.s) (by rw [sb_length]; have := right_size hrv; omega) 76 isS
        rw [← body_str hk] at hr4 oZ
        exact ⟨Z, d, u4, hr4, oZ, g4⟩
      have hz := right_size hrv
      refine ⟨_, b2.cell rfl, brd (fun k1 => ⟨_, b2.cell rfl, ?_⟩) (fun k1 => brd (fun k3 => ⟨_, b2.cell rfl, _, b2.cell rfl, ?_⟩) (fun k3 => brd (fun k2 => ⟨_, b2.cell rfl, _, b2.cell rfl, ?_⟩) (fun k2 => ?_)))⟩
      · have hn := hgv.2.1
        refine (wideR_spec u2 v.n hn.1 hn.2).same ⟨_, rfl, fun z => Ext u2 z, Fr.drew NoB u2, _, fun z hz => (b2.ext hz).cell rfl, _, fun z hz => (b2.ext hz).cell rfl, ?_⟩
        refine (wideR_spec u2.drew v.n hn.1 hn.2).same ⟨_, rfl, Fr.drew NoB u2, ?_⟩
        have w8' := wide_le v.n
        refine (number_spec u2.drew v.n (wide v.n) w8').mono ?_
        rintro _ u3 ⟨N, cN, rfl, oN, e3, nN⟩
        have e23 : Ext u2 u3 := Ext.trans' (Fr.drew NoB u2) e3
        refine ⟨_, _, _, rfl, ?_⟩
        obtain ⟨Z, d, u4, hr4, oZ, g4⟩ := appendBs (oY.ext (e12.trans' e23)) (Src.bytes (P := Try.prog) (c := cN) oN.imm0) (by rw [hi_length]; omega) 76 isB
        have hbe := (body_int hrv k1).symm
        have hle := congrArg (fun z => ((l.take j).flatMap body ++ z).length) hbe
        rw [hle] at hr4
        rw [hbe] at oZ
        refine ⟨_, _, _, _, hr4, ?_, rfl, fin e23 oZ g4⟩
        rw [wu _ (by omega) (by omega)]
        unfold sort; rw [if_pos k1]
      · obtain ⟨Z, d, u4, hr4, oZ, g4⟩ := str k1
        refine ⟨_, _, _, _, hr4, ?_, rfl, fin (.refl _ _) oZ g4⟩
        rw [wi (2 * (v.s.size : Int)) (by omega) (by omega), wi _ (by omega) (by omega), wu _ (by omega) (by omega)]
        unfold sort; rw [if_neg k1, if_pos k3]; omega
      · obtain ⟨Z, d, u4, hr4, oZ, g4⟩ := str k1
        refine ⟨_, _, _, _, hr4, ?_, rfl, fin (.refl _ _) oZ g4⟩
        rw [wi (2 * (v.s.size : Int)) (by omega) (by omega), wi _ (by omega) (by omega), wu _ (by omega) (by omega)]
        unfold sort; rw [if_neg k1, if_neg k3, if_pos k2]; omega
      · have k0 : v.k = 0 := by rcases right_kind hrv with h | h | h | h; exact h; exact absurd h k1; exact absurd h k2; exact absurd h k3
        have hb : body v = [] := by rw [body_str k1, right0 hrv k0]; rfl
        have hs : sort v = 0 := by unfold sort; rw [if_neg k1, if_neg k3, if_neg k2]
        rw [hb, hs, List.append_nil]
        exact ⟨rfl, rfl, oX.ext e12, oY.ext e12, eu2, nY, dis⟩
  · obtain rfl : j = l.length := by omega
    rw [List.take_length] at oX oY hSj hBj ⊢
    obtain ⟨Z, d, u4, hr4, oZ, g4⟩ := appendBs oX (Src.bytes (P := Try.prog) (c := cY) oY.imm0) (by rw [List.length_append]; omega) 76 isB
    have hP : B1.enc l.length ++ (l.flatMap fun v => B1.enc (sort v)) ++ l.flatMap body = putL l := rfl
    rw [hP] at hr4 oZ
    have e4 := g4.ext e nX
    have n4 := g4.new e nX
    refine ⟨_, _, _, _, hr4, brd (fun hb => ?_) (fun hb => ?_)⟩
    · rw [if_pos (by omega)]; exact Tells.nil e4 _
    · rw [if_neg (by omega)]; exact ⟨Z, d, rfl, oZ, e4, n4⟩
end Go.Proofs.Ytakmlaliglmnmaa
