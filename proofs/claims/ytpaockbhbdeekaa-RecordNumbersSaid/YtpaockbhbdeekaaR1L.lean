/- Layer 3: the statements' own helpers. -/
import Derived.Test.YtpaockbhbdeekaaR1
set_option linter.unusedVariables false
set_option linter.unusedSimpArgs false
namespace Go.Proofs.Ytpaockbhbdeekaa
open Go Go.Sx R1
def right3 (l : List V) (most : Int) : Bool := smallV l most 100 && l.all right
theorem right3_spec {Ω : Nat → Prop} {w : World} {A : Option Addr} {c : Nat} {l : List V} (h : Imm KV Ω w A l) (hl : l.length ≤ maxLen) (most : Int) :
    CallsV Try.prog 11 #[.slice A l.length c, .int .i64 most] w fun r w' => r = .bool (right3 l most) ∧ Ext w w' := by
  refine cardindexlaw03_right.calls okay ?_
  unfold cardindexlaw03_right.W right3
  refine (Small_spec h hl most 100).same ⟨_, rfl, ?_⟩
  simp only [maxLen] at hl
  refine brnb (fun hs => ⟨by rw [hs]; rfl, .refl _ _⟩) (fun hs => ?_)
  rw [hs, Bool.true_and]
  refine ⟨fun x w1 => ∃ j : Nat, j ≤ l.length ∧ x = (j : Int) ∧ (∀ i, i < j → right (l.getD i V0) = true) ∧ Ext w w1, fun x _ => (l.length - x).toNat, ⟨0, by omega, rfl, fun i h => by omega, .refl _ _⟩, ?_⟩
  rintro _ w1 ⟨j, hj, rfl, hall, he⟩
  refine brd (fun hlt => ?_) (fun hge => ?_)
  · obtain ⟨ad, hA, h1, h2, h3⟩ := itemV0 (h.ext KV_pos he) (x := (j : Int)) (by omega) (by omega)
    refine ⟨ad, hA, ⟨by omega, by omega⟩, _, h1, _, h2, _, h3, ?_⟩
    rw [Int.toNat_natCast]
    refine (Right_spec w1 _).mono ?_
    rintro r w2 ⟨rfl, e2⟩
    refine ⟨_, rfl, brnb (fun hr => ?_) (fun hr => ?_)⟩
    · exact ⟨by rw [all_not (by omega) hr], he.trans' e2⟩
    · rw [wi _ (by omega) (by omega)]
      exact ⟨⟨j + 1, by omega, rfl, fun i hi => if hij : i = j then by subst hij; exact hr else hall i (by omega), he.trans' e2⟩, by dsimp only; omega⟩
  · obtain rfl : j = l.length := by omega
    exact ⟨by rw [all_of hall], he⟩

/-- flags, round and round -/
def fl (l : List Bool) (n : Nat) : List Bool := (List.range n).map fun i => decide (0 < l.length) && l.getD (i % l.length) false
theorem fl_length (l : List Bool) (n : Nat) : (fl l n).length = n := by simp [fl]
theorem flags_spec {w : World} {A : Option Addr} {c : Nat} {l : List Bool} (h : Imm Kd.bool NoB w A l) (hl : l.length ≤ maxLen) (n : Nat) (hn : n ≤ 1000) :
    CallsV Try.prog 13 #[.slice A l.length c, .int .i64 (n : Int)] w fun r w' => ∃ A' c', r = .slice A' (fl l n).length c' ∧ OwnF w' A' c' (fl l n) ∧ Ext w w' ∧ New w A' := by
  refine cardindexlaw03_flags.calls okay ?_
  unfold cardindexlaw03_flags.W
  simp only [maxLen] at hl
  obtain ⟨w1, hr, ho, he⟩ := make_own slBo rfl w n (by simp [maxLen]; omega) (by omega) .i64 .i64
  refine ⟨_, _, _, _, hr, ?_⟩
  refine ⟨fun x u => ∃ j : Nat, j ≤ n ∧ x = (j : Int) ∧ OwnF u (some ⟨w.heap.size, 0, none⟩) n (fl l j ++ List.replicate (n - j) false) ∧ Ext w u, fun x _ => (n - x).toNat, ⟨0, by omega, rfl, ?_, he⟩, ?_⟩
  · unfold OwnF; simpa [fl] using ho
  rintro _ u ⟨j, hj, rfl, hoj, hu⟩
  have hlen : (fl l j ++ List.replicate (n - j) false).length = n := by simp [fl_length]; omega
  refine brd (fun hlt => ?_) (fun hge => ?_)
  · have step : ∀ b, b = (decide (0 < l.length) && l.getD (j % l.length) false) → (fl l j ++ List.replicate (n - j) false).set j b = fl l (j + 1) ++ List.replicate (n - (j + 1)) false := by
      intro b hb
      have : List.replicate (n - j) false = false :: List.replicate (n - (j + 1)) false := by
        rw [show n - j = (n - (j + 1)) + 1 by omega]; rfl
      rw [this, List.set_append_right _ _ (by rw [fl_length]; exact Nat.le_refl _), fl_length, Nat.sub_self, List.set_cons_zero]
      rw [hb]
      simp [fl, List.range_succ]
    have put : ∀ b, b = (decide (0 < l.length) && l.getD (j % l.length) false) → ∃ ad, (some ⟨w.heap.size, 0, none⟩ : Option Addr) = some ad ∧ (0 ≤ (j : Int) ∧ (j : Int) < n) ∧ ((u.cell? ((ad.add ((j : Int).toNat * 1)).add 0)).isSome = true ∧ u.frozen? ((ad.add ((j : Int).toNat * 1)).add 0) = false) ∧
        (∃ j' : Nat, j' ≤ n ∧ IntKind.i64.wrap ((j : Int) + 1) = (j' : Int) ∧ OwnF (u.setCell ((ad.add ((j : Int).toNat * 1)).add 0) (.bool b)) (some ⟨w.heap.size, 0, none⟩) n (fl l j' ++ List.replicate (n - j') false) ∧ Ext w (u.setCell ((ad.add ((j : Int).toNat * 1)).add 0) (.bool b))) ∧ ((n : Int) - IntKind.i64.wrap ((j : Int) + 1)).toNat < ((n : Int) - (j : Int)).toNat := by
      intro b hb
      obtain ⟨ad, hA, h1, h2, h3⟩ := hoj.set (x := (j : Int)) (by omega) (by omega) b
      refine ⟨ad, hA, ⟨by omega, by omega⟩, h1, ⟨j + 1, by omega, by rw [wi _ (by omega) (by omega)]; rfl, ?_, ?_⟩, ?_⟩
      · rw [← step b hb]; exact h2
      · exact hu.trans h3 (fun _ _ h => h) (fun k hk ho => by rw [ownB_some] at ho; omega)
      · rw [wi _ (by omega) (by omega)]; omega
    refine brd (fun h0 => ?_) (fun h0 => ?_)
    · have hm : Int.tmod (j : Int) (l.length : Int) = ((j % l.length : Nat) : Int) := by rw [Int.tmod_eq_emod_of_nonneg (by omega)]; rfl
      have hlt := Nat.mod_lt j (show 0 < l.length by omega)
      rw [hm]
      obtain ⟨ad, hA, hc⟩ := itemF (h.ext KBo_pos hu) (x := ((j % l.length : Nat) : Int)) (by omega) (by omega)
      refine ⟨by omega, ad, hA, ⟨by omega, by omega⟩, _, hc, ?_⟩
      rw [Int.toNat_natCast]
      exact put _ (by rw [decide_eq_true (by omega), Bool.true_and, Int.toNat_natCast])
    · exact put _ (by rw [decide_eq_false (by omega), Bool.false_and])
  · obtain rfl : j = n := by omega
    refine ⟨_, j, slice_eq (fl_length l j).symm, ?_, hu, New.self w 0 none⟩
    simpa using hoj
theorem CopyBytes_spec {Ω : Nat → Prop} {w : World} {A : Option Addr} {c : Nat} {l : List UInt8} (h : Imm KB Ω w A l) (hl : l.length ≤ 140737488355328) :
    CallsV Try.prog 16 #[.slice A l.length c] w fun r w' => ∃ A', r = .slice A' l.length l.length ∧ OwnB w' A' l.length l ∧ Ext w w' ∧ New w A' := by
  refine cardindexlow_CopyBytes.calls okay ?_
  unfold cardindexlow_CopyBytes.W
  obtain ⟨w1, hr, ho, he⟩ := make_own slB rfl w l.length (by simp [maxLen]; omega) (by omega) .i64 .i64
  refine ⟨_, _, _, _, hr, ?_⟩
  obtain ⟨w2, hr2, ho2, hf2⟩ := copy_own (ty := 3) (t2 := 27) slB ho (Src.bytes (P := Try.prog) (c := c) (h.ext KB_pos he))
  exact ⟨_, _, hr2, _, rfl, ho2, he.trans hf2 (fun _ _ h => h) (fun k hk ho => by rw [ownB_some] at ho; omega), New.self w 0 none⟩
theorem SameBytes_spec {Ω Ω' : Nat → Prop} {w : World} {A B : Option Addr} {c d : Nat} {l m : List UInt8} (h : Imm KB Ω w A l) (h' : Imm KB Ω' w B m) :
    CallsV Try.prog 15 #[.slice A l.length c, .slice B m.length d] w fun r w' => r = .bool (decide (l = m)) ∧ w' = w := by
  refine cardindexlow_SameBytes.calls okay ?_
  unfold cardindexlow_SameBytes.W
  exact ⟨_, _, to_str bt h c, _, _, to_str bt h' d, by rw [eq_str], rfl⟩
end Go.Proofs.Ytpaockbhbdeekaa
