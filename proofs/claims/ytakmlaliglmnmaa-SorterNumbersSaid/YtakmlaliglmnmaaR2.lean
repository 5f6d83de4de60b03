/- Layer 3 (record): numbers as bytes, a value's part of a key, keys. -/
import Derived.Test.YtakmlaliglmnmaaR1
set_option linter.unusedVariables false
set_option linter.unusedSimpArgs false
namespace Go.Proofs.Ytakmlaliglmnmaa
open Go Go.Sx R1

theorem high_spec {w : World} {A : Option Addr} {c : Nat} {l : List UInt8} (h : OwnB w A c l) (m k : Nat) (hm : m < 18446744073709551616) (hk : k ≤ 8) (hb : l.length + 8 ≤ 140737488355328) :
    CallsV Try.prog 62 #[.slice A l.length c, .int .u64 (m : Int), .int .i64 (k : Int)] w fun v w' => ∃ A' c', v = .slice A' (l ++ hi m k).length c' ∧ OwnB w' A' c' (l ++ hi m k) ∧ Grew A A' w w' := by
  refine record_high.calls okay ?_
  unfold record_high.W
  have hsplit : ∀ j, j ≤ k → ∃ r, hi m k = r ++ hi m j ∧ r.length = k - j := by
    intro j hj
    induction k with
    | zero => obtain rfl : j = 0 := by omega
              exact ⟨[], rfl, rfl⟩
    | succ k ih =>
      rcases Nat.lt_or_ge k j with h | h
      · obtain rfl : j = k + 1 := by omega
        exact ⟨[], rfl, by simp⟩
      · obtain ⟨r, hr, hl⟩ := ih (by omega) h
        exact ⟨(m / 256 ^ k % 256).toUInt8 :: r, by rw [hi, hr]; rfl, by simp [hl]; omega⟩
  refine ⟨fun A1 n1 c1 x w1 => ∃ (j : Nat) (r : List UInt8), j ≤ k ∧ x = (j : Int) - 1 ∧ hi m k = r ++ hi m j ∧ r.length = k - j ∧ n1 = (l ++ r).length ∧ OwnB w1 A1 c1 (l ++ r) ∧ Grew A A1 w w1, fun _ _ _ x _ => (x + 1).toNat,
    ⟨k, [], by omega, by rw [wi _ (by omega) (by omega)], by simp, by simp, by simp, by simpa using h, .refl _ _⟩, ?_⟩
  rintro A1 _ c1 _ w1 ⟨j, r, hj, rfl, hr, hrl, rfl, ho, hg⟩
  have hlen : (l ++ r).length = l.length + (k - j) := by simp [hrl]
  refine brd (fun h0 => ?_) (fun h0 => ?_)
  · obtain ⟨i, rfl⟩ : ∃ i, j = i + 1 := ⟨j - 1, by omega⟩
    have e1 : IntKind.i64.wrap (8 * (((i + 1 : Nat) : Int) - 1)) = ((8 * i : Nat) : Int) := by rw [wi _ (by omega) (by omega)]; omega
    rw [e1, Int.toNat_natCast, show min (8 * i) 64 = 8 * i by omega, show ((2 : Int) ^ (8 * i)) = ((256 ^ i : Nat) : Int) by rw [show (256 : Nat) = 2 ^ 8 from rfl, ← Nat.pow_mul]; simp, Int.fdiv_eq_ediv_of_nonneg _ (Int.natCast_nonneg _), ← Int.natCast_ediv]
    have hw : IntKind.u8.wrap ((m / 256 ^ i : Nat) : Int) = ((m / 256 ^ i % 256 : Nat) : Int) := by rw [IntKind.wrap_u8]; omega
    rw [hw, toUInt8_int (Nat.mod_lt _ (by decide))]
    obtain ⟨A2, c2, w2, hrun, ho2, hg2, _⟩ := appendB ho (m / 256 ^ i % 256).toUInt8 (by omega) 5 76
    refine ⟨by omega, A2, _, c2, w2, hrun, ?_⟩
    rw [wi _ (by omega) (by omega)]
    refine ⟨⟨i, r ++ [(m / 256 ^ i % 256).toUInt8], by omega, by omega, by rw [hr, hi]; simp, by simp [hrl]; omega, by simp; omega, by rw [← List.append_assoc]; exact ho2, hg.trans hg2⟩, by dsimp only; omega⟩
  · obtain rfl : j = 0 := by omega
    have : hi m k = r := by rw [hr]; simp [hi]
    rw [this]
    exact ⟨A1, c1, rfl, ho, hg⟩

theorem fits_shift {n : Int} (h1 : -9223372036854775808 ≤ n) (h2 : n ≤ 9223372036854775807) {k : Nat} (hk : 1 ≤ k) (hk' : k ≤ 7) :
    (Int.fdiv (IntKind.i64.wrap (n * 2 ^ min (Int.toNat (IntKind.i64.wrap (64 - IntKind.i64.wrap (8 * (k : Int))))) 64)) (2 ^ min (Int.toNat (IntKind.i64.wrap (64 - IntKind.i64.wrap (8 * (k : Int))))) 64) = n) ↔ fits n k = true := by
  have e : IntKind.i64.wrap (64 - IntKind.i64.wrap (8 * (k : Int))) = ((64 - 8 * k : Nat) : Int) := by
    rw [wi (8 * (k : Int)) (by omega) (by omega), wi _ (by omega) (by omega)]; omega
  rw [e, Int.toNat_natCast, IntKind.wrap_i64, Int.fdiv_eq_ediv_of_nonneg _ (by exact Int.le_of_lt (Int.pow_pos (by decide)))]
  unfold fits
  rw [decide_eq_true_iff]
  obtain rfl | rfl | rfl | rfl | rfl | rfl | rfl : k = 1 ∨ k = 2 ∨ k = 3 ∨ k = 4 ∨ k = 5 ∨ k = 6 ∨ k = 7 := by omega
  all_goals
    simp only [Nat.reduceMul, Nat.reduceSub, Nat.reducePow, Int.reducePow, show min 56 64 = 56 from rfl, show min 48 64 = 48 from rfl, show min 40 64 = 40 from rfl, show min 32 64 = 32 from rfl, show min 24 64 = 24 from rfl, show min 16 64 = 16 from rfl, show min 8 64 = 8 from rfl, Int.cast_ofNat_Int]
    omega
theorem wide_spec (w : World) (n : Int) (h1 : -9223372036854775808 ≤ n) (h2 : n ≤ 9223372036854775807) :
    CallsV Try.prog 63 #[.int .i64 n] w fun v w' => v = .int .i64 (wide n : Nat) ∧ w' = w := by
  refine record_wide.calls okay ?_
  unfold record_wide.W
  have e : ∀ k : Nat, k ≤ 8 → IntKind.i64.wrap (64 - IntKind.i64.wrap (8 * (k : Int))) = ((64 - 8 * k : Nat) : Int) := by
    intro k hk
    rw [wi (8 * (k : Int)) (by omega) (by omega), wi _ (by omega) (by omega)]; omega
  have fs : ∀ (k : Nat) (A B : Prop), 1 ≤ k → k ≤ 7 → (fits n k = false → A) → (fits n k = true → B) →
      (bif !decide (Int.fdiv (IntKind.i64.wrap (n * 2 ^ min (Int.toNat (IntKind.i64.wrap (64 - IntKind.i64.wrap (8 * (k : Int))))) 64)) (2 ^ min (Int.toNat (IntKind.i64.wrap (64 - IntKind.i64.wrap (8 * (k : Int))))) 64) = n) then A else B) := by
    intro k A B k1 k7 ha hb
    refine brn (fun h => ha ?_) (fun h => hb ((fits_shift h1 h2 k1 k7).1 h))
    cases hf : fits n k with
    | false => rfl
    | true => exact absurd ((fits_shift h1 h2 k1 k7).2 hf) h
  have e1 := e 1 (by omega)
  refine ⟨fun x w1 => ∃ k : Nat, 1 < k ∧ k ≤ 8 ∧ x = (k : Int) ∧ wide n = wideFrom n (8 - k) k ∧ w1 = w, fun x _ => (9 - x).toNat, ⟨?_, ?_, ?_⟩, ?_⟩
  · rw [show ((1 : Int)) = ((1 : Nat) : Int) from rfl, e1]; omega
  · rw [show ((1 : Int)) = ((1 : Nat) : Int) from rfl, e1]; omega
  · have f1 := fun A B => fs 1 A B (by decide) (by decide)
    simp only [show ((1 : Nat) : Int) = 1 from rfl] at f1
    refine f1 _ _ (fun hf => ?_) (fun hf => ⟨?_, rfl⟩)
    · exact ⟨2, by omega, by omega, by rw [wi _ (by omega) (by omega)]; rfl, by show wideFrom n 7 1 = _; rw [wideFrom, hf, if_neg (by decide)], rfl⟩
    · have : wide n = 1 := by show wideFrom n 7 1 = _; rw [wideFrom, hf, if_pos rfl]
      rw [this]; rfl
  · rintro _ w1 ⟨k, hk, hk8, rfl, hw, rfl⟩
    refine brd (fun hlt => ?_) (fun hge => ?_)
    · refine ⟨by rw [e k (by omega)]; omega, by rw [e k (by omega)]; omega, ?_⟩
      have hwk : wideFrom n (8 - k) k = if fits n k then k else wideFrom n (8 - (k + 1)) (k + 1) := by
        rw [show 8 - k = (8 - (k + 1)) + 1 by omega, wideFrom]
      rw [hwk] at hw
      refine fs k _ _ (by omega) (by omega) (fun hf => ?_) (fun hf => ⟨?_, rfl⟩)
      · rw [hf] at hw
        rw [wi _ (by omega) (by omega)]
        exact ⟨⟨k + 1, by omega, by omega, rfl, hw, rfl⟩, by dsimp only; omega⟩
      · rw [hf] at hw
        rw [show wide n = k from hw]
    · obtain rfl : k = 8 := by omega
      refine ⟨?_, rfl⟩
      rw [hw]; rfl
theorem sort_spec (w : World) (v : V) (hg : good v) (hs : v.s.size ≤ 1000000000) :
    CallsV Try.prog 61 #[.agg #[.int .u8 v.k, .int .i64 v.n, .string v.s]] w fun r w' => r = .int .u64 (sort v : Nat) ∧ Ext w w' := by
  refine record_sort.calls okay ?_
  unfold record_sort.W
  have b : Blk (w.alloc (.cells #[.int .u8 v.k, .int .i64 v.n, .string v.s] 31)) w.heap.size [.int .u8 v.k, .int .i64 v.n, .string v.s] := Blk.alloc _ _ _
  have e : Ext w (w.alloc (.cells #[.int .u8 v.k, .int .i64 v.n, .string v.s] 31)) := Fr.alloc NoB w _
  generalize w.alloc (.cells #[.int .u8 v.k, .int .i64 v.n, .string v.s] 31) = W at *
  refine ⟨_, b.cell rfl, ?_⟩
  have hwl := wide_le v.n
  unfold sort
  refine brd (fun h1 => ?_) (fun h1 => ?_)
  · rw [if_pos h1]
    refine ⟨_, b.cell rfl, (wide_spec W v.n hg.2.1.1 hg.2.1.2).same ⟨_, rfl, ?_, e⟩⟩
    rw [wu _ (by omega) (by omega)]
  rw [if_neg h1]
  refine brd (fun h1 => ?_) (fun h1 => ?_)
  · rw [if_pos h1]
    refine ⟨_, b.cell rfl, ?_, e⟩
    rw [wu (v.s.size : Int) (by omega) (by omega), wu (2 * (v.s.size : Int)) (by omega) (by omega), wu _ (by omega) (by omega)]
    rfl
  rw [if_neg h1]
  refine brd (fun h1 => ?_) (fun h1 => ?_)
  · rw [if_pos h1]
    refine ⟨_, b.cell rfl, ?_, e⟩
    rw [wu (v.s.size : Int) (by omega) (by omega), wu (2 * (v.s.size : Int)) (by omega) (by omega), wu _ (by omega) (by omega)]
    rfl
  rw [if_neg h1]
  exact ⟨rfl, e⟩

/-- the variable g holds the slice of l -/
structure Held (w : World) (g : Nat) (A : Option Addr) (c : Nat) (l : List UInt8) : Prop where
  own : OwnB w A c l
  blk : Blk w g [.slice A l.length c]
  off : ¬ ownB A g
/-- one byte more, in a variable -/
theorem Held.push {w w' : World} {g : Nat} {A A' : Option Addr} {c c' : Nat} {l l' : List UInt8} (h : Held w g A c l) (ho : OwnB w' A' c' l') (hg : Grew A A' w w') :
    ((w'.cell? ((⟨g, 0, none⟩ : Addr).add 0)).isSome = true ∧ w'.frozen? ((⟨g, 0, none⟩ : Addr).add 0) = false) ∧ Held (w'.setCell ((⟨g, 0, none⟩ : Addr).add 0) (.slice A' l'.length c')) g A' c' l' ∧
      Fr (fun k => ownB A k ∨ k = g) w (w'.setCell ((⟨g, 0, none⟩ : Addr).add 0) (.slice A' l'.length c')) := by
  have b' := h.blk.keep hg.fr h.off
  have off' : ¬ ownB A' g := fun hk => (hg.sub g hk).elim h.off (fun hge => absurd h.blk.lt (Nat.not_lt.2 hge))
  have hf : Fr (fun k => k = g) w' (w'.setCell ((⟨g, 0, none⟩ : Addr).add 0) (.slice A' l'.length c')) := Fr.setCell _ _ (.inr (by rw [add_block]))
  exact ⟨⟨by rw [b'.cell (o := 0) (i := 0) rfl]; rfl, b'.unfrozen _ _⟩, ⟨ho.keep hf (fun k hk e => off' (by rw [← e]; exact hk)), b'.set 0 0 _, off'⟩,
    hg.fr.trans hf (fun _ _ h => .inl h) (fun _ _ h => .inr h)⟩
theorem put_spec {w : World} {g : Nat} {A : Option Addr} {c : Nat} {l : List UInt8} (h : Held w g A c l) (b : UInt8) (hb : l.length + 2 ≤ 140737488355328) :
    CallsV Try.prog 83 #[.int .u8 (b.toNat : Int), .pointer (some ⟨g, 0, none⟩)] w fun r w' => r = .tuple #[] ∧ ∃ A' c', Held w' g A' c' (l ++ esc [b]) ∧ Fr (fun k => ownB A k ∨ k = g) w w' ∧ ∀ k, ownB A' k → ownB A k ∨ w.heap.size ≤ k := by
  refine record_part_1.calls okay ?_
  unfold record_part_1.W
  obtain ⟨A1, c1, w1, hr, ho, hg, _⟩ := appendB h.own b (by omega) 5 76
  have hlen : (l ++ [b]).length = l.length + 1 := by simp
  obtain ⟨hs, hh, hf⟩ := h.push ho hg
  rw [hlen] at hh hf
  refine ⟨_, _, _, h.blk.cell0 rfl, _, _, _, _, hr, hs, ?_⟩
  generalize w1.setCell ((⟨g, 0, none⟩ : Addr).add 0) (.slice A1 (l.length + 1) c1) = w2 at *
  have hbz : ((b.toNat : Int) = 0) ↔ b = 0 := by
    rw [← UInt8.toNat_inj]; simp
  refine brd (fun h0 => ?_) (fun h0 => ?_)
  · have hb0 := hbz.1 h0
    obtain ⟨A3, c3, w3, hr3, ho3, hg3, _⟩ := appendB hh.own 255 (by omega) 5 76
    have hlen3 : (l ++ [b] ++ [255]).length = (l ++ [b]).length + 1 := by simp
    obtain ⟨hs3, hh3, hf3⟩ := hh.push ho3 hg3
    rw [hlen3] at hh3 hf3
    refine ⟨_, _, _, hh.blk.cell0 rfl, _, _, _, _, hr3, hs3, rfl, A3, c3, ?_, ?_, ?_⟩
    · have : l ++ esc [b] = l ++ [b] ++ [255] := by simp [esc, hb0]
      rw [this]; exact hh3
    · refine hf.trans hf3 (fun _ _ h => h) (fun k hk h => ?_)
      rcases h with h | h
      · exact (hg.sub k h).elim .inl (fun hge => absurd hk (Nat.not_lt.2 hge))
      · exact .inr h
    · intro k hk
      rcases hg3.sub k hk with h | h
      · exact hg.sub k h
      · exact .inr (Nat.le_trans hf.size h)
  · have hb0 : ¬ b = 0 := fun h => h0 (hbz.2 h)
    refine ⟨rfl, A1, c1, ?_, hf, hg.sub⟩
    have : l ++ esc [b] = l ++ [b] := by simp [esc, hb0]
    rw [this]; exact hh
end Go.Proofs.Ytakmlaliglmnmaa
