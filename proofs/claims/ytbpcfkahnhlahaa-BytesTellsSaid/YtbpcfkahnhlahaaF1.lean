/- The document's answer for layer 1: what is written. -/
import Derived.Test.YtbpcfkahnhlahaaNestsF
import Derived.Test.YtbpcfkahnhlahaaB1
import Derived.Test.YtbpcfkahnhlahaaSxConv
import Derived.Test.YtbpcfkahnhlahaaSxBlk
set_option linter.unusedVariables false
set_option linter.unusedSimpArgs false
namespace Go.Proofs.Ytbpcfkahnhlahaa
open Go Go.Sx

/-- one byte more behind what is owned -/
theorem pushB {w w1 : World} {g : Nat} {A : Option Addr} {c : Nat} {l : List UInt8} {v : Int} {t : TypeId} (f : Fresh w g w1 [.int .u8 v] t) (h : OwnB w A c l) (b : UInt8) (hv : v = (b.toNat : Int)) (hb : l.length + 1 ≤ 140737488355328) (ty : TypeId) :
    ∃ A' c' w', RunsTo Try.prog (Builtin.append_ #[30, 30] ty #[.slice A l.length c, .slice (some ⟨g, 0, none⟩) 1 1]) w1 (.slice A' (l ++ [b]).length c') w' ∧ OwnB w' A' c' (l ++ [b]) ∧ Grew A A' w w' := by
  obtain ⟨rfl, rfl⟩ := f
  subst hv
  obtain ⟨A', c', w', hr, ho, hg, _⟩ := appendB h b hb t ty
  exact ⟨A', c', w', by rw [List.length_append]; exact hr, ho, hg⟩
/-- the j-th byte of what is read -/
theorem itemBx {Ω : Nat → Prop} {w : World} {A : Option Addr} {l : List UInt8} (h : Imm KB Ω w A l) {j : Nat} (h1 : j < l.length) :
    ∃ ad, A = some ad ∧ ∀ u, Ext w u → u.cell? (ad.add (j * 1)) = some (.int .u8 ((l.getD j 0).toNat : Int)) := by
  have hg : l[j]? = some (l.getD j 0) := by simp [List.getD, h1]
  obtain ⟨ad, hA, hn, cs, hr, hcell⟩ := h j _ hg
  have hr : cs = [u8 (l.getD j 0)] := hr
  subst hr
  exact ⟨ad, hA, fun u hu => hu.cell (fun h => h) (hcell 0 _ rfl)⟩
theorem take_sn (l : List UInt8) (j : Nat) (h : j < l.length) : l.take (j + 1) = l.take j ++ [l.getD j 0] := by
  rw [List.take_add_one]; simp [List.getD, h]
theorem pow_le (j : Nat) (h : j ≤ 9) : 0 < 128 ^ j ∧ 128 ^ j ≤ 9223372036854775808 :=
  ⟨Nat.pow_pos (by decide), Nat.le_trans (Nat.pow_le_pow_right (by decide) h) (by decide)⟩
theorem power_spec (w : World) (k : Nat) (hk : k ≤ 9) : CallsV Try.prog 28 #[.int .i64 (k : Int)] w fun r w' => r = .int .u64 ((128 ^ k : Nat) : Int) ∧ w' = w := by
  refine cardindexref01_power.calls okay ?_
  unfold cardindexref01_power.W
  refine ⟨fun x i u => ∃ j : Nat, j ≤ k ∧ i = (j : Int) ∧ x = ((128 ^ j : Nat) : Int) ∧ u = w, fun _ i _ => (k - i).toNat, ⟨0, by omega, rfl, rfl, rfl⟩, ?_⟩
  rintro _ _ u ⟨j, hj, rfl, rfl, rfl⟩
  refine brd (fun hlt => ?_) (fun hge => ?_)
  · have h1 := pow_le (j + 1) (by omega)
    have h2 : 128 ^ (j + 1) = 128 ^ j * 128 := Nat.pow_succ ..
    have h3 : ((128 ^ j : Nat) : Int) * 128 = ((128 ^ (j + 1) : Nat) : Int) := by rw [h2]; simp
    rw [wi _ (by omega) (by omega), h3, wu _ (Int.natCast_nonneg _) (by have := h1.2; omega)]
    exact ⟨⟨j + 1, by omega, rfl, rfl, rfl⟩, by dsimp only; omega⟩
  · obtain rfl : j = k := by omega
    exact ⟨rfl, rfl⟩
theorem div_u (n j : Nat) (hn : n < 18446744073709551616) : IntKind.u64.wrap (Int.tdiv (n : Int) ((128 ^ j : Nat) : Int)) = ((n / 128 ^ j : Nat) : Int) := by
  have h1 : Int.tdiv (n : Int) ((128 ^ j : Nat) : Int) = ((n / 128 ^ j : Nat) : Int) := by
    rw [Int.tdiv_eq_ediv_of_nonneg (Int.natCast_nonneg _)]; exact (Int.natCast_ediv _ _).symm
  have := Nat.div_le_self n (128 ^ j)
  rw [h1, wu _ (Int.natCast_nonneg _) (by omega)]
theorem mod_u (q : Nat) : Int.tmod (q : Int) 128 = ((q % 128 : Nat) : Int) := by
  rw [Int.tmod_eq_emod_of_nonneg (Int.natCast_nonneg _)]; rfl
/-- bytes that a call made, in memory of their own -/
def MadeB (w : World) (l : List UInt8) (r : Value) (w' : World) : Prop := ∃ A c, r = .slice A l.length c ∧ OwnB w' A c l ∧ Ext w w' ∧ New w A
theorem Varint_spec (w : World) (n : Nat) (hn : n < 18446744073709551616) : CallsV Try.prog 29 #[.int .u64 (n : Int)] w fun r w' => MadeB w (B1.enc n) r w' := by
  refine cardindexref01_Varint.calls okay ?_
  unfold cardindexref01_Varint.W
  refine ⟨fun A m c i u => ∃ (j : Nat) (l : List UInt8), j ≤ 9 ∧ i = (j : Int) ∧ m = l.length ∧ l.length = j ∧ l ++ B1.enc (n / 128 ^ j) = B1.enc n ∧ OwnB u A c l ∧ Ext w u ∧ New w A,
    fun _ _ _ i _ => (10 - i).toNat, ⟨0, [], by omega, rfl, rfl, rfl, by simp, OwnB.nil _, .refl _ _, New.none _⟩, ?_⟩
  rintro A _ c _ u ⟨j, l, hj, rfl, rfl, hl, he, ho, e, nA⟩
  refine brd (fun _ => ?_) (fun h => by omega)
  have hp := (pow_le j hj).1
  refine (power_spec u j hj).same ⟨_, rfl, by omega, by decide, ?_⟩
  have hdu := div_u n j hn
  have hq : n / 128 ^ j ≤ n := Nat.div_le_self _ _
  have hd2 : n / 128 ^ (j + 1) = n / 128 ^ j / 128 := by rw [Nat.pow_succ, Nat.div_div_eq_div_mul]
  have last : n / 128 ^ j < 128 → ∀ g w1, Fresh u g w1 [.int .u8 (IntKind.u8.wrap (Int.tmod (IntKind.u64.wrap (Int.tdiv (n : Int) ((128 ^ j : Nat) : Int))) 128))] 5 →
      ∃ x x_1 x_2, ∃ w', RunsTo Try.prog (Builtin.append_ #[30, 30] 30 #[.slice A l.length c, .slice (some ⟨g, 0, none⟩) 1 1]) w1 (.slice x x_1 x_2) w' ∧ MadeB w (B1.enc n) (.slice x x_1 x_2) w' := by
    intro hlt g w1 f
    rw [hdu, mod_u, w8 _ (by omega) (by omega)] at f
    obtain ⟨A', c', w', hr, ho', g'⟩ := pushB f ho (n / 128 ^ j).toUInt8 (by rw [B1.toUInt8_toNat (by omega), Nat.mod_eq_of_lt hlt]) (by omega) 30
    refine ⟨_, _, _, _, hr, A', c', ?_⟩
    rw [← he, B1.enc_lt hlt]
    exact ⟨rfl, ho', g'.ext e nA, g'.new e nA⟩
  refine brd (fun h9 => ?_) (fun h9 => ?_)
  · refine (power_spec u j hj).same ⟨_, rfl, by omega, ?_⟩
    refine brd (fun hge => ?_) (fun hlt => ?_)
    · rw [hdu] at hge
      intro g w1 f
      have hm : IntKind.u8.wrap (IntKind.u64.wrap (Int.tmod (IntKind.u64.wrap (Int.tdiv (n : Int) ((128 ^ j : Nat) : Int))) 128 + 128)) = ((((n / 128 ^ j) % 128 + 128).toUInt8).toNat : Int) := by
        rw [hdu, mod_u, wu _ (by omega) (by omega), w8 _ (by omega) (by omega), B1.toUInt8_toNat (by omega)]; rfl
      obtain ⟨A', c', w', hr, ho', g'⟩ := pushB f ho _ hm (by omega) 30
      refine ⟨_, _, _, _, hr, ?_⟩
      rw [wi _ (by omega) (by omega)]
      refine ⟨⟨j + 1, _, by omega, rfl, rfl, by simp [hl], ?_, ho', g'.ext e nA, g'.new e nA⟩, by dsimp only; omega⟩
      rw [hd2, ← he, B1.enc_ge (by omega : 128 ≤ n / 128 ^ j), List.append_assoc]; rfl
    · rw [hdu] at hlt
      exact last (by omega)
  · have : j = 9 := by omega
    subst this
    exact last (by have : n / 128 ^ 9 < 128 := (Nat.div_lt_iff_lt_mul (by decide)).2 (Nat.lt_of_lt_of_le hn (by decide)); exact this)
theorem behind_spec {Ω Ω' : Nat → Prop} {w : World} {A B : Option Addr} {c d n m : Nat} {a b : List UInt8} (hn : n = a.length) (hm : m = b.length) (hA : Imm KB Ω w A a) (hB : Imm KB Ω' w B b) (hl : a.length + b.length ≤ 140737488355327) :
    CallsV Try.prog 30 #[.slice A n c, .slice B m d] w fun r w' => MadeB w (a ++ b) r w' := by
  subst hn; subst hm
  refine cardindexref01_behind.calls okay ?_
  unfold cardindexref01_behind.W
  refine ⟨fun X m c i u => ∃ j : Nat, j ≤ a.length ∧ i = (j : Int) ∧ m = (a.take j).length ∧ OwnB u X c (a.take j) ∧ Ext w u ∧ New w X,
    fun _ _ _ i _ => (a.length - i).toNat, ⟨0, by omega, rfl, rfl, OwnB.nil _, .refl _ _, New.none _⟩, ?_⟩
  rintro X _ cX _ u ⟨j, hj, rfl, rfl, ho, e, nX⟩
  refine brd (fun hlt => ?_) (fun hge => ?_)
  · have hjl : j < a.length := by omega
    obtain ⟨ad, hA', hc⟩ := itemBx hA hjl
    rw [Int.toNat_natCast]
    refine ⟨ad, hA', ⟨by omega, by omega⟩, _, hc u e, ?_⟩
    intro g w1 f
    have hle : (a.take j).length ≤ j := by rw [List.length_take]; omega
    obtain ⟨A', c', w', hr, ho', g'⟩ := pushB f ho _ rfl (by omega) 30
    refine ⟨_, _, _, _, hr, ?_⟩
    rw [wi _ (by omega) (by omega)]
    rw [← take_sn a j hjl] at ho' ⊢
    exact ⟨⟨j + 1, by omega, rfl, rfl, ho', g'.ext e nX, g'.new e nX⟩, by dsimp only; omega⟩
  · obtain rfl : j = a.length := by omega
    rw [List.take_length] at ho ⊢
    refine ⟨fun X m c i u => ∃ j : Nat, j ≤ b.length ∧ i = (j : Int) ∧ m = (a ++ b.take j).length ∧ OwnB u X c (a ++ b.take j) ∧ Ext w u ∧ New w X,
      fun _ _ _ i _ => (b.length - i).toNat, ⟨0, by omega, rfl, by simp, by simpa using ho, e, nX⟩, ?_⟩
    rintro X _ cX _ u ⟨j, hj, rfl, rfl, ho, e, nX⟩
    refine brd (fun hlt => ?_) (fun hge => ?_)
    · have hjl : j < b.length := by omega
      obtain ⟨ad, hA', hc⟩ := itemBx hB hjl
      rw [Int.toNat_natCast]
      refine ⟨ad, hA', ⟨by omega, by omega⟩, _, hc u e, ?_⟩
      intro g w1 f
      have hle : (a ++ b.take j).length ≤ a.length + j := by rw [List.length_append, List.length_take]; omega
      obtain ⟨A', c', w', hr, ho', g'⟩ := pushB f ho _ rfl (by omega) 30
      refine ⟨_, _, _, _, hr, ?_⟩
      rw [wi _ (by omega) (by omega)]
      rw [List.append_assoc, ← take_sn b j hjl] at ho' ⊢
      exact ⟨⟨j + 1, by omega, rfl, rfl, ho', g'.ext e nX, g'.new e nX⟩, by dsimp only; omega⟩
    · obtain rfl : j = b.length := by omega
      rw [List.take_length] at ho ⊢
      exact ⟨X, cX, rfl, ho, e, nX⟩
theorem UintR_spec {w : World} {A : Option Addr} {c n : Nat} {l : List UInt8} (hn : n = l.length) (h : Imm KB NoB w A l) (m : Nat) (hm : m < 18446744073709551616) (hl : l.length ≤ 1000000000000) :
    CallsV Try.prog 23 #[.slice A n c, .int .u64 (m : Int)] w fun r w' => MadeB w (l ++ B1.enc m) r w' := by
  refine cardindexref01_Uint.calls okay ?_
  unfold cardindexref01_Uint.W
  refine (Varint_spec w m hm).mono ?_
  rintro _ w1 ⟨X, cX, rfl, oX, e1, nX⟩
  refine ⟨_, _, _, rfl, ?_⟩
  have := B1.enc_le_ten (m := m) hm
  refine (behind_spec hn rfl (h.ext KB_pos e1) oX.imm0 (by omega)).mono ?_
  rintro _ w2 ⟨Y, cY, rfl, oY, e2, nY⟩
  exact ⟨_, _, _, rfl, Y, cY, rfl, oY, e1.trans' e2, nY.ext e1⟩
end Go.Proofs.Ytbpcfkahnhlahaa
