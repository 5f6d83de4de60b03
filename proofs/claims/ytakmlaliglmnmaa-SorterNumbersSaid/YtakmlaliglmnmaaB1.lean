/- Layer 1 (bytes): what each Go function of the layer does. -/
import Derived.Test.YtakmlaliglmnmaaNests1
import Derived.Test.YtakmlaliglmnmaaSxLib
import Derived.Test.YtakmlaliglmnmaaB1Pure
set_option linter.unusedVariables false
set_option linter.unusedSimpArgs false
namespace Go.Proofs.Ytakmlaliglmnmaa
open Go Go.Sx
theorem okay : Okay Try.prog := ⟨by kernel_rfl, by kernel_rfl⟩
theorem slB : SlT Try.prog 76 5 1 1 [.int .u8 0] := ⟨by kernel_rfl, ⟨Try.t5, by kernel_rfl, by kernel_rfl, by kernel_rfl, .int .u8 0, by kernel_rfl, by kernel_rfl⟩, rfl, by decide⟩

theorem digit_spec (n k : Nat) (hn : n < 2 ^ 64) (hk : k < 10) (w : World) : CallsV Try.prog 84 #[.int .u64 n, .int .i64 k] w fun v w' => v = .int .u8 (B1.dig n k : Nat) ∧ w' = w := by
  refine bytes_digit.calls okay ?_
  unfold bytes_digit.W
  have h7 : IntKind.i64.wrap ((7 : Int) * k) = ((7 * k : Nat) : Int) := by rw [wi _ (by omega) (by omega)]; simp
  have hm : min (7 * k) 64 = 7 * k := by omega
  have hp : (2 : Nat) ^ (7 * k) = 128 ^ k := by rw [Nat.pow_mul]
  refine ⟨by rw [h7]; omega, by decide, ?_, rfl⟩
  rw [h7, Int.toNat_natCast, hm, show ((2 : Int) ^ (7 * k)) = ((128 ^ k : Nat) : Int) by rw [← hp]; simp, Int.fdiv_eq_ediv_of_nonneg _ (Int.natCast_nonneg _), ← Int.natCast_ediv,
    Int.tmod_eq_emod_of_nonneg (Int.natCast_nonneg _), show (128 : Int) = ((128 : Nat) : Int) from rfl, ← Int.natCast_emod, w8 _ (by omega) (by have := Nat.mod_lt (n / 128 ^ k) (show 0 < 128 by decide); omega)]
  rfl

theorem slice_eq {A : Option Addr} {n m c : Nat} (h : n = m) : Value.slice A n c = .slice A m c := by rw [h]

/-- the bytes written while the first k digits are -/
def pre (m k : Nat) : List UInt8 := (List.range k).map fun j => (B1.dig m j + 128).toUInt8
theorem pre_succ (m k : Nat) : pre m (k + 1) = pre m k ++ [(B1.dig m k + 128).toUInt8] := by simp [pre, List.range_succ]
theorem pre_len (m k : Nat) : (pre m k).length = k := by simp [pre]

theorem appendB {w : World} {A : Option Addr} {c : Nat} {l : List UInt8} (h : OwnB w A c l) (b : UInt8) (hb : l.length + 1 ≤ 140737488355328) (e : TypeId) (ty : TypeId) :
    ∃ A' c' w', RunsTo Try.prog (Builtin.append_ #[76, 76] ty #[.slice A l.length c, .slice (some ⟨w.heap.size, 0, none⟩) 1 1]) (w.alloc (.cells #[u8 b] e)) (.slice A' (l.length + 1) c') w' ∧ OwnB w' A' c' (l ++ [b]) ∧ Grew A A' w w' ∧ A' ≠ none := by
  obtain ⟨A', c', w', hr, ho, hf, hs, hn⟩ := append_one (ty := ty) slB h (cs := [u8 b]) rfl (by simp [u8, Value.oneCell']) (e' := e) (by simp [maxLen]; omega) (by omega)
  exact ⟨A', c', w', hr, by unfold OwnB; simpa using ho, ⟨hf, hs⟩, hn⟩

theorem Uint_spec {w : World} {A : Option Addr} {c : Nat} {l : List UInt8} (h : OwnB w A c l) (m : Nat) (hm : m < 2 ^ 64) (hb : l.length + 10 ≤ 140737488355328) :
    CallsV Try.prog 60 #[.slice A l.length c, .int .u64 m] w fun v w' => ∃ A' c', v = .slice A' (l ++ B1.enc m).length c' ∧ OwnB w' A' c' (l ++ B1.enc m) ∧ Grew A A' w w' ∧ A' ≠ none := by
  refine bytes_Uint.calls okay ?_
  unfold bytes_Uint.W
  refine ⟨fun t k w1 => ∃ j : Nat, j ≤ 10 ∧ k = (j : Int) ∧ t = (B1.top m j : Nat) ∧ w = w1, fun t k _ => (10 - k).toNat, ⟨0, by omega, rfl, rfl, rfl⟩, ?_⟩
  rintro _ _ _ ⟨j, hj, rfl, rfl, rfl⟩
  refine brd (fun h10 => ?_) (fun h10 => ?_)
  · refine (digit_spec m j hm (by omega) _).same ⟨_, rfl, ?_⟩
    have hw : IntKind.i64.wrap ((j : Int) + 1) = ((j + 1 : Nat) : Int) := by rw [wi _ (by omega) (by omega)]; simp
    rw [hw]
    refine brd (fun h0 => ?_) (fun h0 => ?_)
    · exact ⟨⟨j + 1, by omega, rfl, by rw [B1.top, if_pos (by omega)], rfl⟩, by dsimp only; omega⟩
    · exact ⟨⟨j + 1, by omega, rfl, by rw [B1.top, if_neg (by omega)], rfl⟩, by dsimp only; omega⟩
  · obtain rfl : j = 10 := by omega
    have ht : B1.top m 10 ≤ 9 := B1.top_le m 10
    have henc : B1.enc m = pre m (B1.top m 10) ++ [(B1.dig m (B1.top m 10)).toUInt8] := B1.enc_top 10 m (Nat.lt_trans hm (by decide)) (by decide)
    refine ⟨fun A1 n1 c1 k w1 => ∃ j : Nat, j ≤ B1.top m 10 ∧ k = (j : Int) ∧ n1 = (l ++ pre m j).length ∧ OwnB w1 A1 c1 (l ++ pre m j) ∧ Grew A A1 w w1, fun _ _ _ k _ => (10 - k).toNat,
      ⟨0, by omega, rfl, by simp [pre], by simpa [pre] using h, .refl _ _⟩, ?_⟩
    rintro A1 _ c1 _ w1 ⟨j, hj, rfl, rfl, ho, hg⟩
    have hd := B1.dig_lt m j
    have hlen : (l ++ pre m j).length = l.length + j := by simp [pre_len]
    refine brd (fun hlt => ?_) (fun hlt => ?_)
    · refine (digit_spec m j hm (by omega) _).same ⟨_, rfl, ?_⟩
      have hv : IntKind.u8.wrap (((B1.dig m j : Nat) : Int) + 128) = ((B1.dig m j + 128 : Nat) : Int) := by rw [w8 _ (by omega) (by omega)]; simp
      rw [hv, toUInt8_int (by omega)]
      obtain ⟨A2, c2, w2, hr, ho2, hg2, _⟩ := appendB ho (B1.dig m j + 128).toUInt8 (by omega) 5 76
      have hw : IntKind.i64.wrap ((j : Int) + 1) = ((j + 1 : Nat) : Int) := by rw [wi _ (by omega) (by omega)]; simp
      refine ⟨A2, _, c2, w2, hr, ?_⟩
      rw [hw]
      refine ⟨⟨j + 1, by omega, rfl, by simp [pre_len]; omega, ?_, hg.trans hg2⟩, by dsimp only; omega⟩
      rw [pre_succ, ← List.append_assoc]; exact ho2
    · obtain rfl : j = B1.top m 10 := by omega
      refine (digit_spec m _ hm (by omega) _).same ⟨_, rfl, ?_⟩
      rw [toUInt8_int (by omega)]
      obtain ⟨A2, c2, w2, hr, ho2, hg2, hn⟩ := appendB ho (B1.dig m (B1.top m 10)).toUInt8 (by omega) 5 76
      refine ⟨A2, _, c2, w2, hr, A2, c2, ?_, ?_, hg.trans hg2, hn⟩
      · rw [henc]; simp [Nat.add_assoc]
      · rw [henc, ← List.append_assoc]; exact ho2
end Go.Proofs.Ytakmlaliglmnmaa
