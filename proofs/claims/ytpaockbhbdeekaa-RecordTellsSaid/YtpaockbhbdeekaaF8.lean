/- The document's answer for layer 3: Unkey. -/
import Derived.Test.YtpaockbhbdeekaaF7
set_option linter.unusedVariables false
set_option linter.unusedSimpArgs false
namespace Go.Proofs.Ytpaockbhbdeekaa
open Go Go.Sx R1

/-- a text's bytes, loosely -/
def lt : List UInt8 → List UInt8
  | [] => []
  | [_] => []
  | c :: d :: r => if c = 0 then (if d = 0 then [] else 0 :: lt r) else c :: lt (d :: r)
termination_by l => l.length
theorem lt2 (c d : UInt8) (r : List UInt8) : lt (c :: d :: r) = if c = 0 then (if d = 0 then [] else 0 :: lt r) else c :: lt (d :: r) := by rw [lt]
theorem lt_short {l : List UInt8} (h : l.length ≤ 1) : lt l = [] := by
  match l, h with
  | [], _ => rw [lt]
  | [c], _ => rw [lt]
  | _ :: _ :: _, h => simp at h
theorem unesc_lt : ∀ (l s : List UInt8) (n : Nat), unesc l = some (s, n) → lt l = s := by
  intro l
  induction hk : l.length using Nat.strongRecOn generalizing l with
  | ind k ih =>
    intro s n h
    subst hk
    match l, h with
    | [], h => rw [unesc] at h; cases h
    | [c], h => rw [unesc] at h; cases h
    | c :: d :: r, h =>
      rw [unesc] at h
      rw [lt2]
      split at h
      · rename_i hc
        cases hu : unesc (d :: r) with
        | none => rw [hu] at h; cases h
        | some x =>
          rw [hu] at h
          have := ih _ (by simp only [List.length_cons]; omega) (d :: r) rfl x.1 x.2 hu
          simp only [Option.map_some, Option.some.injEq, Prod.mk.injEq] at h
          obtain ⟨rfl, rfl⟩ := h
          rw [if_neg hc, this]
      · rename_i hc
        have hc : c = 0 := by simpa using hc
        rw [if_pos hc]
        split at h
        · rename_i hd
          cases hu : unesc r with
          | none => rw [hu] at h; cases h
          | some x =>
            rw [hu] at h
            have := ih _ (by simp only [List.length_cons]; omega) r rfl x.1 x.2 hu
            simp only [Option.map_some, Option.some.injEq, Prod.mk.injEq] at h
            obtain ⟨rfl, rfl⟩ := h
            rw [if_neg (by rw [hd]; decide), this]
        · split at h
          · rename_i hd
            simp only [Option.some.injEq, Prod.mk.injEq] at h
            obtain ⟨rfl, rfl⟩ := h
            rw [if_pos hd]
          · cases h
theorem lt_length : ∀ (l : List UInt8), (lt l).length ≤ l.length := by
  intro l
  induction hk : l.length using Nat.strongRecOn generalizing l with
  | ind k ih =>
    subst hk
    match l with
    | [] => rw [lt]; simp
    | [c] => rw [lt]; simp
    | c :: d :: r =>
      rw [lt2]
      split
      · split
        · simp
        · have := ih _ (by simp only [List.length_cons]; omega) r rfl
          simp only [List.length_cons]; omega
      · have := ih _ (by simp only [List.length_cons]; omega) (d :: r) rfl
        simp only [List.length_cons] at this ⊢; omega
/-- a value at the begin of a key, loosely -/
def kvalOf (t : UInt8) (y : List UInt8) : V := ⟨(t.toNat : Int) - 1, if t.toNat = 2 then (be (y.take 8) : Int) - 9223372036854775808 else 0, ⟨(if t.toNat = 3 ∨ t.toNat = 4 then lt y else []).toArray⟩⟩
theorem parted_ref {t : UInt8} {y : List UInt8} {v : V} {n : Nat} (h : partedP (t :: y) = some (v, n)) : 1 ≤ t.toNat ∧ t.toNat ≤ 4 ∧ (t.toNat = 2 → 8 ≤ y.length) ∧ v = kvalOf t y := by
  rw [partedP] at h
  split at h
  · rename_i ht
    subst ht
    cases h
    exact ⟨by decide, by decide, fun h => (by cases h), rfl⟩
  · split at h
    · rename_i ht
      subst ht
      split at h
      · cases h
      · cases h
        exact ⟨by decide, by decide, fun _ => by omega, rfl⟩
    · split at h
      · rename_i ht
        cases hu : unesc y with
        | none => rw [hu] at h; cases h
        | some x =>
          obtain ⟨s, m⟩ := x
          have := unesc_lt y s m hu
          rw [hu] at h
          dsimp only at h
          split at h
          · cases h
            have h34 : t.toNat = 3 ∨ t.toNat = 4 := by rcases ht with rfl | rfl <;> decide
            refine ⟨by omega, by omega, fun h => by omega, ?_⟩
            unfold kvalOf
            rw [if_neg (by omega), if_pos h34, this]
          · cases h
      · cases h
theorem xorS {m : Nat} (h : m < 18446744073709551616) : IntKind.i64.wrap ((BitVec.toNat (BitVec.ofInt 64 (IntKind.i64.wrap (m : Int)) ^^^ BitVec.ofInt 64 (-9223372036854775808)) : Nat) : Int) = (m : Int) - 9223372036854775808 := by
  rw [BitVec.toNat_xor, BitVec.toNat_ofInt, BitVec.toNat_ofInt]
  have e2 : ((-9223372036854775808 : Int) % ((2 ^ 64 : Nat) : Int)).toNat = 2 ^ 63 := by decide
  have e64 : ((2 ^ 64 : Nat) : Int) = 18446744073709551616 := by decide
  rw [e2, e64]
  have e3 : (IntKind.i64.wrap (m : Int) % 18446744073709551616).toNat = m := by rw [IntKind.wrap_i64]; omega
  rw [e3]
  rcases Nat.lt_or_ge m (2 ^ 63) with hm | hm
  · rw [xor_low hm, IntKind.wrap_i64]; omega
  · have : m = (m - 2 ^ 63) + 2 ^ 63 := by omega
    rw [this, xor_high (by omega), wi _ (by omega) (by omega)]; omega
theorem w_mul {m : Int} {c : Int} (h0 : 0 ≤ c) (h1 : c < 256) : IntKind.i64.wrap (IntKind.i64.wrap (IntKind.i64.wrap m * 256) + IntKind.i64.wrap c) = IntKind.i64.wrap (m * 256 + c) := by
  rw [wi c (by omega) (by omega)]
  rw [IntKind.wrap_i64, IntKind.wrap_i64, IntKind.wrap_i64, IntKind.wrap_i64]; omega
theorem key_of_unkey {row : List V} {b : List UInt8} {ds : List Bool} (h1 : (keyR row ds).2 = 0) (h2 : (keyR row ds).1 = b) (hg : ∀ v ∈ row, good v) (hb : b.length ≤ 1048576) (hd : ds.length ≤ 200) : unkeyR b ds = some row := by
  unfold keyR at h1 h2
  by_cases q1 : rightRow row ≠ 0
  · rw [if_pos q1] at h1; exact absurd h1 q1
  · rw [if_neg q1] at h1 h2
    by_cases q2 : ds.length ≠ row.length
    · rw [if_pos q2] at h1; cases h1
    · rw [if_neg q2] at h1 h2
      by_cases q3 : 1048576 < (key row ds).length
      · rw [if_pos q3] at h1; cases h1
      · rw [if_neg q3] at h2
        have h2 : key row ds = b := h2
        obtain ⟨p1, p2⟩ := rightRow_zero (by simpa using q1 : rightRow row = 0)
        rw [List.all_eq_true] at p2
        have := unkey_key row ds [] (by omega) p2 hg
        rw [List.append_nil, if_pos rfl, h2] at this
        unfold unkeyR
        rw [if_neg (by rintro (h | h) <;> omega)]
        exact this
theorem keyR_small {row : List V} {ds : List Bool} (h : (keyR row ds).2 = 0) : (keyR row ds).1.length ≤ 1048576 := by
  unfold keyR at h ⊢
  by_cases q1 : rightRow row ≠ 0
  · rw [if_pos q1]; simp
  · rw [if_neg q1]
    split
    · simp
    · split
      · simp
      · dsimp only; omega
end Go.Proofs.Ytpaockbhbdeekaa
