/- Layer 3, plain: rows as bytes and keys. -/
import Derived.Test.YtakmlaliglmnmaaSxBlk
set_option linter.unusedVariables false
set_option linter.unusedSimpArgs false
namespace R1
open Go.Sx

structure V where
  k : Int
  n : Int
  s : ByteArray

/-- a right value -/
def right (v : V) : Bool :=
  if v.k = 0 then decide (v.n = 0 ∧ v.s.size = 0) else if v.k = 1 then decide (v.s.size = 0) else if v.k = 2 ∨ v.k = 3 then decide (v.n = 0 ∧ v.s.size ≤ 65536) else false
/-- a value that memory can hold -/
def good (v : V) : Prop := (0 ≤ v.k ∧ v.k ≤ 255) ∧ (-9223372036854775808 ≤ v.n ∧ v.n ≤ 9223372036854775807) ∧ v.s.size ≤ Go.maxLen
/-- may it be a row? -/
def rightRow (l : List V) : Int := if 200 < l.length then 3 else if l.all right then 0 else 2

/-! ## numbers -/
def fits (n : Int) (k : Nat) : Bool := decide (-(2 ^ (8 * k - 1) : Nat) ≤ n ∧ n < (2 ^ (8 * k - 1) : Nat))
def wideFrom (n : Int) : Nat → Nat → Nat
  | 0, k => k
  | f + 1, k => if fits n k then k else wideFrom n f (k + 1)
/-- as few bytes as tell a number -/
def wide (n : Int) : Nat := wideFrom n 7 1
theorem wideFrom_le (n : Int) : ∀ f k, k ≤ wideFrom n f k ∧ wideFrom n f k ≤ f + k
  | 0, k => by simp [wideFrom]
  | f + 1, k => by
    have := wideFrom_le n f (k + 1)
    unfold wideFrom; split <;> omega
theorem wide_pos (n : Int) : 1 ≤ wide n := (wideFrom_le n 7 1).1
theorem wide_le (n : Int) : wide n ≤ 8 := (wideFrom_le n 7 1).2
/-- the last k bytes of a number, the highest first -/
def hi (m : Nat) : Nat → List UInt8
  | 0 => []
  | k + 1 => (m / 256 ^ k % 256).toUInt8 :: hi m k
theorem hi_length (m : Nat) : ∀ k, (hi m k).length = k
  | 0 => rfl
  | k + 1 => by simp [hi, hi_length m k]

/-! ## keys -/
def esc : List UInt8 → List UInt8
  | [] => []
  | c :: r => if c = 0 then 0 :: 255 :: esc r else c :: esc r
theorem esc_append : ∀ (a b : List UInt8), esc (a ++ b) = esc a ++ esc b
  | [], b => rfl
  | c :: a, b => by
    rw [List.cons_append, esc, esc, esc_append a b]
    split <;> rfl
theorem esc_length : ∀ (a : List UInt8), (esc a).length ≤ 2 * a.length
  | [] => by simp [esc]
  | c :: a => by have := esc_length a; unfold esc; split <;> simp <;> omega
def kpart (v : V) : List UInt8 :=
  if v.k = 0 then [1] else if v.k = 1 then 2 :: hi (v.n + 9223372036854775808).toNat 8 else (if v.k = 2 then 3 else 4) :: esc (sb v.s) ++ [0, 0]
theorem part_length (v : V) : (kpart v).length ≤ 9 + 2 * v.s.size := by
  unfold kpart
  have := esc_length (sb v.s)
  rw [sb_length] at this
  split
  · simp; omega
  · split
    · simp [hi_length]
    · simp; omega
theorem kpart_pos (v : V) : 0 < (kpart v).length := by
  unfold kpart; split
  · simp
  · split <;> simp
def tn (d : Bool) (l : List UInt8) : List UInt8 := if d then l.map (fun b => ~~~b) else l
theorem tn_length (d : Bool) (l : List UInt8) : (tn d l).length = l.length := by unfold tn; split <;> simp
def key : List V → List Bool → List UInt8
  | v :: vs, d :: ds => tn d (kpart v) ++ key vs ds
  | _, _ => []
def keyR (l : List V) (ds : List Bool) : List UInt8 × Int :=
  if rightRow l ≠ 0 then ([], rightRow l) else if ds.length ≠ l.length then ([], 2) else if 1048576 < (key l ds).length then ([], 3) else (key l ds, 0)
theorem key_append : ∀ (a b : List V) (d e : List Bool), a.length = d.length → key (a ++ b) (d ++ e) = key a d ++ key b e
  | [], b, [], e, _ => rfl
  | v :: a, b, x :: d, e, h => by
    show tn x (kpart v) ++ key (a ++ b) (d ++ e) = _
    rw [key_append a b d e (by simpa using h)]; simp [key]
  | [], _, _ :: _, _, h => by simp at h
  | _ :: _, _, [], _, h => by simp at h
theorem key_snoc (l : List V) (ds : List Bool) (i : Nat) (h : i < l.length) (h2 : i < ds.length) : key (l.take (i + 1)) (ds.take (i + 1)) = key (l.take i) (ds.take i) ++ tn (ds[i]) (kpart l[i]) := by
  rw [List.take_add_one, List.take_add_one, key_append _ _ _ _ (by simp; omega)]
  simp [h, h2, key]
theorem key_le : ∀ (l : List V) (ds : List Bool) (M : Nat), (∀ v ∈ l, v.s.size ≤ M) → (key l ds).length ≤ l.length * (9 + 2 * M)
  | [], _, M, _ => by simp [key]
  | v :: l, [], M, _ => by simp [key]
  | v :: l, d :: ds, M, h => by
    have h1 := key_le l ds M (fun v hv => h v (List.mem_cons.2 (.inr hv)))
    have h2 := part_length v
    have h3 := h v (List.mem_cons.2 (.inl rfl))
    simp only [key, List.length_append, tn_length, List.length_cons, Nat.add_mul, Nat.one_mul]
    omega

/-! ## rows -/
def sort (v : V) : Nat := if v.k = 1 then wide v.n else if v.k = 3 then 2 * v.s.size + 10 else if v.k = 2 then 2 * v.s.size + 11 else 0
def body (v : V) : List UInt8 := (if v.k = 1 then hi (v.n % 18446744073709551616).toNat (wide v.n) else []) ++ sb v.s
theorem right_size {v : V} (h : right v = true) : v.s.size ≤ 65536 := by
  unfold right at h
  split at h
  · have := of_decide_eq_true h; omega
  · split at h
    · have := of_decide_eq_true h; omega
    · split at h
      · have := of_decide_eq_true h; omega
      · cases h
end R1
