/- Layer 3, plain: what is read of bytes. -/
import Derived.Test.YtpaockbhbdeekaaR1Pure
import Derived.Test.YtpaockbhbdeekaaB1Pure
set_option linter.unusedVariables false
set_option linter.unusedSimpArgs false
namespace R1
open Go.Sx

/-- a number, the highest byte first -/
def be' : Nat → List UInt8 → Nat
  | n, [] => n
  | n, c :: r => be' (n * 256 + c.toNat) r
def be (l : List UInt8) : Nat := be' 0 l
theorem be'_snoc : ∀ (l : List UInt8) (n : Nat) (c : UInt8), be' n (l ++ [c]) = be' n l * 256 + c.toNat
  | [], n, c => rfl
  | x :: l, n, c => be'_snoc l (n * 256 + x.toNat) c
theorem be_snoc (l : List UInt8) (c : UInt8) : be (l ++ [c]) = be l * 256 + c.toNat := be'_snoc l 0 c
theorem be_nil : be [] = 0 := rfl
theorem be_lt (l : List UInt8) : be l < 256 ^ l.length := by
  rw [← List.reverse_reverse l]
  induction l.reverse with
  | nil => simp [be, be']
  | cons c r ih =>
    rw [List.reverse_cons, be_snoc, List.length_append, List.length_singleton, Nat.pow_succ]
    have := c.toNat_lt
    omega
/-- as a signed number of k bytes -/
def sgn (k m : Nat) : Int := if m < 2 ^ (8 * k - 1) then (m : Int) else (m : Int) - ((2 ^ (8 * k) : Nat) : Int)
/-- a value of a sort, and how many bytes it has -/
def got (b : List UInt8) (k : Nat) : Option (V × Nat) :=
  if k = 0 then some (⟨0, 0, ByteArray.mk #[]⟩, 0)
  else if k ≤ 8 then (if b.length < k then none else if wide (sgn k (be (b.take k))) = k then some (⟨1, sgn k (be (b.take k)), ByteArray.mk #[]⟩, k) else none)
  else if k = 9 then none
  else if 65536 < (k - 10) / 2 then none
  else if b.length < (k - 10) / 2 then none
  else some (⟨if k % 2 = 1 then 2 else 3, 0, ⟨(b.take ((k - 10) / 2)).toArray⟩⟩, (k - 10) / 2)
/-- n sorts, from a place on -/
def sortsP (b : List UInt8) : Nat → Int → Option (List Nat × Int)
  | 0, at_ => some ([], at_)
  | n + 1, at_ => if (B1.getU b at_).2.2 ≠ 0 then none else (sortsP b n (B1.getU b at_).2.1).map fun r => ((B1.getU b at_).1 :: r.1, r.2)
/-- values of these sorts, from a place on -/
def rowsP (b : List UInt8) : List Nat → Nat → Option (List V × Nat)
  | [], at_ => some ([], at_)
  | k :: ks, at_ => match got (b.drop at_) k with
    | none => none
    | some (v, n) => (rowsP b ks (at_ + n)).map fun r => (v :: r.1, r.2)
def getP (b : List UInt8) : Option (List V) :=
  if (B1.getU b 0).2.2 ≠ 0 ∨ 200 < (B1.getU b 0).1 ∨ 1048576 < b.length then none
  else match sortsP b (B1.getU b 0).1 (B1.getU b 0).2.1 with
    | none => none
    | some (ks, at_) => match rowsP b ks at_.toNat with
      | none => none
      | some (row, e) => if e < b.length then none else some row
/-- a text's bytes, up to where it ends; how many there are -/
def unesc : List UInt8 → Option (List UInt8 × Nat)
  | [] => none
  | [_] => none
  | c :: d :: r => if c ≠ 0 then (unesc (d :: r)).map fun x => (c :: x.1, x.2 + 1) else if d = 255 then (unesc r).map fun x => (0 :: x.1, x.2 + 2) else if d = 0 then some ([], 2) else none
termination_by l => l.length
/-- a value at the begin of a key -/
def partedP : List UInt8 → Option (V × Nat)
  | [] => none
  | t :: r =>
    if t = 1 then some (⟨0, 0, ByteArray.mk #[]⟩, 1)
    else if t = 2 then (if r.length < 8 then none else some (⟨1, (be (r.take 8) : Int) - 9223372036854775808, ByteArray.mk #[]⟩, 9))
    else if t = 3 ∨ t = 4 then (match unesc r with
      | none => none
      | some (s, n) => if s.length ≤ 65536 then some (⟨(t.toNat : Int) - 1, 0, ⟨s.toArray⟩⟩, n + 1) else none)
    else none
def unkeyP : List UInt8 → List Bool → Option (List V)
  | b, [] => if b = [] then some [] else none
  | b, d :: ds => match partedP (tn d b) with
    | none => none
    | some (v, n) => (unkeyP (b.drop n) ds).map fun l => v :: l
def unkeyR (b : List UInt8) (ds : List Bool) : Option (List V) := if 200 < ds.length ∨ 1048576 < b.length then none else unkeyP b ds
end R1
