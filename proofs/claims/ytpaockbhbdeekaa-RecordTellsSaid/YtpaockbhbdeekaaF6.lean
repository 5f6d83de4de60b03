/- The document's answer for layer 3: Get. -/
import Derived.Test.YtpaockbhbdeekaaF4
import Derived.Test.YtpaockbhbdeekaaF5
import Derived.Test.YtpaockbhbdeekaaG5
set_option linter.unusedVariables false
set_option linter.unusedSimpArgs false
namespace Go.Proofs.Ytpaockbhbdeekaa
open Go Go.Sx R1

theorem getP_some {b : List UInt8} {l : List V} (h : getP b = some l) : ∃ ks j e, sortsP b (B1.getU b 0).1 (B1.getU b 0).2.1 = some (ks, ((j : Nat) : Int)) ∧ j ≤ b.length ∧ rowsP b ks j = some (l, e) ∧ ¬ e < b.length ∧ l.map sort = ks := by
  unfold getP at h
  split at h
  · cases h
  · rename_i hc
    simp only [not_or, Classical.not_not] at hc
    obtain ⟨i, u, h0, hx, hle, ht⟩ := getU_canon hc.1
    have : i = 0 := by omega
    subst this
    rw [hx] at h ⊢
    generalize (B1.getU b 0).1 = N at *
    cases hs : sortsP b N ((0 + u : Nat) : Int) with
    | none => rw [hs] at h; cases h
    | some r =>
      obtain ⟨ks, e⟩ := r
      rw [hs] at h
      dsimp only at h
      obtain ⟨q1, j, rfl, q3, q4, q5⟩ := sorts_canon N b (0 + u) ks e hle hs
      rw [Int.toNat_natCast] at h
      cases hs2 : rowsP b ks j with
      | none => rw [hs2] at h; cases h
      | some r2 =>
        obtain ⟨row, e2⟩ := r2
        rw [hs2] at h
        dsimp only at h
        split at h
        · cases h
        · cases h
          obtain ⟨p1, p2, p3, p4, p5⟩ := rows_canon ks b j l e2 q4 hs2
          exact ⟨ks, j, e2, rfl, q4, hs2, by assumption, p3⟩
theorem size_le {b : List UInt8} {l : List V} (h : getP b = some l) {v : V} (hv : v ∈ l) : sort v ≤ 2 * b.length + 11 := by
  obtain ⟨q1, -, -, q4, -⟩ := get_canon h
  have h1 : (body v).length ≤ (l.flatMap body).length := by
    clear h q1 q4
    induction l with
    | nil => cases hv
    | cons x l ih =>
      rw [List.flatMap_cons, List.length_append]
      rcases List.mem_cons.1 hv with rfl | hv
      · omega
      · have := ih hv; omega
  have h2 : (l.flatMap body).length ≤ b.length := by rw [q1]; unfold rowB; rw [List.length_append]; omega
  have h3 : v.s.size ≤ (body v).length := by unfold body; rw [List.length_append, sb_length]; omega
  have := wide_le v.n
  unfold sort
  split
  · omega
  · split
    · omega
    · split <;> omega
/-- what a sort has behind it: how many bytes -/
def longOf (k : Nat) : Nat := if 10 ≤ k then (k - 10) / 2 else k
/-- a value, loosely -/
def valOf (r : List UInt8) (k : Nat) : V := if k = 0 then ⟨0, 0, ByteArray.mk #[]⟩ else if k ≤ 8 then ⟨1, sgn k (be (r.take k)), ByteArray.mk #[]⟩ else ⟨if k % 2 = 1 then 2 else 3, 0, ⟨(r.take (longOf k)).toArray⟩⟩
theorem got_ref {r : List UInt8} {k : Nat} {v : V} {n : Nat} (h : got r k = some (v, n)) : k ≠ 9 ∧ n = longOf k ∧ longOf k ≤ r.length ∧ v = valOf r k := by
  unfold got at h
  split at h
  · rename_i hk; cases h; subst hk; exact ⟨by decide, rfl, Nat.zero_le _, rfl⟩
  · rename_i h0
    split at h
    · rename_i h8
      split at h
      · cases h
      · split at h
        · cases h
          have : longOf k = k := by unfold longOf; rw [if_neg (by omega)]
          refine ⟨by omega, this.symm, by omega, ?_⟩
          unfold valOf; rw [if_neg h0, if_pos h8]
        · cases h
    · rename_i h8
      split at h
      · cases h
      · split at h
        · cases h
        · split at h
          · cases h
          · cases h
            have : longOf k = (k - 10) / 2 := by unfold longOf; rw [if_pos (by omega)]
            refine ⟨by omega, this.symm, by omega, ?_⟩
            unfold valOf; rw [if_neg h0, if_neg h8, this]
/-- a number, so far -/
def numT (r : List UInt8) (q : Nat) : Int := if 128 ≤ (r.getD 0 0).toNat then (be (r.take q) : Int) - ((256 ^ q : Nat) : Int) else (be (r.take q) : Int)
theorem numT_sgn {r : List UInt8} {q : Nat} (h1 : 1 ≤ q) (h8 : q ≤ 8) (hl : q ≤ r.length) : numT r q = sgn q (be (r.take q)) := by
  match r, hl with
  | [], hl => simp at hl; omega
  | c :: t, hl =>
    obtain ⟨p, rfl⟩ : ∃ p, q = p + 1 := ⟨q - 1, by omega⟩
    have hbt := be_lt (t.take p)
    have htl : (t.take p).length = p := by rw [List.length_take]; simp at hl; omega
    rw [htl] at hbt
    have hb : be ((c :: t).take (p + 1)) = c.toNat * 256 ^ p + be (t.take p) := by rw [List.take_succ_cons, be_cons, htl]
    unfold numT sgn
    rw [hb]
    have hp : 2 ^ (8 * (p + 1) - 1) = 128 * 256 ^ p := by
      rw [show 8 * (p + 1) - 1 = 7 + 8 * p by omega, Nat.pow_add, Nat.pow_mul]
    have hp2 : 2 ^ (8 * (p + 1)) = 256 ^ (p + 1) := by rw [Nat.pow_mul]
    rw [hp, hp2]
    show (if 128 ≤ c.toNat then _ else _) = _
    by_cases hc : 128 ≤ c.toNat
    · have : 128 * 256 ^ p ≤ c.toNat * 256 ^ p := Nat.mul_le_mul_right _ hc
      rw [if_pos hc, if_neg (by omega)]
    · have : (c.toNat + 1) * 256 ^ p ≤ 128 * 256 ^ p := Nat.mul_le_mul_right _ (by omega)
      rw [Nat.add_mul, Nat.one_mul] at this
      rw [if_neg hc, if_pos (by omega)]
theorem numT_step {r : List UInt8} {q : Nat} (hl : q < r.length) : numT r (q + 1) = numT r q * 256 + ((r.getD q 0).toNat : Int) := by
  have hb : be (r.take (q + 1)) = be (r.take q) * 256 + (r.getD q 0).toNat := by rw [take_snoc8 r q hl, be_snoc]
  unfold numT
  rw [hb, Nat.pow_succ]
  split
  · have : ((256 ^ q * 256 : Nat) : Int) = ((256 ^ q : Nat) : Int) * 256 := by simp
    rw [this]
    omega
  · omega
theorem w_add {a c : Int} (h0 : 0 ≤ c) (h1 : c < 256) (h2 : -9223372036854775808 ≤ a + c) (h3 : a + c ≤ 9223372036854775807) : IntKind.i64.wrap (IntKind.i64.wrap a + IntKind.i64.wrap c) = a + c := by
  rw [wi c (by omega) (by omega)]
  rw [IntKind.wrap_i64, IntKind.wrap_i64]; omega
/-- one cell of a block is set -/
theorem set1 {w : World} {g i : Nat} {cur : List Value} (b : Blk w g cur) (hi : i < cur.length) (v : Value) : stOK ((⟨g, 0, none⟩ : Addr).add i) 0 [v] w ∧ ∀ w', w' = setAll ((⟨g, 0, none⟩ : Addr).add i) 0 [v] w → Blk w' g (cur.set i v) ∧ Fr (fun k => k = g) w w' := by
  rw [add_new, Nat.zero_add]
  refine ⟨b.stOK [v] 0 (by simp; omega), ?_⟩
  rintro w' rfl
  exact ⟨Blk.setAll (o := i) [v] 0 b, Fr.setAll [v] 0 w⟩
theorem cut_drop {α : Type} (b : List α) (i n : Nat) : (b.take (i + n)).drop i = (b.drop i).take n := by
  rw [List.drop_take]; congr 1; omega
theorem putR_ok {row : List V} (h : (putR row).2 = 0) : rightRow row = 0 ∧ (putL row).length ≤ 1048576 ∧ putR row = (putL row, 0) := by
  unfold putR at h ⊢
  by_cases h1 : rightRow row ≠ 0
  · rw [if_pos h1] at h; exact absurd h h1
  · rw [if_neg h1] at h ⊢
    by_cases h2 : 1048576 < (putL row).length
    · rw [if_pos h2] at h; cases h
    · rw [if_neg h2]
      exact ⟨by simpa using h1, by omega, rfl⟩
theorem get_of_put {row : List V} {b : List UInt8} (h1 : (putR row).2 = 0) (h2 : (putR row).1 = b) (hg : ∀ v ∈ row, good v) : getP b = some row := by
  obtain ⟨q1, q2, q3⟩ := putR_ok h1
  rw [q3] at h2
  obtain ⟨p1, p2⟩ := rightRow_zero q1
  rw [List.all_eq_true] at p2
  have := get_put p1 p2 hg [] (by rw [List.append_nil]; exact q2)
  rw [List.append_nil, if_pos rfl] at this
  rw [← h2]; exact this
theorem sort_in {b : List UInt8} {l : List V} (h : getP b = some l) {at0 : Int} {N : Nat} (hN : N = (B1.getU b 0).1) (ha : at0 = (B1.getU b 0).2.1) {ks : List Nat} {k : Nat} {e : Int} (hs : sortsP b N at0 = some (ks, e)) (hk : k ∈ ks) : k ≤ 2 * b.length + 11 := by
  obtain ⟨ks', j, e', q1, q2, q3, q4, q5⟩ := getP_some h
  subst hN; subst ha
  rw [hs] at q1
  cases q1
  rw [← q5] at hk
  obtain ⟨v, hv, rfl⟩ := List.mem_map.1 hk
  exact size_le h hv
end Go.Proofs.Ytpaockbhbdeekaa
