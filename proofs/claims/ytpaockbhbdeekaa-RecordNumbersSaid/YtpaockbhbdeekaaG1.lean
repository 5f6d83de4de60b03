/- Layer 3 (record): a value of a sort. -/
import Derived.Test.YtpaockbhbdeekaaR4
import Derived.Test.YtpaockbhbdeekaaG1Pure
import Derived.Test.YtpaockbhbdeekaaB2
import Derived.Test.YtpaockbhbdeekaaNestsG
set_option linter.unusedVariables false
set_option linter.unusedSimpArgs false
namespace Go.Proofs.Ytpaockbhbdeekaa
open Go Go.Sx R1

def agW (v : V) : Value := .agg #[.int .u8 v.k, .int .i64 v.n, .string v.s]
theorem setW3 {w : World} {g : Nat} {x y z : Value} (b : Blk w g [x, y, z]) (p q r : Value) : Blk (setAll ⟨g, 0, none⟩ 0 [p, q, r] w) g [p, q, r] := Blk.setAll (o := 0) [p, q, r] 0 b
theorem okW3 {w : World} {g : Nat} {x y z : Value} (b : Blk w g [x, y, z]) (p q r : Value) : stOK ⟨g, 0, none⟩ 0 [p, q, r] w := b.stOK [p, q, r] 0 (by simp)
theorem or_byte {x c : Nat} (hx : x < 72057594037927936) (hc : c < 256) : IntKind.u64.wrap ((BitVec.toNat (BitVec.ofInt 64 (IntKind.u64.wrap ((x : Int) * 2 ^ min (Int.toNat 8) 64)) ||| BitVec.ofInt 64 (IntKind.u64.wrap (c : Int))) : Nat) : Int) = ((x * 256 + c : Nat) : Int) := by
  have e8 : min (Int.toNat 8) 64 = 8 := by decide
  rw [e8, show (2 : Int) ^ 8 = 256 by decide, wu ((x : Int) * 256) (by omega) (by omega), wu (c : Int) (by omega) (by omega)]
  rw [BitVec.toNat_or, BitVec.toNat_ofInt, BitVec.toNat_ofInt]
  have e64 : ((2 ^ 64 : Nat) : Int) = 18446744073709551616 := by decide
  rw [e64]
  have e1 : ((x : Int) * 256 % 18446744073709551616).toNat = 2 ^ 8 * x := by omega
  have e2 : ((c : Int) % 18446744073709551616).toNat = c := by omega
  rw [e1, e2, ← Nat.two_pow_add_eq_or_of_lt (by omega : c < 2 ^ 8), wu _ (by omega) (by omega)]
  omega
theorem sgn_shift {k m : Nat} (hk : 1 ≤ k) (hk' : k ≤ 8) (hm : m < 256 ^ k) :
    Int.fdiv (IntKind.i64.wrap (IntKind.i64.wrap (m : Int) * 2 ^ min (Int.toNat (IntKind.i64.wrap (64 - IntKind.i64.wrap (8 * IntKind.i64.wrap (k : Int))))) 64)) (2 ^ min (Int.toNat (IntKind.i64.wrap (64 - IntKind.i64.wrap (8 * IntKind.i64.wrap (k : Int))))) 64) = sgn k m := by
  have e : IntKind.i64.wrap (64 - IntKind.i64.wrap (8 * IntKind.i64.wrap (k : Int))) = ((64 - 8 * k : Nat) : Int) := by
    rw [wi (k : Int) (by omega) (by omega), wi (8 * (k : Int)) (by omega) (by omega), wi _ (by omega) (by omega)]; omega
  rw [e, Int.toNat_natCast, IntKind.wrap_i64, IntKind.wrap_i64, Int.fdiv_eq_ediv_of_nonneg _ (by exact Int.le_of_lt (Int.pow_pos (by decide)))]
  unfold sgn
  obtain rfl | rfl | rfl | rfl | rfl | rfl | rfl | rfl : k = 1 ∨ k = 2 ∨ k = 3 ∨ k = 4 ∨ k = 5 ∨ k = 6 ∨ k = 7 ∨ k = 8 := by omega
  all_goals
    simp only [Nat.reduceMul, Nat.reduceSub, Nat.reducePow, Int.reducePow, show min 56 64 = 56 from rfl, show min 48 64 = 48 from rfl, show min 40 64 = 40 from rfl, show min 32 64 = 32 from rfl, show min 24 64 = 24 from rfl, show min 16 64 = 16 from rfl, show min 8 64 = 8 from rfl, show min 0 64 = 0 from rfl, Int.cast_ofNat_Int] at hm ⊢
    split <;> omega
theorem sgn_range {k m : Nat} (hk : 1 ≤ k) (hk' : k ≤ 8) (hm : m < 256 ^ k) : -9223372036854775808 ≤ sgn k m ∧ sgn k m ≤ 9223372036854775807 := by
  unfold sgn
  obtain rfl | rfl | rfl | rfl | rfl | rfl | rfl | rfl : k = 1 ∨ k = 2 ∨ k = 3 ∨ k = 4 ∨ k = 5 ∨ k = 6 ∨ k = 7 ∨ k = 8 := by omega
  all_goals
    simp only [Nat.reduceMul, Nat.reduceSub, Nat.reducePow, Int.cast_ofNat_Int] at hm ⊢
    split <;> omega
/-- what got and parted tell -/
def TellsV (w : World) (o : Option (V × Nat)) (r : Value) (w' : World) : Prop := ∃ v n, r = .tuple #[agW v, .int .i64 (n : Nat), .bool o.isSome] ∧ (∀ x, o = some x → x = (v, n)) ∧ Ext w w'
theorem take_snoc8 (l : List UInt8) (j : Nat) (h : j < l.length) : l.take (j + 1) = l.take j ++ [l.getD j 0] := by
  rw [List.take_add_one]; simp [List.getD, h]
theorem cutZ {A : Option Addr} {m sz : Nat} : cutAt A m 0 sz = A := by
  unfold cutAt
  split
  · rfl
  · cases A <;> simp [add_zero']
theorem itemB8 {Ω : Nat → Prop} {w : World} {A : Option Addr} {l : List UInt8} (h : Imm KB Ω w A l) {j : Nat} (h1 : j < l.length) :
    ∃ ad, A = some ad ∧ w.cell? (ad.add (j * 1)) = some (.int .u8 ((l.getD j 0).toNat : Int)) := by
  have hg : l[j]? = some (l.getD j 0) := by simp [List.getD, h1]
  obtain ⟨ad, hA, hn, cs, hr, hcell⟩ := h j _ hg
  have hr : cs = [u8 (l.getD j 0)] := hr
  subst hr
  exact ⟨ad, hA, hcell 0 _ rfl⟩
theorem got_spec {w : World} {A : Option Addr} {c n : Nat} {b : List UInt8} (hn : n = b.length) (h : Imm KB NoB w A b) (hl : b.length ≤ 1048576) (hc : b.length ≤ c) (k : Nat) (hk : k < 18446744073709551616) :
    CallsV Try.prog 54 #[.slice A n c, .int .u64 (k : Int)] w fun r w' => TellsV w (got b k) r w' := by
  subst hn
  refine record_got.calls okay ?_
  unfold record_got.W got
  intro g w1 f1
  have b1 := f1.blk
  have e1 := f1.ext
  have none' : ∀ (o : Option (V × Nat)), o = none → stOK (⟨g, 0, none⟩ : Addr) 0 [.int .u8 0, .int .i64 0, .string (ByteArray.mk #[])] w1 ∧ ∀ w2, w2 = setAll ⟨g, 0, none⟩ 0 [.int .u8 0, .int .i64 0, .string (ByteArray.mk #[])] w1 →
      ∃ x, w2.cell? ((⟨g, 0, none⟩ : Addr).add 0) = some (.int .u8 x) ∧ ∃ x_1, w2.cell? ((⟨g, 0, none⟩ : Addr).add (0 + 1)) = some (.int .i64 x_1) ∧ ∃ x_2, w2.cell? ((⟨g, 0, none⟩ : Addr).add (0 + 1 + 1)) = some (.string x_2) ∧ TellsV w o (.tuple #[.agg #[.int .u8 x, .int .i64 x_1, .string x_2], .int .i64 0, .bool false]) w2 := by
    rintro o rfl
    refine ⟨okW3 b1 _ _ _, ?_⟩
    rintro w2 rfl
    have b2 := setW3 b1 (.int .u8 0) (.int .i64 0) (.string (ByteArray.mk #[]))
    exact ⟨_, b2.cell rfl, _, b2.cell rfl, _, b2.cell rfl, ⟨0, 0, ByteArray.mk #[]⟩, 0, rfl, fun x hx => (by cases hx), e1.setAll f1.ge _ _⟩
  refine brd (fun h0 => ?_) (fun h0 => ?_)
  · rw [if_pos (by omega)]
    refine ⟨okW3 b1 _ _ _, ?_⟩
    rintro w2 rfl
    have b2 := setW3 b1 (.int .u8 0) (.int .i64 0) (.string (ByteArray.mk #[]))
    exact ⟨_, b2.cell rfl, _, b2.cell rfl, _, b2.cell rfl, ⟨0, 0, ByteArray.mk #[]⟩, 0, rfl, fun x hx => (by cases hx; rfl), e1.setAll f1.ge _ _⟩
  rw [if_neg (by omega)]
  have wl : IntKind.u64.wrap (b.length : Int) = (b.length : Int) := wu _ (by omega) (by omega)
  refine brd (fun h8 => ?_) (fun h8 => ?_)
  · rw [if_pos (by omega), wl]
    refine brd (fun hs => none' _ (by rw [if_pos (by omega)])) (fun hs => ?_)
    rw [if_neg (by omega)]
    refine ⟨⟨by omega, by omega⟩, ?_⟩
    simp only [Int.toNat_natCast, Nat.sub_zero, cutZ]
    refine ⟨fun x y u => ∃ j : Nat, j ≤ k ∧ y = (j : Int) ∧ x = (be (b.take j) : Int) ∧ u = w1, fun _ y _ => (k - y).toNat, ⟨0, by omega, rfl, rfl, rfl⟩, ?_⟩
    rintro _ _ u ⟨j, hj, rfl, rfl, rfl⟩
    have hbl := be_lt (b.take j)
    rw [List.length_take, Nat.min_eq_left (by omega)] at hbl
    refine brd (fun hlt => ?_) (fun hge => ?_)
    · obtain ⟨ad, hA, hcl⟩ := itemB8 (h.ext KB_pos e1) (j := j) (by omega)
      have h7 : 256 ^ j ≤ 256 ^ 7 := Nat.pow_le_pow_right (by decide) (by omega)
      have hb := (b.getD j 0).toNat_lt
      refine ⟨ad, hA, ⟨by omega, by omega⟩, _, by rw [Int.toNat_natCast]; exact hcl, by omega, ?_⟩
      rw [or_byte (Nat.lt_of_lt_of_le hbl h7) hb, wi _ (by omega) (by omega)]
      refine ⟨⟨j + 1, by omega, rfl, ?_, rfl⟩, by dsimp only; omega⟩
      rw [take_snoc8 _ _ (by omega), be_snoc]
    · obtain rfl : j = k := by omega
      have e8 : IntKind.i64.wrap (64 - IntKind.i64.wrap (8 * IntKind.i64.wrap (j : Int))) = ((64 - 8 * j : Nat) : Int) := by
        rw [wi (j : Int) (by omega) (by omega), wi (8 * (j : Int)) (by omega) (by omega), wi _ (by omega) (by omega)]; omega
      rw [sgn_shift (by omega) (by omega) hbl]
      obtain ⟨hr1, hr2⟩ := sgn_range (by omega) (show j ≤ 8 by omega) hbl
      generalize sgn j (be (b.take j)) = N at *
      refine ⟨by rw [e8]; omega, by rw [e8]; omega, ?_⟩
      intro g2 w2 f2
      refine ⟨okW3 f2.blk _ _ _, ?_⟩
      rintro w3 hw3
      have b3 := setW3 f2.blk (.int .u8 1) (.int .i64 N) (.string (ByteArray.mk #[]))
      have e3 : Ext u w3 := by rw [hw3]; exact f2.ext.setAll f2.ge _ _
      rw [← hw3] at b3
      have ed : Ext w3 w3.drew := Fr.drew NoB w3
      refine ⟨fun z => Blk z g2 [.int .u8 1, .int .i64 N, .string (ByteArray.mk #[])], b3.ext ed, _, fun z hz => hz.cell rfl, _, fun z hz => hz.cell rfl, _, fun z hz => hz.cell rfl, _, fun z hz => hz.cell rfl, ?_⟩
      refine (wide_spec _ N hr1 hr2).same ⟨_, rfl, b3.ext ed, ?_⟩
      have b1' := b1.ext (e3.trans' ed)
      refine ⟨okW3 b1' _ _ _, ?_⟩
      rintro w4 rfl
      have b4 := setW3 b1' (.int .u8 1) (.int .i64 N) (.string (ByteArray.mk #[]))
      have hj8 : IntKind.i64.wrap (j : Int) = (j : Int) := wi _ (by omega) (by omega)
      refine ⟨_, b4.cell rfl, _, b4.cell rfl, _, b4.cell rfl, ⟨1, N, ByteArray.mk #[]⟩, j, ?_, ?_, (e1.trans' (e3.trans' ed)).setAll f1.ge _ _⟩
      · rw [hj8]
        by_cases hw : wide N = j
        · rw [if_pos hw, hw]; simp [agW]
        · rw [if_neg hw, decide_eq_false (by omega)]; rfl
      · intro x hx
        split at hx
        · cases hx; rfl
        · cases hx
  rw [if_neg (by omega)]
  refine brd (fun h9 => none' _ (by rw [if_pos (by omega)])) (fun h9 => ?_)
  rw [if_neg (by omega)]
  have wk : IntKind.u64.wrap ((k : Int) - 10) = ((k - 10 : Nat) : Int) := by rw [wu _ (by omega) (by omega)]; omega
  have td : Int.tdiv ((k - 10 : Nat) : Int) 2 = (((k - 10) / 2 : Nat) : Int) := by rw [Int.tdiv_eq_ediv_of_nonneg (by omega)]; rfl
  have wt : IntKind.u64.wrap (((k - 10) / 2 : Nat) : Int) = (((k - 10) / 2 : Nat) : Int) := wu _ (by omega) (by omega)
  rw [wk, td, wt, wl]
  refine ⟨by decide, brd (fun hb => none' _ (by rw [if_pos (by omega)])) (fun hb => ?_)⟩
  rw [if_neg (by omega)]
  refine ⟨by decide, brd (fun hb => none' _ (by rw [if_pos (by omega)])) (fun hb2 => ?_)⟩
  rw [if_neg (by omega)]
  have wi2 : IntKind.i64.wrap ((k - 10 : Nat) : Int) = ((k - 10 : Nat) : Int) := wi _ (by omega) (by omega)
  have wi3 : IntKind.i64.wrap (((k - 10) / 2 : Nat) : Int) = (((k - 10) / 2 : Nat) : Int) := wi _ (by omega) (by omega)
  have tm : Int.tmod (k : Int) 2 = ((k % 2 : Nat) : Int) := by rw [Int.tmod_eq_emod_of_nonneg (by omega)]; rfl
  rw [wi2, td, wi3, tm]
  simp only [Int.toNat_natCast, Nat.sub_zero, cutZ]
  have hcut : Imm KB NoB w1 A (b.take ((k - 10) / 2)) := by
    have := (h.ext KB_pos e1).cut (lo := 0) (hi := (k - 10) / 2) (m := c) (by omega)
    rw [List.drop_zero] at this
    rwa [show cutAt A c 0 KB.size = A from cutZ] at this
  have hstr := to_str bt hcut c
  have hlen : (b.take ((k - 10) / 2)).length = (k - 10) / 2 := by rw [List.length_take]; omega
  rw [hlen] at hstr
  refine ⟨by decide, by decide, brd (fun h2 => ?_) (fun h2 => ?_)⟩
  all_goals
    refine ⟨⟨by omega, by omega⟩, _, _, hstr, okW3 b1 _ _ _, ?_⟩
    rintro w4 rfl
  · have b4 := setW3 b1 (.int .u8 2) (.int .i64 0) (.string ⟨(b.take ((k - 10) / 2)).toArray⟩)
    refine ⟨_, b4.cell rfl, _, b4.cell rfl, _, b4.cell rfl, ⟨2, 0, ⟨(b.take ((k - 10) / 2)).toArray⟩⟩, (k - 10) / 2, rfl, fun x hx => ?_, e1.setAll f1.ge _ _⟩
    rw [if_pos (by omega)] at hx; cases hx; rfl
  · have b4 := setW3 b1 (.int .u8 3) (.int .i64 0) (.string ⟨(b.take ((k - 10) / 2)).toArray⟩)
    refine ⟨_, b4.cell rfl, _, b4.cell rfl, _, b4.cell rfl, ⟨3, 0, ⟨(b.take ((k - 10) / 2)).toArray⟩⟩, (k - 10) / 2, rfl, fun x hx => ?_, e1.setAll f1.ge _ _⟩
    rw [if_neg (by omega)] at hx; cases hx; rfl
end Go.Proofs.Ytpaockbhbdeekaa
