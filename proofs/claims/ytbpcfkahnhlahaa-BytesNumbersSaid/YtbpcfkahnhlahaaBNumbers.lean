/- 'BytesNumbers' answers true. -/
import Derived.Test.YtbpcfkahnhlahaaB6
import Derived.Test.YtbpcfkahnhlahaaNestsN
set_option linter.unusedVariables false
set_option linter.unusedSimpArgs false
namespace Go.Proofs.Ytbpcfkahnhlahaa
open Go Go.Sx
theorem sb_append (x y : ByteArray) : sb (x ++ y) = sb x ++ sb y := by simp [sb]
theorem enc_pow : ∀ j, B1.enc (128 ^ j) = List.replicate j 128 ++ [1]
  | 0 => by rw [B1.enc_lt (by decide)]; rfl
  | j + 1 => by
    have h1 : 1 ≤ 128 ^ j := Nat.one_le_pow _ _ (by decide)
    have h : 128 ^ (j + 1) = 128 * 128 ^ j := by rw [Nat.pow_succ, Nat.mul_comm]
    rw [h, B1.enc_ge (by omega), Nat.mul_mod_right, Nat.mul_div_cancel_left _ (by decide), enc_pow j]
    rfl
theorem enc_below : ∀ j, B1.enc (128 ^ (j + 1) - 1) = List.replicate j 255 ++ [127]
  | 0 => by rw [B1.enc_lt (by decide)]; rfl
  | j + 1 => by
    have h1 : 1 ≤ 128 ^ (j + 1) := Nat.one_le_pow _ _ (by decide)
    have h : 128 ^ (j + 1 + 1) = 128 * 128 ^ (j + 1) := by rw [Nat.pow_succ, Nat.mul_comm]
    rw [h]
    have ih := enc_below j
    generalize 128 ^ (j + 1) = p at *
    have e1 : (128 * p - 1) % 128 = 127 := by omega
    have e2 : (128 * p - 1) / 128 = p - 1 := by omega
    have h128 : 128 ≤ 128 * p - 1 ∨ p = 1 := by omega
    rcases h128 with h128 | rfl
    · rw [B1.enc_ge h128, e1, e2, ih]; rfl
    · exact absurd h (by have := Nat.one_le_pow j 128 (by decide); omega)
theorem enc_full : B1.enc 18446744073709551615 = [255, 255, 255, 255, 255, 255, 255, 255, 255, 1] := by
  simp [B1.enc_ge, B1.enc_lt]

def full : ByteArray := ByteArray.mk #[255, 255, 255, 255, 255, 255, 255, 255, 255]
def tests : List (ByteArray × Int × Int) := [(ByteArray.mk #[3, 97, 98], -1, 3), (ByteArray.mk #[2, 97, 98], -1, 1), (ByteArray.mk #[0], -1, -1), (ByteArray.mk #[2, 0], 2, 0), (ByteArray.mk #[1, 1, 97], 1, 0), (ByteArray.mk #[0], -1, 0), (ByteArray.mk #[1, 128, 0], 1, 9), (ByteArray.mk #[128, 0], 9, 9)]
def tcells : List Value := [.string (ByteArray.mk #[3, 97, 98]), .int .i64 (-1), .int .i64 3, .string (ByteArray.mk #[2, 97, 98]), .int .i64 (-1), .int .i64 1, .string (ByteArray.mk #[0]), .int .i64 (-1), .int .i64 (-1), .string (ByteArray.mk #[2, 0]), .int .i64 2, .int .i64 0, .string (ByteArray.mk #[1, 1, 97]), .int .i64 1, .int .i64 0, .string (ByteArray.mk #[0]), .int .i64 (-1), .int .i64 0, .string (ByteArray.mk #[1, 128, 0]), .int .i64 1, .int .i64 9, .string (ByteArray.mk #[128, 0]), .int .i64 9, .int .i64 9]
def test (j : Nat) : ByteArray × Int × Int := tests.getD j (ByteArray.mk #[], 0, 0)
def wants : List Int := [11, 3, 3, 3, 3, 3, 3, 11, 3, 3, 0, 3, 0, 10, 10, 10]
theorem eight {p : Nat → Prop} (h : p 0 ∧ p 1 ∧ p 2 ∧ p 3 ∧ p 4 ∧ p 5 ∧ p 6 ∧ p 7) (j : Nat) (hj : j < 8) : p j := by
  obtain ⟨h0, h1, h2, h3, h4, h5, h6, h7⟩ := h
  match j, hj with
  | 0, _ => exact h0
  | 1, _ => exact h1
  | 2, _ => exact h2
  | 3, _ => exact h3
  | 4, _ => exact h4
  | 5, _ => exact h5
  | 6, _ => exact h6
  | 7, _ => exact h7
theorem tcell (j : Nat) (hj : j < 8) : tcells[j * 3]? = some (.string (test j).1) ∧ tcells[j * 3 + 1]? = some (.int .i64 (test j).2.1) ∧ tcells[j * 3 + 2]? = some (.int .i64 (test j).2.2) :=
  eight (p := fun j => tcells[j * 3]? = some (.string (test j).1) ∧ tcells[j * 3 + 1]? = some (.int .i64 (test j).2.1) ∧ tcells[j * 3 + 2]? = some (.int .i64 (test j).2.2))
    ⟨⟨rfl, rfl, rfl⟩, ⟨rfl, rfl, rfl⟩, ⟨rfl, rfl, rfl⟩, ⟨rfl, rfl, rfl⟩, ⟨rfl, rfl, rfl⟩, ⟨rfl, rfl, rfl⟩, ⟨rfl, rfl, rfl⟩, ⟨rfl, rfl, rfl⟩⟩ j hj
theorem tsmall (j : Nat) (hj : j < 8) : (test j).1.size ≤ 10 ∧ (test j).2.1 < 100 ∧ (test j).2.2 < 100 :=
  eight (p := fun j => (test j).1.size ≤ 10 ∧ (test j).2.1 < 100 ∧ (test j).2.2 < 100)
    ⟨by decide, by decide, by decide, by decide, by decide, by decide, by decide, by decide⟩ j hj
theorem twant (j : Nat) (hj : j < 8) : wants.take (2 * j + 2) = wants.take (2 * j) ++ [(getB (sb (test j).1) 0 (test j).2.2).2.2, (getBs (sb (test j).1) 0 (test j).2.1 (test j).2.2).2.2] :=
  eight (p := fun j => wants.take (2 * j + 2) = wants.take (2 * j) ++ [(getB (sb (test j).1) 0 (test j).2.2).2.2, (getBs (sb (test j).1) 0 (test j).2.1 (test j).2.2).2.2])
    ⟨by kernel_rfl, by kernel_rfl, by kernel_rfl, by kernel_rfl, by kernel_rfl, by kernel_rfl, by kernel_rfl, by kernel_rfl⟩ j hj
theorem slI : SlT Try.prog 27 3 1 8 [.int .i64 0] := ⟨by kernel_rfl, ⟨Try.t3, by kernel_rfl, by kernel_rfl, by kernel_rfl, .int .i64 0, by kernel_rfl, by kernel_rfl⟩, rfl, by decide⟩

theorem numbers_spec (w : World) : CallsV Try.prog 3 #[] w fun v w' => v = .bool true ∧ Ext w w' := by
  refine cardindexlaw01_BytesNumbers.calls okay ?_
  unfold cardindexlaw01_BytesNumbers.W
  refine ⟨fun hi lo k w1 => ∃ j : Nat, 1 ≤ j ∧ j ≤ 10 ∧ k = (j : Int) ∧ sb hi = List.replicate (j - 1) 128 ++ [1] ∧ sb lo = List.replicate (j - 1) 255 ++ [127] ∧ Ext w w1, fun _ _ k _ => (10 - k).toNat, ⟨1, by omega, by omega, rfl, rfl, rfl, .refl _ _⟩, ?_⟩
  rintro hi lo _ w1 ⟨j, hj1, hj, rfl, hhi, hlo, e1⟩
  have szhi : hi.size = j := by rw [← sb_length, hhi]; simp; omega
  have szlo : lo.size = j := by rw [← sb_length, hlo]; simp; omega
  have s128 : (ByteArray.mk #[128]).size = 1 := rfl
  have s255 : (ByteArray.mk #[255]).size = 1 := rfl
  refine brd (fun hlt => ?_) (fun hlt => ?_)
  · have h7 : IntKind.i64.wrap (7 * (j : Int)) = ((7 * j : Nat) : Int) := by rw [wi _ (by omega) (by omega)]; simp
    rw [h7, Int.toNat_natCast, show min (7 * j) 64 = 7 * j by omega]
    have hp : ((2 : Int) ^ (7 * j)) = ((128 ^ j : Nat) : Int) := by rw [show (128 : Nat) ^ j = 2 ^ (7 * j) by rw [Nat.pow_mul]]; simp
    have hlt9 : 128 ^ j ≤ 128 ^ 9 := Nat.pow_le_pow_right (by decide) (by omega)
    have h9 : (128 : Nat) ^ 9 = 9223372036854775808 := by decide
    have h1 : 1 ≤ 128 ^ j := Nat.one_le_pow _ _ (by decide)
    rw [hp, Int.one_mul, wu ((128 ^ j : Nat) : Int) (by omega) (by omega), wu (((128 ^ j : Nat) : Int) - 1) (by omega) (by omega)]
    refine ⟨fun u => True, trivial, by omega, by omega, by omega, fun u => True, fun _ _ => trivial, trivial, ?_⟩
    have e2 := e1.drew
    generalize w1.drew = w2 at *
    have he1 : ((128 ^ j : Nat) : Int) - 1 = ((128 ^ j - 1 : Nat) : Int) := by omega
    rw [he1]
    have o2 : OwnK KC (w2.alloc (.cells #[.int .u64 ((128 ^ j - 1 : Nat) : Int), .string lo, .int .u64 ((128 ^ j : Nat) : Int), .string (ByteArray.mk #[128] ++ hi)] 25)) (some ⟨w2.heap.size, 0, none⟩) 2 [(128 ^ j - 1, lo), (128 ^ j, ByteArray.mk #[128] ++ hi)] :=
      ownK_lit (K := KC) (cs := [.int .u64 ((128 ^ j - 1 : Nat) : Int), .string lo, .int .u64 ((128 ^ j : Nat) : Int), .string (ByteArray.mk #[128] ++ hi)]) (l := [(128 ^ j - 1, lo), (128 ^ j, ByteArray.mk #[128] ++ hi)]) rfl (by simp [maxLen]) (fun i a hi => by
        match i, hi with
        | 0, hi => cases hi; rfl
        | 1, hi => cases hi; rfl
        | i + 2, hi => simp at hi)
    obtain ⟨i, rfl⟩ : ∃ i, j = i + 1 := ⟨j - 1, by omega⟩
    have hlo' : sb lo = B1.enc (128 ^ (i + 1) - 1) := by rw [hlo, enc_below]; rfl
    have hhi' : sb (ByteArray.mk #[128] ++ hi) = B1.enc (128 ^ (i + 1)) := by rw [sb_append, hhi, enc_pow]; rfl
    refine (fits_spec (o2.imm KC_pos) (by simp) (fun x hx => by
      simp only [List.mem_cons, List.not_mem_nil, or_false] at hx
      rcases hx with rfl | rfl
      · exact ⟨by dsimp only; omega, hlo'⟩
      · exact ⟨by dsimp only; omega, hhi'⟩)).mono ?_
    rintro v w3 ⟨rfl, e3⟩
    refine ⟨_, rfl, fun u => True, fun _ _ => trivial, trivial, ?_⟩
    refine brnb (fun h => by cases h) (fun _ => ?_)
    rw [wi _ (by omega) (by omega)]
    refine ⟨by omega, by omega, ⟨i + 2, by omega, by omega, by omega, ?_, ?_, (e2.alloc _).trans' e3⟩, by dsimp only; omega⟩
    · rw [sb_append, hhi]; rfl
    · rw [sb_append, hlo]; rfl
  · refine ⟨by decide, ?_⟩
    have o2 : OwnK KC (w1.alloc (.cells #[.int .u64 18446744073709551615, .string (full ++ ByteArray.mk #[1])] 25)) (some ⟨w1.heap.size, 0, none⟩) 1 [(18446744073709551615, full ++ ByteArray.mk #[1])] :=
      ownK_lit (K := KC) (cs := [.int .u64 18446744073709551615, .string (full ++ ByteArray.mk #[1])]) (l := [(18446744073709551615, full ++ ByteArray.mk #[1])]) rfl (by simp [maxLen]) (fun i a hi => by
        match i, hi with
        | 0, hi => cases hi; rfl
        | i + 1, hi => simp at hi)
    refine (fits_spec (o2.imm KC_pos) (by simp) (fun x hx => by
      simp only [List.mem_cons, List.not_mem_nil, or_false] at hx
      subst hx
      exact ⟨by decide, by dsimp only; rw [sb_append, enc_full]; rfl⟩)).mono ?_
    rintro v w2 ⟨rfl, e2⟩
    refine ⟨_, rfl, ?_⟩
    refine brnb (fun h => by cases h) (fun _ => ⟨by decide, ?_⟩)
    have e2 := (e1.alloc _).trans' e2
    refine (bad_spec w2 _ 0 (by decide)).mono ?_
    rintro v w3 ⟨rfl, e3⟩
    refine ⟨_, rfl, brn (fun h => absurd (by kernel_rfl) h) (fun _ => ⟨by decide, ?_⟩)⟩
    have e3 := e2.trans' e3
    refine (bad_spec w3 _ 0 (by decide)).mono ?_
    rintro v w4 ⟨rfl, e4⟩
    refine ⟨_, rfl, brn (fun h => absurd (by kernel_rfl) h) (fun _ => ⟨by decide, ?_⟩)⟩
    have e4 := e3.trans' e4
    refine (bad_spec w4 _ 0 (by decide)).mono ?_
    rintro v w5 ⟨rfl, e5⟩
    refine ⟨_, rfl, brn (fun h => absurd (by kernel_rfl) h) (fun _ => ⟨by decide, ?_⟩)⟩
    have e5 := e4.trans' e5
    refine (bad_spec w5 _ 0 (by decide)).mono ?_
    rintro v w6 ⟨rfl, e6⟩
    refine ⟨_, rfl, brn (fun h => absurd (by kernel_rfl) h) (fun _ => ⟨by decide, ?_⟩)⟩
    have e6 := e5.trans' e6
    refine (bad_spec w6 _ 0 (by decide)).mono ?_
    rintro v w7 ⟨rfl, e7⟩
    refine ⟨_, rfl, brn (fun h => absurd (by kernel_rfl) h) (fun _ => ?_)⟩
    have e7 := e6.trans' e7
    refine (bad_spec w7 _ 0 (by decide)).mono ?_
    rintro v w8 ⟨rfl, e8⟩
    refine ⟨_, rfl, brn (fun h => absurd (by kernel_rfl) h) (fun _ => ?_)⟩
    have e8 := e7.trans' e8
    refine (bad_spec w8 _ 0 (by decide)).mono ?_
    rintro v w9 ⟨rfl, e9⟩
    refine ⟨_, rfl, brn (fun h => absurd (by kernel_rfl) h) (fun _ => ?_)⟩
    have e9 := e8.trans' e9
    refine (bad_spec w9 _ 1 (by decide)).mono ?_
    rintro v w10 ⟨rfl, e10⟩
    refine ⟨_, rfl, brn (fun h => absurd (by kernel_rfl) h) (fun _ => ?_)⟩
    have e10 := e9.trans' e10
    refine (bad_spec w10 _ 2 (by decide)).mono ?_
    rintro v w11 ⟨rfl, e11⟩
    refine ⟨_, rfl, brn (fun h => absurd (by kernel_rfl) h) (fun _ => ?_)⟩
    have e11 := e10.trans' e11
    refine (bad_spec w11 _ (-1) (by decide)).mono ?_
    rintro v w12 ⟨rfl, e12⟩
    refine ⟨_, rfl, brn (fun h => absurd (by kernel_rfl) h) (fun _ => ?_)⟩
    have e12 := e11.trans' e12
    have bT : Blk (w12.alloc (.cells tcells.toArray 28)) w12.heap.size tcells := Blk.alloc _ _ _
    have e13 := e12.alloc (.cells tcells.toArray 28)
    obtain ⟨w13, hw13⟩ : ∃ w13, w13 = w12.alloc (.cells tcells.toArray 28) := ⟨_, rfl⟩
    rw [← hw13] at bT e13
    refine ⟨fun A n c k w14 => ∃ j : Nat, j ≤ 8 ∧ k = (j : Int) ∧ n = 2 * j ∧ Own w14 1 A (2 * j) c ((wants.take (2 * j)).map (Value.int .i64)) ∧ Ext w13 w14 ∧ New w13 A, fun _ _ _ k _ => (8 - k).toNat, ⟨0, by omega, rfl, rfl, Own.nil _ _, by rw [hw13]; exact .refl _ _, New.none _⟩, ?_⟩
    rintro A _ c _ w14 ⟨j, hj, rfl, rfl, ho, e14, hn⟩
    refine brd (fun hlt => ?_) (fun hlt => ?_)
    · have hj8 : j < 8 := by omega
      obtain ⟨c0, c1, c2⟩ := tcell j hj8
      obtain ⟨t0, t1, t2⟩ := tsmall j hj8
      have hw := twant j hj8
      generalize test j = t at *
      obtain ⟨b, many, most⟩ := t
      dsimp only at c0 c1 c2 t0 t1 t2 hw
      have bT4 := bT.ext e14
      refine ⟨_, rfl, ⟨by omega, by omega⟩, b, bT4.cell' (by simpa using c0), many, bT4.cell' (by simpa using c1), most, bT4.cell' (by simpa using c2), ?_⟩
      have b0 : Blk (w14.alloc (.cells #[.string (ByteArray.mk #[]), .int .i64 0, .int .i64 0] 28)) w14.heap.size [.string (ByteArray.mk #[]), .int .i64 0, .int .i64 0] := Blk.alloc _ _ _
      have f0 : Ext w14 (w14.alloc (.cells #[.string (ByteArray.mk #[]), .int .i64 0, .int .i64 0] 28)) := Fr.alloc NoB w14 _
      generalize w14.alloc (.cells #[.string (ByteArray.mk #[]), .int .i64 0, .int .i64 0] 28) = u0 at *
      have hgs : w14.heap.size ≤ w14.heap.size := Nat.le_refl _
      have hgs2 : w13.heap.size ≤ w14.heap.size := e14.size
      generalize hg : w14.heap.size = g at *
      refine ⟨⟨by rw [b0.cell (v := .string (ByteArray.mk #[])) rfl]; rfl, b0.unfrozen 0 0⟩, ?_⟩
      have b1 := b0.set 0 0 (.string b)
      have f1 := f0.setNewAdd (o := 0) (i := 0) (g := g) (by omega) (.string b)
      generalize u0.setCell ((⟨g, 0, none⟩ : Addr).add 0) (.string b) = u1 at *
      refine ⟨⟨by rw [b1.cell (v := .int .i64 0) rfl]; rfl, b1.unfrozen 0 1⟩, ?_⟩
      have b2 := b1.set 0 (0 + 1) (.int .i64 many)
      have f2 := f1.setNewAdd (o := 0) (i := 0 + 1) (g := g) (by omega) (.int .i64 many)
      generalize u1.setCell ((⟨g, 0, none⟩ : Addr).add (0 + 1)) (.int .i64 many) = u2 at *
      refine ⟨⟨by rw [b2.cell (v := .int .i64 0) rfl]; rfl, b2.unfrozen 0 2⟩, ?_⟩
      have b3 := b2.set 0 (0 + 1 + 1) (.int .i64 most)
      have f3 := f2.setNewAdd (o := 0) (i := 0 + 1 + 1) (g := g) (by omega) (.int .i64 most)
      generalize u2.setCell ((⟨g, 0, none⟩ : Addr).add (0 + 1 + 1)) (.int .i64 most) = u3 at *
      refine ⟨b, b3.cell rfl, ?_⟩
      obtain ⟨X, cx, u4, hr4, ho4, f4, _, _⟩ := to_bytes bt u3 b (by simp [maxLen]; omega)
      refine ⟨_, _, _, _, hr4, ?_⟩
      have b4 := b3.ext f4
      refine ⟨most, b4.cell rfl, ?_⟩
      refine (GetBlob_spec ho4.imm0 (by rw [sb_length]; omega) ho4.le 0 most (by omega)).mono ?_
      rintro v u5 ⟨_, _, rfl, _, f5, _⟩
      refine ⟨_, _, _, _, _, rfl, ?_⟩
      have b5 := b4.ext f5
      refine ⟨b, b5.cell rfl, ?_⟩
      obtain ⟨Y, cy, u6, hr6, ho6, f6, _, _⟩ := to_bytes bt u5 b (by simp [maxLen]; omega)
      refine ⟨_, _, _, _, hr6, ?_⟩
      have b6 := b5.ext f6
      refine ⟨many, b6.cell rfl, most, b6.cell rfl, ?_⟩
      refine (GetBlobs_spec ho6.imm0 (by rw [sb_length]; omega) ho6.le 0 many most (by omega) (by omega)).mono ?_
      rintro v u7 ⟨_, _, rfl, _, f7, _⟩
      refine ⟨_, _, _, _, _, rfl, ?_⟩
      have f7 := (((f3.trans' f4).trans' f5).trans' f6).trans' f7
      generalize (getB (sb b) 0 most).2.2 = r1 at *
      generalize (getBs (sb b) 0 many most).2.2 = r2 at *
      have ho7 := (ho.keep f7 (fun _ _ h => h)).keep (Fr.alloc NoB u7 (.cells #[.int .i64 r1, .int .i64 r2] 3)) (fun _ _ h => h)
      have hsrc : Src Try.prog (u7.alloc (.cells #[.int .i64 r1, .int .i64 r2] 3)) 1 (.slice (some ⟨u7.heap.size, 0, none⟩) 2 2) 2 [.int .i64 r1, .int .i64 r2] := Src.new (cs := [.int .i64 r1, .int .i64 r2]) 3 rfl (by simp [Value.oneCell'])
      obtain ⟨A8, c8, u8', hr8, ho8, f8, hs8, _⟩ := append_own (ty := 27) (t2 := 27) slI ⟨_, slI.ht, fun _ h => by cases h⟩ ho7 hsrc (by simp [maxLen]; omega) (by omega)
      have g8 : Grew A A8 _ u8' := ⟨f8, hs8⟩
      have e78 : Ext w13 (u7.alloc (.cells #[.int .i64 r1, .int .i64 r2] 3)) := (e14.trans' f7).alloc _
      refine ⟨_, _, _, _, hr8, ?_⟩
      rw [wi _ (by omega) (by omega)]
      refine ⟨⟨j + 1, by omega, rfl, by omega, ?_, g8.ext e78 hn, g8.new e78 hn⟩, by dsimp only; omega⟩
      rw [show 2 * (j + 1) = 2 * j + 2 by omega, hw, List.map_append]
      exact ho8
    · obtain rfl : j = 8 := by omega
      have bW : Blk (w14.alloc (.cells (wants.map (Value.int .i64)).toArray 3)) w14.heap.size (wants.map (Value.int .i64)) := Blk.alloc _ _ _
      have e15 : Ext w14 (w14.alloc (.cells (wants.map (Value.int .i64)).toArray 3)) := Fr.alloc NoB w14 _
      have ho5 := ho.keep e15 (fun _ _ h => h)
      refine ⟨fun x w16 => ∃ i : Nat, i ≤ 16 ∧ x = (i : Int) ∧ Ext (w14.alloc (.cells (wants.map (Value.int .i64)).toArray 3)) w16, fun x _ => (16 - x).toNat, ⟨0, by omega, rfl, .refl _ _⟩, ?_⟩
      generalize w14.alloc (.cells (wants.map (Value.int .i64)).toArray 3) = w15 at *
      generalize w14.heap.size = g at *
      rintro _ w16 ⟨i, hi, rfl, e16⟩
      refine brd (fun hlt => ?_) (fun hlt => ?_)
      · have hi16 : i < wants.length := by simp [wants]; omega
        have hval : (wants.map (Value.int .i64))[0 + i * 1]? = some (.int .i64 wants[i]) := by simp [hi16]
        refine ⟨_, rfl, ⟨by omega, by omega⟩, _, (bW.ext e16).cell (by rw [Int.toNat_natCast]; exact hval), ?_⟩
        have hval2 : ((wants.take (2 * 8)).map (Value.int .i64))[i]? = some (.int .i64 wants[i]) := by
          rw [show wants.take (2 * 8) = wants from rfl]; simp [hi16]
        obtain ⟨g', hA', hc'⟩ := (ho5.keep e16 (fun _ _ h => h)).cells hval2
        refine ⟨_, hA', ⟨by omega, by omega⟩, _, by rw [Int.toNat_natCast, add_new, Nat.zero_add, Nat.mul_one]; exact hc', ?_⟩
        refine brn (fun h => absurd rfl h) (fun _ => ?_)
        rw [wi _ (by omega) (by omega)]
        exact ⟨⟨i + 1, by omega, rfl, e16⟩, by dsimp only; omega⟩
      · refine (awake_spec w16).mono ?_
        rintro v w17 ⟨rfl, e17⟩
        exact ⟨_, rfl, rfl, (((e13.trans' e14).trans' e15).trans' e16).trans' e17⟩
end Go.Proofs.Ytbpcfkahnhlahaa
