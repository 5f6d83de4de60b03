/- Layer 3 (record): a value's part of a key, bits turned. -/
import Derived.Test.YtakmlaliglmnmaaR2
set_option linter.unusedVariables false
set_option linter.unusedSimpArgs false
namespace Go.Proofs.Ytakmlaliglmnmaa
open Go Go.Sx R1

/-- append of bytes onto owned bytes -/
theorem appendBs {w : World} {A : Option Addr} {c : Nat} {l b : List UInt8} (h : OwnB w A c l) {x : Value} (hx : Src Try.prog w 1 x b.length (b.map u8)) (hb : l.length + b.length ≤ 140737488355328) (ty : TypeId) {t2 : TypeId} (ht2 : ∃ d, und Try.prog t2 = some d ∧ ∀ k, d ≠ .int k) :
    ∃ A' c' w', RunsTo Try.prog (Builtin.append_ #[76, t2] ty #[.slice A l.length c, x]) w (.slice A' (l ++ b).length c') w' ∧ OwnB w' A' c' (l ++ b) ∧ Grew A A' w w' := by
  obtain ⟨A', c', w', hr, ho, hf, hs, _⟩ := append_own (ty := ty) (t2 := t2) slB ht2 h hx (by simp [maxLen]; omega) (by omega)
  exact ⟨A', c', w', by rw [List.length_append]; exact hr, by unfold OwnB; rw [List.length_append, List.map_append]; exact ho, ⟨hf, hs⟩⟩
theorem isB : ∃ d, und Try.prog 76 = some d ∧ ∀ k, d ≠ .int k := ⟨_, slB.ht, fun _ h => by cases h⟩
theorem isS : ∃ d, und Try.prog 9 = some d ∧ ∀ k, d ≠ .int k := ⟨_, bt.hs, fun _ h => by cases h⟩

theorem xor_low {r : Nat} (h : r < 2 ^ 63) : r ^^^ 2 ^ 63 = r + 2 ^ 63 := by
  apply Nat.eq_of_testBit_eq
  intro i
  rw [Nat.testBit_xor, Nat.testBit_two_pow, Nat.add_comm]
  rcases Nat.lt_trichotomy i 63 with hi | hi | hi
  · rw [Nat.testBit_two_pow_add_gt hi, decide_eq_false (by omega), Bool.xor_false]
  · subst hi
    rw [Nat.testBit_two_pow_add_eq, decide_eq_true rfl, Bool.xor_true]
  · rw [decide_eq_false (by omega), Bool.xor_false]
    have h64 : 2 ^ 64 ≤ 2 ^ i := Nat.pow_le_pow_right (by decide) (by omega)
    rw [Nat.testBit_lt_two_pow (by omega), Nat.testBit_lt_two_pow (by omega)]
theorem xor_high {r : Nat} (h : r < 2 ^ 63) : (r + 2 ^ 63) ^^^ 2 ^ 63 = r := by
  rw [← xor_low h, Nat.xor_assoc, Nat.xor_self, Nat.xor_zero]
theorem xor_top {n : Int} (h1 : -9223372036854775808 ≤ n) (h2 : n ≤ 9223372036854775807) :
    IntKind.u64.wrap ((BitVec.toNat (BitVec.ofInt 64 (IntKind.u64.wrap n) ^^^ BitVec.ofInt 64 9223372036854775808) : Nat) : Int) = (((n + 9223372036854775808).toNat : Nat) : Int) := by
  rw [BitVec.toNat_xor, BitVec.toNat_ofInt, BitVec.toNat_ofInt, wu_mod n]
  have e2 : (9223372036854775808 % ((2 ^ 64 : Nat) : Int)).toNat = 2 ^ 63 := by decide
  rw [e2]
  have key : (n % 18446744073709551616 % ((2 ^ 64 : Nat) : Int)).toNat ^^^ 2 ^ 63 = (n + 9223372036854775808).toNat := by
    have e64 : ((2 ^ 64 : Nat) : Int) = 18446744073709551616 := by decide
    rw [e64]
    rcases Int.lt_or_le n 0 with hn | hn
    · have : (n % 18446744073709551616 % 18446744073709551616).toNat = (n + 9223372036854775808).toNat + 2 ^ 63 := by omega
      rw [this, xor_high (by omega)]
    · have : (n % 18446744073709551616 % 18446744073709551616).toNat = n.toNat := by omega
      rw [this, xor_low (by omega)]; omega
  rw [key, wu _ (by omega) (by omega)]
theorem flip8 : ∀ n : Fin 256, IntKind.u8.wrap ((BitVec.toNat (BitVec.ofInt 8 (if IntKind.signed .u8 = true then -1 else IntKind.max .u8) ^^^ BitVec.ofInt 8 ((n.val : Nat) : Int)) : Nat) : Int) = (((~~~ (UInt8.ofNat n.val)).toNat : Nat) : Int) := by decide +kernel
theorem flip_byte (b : UInt8) : Value.int .u8 (IntKind.u8.wrap ((BitVec.toNat (BitVec.ofInt 8 (if IntKind.signed .u8 = true then -1 else IntKind.max .u8) ^^^ BitVec.ofInt 8 (b.toNat : Int)) : Nat) : Int)) = u8 (~~~b) := by
  have := flip8 ⟨b.toNat, b.toNat_lt⟩
  rw [this]; simp [u8]
theorem byte_at (s : ByteArray) (i : Nat) (h : i < s.size) : s[i]? = some ((sb s).getD i 0) := by
  rw [getElem?_pos s i h]
  congr 1
  have h' : i < s.data.size := h
  have e : (sb s).getD i 0 = s.data[i] := by rw [List.getD_eq_getElem?_getD]; show s.data.toList[i]?.getD 0 = _; rw [Array.getElem?_toList, Array.getElem?_eq_getElem h']; rfl
  rw [e]; rfl
theorem take_succ (l : List UInt8) (j : Nat) (h : j < l.length) : l.take (j + 1) = l.take j ++ [l.getD j 0] := by
  rw [List.take_add_one]; simp [List.getD, h]

theorem part_spec {w : World} {A : Option Addr} {c : Nat} {l : List UInt8} (h : OwnB w A c l) (v : V) (hg : good v) (hb : l.length + 2 * v.s.size + 20 ≤ 140737488355328) :
    CallsV Try.prog 58 #[.slice A l.length c, .agg #[.int .u8 v.k, .int .i64 v.n, .string v.s]] w fun r w' => ∃ A' c', r = .slice A' (l ++ kpart v).length c' ∧ OwnB w' A' c' (l ++ kpart v) ∧ Grew A A' w w' := by
  refine record_part.calls okay ?_
  unfold record_part.W
  have b1 : Blk (w.alloc (.cells #[.slice A l.length c] 76)) w.heap.size [.slice A l.length c] := Blk.alloc _ _ _
  have e1 : Ext w (w.alloc (.cells #[.slice A l.length c] 76)) := Fr.alloc NoB w _
  have hlt1 := b1.lt
  generalize hg1 : w.heap.size = g1 at *
  generalize w.alloc (.cells #[.slice A l.length c] 76) = w1 at *
  have b2 : Blk (w1.alloc (.cells #[.int .u8 v.k, .int .i64 v.n, .string v.s] 31)) w1.heap.size [.int .u8 v.k, .int .i64 v.n, .string v.s] := Blk.alloc _ _ _
  have e2 : Ext w1 (w1.alloc (.cells #[.int .u8 v.k, .int .i64 v.n, .string v.s] 31)) := Fr.alloc NoB w1 _
  have hlt2 := b2.lt
  have hne : w1.heap.size ≠ g1 := by omega
  have hle2 : g1 ≤ w1.heap.size := by omega
  generalize w1.heap.size = g2 at *
  generalize w1.alloc (.cells #[.int .u8 v.k, .int .i64 v.n, .string v.s] 31) = W at *
  have b1W := b1.ext e2
  have eW := e1.trans' e2
  have hA : ∀ k, ownB A k → k < g1 := fun k hk => by rw [← hg1]; exact Own.lt h k hk
  have hold : Held W g1 A c l := ⟨h.ext eW, b1W, fun hk => by have := hA _ hk; omega⟩
  have hszW : g1 ≤ W.heap.size := by omega
  have fin : ∀ {A' : Option Addr} {w' : World} {S : Nat → Prop}, Fr S W w' → (∀ k, S k → ownB A k ∨ k = g1) → (∀ k, ownB A' k → ownB A k ∨ W.heap.size ≤ k) → Grew A A' w w' := by
    intro A' w' S hf hS hs
    refine ⟨eW.trans hf (fun _ _ h => h.elim) (fun k hk hk' => (hS k hk').elim id (fun e => by omega)), fun k hk => (hs k hk).imp id (fun h => by omega)⟩
  refine ⟨fun u => ∃ A1 c1, Held u g1 A1 c1 (l ++ [if v.k = 2 then 3 else 4]) ∧ v.k ≠ 0 ∧ v.k ≠ 1 ∧ Blk u g2 [.int .u8 v.k, .int .i64 v.n, .string v.s] ∧ Fr (fun k => ownB A k ∨ k = g1) W u ∧ ∀ k, ownB A1 k → ownB A k ∨ W.heap.size ≤ k, ?_, ?_⟩
  · rintro u ⟨A1, c1, hh, hk0, hk1, hb2, hf, hs⟩
    refine ⟨_, hb2.cell rfl, ?_⟩
    have hpart : kpart v = (if v.k = 2 then 3 else 4) :: esc (sb v.s) ++ [0, 0] := by rw [kpart, if_neg hk0, if_neg hk1]
    rw [hpart]
    generalize (if v.k = 2 then (3 : UInt8) else 4) = t at *
    refine ⟨fun x u2 => ∃ j : Nat, j ≤ v.s.size ∧ x = (j : Int) ∧ ∃ A2 c2, Held u2 g1 A2 c2 (l ++ [t] ++ esc ((sb v.s).take j)) ∧ Blk u2 g2 [.int .u8 v.k, .int .i64 v.n, .string v.s] ∧ Fr (fun k => ownB A k ∨ k = g1) W u2 ∧ ∀ k, ownB A2 k → ownB A k ∨ W.heap.size ≤ k,
      fun x _ => (v.s.size - x).toNat, ⟨0, by omega, rfl, A1, c1, by simpa [esc] using hh, hb2, hf, hs⟩, ?_⟩
    rintro _ u2 ⟨j, hj, rfl, A2, c2, hh2, hb22, hf2, hs2⟩
    have hel := esc_length ((sb v.s).take j)
    have htl : ((sb v.s).take j).length = j := by rw [List.length_take, sb_length]; omega
    have hlen : (l ++ [t] ++ esc ((sb v.s).take j)).length = l.length + 1 + (esc ((sb v.s).take j)).length := by simp; omega
    refine brd (fun hlt => ?_) (fun hge => ?_)
    · refine ⟨_, hb22.cell rfl, (sb v.s).getD j 0, ⟨by omega, byte_at _ _ (by omega)⟩, ?_⟩
      refine (put_spec hh2 ((sb v.s).getD j 0) (by omega)).mono ?_
      rintro r u3 ⟨rfl, A3, c3, hh3, hf3, hs3⟩
      refine ⟨rfl, ?_⟩
      rw [wi _ (by omega) (by omega)]
      refine ⟨⟨j + 1, by omega, rfl, A3, c3, ?_, ?_, ?_, ?_⟩, by dsimp only; omega⟩
      · rw [take_succ _ _ (by rw [sb_length]; omega), esc_append, ← List.append_assoc]; exact hh3
      · refine hb22.keep hf3 ?_
        rintro (hk | hk)
        · exact (hs2 _ hk).elim (fun hk => by have := hA _ hk; omega) (fun h => by omega)
        · exact hne hk
      · refine hf2.trans hf3 (fun _ _ h => h) (fun k hk hk' => ?_)
        rcases hk' with h | h
        · exact (hs2 k h).elim .inl (fun h => absurd hk (Nat.not_lt.2 h))
        · exact .inr h
      · intro k hk
        rcases hs3 k hk with h | h
        · exact hs2 k h
        · exact .inr (Nat.le_trans hf2.size h)
    · obtain rfl : j = v.s.size := by omega
      have hall : (sb v.s).take v.s.size = sb v.s := List.take_of_length_le (by rw [sb_length]; exact Nat.le_refl _)
      rw [hall] at hh2 hlen hel
      have al : Ext u2 (u2.alloc (.cells #[.int .u8 0, .int .u8 0] 5)) := Fr.alloc NoB u2 _
      obtain ⟨A4, c4, u4, hr4, ho4, hg4⟩ := appendBs (hh2.own.ext al) (b := [0, 0]) (Src.new (P := Try.prog) (w := u2) (m := 2) (c := 2) (cs := [u8 0, u8 0]) 5 rfl (by simp [u8, Value.oneCell'])) (by simp only [List.length_append, List.length_cons, List.length_nil] at *; rw [sb_length] at hel; omega) 76 isB
      refine ⟨_, _, _, hh2.blk.cell0 rfl, _, _, _, _, hr4, A4, c4, ?_, ?_, ?_⟩
      · simp
      · have : l ++ (t :: esc (sb v.s) ++ [0, 0]) = l ++ [t] ++ esc (sb v.s) ++ [0, 0] := by simp
        rw [this]; exact ho4
      · refine fin (S := fun k => ownB A k ∨ k = g1) (hf2.trans (al.trans hg4.fr (fun _ _ h => h.elim) (fun _ _ h => h)) (fun _ _ h => h) (fun k hk hk' => ?_)) (fun _ h => h) (fun k hk => ?_)
        · exact (hs2 k hk').elim .inl (fun h => absurd hk (Nat.not_lt.2 h))
        · rcases hg4.sub k hk with h | h
          · exact hs2 k h
          · exact .inr (Nat.le_trans hf2.size (Nat.le_trans al.size h))
  refine ⟨_, b2.cell rfl, ?_⟩
  refine brd (fun h0 => ?_) (fun h0 => ?_)
  · obtain ⟨A4, c4, u4, hr4, ho4, hg4, _⟩ := appendB hold.own 1 (by omega) 5 76
    refine ⟨_, _, _, hold.blk.cell0 rfl, _, _, _, _, hr4, A4, c4, ?_, ?_, fin hg4.fr (fun _ h => .inl h) hg4.sub⟩
    · rw [kpart, if_pos h0]; simp
    · rw [kpart, if_pos h0]; exact ho4
  refine brd (fun h1 => ?_) (fun h1 => ?_)
  · refine ⟨fun u => Fr (ownB A) W u, Fr.drew _ W, _, _, _, fun u hu => (b1W.keep hu hold.off).cell0 rfl, _, fun u hu => (b2.keep hu (fun hk => by have := hA _ hk; omega)).cell rfl, fun u => Fr (ownB A) W u, fun _ h => h, (Fr.drew _ W).ext (Fr.alloc _ _ _), ?_⟩
    obtain ⟨A4, c4, u4, hr4, ho4, hg4, _⟩ := appendB (hold.own.ext (Fr.drew NoB W)) 2 (by omega) 5 76
    have hf4 : Fr (ownB A) W u4 := (Fr.drew (ownB A) W).ext hg4.fr
    refine ⟨_, _, _, _, hr4, fun u => Fr (ownB A) W u, fun _ h => h, hf4, ?_⟩
    rw [xor_top hg.2.1.1 hg.2.1.2]
    have hlen : (l ++ [2]).length = l.length + 1 := by simp
    rw [← hlen]
    refine (high_spec ho4 (v.n + 9223372036854775808).toNat 8 (by have := hg.2.1; omega) (by omega) (by omega)).mono ?_
    rintro r u5 ⟨A5, c5, rfl, ho5, hg5⟩
    have hg45 := (Grew.mk hf4 hg4.sub : Grew A A4 W u4).trans hg5
    refine ⟨_, _, _, rfl, fun u => Fr (ownB A) W u, fun _ h => h, hg45.fr, A5, c5, ?_, ?_, fin hg45.fr (fun _ h => .inl h) hg45.sub⟩
    · rw [kpart, if_neg h0, if_pos h1]; simp
    · rw [kpart, if_neg h0, if_pos h1]; simpa using ho5
  refine brd (fun h2 => ?_) (fun h2 => ?_)
  all_goals
    first
    | (have htt : (if v.k = 2 then (3 : UInt8) else 4) = 3 := if_pos h2)
    | (have htt : (if v.k = 2 then (3 : UInt8) else 4) = 4 := if_neg h2)
    obtain ⟨A4, c4, u4, hr4, ho4, hg4, _⟩ := appendB hold.own (if v.k = 2 then (3 : UInt8) else 4) (by omega) 5 76
    obtain ⟨hs4, hh4, hf4⟩ := hold.push ho4 hg4
    rw [htt] at hr4
    have hlen : (l ++ [if v.k = 2 then (3 : UInt8) else 4]).length = l.length + 1 := by simp
    rw [hlen] at hh4 hf4
    refine ⟨_, _, _, hold.blk.cell0 rfl, _, _, _, _, hr4, hs4, A4, c4, hh4, h0, h1, b2.keep hf4 ?_, hf4, hg4.sub⟩
    rintro (hk | hk)
    · have := hA _ hk; omega
    · exact hne hk

/-- bits turned, of the end of what is owned -/
theorem turn_spec {w : World} {A : Option Addr} {c : Nat} {p l : List UInt8} (h : OwnB w A c (p ++ l)) (hl : (p ++ l).length ≤ 140737488355328) {g : Nat} (hA : A = some ⟨g, 0, none⟩) (c' : Nat) :
    CallsV Try.prog 59 #[.slice (some ⟨g, p.length, none⟩) l.length c'] w fun r w' => r = .tuple #[] ∧ OwnB w' A c (p ++ tn true l) ∧ Fr (ownB A) w w' := by
  refine record_turn.calls okay ?_
  unfold record_turn.W
  subst hA
  rw [List.length_append] at hl
  refine ⟨fun x u => ∃ j : Nat, j ≤ l.length ∧ x = (j : Int) ∧ OwnB u (some ⟨g, 0, none⟩) c (p ++ (tn true (l.take j) ++ l.drop j)) ∧ Fr (ownB (some ⟨g, 0, none⟩)) w u, fun x _ => (l.length - x).toNat, ⟨0, by omega, rfl, by simpa [tn] using h, .refl _ _⟩, ?_⟩
  rintro _ u ⟨j, hj, rfl, ho, hf⟩
  refine brd (fun hlt => ?_) (fun hge => ?_)
  · have hjl : j < l.length := by omega
    have hd : l.drop j = l.getD j 0 :: l.drop (j + 1) := by rw [List.drop_eq_getElem_cons hjl]; simp [List.getD, hjl]
    have htl : (tn true (l.take j)).length = j := by rw [tn_length, List.length_take]; omega
    have hlen : (p ++ (tn true (l.take j) ++ l.drop j)).length = p.length + l.length := by simp [htl]; omega
    obtain ⟨g', hg', hs1, hs2, hset⟩ := Own.at_ ho (j := p.length + j) (by rw [hlen]; omega)
    cases hg'
    have hcell : u.cell? ⟨g, p.length + j, none⟩ = some (u8 (l.getD j 0)) := by
      obtain ⟨g', hg', hc⟩ := Own.cells ho (j := p.length + j) (v := u8 (l.getD j 0)) (by
        rw [List.getElem?_map, List.getElem?_append_right (by omega), List.getElem?_append_right (by omega), hd]
        simp [htl])
      cases hg'
      exact hc
    refine ⟨_, rfl, ⟨by omega, by omega⟩, _, by rw [Int.toNat_natCast, add_new, Nat.mul_one]; exact hcell, _, rfl, ⟨by omega, by omega⟩, ?_⟩
    rw [Int.toNat_natCast, add_new, add_new, Nat.mul_one, Nat.add_zero, flip_byte, wi _ (by omega) (by omega)]
    have hset' := hset (u8 (~~~ (l.getD j 0)))
    refine ⟨⟨hs1, hs2⟩, ⟨j + 1, by omega, rfl, ?_, hf.trans hset'.2 (fun _ _ h => h) (fun _ _ h => h)⟩, by dsimp only; omega⟩
    have e : p ++ (tn true (l.take (j + 1)) ++ l.drop (j + 1)) = (p ++ (tn true (l.take j) ++ l.drop j)).set (p.length + j) (~~~ (l.getD j 0)) := by
      rw [List.set_append_right _ _ (by omega), List.set_append_right _ _ (by omega), hd, take_succ _ _ hjl]
      have : p.length + j - p.length - (tn true (l.take j)).length = 0 := by omega
      rw [this]
      simp [tn]
    rw [e]
    have := hset'.1
    unfold OwnB
    rw [List.length_set, List.map_set]
    exact this
  · obtain rfl : j = l.length := by omega
    exact ⟨rfl, by simpa using ho, hf⟩
end Go.Proofs.Ytakmlaliglmnmaa
