/- Layer 3 (record): a value at the begin of a key. -/
import Derived.Test.YtpaockbhbdeekaaG2
set_option linter.unusedVariables false
set_option linter.unusedSimpArgs false
namespace Go.Proofs.Ytpaockbhbdeekaa
open Go Go.Sx R1

theorem xor63 {m : Nat} (h : m < 18446744073709551616) : IntKind.i64.wrap (IntKind.u64.wrap ((BitVec.toNat (BitVec.ofInt 64 (m : Int) ^^^ BitVec.ofInt 64 9223372036854775808) : Nat) : Int)) = (m : Int) - 9223372036854775808 := by
  rw [BitVec.toNat_xor, BitVec.toNat_ofInt, BitVec.toNat_ofInt]
  have e2 : (9223372036854775808 % ((2 ^ 64 : Nat) : Int)).toNat = 2 ^ 63 := by decide
  have e64 : ((2 ^ 64 : Nat) : Int) = 18446744073709551616 := by decide
  rw [e2, e64]
  have e3 : ((m : Int) % 18446744073709551616).toNat = m := by omega
  rw [e3]
  rcases Nat.lt_or_ge m (2 ^ 63) with hm | hm
  · rw [xor_low hm, wu _ (by omega) (by omega), IntKind.wrap_i64]; omega
  · have : m = (m - 2 ^ 63) + 2 ^ 63 := by omega
    rw [this, xor_high (by omega), wu _ (by omega) (by omega), wi _ (by omega) (by omega)]; omega
theorem itemB9 {w : World} {A : Option Addr} {l : List UInt8} (h : Imm KB NoB w A l) {j : Nat} (h1 : j < l.length) :
    ∃ ad, A = some ad ∧ ∀ u S, Fr S w u → (∀ k, k < w.heap.size → ¬ S k) → u.cell? (ad.add (j * 1)) = some (.int .u8 ((l.getD j 0).toNat : Int)) := by
  obtain ⟨ad, hA, hc⟩ := itemB8 h h1
  refine ⟨ad, hA, fun u S hf hS => hf.cell (hS _ (World.block_lt_of_cell? w _ hc)) hc⟩
theorem dropB (l : List UInt8) (i : Nat) (h : i < l.length) : l.drop i = l.getD i 0 :: l.drop (i + 1) := by rw [List.drop_eq_getElem_cons h]; simp [List.getD, h]
theorem unesc2 (c d : UInt8) (r : List UInt8) : unesc (c :: d :: r) = if c ≠ 0 then (unesc (d :: r)).map fun x => (c :: x.1, x.2 + 1) else if d = 255 then (unesc r).map fun x => (0 :: x.1, x.2 + 2) else if d = 0 then some ([], 2) else none := by rw [unesc]
theorem unesc_short {l : List UInt8} (h : l.length ≤ 1) : unesc l = none := by
  match l, h with
  | [], _ => rw [unesc]
  | [c], _ => rw [unesc]
theorem u8z (b : UInt8) : ((b.toNat : Int) = 0) ↔ b = 0 := by rw [← UInt8.toNat_inj]; simp
theorem u8n (b : UInt8) (n : Nat) (hn : n < 256) : ((b.toNat : Int) = (n : Int)) ↔ b = n.toUInt8 := by
  rw [← UInt8.toNat_inj, B1.toUInt8_toNat hn]; omega
theorem parted_spec {w : World} {A : Option Addr} {c n : Nat} {b : List UInt8} (hn : n = b.length) (h : Imm KB NoB w A b) (hl : b.length ≤ 1048576) (hc : b.length ≤ c) :
    CallsV Try.prog 58 #[.slice A n c] w fun r w' => TellsV w (partedP b) r w' := by
  subst hn
  refine record_parted.calls okay ?_
  unfold record_parted.W
  intro g w1 f1
  have b1 := f1.blk
  have e1 := f1.ext
  have hgw := f1.ge
  have put : ∀ (o : Option (V × Nat)) (u : World) (v : V) (m : Nat) (t : Bool), t = o.isSome → (∀ x, o = some x → x = (v, m)) → Ext w u → Blk u g [.int .u8 0, .int .i64 0, .string (ByteArray.mk #[])] → stOK (⟨g, 0, none⟩ : Addr) 0 [.int .u8 v.k, .int .i64 v.n, .string v.s] u ∧ ∀ w2, w2 = setAll ⟨g, 0, none⟩ 0 [.int .u8 v.k, .int .i64 v.n, .string v.s] u →
      ∃ x, w2.cell? ((⟨g, 0, none⟩ : Addr).add 0) = some (.int .u8 x) ∧ ∃ x_1, w2.cell? ((⟨g, 0, none⟩ : Addr).add (0 + 1)) = some (.int .i64 x_1) ∧ ∃ x_2, w2.cell? ((⟨g, 0, none⟩ : Addr).add (0 + 1 + 1)) = some (.string x_2) ∧ TellsV w o (.tuple #[.agg #[.int .u8 x, .int .i64 x_1, .string x_2], .int .i64 (m : Nat), .bool t]) w2 := by
    rintro o u v m t rfl hv eu bu
    refine ⟨okW3 bu _ _ _, ?_⟩
    rintro w2 rfl
    have b2 := setW3 bu (.int .u8 v.k) (.int .i64 v.n) (.string v.s)
    exact ⟨_, b2.cell rfl, _, b2.cell rfl, _, b2.cell rfl, v, m, rfl, hv, eu.setAll hgw _ _⟩
  have none' : ∀ (o : Option (V × Nat)) (u : World), o = none → Ext w u → Blk u g [.int .u8 0, .int .i64 0, .string (ByteArray.mk #[])] → _ := fun o u ho eu bu => put o u ⟨0, 0, ByteArray.mk #[]⟩ 0 false (by rw [ho]; rfl) (fun x hx => by rw [ho] at hx; cases hx) eu bu
  refine brd (fun h0 => none' (partedP b) w1 (by have hb0 : b = [] := List.eq_nil_of_length_eq_zero (by omega); rw [hb0]; rfl) e1 b1) (fun h0 => ?_)
  have hpos : 0 < b.length := by omega
  obtain ⟨ad, hA, cb0⟩ := itemB9 h (j := 0) hpos
  have c0 := cb0 w1 NoB e1 (fun _ _ h => h)
  have hsp := dropB b 0 hpos
  rw [List.drop_zero] at hsp
  have hP : partedP b = partedP (b.getD 0 0 :: b.drop 1) := by rw [← hsp]
  generalize b.getD 0 0 = t at *
  have ht := t.toNat_lt
  refine ⟨ad, hA, ⟨by omega, by omega⟩, _, c0, ?_⟩
  have hdl : (b.drop 1).length = b.length - 1 := by simp
  refine brd (fun h1 => ?_) (fun h1 => ?_)
  · have : t = 1 := (u8n t 1 (by decide)).1 h1
    refine put (partedP b) w1 ⟨0, 0, ByteArray.mk #[]⟩ 1 true ?_ ?_ e1 b1
    · rw [hP, partedP, if_pos this]; rfl
    · intro x hx; rw [hP, partedP, if_pos this] at hx; cases hx; rfl
  have n1 : ¬ t = 1 := fun e => h1 ((u8n t 1 (by decide)).2 e)
  refine brd (fun h2 => ?_) (fun h2 => ?_)
  · have t2 : t = 2 := (u8n t 2 (by decide)).1 h2
    refine brd (fun h9 => none' _ w1 (by rw [hP, partedP, if_neg n1, if_pos t2, if_pos (by omega)]) e1 b1) (fun h9 => ?_)
    have hcut : Imm KB NoB w (cutAt A c 1 1) ((b.take 9).drop 1) := h.cut (lo := 1) (hi := 9) (m := c) (by omega)
    have hcl : ((b.take 9).drop 1).length = 8 := by rw [List.length_drop, List.length_take]; omega
    have hce : (b.take 9).drop 1 = (b.drop 1).take 8 := by rw [List.drop_take]
    refine ⟨⟨by omega, by omega⟩, ⟨by omega, by decide⟩, ?_⟩
    have e98 : ((Int.toNat 9 - Int.toNat 1 : Nat) : Int) = 8 := by decide
    rw [e98]
    refine ⟨fun x y u => ∃ j : Nat, j ≤ 8 ∧ y = (j : Int) ∧ x = (be (((b.drop 1).take 8).take j) : Int) ∧ u = w1, fun _ y _ => (8 - y).toNat, ⟨0, by omega, rfl, rfl, rfl⟩, ?_⟩
    rintro _ _ u ⟨j, hj, rfl, rfl, rfl⟩
    have hbl := be_lt (((b.drop 1).take 8).take j)
    rw [hce] at hcut hcl
    rw [List.length_take, hcl, Nat.min_eq_left hj] at hbl
    refine brd (fun hlt => ?_) (fun hge => ?_)
    · obtain ⟨ad', hA', hcl'⟩ := itemB8 (hcut.ext KB_pos e1) (j := j) (by omega)
      have h7 : 256 ^ j ≤ 256 ^ 7 := Nat.pow_le_pow_right (by decide) (by omega)
      have hb := (((b.drop 1).take 8).getD j 0).toNat_lt
      refine ⟨ad', hA', ⟨by omega, by omega⟩, _, by rw [Int.toNat_natCast]; exact hcl', by omega, ?_⟩
      rw [or_byte (Nat.lt_of_lt_of_le hbl h7) hb, wi _ (by omega) (by omega)]
      refine ⟨⟨j + 1, by omega, rfl, ?_, rfl⟩, by dsimp only; omega⟩
      rw [take_snoc8 ((b.drop 1).take 8) j (by omega), be_snoc]
    · obtain rfl : j = 8 := by omega
      rw [List.take_of_length_le (by omega)] at hbl ⊢
      rw [xor63 (Nat.lt_of_lt_of_le hbl (by decide))]
      refine put (partedP b) u ⟨1, (be ((b.drop 1).take 8) : Int) - 9223372036854775808, ByteArray.mk #[]⟩ 9 true ?_ ?_ e1 b1
      · rw [hP, partedP, if_neg n1, if_pos t2, if_neg (by omega)]; rfl
      · intro x hx; rw [hP, partedP, if_neg n1, if_pos t2, if_neg (by omega)] at hx; cases hx; rfl
  have n2 : ¬ t = 2 := fun e => h2 ((u8n t 2 (by decide)).2 e)
  refine ⟨fun x u => u = w1 ∧ (x = true ↔ (t = 3 ∨ t = 4)), ?_, ?_⟩
  · rintro x u ⟨rfl, hx⟩
    refine br (fun hxt => ?_) (fun hxf => none' _ u (by rw [hP, partedP, if_neg n1, if_neg n2, if_neg (fun hh => by rw [hx.2 hh] at hxf; cases hxf)]) e1 b1)
    have t34 := hx.1 hxt
    have hP2 : partedP b = (match unesc (b.drop 1) with | none => none | some (s, n) => if s.length ≤ 65536 then some (⟨(t.toNat : Int) - 1, 0, ⟨s.toArray⟩⟩, n + 1) else none) := by
      rw [hP, partedP, if_neg n1, if_neg n2, if_pos t34]; rfl
    refine ⟨fun y y1 y2 q v => ∃ (i : Nat) (s : List UInt8), 1 ≤ i ∧ i ≤ b.length + 1 ∧ s.length ≤ i ∧ q = (i : Int) ∧ y1 = s.length ∧ OwnB v y y2 s ∧ Ext u v ∧ New u y ∧ unesc (b.drop 1) = (unesc (b.drop i)).map (fun x => (s ++ x.1, x.2 + (i - 1))), fun _ _ _ q _ => (b.length + 2 - q).toNat,
      ⟨1, [], by omega, by omega, by simp, rfl, rfl, OwnB.nil _, .refl _ _, New.none _, by cases hh : unesc (b.drop 1) <;> simp [hh]⟩, ?_⟩
    rintro y _ y2 _ v ⟨i, s, hi1, hil, hsl, rfl, rfl, ho, ev, ny, hun⟩
    have w1i : IntKind.i64.wrap ((i : Int) + 1) = ((i + 1 : Nat) : Int) := by rw [wi _ (by omega) (by omega)]; rfl
    have w2i : IntKind.i64.wrap (((i + 1 : Nat) : Int) + 1) = ((i + 2 : Nat) : Int) := by rw [wi _ (by omega) (by omega)]; omega
    have w3i : IntKind.i64.wrap ((i : Int) + 2) = ((i + 2 : Nat) : Int) := by rw [wi _ (by omega) (by omega)]; rfl
    rw [w1i, w2i, w3i]
    have bv := b1.ext ev
    have ewv := e1.trans' ev
    refine brd (fun hlt => ?_) (fun hge => none' _ v (by rw [hP2, hun, unesc_short (by rw [List.length_drop]; omega)]; rfl) ewv bv)
    have hi0 : i + 1 < b.length := by omega
    obtain ⟨ad1, hA1, cI⟩ := itemB9 h (j := i) (by omega)
    obtain ⟨ad2, hA2, cJ⟩ := itemB9 h (j := i + 1) hi0
    have hd : b.drop i = b.getD i 0 :: b.getD (i + 1) 0 :: b.drop (i + 2) := by rw [dropB b i (by omega), dropB b (i + 1) hi0]
    have hd1 : b.drop (i + 1) = b.getD (i + 1) 0 :: b.drop (i + 2) := dropB b (i + 1) hi0
    generalize b.getD i 0 = p at *
    generalize b.getD (i + 1) 0 = q at *
    have hp := p.toNat_lt
    have hq := q.toNat_lt
    rw [hd, unesc2] at hun
    simp only [Int.toNat_natCast]
    have noB : ∀ k, k < w.heap.size → ¬ NoB k := fun _ _ h => h
    refine ⟨ad1, hA1, ⟨by omega, by omega⟩, _, cI v NoB ewv noB, brn (fun hp0 => ?_) (fun hp0 => ?_)⟩
    · have hpn : p ≠ 0 := fun e => hp0 ((u8z p).2 e)
      rw [if_pos hpn, ← hd1] at hun
      refine ⟨ad1, hA1, ⟨by omega, by omega⟩, _, cI v NoB ewv noB, ?_⟩
      intro gn v1 f
      obtain ⟨rfl, rfl⟩ := f
      obtain ⟨z, z2, v2, hr2, ho2, g2, _⟩ := appendB ho p (by omega) 5 27
      refine ⟨_, _, _, _, hr2, ⟨i + 1, s ++ [p], by omega, by omega, by simp; omega, rfl, by simp, ho2, g2.ext ev ny, g2.new ev ny, ?_⟩, by omega⟩
      rw [hun]
      cases unesc (b.drop (i + 1)) with
      | none => rfl
      | some x => simp; omega
    · have hpz : p = 0 := (u8z p).1 hp0
      rw [if_neg (by simpa using hpz)] at hun
      refine ⟨ad2, hA2, ⟨by omega, by omega⟩, _, cJ v NoB ewv noB, brd (fun hq5 => ?_) (fun hq5 => ?_)⟩
      · have hqn : q = 255 := (u8n q 255 (by decide)).1 hq5
        rw [if_pos hqn] at hun
        intro gn v1 f
        obtain ⟨rfl, rfl⟩ := f
        obtain ⟨z, z2, v2, hr2, ho2, g2, _⟩ := appendB ho 0 (by omega) 5 27
        refine ⟨_, _, _, _, hr2, ⟨i + 2, s ++ [0], by omega, by omega, by simp; omega, rfl, by simp, ho2, g2.ext ev ny, g2.new ev ny, ?_⟩, by omega⟩
        rw [hun]
        cases unesc (b.drop (i + 2)) with
        | none => rfl
        | some x => simp; omega
      · have hqn : ¬ q = 255 := fun e => hq5 ((u8n q 255 (by decide)).2 e)
        rw [if_neg hqn] at hun
        have ed : Ext v v.drew := Fr.drew NoB v
        refine ⟨ad, hA, ⟨by omega, by omega⟩, fun z => Ext v z, ed, _, fun z hz => cb0 z NoB (ewv.trans' hz) noB, _, to_str_all bt ho.imm0 y2, ?_⟩
        intro g1 v1 f1'
        refine ⟨ed.trans' f1'.ext, okW3 f1'.blk _ _ _, ?_⟩
        intro v2 hv2
        have hw8 : IntKind.u8.wrap ((t.toNat : Int) - 1) = (t.toNat : Int) - 1 := by
          rcases t34 with rfl | rfl <;> decide
        rw [hw8] at hv2
        have b2 := setW3 f1'.blk (.int .u8 ((t.toNat : Int) - 1)) (.int .i64 0) (.string ⟨s.toArray⟩)
        have e12 : Ext v v2 := by rw [hv2]; exact (ed.trans' f1'.ext).setAll (Nat.le_trans ed.size f1'.ge) _ _
        rw [← hv2] at b2
        have hg1g : g1 ≠ g := by have := f1'.ge; have := bv.lt; have h3 : v.drew.heap.size = v.heap.size := rfl; omega
        have ed2 : Ext v2 v2.drew := Fr.drew NoB v2
        have ew2 : Ext w v2 := ewv.trans' e12
        have bg := bv.ext (e12.trans' ed2)
        have ew3 : Ext w v2.drew := ew2.trans' ed2
        have hgS : ∀ k, k < w.heap.size → ¬ (k = g) := fun k hk e => by omega
        refine ⟨fun z => Fr (fun k => k = g) v2 z, ed2.fr, _, fun z hz => (b2.keep hz hg1g).cell rfl, _, fun z hz => (b2.keep hz hg1g).cell rfl, _, fun z hz => (b2.keep hz hg1g).cell rfl, ad2, hA2, ⟨by omega, by omega⟩, _, fun z hz => cJ z (fun k => k = g) (ew2.trans hz (fun _ _ h => h.elim) (fun _ _ h => h)) hgS, ?_⟩
        have fin : ∀ (tt : Bool), tt = (partedP b).isSome → (∀ x, partedP b = some x → x = (⟨(t.toNat : Int) - 1, 0, ⟨s.toArray⟩⟩, i + 2)) → stOK (⟨g, 0, none⟩ : Addr) 0 [.int .u8 ((t.toNat : Int) - 1), .int .i64 0, .string ⟨s.toArray⟩] v2.drew ∧ ∀ w2, w2 = setAll ⟨g, 0, none⟩ 0 [.int .u8 ((t.toNat : Int) - 1), .int .i64 0, .string ⟨s.toArray⟩] v2.drew → Fr (fun k => k = g) v2 w2 ∧
            ∃ x, w2.cell? ((⟨g, 0, none⟩ : Addr).add 0) = some (.int .u8 x) ∧ ∃ x_1, w2.cell? ((⟨g, 0, none⟩ : Addr).add (0 + 1)) = some (.int .i64 x_1) ∧ ∃ x_2, w2.cell? ((⟨g, 0, none⟩ : Addr).add (0 + 1 + 1)) = some (.string x_2) ∧ TellsV w (partedP b) (.tuple #[.agg #[.int .u8 x, .int .i64 x_1, .string x_2], .int .i64 ((i + 2 : Nat) : Int), .bool tt]) w2 := by
          intro tt htt hxx
          obtain ⟨q1, q2⟩ := put (partedP b) v2.drew ⟨(t.toNat : Int) - 1, 0, ⟨s.toArray⟩⟩ (i + 2) tt htt hxx ew3 bg
          refine ⟨q1, fun w2 hw2 => ⟨?_, q2 w2 hw2⟩⟩
          rw [hw2]
          exact ed2.fr.trans (Fr.setAll _ 0 _) (fun _ _ h => h) (fun _ _ h => h)
        refine brd (fun hqz => ?_) (fun hqz => ?_)
        · have hq0 : q = 0 := (u8z q).1 hqz
          rw [if_pos hq0] at hun
          have hP3 : partedP b = if s.length ≤ 65536 then some (⟨(t.toNat : Int) - 1, 0, ⟨s.toArray⟩⟩, i + 2) else none := by
            rw [hP2, hun]
            simp only [Option.map_some, List.append_nil]
            rw [show 2 + (i - 1) + 1 = i + 2 by omega]
          refine fin _ ?_ ?_
          · rw [hP3]
            by_cases hs : s.length ≤ 65536
            · rw [if_pos hs, decide_eq_true (by omega)]; rfl
            · rw [if_neg hs, decide_eq_false (by omega)]; rfl
          · intro x hx
            rw [hP3] at hx
            split at hx <;> cases hx
            rfl
        · have hq0 : ¬ q = 0 := fun e => hqz ((u8z q).2 e)
          rw [if_neg hq0] at hun
          have hP3 : partedP b = none := by rw [hP2, hun]; rfl
          exact fin false (by rw [hP3]; rfl) (fun x hx => by rw [hP3] at hx; cases hx)
  · refine brd (fun h3 => ⟨rfl, ?_⟩) (fun h3 => ⟨rfl, ?_⟩)
    · have := (u8n t 3 (by decide)).1 h3
      rw [decide_eq_true h3]
      exact ⟨fun _ => .inl this, fun _ => rfl⟩
    · have n3 : ¬ t = 3 := fun e => h3 ((u8n t 3 (by decide)).2 e)
      rw [decide_eq_true_iff]
      have := u8n t 4 (by decide)
      exact ⟨fun h => .inr (this.1 h), fun h => this.2 (h.resolve_left n3)⟩
end Go.Proofs.Ytpaockbhbdeekaa
