/- The document's answer for layers 1 and 3: a number that is read; are two lists the same? -/
import Derived.Test.YtbpcfkahnhlahaaF1
import Derived.Test.YtbpcfkahnhlahaaB2
set_option linter.unusedVariables false
set_option linter.unusedSimpArgs false
namespace Go.Proofs.Ytbpcfkahnhlahaa
open Go Go.Sx

theorem btF : BT Try.prog 30 5 9 := ⟨by kernel_rfl, by kernel_rfl, by kernel_rfl⟩
/-- what j digits say -/
def sm (d : List UInt8) : Nat → Nat
  | 0 => 0
  | j + 1 => sm d j + (d.getD j 0).toNat % 128 * 128 ^ j
theorem sm_cons (c : UInt8) (r : List UInt8) : ∀ j, sm (c :: r) (j + 1) = c.toNat % 128 + 128 * sm r j
  | 0 => by simp [sm]
  | j + 1 => by
    rw [sm, sm_cons c r j, sm]
    have : (c :: r).getD (j + 1) 0 = r.getD j 0 := by simp [List.getD]
    rw [this, Nat.pow_succ, Nat.mul_add, Nat.mul_comm (128 ^ j) 128, ← Nat.mul_assoc, Nat.mul_comm _ 128, Nat.mul_assoc]
    omega
theorem sm_vt : ∀ (s : Nat) (l : List UInt8), s < l.length → (∀ i, i < s → 128 ≤ (l.getD i 0).toNat) → (l.getD s 0).toNat < 128 → sm l (s + 1) = B1.vt s l
  | _, [], h, _, _ => absurd h (Nat.not_lt_zero _)
  | 0, c :: r, _, _, h => by
    have h : c.toNat < 128 := h
    rw [sm_cons]
    show c.toNat % 128 + 128 * 0 = c.toNat
    omega
  | s + 1, c :: r, h, hg, hl => by
    have h0 : 128 ≤ c.toNat := hg 0 (by omega)
    have := sm_vt s r (Nat.lt_of_succ_lt_succ h) (fun i hi => hg (i + 1) (by omega)) hl
    have hc := c.toNat_lt
    rw [sm_cons, this]
    show c.toNat % 128 + 128 * B1.vt s r = 128 * B1.vt s r + (c.toNat - 128)
    omega
theorem sm_take (l : List UInt8) (m : Nat) : ∀ j, j ≤ m → j ≤ l.length → sm (l.take m) j = sm l j
  | 0, _, _ => rfl
  | j + 1, h, h2 => by
    rw [sm, sm, sm_take l m j (by omega) (by omega)]
    have : (l.take m).getD j 0 = l.getD j 0 := by simp [List.getD, List.getElem?_take, show j < m by omega]
    rw [this]
/-- the digits: how many are taken -/
def Digits (l : List UInt8) (m : Nat) : Prop := m ≤ l.length ∧ m ≤ 10 ∧ (∀ i, i + 1 < m → 128 ≤ (l.getD i 0).toNat) ∧ ((0 < m ∧ (l.getD (m - 1) 0).toNat < 128) ∨ ((∀ i, i < m → 128 ≤ (l.getD i 0).toNat) ∧ (m = l.length ∨ m = 10)))
theorem digits_short {l : List UInt8} {m : Nat} (h : Digits l m) (h10 : m < 10) (hs : m = 0 ∨ 128 ≤ (l.getD (m - 1) 0).toNat) : B1.dec 0 l = .short := by
  obtain ⟨h1, h2, h3, h4⟩ := h
  rcases h4 with ⟨h5, h6⟩ | ⟨h5, h6⟩
  · omega
  · have hm : m = l.length := by omega
    have hsc := B1.scan_unique l 0 m (by omega) h1 h5 (.inl hm)
    rw [B1.dec_eq, hsc, if_neg (by omega)]
theorem digits_full {l : List UInt8} {m : Nat} (h : Digits l m) (hs : ¬ (m < 10 ∧ (m = 0 ∨ 128 ≤ (l.getD (m - 1) 0).toNat))) : ∃ s, m = s + 1 ∧ B1.scan 0 l = s ∧ s < l.length ∧ s ≤ 9 := by
  obtain ⟨h1, h2, h3, h4⟩ := h
  rcases h4 with ⟨h5, h6⟩ | ⟨h5, h6⟩
  · refine ⟨m - 1, by omega, B1.scan_unique l 0 (m - 1) (by omega) (by omega) (fun i hi => h3 i (by omega)) (.inr (.inr h6)), by omega, by omega⟩
  · have hm : m = 10 := by
      rcases h6 with h | h
      · rcases Nat.lt_or_ge m 10 with h' | h'
        · exfalso
          apply hs
          refine ⟨h', ?_⟩
          rcases Nat.eq_zero_or_pos m with h0 | h0
          · exact .inl h0
          · exact .inr (h5 (m - 1) (by omega))
        · omega
      · exact h
    refine ⟨9, hm, B1.scan_unique l 0 9 (by omega) (by omega) (fun i hi => h5 i (by omega)) (.inr (.inl rfl)), by omega, by omega⟩
/-- as what is written of what they say, or not -/
theorem digits_tell {l : List UInt8} {s : Nat} (hs : B1.scan 0 l = s) (hlt : s < l.length) (h9 : s ≤ 9) :
    (B1.enc (sm l (s + 1) % 18446744073709551616) = l.take (s + 1) → B1.dec 0 l = .ok (sm l (s + 1) % 18446744073709551616) (s + 1)) ∧ (B1.enc (sm l (s + 1) % 18446744073709551616) ≠ l.take (s + 1) → B1.dec 0 l = .bad) := by
  have hd := B1.dec_eq l 0
  rw [hs, if_pos hlt] at hd
  have hlim : sm l (s + 1) % 18446744073709551616 < 18446744073709551616 := Nat.mod_lt _ (by decide)
  constructor
  · intro he
    have h2 := B1.dec_enc (sm l (s + 1) % 18446744073709551616) 0 (l.drop (s + 1)) (by omega) (B1.lim64 hlim) (by omega)
    rw [he, List.take_append_drop, List.length_take, Nat.min_eq_left (by omega)] at h2
    exact h2
  · intro hne
    by_cases hb : (0 < 0 + s ∧ (l.getD s 0).toNat = 0) ∨ (0 + s = 9 ∧ 2 ≤ (l.getD s 0).toNat)
    · rw [hd, if_pos hb]
    · exfalso
      apply hne
      rw [if_neg hb] at hd
      obtain ⟨_, _, h3, _⟩ := B1.dec_ok l 0 _ _ (by omega) hd
      have hge : ∀ i, i < s → 128 ≤ (l.getD i 0).toNat := fun i hi => B1.scan_ge l 0 i (by omega)
      have hlast : (l.getD s 0).toNat < 128 := by
        rcases Nat.lt_or_ge (l.getD s 0).toNat 128 with h | h
        · exact h
        · exfalso
          rcases Nat.lt_or_ge s 9 with h' | h'
          · have := B1.scan_unique l 0 (s + 1) (by omega) (by omega) (fun i hi => by
              rcases Nat.lt_or_ge i s with h'' | h''
              · exact hge i h''
              · have : i = s := by omega
                rw [this]; exact h)
            have h10 : s + 1 = l.length ∨ 0 + (s + 1) = 9 ∨ (l.getD (s + 1) 0).toNat < 128 ∨ (s + 1 < 9 ∧ s + 1 < l.length ∧ 128 ≤ (l.getD (s + 1) 0).toNat) := by omega
            have hsc : s + 1 ≤ B1.scan 0 l := by
              have key : ∀ (l : List UInt8) (k e : Nat), k + e ≤ 9 → e ≤ l.length → (∀ i, i < e → 128 ≤ (l.getD i 0).toNat) → e ≤ B1.scan k l := by
                intro l
                induction l with
                | nil => intro k e _ he _; simp at he; omega
                | cons c r ih =>
                  intro k e hk he hg
                  cases e with
                  | zero => omega
                  | succ e =>
                    have h0 : 128 ≤ c.toNat := hg 0 (by omega)
                    rw [B1.scan, if_pos ⟨by omega, h0⟩]
                    have := ih (k + 1) e (by omega) (by simpa using he) (fun i hi => hg (i + 1) (by omega))
                    omega
              exact key l 0 (s + 1) (by omega) (by omega) (fun i hi => by
                rcases Nat.lt_or_ge i s with h'' | h''
                · exact hge i h''
                · have : i = s := by omega
                  rw [this]; exact h)
            omega
          · apply hb; right; omega
      have hv := sm_vt s l hlt hge hlast
      have hlt64 : B1.vt s l < 18446744073709551616 := by
        have := B1.vt_lt_u64 (l := l) (by rw [hs]; exact hlt) (by rw [hs]; intro h; exact hb (.inr ⟨by omega, h.2⟩))
        rwa [hs] at this
      rw [hv, Nat.mod_eq_of_lt hlt64, ← h3]
theorem sum_w {x d p : Nat} (hd : d < 256) : IntKind.u64.wrap (((x % 18446744073709551616 : Nat) : Int) + IntKind.u64.wrap (IntKind.u64.wrap (Int.tmod (d : Int) 128) * (p : Int))) = (((x + d % 128 * p) % 18446744073709551616 : Nat) : Int) := by
  have e : ∀ y : Int, IntKind.u64.wrap y = y % 18446744073709551616 := fun y => by simp [IntKind.wrap, IntKind.signed, IntKind.bits]
  rw [mod_u, wu ((d % 128 : Nat) : Int) (by omega) (by omega), e, e]
  have : ((d % 128 : Nat) : Int) * (p : Int) = ((d % 128 * p : Nat) : Int) := by simp
  rw [this]
  generalize d % 128 * p = q
  omega
set_option maxRecDepth 10000 in
theorem GetUintR_spec {w : World} {A : Option Addr} {c n : Nat} {b : List UInt8} (hn : n = b.length) (h : Imm KB NoB w A b) (hl : b.length ≤ 1000000000000) (at_ : Int) :
    CallsV Try.prog 16 #[.slice A n c, .int .i64 at_] w fun v w' => v = tri (B1.getU b at_) ∧ Ext w w' := by
  subst hn
  refine cardindexref01_GetUint.calls okay ?_
  unfold cardindexref01_GetUint.W
  unfold B1.getU
  refine brd (fun h1 => ⟨by rw [if_pos (.inl h1)]; rfl, .refl _ _⟩) (fun h1 => brd (fun h2 => ⟨by rw [if_pos (.inr h2)]; rfl, .refl _ _⟩) (fun h2 => ?_))
  rw [if_neg (by omega)]
  obtain ⟨a, rfl⟩ : ∃ a : Nat, at_ = (a : Int) := ⟨at_.toNat, by omega⟩
  rw [Int.toNat_natCast]
  have hdl : (b.drop a).length = b.length - a := List.length_drop
  have hcut : ∀ j, (b.drop a).getD j 0 = b.getD (a + j) 0 := fun j => B1.getD_drop b a j 0
  refine ⟨fun x m cx u => ∃ k, m = ((b.drop a).take k).length ∧ Digits (b.drop a) k ∧ OwnB u x cx ((b.drop a).take k) ∧ Ext w u, ?_, ?_⟩
  · rintro x _ cx u ⟨m, rfl, hD, ox, e⟩
    generalize b.drop a = l at *
    have hml : (l.take m).length = m := by rw [List.length_take]; have := hD.1; omega
    have hm10 := hD.2.1
    have short : m < 10 → (m = 0 ∨ 128 ≤ (l.getD (m - 1) 0).toNat) → (Value.tuple #[.int .u64 0, .int .i64 0, .int .i64 11] = tri ((B1.dec 0 l).at (a : Int)) ∧ Ext w u) := by
      intro q1 q2
      rw [digits_short hD q1 q2]
      exact ⟨rfl, e⟩
    rw [hml]
    refine ⟨fun u => ¬ (m < 10 ∧ (m = 0 ∨ 128 ≤ (l.getD (m - 1) 0).toNat)) ∧ OwnB u x cx (l.take m) ∧ Ext w u, ?_, ?_⟩
    · rintro u ⟨hN, ox, e⟩
      obtain ⟨s, rfl, hs, hsl, h9⟩ := digits_full hD hN
      obtain ⟨t1, t2⟩ := digits_tell hs hsl h9
      refine ⟨fun y i u => ∃ j : Nat, j ≤ s + 1 ∧ i = (j : Int) ∧ y = ((sm l j % 18446744073709551616 : Nat) : Int) ∧ OwnB u x cx (l.take (s + 1)) ∧ Ext w u, fun _ i _ => (s + 1 - i).toNat, ⟨0, by omega, rfl, rfl, ox, e⟩, ?_⟩
      rintro _ _ u ⟨j, hj, rfl, rfl, ox, e⟩
      refine brd (fun hlt => ?_) (fun hge => ?_)
      · obtain ⟨ad, hA, hc⟩ := itemBx ox.imm0 (j := j) (by omega)
        refine ⟨ad, hA, ⟨by omega, by omega⟩, fun z => Ext u z, Fr.drew NoB u, _, fun z hz => by rw [Int.toNat_natCast]; exact hc z hz, by decide, ?_⟩
        have hgt : (l.take (s + 1)).getD j 0 = l.getD j 0 := by simp [List.getD, List.getElem?_take, show j < s + 1 by omega]
        rw [hgt]
        have ed : Ext u u.drew := Fr.drew NoB u
        refine (power_spec u.drew j (by omega)).same ⟨_, rfl, ed, ?_⟩
        rw [sum_w (l.getD j 0).toNat_lt, wi _ (by omega) (by omega)]
        exact ⟨⟨j + 1, by omega, rfl, rfl, ox.ext ed, e.trans' ed⟩, by dsimp only; omega⟩
      · obtain rfl : j = s + 1 := by omega
        refine ⟨fun z => Ext u z, Fr.drew NoB u, _, (by have := to_str_all btF ox.imm0 cx; rw [hml] at this; exact this), ?_⟩
        refine (Varint_spec u.drew _ (Nat.mod_lt _ (by decide))).mono ?_
        rintro _ w2 ⟨Y, cY, rfl, oY, e2, nY⟩
        have eu2 : Ext u w2 := (Fr.drew NoB u).ext e2
        refine ⟨_, _, _, rfl, eu2, fun z => Ext w2 z, .refl _ _, _, to_str_all btF oY.imm0 cY, ?_⟩
        rw [eq_str]
        refine brnb (fun hne => ⟨?_, e.trans' eu2⟩) (fun heq => ⟨?_, e.trans' eu2⟩)
        · rw [t2 (of_decide_eq_false hne)]; rfl
        · rw [t1 (of_decide_eq_true heq)]
          rw [wi _ (by have := hD.1; omega) (by have := hD.1; omega)]
          rfl
    · refine brd (fun h10 => brd (fun h0 => short (by omega) (.inl (by omega))) (fun h0 => ?_)) (fun h10 => ⟨fun hh => by omega, ox, e⟩)
      have hi1 : IntKind.i64.wrap ((m : Int) - 1) = ((m - 1 : Nat) : Int) := by rw [wi _ (by omega) (by omega)]; omega
      rw [hi1]
      obtain ⟨ad, hA, hc⟩ := itemBx ox.imm0 (j := m - 1) (by omega)
      refine ⟨ad, hA, ⟨by omega, by omega⟩, _, by rw [Int.toNat_natCast]; exact hc u (.refl _ _), ?_⟩
      have hgt : (l.take m).getD (m - 1) 0 = l.getD (m - 1) 0 := by simp [List.getD, List.getElem?_take, show m - 1 < m by omega]
      rw [hgt]
      exact brd (fun hb => short (by omega) (.inr (by omega))) (fun hb => ⟨fun hh => by omega, ox, e⟩)
  · refine ⟨fun x m cx i u => ∃ j : Nat, i = ((a + j : Nat) : Int) ∧ a + j ≤ b.length ∧ j ≤ 10 ∧ m = ((b.drop a).take j).length ∧ (∀ q, q < j → 128 ≤ ((b.drop a).getD q 0).toNat) ∧ OwnB u x cx ((b.drop a).take j) ∧ Ext w u ∧ New w x,
      fun _ _ _ i _ => (b.length - i).toNat, ⟨0, by simp, by omega, by omega, by simp, fun q hq => by omega, OwnB.nil _, .refl _ _, New.none _⟩, ?_⟩
    rintro x _ cx _ u ⟨j, rfl, hj, hj10, rfl, hg, ox, e, nx⟩
    have hlen : ((b.drop a).take j).length = j := by rw [List.length_take]; omega
    have stop : j = (b.drop a).length ∨ j = 10 → ∃ k, ((b.drop a).take j).length = ((b.drop a).take k).length ∧ Digits (b.drop a) k ∧ OwnB u x cx ((b.drop a).take k) ∧ Ext w u := by
      intro hh
      have hD : Digits (b.drop a) j := ⟨by omega, hj10, fun i hi => hg i (by omega), .inr ⟨hg, hh⟩⟩
      exact ⟨j, rfl, hD, ox, e⟩
    refine brd (fun hlt => brd (fun h10 => ?_) (fun h10 => stop (.inr (by clear stop; omega)))) (fun hge => stop (.inl (by clear stop; omega)))
    clear stop
    obtain ⟨ad, hA, hc⟩ := itemBx h (j := a + j) (by omega)
    rw [Int.toNat_natCast]
    refine ⟨ad, hA, ⟨by omega, by omega⟩, _, hc u e, ?_⟩
    intro g w1 f
    obtain ⟨y, cy, w2, hr, oy, g2⟩ := pushB f ox _ rfl (by omega) 30
    rw [← hcut j, ← take_sn _ j (by omega)] at hr oy
    have e2 := g2.ext e nx
    have n2 := g2.new e nx
    have hv := hc w2 e2
    rw [← hcut j] at hv
    clear hc
    obtain ⟨q, hq⟩ : ∃ q, q = (b.drop a).getD j 0 := ⟨_, rfl⟩
    rw [← hq] at hv
    refine ⟨_, _, _, _, hr, ad, hA, ⟨by omega, by omega⟩, _, hv, ?_⟩
    by_cases hb : (q.toNat : Int) < 128
    · rw [decide_eq_true hb, cond_true]
      have hb' : ((b.drop a).getD j 0).toNat < 128 := by rw [← hq]; omega
      have hD : Digits (b.drop a) (j + 1) := ⟨by omega, by omega, fun i hi => hg i (by omega), .inl ⟨by omega, by rw [Nat.add_sub_cancel]; exact hb'⟩⟩
      exact ⟨j + 1, rfl, hD, oy, e2⟩
    · rw [decide_eq_false hb, cond_false]
      rw [wi _ (by omega) (by omega)]
      refine ⟨⟨j + 1, by omega, by omega, by omega, rfl, fun i hi => ?_, oy, e2, n2⟩, by dsimp only; omega⟩
      rcases Nat.lt_or_ge i j with h' | h'
      · exact hg i h'
      · have : i = j := by omega
        rw [this, ← hq]; omega
end Go.Proofs.Ytbpcfkahnhlahaa
