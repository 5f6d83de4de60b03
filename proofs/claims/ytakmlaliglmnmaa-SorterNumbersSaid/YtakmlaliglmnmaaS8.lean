/- Layer 7: the statements' own small helpers. -/
import Derived.Test.YtakmlaliglmnmaaS7
import Derived.Test.YtakmlaliglmnmaaRSmall
import Derived.Test.YtakmlaliglmnmaaNestsL
set_option linter.unusedVariables false
set_option linter.unusedSimpArgs false
namespace Go.Proofs.Ytakmlaliglmnmaa
open Go Go.Sx R1 S1 Go.Lib
def numV (n : Int) : V := ⟨1, n, ByteArray.mk #[]⟩
def textV (s : ByteArray) : V := ⟨2, 0, s⟩
def agV (v : V) : Value := .agg #[.int .u8 v.k, .int .i64 v.n, .string v.s]
theorem setV3 {w : World} {g : Nat} {x y z : Value} (b : Blk w g [x, y, z]) (p q r : Value) : Blk (setAll ⟨g, 0, none⟩ 0 [p, q, r] w) g [p, q, r] := Blk.setAll (o := 0) [p, q, r] 0 b
theorem okV3 {w : World} {g : Nat} {x y z : Value} (b : Blk w g [x, y, z]) (p q r : Value) : stOK ⟨g, 0, none⟩ 0 [p, q, r] w := b.stOK [p, q, r] 0 (by simp)
theorem Num_spec (w : World) (n : Int) : CallsV Try.prog 49 #[.int .i64 n] w fun r w' => r = agV (numV n) ∧ Ext w w' := by
  refine cardindexlow_Num.calls okay ?_
  unfold cardindexlow_Num.W
  obtain ⟨hs, b, e⟩ := varV w #[.int .u8 0, .int .i64 0, .string (ByteArray.mk #[])] rfl 31 (.int .u8 1) (.int .i64 n) (.string (ByteArray.mk #[]))
  exact ⟨hs.1, hs.2.1, hs.2.2, _, b.cell rfl, _, b.cell rfl, _, b.cell rfl, rfl, e⟩
theorem Text_spec (w : World) (s : ByteArray) : CallsV Try.prog 50 #[.string s] w fun r w' => r = agV (textV s) ∧ Ext w w' := by
  refine cardindexlow_Text.calls okay ?_
  unfold cardindexlow_Text.W
  obtain ⟨hs, b, e⟩ := varV w #[.int .u8 0, .int .i64 0, .string (ByteArray.mk #[])] rfl 31 (.int .u8 2) (.int .i64 0) (.string s)
  exact ⟨hs.1, hs.2.1, hs.2.2, _, b.cell rfl, _, b.cell rfl, _, b.cell rfl, rfl, e⟩
theorem num_spec (w : World) (n : Int) : CallsV Try.prog 28 #[.int .i64 n] w fun r w' => r = agV (numV n) ∧ Ext w w' := by
  refine cardindexlaw07_num.calls okay ?_
  unfold cardindexlaw07_num.W
  intro g w1 f1
  refine (Num_spec w1 n).mono ?_
  rintro _ w2 ⟨rfl, e2⟩
  have b2 := f1.blk.ext e2
  refine ⟨_, _, _, rfl, okV3 b2 _ _ _, ?_⟩
  rintro w3 rfl
  have b3 := setV3 b2 (.int .u8 1) (.int .i64 n) (.string (ByteArray.mk #[]))
  exact ⟨_, b3.cell rfl, _, b3.cell rfl, _, b3.cell rfl, rfl, (f1.ext.trans' e2).setAll f1.ge _ _⟩
theorem text_spec (w : World) (s : ByteArray) : CallsV Try.prog 29 #[.string s] w fun r w' => r = agV (textV s) ∧ Ext w w' := by
  refine cardindexlaw07_text.calls okay ?_
  unfold cardindexlaw07_text.W
  intro g w1 f1
  refine (Text_spec w1 s).mono ?_
  rintro _ w2 ⟨rfl, e2⟩
  have b2 := f1.blk.ext e2
  refine ⟨_, _, _, rfl, okV3 b2 _ _ _, ?_⟩
  rintro w3 rfl
  have b3 := setV3 b2 (.int .u8 2) (.int .i64 0) (.string s)
  exact ⟨_, b3.cell rfl, _, b3.cell rfl, _, b3.cell rfl, rfl, (f1.ext.trans' e2).setAll f1.ge _ _⟩
theorem getV_ext {la lb : List V} (h : la.length = lb.length) (h2 : ∀ i, i < la.length → la.getD i V0 = lb.getD i V0) : la = lb := by
  apply List.ext_getElem h
  intro i h3 h4
  have := h2 i h3
  simpa [List.getD, h3, h4] using this
theorem eqV (a b : V) : (decide (a.k = b.k) && (decide (a.n = b.n) && (ByteArray.toList a.s == ByteArray.toList b.s && true))) = true ↔ a = b := by
  obtain ⟨ak, an, sa⟩ := a
  obtain ⟨bk, bn, tb⟩ := b
  obtain ⟨⟨l⟩⟩ := sa
  obtain ⟨⟨m⟩⟩ := tb
  have := eq_str l m
  simp only [Bool.and_true, Bool.and_eq_true, decide_eq_true_eq, V.mk.injEq]
  rw [show (ByteArray.toList (ByteArray.mk (Array.mk l)) == ByteArray.toList (ByteArray.mk (Array.mk m))) = decide (l = m) from this]
  simp
theorem cfalse {b : Bool} {A B : Prop} (h : b = false) (k : B) : cond b A B := by rw [h]; exact k
set_option maxRecDepth 100000 in
theorem SameValues_spec {w : World} {A B : Option Addr} {c d n m : Nat} {a b : List V} (hn : n = a.length) (hm : m = b.length) (hA : Imm KV NoB w A a) (hB : Imm KV NoB w B b) (hl : a.length ≤ 1000000) :
    CallsV Try.prog 13 #[.slice A n c, .slice B m d] w fun r w' => (∃ x : Bool, r = .bool x ∧ (x = true ↔ a = b)) ∧ Ext w w' := by
  subst hn; subst hm
  refine cardindexlow_SameValues.calls okay ?_
  unfold cardindexlow_SameValues.W
  refine brn (fun hne => ⟨⟨false, rfl, by simp; rintro rfl; exact hne rfl⟩, .refl _ _⟩) (fun heq => ?_)
  refine ⟨fun x u => ∃ j : Nat, j ≤ a.length ∧ x = (j : Int) ∧ (∀ i, i < j → a.getD i V0 = b.getD i V0) ∧ Ext w u, fun x _ => (a.length - x).toNat, ⟨0, by omega, rfl, fun i h => by omega, .refl _ _⟩, ?_⟩
  rintro _ u ⟨j, hj, rfl, hall, e⟩
  refine brd (fun hlt => ?_) (fun hge => ?_)
  · have hd : Ext w u.drew := e.trans' (Fr.drew NoB u)
    obtain ⟨ad, hA', _, cA⟩ := itemV hA (x := (j : Int)) (by omega) (by omega)
    obtain ⟨bd, hB', _, cB⟩ := itemV hB (x := (j : Int)) (by omega) (by omega)
    rw [Int.toNat_natCast] at cA cB
    simp only [Int.toNat_natCast]
    refine ⟨ad, hA', ⟨by omega, by omega⟩, fun u => Ext w u, hd, _, fun u hu => (cA u (.inr (.inl hu))).1, _, fun u hu => (cA u (.inr (.inl hu))).2.1, _, fun u hu => (cA u (.inr (.inl hu))).2.2,
      bd, hB', ⟨by omega, by omega⟩, _, fun u hu => (cB u (.inr (.inl hu))).1, _, fun u hu => (cB u (.inr (.inl hu))).2.1, _, fun u hu => (cB u (.inr (.inl hu))).2.2, ?_⟩
    refine cfalse (by kernel_rfl) ?_
    refine brnb (fun hne => ?_) (fun heqv => ?_)
    · refine ⟨⟨false, rfl, by simp; rintro rfl; rw [(eqV _ _).2 rfl] at hne; cases hne⟩, hd⟩
    · rw [wi _ (by omega) (by omega)]
      exact ⟨⟨j + 1, by omega, rfl, fun i hi => if hij : i = j then by subst hij; exact (eqV _ _).1 heqv else hall i (by omega), hd⟩, by omega⟩
  · obtain rfl : j = a.length := by omega
    exact ⟨⟨true, rfl, by simp; exact getV_ext (by omega) hall⟩, e⟩

/-- two values, side by side -/
def KP : Kd (V × V) := ⟨6, fun _ _ a cs => cs = vc a.1 ++ vc a.2, fun h => by simp [h, vc], fun h _ => h⟩
theorem KP_pos : 0 < KP.size := by decide
def P0 : V × V := (V0, V0)
theorem itemP {Ω : Nat → Prop} {w : World} {A : Option Addr} {l : List (V × V)} (h : Imm KP Ω w A l) {i : Nat} (hi : i < l.length) : ∃ ad, A = some ad ∧ Imm KV Ω w (some (ad.add (i * 6))) [(l.getD i P0).1, (l.getD i P0).2] := by
  have hg : l[i]? = some (l.getD i P0) := by simp [List.getD, hi]
  obtain ⟨ad, hA, hn, cs, hr, hc⟩ := h i _ hg
  have hr : cs = vc (l.getD i P0).1 ++ vc (l.getD i P0).2 := hr
  subst hr
  refine ⟨ad, hA, fun j v hj => ?_⟩
  have hc' : ∀ q u, (vc (l.getD i P0).1 ++ vc (l.getD i P0).2)[q]? = some u → w.cell? ((ad.add (i * 6)).add q) = some u := fun q u hq => by
    rw [add_add]; exact hc q u hq
  match j, hj with
  | 0, hj =>
    cases hj
    exact ⟨_, rfl, by rw [add_block]; exact hn, _, rfl, fun q u hq => hc' _ _ (by
      rw [show 0 * KV.size + q = q by omega, List.getElem?_append_left (by have := (List.getElem?_eq_some_iff.1 hq).1; exact this)]; exact hq)⟩
  | 1, hj =>
    cases hj
    exact ⟨_, rfl, by rw [add_block]; exact hn, _, rfl, fun q u hq => hc' _ _ (by
      rw [show 1 * KV.size + q = (vc (l.getD i P0).1).length + q from rfl, List.getElem?_append_right (by omega), Nat.add_sub_cancel_left]; exact hq)⟩
  | j + 2, hj => simp at hj
/-- keys that are looked at -/
def rightP (l : List (V × V)) : Bool := decide (l.length ≤ 120) && l.all fun p => right p.1 && decide (p.1.s.size ≤ 100) && (right p.2 && decide (p.2.s.size ≤ 100))
def pj (p : V × V) (k : Nat) : V := if k = 0 then p.1 else p.2
def okV (v : V) : Bool := right v && decide (v.s.size ≤ 100)
theorem allP_of {p : V × V → Bool} {l : List (V × V)} (h : ∀ i, i < l.length → p (l.getD i P0) = true) : l.all p = true := by
  rw [List.all_eq_true]
  intro v hv
  obtain ⟨i, hi, rfl⟩ := List.getElem_of_mem hv
  have := h i hi
  simpa [List.getD, hi] using this
theorem allP_not {p : V × V → Bool} {l : List (V × V)} {i : Nat} (hi : i < l.length) (h : p (l.getD i P0) = false) : l.all p = false := by
  rw [List.all_eq_false]
  exact ⟨l[i], by simp, by simpa [List.getD, hi] using h⟩
theorem rightP_spec {w : World} {A : Option Addr} {c : Nat} {l : List (V × V)} (h : Imm KP NoB w A l) (hl : l.length ≤ maxLen) :
    CallsV Try.prog 10 #[.slice A l.length c] w fun r w' => r = .bool (rightP l) ∧ Ext w w' := by
  refine cardindexlaw07_right.calls okay ?_
  unfold cardindexlaw07_right.W
  refine brd (fun h1 => ⟨by unfold rightP; rw [decide_eq_false (by omega)]; rfl, .refl _ _⟩) (fun h1 => ?_)
  have hR : rightP l = l.all fun p => okV p.1 && okV p.2 := by unfold rightP; rw [decide_eq_true (by omega), Bool.true_and]; rfl
  rw [hR]
  refine ⟨fun x u => ∃ j : Nat, j ≤ l.length ∧ x = (j : Int) ∧ (∀ i, i < j → (okV (l.getD i P0).1 && okV (l.getD i P0).2) = true) ∧ Ext w u, fun x _ => (l.length - x).toNat, ⟨0, by omega, rfl, fun i h => by omega, .refl _ _⟩, ?_⟩
  rintro _ u ⟨j, hj, rfl, hall, e⟩
  refine brd (fun hlt => ?_) (fun hge => ?_)
  · have hjl : j < l.length := by omega
    obtain ⟨ad, hA, hi⟩ := itemP h hjl
    generalize l.getD j P0 = p at *
    refine ⟨fun y v => ∃ k : Nat, k ≤ 2 ∧ y = (k : Int) ∧ (∀ i, i < k → okV (pj (l.getD j P0) i) = true) ∧ Ext w v, fun y _ => (2 - y).toNat, ⟨0, by omega, rfl, fun i h => by omega, e⟩, ?_⟩
    rintro _ v ⟨k, hk, rfl, hp, ev⟩
    obtain ⟨ad', hA', hi'⟩ := itemP h hjl
    simp only [Int.toNat_natCast]
    refine brd (fun hk2 => ?_) (fun hk2 => ?_)
    · obtain ⟨ad2, hA2, q1, q2, q3⟩ := itemV0 (hi'.ext KV_pos ev) (x := (k : Int)) (by omega) (by simp; omega)
      cases hA2
      have hgd : ([(l.getD j P0).1, (l.getD j P0).2].getD (k : Int).toNat V0) = pj (l.getD j P0) k := by
        have : k = 0 ∨ k = 1 := by omega
        rcases this with rfl | rfl <;> rfl
      rw [hgd, Int.toNat_natCast] at q1 q2 q3
      refine ⟨ad', hA', ⟨by omega, by omega⟩, ⟨by omega, by omega⟩, _, q1, _, q2, _, q3, ?_⟩
      refine (Right_spec v _).mono ?_
      rintro _ v1 ⟨rfl, e1⟩
      have bad : okV (pj (l.getD j P0) k) = false → (l.all fun p => okV p.1 && okV p.2) = false := fun hb => by
        refine allP_not hjl ?_
        have : k = 0 ∨ k = 1 := by omega
        rcases this with rfl | rfl
        · rw [show okV (l.getD j P0).1 = false from hb]; rfl
        · rw [show okV (l.getD j P0).2 = false from hb, Bool.and_false]
      refine ⟨_, rfl, brnb (fun hr => ⟨by rw [bad (by unfold okV; rw [hr]; rfl)], ev.trans' e1⟩) (fun hr => ?_)⟩
      have ev1 := ev.trans' e1
      obtain ⟨ad3, hA3, r1, r2, r3⟩ := itemV0 (hi'.ext KV_pos ev1) (x := (k : Int)) (by omega) (by simp; omega)
      cases hA3
      rw [hgd, Int.toNat_natCast] at r3
      refine ⟨ad', hA', ⟨by omega, by omega⟩, ⟨by omega, by omega⟩, _, r3, brd (fun hs => ⟨by rw [bad (by unfold okV; rw [decide_eq_false (by omega), Bool.and_false])], ev1⟩) (fun hs => ?_)⟩
      rw [wi _ (by omega) (by omega)]
      refine ⟨⟨k + 1, by omega, rfl, fun i hi => if hik : i = k then by subst hik; unfold okV; rw [hr, decide_eq_true (by omega)]; rfl else hp i (by omega), ev1⟩, by omega⟩
    · rw [wi _ (by omega) (by omega)]
      have h0 : okV (l.getD j P0).1 = true := hp 0 (by omega)
      have h1 : okV (l.getD j P0).2 = true := hp 1 (by omega)
      exact ⟨⟨j + 1, by omega, rfl, fun i hi => if hij : i = j then by subst hij; rw [h0, h1]; rfl else hall i (by omega), ev⟩, by omega⟩
  · obtain rfl : j = l.length := by omega
    exact ⟨by rw [allP_of hall], e⟩
theorem rightP_true {l : List (V × V)} (h : rightP l = true) : l.length ≤ 120 ∧ ∀ p ∈ l, right p.1 = true ∧ p.1.s.size ≤ 100 ∧ right p.2 = true ∧ p.2.s.size ≤ 100 := by
  unfold rightP at h
  simp only [Bool.and_eq_true, decide_eq_true_eq, List.all_eq_true] at h
  exact ⟨h.1, fun p hp => by have := h.2 p hp; exact ⟨this.1.1, this.1.2, this.2.1, this.2.2⟩⟩
end Go.Proofs.Ytakmlaliglmnmaa
