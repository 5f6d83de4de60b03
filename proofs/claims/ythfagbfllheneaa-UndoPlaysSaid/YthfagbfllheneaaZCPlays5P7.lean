/- Part 7 of the texts of this claim: the engine, contracts, plain laws. -/
import Derived.Test.YthfagbfllheneaaZCPlays5P6
import Derived.Test.YthfagbfllheneaaProg
import Derived.Test.YthfagbfllheneaaZCPlays5P1
set_option linter.unusedVariables false
set_option linter.unusedSimpArgs false
namespace Go.Proofs.Ythfagbfllheneaa
open Go Go.Sx T4
/-! ## plain -/
theorem insE_cut (key val : Key) : ∀ es : Es, insE key val es = es.take (pos (keysE es) key) ++ (key, val) :: es.drop (pos (keysE es) key + if has (keysE es) key then 1 else 0)
  | [] => rfl
  | (k, v) :: r => by
    have ih := insE_cut key val r
    show (if lt k key then (k, v) :: insE key val r else if k = key then (key, val) :: r else (key, val) :: (k, v) :: r) = _
    rw [show keysE ((k, v) :: r) = k :: keysE r from rfl, pos_cons, has_cons]
    by_cases h : lt k key
    · rw [if_pos h, if_pos h, if_pos h, ih, List.take_succ_cons, show pos (keysE r) key + 1 + (if has (keysE r) key = true then 1 else 0) = (pos (keysE r) key + (if has (keysE r) key = true then 1 else 0)) + 1 by omega, List.drop_succ_cons]; rfl
    · rw [if_neg h, if_neg h, if_neg h]
      by_cases he : k = key
      · rw [if_pos he, decide_eq_true he]; rfl
      · rw [if_neg he, decide_eq_false he]; rfl
theorem delE_cut (key : Key) {es : Es} (h : has (keysE es) key = true) : delE key es = es.take (pos (keysE es) key) ++ es.drop (pos (keysE es) key + 1) := by
  induction es with
  | nil => simp [has, keysE, pos] at h
  | cons p r ih =>
    obtain ⟨k, v⟩ := p
    rw [show keysE ((k, v) :: r) = k :: keysE r from rfl, has_cons] at h
    show (if lt k key then (k, v) :: delE key r else if k = key then r else (k, v) :: r) = _
    rw [show keysE ((k, v) :: r) = k :: keysE r from rfl, pos_cons]
    by_cases hl : lt k key
    · rw [if_pos hl] at h ⊢
      rw [if_pos hl, ih h, List.take_succ_cons, List.drop_succ_cons]; rfl
    · rw [if_neg hl] at h ⊢
      rw [if_neg hl, if_pos (of_decide_eq_true h)]; rfl
theorem keysE_get {es : Es} {i : Nat} {k v : Key} (h : es[i]? = some (k, v)) : (keysE es)[i]? = some k := by simp [keysE, h]
theorem pos_stop (key : Key) : ∀ (ks : List Key) {k : Key}, ks[pos ks key]? = some k → ¬ lt k key
  | [], _, h => by simp at h
  | x :: ks, k, h => by
    rw [pos_cons] at h
    by_cases hx : lt x key
    · rw [if_pos hx, List.getElem?_cons_succ] at h
      exact pos_stop key ks h
    · rw [if_neg hx] at h
      simp at h
      subst h; exact hx
/-! ## kinds -/
def KEn : Kd (Key × Key) := ⟨2, fun Ω w p cs => ∃ a b, cs = [a, b] ∧ KBs.rep Ω w p.1 [a] ∧ KBs.rep Ω w p.2 [b], fun ⟨_, _, h, _⟩ => by simp [h], fun ⟨a, b, h, h1, h2⟩ st => ⟨a, b, h, KBs.keep h1 st, KBs.keep h2 st⟩⟩
theorem KEn_pos : 0 < KEn.size := by decide
abbrev KEs : Kd Es := Kd.slice KEn KEn_pos
def KTr : Kd (Int × Es) := ⟨2, fun Ω w p cs => ∃ b, cs = [.int .i64 p.1, b] ∧ KEs.rep Ω w p.2 [b], fun ⟨_, h, _⟩ => by simp [h], fun ⟨b, h, h1⟩ st => ⟨b, h, KEs.keep h1 st⟩⟩
theorem KTr_pos : 0 < KTr.size := by decide
theorem oneBs' {α : Type} {K : Kd α} {hz : 0 < K.size} {Ω : Nat → Prop} {w : World} {l : List α} {cs : List Value} (h : (Kd.slice K hz).rep Ω w l cs) : ∀ v ∈ cs, v.oneCell' = true := by
  obtain ⟨A, c, rfl, _⟩ := h
  intro v hv; simp at hv; subst hv; rfl
theorem oneEn {Ω : Nat → Prop} {w : World} {p : Key × Key} {cs : List Value} (h : KEn.rep Ω w p cs) : ∀ v ∈ cs, v.oneCell' = true := by
  obtain ⟨a, b, rfl, h1, h2⟩ := h
  intro v hv
  simp at hv
  rcases hv with rfl | rfl
  · exact oneBs' h1 v (by simp)
  · exact oneBs' h2 v (by simp)
theorem oneTr {Ω : Nat → Prop} {w : World} {p : Int × Es} {cs : List Value} (h : KTr.rep Ω w p cs) : ∀ v ∈ cs, v.oneCell' = true := by
  obtain ⟨b, rfl, h1⟩ := h
  intro v hv
  simp at hv
  rcases hv with rfl | rfl
  · rfl
  · exact oneBs' h1 v (by simp)
theorem slT : SlT Try.prog 59 132 2 32 [.int .i64 0, .slice none 0 0] := ⟨by kernel_rfl, ⟨Try.t132, by kernel_rfl, by kernel_rfl, by kernel_rfl, .agg #[.int .i64 0, .slice none 0 0], by kernel_rfl, by kernel_rfl⟩, rfl, by decide⟩
theorem slE : SlT Try.prog 130 135 2 48 [.slice none 0 0, .slice none 0 0] := ⟨by kernel_rfl, ⟨Try.t135, by kernel_rfl, by kernel_rfl, by kernel_rfl, .agg #[.slice none 0 0, .slice none 0 0], by kernel_rfl, by kernel_rfl⟩, rfl, by decide⟩
section
variable {Ω : Nat → Prop} {w : World}
theorem enCell {A : Option Addr} {es : Es} (h : Imm KEn Ω w A es) {i : Nat} {k v : Key} (hi : es[i]? = some (k, v)) :
    ∃ ad A1 c1 A2 c2, A = some ad ∧ w.cell? ((ad.add (i * 2)).add 0) = some (.slice A1 k.length c1) ∧ w.cell? ((ad.add (i * 2)).add 1) = some (.slice A2 v.length c2) ∧ k.length ≤ c1 ∧ v.length ≤ c2 ∧ Imm KB Ω w A1 k ∧ Imm KB Ω w A2 v := by
  obtain ⟨ad, hA, _, cs, ⟨a, b, rfl, h1, h2⟩, hc⟩ := h i (k, v) hi
  obtain ⟨A1, c1, e1, l1, i1⟩ := h1
  obtain ⟨A2, c2, e2, l2, i2⟩ := h2
  simp at e1 e2
  subst e1; subst e2
  exact ⟨ad, A1, c1, A2, c2, hA, by rw [add_add]; exact hc 0 _ rfl, by rw [add_add]; exact hc 1 _ rfl, l1, l2, i1, i2⟩
theorem trCell {A : Option Addr} {F : List (Int × Es)} (h : Imm KTr Ω w A F) {i : Nat} {r : Int} {es : Es} (hi : F[i]? = some (r, es)) :
    ∃ ad B c, A = some ad ∧ w.cell? ((ad.add (i * 2)).add 0) = some (.int .i64 r) ∧ w.cell? ((ad.add (i * 2)).add 1) = some (.slice B es.length c) ∧ es.length ≤ c ∧ Imm KEn Ω w B es := by
  obtain ⟨ad, hA, _, cs, ⟨b, rfl, h1⟩, hc⟩ := h i (r, es) hi
  obtain ⟨B, c, e1, l1, i1⟩ := h1
  simp at e1
  subst e1
  exact ⟨ad, B, c, hA, by rw [add_add]; exact hc 0 _ rfl, by rw [add_add]; exact hc 1 _ rfl, l1, i1⟩
theorem repEn {A1 A2 : Option Addr} {c1 c2 : Nat} {k v : Key} (l1 : k.length ≤ c1) (l2 : v.length ≤ c2) (h1 : Imm KB Ω w A1 k) (h2 : Imm KB Ω w A2 v) : KEn.rep Ω w (k, v) [.slice A1 k.length c1, .slice A2 v.length c2] := ⟨_, _, rfl, ⟨A1, c1, rfl, l1, h1⟩, ⟨A2, c2, rfl, l2, h2⟩⟩
theorem repTr {B : Option Addr} {c : Nat} {r : Int} {es : Es} (l1 : es.length ≤ c) (h1 : Imm KEn Ω w B es) : KTr.rep Ω w (r, es) [.int .i64 r, .slice B es.length c] := ⟨_, rfl, B, c, rfl, l1, h1⟩
theorem fixI {α : Type} {K : Kd α} {A : Option Addr} {l : List α} (h : Imm K Ω w A l) : Imm (Kd.fix Ω w K) NoB w A l := fun i a ha => by
  obtain ⟨ad, hA, hn, cs, hr, hc⟩ := h i a ha
  exact ⟨ad, hA, fun h => h, cs, hr, hc⟩
theorem unfixI {α : Type} {K : Kd α} (hz : 0 < K.size) {w' : World} {A : Option Addr} {c : Nat} {l : List α} (h : OwnK (Kd.fix Ω w K) w' A c l) (e : Ext w w') (hΩ : ∀ k, ownB A k → ¬ Ω k) : Imm K Ω w' A l := by
  obtain ⟨xs, ho, hr⟩ := h
  exact Own.imm (K := K) hz ho hΩ fun i a ha => K.keep (show K.rep Ω w a _ from hr i a ha) (e.step Ω)
theorem appFix {α : Type} {K : Kd α} {t e by_ : Nat} {z : List Value} (T : SlT Try.prog t e K.size by_ z) (h1 : ∀ {Ω w a cs}, K.rep Ω w a cs → ∀ v ∈ cs, v.oneCell' = true) {ty : TypeId} {u : World} {A B : Option Addr} {c cb : Nat} {l m : List α} (h : OwnK (Kd.fix Ω w K) u A c l) (hB : Imm (Kd.fix Ω w K) NoB u B m) (hoff : ∀ k, ownB A k → ¬ ownB B k ∨ m = [])
    (hb : l.length + m.length ≤ maxLen) (hb2 : (l.length + m.length) * by_ ≤ 140737488355328) :
    ∃ A' c' u', RunsTo Try.prog (Builtin.append_ #[t, t] ty #[.slice A l.length c, .slice B m.length cb]) u (.slice A' (l ++ m).length c') u' ∧ OwnK (Kd.fix Ω w K) u' A' c' (l ++ m) ∧ Grew A A' u u' := by
  refine OwnK.append (K := Kd.fix Ω w K) T h ?_ (fun a cs hr => h1 hr) hb hb2
  intro i a ha
  obtain ⟨ad, hA, hn, cs, hr, hc⟩ := hB i a ha
  refine ⟨ad, hA, fun hk => ?_, cs, hr, hc⟩
  rcases hoff _ hk with h | h
  · exact h ⟨ad, hA, rfl⟩
  · rw [h] at ha; cases ha
end
/-! ## Compare -/
theorem Cmp_spec {w : World} {Ω Ω' : Nat → Prop} {A B : Option Addr} {a b : List UInt8} (ha : Imm KB Ω w A a) (hb : Imm KB Ω' w B b) (hl : a.length ≤ 1152921504606846976 ∨ b.length ≤ 1152921504606846976) (ca cb : Nat) :
    CallsV Try.prog 84 #[.slice A a.length ca, .slice B b.length cb] w fun r w' => r = .int .i64 (Lib.compareBytes a b) ∧ Ext w w' := by
  refine cardindexref04_Compare.calls okay ?_
  unfold cardindexref04_Compare.W
  refine ⟨fun u => Ext w u ∧ ∃ j, j ≤ a.length ∧ j ≤ b.length ∧ Lib.compareBytes a b = Lib.compareBytes (a.drop j) (b.drop j) ∧ (j = a.length ∨ j = b.length), ?_, fun x u => ∃ j : Nat, x = (j : Int) ∧ j ≤ a.length ∧ j ≤ b.length ∧ Ext w u ∧ Lib.compareBytes a b = Lib.compareBytes (a.drop j) (b.drop j), fun x _ => (a.length - x).toNat, ⟨0, rfl, Nat.zero_le _, Nat.zero_le _, .refl _ _, rfl⟩, ?_⟩
  · rintro u ⟨e, j, h1, h2, h3, h4⟩
    refine brd (fun h => ?_) (fun h => brd (fun h' => ?_) (fun h' => ?_))
    · have : j = a.length := by omega
      rw [h3, this, List.drop_length, List.drop_eq_getElem_cons (show a.length < b.length by omega)]
      exact ⟨rfl, e⟩
    · have : j = b.length := by omega
      rw [h3, this, List.drop_length, List.drop_eq_getElem_cons (show b.length < a.length by omega)]
      exact ⟨rfl, e⟩
    · have : j = a.length := by omega
      have : j = b.length := by omega
      rw [h3, List.drop_eq_nil_of_le (by omega), List.drop_eq_nil_of_le (by omega)]
      exact ⟨rfl, e⟩
  · rintro _ u ⟨j, rfl, hj1, hj2, e, hc⟩
    refine brd (fun hlt => brd (fun hlt2 => ?_) (fun hge => ⟨e, j, hj1, hj2, hc, .inr (by omega)⟩)) (fun hge => ⟨e, j, hj1, hj2, hc, .inl (by omega)⟩)
    have ja : j < a.length := by omega
    have jb : j < b.length := by omega
    obtain ⟨ad, hA, ca1⟩ := ha.byte ja
    obtain ⟨bd, hB, cb1⟩ := hb.byte jb
    have hda := List.drop_eq_getElem_cons ja
    have hdb := List.drop_eq_getElem_cons jb
    have ed : Ext w u.drew := e.drew
    have edd : Ext w u.drew.drew := ed.drew
    rw [hda, hdb] at hc
    have hstep : Lib.compareBytes (a[j] :: a.drop (j + 1)) (b[j] :: b.drop (j + 1)) = if a[j] < b[j] then -1 else if b[j] < a[j] then 1 else Lib.compareBytes (a.drop (j + 1)) (b.drop (j + 1)) := rfl
    rw [hstep] at hc
    refine ⟨ad, hA, ⟨by omega, by omega⟩, fun v => Ext w v, ed, _, fun v ev => by rw [Int.toNat_natCast]; exact Ext.cell ev ca1, bd, hB, ⟨by omega, by omega⟩, _, fun v ev => by rw [Int.toNat_natCast]; exact Ext.cell ev cb1, brd (fun h => ?_) (fun h => ?_)⟩
    · have h' : a[j] < b[j] := by rw [UInt8.lt_iff_toNat_lt]; omega
      rw [if_pos h'] at hc
      exact ⟨by rw [hc], ed⟩
    · have h' : ¬ a[j] < b[j] := by rw [UInt8.lt_iff_toNat_lt]; omega
      rw [if_neg h'] at hc
      refine ⟨ad, hA, ⟨by omega, by omega⟩, fun v => Ext w v, edd, _, fun v ev => by rw [Int.toNat_natCast]; exact Ext.cell ev ca1, bd, hB, ⟨by omega, by omega⟩, _, fun v ev => by rw [Int.toNat_natCast]; exact Ext.cell ev cb1, brd (fun h2 => ?_) (fun h2 => ?_)⟩
      · have h2' : b[j] < a[j] := by rw [UInt8.lt_iff_toNat_lt]; omega
        rw [if_pos h2'] at hc
        exact ⟨by rw [hc], edd⟩
      · have h2' : ¬ b[j] < a[j] := by rw [UInt8.lt_iff_toNat_lt]; omega
        rw [if_neg h2'] at hc
        rw [wi _ (by omega) (by omega)]
        exact ⟨⟨j + 1, by omega, by omega, by omega, edd, hc⟩, by dsimp only; omega⟩
/-! ## Find, Place -/
def trV (A : Option Addr) (c : Nat) (F : List (Int × Es)) (last : Int) : Value := .agg #[.slice A F.length c, .int .i64 last]
def Fnd (F : List (Int × Es)) (r : Int) (i : Int) : Prop := (i = -1 ∧ ∀ p ∈ F, p.1 ≠ r) ∨ ∃ (j : Nat) (es : Es), i = (j : Int) ∧ F[j]? = some (r, es) ∧ ∀ k p, F[k]? = some p → k < j → p.1 ≠ r
theorem Find_spec {w : World} {Ω : Nat → Prop} {A : Option Addr} {c : Nat} {F : List (Int × Es)} (h : Imm KTr Ω w A F) (hl : F.length ≤ 1000000) (last root : Int) :
    CallsV Try.prog 36 #[trV A c F last, .int .i64 root] w fun r w' => ∃ i, r = .int .i64 i ∧ Fnd F root i ∧ Ext w w' := by
  refine cardindexref04_Trees_Find.calls okay ?_
  unfold cardindexref04_Trees_Find.W
  intro g w1 f1
  refine ⟨fun x u => ∃ j : Nat, x = (j : Int) ∧ j ≤ F.length ∧ Ext w1 u ∧ ∀ k p, F[k]? = some p → k < j → p.1 ≠ root, fun x _ => (F.length - x).toNat, ⟨0, rfl, Nat.zero_le _, .refl _ _, fun k p _ h => by omega⟩, ?_⟩
  rintro _ u ⟨j, rfl, hj, e, hno⟩
  have hb := f1.blk.ext e
  have ew := f1.ext.trans' e
  refine ⟨_, _, _, hb.cell rfl, brd (fun hlt => ?_) (fun hge => ?_)⟩
  · have hjl : j < F.length := by omega
    have hFj : F[j]? = some (F[j].1, F[j].2) := List.getElem?_eq_getElem hjl
    obtain ⟨ad, B, cc, hA, c0, c1, _, _⟩ := trCell h hFj
    refine ⟨_, _, _, hb.cell rfl, ad, hA, ⟨by omega, by omega⟩, _, by rw [Int.toNat_natCast]; exact Ext.cell ew c0, brd (fun he => ?_) (fun hne => ?_)⟩
    · exact ⟨_, rfl, .inr ⟨j, F[j].2, rfl, by rw [hFj, he], hno⟩, ew⟩
    · rw [wi _ (by omega) (by omega)]
      refine ⟨⟨j + 1, by omega, by omega, e, fun k p hk hlt => ?_⟩, by dsimp only; omega⟩
      rcases Nat.lt_or_ge k j with h | h
      · exact hno k p hk h
      · obtain rfl : k = j := by omega
        rw [hFj] at hk; cases hk; exact hne
  · obtain rfl : j = F.length := by omega
    refine ⟨_, rfl, .inl ⟨rfl, fun p hp => ?_⟩, ew⟩
    obtain ⟨k, hk, rfl⟩ := List.mem_iff_getElem.1 hp
    exact hno k _ (List.getElem?_eq_getElem hk) hk
theorem Place_spec {w : World} {Ω Ω' : Nat → Prop} {A : Option Addr} {c : Nat} {F : List (Int × Es)} (h : Imm KTr Ω w A F) {i : Nat} {r : Int} {es : Es} (hi : F[i]? = some (r, es)) (hl : es.length ≤ 1000000) (last : Int) {B : Option Addr} {key : Key} (hB : Imm KB Ω' w B key) (cb : Nat) (hkl : ∀ p ∈ es, p.1.length ≤ 1048576) :
    CallsV Try.prog 37 #[trV A c F last, iv i, .slice B key.length cb] w fun v w' => v = .tuple #[iv (pos (keysE es) key), .bool (has (keysE es) key)] ∧ Ext w w' := by
  refine cardindexref04_Trees_Place.calls okay ?_
  unfold cardindexref04_Trees_Place.W
  intro g w1 f1
  obtain ⟨ad, E, ce, hA, c0, c1, _, hE⟩ := trCell h hi
  have hil := (List.getElem?_eq_some_iff.1 hi).1
  refine ⟨_, _, _, f1.blk.cell rfl, ad, hA, ⟨by omega, by omega⟩, _, _, _, by rw [Int.toNat_natCast]; exact Ext.cell f1.ext c1, ?_⟩
  have hple := pos_le (keysE es) key
  rw [keysE_length] at hple
  have kl := keysE_length es
  refine ⟨fun x u => Ext w u ∧ x = ((pos (keysE es) key : Nat) : Int), ?_, fun x u => ∃ j : Nat, x = (j : Int) ∧ j ≤ pos (keysE es) key ∧ Ext w u, fun x _ => (es.length - x).toNat, ⟨0, rfl, Nat.zero_le _, f1.ext⟩, ?_⟩
  · rintro _ u ⟨e, rfl⟩
    refine brd (fun hlt => ?_) (fun hge => ?_)
    · obtain ⟨p, hp⟩ : ∃ p, es[pos (keysE es) key]? = some p := ⟨_, List.getElem?_eq_getElem (by omega)⟩
      obtain ⟨k, v⟩ := p
      obtain ⟨ed, A1, cc1, A2, cc2, hEd, d0, _, _, _, i1, _⟩ := enCell hE hp
      refine ⟨ed, hEd, ⟨by omega, by omega⟩, _, _, _, by rw [Int.toNat_natCast]; exact Ext.cell e d0, (Cmp_spec (i1.ext KB_pos e) (hB.ext KB_pos e) (by have h9 : k.length ≤ 1048576 := hkl _ (List.mem_of_getElem? hp); omega) _ _).mono ?_⟩
      rintro _ u' ⟨rfl, e'⟩
      have hk : (keysE es)[pos (keysE es) key]? = some k := keysE_get hp
      refine ⟨_, rfl, ?_, e.trans' e'⟩
      have hb : has (keysE es) key = decide (Lib.compareBytes k key = 0) := by
        unfold has
        rw [hk, decide_eq_decide]
        exact ⟨fun h => by cases h; exact cmp_self _, fun h => by rw [cmp_zero _ _ h]⟩
      rw [hb]
    · have hk : (keysE es)[pos (keysE es) key]? = none := List.getElem?_eq_none (by omega)
      refine ⟨?_, e⟩
      unfold has
      rw [hk]; rfl
  · rintro _ u ⟨j, rfl, hj, e⟩
    refine brd (fun hlt => ?_) (fun hge => ⟨e, by omega⟩)
    have hjl : j < es.length := by omega
    obtain ⟨p, hp⟩ : ∃ p, es[j]? = some p := ⟨_, List.getElem?_eq_getElem hjl⟩
    obtain ⟨k, v⟩ := p
    have hk : (keysE es)[j]? = some k := keysE_get hp
    have hk' : ∃ h : j < (keysE es).length, (keysE es)[j] = k := List.getElem?_eq_some_iff.1 hk
    obtain ⟨hk1, hk2⟩ := hk'
    obtain ⟨ed, A1, cc1, A2, cc2, hEd, d0, _, _, _, i1, _⟩ := enCell hE hp
    refine ⟨ed, hEd, ⟨by omega, by omega⟩, _, _, _, by rw [Int.toNat_natCast]; exact Ext.cell e d0, (Cmp_spec (i1.ext KB_pos e) (hB.ext KB_pos e) (by have h9 : k.length ≤ 1048576 := hkl _ (List.mem_of_getElem? hp); omega) _ _).mono ?_⟩
    rintro _ u' ⟨rfl, e'⟩
    refine ⟨_, rfl, brd (fun hc => ?_) (fun hc => ⟨e.trans' e', ?_⟩)⟩
    · rw [wi _ (by omega) (by omega)]
      have : j < pos (keysE es) key := by
        rcases Nat.lt_or_ge j (pos (keysE es) key) with h | h
        · exact h
        · obtain rfl : j = pos (keysE es) key := by omega
          exfalso
          have hn : ¬ lt k key := pos_stop _ _ hk
          exact hn hc
      exact ⟨⟨j + 1, by omega, by omega, e.trans' e'⟩, by dsimp only; omega⟩
    · rcases Nat.lt_or_ge j (pos (keysE es) key) with h | h
      · exact absurd (by have := pos_lt h hk1; rw [hk2] at this; exact this) hc
      · have : j = pos (keysE es) key := by omega
        rw [this]
end Go.Proofs.Ythfagbfllheneaa
set_option linter.unusedVariables false
set_option linter.unusedSimpArgs false
namespace Go.Proofs.Ythfagbfllheneaa
open Go Go.Sx T4
section
variable {w : World} {Ω : Nat → Prop}
theorem finC {u : World} {g1 : Nat} {b0 b1 : Value} {X : Option Addr} {n c : Nat} {last : Int} {K : Value → World → Prop} (ew : Ext w u) (hb1 : Blk u g1 [b0, b1]) (hg1 : w.heap.size ≤ g1)
    (hK : ∀ u', Ext w u' → Fr (fun k => k = g1) u u' → K (.agg #[.slice X n c, .int .i64 last]) u') :
    stOK ⟨g1, 0, none⟩ 0 [.slice X n c, .int .i64 last] u ∧ ∀ w', w' = setAll ⟨g1, 0, none⟩ 0 [.slice X n c, .int .i64 last] u → ∃ x x1 x2, w'.cell? ((⟨g1, 0, none⟩ : Addr).add 0) = some (.slice x x1 x2) ∧ ∃ x3, w'.cell? ((⟨g1, 0, none⟩ : Addr).add 1) = some (.int .i64 x3) ∧ K (.agg #[.slice x x1 x2, .int .i64 x3]) w' := by
  refine ⟨hb1.stOK (o := 0) [_, _] 0 (by simp), fun w' hw' => ?_⟩
  have b' : Blk w' g1 [.slice X n c, .int .i64 last] := by rw [hw']; exact Blk.setAll (o := 0) [.slice X n c, .int .i64 last] 0 hb1
  have f' : Fr (fun k => k = g1) u w' := by rw [hw']; exact Fr.setAll _ _ _
  exact ⟨_, _, _, b'.cell rfl, _, b'.cell rfl, hK w' (ew.trans f' (fun _ _ h => h) (fun k hk e => by omega)) f'⟩
theorem finT {u : World} {g g1 : Nat} {a b0 b1 : Value} {X : Option Addr} {n c : Nat} {last : Int} {K : Value → World → Prop} (ew : Ext w u) (hb : Blk u g [a, .int .i64 last]) (hb1 : Blk u g1 [b0, b1]) (hne : g1 ≠ g) (hg : w.heap.size ≤ g) (hg1 : w.heap.size ≤ g1)
    (hK : ∀ u', Ext w u' → Fr (fun k => k = g ∨ k = g1) u u' → K (.agg #[.slice X n c, .int .i64 last]) u') :
    stOK ((⟨g, 0, none⟩ : Addr).add 0) 0 [.slice X n c] u ∧ ∀ w', w' = setAll ((⟨g, 0, none⟩ : Addr).add 0) 0 [.slice X n c] u → ∃ x x7 x8, w'.cell? ((⟨g, 0, none⟩ : Addr).add 0) = some (.slice x x7 x8) ∧ ∃ x9, w'.cell? ((⟨g, 0, none⟩ : Addr).add 1) = some (.int .i64 x9) ∧
      stOK ⟨g1, 0, none⟩ 0 [.slice x x7 x8, .int .i64 x9] w' ∧ ∀ w2, w2 = setAll ⟨g1, 0, none⟩ 0 [.slice x x7 x8, .int .i64 x9] w' → ∃ x x1 x2, w2.cell? ((⟨g1, 0, none⟩ : Addr).add 0) = some (.slice x x1 x2) ∧ ∃ x3, w2.cell? ((⟨g1, 0, none⟩ : Addr).add 1) = some (.int .i64 x3) ∧ K (.agg #[.slice x x1 x2, .int .i64 x3]) w2 := by
  obtain ⟨p1, p2⟩ := setF hb (o := 0) (by simp) (.slice X n c)
  refine ⟨p1, fun w' hw' => ?_⟩
  obtain ⟨b', f'⟩ := p2 w' hw'
  have e' : Ext w w' := ew.trans f' (fun _ _ h => h) (fun k hk e => by omega)
  exact ⟨_, _, _, b'.cell rfl, _, b'.cell rfl, finC e' (hb1.keep f' hne) hg1 fun u' e2 f2 => hK u' e2 ((f'.mono fun _ _ h => .inl h).trans f2 (fun _ _ h => h) (fun _ _ h => .inr h))⟩
def TrR (Ω : Nat → Prop) (w : World) (A : Option Addr) (c : Nat) (F : List (Int × Es)) : Prop := Imm KTr Ω w A F ∧ F.length ≤ c
theorem TrR.keep {Ω' : Nat → Prop} {w' : World} {A : Option Addr} {c : Nat} {F : List (Int × Es)} (h : TrR Ω w A c F) (st : Step Ω w Ω' w') : TrR Ω' w' A c F := ⟨h.1.keep KTr_pos st, h.2⟩
theorem TrR.ext {w' : World} {A : Option Addr} {c : Nat} {F : List (Int × Es)} (h : TrR Ω w A c F) (e : Ext w w') : TrR Ω w' A c F := h.keep (e.step Ω)
theorem with_spec {A : Option Addr} {c : Nat} {F : List (Int × Es)} (h : TrR Ω w A c F) (hΩ : ∀ k, Ω k → k < w.heap.size) (hl : F.length ≤ 1000000) {i : Nat} {r : Int} {es0 es : Es} (hi : F[i]? = some (r, es0)) (last : Int) {L : Option Addr} {lc : Nat} (hL : Imm KEn Ω w L es) (hlc : es.length ≤ lc) :
    CallsV Try.prog 85 #[trV A c F last, iv i, .slice L es.length lc] w fun v w' => ∃ A' c', v = trV A' c' (F.set i (r, es)) last ∧ TrR Ω w' A' c' (F.set i (r, es)) ∧ Ext w w' := by
  refine cardindexref04_Trees_with.calls okay ?_
  unfold cardindexref04_Trees_with.W
  intro g w1 f1 g1 w2 f2
  have hg1 : g1 ≠ g := by have := f2.ge; have := f1.lt; omega
  have e2 : Ext w w2 := f1.ext.trans' f2.ext
  have hgw : w.heap.size ≤ g := f1.ge
  have hg1w : w.heap.size ≤ g1 := Nat.le_trans f1.ext.size f2.ge
  have hGl : (F.set i (r, es)).length = F.length := by simp
  generalize hG : F.set i (r, es) = G at *
  refine ⟨fun X n cc x u => ∃ j : Nat, x = (j : Int) ∧ j ≤ F.length ∧ n = j ∧ Ext w2 u ∧ OwnK (Kd.fix Ω w KTr) u X cc (G.take j) ∧ ∀ k, ownB X k → w2.heap.size ≤ k, fun _ _ _ x _ => (F.length - x).toNat, ⟨0, rfl, Nat.zero_le _, rfl, .refl _ _, by rw [List.take_zero]; exact OwnK.nil _ _, fun k hk => (ownB_none k hk).elim⟩, ?_⟩
  rintro X j cc _ u ⟨j0, rfl, hj, rfl, eu, hO, hX⟩
  have ew : Ext w u := e2.trans' eu
  have hbg : Blk u g [.slice A F.length c, .int .i64 last] := (f1.blk.ext f2.ext).ext eu
  have hbg1 : Blk u g1 [.slice none 0 0, .int .i64 0] := f2.blk.ext eu
  refine ⟨_, _, _, hbg.cell rfl, brd (fun hlt => ?_) (fun hge => ?_)⟩
  · have hjl : j < F.length := by omega
    have hFj : F[j]? = some (F[j].1, F[j].2) := List.getElem?_eq_getElem hjl
    obtain ⟨ad, B, cB, hA, c0, c1, hcB, hB⟩ := trCell h.1 hFj
    refine ⟨_, _, _, hbg.cell rfl, ad, hA, ⟨by omega, by omega⟩, _, by rw [Int.toNat_natCast]; exact Ext.cell ew c0, _, _, _, by rw [Int.toNat_natCast]; exact Ext.cell ew c1, ?_⟩
    intro g3 u1 f3
    refine ⟨f3.blk.stOK (o := 0) [_, _] 0 (by simp), fun u2 hu2 => ?_⟩
    have b2 : Blk u2 g3 [.int .i64 F[j].1, .slice B F[j].2.length cB] := by rw [hu2]; exact Blk.setAll (o := 0) [.int .i64 F[j].1, .slice B F[j].2.length cB] 0 f3.blk
    have s2 : Ext u u2 := by rw [hu2]; exact f3.ext.setAll f3.ge _ _
    have htk : ∀ p, G[j]? = some p → G.take (j + 1) = G.take j ++ [p] := fun p hp => by rw [List.take_add_one, hp]; rfl
    -- what is pushed
    have push : ∀ {v : World} {p : Int × Es} {cs : List Value}, Ext u v → G[j]? = some p → KTr.rep Ω w p cs → ∃ x18 x19 x20 u', RunsTo Try.prog (Builtin.append_ #[59, 59] 59 #[.slice X j cc, .slice (some ⟨v.heap.size, 0, none⟩) 1 1]) (v.alloc (.cells cs.toArray 132)) (.slice x18 x19 x20) u' ∧ (∃ j' : Nat, IntKind.i64.wrap ((j : Int) + 1) = (j' : Int) ∧ j' ≤ F.length ∧ x19 = j' ∧ Ext w2 u' ∧ OwnK (Kd.fix Ω w KTr) u' x18 x20 (G.take j') ∧ ∀ k, ownB x18 k → w2.heap.size ≤ k) ∧ ((F.length : Int) - IntKind.i64.wrap ((j : Int) + 1)).toNat < ((F.length : Int) - (j : Int)).toNat := by
      intro v p cs ev hp hr
      have hO' : OwnK (Kd.fix Ω w KTr) v X cc (G.take j) := hO.fr ev (fun _ _ h => h) (fun _ _ _ h => h)
      obtain ⟨A', c', u', hrun, ho', gr⟩ := hO'.push (K := Kd.fix Ω w KTr) slT (ty := 59) (a := p) (cs := cs) hr (oneTr hr) (e' := 132) (by simp [maxLen]; omega) (by simp; omega)
      rw [show (G.take j).length = j by simp; omega] at hrun
      have hsz : w2.heap.size ≤ v.heap.size := Nat.le_trans eu.size ev.size
      rw [wi _ (by omega) (by omega)]
      refine ⟨_, _, _, u', hrun, ⟨j + 1, by omega, by omega, by simp; omega, (eu.trans' ev).trans gr.fr (fun _ _ h => h) (fun k hk ho => by have := hX k ho; omega), by rw [htk p hp]; exact ho', fun k hk => ?_⟩, by omega⟩
      rcases gr.sub k hk with h | h
      · exact hX k h
      · omega
    refine brd (fun he => ?_) (fun hne => ?_)
    · have hij : i = j := by omega
      subst hij
      obtain ⟨p1, p2⟩ := setF b2 (o := 1) (by simp) (.slice L es.length lc)
      refine ⟨p1, fun u3 hu3 => ?_⟩
      obtain ⟨b3, f4⟩ := p2 u3 hu3
      have s3 : Ext u u3 := s2.trans f4 (fun _ _ h => h) (fun k hk e => by have := f3.ge; omega)
      have hri : F[i].1 = r := by rw [hFj] at hi; have := Option.some.inj hi; exact (Prod.mk.inj this).1
      refine ⟨_, b3.cell rfl, _, _, _, b3.cell rfl, ?_⟩
      rintro g4 u4 ⟨rfl, rfl⟩
      exact push s3 (p := (r, es)) (by rw [← hG, List.getElem?_set_self hjl]) (by rw [hri]; exact repTr hlc hL)
    · have hij : i ≠ j := by omega
      refine ⟨_, b2.cell rfl, _, _, _, b2.cell rfl, ?_⟩
      rintro g4 u4 ⟨rfl, rfl⟩
      exact push s2 (p := (F[j].1, F[j].2)) (by rw [← hG, List.getElem?_set_ne hij]; exact hFj) (repTr hcB hB)
  · obtain rfl : j = F.length := by omega
    rw [← hGl, List.take_length] at hO
    refine finT (K := fun v w' => ∃ A' c', v = trV A' c' G last ∧ TrR Ω w' A' c' G ∧ Ext w w') ew hbg hbg1 hg1 hgw hg1w fun u' e' f' => ⟨X, cc, by unfold trV; rw [hGl], ⟨?_, ?_⟩, e'⟩
    · refine unfixI KTr_pos (hO.fr f' (fun k hk hs => ?_) (fun _ _ _ h => h)) e' fun k hk ho => by have := hX k hk; have := hΩ k ho; have := e2.size; omega
      have := hX k hk
      have := f2.lt
      have := f1.lt
      have := f2.ext.size
      rcases hs with rfl | rfl <;> omega
    · obtain ⟨xs, ho, _⟩ := hO; exact ho.le
theorem Create_specR {A : Option Addr} {c : Nat} {F : List (Int × Es)} (h : TrR Ω w A c F) (hΩ : ∀ k, Ω k → k < w.heap.size) (hl : F.length ≤ 1000000) (last : Nat) (hla : last ≤ 1000000) :
    CallsV Try.prog 42 #[trV A c F last] w fun v w' => ∃ A' c', v = trV A' c' (F ++ [(((last + 1 : Nat) : Int), [])]) ((last + 1 : Nat) : Int) ∧ TrR Ω w' A' c' (F ++ [(((last + 1 : Nat) : Int), [])]) ∧ Ext w w' := by
  refine cardindexref04_Trees_Create.calls okay ?_
  unfold cardindexref04_Trees_Create.W
  intro g w1 f1 g1 w2 f2
  have hg1 : g1 ≠ g := by have := f2.ge; have := f1.lt; omega
  have e2 : Ext w w2 := f1.ext.trans' f2.ext
  have hgw : w.heap.size ≤ g := f1.ge
  have hg1w : w.heap.size ≤ g1 := Nat.le_trans f1.ext.size f2.ge
  have bg : Blk w2 g [.slice A F.length c, .int .i64 (last : Int)] := f1.blk.ext f2.ext
  have hF : Imm (Kd.fix Ω w KTr) NoB w2 A F := (fixI h.1).ext KTr_pos e2
  obtain ⟨A1, c1, w3, hr3, ho3, g3⟩ := appFix (K := KTr) slT oneTr (ty := 59) (OwnK.nil (Kd.fix Ω w KTr) w2) hF (cb := c) (fun k hk => (ownB_none k hk).elim) (by simp [maxLen]; omega) (by simp; omega)
  rw [List.nil_append] at hr3 ho3
  have e3 : Ext w2 w3 := g3.fr.mono (fun k _ hk => (ownB_none k hk).elim)
  have hX : ∀ k, ownB A1 k → w2.heap.size ≤ k := fun k hk => (g3.sub k hk).resolve_left fun h => (ownB_none k h).elim
  have bg3 := bg.ext e3
  have bg13 : Blk w3 g1 [.slice none 0 0, .int .i64 0] := f2.blk.ext e3
  obtain ⟨p1, p2⟩ := setF bg3 (o := 1) (by simp) (.int .i64 ((last + 1 : Nat) : Int))
  have hw : IntKind.i64.wrap ((last : Int) + 1) = ((last + 1 : Nat) : Int) := by rw [wi _ (by omega) (by omega)]; omega
  refine ⟨_, _, _, bg.cell rfl, _, _, _, w3, hr3, _, bg3.cell rfl, by rw [hw]; exact p1, fun w4 hw4 => ?_⟩
  rw [hw] at hw4
  obtain ⟨b4, f4⟩ := p2 w4 hw4
  have hgl : g < w2.heap.size := bg.lt
  have hg1l : g1 < w2.heap.size := f2.lt
  refine ⟨_, b4.cell rfl, ?_⟩
  rintro g5 w5 ⟨rfl, rfl⟩
  have ho4 : OwnK (Kd.fix Ω w KTr) w4 A1 c1 F := ho3.fr f4 (fun k hk e => by have := hX k hk; omega) (fun _ _ _ h => h)
  have hrep : KTr.rep Ω w (((last + 1 : Nat) : Int), []) [.int .i64 ((last + 1 : Nat) : Int), .slice none 0 0] := repTr (es := []) (Nat.zero_le _) (Imm.nil KEn Ω w none)
  obtain ⟨A6, c6, w6, hr6, ho6, g6⟩ := ho4.push (K := Kd.fix Ω w KTr) slT (ty := 59) (cs := [.int .i64 ((last + 1 : Nat) : Int), .slice none 0 0]) hrep (oneTr hrep) (e' := 132) (by simp [maxLen]; omega) (by omega)
  have hX6 : ∀ k, ownB A6 k → w2.heap.size ≤ k := fun k hk => by
    rcases g6.sub k hk with h | h
    · exact hX k h
    · have := f4.size; have := e3.size; omega
  have off : ∀ k, ownB A1 k → k ≠ g ∧ k ≠ g1 := fun k hk => by have := hX k hk; omega
  have b6 : Blk w6 g [.slice A F.length c, .int .i64 ((last + 1 : Nat) : Int)] := b4.keep g6.fr fun hk => (off _ hk).1 rfl
  have b16 : Blk w6 g1 [.slice none 0 0, .int .i64 0] := (bg13.keep f4 hg1).keep g6.fr fun hk => (off _ hk).2 rfl
  have e4 : Ext w w4 := (e2.trans' e3).trans f4 (fun _ _ h => h) (fun k hk e => by omega)
  have e6 : Ext w w6 := e4.trans g6.fr (fun _ _ h => h) (fun k hk ho => by have := hX k ho; have := e2.size; omega)
  refine ⟨_, _, _, w6, hr6, ?_⟩
  refine finT (K := fun v w' => ∃ A' c', v = trV A' c' (F ++ [(((last + 1 : Nat) : Int), [])]) ((last + 1 : Nat) : Int) ∧ TrR Ω w' A' c' (F ++ [(((last + 1 : Nat) : Int), [])]) ∧ Ext w w') e6 b6 b16 hg1 hgw hg1w fun u' e' f' => ⟨A6, c6, rfl, ⟨?_, ?_⟩, e'⟩
  · refine unfixI KTr_pos (ho6.fr f' (fun k hk hs => ?_) (fun _ _ _ h => h)) e' fun k hk ho => by have := hX6 k hk; have := hΩ k ho; have := e2.size; omega
    have := hX6 k hk
    rcases hs with rfl | rfl <;> omega
  · obtain ⟨xs, ho, _⟩ := ho6; exact ho.le
theorem Drop_specR {A : Option Addr} {c : Nat} {F : List (Int × Es)} (h : TrR Ω w A c F) (hΩ : ∀ k, Ω k → k < w.heap.size) (hl : F.length ≤ 1000000) {F1 F2 : List (Int × Es)} {p0 : Int × Es} (hF : F = F1 ++ p0 :: F2) (last : Int) :
    CallsV Try.prog 43 #[trV A c F last, iv F1.length] w fun v w' => ∃ A' c', v = trV A' c' (F1 ++ F2) last ∧ TrR Ω w' A' c' (F1 ++ F2) ∧ Ext w w' := by
  refine cardindexref04_Trees_Drop.calls okay ?_
  unfold cardindexref04_Trees_Drop.W
  intro g w1 f1 g1 w2 f2
  have hg1 : g1 ≠ g := by have := f2.ge; have := f1.lt; omega
  have e2 : Ext w w2 := f1.ext.trans' f2.ext
  have hgw : w.heap.size ≤ g := f1.ge
  have hg1w : w.heap.size ≤ g1 := Nat.le_trans f1.ext.size f2.ge
  generalize hi : F1.length = i at *
  have hle : ∀ j, (if j ≤ i then F.take j else F1 ++ F2.take (j - i - 1)).length ≤ j := fun j => by
    split
    · rw [List.length_take]; omega
    · rw [List.length_append, List.length_take]; omega
  refine ⟨fun X n cc x u => ∃ j : Nat, x = (j : Int) ∧ j ≤ F.length ∧ n = (if j ≤ i then F.take j else F1 ++ F2.take (j - i - 1)).length ∧ Ext w2 u ∧ OwnK (Kd.fix Ω w KTr) u X cc (if j ≤ i then F.take j else F1 ++ F2.take (j - i - 1)) ∧ ∀ k, ownB X k → w2.heap.size ≤ k, fun _ _ _ x _ => (F.length - x).toNat, ⟨0, rfl, Nat.zero_le _, by simp, .refl _ _, by rw [if_pos (Nat.zero_le _), List.take_zero]; exact OwnK.nil _ _, fun k hk => (ownB_none k hk).elim⟩, ?_⟩
  rintro X n cc _ u ⟨j, rfl, hj, rfl, eu, hO, hX⟩
  have ew : Ext w u := e2.trans' eu
  have hbg : Blk u g [.slice A F.length c, .int .i64 last] := (f1.blk.ext f2.ext).ext eu
  have hbg1 : Blk u g1 [.slice none 0 0, .int .i64 0] := f2.blk.ext eu
  have hll := hle j
  refine ⟨_, _, _, hbg.cell rfl, brd (fun hlt => ?_) (fun hge => ?_)⟩
  · have hjl : j < F.length := by omega
    have hFj : F[j]? = some (F[j].1, F[j].2) := List.getElem?_eq_getElem hjl
    rw [wi _ (by omega) (by omega)]
    refine brn (fun hne => ?_) (fun he => ?_)
    · have hji : j ≠ i := by omega
      obtain ⟨ad, B, cB, hA, c0, c1, hcB, hB⟩ := trCell h.1 hFj
      refine ⟨_, _, _, hbg.cell rfl, ad, hA, ⟨by omega, by omega⟩, _, by rw [Int.toNat_natCast]; exact Ext.cell ew c0, _, _, _, by rw [Int.toNat_natCast]; exact Ext.cell ew c1, ?_⟩
      rintro g4 u4 ⟨rfl, rfl⟩
      have hrep : KTr.rep Ω w (F[j].1, F[j].2) [.int .i64 F[j].1, .slice B F[j].2.length cB] := repTr hcB hB
      obtain ⟨A', c', u', hrun, ho', gr⟩ := hO.push (K := Kd.fix Ω w KTr) slT (ty := 59) (cs := [.int .i64 F[j].1, .slice B F[j].2.length cB]) hrep (oneTr hrep) (e' := 132) (by simp only [maxLen]; omega) (by omega)
      have hnew : (if j + 1 ≤ i then F.take (j + 1) else F1 ++ F2.take (j + 1 - i - 1)) = (if j ≤ i then F.take j else F1 ++ F2.take (j - i - 1)) ++ [(F[j].1, F[j].2)] := by
        by_cases h1 : j < i
        · rw [if_pos (by omega), if_pos (by omega), List.take_add_one, hFj]; rfl
        · rw [if_neg (by omega), if_neg (by omega), List.append_assoc]
          have hF2 : F2[j - i - 1]? = some (F[j].1, F[j].2) := by
            rw [← hFj, hF, List.getElem?_append_right (by omega), hi, List.getElem?_cons, if_neg (by omega)]
          rw [show j + 1 - i - 1 = (j - i - 1) + 1 by omega, List.take_add_one, hF2]; rfl
      refine ⟨_, _, _, u', hrun, ⟨j + 1, by omega, by omega, by rw [hnew], eu.trans gr.fr (fun _ _ h => h) (fun k hk ho => by have := hX k ho; omega), by rw [hnew]; exact ho', fun k hk => ?_⟩, by dsimp only; omega⟩
      rcases gr.sub k hk with h | h
      · exact hX k h
      · exact Nat.le_trans eu.size h
    · have hji : j = i := by omega
      subst hji
      have hnew : (if j + 1 ≤ j then F.take (j + 1) else F1 ++ F2.take (j + 1 - j - 1)) = (if j ≤ j then F.take j else F1 ++ F2.take (j - j - 1)) := by
        rw [if_neg (by omega), if_pos (Nat.le_refl _), show j + 1 - j - 1 = 0 by omega, List.take_zero, List.append_nil, hF, ← hi, List.take_left']
        rfl
      exact ⟨⟨j + 1, by omega, by omega, by rw [hnew], eu, by rw [hnew]; exact hO, hX⟩, by dsimp only; omega⟩
  · obtain rfl : j = F.length := by omega
    have hlen : F.length = i + 1 + F2.length := by rw [hF, List.length_append, List.length_cons, hi]; omega
    have hfin : (if F.length ≤ i then F.take F.length else F1 ++ F2.take (F.length - i - 1)) = F1 ++ F2 := by
      rw [if_neg (by omega), show F.length - i - 1 = F2.length by omega, List.take_length]
    rw [hfin] at hO ⊢
    refine finT (K := fun v w' => ∃ A' c', v = trV A' c' (F1 ++ F2) last ∧ TrR Ω w' A' c' (F1 ++ F2) ∧ Ext w w') ew hbg hbg1 hg1 hgw hg1w fun u' e' f' => ⟨X, cc, rfl, ⟨?_, ?_⟩, e'⟩
    · refine unfixI KTr_pos (hO.fr f' (fun k hk hs => ?_) (fun _ _ _ h => h)) e' fun k hk ho => by have := hX k hk; have := hΩ k ho; have := e2.size; omega
      have := hX k hk
      have := f2.lt
      have := f1.lt
      have := f2.ext.size
      rcases hs with rfl | rfl <;> omega
    · obtain ⟨xs, ho, _⟩ := hO; exact ho.le
end
end Go.Proofs.Ythfagbfllheneaa
set_option linter.unusedVariables false
set_option linter.unusedSimpArgs false
namespace Go.Proofs.Ythfagbfllheneaa
open Go Go.Sx T4
section
variable {w : World} {Ω : Nat → Prop}
theorem immLt {α : Type} {K : Kd α} (hz : 0 < K.size) {A : Option Addr} {l : List α} (h : Imm K Ω w A l) (hl : l ≠ []) : ∀ k, ownB A k → k < w.heap.size := by
  intro k ⟨ad, hA, hk⟩
  obtain ⟨ad', h1, _, cs, hr, hc⟩ := h 0 (l.head hl) (by cases l with | nil => exact absurd rfl hl | cons a l => rfl)
  rw [hA] at h1; cases h1; subst hk
  have hlen := K.len hr
  obtain ⟨v, hv⟩ : ∃ v, cs[0]? = some v := ⟨_, List.getElem?_eq_getElem (by omega)⟩
  have := hc 0 v hv
  refine Classical.byContradiction fun hn => ?_
  rw [Nat.zero_mul, Nat.zero_add, add_zero'] at this
  simp [World.cell?, Array.getElem?_eq_none (Nat.le_of_not_lt hn)] at this
theorem ownB_cut {A : Option Addr} {m lo sz k : Nat} (h : ownB (cutAt A m lo sz) k) : ownB A k := by
  obtain ⟨ad, hA, hk⟩ := h
  unfold cutAt at hA
  split at hA
  · exact ⟨ad, hA, hk⟩
  · cases A with
    | none => cases hA
    | some a => simp at hA; subst hA; exact ⟨a, rfl, by rw [add_block] at hk; exact hk⟩
theorem fixCut {E : Option Addr} {es : Es} (h : Imm KEn Ω w E es) {lo hi m : Nat} (h1 : hi ≤ m) : Imm (Kd.fix Ω w KEn) NoB w (cutAt E m lo 2) ((es.take hi).drop lo) := (fixI h).cut (K := Kd.fix Ω w KEn) h1
theorem Put_specR {A : Option Addr} {c : Nat} {F : List (Int × Es)} (h : TrR Ω w A c F) (hΩ : ∀ k, Ω k → k < w.heap.size) (hl : F.length ≤ 1000000) {i : Nat} {r : Int} {es : Es} (hi : F[i]? = some (r, es)) (hel : es.length ≤ 100000) (last : Int) {Ω1 Ω2 : Nat → Prop} {KA VA : Option Addr} {key val : Key} (hK : Imm KB Ω1 w KA key) (hV : Imm KB Ω2 w VA val) (kc vc : Nat) (hkl : key.length ≤ 1048576) (hvl : val.length ≤ 1048576) (hks : ∀ p ∈ es, p.1.length ≤ 1048576) :
    CallsV Try.prog 38 #[trV A c F last, iv i, .slice KA key.length kc, .slice VA val.length vc] w fun v w' => ∃ A' c', v = trV A' c' (F.set i (r, insE key val es)) last ∧ TrR Ω w' A' c' (F.set i (r, insE key val es)) ∧ Ext w w' := by
  refine cardindexref04_Trees_Put.calls okay ?_
  unfold cardindexref04_Trees_Put.W
  intro g w1 f1 g1 w2 f2
  have hg1 : g1 ≠ g := by have := f2.ge; have := f1.lt; omega
  have e2 : Ext w w2 := f1.ext.trans' f2.ext
  have hgw : w.heap.size ≤ g := f1.ge
  have hg1w : w.heap.size ≤ g1 := Nat.le_trans f1.ext.size f2.ge
  have bg : Blk w2 g [.slice A F.length c, .int .i64 last] := f1.blk.ext f2.ext
  have bg1 : Blk w2 g1 [.slice none 0 0, .int .i64 0] := f2.blk
  have hgl := bg.lt
  have hg1l := bg1.lt
  obtain ⟨Ω1, hΩe⟩ : ∃ Ω1 : Nat → Prop, Ω1 = fun k => Ω k ∨ k = g1 := ⟨_, rfl⟩
  have hΩ1 : ∀ k, Ω1 k → k < w2.heap.size := fun k hk => by
    rw [hΩe] at hk
    rcases hk with hk | rfl
    · exact Nat.lt_of_lt_of_le (hΩ k hk) e2.size
    · exact hg1l
  have stE : ∀ {u}, Ext w u → Step Ω w Ω1 u := fun e => ⟨e.size, fun k hk _ => e.block k hk fun h => h, fun k hk h => by
    rw [hΩe] at h
    rcases h with h | h
    · exact h
    · omega⟩
  obtain ⟨ad, E, ce, hA, c0, c1, hce, hE⟩ := trCell h.1 hi
  have hil := (List.getElem?_eq_some_iff.1 hi).1
  have hple := pos_le (keysE es) key
  rw [keysE_length] at hple
  have hcut := insE_cut key val es
  refine ⟨_, _, _, bg.cell rfl, _, bg.cell rfl, (Place_spec (h.1.ext KTr_pos e2) hi (by omega) last (hK.ext KB_pos e2) kc hks).mono ?_⟩
  rintro _ w3 ⟨rfl, e3⟩
  have hhas : has (keysE es) key = true → pos (keysE es) key < es.length := fun hh => by
    unfold has at hh
    have := (List.getElem?_eq_some_iff.1 (of_decide_eq_true hh)).1
    rwa [keysE_length] at this
  generalize hk : pos (keysE es) key = k at *
  generalize hb : has (keysE es) key = b at *
  have e23 : Ext w w3 := e2.trans' e3
  obtain ⟨X5, c5, w4, hr4, ho4, g4⟩ := (OwnK.nil KB w3).append (K := KB) slB (ty := 28) (cb := kc) (m := key) (fun j a ha => by obtain ⟨ad, h1, _, cs, h3, h4⟩ := (hK.ext KB_pos e23) j a ha; exact ⟨ad, h1, fun h => ownB_none _ h, cs, h3, h4⟩) (fun a cs h => oneB.one h) (by simp [maxLen]; omega) (by simp; omega)
  rw [List.nil_append] at hr4 ho4
  have e4 : Ext w3 w4 := g4.fr.mono (fun k _ hk => (ownB_none k hk).elim)
  have n5 : ∀ k, ownB X5 k → w3.heap.size ≤ k := fun k hk => (g4.sub k hk).resolve_left fun h => (ownB_none k h).elim
  have e24 : Ext w w4 := e23.trans' e4
  obtain ⟨X6, c6, w5, hr5, ho5, g5⟩ := (OwnK.nil KB w4).append (K := KB) slB (ty := 28) (cb := vc) (m := val) (fun j a ha => by obtain ⟨ad, h1, _, cs, h3, h4⟩ := (hV.ext KB_pos e24) j a ha; exact ⟨ad, h1, fun h => ownB_none _ h, cs, h3, h4⟩) (fun a cs h => oneB.one h) (by simp [maxLen]; omega) (by simp; omega)
  rw [List.nil_append] at hr5 ho5
  have e5 : Ext w4 w5 := g5.fr.mono (fun k _ hk => (ownB_none k hk).elim)
  have n6 : ∀ k, ownB X6 k → w4.heap.size ≤ k := fun k hk => (g5.sub k hk).resolve_left fun h => (ownB_none k h).elim
  have e25 : Ext w w5 := e24.trans' e5
  refine ⟨_, _, rfl, _, _, _, w4, hr4, _, _, _, w5, hr5, ?_⟩
  intro g2 w6 f6
  refine ⟨f6.blk.stOK (o := 0) [_, _] 0 (by simp), fun w7 hw7 => ?_⟩
  have b7 : Blk w7 g2 [.slice X5 key.length c5, .slice X6 val.length c6] := by rw [hw7]; exact Blk.setAll (o := 0) [.slice X5 key.length c5, .slice X6 val.length c6] 0 f6.blk
  have e57 : Ext w5 w7 := by rw [hw7]; exact f6.ext.setAll f6.ge _ _
  have e7 : Ext w w7 := e25.trans' e57
  have e27 : Ext w2 w7 := ((e3.trans' e4).trans' e5).trans' e57
  have bg7 := bg.ext e27
  have l5 : key.length ≤ c5 := by obtain ⟨xs, ho, _⟩ := ho4; exact ho.le
  have l6 : val.length ≤ c6 := by obtain ⟨xs, ho, _⟩ := ho5; exact ho.le
  have sz2 := e2.size; have sz23 := e23.size; have sz24 := e24.size; have sz7 := e7.size
  have i5 : Imm KB Ω1 w7 X5 key := by
    obtain ⟨xs, ho, hr⟩ := ho4
    exact (Own.imm (K := KB) (Ω := Ω1) KB_pos ho (fun k hk hω => by have := n5 k hk; have := hΩ1 k hω; have := e3.size; omega) fun j a ha => hr j a ha).ext KB_pos (e5.trans' e57)
  have i6 : Imm KB Ω1 w7 X6 val := by
    obtain ⟨xs, ho, hr⟩ := ho5
    exact (Own.imm (K := KB) (Ω := Ω1) KB_pos ho (fun k hk hω => by have := n6 k hk; have := hΩ1 k hω; have := e3.size; have := e4.size; omega) fun j a ha => hr j a ha).ext KB_pos e57
  have hE7 : Imm KEn Ω1 w7 E es := hE.keep KEn_pos (stE e7)
  obtain ⟨X8, c8, w8, hr8, ho8, g8⟩ := appFix (w := w7) (Ω := Ω1) (K := KEn) slE oneEn (ty := 130) (OwnK.nil (Kd.fix Ω1 w7 KEn) w7) (fixCut hE7 (lo := 0) (hi := k) (m := ce) (by omega)) (cb := ce) (fun k hk => (ownB_none k hk).elim) (by simp [maxLen]; omega) (by simp; omega)
  rw [List.nil_append, List.drop_zero] at hr8 ho8
  have lk : (es.take k).length = k := by rw [List.length_take]; omega
  rw [lk] at hr8
  have e8 : Ext w7 w8 := g8.fr.mono (fun k _ hk => (ownB_none k hk).elim)
  have n8 : ∀ k, ownB X8 k → w7.heap.size ≤ k := fun k hk => (g8.sub k hk).resolve_left fun h => (ownB_none k h).elim
  have b8 := b7.ext e8
  refine ⟨_, _, _, bg7.cell rfl, ad, hA, ⟨by omega, by omega⟩, _, _, _, by rw [Int.toNat_natCast]; exact Ext.cell e7 c1, ⟨by omega, by omega⟩, _, _, _, w8, by rw [Int.toNat_natCast, Nat.sub_zero, Nat.sub_zero]; exact hr8, _, _, _, b8.cell rfl, _, _, _, b8.cell rfl, ?_⟩
  rintro g3 w8' ⟨rfl, rfl⟩
  have hrep : KEn.rep Ω1 w7 (key, val) [.slice X5 key.length c5, .slice X6 val.length c6] := repEn l5 l6 i5 i6
  obtain ⟨X9, c9, w9, hr9, ho9, g9⟩ := ho8.push (K := Kd.fix Ω1 w7 KEn) slE (ty := 130) (a := (key, val)) (cs := [.slice X5 key.length c5, .slice X6 val.length c6]) hrep (oneEn hrep) (e' := 135) (by rw [lk]; simp only [maxLen]; omega) (by rw [lk]; omega)
  rw [lk] at hr9
  have n9 : ∀ k, ownB X9 k → w7.heap.size ≤ k := fun k hk => by
    rcases g9.sub k hk with h | h
    · exact n8 k h
    · have := e8.size; omega
  have e79 : Ext w7 w9 := e8.trans g9.fr (fun _ _ h => h) (fun k hk ho => by have := n8 k ho; omega)
  refine ⟨_, _, _, w9, hr9, fun x u => x = ((k + (if b then 1 else 0) : Nat) : Int) ∧ u = w9, ?_, ?_⟩
  · rintro _ u0 ⟨rfl, hu0⟩
    obtain rfl : w9 = u0 := hu0.symm
    have hk'l : k + (if b = true then 1 else 0) ≤ es.length := by
      cases b with
      | true => have := hhas rfl; simp; omega
      | false => simp; omega
    generalize hkk : k + (if b = true then 1 else 0) = k' at *
    have bg9 : Blk w9.drew g [.slice A F.length c, .int .i64 last] := (bg7.ext e79).ext (Fr.drew NoB w9)
    have bg19 : Blk w9.drew g1 [.slice none 0 0, .int .i64 0] := ((bg1.ext e27).ext e79).ext (Fr.drew NoB w9)
    have ed : Ext w7 w9.drew := e79.drew
    have hB10 : Imm (Kd.fix Ω1 w7 KEn) NoB w9.drew (cutAt E ce k' 2) (es.drop k') := by
      have := (fixCut hE7 (lo := k') (hi := es.length) (m := ce) hce).ext (show 0 < (Kd.fix Ω1 w7 KEn).size from KEn_pos) ed
      rwa [List.take_length] at this
    have off10 : ∀ j, ownB X9 j → ¬ ownB (cutAt E ce k' 2) j ∨ es.drop k' = [] := fun j hj => by
      by_cases hne : es = []
      · right; rw [hne]; simp
      · left; intro hj'; have := immLt KEn_pos hE hne j (ownB_cut hj'); have := n9 j hj; omega
    obtain ⟨X10, c10, w10, hr10, ho10, g10⟩ := appFix (w := w7) (Ω := Ω1) (K := KEn) slE oneEn (ty := 130) (ho9.fr (Fr.drew NoB w9) (fun _ _ h => h) (fun _ _ _ h => h)) hB10 (cb := ce - k') off10 (by simp [maxLen]; omega) (by simp; omega)
    rw [List.length_drop] at hr10
    have n10 : ∀ j, ownB X9 j → j ≠ g ∧ j ≠ g1 := fun j hj => by have := n9 j hj; have := e27.size; omega
    have b10 : Blk w10 g [.slice A F.length c, .int .i64 last] := bg9.keep g10.fr fun hj => (n10 _ hj).1 rfl
    have b110 : Blk w10 g1 [.slice none 0 0, .int .i64 0] := bg19.keep g10.fr fun hj => (n10 _ hj).2 rfl
    have e710 : Ext w7 w10 := ed.trans g10.fr (fun _ _ h => h) (fun j hj ho => by have := n9 j ho; omega)
    have e10 : Ext w w10 := e7.trans' e710
    refine ⟨fun u => Blk u g [.slice A F.length c, .int .i64 last], bg9, _, _, _, fun u hu => hu.cell rfl, _, fun u hu => hu.cell rfl, ⟨by omega, by omega⟩, _, _, _, w10, by rw [Int.toNat_natCast]; exact hr10, b10, ?_⟩
    rw [List.append_assoc, List.singleton_append, ← hcut] at ho10
    have hL : Imm KEn Ω1 w10 X10 (insE key val es) := unfixI KEn_pos ho10 e710 fun j hj hω => by
      have := hΩ1 j hω
      have := e27.size
      rcases g10.sub j hj with h | h
      · have := n9 j h; omega
      · have := ed.size; omega
    have hll : (es.take k ++ [(key, val)] ++ es.drop k').length = (insE key val es).length := by rw [List.append_assoc, List.singleton_append, ← hcut]
    rw [hll]
    refine (with_spec (h.keep (stE e10)) (fun k hk => Nat.lt_of_lt_of_le (hΩ1 k hk) (Nat.le_trans e27.size e710.size)) hl hi last hL (by obtain ⟨xs, ho, _⟩ := ho10; exact ho.le)).mono ?_
    rintro _ w11 ⟨A', c', rfl, hT, e11⟩
    refine ⟨_, _, _, _, rfl, ?_⟩
    refine finC (K := fun v w' => ∃ A' c', v = trV A' c' (F.set i (r, insE key val es)) last ∧ TrR Ω w' A' c' (F.set i (r, insE key val es)) ∧ Ext w w') (e10.trans' e11) (b110.ext e11) hg1w fun u' e' f' => ⟨A', c', rfl, ?_, e'⟩
    refine TrR.keep (hT.keep (f'.step (Ω := Ω1) (Ω' := Ω1) (fun k _ hk => ?_) (fun _ _ h => h))) ⟨Nat.le_refl _, fun _ _ _ => rfl, fun k _ hk => ?_⟩
    · rw [hΩe]; exact .inr hk
    · rw [hΩe]; exact .inl hk
  · cases b with
    | true => exact ⟨by rw [wi _ (by omega) (by omega)]; rfl, rfl⟩
    | false => exact ⟨rfl, rfl⟩
theorem Delete_specR {A : Option Addr} {c : Nat} {F : List (Int × Es)} (h : TrR Ω w A c F) (hΩ : ∀ k, Ω k → k < w.heap.size) (hl : F.length ≤ 1000000) {i : Nat} {r : Int} {es : Es} (hi : F[i]? = some (r, es)) (hel : es.length ≤ 100000) (last : Int) {Ω1 : Nat → Prop} {KA : Option Addr} {key : Key} (hK : Imm KB Ω1 w KA key) (kc : Nat) (hks : ∀ p ∈ es, p.1.length ≤ 1048576) :
    CallsV Try.prog 41 #[trV A c F last, iv i, .slice KA key.length kc] w fun v w' => ∃ A' c', v = trV A' c' (F.set i (r, delE key es)) last ∧ TrR Ω w' A' c' (F.set i (r, delE key es)) ∧ Ext w w' := by
  refine cardindexref04_Trees_Delete.calls okay ?_
  unfold cardindexref04_Trees_Delete.W
  intro g w1 f1 g1 w2 f2
  have hg1 : g1 ≠ g := by have := f2.ge; have := f1.lt; omega
  have e2 : Ext w w2 := f1.ext.trans' f2.ext
  have hgw : w.heap.size ≤ g := f1.ge
  have hg1w : w.heap.size ≤ g1 := Nat.le_trans f1.ext.size f2.ge
  have bg : Blk w2 g [.slice A F.length c, .int .i64 last] := f1.blk.ext f2.ext
  have bg1 : Blk w2 g1 [.slice none 0 0, .int .i64 0] := f2.blk
  have hgl := bg.lt
  have hg1l := bg1.lt
  obtain ⟨Ω1, hΩe⟩ : ∃ Ω1 : Nat → Prop, Ω1 = fun k => Ω k ∨ k = g1 := ⟨_, rfl⟩
  have hΩ1 : ∀ k, Ω1 k → k < w2.heap.size := fun k hk => by
    rw [hΩe] at hk
    rcases hk with hk | rfl
    · exact Nat.lt_of_lt_of_le (hΩ k hk) e2.size
    · exact hg1l
  have stE : ∀ {u}, Ext w u → Step Ω w Ω1 u := fun e => ⟨e.size, fun k hk _ => e.block k hk fun h => h, fun k hk h => by
    rw [hΩe] at h
    rcases h with h | h
    · exact h
    · omega⟩
  obtain ⟨ad, E, ce, hA, c0, c1, hce, hE⟩ := trCell h.1 hi
  have hil := (List.getElem?_eq_some_iff.1 hi).1
  have hple := pos_le (keysE es) key
  rw [keysE_length] at hple
  refine ⟨_, _, _, bg.cell rfl, _, bg.cell rfl, (Place_spec (h.1.ext KTr_pos e2) hi (by omega) last (hK.ext KB_pos e2) kc hks).mono ?_⟩
  rintro _ w3 ⟨rfl, e3⟩
  have e23 : Ext w w3 := e2.trans' e3
  have bg3 := bg.ext e3
  have bg13 := bg1.ext e3
  have hhas : has (keysE es) key = true → pos (keysE es) key < es.length := fun hh => by
    unfold has at hh
    have := (List.getElem?_eq_some_iff.1 (of_decide_eq_true hh)).1
    rwa [keysE_length] at this
  refine ⟨_, _, rfl, brnb (fun hb => ?_) (fun hb => ?_)⟩
  · have hd : delE key es = es := del_no hb
    have hF : F.set i (r, es) = F := by
      apply List.ext_getElem?
      intro j
      rw [List.getElem?_set]
      by_cases hij : i = j
      · subst hij; rw [if_pos rfl, if_pos hil, hi]
      · rw [if_neg hij]
    rw [hd, hF]
    refine ⟨_, _, _, bg3.cell rfl, _, bg3.cell rfl, ?_⟩
    refine finC (K := fun v w' => ∃ A' c', v = trV A' c' F last ∧ TrR Ω w' A' c' F ∧ Ext w w') e23 bg13 hg1w fun u' e' f' => ⟨A, c, rfl, h.ext e', e'⟩
  · have hcut := delE_cut key hb
    have hkl' := hhas hb
    generalize hk : pos (keysE es) key = k at *
    have hE3 : Imm KEn Ω1 w3 E es := hE.keep KEn_pos (stE e23)
    obtain ⟨X8, c8, w8, hr8, ho8, g8⟩ := appFix (w := w3) (Ω := Ω1) (K := KEn) slE oneEn (ty := 130) (OwnK.nil (Kd.fix Ω1 w3 KEn) w3) (fixCut hE3 (lo := 0) (hi := k) (m := ce) (by omega)) (cb := ce) (fun k hk => (ownB_none k hk).elim) (by simp [maxLen]; omega) (by simp; omega)
    rw [List.nil_append, List.drop_zero] at hr8 ho8
    have lk : (es.take k).length = k := by rw [List.length_take]; omega
    rw [lk] at hr8
    have e8 : Ext w3 w8 := g8.fr.mono (fun k _ hk => (ownB_none k hk).elim)
    have n8 : ∀ k, ownB X8 k → w3.heap.size ≤ k := fun k hk => (g8.sub k hk).resolve_left fun h => (ownB_none k h).elim
    have bg9 : Blk w8.drew g [.slice A F.length c, .int .i64 last] := (bg3.ext e8).ext (Fr.drew NoB w8)
    have bg19 : Blk w8.drew g1 [.slice none 0 0, .int .i64 0] := (bg13.ext e8).ext (Fr.drew NoB w8)
    have ed : Ext w3 w8.drew := e8.drew
    have hB10 : Imm (Kd.fix Ω1 w3 KEn) NoB w8.drew (cutAt E ce (k + 1) 2) (es.drop (k + 1)) := by
      have := (fixCut hE3 (lo := k + 1) (hi := es.length) (m := ce) hce).ext (show 0 < (Kd.fix Ω1 w3 KEn).size from KEn_pos) ed
      rwa [List.take_length] at this
    have off10 : ∀ j, ownB X8 j → ¬ ownB (cutAt E ce (k + 1) 2) j ∨ es.drop (k + 1) = [] := fun j hj => by
      by_cases hne : es = []
      · right; rw [hne]; simp
      · left; intro hj'; have := immLt KEn_pos hE hne j (ownB_cut hj'); have := n8 j hj; have := e23.size; omega
    obtain ⟨X10, c10, w10, hr10, ho10, g10⟩ := appFix (w := w3) (Ω := Ω1) (K := KEn) slE oneEn (ty := 130) (ho8.fr (Fr.drew NoB w8) (fun _ _ h => h) (fun _ _ _ h => h)) hB10 (cb := ce - (k + 1)) off10 (by simp [maxLen]; omega) (by simp; omega)
    rw [lk, List.length_drop] at hr10
    have n10 : ∀ j, ownB X8 j → j ≠ g ∧ j ≠ g1 := fun j hj => by have := n8 j hj; have := e3.size; omega
    have b10 : Blk w10 g [.slice A F.length c, .int .i64 last] := bg9.keep g10.fr fun hj => (n10 _ hj).1 rfl
    have b110 : Blk w10 g1 [.slice none 0 0, .int .i64 0] := bg19.keep g10.fr fun hj => (n10 _ hj).2 rfl
    have e310 : Ext w3 w10 := ed.trans g10.fr (fun _ _ h => h) (fun j hj ho => by have := n8 j ho; omega)
    have e10 : Ext w w10 := e23.trans' e310
    have hw : IntKind.i64.wrap ((k : Int) + 1) = ((k + 1 : Nat) : Int) := by rw [wi _ (by omega) (by omega)]; omega
    refine ⟨_, _, _, bg3.cell rfl, ad, hA, ⟨by omega, by omega⟩, _, _, _, by rw [Int.toNat_natCast]; exact Ext.cell e23 c1, ⟨by omega, by omega⟩, _, _, _, w8, by rw [Int.toNat_natCast, Nat.sub_zero, Nat.sub_zero]; exact hr8, fun u => Blk u g [.slice A F.length c, .int .i64 last], bg9, _, _, _, fun u hu => hu.cell rfl, _, fun u hu => hu.cell rfl, ?_⟩
    rw [hw]
    refine ⟨⟨by omega, by omega⟩, _, _, _, w10, by rw [Int.toNat_natCast]; exact hr10, b10, ?_⟩
    rw [← hcut] at ho10
    have hL : Imm KEn Ω1 w10 X10 (delE key es) := unfixI KEn_pos ho10 e310 fun j hj hω => by
      have := hΩ1 j hω
      have := e3.size
      rcases g10.sub j hj with h | h
      · have := n8 j h; omega
      · have := ed.size; omega
    have hll : (es.take k ++ es.drop (k + 1)).length = (delE key es).length := by rw [← hcut]
    rw [hll]
    refine (with_spec (h.keep (stE e10)) (fun k hk => Nat.lt_of_lt_of_le (hΩ1 k hk) (Nat.le_trans e3.size e310.size)) hl hi last hL (by obtain ⟨xs, ho, _⟩ := ho10; exact ho.le)).mono ?_
    rintro _ w11 ⟨A', c', rfl, hT, e11⟩
    refine ⟨_, _, _, _, rfl, ?_⟩
    refine finC (K := fun v w' => ∃ A' c', v = trV A' c' (F.set i (r, delE key es)) last ∧ TrR Ω w' A' c' (F.set i (r, delE key es)) ∧ Ext w w') (e10.trans' e11) (b110.ext e11) hg1w fun u' e' f' => ⟨A', c', rfl, ?_, e'⟩
    refine TrR.keep (hT.keep (f'.step (Ω := Ω1) (Ω' := Ω1) (fun k _ hk => ?_) (fun _ _ h => h))) ⟨Nat.le_refl _, fun _ _ _ => rfl, fun k _ hk => ?_⟩
    · rw [hΩe]; exact .inr hk
    · rw [hΩe]; exact .inl hk
/-! ## told -/
def EnR (Ω : Nat → Prop) (w : World) (x : Option (Key × Key)) (v : Value) : Prop := match x with
  | none => v = .tuple #[.agg #[.slice none 0 0, .slice none 0 0], .bool false]
  | some (k, v') => ∃ A1 c1 A2 c2, v = .tuple #[.agg #[.slice A1 k.length c1, .slice A2 v'.length c2], .bool true] ∧ k.length ≤ c1 ∧ v'.length ≤ c2 ∧ Imm KB Ω w A1 k ∧ Imm KB Ω w A2 v'
theorem EnR.keep {x : Option (Key × Key)} {v : Value} {Ω' : Nat → Prop} {w' : World} (h : EnR Ω w x v) (st : Step Ω w Ω' w') : EnR Ω' w' x v := by
  cases x with
  | none => exact h
  | some p => obtain ⟨k, v'⟩ := p; obtain ⟨A1, c1, A2, c2, rfl, h1, h2, h3, h4⟩ := h; exact ⟨A1, c1, A2, c2, rfl, h1, h2, h3.keep KB_pos st, h4.keep KB_pos st⟩
theorem EnR.ext {x : Option (Key × Key)} {v : Value} {w' : World} (h : EnR Ω w x v) (e : Ext w w') : EnR Ω w' x v := by
  cases x with
  | none => exact h
  | some p => obtain ⟨k, v'⟩ := p; obtain ⟨A1, c1, A2, c2, rfl, h1, h2, h3, h4⟩ := h; exact ⟨A1, c1, A2, c2, rfl, h1, h2, h3.ext KB_pos e, h4.ext KB_pos e⟩
theorem EnR.form {x : Option (Key × Key)} {v : Value} (h : EnR Ω w x v) : ∃ A1 n1 c1 A2 n2 c2 b, v = .tuple #[.agg #[.slice A1 n1 c1, .slice A2 n2 c2], .bool b] := by
  cases x with
  | none => exact ⟨_, _, _, _, _, _, _, h⟩
  | some p => obtain ⟨k, v'⟩ := p; obtain ⟨A1, c1, A2, c2, h, _⟩ := h; exact ⟨_, _, _, _, _, _, _, h⟩
end
end Go.Proofs.Ythfagbfllheneaa
set_option linter.unusedVariables false
set_option linter.unusedSimpArgs false
namespace Go.Proofs.Ythfagbfllheneaa
open Go Go.Sx T4
/-! ## forests -/
def fo (d : Tr) : Int × Es := (d.r, d.es)
abbrev foD (Ds : List Tr) : List (Int × Es) := Ds.map fo
def gF : List (Int × Es) → Int → Option Es
  | [], _ => none
  | (x, u) :: l, a => if a = x then some u else gF l a
theorem gF_none {F : List (Int × Es)} {r : Int} (h : ∀ p ∈ F, p.1 ≠ r) : gF F r = none := by
  induction F with
  | nil => rfl
  | cons p F ih =>
    obtain ⟨x, u⟩ := p
    have hx : x ≠ r := h (x, u) (by simp)
    show (if r = x then some u else gF F r) = none
    rw [if_neg fun e => hx e.symm]
    exact ih fun p hp => h p (by simp [hp])
theorem gF_at : ∀ {F : List (Int × Es)} {r : Int} {j : Nat} {es : Es}, F[j]? = some (r, es) → (∀ k p, F[k]? = some p → k < j → p.1 ≠ r) → gF F r = some es
  | [], _, _, _, h, _ => by simp at h
  | (x, u) :: F, r, 0, es, h, _ => by
    simp at h
    obtain ⟨rfl, rfl⟩ := h
    show (if x = x then some u else _) = _
    rw [if_pos rfl]
  | (x, u) :: F, r, j + 1, es, h, hn => by
    have hx : x ≠ r := hn 0 (x, u) rfl (by omega)
    show (if r = x then some u else gF F r) = _
    rw [if_neg fun e => hx e.symm]
    exact gF_at (by simpa using h) fun k p hk hlt => hn (k + 1) p (by simpa using hk) (by omega)
theorem Fnd.cases {F : List (Int × Es)} {r i : Int} (h : Fnd F r i) : (i = -1 ∧ gF F r = none ∧ ∀ p ∈ F, p.1 ≠ r) ∨ ∃ (j : Nat) (es : Es), i = (j : Int) ∧ F[j]? = some (r, es) ∧ gF F r = some es := by
  rcases h with ⟨h1, h2⟩ | ⟨j, es, h1, h2, h3⟩
  · exact .inl ⟨h1, gF_none h2, h2⟩
  · exact .inr ⟨j, es, h1, h2, gF_at h2 h3⟩
theorem find_split {Ds : List Tr} {r : Int} : (gF (foD Ds) r = none ∧ ∀ d ∈ Ds, d.r ≠ r) ∨ ∃ D1 d D2, Ds = D1 ++ d :: D2 ∧ d.r = r ∧ gF (foD Ds) r = some d.es := by
  induction Ds with
  | nil => exact .inl ⟨rfl, fun d h => by cases h⟩
  | cons x Ds ih =>
    by_cases hx : r = x.r
    · exact .inr ⟨[], x, Ds, rfl, hx.symm, by show (if r = x.r then some x.es else _) = _; rw [if_pos hx]⟩
    · have e : gF (foD (x :: Ds)) r = gF (foD Ds) r := by show (if r = x.r then some x.es else _) = _; rw [if_neg hx]
      rcases ih with ⟨h1, h2⟩ | ⟨D1, d, D2, h1, h2, h3⟩
      · refine .inl ⟨by rw [e]; exact h1, fun d hd => ?_⟩
        rcases List.mem_cons.1 hd with rfl | hd
        · exact fun h => hx h.symm
        · exact h2 d hd
      · exact .inr ⟨x :: D1, d, D2, by rw [h1]; rfl, h2, by rw [e]; exact h3⟩
section
variable {R M : Nat → Prop} {w : World} {g : Nat} {A : Ar} {Ds : List Tr}
theorem uAfter (h : Ar1 R M w g A) (hI : Inv A Ds) (root : Int) {key : Key} {Ω : Nat → Prop} {KA : Option Addr} (hKA : Imm KB Ω w KA key) (kc : Nat) (at_ : Bool) :
    CallsV Try.prog 89 #[.pointer (some ⟨g, 0, none⟩), .int .i64 root, .slice KA key.length kc, .bool at_] w fun r w' => Told w ((gF (foD Ds) root).bind (aftE key at_)) r w' ∧ Ext w w' := by
  rcases find_split (Ds := Ds) (r := root) with ⟨h1, h2⟩ | ⟨D1, d, D2, rfl, rfl, h3⟩
  · rw [h1]
    refine (After_none h (by have := hI.f1; omega) (hI.miss h2) KA key.length kc at_).mono ?_
    rintro _ w' ⟨rfl, rfl⟩
    exact ⟨rfl, .refl _ _⟩
  · rw [h3]
    exact oAfter h hI.one.1 hKA kc at_
theorem uLast (h : Ar1 R M w g A) (hI : Inv A Ds) (root : Int) :
    CallsV Try.prog 91 #[.pointer (some ⟨g, 0, none⟩), .int .i64 root] w fun r w' => Told w ((gF (foD Ds) root).bind fun es => es.getLast?) r w' ∧ Ext w w' := by
  rcases find_split (Ds := Ds) (r := root) with ⟨h1, h2⟩ | ⟨D1, d, D2, rfl, rfl, h3⟩
  · rw [h1]
    refine (Last_none h (by have := hI.f1; omega) (hI.miss h2)).mono ?_
    rintro _ w' ⟨rfl, rfl⟩
    exact ⟨rfl, .refl _ _⟩
  · rw [h3]
    exact oLast h hI.one.1
def lenO : Option Es → Nat
  | none => 0
  | some es => es.length
theorem uLen (h : Ar1 R M w g A) (hI : Inv A Ds) (root : Int) :
    CallsV Try.prog 82 #[.pointer (some ⟨g, 0, none⟩), .int .i64 root] w fun r w' => r = iv (lenO (gF (foD Ds) root)) ∧ Ext w w' := by
  rcases find_split (Ds := Ds) (r := root) with ⟨h1, h2⟩ | ⟨D1, d, D2, rfl, rfl, h3⟩
  · rw [h1]
    exact Len_none h (by have := hI.f1; omega) (hI.miss h2)
  · rw [h3]
    exact oLen h hI.one.1
theorem uGet (h : Ar1 R M w g A) (hI : Inv A Ds) (root : Int) {key : Key} {Ω : Nat → Prop} {KA : Option Addr} (hKA : Imm KB Ω w KA key) (kc : Nat) :
    CallsV Try.prog 88 #[.pointer (some ⟨g, 0, none⟩), .int .i64 root, .slice KA key.length kc] w fun r w' => Ext w w' ∧ (match (gF (foD Ds) root).bind (getE key) with | none => r = .tuple #[.slice none 0 0, .bool false] | some v => ∃ B d, r = .tuple #[.slice B v.length d, .bool true] ∧ OwnB w' B d v ∧ New w B ∧ v.length ≤ 1048576) := by
  rcases find_split (Ds := Ds) (r := root) with ⟨h1, h2⟩ | ⟨D1, d, D2, rfl, rfl, h3⟩
  · rw [h1]
    refine (Get_none h (by have := hI.f1; omega) (hI.miss h2) KA key.length kc).mono ?_
    rintro _ w' ⟨rfl, rfl⟩
    exact ⟨.refl _ _, rfl⟩
  · rw [h3]
    exact oGet h hI.one.1 hKA kc
theorem Inv.upD (hI : Inv A Ds) {root : Int} {es : Es} (h : gF (foD Ds) root = some es) : UpE es := by
  rcases find_split (Ds := Ds) (r := root) with ⟨h1, h2⟩ | ⟨D1, d, D2, rfl, rfl, h3⟩
  · rw [h1] at h; cases h
  · rw [h3] at h; cases h; exact hI.one.1.upE
end
/-! ## the document's -/
structure Sml (F : List (Int × Es)) (n : Nat) : Prop where
  len : F.length ≤ n
  es : ∀ p ∈ F, p.2.length ≤ n
  keys : ∀ p ∈ F, ∀ q ∈ p.2, q.1.length ≤ 1048576
theorem Sml.mono {F : List (Int × Es)} {n m : Nat} (h : Sml F n) (hm : n ≤ m) : Sml F m := ⟨Nat.le_trans h.len hm, fun p hp => Nat.le_trans (h.es p hp) hm, h.keys⟩
section
variable {w : World} {Ω : Nat → Prop}
def TI (Ω : Nat → Prop) (w : World) (x : Option (Key × Key)) (A : Option Addr) (n : Nat) (B : Option Addr) (m : Nat) (ok : Bool) : Prop := match x with
  | none => A = none ∧ n = 0 ∧ B = none ∧ m = 0 ∧ ok = false
  | some (k, v) => n = k.length ∧ m = v.length ∧ ok = true ∧ Imm KB Ω w A k ∧ Imm KB Ω w B v
theorem TI.keep {Ω' : Nat → Prop} {w' : World} {x : Option (Key × Key)} {A : Option Addr} {n : Nat} {B : Option Addr} {m : Nat} {ok : Bool} (h : TI Ω w x A n B m ok) (st : Step Ω w Ω' w') : TI Ω' w' x A n B m ok := by
  cases x with
  | none => exact h
  | some p => obtain ⟨h1, h2, h3, h4, h5⟩ := h; exact ⟨h1, h2, h3, h4.keep KB_pos st, h5.keep KB_pos st⟩
theorem TI.ext {w' : World} {x : Option (Key × Key)} {A : Option Addr} {n : Nat} {B : Option Addr} {m : Nat} {ok : Bool} (h : TI Ω w x A n B m ok) (e : Ext w w') : TI Ω w' x A n B m ok := h.keep (e.step Ω)
end
theorem gF_nd {F : List (Int × Es)} (hn : (F.map fun p => p.1).Nodup) {k : Nat} {r : Int} {es : Es} (h : F[k]? = some (r, es)) : gF F r = some es := by
  refine gF_at h fun j p hj hlt he => ?_
  have h1 : (F.map fun p => p.1)[j]? = some r := by simp [hj, he]
  have h2 : (F.map fun p => p.1)[k]? = some r := by simp [h]
  have hk := (List.getElem?_eq_some_iff.1 h2).1
  have := (List.getElem?_inj (by have := (List.getElem?_eq_some_iff.1 h1).1; exact this) hn).1 (h1.trans h2.symm)
  omega
theorem Inv.ndF {A : Ar} {Ds : List Tr} (h : Inv A Ds) : ((foD Ds).map fun p => p.1).Nodup := by
  have := h.nd
  have e : (foD Ds).map (fun p => p.1) = Ds.map fun d => d.r := by unfold foD; rw [List.map_map]; rfl
  rw [e]; exact this
theorem insE_sml {key val : Key} {es : Es} {n : Nat} (hk : key.length ≤ 1048576) (h : es.length ≤ n) (hks : ∀ q ∈ es, q.1.length ≤ 1048576) : (insE key val es).length ≤ n + 1 ∧ ∀ q ∈ insE key val es, q.1.length ≤ 1048576 := by
  refine ⟨by rw [len_insE]; split <;> omega, fun q hq => ?_⟩
  rcases insE_mem hq with rfl | hq
  · exact hk
  · exact hks q hq
theorem delE_sml {key : Key} {es : Es} {n : Nat} (h : es.length ≤ n) (hks : ∀ q ∈ es, q.1.length ≤ 1048576) : (delE key es).length ≤ n ∧ ∀ q ∈ delE key es, q.1.length ≤ 1048576 :=
  ⟨Nat.le_trans delE_sub.length_le h, fun q hq => hks q (delE_sub.subset hq)⟩
theorem Sml.set {F : List (Int × Es)} {n : Nat} (h : Sml F n) (j : Nat) (r : Int) {es : Es} (h1 : es.length ≤ n) (h2 : ∀ q ∈ es, q.1.length ≤ 1048576) : Sml (F.set j (r, es)) n := by
  refine ⟨by simpa using h.len, fun p hp => ?_, fun p hp => ?_⟩
  · rcases List.mem_or_eq_of_mem_set hp with hp | rfl
    · exact h.es p hp
    · exact h1
  · rcases List.mem_or_eq_of_mem_set hp with hp | rfl
    · exact h.keys p hp
    · exact h2
end Go.Proofs.Ythfagbfllheneaa
set_option linter.unusedVariables false
set_option maxRecDepth 100000
namespace Go.Proofs.Ythfagbfllheneaa
open Go Go.Sx
noncomputable def undo_New.W : Int → Int → World → (Value → World → Prop) → Prop := fun (fan most : Int) (w : World) (K : Value → World → Prop) => CallsV Try.prog 69 #[Value.int IntKind.i64 fan,
 Value.int IntKind.i64 most] w fun (v : Value) (w' : World) => ∃ (x : Option Addr) (x_1 : Int), v = Value.tuple #[Value.pointer x, Value.int IntKind.i64 x_1] ∧ bif !decide (x_1 = (0 : Int))
 then K (Value.tuple #[Value.pointer none, Value.int IntKind.i64 x_1]) w' else ∀ (g : Nat) (w'_1 : World), Fresh w' g w'_1 [Value.pointer x, Value.slice none 0 0, Value.slice none 0
 0] 81 → K (Value.tuple #[Value.pointer (some (Addr.mk g 0 none)), Value.int IntKind.i64 (0 : Int)]) w'_1
theorem undo_New.calls (ok : Okay Try.prog) {fan : Int} {most : Int} {w : World} {K : Value → World → Prop} (h : undo_New.W fan most w K) : CallsV Try.prog 15 #[.int .i64 fan, .int .i64 most] w K :=
  fnW_calls ok Try.func15 (an := (.named .auto)) (args := [.int .i64 fan, .int .i64 most]) (Eq.mp (by kernel_rfl) h)
noncomputable def undo_Store_of.W : Option Addr → World → (Value → World → Prop) → Prop := fun (s : Option Addr) (w : World) (K : Value → World → Prop) => bif Option.isNone s then K (Value.pointer
 none) w else ∃ (a : Addr), s = some a ∧ ∃ (x : Option Addr), World.cell? w (Addr.add a 0) = some (Value.pointer x) ∧ K (Value.pointer x) w
theorem undo_Store_of.calls (ok : Okay Try.prog) {s : Option Addr} {w : World} {K : Value → World → Prop} (h : undo_Store_of.W s w K) : CallsV Try.prog 76 #[.pointer s] w K :=
  fnW_calls ok Try.func76 (an := (.named .auto)) (args := [.pointer s]) (Eq.mp (by kernel_rfl) h)
noncomputable def undo_Store_made.W : Option Addr → World → (Value → World → Prop) → Prop := fun (s : Option Addr) (w : World) (K : Value → World → Prop) => bif !Option.isNone s then ∃ (a : Addr), s =
 some a ∧ ∃ (x : Option Addr), World.cell? w (Addr.add a 0) = some (Value.pointer x) ∧ K (Value.bool !Option.isNone x) w else K (Value.bool false) w
theorem undo_Store_made.calls (ok : Okay Try.prog) {s : Option Addr} {w : World} {K : Value → World → Prop} (h : undo_Store_made.W s w K) : CallsV Try.prog 70 #[.pointer s] w K :=
  fnW_calls ok Try.func70 (an := (.named .auto)) (args := [.pointer s]) (Eq.mp (by kernel_rfl) h)
noncomputable def undo_Store_is.W : Option Addr → Int → World → (Value → World → Prop) → Prop := fun (s : Option Addr) (n : Int) (w : World) (K : Value → World → Prop) => CallsV Try.prog 70
 #[Value.pointer s] w fun (v : Value) (w' : World) => ∃ (x : Bool), v = Value.bool x ∧ bif !x then K (Value.int IntKind.i64 (1 : Int)) w' else bif decide (n < (1 : Int)) then K (Value.int
 IntKind.i64 (60 : Int)) w' else ∃ (a : Addr), s = some a ∧ ∃ (x : Option Addr) (x_1 x_2 : Nat), World.cell? w' (Addr.add a 2) = some (Value.slice x x_1 x_2) ∧ bif decide ((↑x_1
 : Int) < n) then K (Value.int IntKind.i64 (60 : Int)) w' else K (Value.int IntKind.i64 (0 : Int)) w'
theorem undo_Store_is.calls (ok : Okay Try.prog) {s : Option Addr} {n : Int} {w : World} {K : Value → World → Prop} (h : undo_Store_is.W s n w K) : CallsV Try.prog 73 #[.pointer s, .int .i64 n] w K :=
  fnW_calls ok Try.func73 (an := (.named .auto)) (args := [.pointer s, .int .i64 n]) (Eq.mp (by kernel_rfl) h)
noncomputable def undo_Store_Create.W : Option Addr → World → (Value → World → Prop) → Prop := fun (s : Option Addr) (w : World) (K : Value → World → Prop) => CallsV Try.prog 76 #[Value.pointer s] w
 fun (v : Value) (w' : World) => ∃ (x : Option Addr), v = Value.pointer x ∧ CallsV Try.prog 77 #[Value.pointer x] w' fun (v : Value) (w' : World) => ∃ (x x_1 : Int), v = Value.tuple #[Value.int
 IntKind.i64 x, Value.int IntKind.i64 x_1] ∧ bif decide (x_1 = (0 : Int)) then ∃ (a : Addr), s = some a ∧ ∃ (x_2 : Option Addr) (x_3 x_4 : Nat), World.cell? w' (Addr.add a 1) =
 some (Value.slice x_2 x_3 x_4) ∧ ∀ (g : Nat) (w'_1 : World), Fresh w' g w'_1 [Value.int IntKind.i64 x] 3 → ∃ (x_5 : Option Addr) (x_6 x_7 : Nat) (w' : World), RunsTo Try.prog (Builtin.append_
 (Array.mk [37, 37]) 37 #[Value.slice x_2 x_3 x_4, Value.slice (some (Addr.mk g 0 none)) 1 1]) w'_1 (Value.slice x_5 x_6 x_7) w' ∧ ∃ (a : Addr), s = some a ∧ stOK (Addr.add a 1) 0
 [Value.slice x_5 x_6 x_7] w' ∧ ∀ (w'_2 : World), w'_2 = setAll (Addr.add a 1) 0 [Value.slice x_5 x_6 x_7] w' → K (Value.tuple #[Value.int IntKind.i64 x, Value.int IntKind.i64 x_1]) w'_2 else K
 (Value.tuple #[Value.int IntKind.i64 x, Value.int IntKind.i64 x_1]) w'
theorem undo_Store_Create.calls (ok : Okay Try.prog) {s : Option Addr} {w : World} {K : Value → World → Prop} (h : undo_Store_Create.W s w K) : CallsV Try.prog 26 #[.pointer s] w K :=
  fnW_calls ok Try.func26 (an := (.named .auto)) (args := [.pointer s]) (Eq.mp (by kernel_rfl) h)
noncomputable def undo_Store_Drop.W : Option Addr → Int → World → (Value → World → Prop) → Prop := fun (s : Option Addr) (id : Int) (w : World) (K : Value → World → Prop) => ∀ (g : Nat) (w' : World),
 Fresh w g w' [Value.int IntKind.i64 id] 3 → ∃ (J : Int → World → Prop), (∀ (x : Int) (w : World), J x w → bif decide (x = (0 : Int)) then ∃ (a : Addr), s = some a ∧ ∃ (x_1 : Option
 Addr) (x_2 x_3 : Nat), World.cell? w (Addr.add a 1) = some (Value.slice x_1 x_2 x_3) ∧ CallsV Try.prog 72 #[Value.slice x_1 x_2 x_3] w fun (v : Value) (w' : World) => ∃ (x_4 : Option Addr) (x_5
 x_6 : Nat), v = Value.slice x_4 x_5 x_6 ∧ CallsV Try.prog 80 #[Value.slice x_4 x_5 x_6, Value.func (Fn.func 81) #[] #[Value.pointer (some (Addr.mk g 0 none))]] w' fun (v : Value) (w' :
 World) => ∃ (x_7 : Option Addr) (x_8 x_9 : Nat), v = Value.slice x_7 x_8 x_9 ∧ ∃ (a : Addr), s = some a ∧ stOK (Addr.add a 1) 0 [Value.slice x_7 x_8 x_9] w' ∧ ∀ (w'_1 : World), w'_1 = setAll
 (Addr.add a 1) 0 [Value.slice x_7 x_8 x_9] w' → K (Value.int IntKind.i64 x) w'_1 else K (Value.int IntKind.i64 x) w) ∧ ∃ (S : World → Prop), S (World.drew w') ∧ ∃ (x : Int), (∀ (u : World), S u →
 World.cell? u (Addr.mk g 0 none) = some (Value.int IntKind.i64 x)) ∧ CallsV Try.prog 76 #[Value.pointer s] (World.drew w') fun (v : Value) (w' : World) => ∃ (x_1 : Option Addr), v =
 Value.pointer x_1 ∧ S w' ∧ CallsV Try.prog 79 #[Value.pointer x_1, Value.int IntKind.i64 x] w' fun (v : Value) (w' : World) => ∃ (x : Int), v = Value.int IntKind.i64 x ∧ J x w'
theorem undo_Store_Drop.calls (ok : Okay Try.prog) {s : Option Addr} {id : Int} {w : World} {K : Value → World → Prop} (h : undo_Store_Drop.W s id w K) : CallsV Try.prog 31 #[.pointer s, .int .i64 id] w K :=
  fnW_calls ok Try.func31 (an := (.named (.seq .auto (.join [(5, .one (.int .i64))] .auto .auto)))) (args := [.pointer s, .int .i64 id]) (Eq.mp (by kernel_rfl) h)
noncomputable def undo_Store_Put.W : Option Addr → Int → Option Addr → Nat → Nat → Option Addr → Nat → Nat → World → (Value → World → Prop) → Prop := fun (s : Option Addr) (id : Int) (key_A : Option
 Addr) (key_n key_c : Nat) (val_A : Option Addr) (val_n val_c : Nat) (w : World) (K : Value → World → Prop) => CallsV Try.prog 76 #[Value.pointer s] w fun (v : Value) (w' : World) => ∃ (x : Option
 Addr), v = Value.pointer x ∧ CallsV Try.prog 78 #[Value.pointer x, Value.int IntKind.i64 id, Value.slice key_A key_n key_c, Value.slice val_A val_n val_c] w' fun (v : Value) (w' : World) => ∃ (x :
 Bool) (x_1 : Int), v = Value.tuple #[Value.bool x, Value.int IntKind.i64 x_1] ∧ K (Value.tuple #[Value.bool x, Value.int IntKind.i64 x_1]) w'
theorem undo_Store_Put.calls (ok : Okay Try.prog) {s : Option Addr} {id : Int} {key_A : Option Addr} {key_n : Nat} {key_c : Nat} {val_A : Option Addr} {val_n : Nat} {val_c : Nat} {w : World} {K : Value → World → Prop} (h : undo_Store_Put.W s id key_A key_n key_c val_A val_n val_c w K) : CallsV Try.prog 29 #[.pointer s, .int .i64 id, .slice key_A key_n key_c, .slice val_A val_n val_c] w K :=
  fnW_calls ok Try.func29 (an := (.named .auto)) (args := [.pointer s, .int .i64 id, .slice key_A key_n key_c, .slice val_A val_n val_c]) (Eq.mp (by kernel_rfl) h)
noncomputable def undo_Store_Delete.W : Option Addr → Int → Option Addr → Nat → Nat → World → (Value → World → Prop) → Prop := fun (s : Option Addr) (id : Int) (key_A : Option Addr) (key_n key_c : Nat)
 (w : World) (K : Value → World → Prop) => CallsV Try.prog 76 #[Value.pointer s] w fun (v : Value) (w' : World) => ∃ (x : Option Addr), v = Value.pointer x ∧ CallsV Try.prog 87 #[Value.pointer x,
 Value.int IntKind.i64 id, Value.slice key_A key_n key_c] w' fun (v : Value) (w' : World) => ∃ (x : Bool) (x_1 : Int), v = Value.tuple #[Value.bool x, Value.int IntKind.i64 x_1] ∧ K (Value.tuple
 #[Value.bool x, Value.int IntKind.i64 x_1]) w'
theorem undo_Store_Delete.calls (ok : Okay Try.prog) {s : Option Addr} {id : Int} {key_A : Option Addr} {key_n : Nat} {key_c : Nat} {w : World} {K : Value → World → Prop} (h : undo_Store_Delete.W s id key_A key_n key_c w K) : CallsV Try.prog 40 #[.pointer s, .int .i64 id, .slice key_A key_n key_c] w K :=
  fnW_calls ok Try.func40 (an := (.named .auto)) (args := [.pointer s, .int .i64 id, .slice key_A key_n key_c]) (Eq.mp (by kernel_rfl) h)
noncomputable def undo_Store_Get.W : Option Addr → Int → Option Addr → Nat → Nat → World → (Value → World → Prop) → Prop := fun (s : Option Addr) (id : Int) (key_A : Option Addr) (key_n key_c : Nat) (w
 : World) (K : Value → World → Prop) => CallsV Try.prog 76 #[Value.pointer s] w fun (v : Value) (w' : World) => ∃ (x : Option Addr), v = Value.pointer x ∧ CallsV Try.prog 88 #[Value.pointer x, Value.int
 IntKind.i64 id, Value.slice key_A key_n key_c] w' fun (v : Value) (w' : World) => ∃ (x : Option Addr) (x_1 x_2 : Nat) (x_3 : Bool), v = Value.tuple #[Value.slice x x_1 x_2, Value.bool x_3] ∧ K
 (Value.tuple #[Value.slice x x_1 x_2, Value.bool x_3]) w'
theorem undo_Store_Get.calls (ok : Okay Try.prog) {s : Option Addr} {id : Int} {key_A : Option Addr} {key_n : Nat} {key_c : Nat} {w : World} {K : Value → World → Prop} (h : undo_Store_Get.W s id key_A key_n key_c w K) : CallsV Try.prog 49 #[.pointer s, .int .i64 id, .slice key_A key_n key_c] w K :=
  fnW_calls ok Try.func49 (an := (.named .auto)) (args := [.pointer s, .int .i64 id, .slice key_A key_n key_c]) (Eq.mp (by kernel_rfl) h)
noncomputable def undo_Store_After.W : Option Addr → Int → Option Addr → Nat → Nat → Bool → World → (Value → World → Prop) → Prop := fun (s : Option Addr) (id : Int) (key_A : Option Addr) (key_n key_c
 : Nat) (atx : Bool) (w : World) (K : Value → World → Prop) => CallsV Try.prog 76 #[Value.pointer s] w fun (v : Value) (w' : World) => ∃ (x : Option Addr), v = Value.pointer x ∧ CallsV Try.prog 89
 #[Value.pointer x, Value.int IntKind.i64 id, Value.slice key_A key_n key_c, Value.bool atx] w' fun (v : Value) (w' : World) => ∃ (x : Option Addr) (x_1 x_2 : Nat) (x_3 : Option Addr) (x_4 x_5 : Nat)
 (x_6 : Bool), v = Value.tuple #[Value.slice x x_1 x_2, Value.slice x_3 x_4 x_5, Value.bool x_6] ∧ K (Value.tuple #[Value.slice x x_1 x_2, Value.slice x_3 x_4 x_5, Value.bool x_6]) w'
theorem undo_Store_After.calls (ok : Okay Try.prog) {s : Option Addr} {id : Int} {key_A : Option Addr} {key_n : Nat} {key_c : Nat} {atx : Bool} {w : World} {K : Value → World → Prop} (h : undo_Store_After.W s id key_A key_n key_c atx w K) : CallsV Try.prog 50 #[.pointer s, .int .i64 id, .slice key_A key_n key_c, .bool atx] w K :=
  fnW_calls ok Try.func50 (an := (.named .auto)) (args := [.pointer s, .int .i64 id, .slice key_A key_n key_c, .bool atx]) (Eq.mp (by kernel_rfl) h)
noncomputable def undo_Store_Before.W : Option Addr → Int → Option Addr → Nat → Nat → Bool → World → (Value → World → Prop) → Prop := fun (s : Option Addr) (id : Int) (key_A : Option Addr) (key_n key_c
 : Nat) (atx : Bool) (w : World) (K : Value → World → Prop) => CallsV Try.prog 76 #[Value.pointer s] w fun (v : Value) (w' : World) => ∃ (x : Option Addr), v = Value.pointer x ∧ CallsV Try.prog 90
 #[Value.pointer x, Value.int IntKind.i64 id, Value.slice key_A key_n key_c, Value.bool atx] w' fun (v : Value) (w' : World) => ∃ (x : Option Addr) (x_1 x_2 : Nat) (x_3 : Option Addr) (x_4 x_5 : Nat)
 (x_6 : Bool), v = Value.tuple #[Value.slice x x_1 x_2, Value.slice x_3 x_4 x_5, Value.bool x_6] ∧ K (Value.tuple #[Value.slice x x_1 x_2, Value.slice x_3 x_4 x_5, Value.bool x_6]) w'
theorem undo_Store_Before.calls (ok : Okay Try.prog) {s : Option Addr} {id : Int} {key_A : Option Addr} {key_n : Nat} {key_c : Nat} {atx : Bool} {w : World} {K : Value → World → Prop} (h : undo_Store_Before.W s id key_A key_n key_c atx w K) : CallsV Try.prog 51 #[.pointer s, .int .i64 id, .slice key_A key_n key_c, .bool atx] w K :=
  fnW_calls ok Try.func51 (an := (.named .auto)) (args := [.pointer s, .int .i64 id, .slice key_A key_n key_c, .bool atx]) (Eq.mp (by kernel_rfl) h)
noncomputable def undo_Store_Last.W : Option Addr → Int → World → (Value → World → Prop) → Prop := fun (s : Option Addr) (id : Int) (w : World) (K : Value → World → Prop) => CallsV Try.prog 76
 #[Value.pointer s] w fun (v : Value) (w' : World) => ∃ (x : Option Addr), v = Value.pointer x ∧ CallsV Try.prog 91 #[Value.pointer x, Value.int IntKind.i64 id] w' fun (v : Value) (w' : World) => ∃ (x :
 Option Addr) (x_1 x_2 : Nat) (x_3 : Option Addr) (x_4 x_5 : Nat) (x_6 : Bool), v = Value.tuple #[Value.slice x x_1 x_2, Value.slice x_3 x_4 x_5, Value.bool x_6] ∧ K (Value.tuple #[Value.slice x x_1
 x_2, Value.slice x_3 x_4 x_5, Value.bool x_6]) w'
theorem undo_Store_Last.calls (ok : Okay Try.prog) {s : Option Addr} {id : Int} {w : World} {K : Value → World → Prop} (h : undo_Store_Last.W s id w K) : CallsV Try.prog 52 #[.pointer s, .int .i64 id] w K :=
  fnW_calls ok Try.func52 (an := (.named .auto)) (args := [.pointer s, .int .i64 id]) (Eq.mp (by kernel_rfl) h)
noncomputable def undo_Store_Len.W : Option Addr → Int → World → (Value → World → Prop) → Prop := fun (s : Option Addr) (id : Int) (w : World) (K : Value → World → Prop) => CallsV Try.prog 76
 #[Value.pointer s] w fun (v : Value) (w' : World) => ∃ (x : Option Addr), v = Value.pointer x ∧ CallsV Try.prog 82 #[Value.pointer x, Value.int IntKind.i64 id] w' fun (v : Value) (w' : World) => ∃ (x :
 Int), v = Value.int IntKind.i64 x ∧ K (Value.int IntKind.i64 x) w'
theorem undo_Store_Len.calls (ok : Okay Try.prog) {s : Option Addr} {id : Int} {w : World} {K : Value → World → Prop} (h : undo_Store_Len.W s id w K) : CallsV Try.prog 34 #[.pointer s, .int .i64 id] w K :=
  fnW_calls ok Try.func34 (an := (.named .auto)) (args := [.pointer s, .int .i64 id]) (Eq.mp (by kernel_rfl) h)
noncomputable def undo_Store_Trees.W : Option Addr → World → (Value → World → Prop) → Prop := fun (s : Option Addr) (w : World) (K : Value → World → Prop) => bif Option.isNone s then K (Value.slice
 none 0 0) w else ∃ (a : Addr), s = some a ∧ ∃ (x : Option Addr) (x_1 x_2 : Nat), World.cell? w (Addr.add a 1) = some (Value.slice x x_1 x_2) ∧ CallsV Try.prog 72 #[Value.slice x
 x_1 x_2] w fun (v : Value) (w' : World) => ∃ (x : Option Addr) (x_3 x_4 : Nat), v = Value.slice x x_3 x_4 ∧ K (Value.slice x x_3 x_4) w'
theorem undo_Store_Trees.calls (ok : Okay Try.prog) {s : Option Addr} {w : World} {K : Value → World → Prop} (h : undo_Store_Trees.W s w K) : CallsV Try.prog 33 #[.pointer s] w K :=
  fnW_calls ok Try.func33 (an := (.named .auto)) (args := [.pointer s]) (Eq.mp (by kernel_rfl) h)
noncomputable def undo_Store_Nodes.W : Option Addr → World → (Value → World → Prop) → Prop := fun (s : Option Addr) (w : World) (K : Value → World → Prop) => CallsV Try.prog 76 #[Value.pointer s] w fun
 (v : Value) (w' : World) => ∃ (x : Option Addr), v = Value.pointer x ∧ CallsV Try.prog 86 #[Value.pointer x] w' fun (v : Value) (w' : World) => ∃ (x : Int), v = Value.int IntKind.i64 x ∧ K (Value.int
 IntKind.i64 x) w'
theorem undo_Store_Nodes.calls (ok : Okay Try.prog) {s : Option Addr} {w : World} {K : Value → World → Prop} (h : undo_Store_Nodes.W s w K) : CallsV Try.prog 39 #[.pointer s] w K :=
  fnW_calls ok Try.func39 (an := (.named .auto)) (args := [.pointer s]) (Eq.mp (by kernel_rfl) h)
noncomputable def undo_Store_Check.W : Option Addr → World → (Value → World → Prop) → Prop := fun (s : Option Addr) (w : World) (K : Value → World → Prop) => CallsV Try.prog 76 #[Value.pointer s] w fun
 (v : Value) (w' : World) => ∃ (x : Option Addr), v = Value.pointer x ∧ CallsV Try.prog 83 #[Value.pointer x] w' fun (v : Value) (w' : World) => ∃ (x : Int), v = Value.int IntKind.i64 x ∧ K (Value.int
 IntKind.i64 x) w'
theorem undo_Store_Check.calls (ok : Okay Try.prog) {s : Option Addr} {w : World} {K : Value → World → Prop} (h : undo_Store_Check.W s w K) : CallsV Try.prog 35 #[.pointer s] w K :=
  fnW_calls ok Try.func35 (an := (.named .auto)) (args := [.pointer s]) (Eq.mp (by kernel_rfl) h)
noncomputable def undo_Store_Mark.W : Option Addr → World → (Value → World → Prop) → Prop := fun (s : Option Addr) (w : World) (K : Value → World → Prop) => CallsV Try.prog 70 #[Value.pointer s] w fun
 (v : Value) (w' : World) => ∃ (x : Bool), v = Value.bool x ∧ bif !x then K (Value.tuple #[Value.int IntKind.i64 (0 : Int), Value.int IntKind.i64 (1 : Int)]) w' else ∃ (a : Addr), s = some a ∧ ∃
 (x : Option Addr) (x_1 x_2 : Nat), World.cell? w' (Addr.add a 2) = some (Value.slice x x_1 x_2) ∧ bif decide ((100 : Int) ≤ (↑x_1 : Int)) then K (Value.tuple #[Value.int IntKind.i64 (0
 : Int), Value.int IntKind.i64 (5 : Int)]) w' else ∃ (J : World → Prop), (∀ (w : World), J w → ∃ (a : Addr), s = some a ∧ ∃ (x : Option Addr) (x_3 x_4 : Nat), World.cell? w (Addr.add a 2) =
 some (Value.slice x x_3 x_4) ∧ K (Value.tuple #[Value.int IntKind.i64 (↑x_3 : Int), Value.int IntKind.i64 (0 : Int)]) w) ∧ ∃ (a : Addr), s = some a ∧ ∃ (S : World → Prop), S (World.drew
 w') ∧ ∃ (x : Option Addr) (x_3 x_4 : Nat), (∀ (u : World), S u → World.cell? u (Addr.add a 2) = some (Value.slice x x_3 x_4)) ∧ ∃ (a : Addr), s = some a ∧ ∃ (x_5 : Option Addr), (∀ (u :
 World), S u → World.cell? u (Addr.add a 0) = some (Value.pointer x_5)) ∧ ∃ (a : Addr), s = some a ∧ ∃ (x_6 : Option Addr) (x_7 x_8 : Nat), (∀ (u : World), S u → World.cell? u (Addr.add a
 1) = some (Value.slice x_6 x_7 x_8)) ∧ CallsV Try.prog 71 #[Value.pointer x_5] (World.drew w') fun (v : Value) (w' : World) => ∃ (x_9 : Option Addr), v = Value.pointer x_9 ∧ S w' ∧ CallsV
 Try.prog 72 #[Value.slice x_6 x_7 x_8] w' fun (v : Value) (w' : World) => ∃ (x_10 : Option Addr) (x_11 x_12 : Nat), v = Value.slice x_10 x_11 x_12 ∧ S w' ∧ ∀ (g : Nat) (w'_1 : World), Fresh w' g w'_1
 [Value.pointer x_9, Value.slice x_10 x_11 x_12] 122 → S w'_1 ∧ ∃ (x_13 : Option Addr) (x_14 x_15 : Nat) (w' : World), RunsTo Try.prog (Builtin.append_ (Array.mk [79, 79]) 79 #[Value.slice x x_3 x_4,
 Value.slice (some (Addr.mk g 0 none)) 1 1]) w'_1 (Value.slice x_13 x_14 x_15) w' ∧ ∃ (a : Addr), s = some a ∧ stOK (Addr.add a 2) 0 [Value.slice x_13 x_14 x_15] w' ∧ ∀ (w'_2 :
 World), w'_2 = setAll (Addr.add a 2) 0 [Value.slice x_13 x_14 x_15] w' → J w'_2
theorem undo_Store_Mark.calls (ok : Okay Try.prog) {s : Option Addr} {w : World} {K : Value → World → Prop} (h : undo_Store_Mark.W s w K) : CallsV Try.prog 18 #[.pointer s] w K :=
  fnW_calls ok Try.func18 (an := (.named (.seq .auto (.seq .auto (.join [] .auto .auto))))) (args := [.pointer s]) (Eq.mp (by kernel_rfl) h)
noncomputable def undo_Store_Back.W : Option Addr → Int → World → (Value → World → Prop) → Prop := fun (s : Option Addr) (n : Int) (w : World) (K : Value → World → Prop) => CallsV Try.prog 73
 #[Value.pointer s, Value.int IntKind.i64 n] w fun (v : Value) (w' : World) => ∃ (x : Int), v = Value.int IntKind.i64 x ∧ bif !decide (x = (0 : Int)) then K (Value.int IntKind.i64 x) w' else ∃
 (a : Addr), s = some a ∧ ∃ (x : Option Addr) (x_1 x_2 : Nat), World.cell? w' (Addr.add a 2) = some (Value.slice x x_1 x_2) ∧ ∃ (ad : Addr), x = some ad ∧ ((0 : Int) ≤ IntKind.wrap
 IntKind.i64 (n - (1 : Int)) ∧ IntKind.wrap IntKind.i64 (n - (1 : Int)) < (↑x_1 : Int)) ∧ ∃ (x : Option Addr), World.cell? w' (Addr.add (Addr.add ad (Int.toNat (IntKind.wrap IntKind.i64 (n - (1 : Int)))
 * 2)) 0) = some (Value.pointer x) ∧ ∃ (x_3 : Option Addr) (x_4 x_5 : Nat), World.cell? w' (Addr.add (Addr.add ad (Int.toNat (IntKind.wrap IntKind.i64 (n - (1 : Int))) * 2)) 1) = some
 (Value.slice x_3 x_4 x_5) ∧ ∀ (g : Nat) (w'_1 : World), Fresh w' g w'_1 [Value.pointer none, Value.slice none 0 0] 122 → stOK (Addr.mk g 0 none) 0 [Value.pointer x, Value.slice x_3
 x_4 x_5] w'_1 ∧ ∀ (w' : World), w' = setAll (Addr.mk g 0 none) 0 [Value.pointer x, Value.slice x_3 x_4 x_5] w'_1 → ∃ (J : World → Prop), (∀ (w : World), J w → ∃ (a : Addr), s = some a ∧ ∃
 (S : World → Prop), S (World.drew w) ∧ ∃ (x : Option Addr), (∀ (u : World), S u → World.cell? u (Addr.add a 0) = some (Value.pointer x)) ∧ ∃ (x_6 : Option Addr), (∀ (u : World), S u →
 World.cell? u (Addr.add (Addr.mk g 0 none) 0) = some (Value.pointer x_6)) ∧ CallsV Try.prog 75 #[Value.pointer x, Value.pointer x_6] (World.drew w) fun (v : Value) (w' : World) => ∃ (x :
 Int), v = Value.int IntKind.i64 x ∧ K (Value.int IntKind.i64 x) w') ∧ ∃ (S : World → Prop), S (World.drew w') ∧ ∃ (x : Option Addr) (x_6 x_7 : Nat), (∀ (u : World), S u → World.cell? u (Addr.add
 (Addr.mk g 0 none) 1) = some (Value.slice x x_6 x_7)) ∧ ∃ (a : Addr), s = some a ∧ ∃ (x_8 : Option Addr) (x_9 x_10 : Nat), (∀ (u : World), S u → World.cell? u (Addr.add a 2) =
 some (Value.slice x_8 x_9 x_10)) ∧ ((0 : Int) ≤ IntKind.wrap IntKind.i64 (n - (1 : Int)) ∧ IntKind.wrap IntKind.i64 (n - (1 : Int)) ≤ (↑x_10 : Int)) ∧ ∃ (a : Addr), s = some a ∧ stOK
 (Addr.add a 1) 0 [Value.slice x x_6 x_7] (World.drew w') ∧ ∀ (w'_2 : World), w'_2 = setAll (Addr.add a 1) 0 [Value.slice x x_6 x_7] (World.drew w') → ∃ (a : Addr), s = some a ∧ stOK (Addr.add a
 2) 0 [Value.slice (cutAt x_8 x_10 0 2) (Int.toNat (IntKind.wrap IntKind.i64 (n - (1 : Int))) - 0) (x_10 - 0)] w'_2 ∧ ∀ (w' : World), w' = setAll (Addr.add a 2) 0 [Value.slice (cutAt x_8 x_10 0 2)
 (Int.toNat (IntKind.wrap IntKind.i64 (n - (1 : Int))) - 0) (x_10 - 0)] w'_2 → J w'
theorem undo_Store_Back.calls (ok : Okay Try.prog) {s : Option Addr} {n : Int} {w : World} {K : Value → World → Prop} (h : undo_Store_Back.W s n w K) : CallsV Try.prog 25 #[.pointer s, .int .i64 n] w K :=
  fnW_calls ok Try.func25 (an := (.named (.seq .auto (.seq .auto (.seq .auto (.join [] .auto .auto)))))) (args := [.pointer s, .int .i64 n]) (Eq.mp (by kernel_rfl) h)
noncomputable def undo_Store_Free.W : Option Addr → Int → World → (Value → World → Prop) → Prop := fun (s : Option Addr) (n : Int) (w : World) (K : Value → World → Prop) => CallsV Try.prog 73
 #[Value.pointer s, Value.int IntKind.i64 n] w fun (v : Value) (w' : World) => ∃ (x : Int), v = Value.int IntKind.i64 x ∧ bif !decide (x = (0 : Int)) then K (Value.int IntKind.i64 x) w' else ∃
 (a : Addr), s = some a ∧ ∃ (x : Option Addr) (x_1 x_2 : Nat), World.cell? w' (Addr.add a 2) = some (Value.slice x x_1 x_2) ∧ ((0 : Int) ≤ IntKind.wrap IntKind.i64 (n - (1 : Int)) ∧
 IntKind.wrap IntKind.i64 (n - (1 : Int)) ≤ (↑x_2 : Int)) ∧ ∃ (a : Addr), s = some a ∧ stOK (Addr.add a 2) 0 [Value.slice (cutAt x x_2 0 2) (Int.toNat (IntKind.wrap IntKind.i64 (n - (1 : Int))) -
 0) (x_2 - 0)] w' ∧ ∀ (w'_1 : World), w'_1 = setAll (Addr.add a 2) 0 [Value.slice (cutAt x x_2 0 2) (Int.toNat (IntKind.wrap IntKind.i64 (n - (1 : Int))) - 0) (x_2 - 0)] w' → K (Value.int IntKind.i64 (0
 : Int)) w'_1
theorem undo_Store_Free.calls (ok : Okay Try.prog) {s : Option Addr} {n : Int} {w : World} {K : Value → World → Prop} (h : undo_Store_Free.W s n w K) : CallsV Try.prog 19 #[.pointer s, .int .i64 n] w K :=
  fnW_calls ok Try.func19 (an := (.named .auto)) (args := [.pointer s, .int .i64 n]) (Eq.mp (by kernel_rfl) h)
noncomputable def undo_Store_Marks.W : Option Addr → World → (Value → World → Prop) → Prop := fun (s : Option Addr) (w : World) (K : Value → World → Prop) => bif Option.isNone s then K (Value.int
 IntKind.i64 (0 : Int)) w else ∃ (a : Addr), s = some a ∧ ∃ (x : Option Addr) (x_1 x_2 : Nat), World.cell? w (Addr.add a 2) = some (Value.slice x x_1 x_2) ∧ K (Value.int IntKind.i64 (↑x_1
 : Int)) w
theorem undo_Store_Marks.calls (ok : Okay Try.prog) {s : Option Addr} {w : World} {K : Value → World → Prop} (h : undo_Store_Marks.W s w K) : CallsV Try.prog 24 #[.pointer s] w K :=
  fnW_calls ok Try.func24 (an := (.named .auto)) (args := [.pointer s]) (Eq.mp (by kernel_rfl) h)
noncomputable def undo_Store_Drop_1.W : Int → Addr → World → (Value → World → Prop) → Prop := fun (x : Int) (a1 : Addr) (w : World) (K : Value → World → Prop) => ∃ (x_1 : Int), World.cell? w a1 =
 some (Value.int IntKind.i64 x_1) ∧ K (Value.bool (decide (x = x_1))) w
theorem undo_Store_Drop_1.calls (ok : Okay Try.prog) {x : Int} {a1 : Addr} {w : World} {K : Value → World → Prop} (h : undo_Store_Drop_1.W x a1 w K) : CallsV Try.prog 81 #[.int .i64 x, .pointer (some a1)] w K :=
  fnW_calls ok Try.func81 (an := (.named .auto)) (args := [.int .i64 x, .pointer (some a1)]) (Eq.mp (by kernel_rfl) h)
end Go.Proofs.Ythfagbfllheneaa
set_option linter.unusedVariables false
set_option maxRecDepth 100000
namespace Go.Proofs.Ythfagbfllheneaa
open Go Go.Sx
noncomputable def slices_DeleteFunc_int_int.W : Option Addr → Nat → Nat → Value → World → (Value → World → Prop) → Prop := fun (s_A : Option Addr) (s_n s_c : Nat) (del : Value) (w : World) (K : Value →
 World → Prop) => CallsV Try.prog 118 #[Value.slice s_A s_n s_c, del] w fun (v : Value) (w' : World) => ∃ (x : Int), v = Value.int IntKind.i64 x ∧ bif decide (x = (-1 : Int)) then K
 (Value.slice s_A s_n s_c) w' else ∃ (I : Int → Int → World → Prop) (μ : Int → Int → World → Nat), I x (IntKind.wrap IntKind.i64 (x + (1 : Int))) w' ∧ ∀ (x x_1 : Int) (w : World), I x x_1 w → bif
 decide (x_1 < (↑s_n : Int)) then ∃ (ad : Addr), s_A = some ad ∧ ((0 : Int) ≤ x_1 ∧ x_1 < (↑s_n : Int)) ∧ ∃ (x_2 : Int), World.cell? w (Addr.add ad (Int.toNat x_1 * 1)) = some
 (Value.int IntKind.i64 x_2) ∧ ∃ (fid : Nat) (first captured : Array Value), del = Value.func (Fn.func fid) first captured ∧ bodied Try.prog fid = true ∧ CallsV Try.prog fid (List.toArray
 (Array.toList first ++ ([Value.int IntKind.i64 x_2] ++ Array.toList captured))) w fun (r : Value) (w' : World) => ∃ (x_3 : Bool), r = Value.bool x_3 ∧ bif !x_3 then ∃ (ad : Addr), s_A = some ad
 ∧ ((0 : Int) ≤ x ∧ x < (↑s_n : Int)) ∧ stOK (Addr.add ad (Int.toNat x * 1)) 0 [Value.int IntKind.i64 x_2] w' ∧ ∀ (w'_1 : World), w'_1 = setAll (Addr.add ad (Int.toNat x * 1)) 0 [Value.int IntKind.i64
 x_2] w' → I (IntKind.wrap IntKind.i64 (x + (1 : Int))) (IntKind.wrap IntKind.i64 (x_1 + (1 : Int))) w'_1 ∧ μ (IntKind.wrap IntKind.i64 (x + (1 : Int))) (IntKind.wrap IntKind.i64 (x_1 + (1 : Int))) w'_1
 < μ x x_1 w else I x (IntKind.wrap IntKind.i64 (x_1 + (1 : Int))) w' ∧ μ x (IntKind.wrap IntKind.i64 (x_1 + (1 : Int))) w' < μ x x_1 w else ((0 : Int) ≤ x ∧ x ≤ (↑s_n : Int)) ∧ ∃ (w' : World), RunsTo
 Try.prog (Builtin.clear_ (Array.mk [37]) 0 #[Value.slice (cutAt s_A s_c (Int.toNat x) 1) (s_n - Int.toNat x) (s_c - Int.toNat x)]) w (Value.tuple #[]) w' ∧ ((0 : Int) ≤ x ∧ x ≤ (↑s_c : Int)) ∧ K
 (Value.slice (cutAt s_A s_c 0 1) (Int.toNat x - 0) (s_c - 0)) w'
theorem slices_DeleteFunc_int_int.calls (ok : Okay Try.prog) {s_A : Option Addr} {s_n : Nat} {s_c : Nat} {del : Value} {w : World} {K : Value → World → Prop} (h : slices_DeleteFunc_int_int.W s_A s_n s_c del w K) : CallsV Try.prog 80 #[.slice s_A s_n s_c, del] w K :=
  fnW_calls ok Try.func80 (an := (.named (.named (.seq .auto (.seq .auto (.seq .auto (.seq (.seq .auto (.block (.loop [(5, .one (.int .i64)), (6, .one (.int .i64))] .auto))) .auto))))))) (args := [.slice s_A s_n s_c, del]) (Eq.mp (by kernel_rfl) h)
noncomputable def slices_IndexFunc_int_int.W : Option Addr → Nat → Nat → Value → World → (Value → World → Prop) → Prop := fun (s_A : Option Addr) (s_n s_c : Nat) (f : Value) (w : World) (K : Value →
 World → Prop) => ∃ (I : Int → World → Prop) (μ : Int → World → Nat), I (0 : Int) w ∧ ∀ (x : Int) (w : World), I x w → bif decide (x < (↑s_n : Int)) then ∃ (ad : Addr), s_A = some ad ∧
 ((0 : Int) ≤ x ∧ x < (↑s_n : Int)) ∧ ∃ (x_1 : Int), World.cell? w (Addr.add ad (Int.toNat x * 1)) = some (Value.int IntKind.i64 x_1) ∧ ∃ (fid : Nat) (first captured : Array Value), f =
 Value.func (Fn.func fid) first captured ∧ bodied Try.prog fid = true ∧ CallsV Try.prog fid (List.toArray (Array.toList first ++ ([Value.int IntKind.i64 x_1] ++ Array.toList captured))) w fun (r :
 Value) (w' : World) => ∃ (x_2 : Bool), r = Value.bool x_2 ∧ bif x_2 then K (Value.int IntKind.i64 x) w' else I (IntKind.wrap IntKind.i64 (x + (1 : Int))) w' ∧ μ (IntKind.wrap IntKind.i64 (x + (1 :
 Int))) w' < μ x w else K (Value.int IntKind.i64 (-1 : Int)) w
theorem slices_IndexFunc_int_int.calls (ok : Okay Try.prog) {s_A : Option Addr} {s_n : Nat} {s_c : Nat} {f : Value} {w : World} {K : Value → World → Prop} (h : slices_IndexFunc_int_int.W s_A s_n s_c f w K) : CallsV Try.prog 118 #[.slice s_A s_n s_c, f] w K :=
  fnW_calls ok Try.func118 (an := (.named (.named (.seq .auto (.seq (.seq .auto (.block (.loop [(8, .one (.int .i64))] .auto))) .auto))))) (args := [.slice s_A s_n s_c, f]) (Eq.mp (by kernel_rfl) h)
end Go.Proofs.Ythfagbfllheneaa
set_option linter.unusedVariables false
set_option linter.unusedSimpArgs false
namespace Go.Proofs.Ythfagbfllheneaa
open Go Go.Sx T4
abbrev KI : Kd Int := Kd.int .i64
theorem KI_pos : 0 < KI.size := by decide
theorem oneI : One KI := ⟨rfl, fun h v hv => by cases h; simp at hv; subst hv; rfl⟩
theorem itemI {Ω : Nat → Prop} {w : World} {A : Option Addr} {l : List Int} (h : Imm KI Ω w A l) {j : Nat} (hj : j < l.length) : ∃ ad, A = some ad ∧ w.cell? (ad.add (j * 1)) = some (.int .i64 l[j]) := by
  obtain ⟨ad, hA, _, cs, hr, hv⟩ := h j l[j] (List.getElem?_eq_getElem hj)
  exact ⟨ad, hA, hv 0 _ (by rw [show cs = [.int .i64 l[j]] from hr]; rfl)⟩
theorem same_spec {w : World} {b : Nat} {id : Int} (hb : Blk w b [.int .i64 id]) (x : Int) : CallsV Try.prog 81 #[.int .i64 x, .pointer (some ⟨b, 0, none⟩)] w fun r w' => r = .bool (decide (x = id)) ∧ w' = w := by
  refine undo_Store_Drop_1.calls okay ?_
  unfold undo_Store_Drop_1.W
  exact ⟨_, hb.cell0 rfl, rfl, rfl⟩
abbrev sameF (b : Nat) : Value := .func (.func 81) #[] #[.pointer (some ⟨b, 0, none⟩)]
theorem IndexFunc_spec {w : World} {Ω : Nat → Prop} {A : Option Addr} {c : Nat} {l : List Int} (h : Imm KI Ω w A l) (hl : l.length ≤ 1000000) {b : Nat} {id : Int} (hb : Blk w b [.int .i64 id]) :
    CallsV Try.prog 118 #[.slice A l.length c, sameF b] w fun r w' => w' = w ∧ ((r = .int .i64 (-1) ∧ ∀ x ∈ l, x ≠ id) ∨ ∃ j : Nat, r = iv j ∧ j < l.length ∧ l[j]? = some id ∧ ∀ k x, l[k]? = some x → k < j → x ≠ id) := by
  refine slices_IndexFunc_int_int.calls okay ?_
  unfold slices_IndexFunc_int_int.W
  refine ⟨fun x u => u = w ∧ ∃ j : Nat, x = (j : Int) ∧ j ≤ l.length ∧ ∀ k x, l[k]? = some x → k < j → x ≠ id, fun x _ => (l.length - x).toNat, ⟨rfl, 0, rfl, Nat.zero_le _, fun k x _ h => by omega⟩, ?_⟩
  rintro _ u ⟨hu, j, rfl, hj, hno⟩
  obtain rfl : w = u := hu.symm
  refine brd (fun hlt => ?_) (fun hge => ?_)
  · have hjl : j < l.length := by omega
    obtain ⟨ad, hA, hc⟩ := itemI h hjl
    refine ⟨ad, hA, ⟨by omega, by omega⟩, _, by rw [Int.toNat_natCast]; exact hc, _, _, _, rfl, by kernel_rfl, (same_spec hb _).same ⟨_, rfl, ?_⟩⟩
    refine brd (fun he => ⟨rfl, .inr ⟨j, rfl, hjl, by rw [List.getElem?_eq_getElem hjl, he], hno⟩⟩) (fun hne => ?_)
    rw [wi _ (by omega) (by omega)]
    refine ⟨⟨rfl, j + 1, by omega, by omega, fun k x hk hlt => ?_⟩, by dsimp only; omega⟩
    rcases Nat.lt_or_ge k j with h | h
    · exact hno k x hk h
    · obtain rfl : k = j := by omega
      rw [List.getElem?_eq_getElem hjl] at hk; cases hk; exact hne
  · refine ⟨rfl, .inl ⟨rfl, fun x hx => ?_⟩⟩
    obtain ⟨k, hk, rfl⟩ := List.mem_iff_getElem.1 hx
    exact hno k _ (List.getElem?_eq_getElem hk) (by omega)
theorem filter_all {l : List Int} {id : Int} (h : ∀ x ∈ l, x ≠ id) : l.filter (fun x => !decide (x = id)) = l := List.filter_eq_self.2 fun x hx => by simp [h x hx]
theorem DeleteFunc_spec {w : World} {A : Option Addr} {c : Nat} {l : List Int} (h : OwnK KI w A c l) (hl : l.length ≤ 1000000) {b : Nat} {id : Int} (hb : Blk w b [.int .i64 id]) (hAb : ¬ ownB A b) :
    CallsV Try.prog 80 #[.slice A l.length c, sameF b] w fun r w' => r = .slice A (l.filter (fun x => !decide (x = id))).length c ∧ OwnK KI w' A c (l.filter (fun x => !decide (x = id))) ∧ Fr (ownB A) w w' := by
  refine slices_DeleteFunc_int_int.calls okay ?_
  unfold slices_DeleteFunc_int_int.W
  refine (IndexFunc_spec (h.imm KI_pos) hl hb).mono ?_
  rintro r w' ⟨hw', hr⟩
  obtain rfl : w = w' := hw'.symm
  rcases hr with ⟨rfl, hno⟩ | ⟨i0, rfl, hi0, hid, hno⟩
  · exact ⟨_, rfl, brd (fun _ => by rw [filter_all hno]; exact ⟨rfl, h, .refl _ _⟩) fun h => absurd rfl h⟩
  · refine ⟨_, rfl, brd (fun h => by omega) fun _ => ?_⟩
    have hle : ∀ j, ((l.take j).filter (fun x => !decide (x = id))).length ≤ j := fun j => by
      have := List.length_filter_le (fun x => !decide (x = id)) (l.take j)
      rw [List.length_take] at this; omega
    have hpre : (l.take (i0 + 1)).filter (fun x => !decide (x = id)) = l.take i0 := by
      rw [List.take_add_one, hid, List.filter_append, filter_all (l := l.take i0) fun x hx => by
        obtain ⟨k, hk, rfl⟩ := List.mem_iff_getElem.1 hx
        rw [List.length_take] at hk
        rw [List.getElem_take]
        exact hno k _ (List.getElem?_eq_getElem (by omega)) (by omega)]
      simp
    refine ⟨fun x y u => ∃ (i j : Nat) (m : List Int), x = (i : Int) ∧ y = (j : Int) ∧ i < j ∧ j ≤ l.length ∧ m.length = l.length ∧ i = ((l.take j).filter (fun x => !decide (x = id))).length ∧ m.take i = (l.take j).filter (fun x => !decide (x = id)) ∧ m.drop j = l.drop j ∧ OwnK KI u A c m ∧ Fr (ownB A) w u, fun _ y _ => (l.length - y).toNat, ?_, ?_⟩
    · rw [wi _ (by omega) (by omega)]
      exact ⟨i0, i0 + 1, l, rfl, by omega, by omega, by omega, rfl, by rw [hpre, List.length_take]; omega, hpre.symm, rfl, h, .refl _ _⟩
    · rintro _ _ u ⟨i, j, m, rfl, rfl, hij, hj, hm, hi, htk, hdr, hO, hF⟩
      refine brd (fun hlt => ?_) (fun hge => ?_)
      · have hjl : j < l.length := by omega
        obtain ⟨ad, hA, hc⟩ := itemI (hO.imm KI_pos) (j := j) (by omega)
        have hmj : m[j]'(by omega) = l[j] := by
          have h1 : (m.drop j)[0]? = (l.drop j)[0]? := by rw [hdr]
          rw [List.getElem?_drop, List.getElem?_drop, Nat.add_zero, List.getElem?_eq_getElem (show j < m.length by omega), List.getElem?_eq_getElem hjl] at h1
          exact Option.some.inj h1
        rw [hmj] at hc
        have hbu : Blk u b [.int .i64 id] := hb.keep hF hAb
        refine ⟨ad, hA, ⟨by omega, by omega⟩, _, by rw [Int.toNat_natCast]; exact hc, _, _, _, rfl, by kernel_rfl, (same_spec hbu _).same ⟨_, rfl, ?_⟩⟩
        have hnext : (l.take (j + 1)).filter (fun x => !decide (x = id)) = (l.take j).filter (fun x => !decide (x = id)) ++ (if l[j] = id then [] else [l[j]]) := by
          rw [List.take_add_one, List.getElem?_eq_getElem hjl, List.filter_append]
          by_cases he : l[j] = id
          · rw [if_pos he]; simp [he]
          · rw [if_neg he]; simp [he]
        have hdr' : m.drop (j + 1) = l.drop (j + 1) := by rw [← List.drop_drop, ← List.drop_drop (l := l), hdr]
        refine brnb (fun hne => ?_) (fun he => ?_)
        · have hne : ¬ l[j] = id := of_decide_eq_false hne
          rw [if_neg hne] at hnext
          have hil : i < m.length := by omega
          obtain ⟨gA, hgA, hcell⟩ := hO.blk KI_pos hil
          rw [hA] at hgA
          cases hgA
          have hz := hcell 0 (by decide)
          have hset := hO.set (fun _ _ _ h => h) hil (a := l[j]) (cs := [.int .i64 l[j]]) rfl hA
          have hadr : ((⟨gA, 0, none⟩ : Addr).add (i * 1)) = ⟨gA, i * KI.size, none⟩ := by rw [add_new, Nat.zero_add]; rfl
          rw [wi ((i : Int) + 1) (by omega) (by omega), wi ((j : Int) + 1) (by omega) (by omega)]
          refine ⟨_, hA, ⟨by omega, by omega⟩, by rw [Int.toNat_natCast, hadr]; exact ⟨by simpa [add_zero'] using hz.1, by simpa [add_zero'] using hz.2⟩, fun u' hu' => ?_⟩
          rw [Int.toNat_natCast, hadr] at hu'
          subst hu'
          refine ⟨⟨i + 1, j + 1, m.set i l[j], by omega, by omega, by omega, by omega, by simpa using hm, ?_, ?_, ?_, hset, hF.trans (Fr.setAll _ _ _) (fun _ _ h => h) (fun k _ e => by rw [hA, ownB_some]; exact e.symm)⟩, by dsimp only; omega⟩
          · rw [hnext, List.length_append, ← hi]; rfl
          · rw [hnext, ← htk, List.take_add_one, List.getElem?_set_self hil, List.take_set_of_le (Nat.le_refl i)]; rfl
          · rw [List.drop_set_of_lt (by omega)]; exact hdr'
        · have he : l[j] = id := of_decide_eq_true he
          rw [if_pos he, List.append_nil] at hnext
          rw [wi ((j : Int) + 1) (by omega) (by omega)]
          exact ⟨⟨i, j + 1, m, rfl, by omega, by omega, by omega, hm, by rw [hnext]; exact hi, by rw [hnext]; exact htk, hdr', hO, hF⟩, by dsimp only; omega⟩
      · obtain rfl : j = l.length := by omega
        rw [List.take_length] at hi htk
        obtain ⟨u', hr', ho', f'⟩ := clear_own (P := Try.prog) slI (fun v hv => by simp at hv; subst hv; rfl) (ty := 0) hO (fun _ _ _ h => h) (k := i) (by omega) (c - i)
        rw [hm] at hr'
        have hc := hO.imm
        have hile : i ≤ c := by obtain ⟨xs, ho, _⟩ := hO; have := ho.le; omega
        refine ⟨⟨by omega, by omega⟩, u', by rw [Int.toNat_natCast]; exact hr', ⟨by omega, by omega⟩, ?_, ?_, hF.trans f' (fun _ _ h => h) (fun _ _ h => h)⟩
        · rw [cutAt_zero, Int.toNat_natCast, Nat.sub_zero, Nat.sub_zero, hi]
        · rw [← htk]; exact ho'
end Go.Proofs.Ythfagbfllheneaa
set_option linter.unusedVariables false
set_option linter.unusedSimpArgs false
namespace Go.Proofs.Ythfagbfllheneaa
open Go Go.Sx T4
def idsD (D : List Tr) : List Int := D.map fun d => d.r
theorem idsD_len (D : List Tr) : (idsD D).length = D.length := by simp [idsD]
structure Mk where
  sb : Nat
  MA : Option Addr
  mc : Nat
  A : Ar
  D : List Tr
def mkC (a : Mk) : List Value := [.pointer (some ⟨a.sb, 0, none⟩), .slice a.MA (idsD a.D).length a.mc]
def KMk : Kd Mk := ⟨2, fun _ _ a cs => cs = mkC a, fun h => by simp [h, mkC], fun h _ => h⟩
theorem KMk_pos : 0 < KMk.size := by decide
theorem slM : SlT Try.prog 79 122 2 32 [.pointer none, .slice none 0 0] := ⟨by kernel_rfl, ⟨Try.t122, by kernel_rfl, by kernel_rfl, by kernel_rfl, .agg #[.pointer none, .slice none 0 0], by kernel_rfl, by kernel_rfl⟩, rfl, by decide⟩
structure Ab where
  A : Ar
  D : List Tr
  ms : List (Ar × List Tr)
structure StoA (T : Nat → Prop) (u : World) (s : Nat) (q : Ab) (g : Nat) (R M : Nat → Prop) (IA : Option Addr) (ic : Nat) (X : Option Addr) (xc : Nat) (L : List Mk) (idl : List Int) : Prop where
  ar : Ar1 R M u g q.A
  inv : Inv q.A q.D
  blk : Blk u s [.pointer (some ⟨g, 0, none⟩), .slice IA idl.length ic, .slice X L.length xc]
  rT : ∀ k, R k → T k
  sT : T s
  iT : ∀ k, ownB IA k → T k
  xT : ∀ k, ownB X k → T k
  mT : ∀ x ∈ L, ∀ k, ownB x.MA k → T k
  tlt : ∀ k, T k → k < u.heap.size
  sR : ¬ R s
  iO : ∀ k, ownB IA k → ¬ R k ∧ k ≠ s
  xO : ∀ k, ownB X k → ¬ R k ∧ k ≠ s ∧ ¬ ownB IA k
  mO : ∀ x ∈ L, ∀ k, ownB x.MA k → ¬ R k ∧ k ≠ s ∧ ¬ ownB IA k ∧ ¬ ownB X k
  mD : L.Pairwise fun a b => ∀ k, ownB a.MA k → ¬ ownB b.MA k
  ids : OwnK KI u IA ic idl
  marks : OwnK KMk u X xc L
  good : ∀ x ∈ L, Sv1 (Om R M) u x.sb g x.A ∧ Inv x.A x.D ∧ x.A.fan = q.A.fan ∧ x.A.most = q.A.most ∧ OwnK KI u x.MA x.mc (idsD x.D)
  ms : L.map (fun x => (x.A, x.D)) = q.ms
  cnt : L.length ≤ 100
structure Tch (T : Nat → Prop) (u : World) (T' : Nat → Prop) (u' : World) : Prop where
  fr : Fr T u u'
  sub : ∀ k, T' k → T k ∨ u.heap.size ≤ k
theorem Tch.refl (T : Nat → Prop) (u : World) : Tch T u T u := ⟨.refl _ _, fun _ h => .inl h⟩
theorem Tch.ext {T : Nat → Prop} {u u' : World} (e : Ext u u') : Tch T u T u' := ⟨e.fr, fun _ h => .inl h⟩
theorem Tch.trans {T T' T'' : Nat → Prop} {u u' u'' : World} (h : Tch T u T' u') (h' : Tch T' u' T'' u'') : Tch T u T'' u'' :=
  ⟨h.fr.trans h'.fr (fun _ _ h => h) (fun k hk ht => (h.sub k ht).resolve_right (by omega)), fun k hk => (h'.sub k hk).elim (h.sub k) fun h2 => .inr (Nat.le_trans h.fr.size h2)⟩
theorem Tch.keepExt {T T' : Nat → Prop} {w0 u u' : World} (c : Tch T u T' u') (e : Ext w0 u) (hT : ∀ k, T k → w0.heap.size ≤ k) : Ext w0 u' ∧ ∀ k, T' k → w0.heap.size ≤ k :=
  ⟨e.trans c.fr (fun _ _ h => h) (fun k hk ht => by have := hT k ht; omega), fun k hk => (c.sub k hk).elim (hT k) fun h => Nat.le_trans e.size h⟩
theorem Tch.blk {T T' : Nat → Prop} {u u' : World} (c : Tch T u T' u') {k : Nat} {cs : List Value} (hb : Blk u k cs) (hk : ¬ T k) : Blk u' k cs ∧ ¬ T' k := ⟨hb.keep c.fr hk, fun h => (c.sub k h).elim hk fun h2 => by have := hb.lt; omega⟩
section
variable {T : Nat → Prop} {u : World} {s : Nat} {q : Ab} {g : Nat} {R M : Nat → Prop} {IA : Option Addr} {ic : Nat} {X : Option Addr} {xc : Nat} {L : List Mk} {idl : List Int}
theorem StoA.frame (h : StoA T u s q g R M IA ic X xc L idl) {S : Nat → Prop} {u' : World} (f : Fr S u u') (hS : ∀ k, k < u.heap.size → S k → ¬ T k) : StoA T u' s q g R M IA ic X xc L idl := by
  have off : ∀ k, T k → ¬ S k := fun k ht hs => hS k (h.tlt k ht) hs ht
  refine ⟨h.ar.frame f fun k hk hs hr => hS k hk hs (h.rT k hr), h.inv, h.blk.keep f (off s h.sT), h.rT, h.sT, h.iT, h.xT, h.mT, fun k hk => Nat.lt_of_lt_of_le (h.tlt k hk) f.size, h.sR, h.iO, h.xO, h.mO, h.mD, h.ids.fr f (fun k hk => off k (h.iT k hk)) (fun _ _ _ h => h), h.marks.fr f (fun k hk => off k (h.xT k hk)) (fun _ _ _ h => h), fun x hx => ?_, h.ms, h.cnt⟩
  obtain ⟨g1, g2, g3, g4, g5⟩ := h.good x hx
  exact ⟨g1.keep (f.step (fun k hk hs => .inl fun hr => hS k hk hs (h.rT k hr)) (fun _ _ h => h)), g2, g3, g4, g5.fr f (fun k hk => off k (h.mT x hx k hk)) (fun _ _ _ h => h)⟩
theorem StoA.ext (h : StoA T u s q g R M IA ic X xc L idl) {u' : World} (e : Ext u u') : StoA T u' s q g R M IA ic X xc L idl := h.frame e fun _ _ h => h.elim
theorem StoA.chg (h : StoA T u s q g R M IA ic X xc L idl) {u' : World} {A' : Ar} {D' : List Tr} {R' M' : Nat → Prop} (h' : Ar1 R' M' u' g A') (c : Chg R M u R' M' u') (hI : Inv A' D') (h1 : A'.fan = q.A.fan) (h2 : A'.most = q.A.most) :
    ∃ T', StoA T' u' s ⟨A', D', q.ms⟩ g R' M' IA ic X xc L idl ∧ Tch T u T' u' := by
  have mr := h.ar.mr
  have off : ∀ {k}, ¬ R k → ¬ M k := fun hr hm => hr (mr _ hm)
  have hs := c.fr.size
  refine ⟨fun k => T k ∨ R' k, ⟨h', hI, h.blk.keep c.fr (off h.sR), fun k hk => .inr hk, .inl h.sT, fun k hk => .inl (h.iT k hk), fun k hk => .inl (h.xT k hk), fun x hx k hk => .inl (h.mT x hx k hk), fun k hk => ?_, c.off h.blk.lt h.sR, fun k hk => ⟨c.off (h.ids.lt k hk) (h.iO k hk).1, (h.iO k hk).2⟩, fun k hk => ⟨c.off (h.marks.lt k hk) (h.xO k hk).1, (h.xO k hk).2⟩, fun x hx k hk => ⟨c.off (h.tlt k (h.mT x hx k hk)) (h.mO x hx k hk).1, (h.mO x hx k hk).2⟩, h.mD, h.ids.fr c.fr (fun k hk => off (h.iO k hk).1) (fun _ _ _ h => h), h.marks.fr c.fr (fun k hk => off (h.xO k hk).1) (fun _ _ _ h => h), fun x hx => ?_, h.ms, h.cnt⟩, ⟨c.fr.mono fun k _ hm => h.rT k (mr k hm), fun k hk => ?_⟩⟩
  · rcases hk with hk | hk
    · have := h.tlt k hk; omega
    · exact h'.lt k hk
  · obtain ⟨g1, g2, g3, g4, g5⟩ := h.good x hx
    exact ⟨g1.keep c.step, g2, g3.trans h1.symm, g4.trans h2.symm, g5.fr c.fr (fun k hk => off (h.mO x hx k hk).1) (fun _ _ _ h => h)⟩
  · rcases hk with hk | hk
    · exact .inl hk
    · exact (c.r' k hk).imp (h.rT k) id
theorem StoA.setIds (h : StoA T u s q g R M IA ic X xc L idl) {u' : World} {IA' : Option Addr} {ic' : Nat} {idl' : List Int} (ho : OwnK KI u' IA' ic' idl') (gr : Grew IA IA' u u') :
    stOK ((⟨s, 0, none⟩ : Addr).add 1) 0 [.slice IA' idl'.length ic'] u' ∧ ∀ u2, u2 = setAll ((⟨s, 0, none⟩ : Addr).add 1) 0 [.slice IA' idl'.length ic'] u' → ∃ T', StoA T' u2 s q g R M IA' ic' X xc L idl' ∧ Tch T u T' u2 := by
  have bs := h.blk.keep gr.fr (fun hk => (h.iO _ hk).2 rfl)
  obtain ⟨p1, p2⟩ := setF bs (o := 1) (by simp) (.slice IA' idl'.length ic')
  refine ⟨p1, fun u2 hu => ?_⟩
  obtain ⟨b2, f2⟩ := p2 u2 hu
  have hsz := gr.fr.size
  have hsz2 := f2.size
  -- both steps at once
  have f : Fr (fun k => ownB IA k ∨ k = s) u u2 := (gr.fr.mono fun _ _ h => .inl h).trans f2 (fun _ _ h => h) (fun _ _ h => .inr h)
  have isT : ∀ k, ownB IA k ∨ k = s → T k := fun k hk => hk.elim (h.iT k) fun e => e ▸ h.sT
  have notR : ∀ k, ownB IA k ∨ k = s → ¬ R k := fun k hk => hk.elim (fun hk => (h.iO k hk).1) fun e => e ▸ h.sR
  have new : ∀ k, ownB IA' k → ownB IA k ∨ u.heap.size ≤ k := gr.sub
  have hsl := h.blk.lt
  refine ⟨fun k => T k ∨ ownB IA' k, ⟨h.ar.frame f fun k _ hk => notR k hk, h.inv, by simpa using b2, fun k hk => .inl (h.rT k hk), .inl h.sT, fun k hk => .inr hk, fun k hk => .inl (h.xT k hk), fun x hx k hk => .inl (h.mT x hx k hk), fun k hk => ?_, h.sR, fun k hk => ?_, fun k hk => ?_, fun x hx k hk => ?_, h.mD, ho.fr f2 (fun k hk e => ?_) (fun _ _ _ h => h), h.marks.fr f (fun k hk hk' => hk'.elim (h.xO k hk).2.2 fun e => (h.xO k hk).2.1 e) (fun _ _ _ h => h), fun x hx => ?_, h.ms, h.cnt⟩, ⟨f.mono fun k _ hk => isT k hk, fun k hk => ?_⟩⟩
  · rcases hk with hk | hk
    · have := h.tlt k hk; omega
    · have := ho.lt k hk; omega
  · rcases new k hk with hk | hk
    · exact h.iO k hk
    · exact ⟨fun hr => by have := h.tlt k (h.rT k hr); omega, by omega⟩
  · refine ⟨(h.xO k hk).1, (h.xO k hk).2.1, fun hi => ?_⟩
    rcases new k hi with hi | hi
    · exact (h.xO k hk).2.2 hi
    · have := h.marks.lt k hk; omega
  · obtain ⟨m1, m2, m3, m4⟩ := h.mO x hx k hk
    refine ⟨m1, m2, fun hi => ?_, m4⟩
    rcases new k hi with hi | hi
    · exact m3 hi
    · have := h.tlt k (h.mT x hx k hk); omega
  · have e : k = s := e
    rcases new k hk with hk | hk
    · exact (h.iO k hk).2 e
    · omega
  · obtain ⟨g1, g2, g3, g4, g5⟩ := h.good x hx
    exact ⟨g1.keep (f.step (fun k _ hk => .inl (notR k hk)) (fun _ _ h => h)), g2, g3, g4, g5.fr f (fun k hk hk' => hk'.elim (h.mO x hx k hk).2.2.1 fun e => (h.mO x hx k hk).2.1 e) (fun _ _ _ h => h)⟩
  · rcases hk with hk | hk
    · exact .inl hk
    · exact (new k hk).imp (h.iT k) id
theorem StoA.setLess (h : StoA T u s q g R M IA ic X xc L idl) (n : Nat) (hn : n ≤ L.length) :
    stOK ((⟨s, 0, none⟩ : Addr).add 2) 0 [.slice X n xc] u ∧ ∀ u2, u2 = setAll ((⟨s, 0, none⟩ : Addr).add 2) 0 [.slice X n xc] u → StoA T u2 s ⟨q.A, q.D, q.ms.take n⟩ g R M IA ic X xc (L.take n) idl ∧ Fr (fun k => k = s) u u2 := by
  obtain ⟨p1, p2⟩ := setF h.blk (o := 2) (by simp) (.slice X n xc)
  refine ⟨p1, fun u2 hu => ?_⟩
  obtain ⟨b2, f2⟩ := p2 u2 hu
  have ln : (L.take n).length = n := by rw [List.length_take]; omega
  have sub : ∀ x ∈ L.take n, x ∈ L := fun x hx => (List.take_sublist n L).subset hx
  refine ⟨⟨h.ar.frame f2 fun k _ e hr => h.sR (by have e : k = s := e; exact e ▸ hr), h.inv, by rw [ln]; simpa using b2, h.rT, h.sT, h.iT, h.xT, fun x hx => h.mT x (sub x hx), fun k hk => Nat.lt_of_lt_of_le (h.tlt k hk) f2.size, h.sR, h.iO, h.xO, fun x hx => h.mO x (sub x hx), h.mD.sublist (List.take_sublist n L), h.ids.fr f2 (fun k hk e => (h.iO k hk).2 e) (fun _ _ _ h => h), (h.marks.take n hn).fr f2 (fun k hk e => (h.xO k hk).2.1 e) (fun _ _ _ h => h), fun x hx => ?_, by rw [List.map_take, h.ms], by rw [ln]; have := h.cnt; omega⟩, f2⟩
  obtain ⟨g1, g2, g3, g4, g5⟩ := h.good x (sub x hx)
  exact ⟨g1.keep (f2.step (fun k _ e => .inl fun hr => h.sR (by have e : k = s := e; exact e ▸ hr)) (fun _ _ h => h)), g2, g3, g4, g5.fr f2 (fun k hk e => (h.mO x (sub x hx) k hk).2.1 e) (fun _ _ _ h => h)⟩
end
end Go.Proofs.Ythfagbfllheneaa
set_option linter.unusedVariables false
set_option linter.unusedSimpArgs false
namespace Go.Proofs.Ythfagbfllheneaa
open Go Go.Sx T4
def Sto (T : Nat → Prop) (u : World) (s : Nat) (q : Ab) : Prop := ∃ g R M IA ic X xc L, StoA T u s q g R M IA ic X xc L (idsD q.D)
section
variable {T : Nat → Prop} {u : World} {s : Nat} {q : Ab}
theorem Sto.ext (h : Sto T u s q) {u' : World} (e : Ext u u') : Sto T u' s q := by
  obtain ⟨g, R, M, IA, ic, X, xc, L, h⟩ := h; exact ⟨g, R, M, IA, ic, X, xc, L, h.ext e⟩
theorem Sto.frame (h : Sto T u s q) {S : Nat → Prop} {u' : World} (f : Fr S u u') (hS : ∀ k, k < u.heap.size → S k → ¬ T k) : Sto T u' s q := by
  obtain ⟨g, R, M, IA, ic, X, xc, L, h⟩ := h; exact ⟨g, R, M, IA, ic, X, xc, L, h.frame f hS⟩
theorem Sto.inv (h : Sto T u s q) : Inv q.A q.D := by obtain ⟨g, R, M, IA, ic, X, xc, L, h⟩ := h; exact h.inv
theorem Sto.lt (h : Sto T u s q) : ∀ k, T k → k < u.heap.size := by obtain ⟨g, R, M, IA, ic, X, xc, L, h⟩ := h; exact h.tlt
theorem Sto.cnt (h : Sto T u s q) : q.ms.length ≤ 100 := by obtain ⟨g, R, M, IA, ic, X, xc, L, h⟩ := h; rw [← h.ms, List.length_map]; exact h.cnt
theorem Sto.good (h : Sto T u s q) : ∀ p ∈ q.ms, Inv p.1 p.2 ∧ p.1.fan = q.A.fan ∧ p.1.most = q.A.most := by
  obtain ⟨g, R, M, IA, ic, X, xc, L, h⟩ := h
  intro p hp
  rw [← h.ms] at hp
  obtain ⟨x, hx, rfl⟩ := List.mem_map.1 hp
  obtain ⟨_, g2, g3, g4, _⟩ := h.good x hx
  exact ⟨g2, g3, g4⟩
theorem Sto.other (h : Sto T u s q) {T1 T1' : Nat → Prop} {u' : World} (c : Tch T1 u T1' u') (hd : ∀ k, T k → ¬ T1 k) : Sto T u' s q ∧ ∀ k, T k → ¬ T1' k :=
  ⟨h.frame c.fr fun k _ h1 ht => hd k ht h1, fun k hk h1 => (c.sub k h1).elim (hd k hk) fun h2 => by have := h.lt k hk; omega⟩
section
variable {g : Nat} {R M : Nat → Prop} {IA : Option Addr} {ic : Nat} {X : Option Addr} {xc : Nat} {L : List Mk} {idl : List Int}
theorem of_spec (h : StoA T u s q g R M IA ic X xc L idl) : CallsV Try.prog 76 #[.pointer (some ⟨s, 0, none⟩)] u fun r w' => r = .pointer (some ⟨g, 0, none⟩) ∧ w' = u := by
  refine undo_Store_of.calls okay ?_
  unfold undo_Store_of.W
  exact br (fun h => by cases h) fun _ => ⟨_, rfl, _, h.blk.cell rfl, rfl, rfl⟩
theorem smade_spec (h : StoA T u s q g R M IA ic X xc L idl) : CallsV Try.prog 70 #[.pointer (some ⟨s, 0, none⟩)] u fun r w' => r = .bool true ∧ w' = u := by
  refine undo_Store_made.calls okay ?_
  unfold undo_Store_made.W
  exact brnb (fun _ => ⟨_, rfl, _, h.blk.cell rfl, rfl, rfl⟩) fun h => by cases h
theorem sis_spec (h : StoA T u s q g R M IA ic X xc L idl) (n : Int) : CallsV Try.prog 73 #[.pointer (some ⟨s, 0, none⟩), .int .i64 n] u fun r w' => r = .int .i64 (if n < 1 ∨ (L.length : Int) < n then 60 else 0) ∧ w' = u := by
  refine undo_Store_is.calls okay ?_
  unfold undo_Store_is.W
  refine (smade_spec h).same ⟨_, rfl, brnb (fun h => by cases h) fun _ => brd (fun h1 => ?_) fun h1 => ⟨_, rfl, _, _, _, h.blk.cell rfl, brd (fun h2 => ?_) fun h2 => ?_⟩⟩
  · rw [if_pos (.inl h1)]; exact ⟨rfl, rfl⟩
  · rw [if_pos (.inr h2)]; exact ⟨rfl, rfl⟩
  · rw [if_neg (by omega)]; exact ⟨rfl, rfl⟩
end
/-! ## what it tells -/
theorem sAfter (h : Sto T u s q) (id : Int) {key : Key} {Ω : Nat → Prop} {KA : Option Addr} (hKA : Imm KB Ω u KA key) (kc : Nat) (at_ : Bool) :
    CallsV Try.prog 50 #[.pointer (some ⟨s, 0, none⟩), .int .i64 id, .slice KA key.length kc, .bool at_] u fun r w' => Told u ((gF (foD q.D) id).bind (aftE key at_)) r w' ∧ Ext u w' := by
  obtain ⟨g, R, M, IA, ic, X, xc, L, h⟩ := h
  refine undo_Store_After.calls okay ?_
  unfold undo_Store_After.W
  refine (of_spec h).same ⟨_, rfl, (uAfter h.ar h.inv id hKA kc at_).mono ?_⟩
  rintro _ w' ⟨ht, e⟩
  obtain ⟨A, n, c, B, m, d, f, rfl⟩ := ht.form
  exact ⟨_, _, _, _, _, _, _, rfl, ht, e⟩
theorem sLast (h : Sto T u s q) (id : Int) :
    CallsV Try.prog 52 #[.pointer (some ⟨s, 0, none⟩), .int .i64 id] u fun r w' => Told u ((gF (foD q.D) id).bind fun es => es.getLast?) r w' ∧ Ext u w' := by
  obtain ⟨g, R, M, IA, ic, X, xc, L, h⟩ := h
  refine undo_Store_Last.calls okay ?_
  unfold undo_Store_Last.W
  refine (of_spec h).same ⟨_, rfl, (uLast h.ar h.inv id).mono ?_⟩
  rintro _ w' ⟨ht, e⟩
  obtain ⟨A, n, c, B, m, d, f, rfl⟩ := ht.form
  exact ⟨_, _, _, _, _, _, _, rfl, ht, e⟩
def GetR (u w' : World) (x : Option Key) (r : Value) : Prop := match x with
  | none => r = .tuple #[.slice none 0 0, .bool false]
  | some v => ∃ B d, r = .tuple #[.slice B v.length d, .bool true] ∧ OwnB w' B d v ∧ New u B ∧ v.length ≤ 1048576
theorem sGet (h : Sto T u s q) (id : Int) {key : Key} {Ω : Nat → Prop} {KA : Option Addr} (hKA : Imm KB Ω u KA key) (kc : Nat) :
    CallsV Try.prog 49 #[.pointer (some ⟨s, 0, none⟩), .int .i64 id, .slice KA key.length kc] u fun r w' => Ext u w' ∧ GetR u w' ((gF (foD q.D) id).bind (getE key)) r := by
  obtain ⟨g, R, M, IA, ic, X, xc, L, h⟩ := h
  refine undo_Store_Get.calls okay ?_
  unfold undo_Store_Get.W
  refine (of_spec h).same ⟨_, rfl, (uGet h.ar h.inv id hKA kc).mono ?_⟩
  rintro r w' ⟨e, ht⟩
  generalize (gF (foD q.D) id).bind (getE key) = x at ht
  cases x with
  | none => cases ht; exact ⟨_, _, _, _, rfl, e, rfl⟩
  | some v => obtain ⟨B, d, rfl, h2⟩ := ht; exact ⟨_, _, _, _, rfl, e, B, d, rfl, h2⟩
theorem sLen (h : Sto T u s q) (id : Int) : CallsV Try.prog 34 #[.pointer (some ⟨s, 0, none⟩), .int .i64 id] u fun r w' => r = iv (lenO (gF (foD q.D) id)) ∧ Ext u w' := by
  obtain ⟨g, R, M, IA, ic, X, xc, L, h⟩ := h
  refine undo_Store_Len.calls okay ?_
  unfold undo_Store_Len.W
  refine (of_spec h).same ⟨_, rfl, (uLen h.ar h.inv id).mono ?_⟩
  rintro _ w' ⟨rfl, e⟩
  exact ⟨_, rfl, rfl, e⟩
theorem sNodes (h : Sto T u s q) : CallsV Try.prog 39 #[.pointer (some ⟨s, 0, none⟩)] u fun r w' => r = iv q.A.nodes ∧ Ext u w' := by
  obtain ⟨g, R, M, IA, ic, X, xc, L, h⟩ := h
  refine undo_Store_Nodes.calls okay ?_
  unfold undo_Store_Nodes.W
  refine (of_spec h).same ⟨_, rfl, (dNodes h.inv h.ar).mono ?_⟩
  rintro _ w' ⟨rfl, rfl⟩
  exact ⟨_, rfl, rfl, Fr.drew NoB u⟩
theorem sCheck (h : Sto T u s q) : CallsV Try.prog 35 #[.pointer (some ⟨s, 0, none⟩)] u fun r w' => r = .int .i64 0 ∧ Ext u w' := by
  obtain ⟨g, R, M, IA, ic, X, xc, L, h⟩ := h
  refine undo_Store_Check.calls okay ?_
  unfold undo_Store_Check.W
  refine (of_spec h).same ⟨_, rfl, (dCheck h.inv h.ar).mono ?_⟩
  rintro _ w' ⟨rfl, e⟩
  exact ⟨_, rfl, rfl, e⟩
theorem sMarks (h : Sto T u s q) : CallsV Try.prog 24 #[.pointer (some ⟨s, 0, none⟩)] u fun r w' => r = iv q.ms.length ∧ w' = u := by
  obtain ⟨g, R, M, IA, ic, X, xc, L, h⟩ := h
  refine undo_Store_Marks.calls okay ?_
  unfold undo_Store_Marks.W
  have : q.ms.length = L.length := by rw [← h.ms, List.length_map]
  exact br (fun h => by cases h) fun _ => ⟨_, rfl, _, _, _, h.blk.cell rfl, by rw [this], rfl⟩
theorem sTrees (h : Sto T u s q) : CallsV Try.prog 33 #[.pointer (some ⟨s, 0, none⟩)] u fun r w' => ∃ A c, r = .slice A (idsD q.D).length c ∧ OwnK KI w' A c (idsD q.D) ∧ Ext u w' ∧ New u A := by
  obtain ⟨g, R, M, IA, ic, X, xc, L, h⟩ := h
  refine undo_Store_Trees.calls okay ?_
  unfold undo_Store_Trees.W
  refine br (fun h => by cases h) fun _ => ⟨_, rfl, _, _, _, h.blk.cell rfl, (CloneI_spec oneI (h.ids.imm KI_pos) (by rw [idsD_len]; have := h.inv.cnt; omega)).mono ?_⟩
  rintro _ w' ⟨A', c', rfl, ho, e, n, _⟩
  exact ⟨_, _, _, rfl, A', c', rfl, ho, e, n⟩
end
/-! ## what changes it -/
section
variable {A : Ar} {D : List Tr}
structure PutRel (A : Ar) (D : List Tr) (id : Int) (key val : Key) (A' : Ar) (D' : List Tr) (was : Bool) (e : Int) : Prop where
  inv : Inv A' D'
  same : Same A A'
  ids : idsD D' = idsD D
  rel : (gF (foD D) id = none ∧ A' = A ∧ D' = D ∧ was = false ∧ e = 41) ∨ ∃ D1 d D2 d' full, D = D1 ++ d :: D2 ∧ d.r = id ∧ D' = D1 ++ d' :: D2 ∧ d'.r = d.r ∧ was = (!full && inE key d.es) ∧ e = (if full then 5 else 0) ∧ (full = true → A' = A ∧ d' = d ∧ inE key d.es = false ∧ A.most < A.nodes + d.h + 1) ∧ (full = false → d'.es = insE key val d.es)
theorem aPut (hI : Inv A D) (id : Int) {key val : Key} (hk : key.length ≤ 1048576) (hv : val.length ≤ 1048576) : ∃ A' D' was e, PutRel A D id key val A' D' was e ∧
    ∀ {T : Nat → Prop} {u : World} {s : Nat} {ms : List (Ar × List Tr)}, Sto T u s ⟨A, D, ms⟩ → ∀ {Ω1 Ω2 : Nat → Prop} {KA VA : Option Addr}, Imm KB Ω1 u KA key → Imm KB Ω2 u VA val → ∀ kc vc : Nat,
      CallsV Try.prog 29 #[.pointer (some ⟨s, 0, none⟩), .int .i64 id, .slice KA key.length kc, .slice VA val.length vc] u fun r u' => r = .tuple #[.bool was, .int .i64 e] ∧ ∃ T', Sto T' u' s ⟨A', D', ms⟩ ∧ Tch T u T' u' := by
  rcases find_split (Ds := D) (r := id) with ⟨h1, h2⟩ | ⟨D1, d, D2, rfl, rfl, h3⟩
  · refine ⟨A, D, false, 41, ⟨hI, .refl A, rfl, .inl ⟨h1, rfl, rfl, rfl, rfl⟩⟩, ?_⟩
    rintro T u s ms ⟨g, R, M, IA, ic, X, xc, L, h⟩ Ω1 Ω2 KA VA iK iV kc vc
    refine undo_Store_Put.calls okay ?_
    unfold undo_Store_Put.W
    refine (of_spec h).same ⟨_, rfl, (Put_none h.ar (by have := hI.f1; show 0 < A.fan; omega) (hI.miss h2) KA VA key.length kc val.length vc).same ⟨_, _, rfl, rfl, T, ⟨g, R, M, IA, ic, X, xc, L, h⟩, .refl _ _⟩⟩
  · obtain ⟨A', d', full, hr', hI', hs', hfu, hno, hP⟩ := dPut hI hk hv
    have hids : idsD (D1 ++ d' :: D2) = idsD (D1 ++ d :: D2) := by simp [idsD, hr']
    refine ⟨A', D1 ++ d' :: D2, _, _, ⟨hI', hs', hids, .inr ⟨D1, d, D2, d', full, rfl, rfl, rfl, hr', rfl, rfl, hfu, hno⟩⟩, ?_⟩
    rintro T u s ms ⟨g, R, M, IA, ic, X, xc, L, h⟩ Ω1 Ω2 KA VA iK iV kc vc
    refine undo_Store_Put.calls okay ?_
    unfold undo_Store_Put.W
    refine (of_spec h).same ⟨_, rfl, (hP h.ar iK iV kc vc).mono ?_⟩
    rintro _ u' ⟨rfl, R', M', h', c⟩
    obtain ⟨T', h2, c2⟩ := h.chg h' c hI' hs'.fan hs'.most
    exact ⟨_, _, rfl, rfl, T', ⟨g, R', M', IA, ic, X, xc, L, by rw [hids]; exact h2⟩, c2⟩
structure DelRel (A : Ar) (D : List Tr) (id : Int) (key : Key) (A' : Ar) (D' : List Tr) (was : Bool) (e : Int) : Prop where
  inv : Inv A' D'
  same : Same A A'
  ids : idsD D' = idsD D
  rel : (gF (foD D) id = none ∧ A' = A ∧ D' = D ∧ was = false ∧ e = 41) ∨ ∃ D1 d D2 d', D = D1 ++ d :: D2 ∧ d.r = id ∧ D' = D1 ++ d' :: D2 ∧ d'.r = d.r ∧ was = inE key d.es ∧ e = 0 ∧ d'.es = delE key d.es
theorem aDel (hI : Inv A D) (id : Int) (key : Key) : ∃ A' D' was e, DelRel A D id key A' D' was e ∧
    ∀ {T : Nat → Prop} {u : World} {s : Nat} {ms : List (Ar × List Tr)}, Sto T u s ⟨A, D, ms⟩ → ∀ {Ω1 : Nat → Prop} {KA : Option Addr}, Imm KB Ω1 u KA key → ∀ kc : Nat,
      CallsV Try.prog 40 #[.pointer (some ⟨s, 0, none⟩), .int .i64 id, .slice KA key.length kc] u fun r u' => r = .tuple #[.bool was, .int .i64 e] ∧ ∃ T', Sto T' u' s ⟨A', D', ms⟩ ∧ Tch T u T' u' := by
  rcases find_split (Ds := D) (r := id) with ⟨h1, h2⟩ | ⟨D1, d, D2, rfl, rfl, h3⟩
  · refine ⟨A, D, false, 41, ⟨hI, .refl A, rfl, .inl ⟨h1, rfl, rfl, rfl, rfl⟩⟩, ?_⟩
    rintro T u s ms ⟨g, R, M, IA, ic, X, xc, L, h⟩ Ω1 KA iK kc
    refine undo_Store_Delete.calls okay ?_
    unfold undo_Store_Delete.W
    refine (of_spec h).same ⟨_, rfl, (Delete_none h.ar (by have := hI.f1; show 0 < A.fan; omega) (hI.miss h2) KA key.length kc).same ⟨_, _, rfl, rfl, T, ⟨g, R, M, IA, ic, X, xc, L, h⟩, .refl _ _⟩⟩
  · obtain ⟨A', d', hr', hI', hs', he, hP⟩ := dDel hI key
    have hids : idsD (D1 ++ d' :: D2) = idsD (D1 ++ d :: D2) := by simp [idsD, hr']
    refine ⟨A', D1 ++ d' :: D2, _, _, ⟨hI', hs', hids, .inr ⟨D1, d, D2, d', rfl, rfl, rfl, hr', rfl, rfl, he⟩⟩, ?_⟩
    rintro T u s ms ⟨g, R, M, IA, ic, X, xc, L, h⟩ Ω1 KA iK kc
    refine undo_Store_Delete.calls okay ?_
    unfold undo_Store_Delete.W
    refine (of_spec h).same ⟨_, rfl, (hP h.ar iK kc).mono ?_⟩
    rintro _ u' ⟨rfl, R', M', h', c⟩
    obtain ⟨T', h2, c2⟩ := h.chg h' c hI' hs'.fan hs'.most
    exact ⟨_, _, rfl, rfl, T', ⟨g, R', M', IA, ic, X, xc, L, by rw [hids]; exact h2⟩, c2⟩
structure CreRel (A : Ar) (D : List Tr) (A' : Ar) (D' : List Tr) (n e : Int) : Prop where
  inv : Inv A' D'
  fan : A'.fan = A.fan
  most : A'.most = A.most
  rel : (A.nodes < A.most ∧ D.length < 1000 ∧ A'.last = A.last + 1 ∧ n = ((A.last + 1 : Nat) : Int) ∧ e = 0 ∧ ∃ i, D' = D ++ [⟨((A.last + 1 : Nat) : Int), i, 1, [], [i]⟩]) ∨ ((A.most ≤ A.nodes ∨ 1000 ≤ D.length) ∧ A' = A ∧ D' = D ∧ n = 0 ∧ e = 5)
theorem aCreate (hI : Inv A D) (hl : A.last < 1000000) : ∃ A' D' n e, CreRel A D A' D' n e ∧
    ∀ {T : Nat → Prop} {u : World} {s : Nat} {ms : List (Ar × List Tr)}, Sto T u s ⟨A, D, ms⟩ →
      CallsV Try.prog 26 #[.pointer (some ⟨s, 0, none⟩)] u fun r u' => r = .tuple #[.int .i64 n, .int .i64 e] ∧ ∃ T', Sto T' u' s ⟨A', D', ms⟩ ∧ Tch T u T' u' := by
  by_cases hroom : A.nodes < A.most ∧ D.length < 1000
  · obtain ⟨A', i, hI', hf', hm', hl', hC⟩ := dCreate hI hroom.1 hroom.2 hl
    refine ⟨A', _, _, _, ⟨hI', hf', hm', .inl ⟨hroom.1, hroom.2, hl', rfl, rfl, i, rfl⟩⟩, ?_⟩
    rintro T u s ms ⟨g, R, M, IA, ic, X, xc, L, h⟩
    refine undo_Store_Create.calls okay ?_
    unfold undo_Store_Create.W
    refine (of_spec h).same ⟨_, rfl, (hC h.ar).mono ?_⟩
    rintro _ u1 ⟨rfl, R', M', h', c⟩
    obtain ⟨T1, h1, c1⟩ := h.chg h' c hI' hf' hm'
    refine ⟨_, _, rfl, brd (fun _ => ⟨_, rfl, _, _, _, h1.blk.cell rfl, ?_⟩) fun h => absurd rfl h⟩
    rintro g2 u2 ⟨rfl, rfl⟩
    have hlen : (idsD D).length ≤ 1000 := by rw [idsD_len]; exact hI.cnt
    obtain ⟨A3, c3, u3, hr3, ho3, gr3⟩ := h1.ids.push (K := KI) slI (ty := 37) (a := ((A.last + 1 : Nat) : Int)) (cs := [.int .i64 ((A.last + 1 : Nat) : Int)]) rfl (fun v hv => by simp at hv; subst hv; rfl) (e' := 3) (by show (idsD D).length + 1 ≤ maxLen; simp only [maxLen]; omega) (by show ((idsD D).length + 1) * 8 ≤ 140737488355328; omega)
    obtain ⟨p1, p2⟩ := h1.setIds ho3 gr3
    refine ⟨_, _, _, u3, hr3, _, rfl, p1, fun u4 hu4 => ?_⟩
    obtain ⟨T4, h4, c4⟩ := p2 u4 hu4
    refine ⟨rfl, T4, ⟨g, R', M', A3, c3, X, xc, L, ?_⟩, c1.trans c4⟩
    have : idsD D ++ [((A.last + 1 : Nat) : Int)] = idsD (D ++ [⟨((A.last + 1 : Nat) : Int), i, 1, [], [i]⟩]) := by simp [idsD]
    rw [this] at h4
    exact h4
  · refine ⟨A, D, 0, 5, ⟨hI, rfl, rfl, .inr ⟨by omega, rfl, rfl, rfl, rfl⟩⟩, ?_⟩
    rintro T u s ms ⟨g, R, M, IA, ic, X, xc, L, h⟩
    refine undo_Store_Create.calls okay ?_
    unfold undo_Store_Create.W
    refine (of_spec h).same ⟨_, rfl, (dFull hI (by omega) hl h.ar).mono ?_⟩
    rintro _ u1 ⟨rfl, e1⟩
    exact ⟨_, _, rfl, brd (fun h => by cases h) fun _ => ⟨rfl, T, ⟨g, R, M, IA, ic, X, xc, L, h.ext e1⟩, .ext e1⟩⟩
structure DropRel (A : Ar) (D : List Tr) (id : Int) (A' : Ar) (D' : List Tr) (e : Int) : Prop where
  inv : Inv A' D'
  same : Same A A'
  rel : (gF (foD D) id = none ∧ A' = A ∧ D' = D ∧ e = 41) ∨ ∃ D1 d D2, D = D1 ++ d :: D2 ∧ d.r = id ∧ D' = D1 ++ D2 ∧ e = 0
theorem ids_drop {D1 D2 : List Tr} {d : Tr} (h : ((D1 ++ d :: D2).map fun d => d.r).Nodup) : (idsD (D1 ++ d :: D2)).filter (fun x => !decide (x = d.r)) = idsD (D1 ++ D2) := by
  have hn := nd_mid h
  unfold idsD
  rw [List.map_append, List.filter_append, List.map_cons, List.filter_cons_of_neg (by simp), List.map_append, filter_all, filter_all]
  · intro x hx
    obtain ⟨y, hy, rfl⟩ := List.mem_map.1 hx
    exact hn y (List.mem_append_right _ hy)
  · intro x hx
    obtain ⟨y, hy, rfl⟩ := List.mem_map.1 hx
    exact hn y (List.mem_append_left _ hy)
theorem aDrop (hI : Inv A D) (id : Int) : ∃ A' D' e, DropRel A D id A' D' e ∧
    ∀ {T : Nat → Prop} {u : World} {s : Nat} {ms : List (Ar × List Tr)}, Sto T u s ⟨A, D, ms⟩ →
      CallsV Try.prog 31 #[.pointer (some ⟨s, 0, none⟩), .int .i64 id] u fun r u' => r = .int .i64 e ∧ ∃ T', Sto T' u' s ⟨A', D', ms⟩ ∧ Tch T u T' u' := by
  rcases find_split (Ds := D) (r := id) with ⟨h1, h2⟩ | ⟨D1, d, D2, rfl, rfl, h3⟩
  · refine ⟨A, D, 41, ⟨hI, .refl A, .inl ⟨h1, rfl, rfl, rfl⟩⟩, ?_⟩
    rintro T u s ms ⟨g, R, M, IA, ic, X, xc, L, h⟩
    refine undo_Store_Drop.calls okay ?_
    unfold undo_Store_Drop.W
    intro gi u1 f1
    have ed : Ext u1 u1.drew := Fr.drew NoB u1
    have e2 : Ext u u1.drew := f1.ext.drew
    refine ⟨fun x v => x = 41 ∧ v = u1.drew, ?_, fun v => Ext u1 v, ed, _, fun v e => (f1.blk.ext e).cell0 rfl, (of_spec (h.ext e2)).same ⟨_, rfl, ed, (Drop_none (h.ext e2).ar (by have := hI.f1; show 0 < A.fan; omega) (hI.miss h2)).same ⟨_, rfl, rfl, rfl⟩⟩⟩
    rintro _ _ ⟨rfl, rfl⟩
    exact brd (fun h => by cases h) fun _ => ⟨rfl, T, ⟨g, R, M, IA, ic, X, xc, L, h.ext e2⟩, .ext e2⟩
  · obtain ⟨A', hI', hs', _, hP⟩ := dDrop hI
    refine ⟨A', D1 ++ D2, 0, ⟨hI', hs', .inr ⟨D1, d, D2, rfl, rfl, rfl, rfl⟩⟩, ?_⟩
    rintro T u s ms ⟨g, R, M, IA, ic, X, xc, L, h⟩
    refine undo_Store_Drop.calls okay ?_
    unfold undo_Store_Drop.W
    intro gi u1 f1
    have ed : Ext u1 u1.drew := Fr.drew NoB u1
    have e2 : Ext u u1.drew := f1.ext.drew
    have h2 := h.ext e2
    have hgi : ¬ T gi := fun ht => by have := h.tlt gi ht; have := f1.ge; omega
    refine ⟨fun x v => x = 0 ∧ ∃ R' M' T', StoA T' v s ⟨A', D1 ++ D2, ms⟩ g R' M' IA ic X xc L (idsD (D1 ++ d :: D2)) ∧ Tch T u1.drew T' v, ?_, fun v => Ext u1 v, ed, _, fun v e => (f1.blk.ext e).cell0 rfl, (of_spec h2).same ⟨_, rfl, ed, (hP h2.ar).mono ?_⟩⟩
    · rintro _ v ⟨rfl, R', M', T', h3, c3⟩
      obtain ⟨bg, hgi'⟩ := c3.blk (f1.blk.ext ed) hgi
      have hlen : (idsD (D1 ++ d :: D2)).length ≤ 1000 := by rw [idsD_len]; exact hI.cnt
      refine brd (fun _ => ⟨_, rfl, _, _, _, h3.blk.cell rfl, (CloneI_spec oneI (h3.ids.imm KI_pos) (by omega)).mono ?_⟩) fun h => absurd rfl h
      rintro _ v2 ⟨A4, c4, rfl, ho4, e4, n4, _⟩
      have ho4 : OwnK KI v2 A4 c4 (idsD (D1 ++ d :: D2)) := ho4
      refine ⟨_, _, _, rfl, (DeleteFunc_spec ho4 (by omega) (bg.ext e4) (fun hk => by have := n4 _ hk; have := bg.lt; omega)).mono ?_⟩
      rintro _ v3 ⟨rfl, ho5, f5⟩
      rw [ids_drop hI.nd] at ho5 ⊢
      have e5 : Ext v v3 := e4.trans f5 (fun _ _ h => h) (fun k hk ho => by have := n4 k ho; omega)
      obtain ⟨p1, p2⟩ := h3.setIds ho5 ⟨e5.fr, fun k hk => .inr (n4 k hk)⟩
      refine ⟨_, _, _, rfl, _, rfl, p1, fun v4 hv4 => ?_⟩
      obtain ⟨T4, h4, c4⟩ := p2 v4 hv4
      exact ⟨rfl, T4, ⟨g, R', M', A4, _, X, xc, L, h4⟩, (Tch.ext e2).trans (c3.trans c4)⟩
    · rintro _ v ⟨rfl, R', M', h', c⟩
      obtain ⟨T', h3, c3⟩ := h2.chg h' c hI' hs'.fan hs'.most
      exact ⟨_, rfl, rfl, R', M', T', h3, c3⟩
end
end Go.Proofs.Ythfagbfllheneaa
set_option linter.unusedVariables false
set_option linter.unusedSimpArgs false
namespace Go.Proofs.Ythfagbfllheneaa
open Go Go.Sx T4
section
variable {T : Nat → Prop} {u : World} {s : Nat} {q : Ab}
theorem StoA.setMarks {g : Nat} {R M : Nat → Prop} {IA : Option Addr} {ic : Nat} {X : Option Addr} {xc : Nat} {L : List Mk} {idl : List Int} (h : StoA T u s q g R M IA ic X xc L idl) {a : Mk} (g1 : Sv1 (Om R M) u a.sb g a.A) (g2 : Inv a.A a.D) (g3 : a.A.fan = q.A.fan) (g4 : a.A.most = q.A.most) (g5 : OwnK KI u a.MA a.mc (idsD a.D)) (hnew : ∀ k, ownB a.MA k → ¬ T k) (hl : L.length < 100) {u' : World} {X' : Option Addr} {xc' : Nat} (ho : OwnK KMk u' X' xc' (L ++ [a])) (gr : Grew X X' u u') :
    stOK ((⟨s, 0, none⟩ : Addr).add 2) 0 [.slice X' (L ++ [a]).length xc'] u' ∧ ∀ u2, u2 = setAll ((⟨s, 0, none⟩ : Addr).add 2) 0 [.slice X' (L ++ [a]).length xc'] u' →
      StoA (fun k => T k ∨ ownB X' k ∨ ownB a.MA k) u2 s ⟨q.A, q.D, q.ms ++ [(a.A, a.D)]⟩ g R M IA ic X' xc' (L ++ [a]) idl ∧ Fr T u u2 ∧ ∀ k, ownB X' k → T k ∨ u.heap.size ≤ k := by
  have bs := h.blk.keep gr.fr (fun hk => (h.xO _ hk).2.1 rfl)
  obtain ⟨p1, p2⟩ := setF bs (o := 2) (by simp) (.slice X' (L ++ [a]).length xc')
  refine ⟨p1, fun u2 hu => ?_⟩
  obtain ⟨b2, f2⟩ := p2 u2 hu
  have hsz := gr.fr.size
  have hsz2 := f2.size
  have f : Fr (fun k => ownB X k ∨ k = s) u u2 := (gr.fr.mono fun _ _ h => .inl h).trans f2 (fun _ _ h => h) (fun _ _ h => .inr h)
  have isT : ∀ k, ownB X k ∨ k = s → T k := fun k hk => hk.elim (h.xT k) fun e => e ▸ h.sT
  have notR : ∀ k, ownB X k ∨ k = s → ¬ R k := fun k hk => hk.elim (fun hk => (h.xO k hk).1) fun e => e ▸ h.sR
  have new : ∀ k, ownB X' k → ownB X k ∨ u.heap.size ≤ k := gr.sub
  have hsl := h.blk.lt
  have ma : ∀ k, ownB a.MA k → k < u.heap.size := g5.lt
  refine ⟨⟨h.ar.frame f fun k _ hk => notR k hk, h.inv, by simpa using b2, fun k hk => .inl (h.rT k hk), .inl h.sT, fun k hk => .inl (h.iT k hk), fun k hk => .inr (.inl hk), fun x hx k hk => ?_, fun k hk => ?_, h.sR, h.iO, fun k hk => ?_, fun x hx k hk => ?_, ?_, h.ids.fr f (fun k hk hk' => hk'.elim (fun hx => (h.xO k hx).2.2 hk) fun e => (h.iO k hk).2 e) (fun _ _ _ h => h), ho.fr f2 (fun k hk e => ?_) (fun _ _ _ h => h), fun x hx => ?_, by rw [List.map_append, h.ms]; rfl, by simp; omega⟩, f.mono fun k _ hk => isT k hk, fun k hk => (new k hk).imp (h.xT k) id⟩
  · rcases List.mem_append.1 hx with hx | hx
    · exact .inl (h.mT x hx k hk)
    · obtain rfl := List.mem_singleton.1 hx; exact .inr (.inr hk)
  · rcases hk with hk | hk | hk
    · have := h.tlt k hk; omega
    · have := ho.lt k hk; omega
    · have := ma k hk; omega
  · rcases new k hk with hk | hk
    · exact h.xO k hk
    · exact ⟨fun hr => by have := h.tlt k (h.rT k hr); omega, by omega, fun hi => by have := h.ids.lt k hi; omega⟩
  · rcases List.mem_append.1 hx with hx | hx
    · obtain ⟨m1, m2, m3, m4⟩ := h.mO x hx k hk
      refine ⟨m1, m2, m3, fun hX => ?_⟩
      rcases new k hX with hX | hX
      · exact m4 hX
      · have := h.tlt k (h.mT x hx k hk); omega
    · obtain rfl := List.mem_singleton.1 hx
      have hT := hnew k hk
      refine ⟨fun hr => hT (h.rT k hr), fun e => hT (e ▸ h.sT), fun hi => hT (h.iT k hi), fun hX => ?_⟩
      rcases new k hX with hX | hX
      · exact hT (h.xT k hX)
      · have := ma k hk; omega
  · refine List.pairwise_append.2 ⟨h.mD, List.pairwise_singleton _ _, fun x hx y hy k hk hk' => ?_⟩
    obtain rfl := List.mem_singleton.1 hy
    exact hnew k hk' (h.mT x hx k hk)
  · have e : k = s := e
    rcases new k hk with hk | hk
    · exact (h.xO k hk).2.1 e
    · omega
  · have st : Step (Om R M) u (Om R M) u2 := f.step (fun k _ hk => .inl (notR k hk)) (fun _ _ h => h)
    rcases List.mem_append.1 hx with hx | hx
    · obtain ⟨g1, g2, g3, g4, g5⟩ := h.good x hx
      exact ⟨g1.keep st, g2, g3, g4, g5.fr f (fun k hk hk' => hk'.elim (h.mO x hx k hk).2.2.2 fun e => (h.mO x hx k hk).2.1 e) (fun _ _ _ h => h)⟩
    · obtain rfl := List.mem_singleton.1 hx
      exact ⟨g1.keep st, g2, g3, g4, g5.fr f (fun k hk hk' => hnew k hk (isT k hk')) (fun _ _ _ h => h)⟩
theorem aMark (h : Sto T u s q) : CallsV Try.prog 18 #[.pointer (some ⟨s, 0, none⟩)] u fun r u' => (100 ≤ q.ms.length ∧ r = .tuple #[.int .i64 0, .int .i64 5] ∧ Ext u u') ∨ (q.ms.length < 100 ∧ r = .tuple #[iv (q.ms.length + 1), .int .i64 0] ∧ ∃ T', Sto T' u' s ⟨q.A, q.D, q.ms ++ [(q.A, q.D)]⟩ ∧ Tch T u T' u') := by
  obtain ⟨g, R, M, IA, ic, X, xc, L, h⟩ := h
  have hml : q.ms.length = L.length := by rw [← h.ms, List.length_map]
  refine undo_Store_Mark.calls okay ?_
  unfold undo_Store_Mark.W
  refine (smade_spec h).same ⟨_, rfl, brnb (fun h => by cases h) fun _ => ⟨_, rfl, _, _, _, h.blk.cell rfl, brd (fun hge => .inl ⟨by omega, rfl, .refl _ _⟩) fun hlt => ?_⟩⟩
  refine ⟨fun v => ∃ T' R' M' X' xc' a, StoA T' v s ⟨q.A, q.D, q.ms ++ [(q.A, q.D)]⟩ g R' M' IA ic X' xc' (L ++ [a]) (idsD q.D) ∧ Tch T u T' v, ?_, ?_⟩
  · rintro v ⟨T', R', M', X', xc', a, h', c⟩
    refine ⟨_, rfl, _, _, _, h'.blk.cell rfl, .inr ⟨by omega, ?_, T', ⟨g, R', M', IA, ic, X', xc', _, h'⟩, c⟩⟩
    rw [hml]; simp
  · have ed : Ext u u.drew := Fr.drew NoB u
    have h1 := h.ext ed
    refine ⟨_, rfl, fun v => Blk v s [.pointer (some ⟨g, 0, none⟩), .slice IA (idsD q.D).length ic, .slice X L.length xc], h1.blk, _, _, _, fun v hv => hv.cell rfl, _, rfl, _, fun v hv => hv.cell rfl, _, rfl, _, _, _, fun v hv => hv.cell rfl, (dSave h1.inv h1.ar).mono ?_⟩
    rintro _ u2 ⟨sb, R2, rfl, ha2, c2, e2, hS2⟩
    obtain ⟨T2, h2, t2⟩ := h1.chg ha2 c2 h1.inv rfl rfl
    refine ⟨_, rfl, h2.blk, (CloneI_spec oneI (h2.ids.imm KI_pos) (by rw [idsD_len]; have := h2.inv.cnt; show q.D.length ≤ _; have h9 : q.D.length ≤ 1000 := h2.inv.cnt; omega)).mono ?_⟩
    rintro _ u3 ⟨A3, c3, rfl, ho3, e3, n3, _⟩
    have ho3 : OwnK KI u3 A3 c3 (idsD q.D) := ho3
    have h3 := h2.ext e3
    refine ⟨_, _, _, rfl, h3.blk, ?_⟩
    rintro g4 u4 ⟨rfl, rfl⟩
    obtain ⟨X', xc', u5, hr5, ho5, gr5⟩ := h3.marks.push (K := KMk) slM (ty := 79) (a := ⟨sb, A3, c3, q.A, q.D⟩) (cs := mkC ⟨sb, A3, c3, q.A, q.D⟩) rfl (fun v hv => by simp [mkC] at hv; rcases hv with rfl | rfl <;> rfl) (e' := 122) (by simp only [maxLen]; omega) (by omega)
    have hnew : ∀ k, ownB A3 k → ¬ T2 k := fun k hk ht => by have := n3 k hk; have := h2.tlt k ht; omega
    obtain ⟨p1, p2⟩ := h3.setMarks (a := ⟨sb, A3, c3, q.A, q.D⟩) (hS2.keep (Ext.om e3 R2 M)) h1.inv rfl rfl ho3 hnew (by omega) ho5 gr5
    refine ⟨h3.blk.ext (Fr.alloc NoB u3 _), _, _, _, u5, hr5, _, rfl, p1, fun u6 hu6 => ?_⟩
    obtain ⟨h6, f6, s6⟩ := p2 u6 hu6
    refine ⟨_, R2, M, X', xc', _, h6, (Tch.ext ed).trans (t2.trans ⟨(e3.fr : Fr T2 u2 u3).trans f6 (fun _ _ h => h) (fun _ _ h => h), fun k hk => ?_⟩)⟩
    have := e3.size
    rcases hk with hk | hk | hk
    · exact .inl hk
    · exact (s6 k hk).imp id fun h => by omega
    · exact .inr (n3 k hk)
theorem aFree (h : Sto T u s q) (n : Int) : CallsV Try.prog 19 #[.pointer (some ⟨s, 0, none⟩), .int .i64 n] u fun r u' => ((n < 1 ∨ (q.ms.length : Int) < n) ∧ r = .int .i64 60 ∧ u' = u) ∨ (1 ≤ n ∧ n ≤ (q.ms.length : Int) ∧ r = .int .i64 0 ∧ ∃ T', Sto T' u' s ⟨q.A, q.D, q.ms.take (n - 1).toNat⟩ ∧ Tch T u T' u') := by
  obtain ⟨g, R, M, IA, ic, X, xc, L, h⟩ := h
  have hml : q.ms.length = L.length := by rw [← h.ms, List.length_map]
  have hcnt := h.cnt
  refine undo_Store_Free.calls okay ?_
  unfold undo_Store_Free.W
  refine (sis_spec h n).same ⟨_, rfl, ?_⟩
  by_cases hb : n < 1 ∨ (L.length : Int) < n
  · rw [if_pos hb]
    exact brn (fun _ => .inl ⟨by omega, rfl, rfl⟩) fun h => by cases h
  · rw [if_neg hb]
    have hw : IntKind.i64.wrap (n - 1) = (((n - 1).toNat : Nat) : Int) := by rw [wi _ (by omega) (by omega)]; omega
    have hxle : L.length ≤ xc := by obtain ⟨xs, ho, _⟩ := h.marks; exact ho.le
    obtain ⟨p1, p2⟩ := h.setLess (n - 1).toNat (by omega)
    refine brn (fun h => absurd rfl h) fun _ => ⟨_, rfl, _, _, _, h.blk.cell rfl, ?_⟩
    rw [hw, cutAt_zero, Int.toNat_natCast, Nat.sub_zero, Nat.sub_zero]
    refine ⟨⟨by omega, by omega⟩, _, rfl, p1, fun u2 hu2 => ?_⟩
    obtain ⟨h2, f2⟩ := p2 u2 hu2
    exact .inr ⟨by omega, by omega, rfl, T, ⟨g, R, M, IA, ic, X, xc, _, h2⟩, ⟨f2.mono fun k _ e => by have e : k = s := e; rw [e]; exact h.sT, fun k hk => .inl hk⟩⟩
theorem mkCell {Ω : Nat → Prop} {X : Option Addr} {L : List Mk} (h : Imm KMk Ω u X L) {k : Nat} (hk : k < L.length) : ∃ ad, X = some ad ∧ u.cell? ((ad.add (k * 2)).add 0) = some (.pointer (some ⟨L[k].sb, 0, none⟩)) ∧ u.cell? ((ad.add (k * 2)).add 1) = some (.slice L[k].MA (idsD L[k].D).length L[k].mc) := by
  obtain ⟨ad, hA, _, cs, hr, hc⟩ := h k L[k] (List.getElem?_eq_getElem hk)
  have hr : cs = mkC L[k] := hr
  subst hr
  exact ⟨ad, hA, by rw [add_add]; exact hc 0 _ rfl, by rw [add_add]; exact hc 1 _ rfl⟩
set_option maxHeartbeats 400000 in
theorem aBack (h : Sto T u s q) (n : Int) : CallsV Try.prog 25 #[.pointer (some ⟨s, 0, none⟩), .int .i64 n] u fun r u' => ((n < 1 ∨ (q.ms.length : Int) < n) ∧ r = .int .i64 60 ∧ u' = u) ∨ (1 ≤ n ∧ n ≤ (q.ms.length : Int) ∧ r = .int .i64 0 ∧ ∃ B D' T', q.ms[(n - 1).toNat]? = some (B, D') ∧ Sto T' u' s ⟨B, D', q.ms.take (n - 1).toNat⟩ ∧ Tch T u T' u') := by
  obtain ⟨g, R, M, IA, ic, X, xc, L, h⟩ := h
  have hml : q.ms.length = L.length := by rw [← h.ms, List.length_map]
  have hcnt := h.cnt
  refine undo_Store_Back.calls okay ?_
  unfold undo_Store_Back.W
  refine (sis_spec h n).same ⟨_, rfl, ?_⟩
  by_cases hb : n < 1 ∨ (L.length : Int) < n
  · rw [if_pos hb]
    exact brn (fun _ => .inl ⟨by omega, rfl, rfl⟩) fun h => by cases h
  · rw [if_neg hb]
    have hw : IntKind.i64.wrap (n - 1) = (((n - 1).toNat : Nat) : Int) := by rw [wi _ (by omega) (by omega)]; omega
    have hxle : L.length ≤ xc := by obtain ⟨xs, ho, _⟩ := h.marks; exact ho.le
    obtain ⟨k, hk⟩ : ∃ k, (n - 1).toNat = k := ⟨_, rfl⟩
    rw [hk] at hw ⊢
    have hkl : k < L.length := by omega
    obtain ⟨ad, hX, c0, c1⟩ := mkCell (h.marks.imm KMk_pos) hkl
    refine brn (fun h => absurd rfl h) fun _ => ⟨_, rfl, _, _, _, h.blk.cell rfl, ad, hX, ?_⟩
    rw [hw, Int.toNat_natCast]
    refine ⟨⟨by omega, by omega⟩, _, c0, _, _, _, c1, ?_⟩
    have hmem : L[k] ∈ L := List.getElem_mem hkl
    have hqk : q.ms[k]? = some (L[k].A, L[k].D) := by rw [← h.ms, List.getElem?_map, List.getElem?_eq_getElem hkl]; rfl
    have hdis : ∀ x ∈ L.take k, ∀ j, ownB x.MA j → ¬ ownB L[k].MA j := by
      have hp := h.mD
      rw [← List.take_append_drop k L, List.drop_eq_getElem_cons hkl] at hp
      intro x hx j hj
      exact (List.pairwise_append.1 hp).2.2 x hx L[k] (List.mem_cons.2 (.inl rfl)) j hj
    generalize L[k] = x at *
    intro gm u1 f1
    refine ⟨f1.blk.stOK (o := 0) [_, _] 0 (by simp), fun u2 hu2 => ?_⟩
    have bm : Blk u2 gm (mkC x) := by rw [hu2]; exact Blk.setAll (o := 0) (mkC x) 0 f1.blk
    have e2 : Ext u u2 := by rw [hu2]; exact f1.ext.setAll f1.ge _ _
    have ed : Ext u u2.drew := e2.drew
    have hgm : ¬ T gm := fun ht => by have := h.tlt gm ht; have := f1.ge; omega
    have hgs : gm ≠ s := fun e => hgm (e ▸ h.sT)
    have hd := h.ext ed
    have bmd := bm.ext (Fr.drew NoB u2)
    -- the numbers
    obtain ⟨p1, p2⟩ := setF hd.blk (o := 1) (by simp) (.slice x.MA (idsD x.D).length x.mc)
    refine ⟨fun v => ∃ T', StoA T' v s ⟨q.A, q.D, q.ms.take k⟩ g R M x.MA x.mc X xc (L.take k) (idsD x.D) ∧ Sv1 (Om R M) v x.sb g x.A ∧ Tch T u T' v ∧ Blk v gm (mkC x) ∧ ¬ T' gm, ?_, ?_⟩
    · rintro v ⟨T', h', hS', c', bm', hgm'⟩
      obtain ⟨g1, g2, g3, g4, g5⟩ := h.good x hmem
      have edv : Ext v v.drew := Fr.drew NoB v
      have hv := h'.ext edv
      refine ⟨_, rfl, fun z => Ext v z, edv, _, fun z e => (h'.blk.ext e).cell rfl, _, fun z e => (bm'.ext e).cell rfl, (dLoad hv.inv g2 g3 g4 hv.ar (hS'.keep (Ext.om edv R M))).mono ?_⟩
      rintro _ v2 ⟨rfl, R', M', ha, c⟩
      obtain ⟨T2, h2, t2⟩ := hv.chg ha c g2 g3 g4
      exact ⟨_, rfl, .inr ⟨by omega, by omega, rfl, x.A, x.D, T2, hqk, ⟨g, R', M', x.MA, x.mc, X, xc, _, h2⟩, c'.trans ((Tch.ext edv).trans t2)⟩⟩
    · refine ⟨fun v => Blk v gm (mkC x) ∧ Blk v s [.pointer (some ⟨g, 0, none⟩), .slice IA (idsD q.D).length ic, .slice X L.length xc], ⟨bmd, hd.blk⟩, _, _, _, fun v hv => hv.1.cell rfl, _, rfl, _, _, _, fun v hv => hv.2.cell rfl, ⟨by omega, by omega⟩, _, rfl, p1, fun u3 hu3 => ?_⟩
      obtain ⟨b3, f3⟩ := p2 u3 hu3
      obtain ⟨q1, q2⟩ := setF b3 (o := 2) (by simp) (.slice X k xc)
      rw [cutAt_zero, Nat.sub_zero, Nat.sub_zero]
      refine ⟨_, rfl, q1, fun u4 hu4 => ?_⟩
      obtain ⟨b4, f4⟩ := q2 u4 hu4
      have f : Fr (fun j => j = s) u2.drew u4 := f3.trans f4 (fun _ _ h => h) (fun _ _ h => h)
      have ln : (L.take k).length = k := by rw [List.length_take]; omega
      have sub : ∀ y ∈ L.take k, y ∈ L := fun y hy => (List.take_sublist k L).subset hy
      have so : Step (Om R M) u2.drew (Om R M) u4 := f.step (fun j _ e => .inl fun hr => h.sR (by have e : j = s := e; exact e ▸ hr)) (fun _ _ h => h)
      obtain ⟨g1, g2, g3, g4, g5⟩ := hd.good x hmem
      refine ⟨T, ⟨hd.ar.frame f fun j _ e hr => h.sR (by have e : j = s := e; exact e ▸ hr), hd.inv, by rw [ln]; simpa using b4, h.rT, h.sT, h.mT x hmem, h.xT, fun y hy => h.mT y (sub y hy), fun j hj => Nat.lt_of_lt_of_le (hd.tlt j hj) f.size, h.sR, fun j hj => ⟨(h.mO x hmem j hj).1, (h.mO x hmem j hj).2.1⟩, fun j hj => ⟨(h.xO j hj).1, (h.xO j hj).2.1, fun hm => (h.mO x hmem j hm).2.2.2 hj⟩, fun y hy j hj => ⟨(h.mO y (sub y hy) j hj).1, (h.mO y (sub y hy) j hj).2.1, hdis y hy j hj, (h.mO y (sub y hy) j hj).2.2.2⟩, h.mD.sublist (List.take_sublist k L), g5.fr f (fun j hj e => (h.mO x hmem j hj).2.1 e) (fun _ _ _ h => h), (hd.marks.take k (by omega)).fr f (fun j hj e => (h.xO j hj).2.1 e) (fun _ _ _ h => h), fun y hy => ?_, by rw [List.map_take, h.ms], by rw [ln]; omega⟩, g1.keep so, (Tch.ext ed).trans ⟨f.mono fun j _ e => by have e : j = s := e; rw [e]; exact h.sT, fun j hj => .inl hj⟩, bmd.keep f hgs, hgm⟩
      obtain ⟨y1, y2, y3, y4, y5⟩ := hd.good y (sub y hy)
      exact ⟨y1.keep so, y2, y3, y4, y5.fr f (fun j hj e => (h.mO y (sub y hy) j hj).2.1 e) (fun _ _ _ h => h)⟩
end
theorem aNew (u : World) (fan most : Nat) (h1 : 4 ≤ fan) (h2 : fan ≤ 64) (h3 : 1 ≤ most) (h4 : most ≤ 65536) : CallsV Try.prog 15 #[iv fan, iv most] u fun r u' => ∃ s T, r = .tuple #[.pointer (some ⟨s, 0, none⟩), .int .i64 0] ∧ Sto T u' s ⟨A0 fan most, [], []⟩ ∧ Ext u u' ∧ ∀ k, T k → u.heap.size ≤ k := by
  refine undo_New.calls okay ?_
  unfold undo_New.W
  refine (New_spec u fan most h1 h2 h3 h4).mono ?_
  rintro _ u1 ⟨g, R, M, rfl, ha, e1, hR⟩
  refine ⟨_, _, rfl, brn (fun h => absurd rfl h) fun _ => ?_⟩
  intro s u2 f2
  have hI : Inv (A0 fan most) [] := ⟨rfl, fun _ h => (by cases h), fun x => (by simp [A0]), List.nodup_nil, fun _ h => (by cases h), h1, h2, h4, by simp [Ar.nodes, A0], by simp [A0], by simp⟩
  have hl := ha.lt
  refine ⟨s, fun k => R k ∨ k = s, rfl, ⟨g, R, M, none, 0, none, 0, [], ⟨ha.ext f2.ext, hI, f2.blk, fun k hk => .inl hk, .inr rfl, fun k hk => (ownB_none k hk).elim, fun k hk => (ownB_none k hk).elim, fun x hx => (by cases hx), fun k hk => ?_, fun hr => by have := hl s hr; have := f2.ge; omega, fun k hk => (ownB_none k hk).elim, fun k hk => (ownB_none k hk).elim, fun x hx => (by cases hx), List.Pairwise.nil, OwnK.nil _ _, OwnK.nil _ _, fun x hx => (by cases hx), rfl, by simp⟩⟩, e1.trans' f2.ext, fun k hk => ?_⟩
  · rcases hk with hk | rfl
    · have := hl k hk; have := f2.ext.size; omega
    · exact f2.lt
  · rcases hk with hk | rfl
    · exact hR k hk
    · exact Nat.le_trans e1.size f2.ge
theorem aNew_bad (u : World) (fan most : Int) (h : fan < 4 ∨ 64 < fan ∨ most < 1 ∨ 65536 < most) : CallsV Try.prog 15 #[.int .i64 fan, .int .i64 most] u fun r u' => r = .tuple #[.pointer none, .int .i64 2] ∧ u' = u := by
  refine undo_New.calls okay ?_
  unfold undo_New.W
  exact (New_bad u fan most h).same ⟨_, _, rfl, brn (fun _ => ⟨rfl, rfl⟩) fun h => by cases h⟩
end Go.Proofs.Ythfagbfllheneaa
set_option linter.unusedVariables false
set_option maxRecDepth 100000
namespace Go.Proofs.Ythfagbfllheneaa
open Go Go.Sx
noncomputable def cardindexlaw05_b.W : ByteArray → World → (Value → World → Prop) → Prop := fun (s : ByteArray) (w : World) (K : Value → World → Prop) => ∃ (x : Option Addr) (x_1 x_2 : Nat) (w' :
 World), RunsTo Try.prog (convert 9 28 (Value.string s)) w (Value.slice x x_1 x_2) w' ∧ K (Value.slice x x_1 x_2) w'
theorem cardindexlaw05_b.calls (ok : Okay Try.prog) {s : ByteArray} {w : World} {K : Value → World → Prop} (h : cardindexlaw05_b.W s w K) : CallsV Try.prog 30 #[.string s] w K :=
  fnW_calls ok Try.func30 (an := (.named .auto)) (args := [.string s]) (Eq.mp (by kernel_rfl) h)
noncomputable def cardindexlaw05_is.W : Option Addr → Int → ByteArray → ByteArray → World → (Value → World → Prop) → Prop := fun (s : Option Addr) (id : Int) (key want : ByteArray) (w : World) (K :
 Value → World → Prop) => CallsV Try.prog 30 #[Value.string key] w fun (v : Value) (w' : World) => ∃ (x : Option Addr) (x_1 x_2 : Nat), v = Value.slice x x_1 x_2 ∧ CallsV Try.prog 49 #[Value.pointer s,
 Value.int IntKind.i64 id, Value.slice x x_1 x_2] w' fun (v : Value) (w' : World) => ∃ (x : Option Addr) (x_3 x_4 : Nat) (x_5 : Bool), v = Value.tuple #[Value.slice x x_3 x_4, Value.bool x_5] ∧ bif
 decide (x_5 = !ByteArray.toList want == ByteArray.toList (ByteArray.mk #[])) then ∃ (x_6 : ByteArray) (w'_1 : World), RunsTo Try.prog (convert 28 9 (Value.slice x x_3 x_4)) w' (Value.string
 x_6) w'_1 ∧ K (Value.bool (ByteArray.toList x_6 == ByteArray.toList want)) w'_1 else K (Value.bool false) w'
theorem cardindexlaw05_is.calls (ok : Okay Try.prog) {s : Option Addr} {id : Int} {key : ByteArray} {want : ByteArray} {w : World} {K : Value → World → Prop} (h : cardindexlaw05_is.W s id key want w K) : CallsV Try.prog 74 #[.pointer s, .int .i64 id, .string key, .string want] w K :=
  fnW_calls ok Try.func74 (an := (.named .auto)) (args := [.pointer s, .int .i64 id, .string key, .string want]) (Eq.mp (by kernel_rfl) h)
noncomputable def cardindexlaw05_puts.W : Option Addr → Int → ByteArray → ByteArray → World → (Value → World → Prop) → Prop := fun (s : Option Addr) (id : Int) (key val : ByteArray) (w : World) (K :
 Value → World → Prop) => CallsV Try.prog 30 #[Value.string key] w fun (v : Value) (w' : World) => ∃ (x : Option Addr) (x_1 x_2 : Nat), v = Value.slice x x_1 x_2 ∧ CallsV Try.prog 30 #[Value.string val]
 w' fun (v : Value) (w' : World) => ∃ (x_3 : Option Addr) (x_4 x_5 : Nat), v = Value.slice x_3 x_4 x_5 ∧ CallsV Try.prog 29 #[Value.pointer s, Value.int IntKind.i64 id, Value.slice x x_1 x_2,
 Value.slice x_3 x_4 x_5] w' fun (v : Value) (w' : World) => ∃ (x : Bool) (x_6 : Int), v = Value.tuple #[Value.bool x, Value.int IntKind.i64 x_6] ∧ K (Value.bool (decide (x_6 = (0 : Int)))) w'
theorem cardindexlaw05_puts.calls (ok : Okay Try.prog) {s : Option Addr} {id : Int} {key : ByteArray} {val : ByteArray} {w : World} {K : Value → World → Prop} (h : cardindexlaw05_puts.W s id key val w K) : CallsV Try.prog 28 #[.pointer s, .int .i64 id, .string key, .string val] w K :=
  fnW_calls ok Try.func28 (an := (.named .auto)) (args := [.pointer s, .int .i64 id, .string key, .string val]) (Eq.mp (by kernel_rfl) h)
noncomputable def cardindexlaw05_marks.W : Option Addr → Int → World → (Value → World → Prop) → Prop := fun (s : Option Addr) (n : Int) (w : World) (K : Value → World → Prop) => CallsV Try.prog 18
 #[Value.pointer s] w fun (v : Value) (w' : World) => ∃ (x x_1 : Int), v = Value.tuple #[Value.int IntKind.i64 x, Value.int IntKind.i64 x_1] ∧ bif decide (x = n) then bif decide (x_1
 = (0 : Int)) then CallsV Try.prog 24 #[Value.pointer s] w' fun (v : Value) (w' : World) => ∃ (x : Int), v = Value.int IntKind.i64 x ∧ K (Value.bool (decide (x = n))) w' else K (Value.bool
 false) w' else K (Value.bool false) w'
theorem cardindexlaw05_marks.calls (ok : Okay Try.prog) {s : Option Addr} {n : Int} {w : World} {K : Value → World → Prop} (h : cardindexlaw05_marks.W s n w K) : CallsV Try.prog 27 #[.pointer s, .int .i64 n] w K :=
  fnW_calls ok Try.func27 (an := (.named .auto)) (args := [.pointer s, .int .i64 n]) (Eq.mp (by kernel_rfl) h)
noncomputable def cardindexlaw05_awake.W : World → (Value → World → Prop) → Prop := fun (w : World) (K : Value → World → Prop) => CallsV Try.prog 15 #[Value.int IntKind.i64 (4 : Int), Value.int
 IntKind.i64 (100 : Int)] w fun (v : Value) (w' : World) => ∃ (x : Option Addr) (x_1 : Int), v = Value.tuple #[Value.pointer x, Value.int IntKind.i64 x_1] ∧ CallsV Try.prog 26 #[Value.pointer x] w' fun
 (v : Value) (w' : World) => ∃ (x_2 x_3 : Int), v = Value.tuple #[Value.int IntKind.i64 x_2, Value.int IntKind.i64 x_3] ∧ bif !decide (x_1 = (0 : Int)) then K (Value.bool false) w' else
 bif !decide (x_3 = (0 : Int)) then K (Value.bool false) w' else bif !decide (x_2 = (1 : Int)) then K (Value.bool false) w' else CallsV Try.prog 28 #[Value.pointer x,
 Value.int IntKind.i64 (1 : Int), Value.string (ByteArray.mk #[(97 : UInt8)]), Value.string (ByteArray.mk #[(49 : UInt8)])] w' fun (v : Value) (w' : World) => ∃ (x_4 : Bool), v = Value.bool x_4 ∧ bif
 !x_4 then K (Value.bool false) w' else CallsV Try.prog 27 #[Value.pointer x, Value.int IntKind.i64 (1 : Int)] w' fun (v : Value) (w' : World) => ∃ (x_5 : Bool), v = Value.bool x_5 ∧ bif !x_5 then
 K (Value.bool false) w' else CallsV Try.prog 28 #[Value.pointer x, Value.int IntKind.i64 (1 : Int), Value.string (ByteArray.mk #[(97 : UInt8)]), Value.string (ByteArray.mk #[(50 : UInt8)])] w' fun
 (v : Value) (w' : World) => ∃ (x_6 : Bool), v = Value.bool x_6 ∧ bif !x_6 then K (Value.bool false) w' else CallsV Try.prog 28 #[Value.pointer x, Value.int IntKind.i64 (1 : Int), Value.string
 (ByteArray.mk #[(98 : UInt8)]), Value.string (ByteArray.mk #[(51 : UInt8)])] w' fun (v : Value) (w' : World) => ∃ (x_7 : Bool), v = Value.bool x_7 ∧ bif !x_7 then K (Value.bool false) w' else
 CallsV Try.prog 27 #[Value.pointer x, Value.int IntKind.i64 (2 : Int)] w' fun (v : Value) (w' : World) => ∃ (x_8 : Bool), v = Value.bool x_8 ∧ bif !x_8 then K (Value.bool false) w' else CallsV
 Try.prog 30 #[Value.string (ByteArray.mk #[(97 : UInt8)])] w' fun (v : Value) (w' : World) => ∃ (x_9 : Option Addr) (x_10 x_11 : Nat), v = Value.slice x_9 x_10 x_11 ∧ CallsV Try.prog 40 #[Value.pointer
 x, Value.int IntKind.i64 (1 : Int), Value.slice x_9 x_10 x_11] w' fun (v : Value) (w' : World) => ∃ (x_12 : Bool) (x_13 : Int), v = Value.tuple #[Value.bool x_12, Value.int IntKind.i64 x_13] ∧ CallsV
 Try.prog 26 #[Value.pointer x] w' fun (v : Value) (w' : World) => ∃ (x_14 x_15 : Int), v = Value.tuple #[Value.int IntKind.i64 x_14, Value.int IntKind.i64 x_15] ∧ bif !x_12 then K (Value.bool
 false) w' else bif !decide (x_13 = (0 : Int)) then K (Value.bool false) w' else bif !decide (x_14 = (2 : Int)) then K (Value.bool false) w' else bif !decide
 (x_15 = (0 : Int)) then K (Value.bool false) w' else CallsV Try.prog 25 #[Value.pointer x, Value.int IntKind.i64 (2 : Int)] w' fun (v : Value) (w' : World) => ∃ (x_16 : Int), v = Value.int
 IntKind.i64 x_16 ∧ bif !decide (x_16 = (0 : Int)) then K (Value.bool false) w' else CallsV Try.prog 74 #[Value.pointer x, Value.int IntKind.i64 (1 : Int), Value.string (ByteArray.mk
 #[(97 : UInt8)]), Value.string (ByteArray.mk #[(50 : UInt8)])] w' fun (v : Value) (w' : World) => ∃ (x_17 : Bool), v = Value.bool x_17 ∧ bif !x_17 then K (Value.bool false) w' else CallsV Try.prog
 74 #[Value.pointer x, Value.int IntKind.i64 (1 : Int), Value.string (ByteArray.mk #[(98 : UInt8)]), Value.string (ByteArray.mk #[(51 : UInt8)])] w' fun (v : Value) (w' : World) => ∃ (x_18 : Bool), v =
 Value.bool x_18 ∧ bif !x_18 then K (Value.bool false) w' else CallsV Try.prog 33 #[Value.pointer x] w' fun (v : Value) (w' : World) => ∃ (x_19 : Option Addr) (x_20 x_21 : Nat), v = Value.slice
 x_19 x_20 x_21 ∧ ∀ (g : Nat) (w'_1 : World), Fresh w' g w'_1 [Value.int IntKind.i64 (1 : Int)] 3 → CallsV Try.prog 32 #[Value.slice x_19 x_20 x_21, Value.slice (some (Addr.mk g 0 none)) 1
 1] w'_1 fun (v : Value) (w' : World) => ∃ (x_22 : Bool), v = Value.bool x_22 ∧ bif !x_22 then K (Value.bool false) w' else CallsV Try.prog 25 #[Value.pointer x, Value.int IntKind.i64 (1 : Int)] w'
 fun (v : Value) (w' : World) => ∃ (x_23 : Int), v = Value.int IntKind.i64 x_23 ∧ bif !decide (x_23 = (0 : Int)) then K (Value.bool false) w' else CallsV Try.prog 74 #[Value.pointer x,
 Value.int IntKind.i64 (1 : Int), Value.string (ByteArray.mk #[(97 : UInt8)]), Value.string (ByteArray.mk #[(49 : UInt8)])] w' fun (v : Value) (w' : World) => ∃ (x_24 : Bool), v = Value.bool x_24 ∧ bif
 !x_24 then K (Value.bool false) w' else CallsV Try.prog 34 #[Value.pointer x, Value.int IntKind.i64 (1 : Int)] w' fun (v : Value) (w' : World) => ∃ (x_25 : Int), v = Value.int IntKind.i64 x_25 ∧
 bif !decide (x_25 = (1 : Int)) then K (Value.bool false) w' else CallsV Try.prog 25 #[Value.pointer x, Value.int IntKind.i64 (1 : Int)] w' fun (v : Value) (w' : World) => ∃ (x_26 : Int),
 v = Value.int IntKind.i64 x_26 ∧ bif !decide (x_26 = (60 : Int)) then K (Value.bool false) w' else CallsV Try.prog 27 #[Value.pointer x, Value.int IntKind.i64 (1 : Int)] w' fun (v :
 Value) (w' : World) => ∃ (x_27 : Bool), v = Value.bool x_27 ∧ bif !x_27 then K (Value.bool false) w' else CallsV Try.prog 28 #[Value.pointer x, Value.int IntKind.i64 (1 : Int), Value.string
 (ByteArray.mk #[(99 : UInt8)]), Value.string (ByteArray.mk #[(52 : UInt8)])] w' fun (v : Value) (w' : World) => ∃ (x_28 : Bool), v = Value.bool x_28 ∧ bif !x_28 then K (Value.bool false) w' else
 CallsV Try.prog 19 #[Value.pointer x, Value.int IntKind.i64 (1 : Int)] w' fun (v : Value) (w' : World) => ∃ (x_29 : Int), v = Value.int IntKind.i64 x_29 ∧ bif decide (x_29 = (0 : Int)) then
 CallsV Try.prog 74 #[Value.pointer x, Value.int IntKind.i64 (1 : Int), Value.string (ByteArray.mk #[(97 : UInt8)]), Value.string (ByteArray.mk #[(49 : UInt8)])] w' fun (v : Value) (w' : World) => ∃
 (x_30 : Bool), v = Value.bool x_30 ∧ bif x_30 then CallsV Try.prog 74 #[Value.pointer x, Value.int IntKind.i64 (1 : Int), Value.string (ByteArray.mk #[(99 : UInt8)]), Value.string (ByteArray.mk #[(52 :
 UInt8)])] w' fun (v : Value) (w' : World) => ∃ (x_31 : Bool), v = Value.bool x_31 ∧ bif x_31 then CallsV Try.prog 24 #[Value.pointer x] w' fun (v : Value) (w' : World) => ∃ (x : Int), v = Value.int
 IntKind.i64 x ∧ K (Value.bool (decide (x = (0 : Int)))) w' else K (Value.bool false) w' else K (Value.bool false) w' else K (Value.bool false) w'
theorem cardindexlaw05_awake.calls (ok : Okay Try.prog)  {w : World} {K : Value → World → Prop} (h : cardindexlaw05_awake.W  w K) : CallsV Try.prog 23 #[] w K :=
  fnW_calls ok Try.func23 (an := (.named .auto)) (args := []) (Eq.mp (by kernel_rfl) h)
noncomputable def cardindexlow_SameInts.W : Option Addr → Nat → Nat → Option Addr → Nat → Nat → World → (Value → World → Prop) → Prop := fun (these_A : Option Addr) (these_n these_c : Nat) (those_A :
 Option Addr) (those_n those_c : Nat) (w : World) (K : Value → World → Prop) => bif !decide ((↑these_n : Int) = (↑those_n : Int)) then K (Value.bool false) w else ∃ (I : Int → World →
 Prop) (μ : Int → World → Nat), I (IntKind.wrap IntKind.i64 ((↑these_n : Int) - (1 : Int))) w ∧ ∀ (x : Int) (w : World), I x w → bif decide ((0 : Int) ≤ x) then ∃ (ad : Addr), these_A =
 some ad ∧ ((0 : Int) ≤ x ∧ x < (↑these_n : Int)) ∧ ∃ (S : World → Prop), S (World.drew w) ∧ ∃ (x_1 : Int), (∀ (u : World), S u → World.cell? u (Addr.add ad (Int.toNat x * 1)) = some
 (Value.int IntKind.i64 x_1)) ∧ ∃ (ad : Addr), those_A = some ad ∧ ((0 : Int) ≤ x ∧ x < (↑those_n : Int)) ∧ ∃ (x_2 : Int), (∀ (u : World), S u → World.cell? u (Addr.add ad (Int.toNat x * 1)) =
 some (Value.int IntKind.i64 x_2)) ∧ bif !decide (x_1 = x_2) then K (Value.bool false) (World.drew w) else I (IntKind.wrap IntKind.i64 (x - (1 : Int))) (World.drew w) ∧ μ
 (IntKind.wrap IntKind.i64 (x - (1 : Int))) (World.drew w) < μ x w else K (Value.bool true) w
theorem cardindexlow_SameInts.calls (ok : Okay Try.prog) {these_A : Option Addr} {these_n : Nat} {these_c : Nat} {those_A : Option Addr} {those_n : Nat} {those_c : Nat} {w : World} {K : Value → World → Prop} (h : cardindexlow_SameInts.W these_A these_n these_c those_A those_n those_c w K) : CallsV Try.prog 32 #[.slice these_A these_n these_c, .slice those_A those_n those_c] w K :=
  fnW_calls ok Try.func32 (an := (.named (.seq .auto (.seq .auto (.seq (.seq .auto (.block (.loop [(5, .one (.int .i64))] .auto))) .auto))))) (args := [.slice these_A these_n these_c, .slice those_A those_n those_c]) (Eq.mp (by kernel_rfl) h)
end Go.Proofs.Ythfagbfllheneaa
set_option linter.unusedVariables false
set_option linter.unusedSimpArgs false
namespace Go.Proofs.Ythfagbfllheneaa
open Go Go.Sx T4
def upF (F : List (Int × Es)) (id : Int) (es : Es) : List (Int × Es) := F.map fun p => if p.1 = id then (p.1, es) else p
def sizeF (F : List (Int × Es)) : Nat := (F.map fun p => 1 + p.2.length).sum
theorem upF_out {F : List (Int × Es)} {id : Int} {es : Es} (h : ∀ p ∈ F, p.1 ≠ id) : upF F id es = F := by
  unfold upF
  conv => rhs; rw [← List.map_id F]
  exact List.map_congr_left fun p hp => by rw [if_neg (h p hp)]; rfl
theorem fo_up {D1 D2 : List Tr} {d d' : Tr} (hn : ((D1 ++ d :: D2).map fun d => d.r).Nodup) (hr : d'.r = d.r) : foD (D1 ++ d' :: D2) = upF (foD (D1 ++ d :: D2)) d.r d'.es := by
  have hx := nd_mid hn
  have o1 : upF (foD D1) d.r d'.es = foD D1 := upF_out fun p hp => by
    obtain ⟨x, h, rfl⟩ := List.mem_map.1 hp; exact hx x (List.mem_append_left _ h)
  have o2 : upF (foD D2) d.r d'.es = foD D2 := upF_out fun p hp => by
    obtain ⟨x, h, rfl⟩ := List.mem_map.1 hp; exact hx x (List.mem_append_right _ h)
  have e : upF (foD (D1 ++ d :: D2)) d.r d'.es = upF (foD D1) d.r d'.es ++ (d.r, d'.es) :: upF (foD D2) d.r d'.es := by simp [upF, foD, fo]
  rw [e, o1, o2]
  simp [foD, fo, hr]
theorem nodes_size {A : Ar} {D : List Tr} (h : Inv A D) : A.nodes ≤ sizeF (foD D) := by
  rw [h.nodesE]
  unfold sizeF foD
  rw [List.map_map]
  have : ∀ (l : List Tr), (∀ d ∈ l, d ∈ D) → (l.map fun d => d.ps.length).sum ≤ (l.map ((fun p : Int × Es => 1 + p.2.length) ∘ fo)).sum := by
    intro l
    induction l with
    | nil => intro _; exact Nat.le_refl _
    | cons x l ih =>
      intro hl
      have h1 := ih fun d hd => hl d (by simp [hd])
      have h2 : x.ps.length ≤ 1 + x.es.length := (h.tree x (hl x (by simp))).places h.f1
      simp only [List.map_cons, List.sum_cons]
      have h3 : ((fun p : Int × Es => 1 + p.2.length) ∘ fo) x = 1 + x.es.length := rfl
      omega
  exact this D fun _ h => h
theorem tree_low {A : Ar} {D1 D2 : List Tr} {d : Tr} (h : Inv A (D1 ++ d :: D2)) : d.h ≤ A.nodes := by
  have h1 := h.at_.tree.height
  have h2 := h.at_.acc.nodes
  omega
section
variable {T : Nat → Prop} {u : World} {s : Nat} {A : Ar} {D : List Tr} {ms : List (Ar × List Tr)}
theorem kPut (h : Sto T u s ⟨A, D, ms⟩) {id : Int} {es : Es} (hg : gF (foD D) id = some es) (hroom : 2 * sizeF (foD D) + 1 ≤ A.most) {key val : Key} (hk : key.length ≤ 1048576) (hv : val.length ≤ 1048576) {Ω1 Ω2 : Nat → Prop} {KA VA : Option Addr} (iK : Imm KB Ω1 u KA key) (iV : Imm KB Ω2 u VA val) (kc vc : Nat) :
    CallsV Try.prog 29 #[.pointer (some ⟨s, 0, none⟩), .int .i64 id, .slice KA key.length kc, .slice VA val.length vc] u fun r u' => r = .tuple #[.bool (inE key es), .int .i64 0] ∧ ∃ A' D' T', Sto T' u' s ⟨A', D', ms⟩ ∧ Tch T u T' u' ∧ Same A A' ∧ foD D' = upF (foD D) id (insE key val es) := by
  obtain ⟨A', D', was, e, rel, hP⟩ := aPut (A := A) (D := D) h.inv id hk hv
  refine (hP h iK iV kc vc).mono ?_
  rintro _ u' ⟨rfl, T', h', c⟩
  rcases rel.rel with ⟨h1, _⟩ | ⟨D1, d, D2, d', full, hD, hr, rfl, hr', rfl, rfl, hfu, hno⟩
  · rw [hg] at h1; cases h1
  · have hI := h.inv
    replace hI : Inv A D := hI
    rw [hD] at hI
    have hes : d.es = es := by
      have : gF (foD D) id = some d.es := by
        rw [hD, ← hr]
        exact gF_nd hI.ndF (k := D1.length) (by simp [foD, fo])
      rw [hg] at this; exact (Option.some.inj this).symm
    have : full = false := by
      cases full with
      | false => rfl
      | true => have h1 := (hfu rfl).2.2.2; have := nodes_size hI; have := tree_low hI; rw [← hD] at *; omega
    subst this
    refine ⟨by rw [hes]; simp, A', _, T', h', c, rel.same, ?_⟩
    rw [fo_up hI.nd hr', hno rfl, hr, hes, ← hD]
theorem kDel (h : Sto T u s ⟨A, D, ms⟩) {id : Int} {es : Es} (hg : gF (foD D) id = some es) (key : Key) {Ω1 : Nat → Prop} {KA : Option Addr} (iK : Imm KB Ω1 u KA key) (kc : Nat) :
    CallsV Try.prog 40 #[.pointer (some ⟨s, 0, none⟩), .int .i64 id, .slice KA key.length kc] u fun r u' => r = .tuple #[.bool (inE key es), .int .i64 0] ∧ ∃ A' D' T', Sto T' u' s ⟨A', D', ms⟩ ∧ Tch T u T' u' ∧ Same A A' ∧ foD D' = upF (foD D) id (delE key es) := by
  obtain ⟨A', D', was, e, rel, hP⟩ := aDel (A := A) (D := D) h.inv id key
  refine (hP h iK kc).mono ?_
  rintro _ u' ⟨rfl, T', h', c⟩
  rcases rel.rel with ⟨h1, _⟩ | ⟨D1, d, D2, d', hD, hr, rfl, hr', rfl, rfl, he⟩
  · rw [hg] at h1; cases h1
  · have hI := h.inv
    replace hI : Inv A D := hI
    rw [hD] at hI
    have hes : d.es = es := by
      have : gF (foD D) id = some d.es := by
        rw [hD, ← hr]
        exact gF_nd hI.ndF (k := D1.length) (by simp [foD, fo])
      rw [hg] at this; exact (Option.some.inj this).symm
    refine ⟨by rw [hes], A', _, T', h', c, rel.same, ?_⟩
    rw [fo_up hI.nd hr', he, hr, hes, ← hD]
theorem kCreate (h : Sto T u s ⟨A, D, ms⟩) (hl : A.last < 1000000) (hroom : sizeF (foD D) < A.most) (hD : D.length < 1000) :
    CallsV Try.prog 26 #[.pointer (some ⟨s, 0, none⟩)] u fun r u' => r = .tuple #[iv (A.last + 1), .int .i64 0] ∧ ∃ A' D' T', Sto T' u' s ⟨A', D', ms⟩ ∧ Tch T u T' u' ∧ A'.fan = A.fan ∧ A'.most = A.most ∧ A'.last = A.last + 1 ∧ foD D' = foD D ++ [(((A.last + 1 : Nat) : Int), [])] := by
  obtain ⟨A', D', n, e, rel, hP⟩ := aCreate (A := A) (D := D) h.inv hl
  refine (hP h).mono ?_
  rintro _ u' ⟨rfl, T', h', c⟩
  rcases rel.rel with ⟨_, _, h3, rfl, rfl, i, rfl⟩ | ⟨hf, _⟩
  · exact ⟨rfl, A', _, T', h', c, rel.fan, rel.most, h3, by simp [foD, fo]⟩
  · have hI : Inv A D := h.inv
    have := nodes_size hI; omega
/-! ## the helpers -/
theorem b_spec (w : World) (l : List UInt8) (hl : l.length ≤ 1048576) : CallsV Try.prog 30 #[.string ⟨l.toArray⟩] w fun r w' => ∃ A c, r = .slice A l.length c ∧ OwnB w' A c l ∧ Ext w w' ∧ New w A := by
  refine cardindexlaw05_b.calls okay ?_
  unfold cardindexlaw05_b.W
  obtain ⟨A, c, w', h1, h2, h3, h4, _⟩ := to_bytes bt w ⟨l.toArray⟩ (by show l.toArray.size ≤ maxLen; simp [maxLen]; omega)
  have e : sb ⟨l.toArray⟩ = l := rfl
  rw [e] at h1 h2
  exact ⟨_, _, _, _, h1, A, c, rfl, h2, h3, h4⟩
theorem is5_spec (h : Sto T u s ⟨A, D, ms⟩) (id : Int) (key want : Key) (hk : key.length ≤ 1048576) (hw : (gF (foD D) id).bind (getE key) = some want) (hn : want ≠ []) :
    CallsV Try.prog 74 #[.pointer (some ⟨s, 0, none⟩), .int .i64 id, .string ⟨key.toArray⟩, .string ⟨want.toArray⟩] u fun r u' => r = .bool true ∧ Ext u u' := by
  refine cardindexlaw05_is.calls okay ?_
  unfold cardindexlaw05_is.W
  refine (b_spec u key hk).mono ?_
  rintro _ u1 ⟨KA, kc, rfl, o1, e1, _⟩
  refine ⟨_, _, _, rfl, (sGet (h.ext e1) id o1.imm0 kc).mono ?_⟩
  rintro r u2 ⟨e2, hg⟩
  replace hg : GetR u1 u2 ((gF (foD D) id).bind (getE key)) r := hg
  rw [hw] at hg
  obtain ⟨B, d, rfl, o2, _, _⟩ := hg
  have e0 : (ByteArray.toList ⟨want.toArray⟩ == ByteArray.toList (ByteArray.mk #[])) = decide (want = []) := eq_str want []
  rw [e0]
  refine ⟨_, _, _, _, rfl, brd (fun _ => ⟨_, _, to_str bt o2.imm0 d, by rw [eq_str, decide_eq_true rfl], e1.trans' e2⟩) fun hh => absurd (by rw [decide_eq_false hn]; rfl) hh⟩
theorem puts_spec (h : Sto T u s ⟨A, D, ms⟩) {id : Int} {es : Es} (hg : gF (foD D) id = some es) (hroom : 2 * sizeF (foD D) + 1 ≤ A.most) {key val : Key} (hk : key.length ≤ 1048576) (hv : val.length ≤ 1048576) :
    CallsV Try.prog 28 #[.pointer (some ⟨s, 0, none⟩), .int .i64 id, .string ⟨key.toArray⟩, .string ⟨val.toArray⟩] u fun r u' => r = .bool true ∧ ∃ A' D' T', Sto T' u' s ⟨A', D', ms⟩ ∧ Tch T u T' u' ∧ Same A A' ∧ foD D' = upF (foD D) id (insE key val es) := by
  refine cardindexlaw05_puts.calls okay ?_
  unfold cardindexlaw05_puts.W
  refine (b_spec u key hk).mono ?_
  rintro _ u1 ⟨KA, kc, rfl, o1, e1, _⟩
  refine ⟨_, _, _, rfl, (b_spec u1 val hv).mono ?_⟩
  rintro _ u2 ⟨VA, vc, rfl, o2, e2, _⟩
  have e12 := e1.trans' e2
  refine ⟨_, _, _, rfl, (kPut (h.ext e12) hg hroom hk hv (o1.ext e2).imm0 o2.imm0 kc vc).mono ?_⟩
  rintro _ u3 ⟨rfl, A', D', T', h', c, hs, hF⟩
  exact ⟨_, _, rfl, rfl, A', D', T', h', (Tch.ext e12).trans c, hs, hF⟩
theorem marks_spec (h : Sto T u s ⟨A, D, ms⟩) (hl : ms.length < 100) (n : Int) (hn : n = (ms.length : Int) + 1) :
    CallsV Try.prog 27 #[.pointer (some ⟨s, 0, none⟩), .int .i64 n] u fun r u' => r = .bool true ∧ ∃ T', Sto T' u' s ⟨A, D, ms ++ [(A, D)]⟩ ∧ Tch T u T' u' := by
  refine cardindexlaw05_marks.calls okay ?_
  unfold cardindexlaw05_marks.W
  refine (aMark h).mono ?_
  rintro _ u1 (⟨hge, _⟩ | ⟨_, rfl, T', h', c⟩)
  · exact absurd hge (by show ¬ 100 ≤ ms.length; omega)
  · refine ⟨_, _, rfl, brd (fun _ => brd (fun _ => (sMarks h').same ⟨_, rfl, ?_, T', h', c⟩) fun h => absurd rfl h) fun hne => absurd (by rw [hn]; rfl) hne⟩
    rw [decide_eq_true]
    show ((ms ++ [(A, D)]).length : Int) = n
    rw [hn]; simp
theorem SameInts_spec {w : World} {Ω Ω' : Nat → Prop} {A B : Option Addr} {c d : Nat} {l m : List Int} (h : Imm KI Ω w A l) (h' : Imm KI Ω' w B m) (hl : l.length ≤ 1000000) :
    CallsV Try.prog 32 #[.slice A l.length c, .slice B m.length d] w fun r w' => r = .bool (decide (l = m)) ∧ Ext w w' := by
  refine cardindexlow_SameInts.calls okay ?_
  unfold cardindexlow_SameInts.W
  refine brn (fun hne => ?_) (fun he => ?_)
  · rw [decide_eq_false fun e => hne (by rw [e])]; exact ⟨rfl, .refl _ _⟩
  · have hlm : l.length = m.length := by omega
    refine ⟨fun x u => ∃ j : Nat, j ≤ l.length ∧ x = (j : Int) - 1 ∧ Ext w u ∧ l.drop j = m.drop j, fun x _ => (x + 1).toNat, ⟨l.length, Nat.le_refl _, wi _ (by omega) (by omega), .refl _ _, by rw [List.drop_length, hlm, List.drop_length]⟩, ?_⟩
    rintro _ u ⟨j, hj, rfl, e, hd⟩
    refine brd (fun hpos => ?_) (fun hneg => ?_)
    · obtain ⟨i, rfl⟩ : ∃ i, j = i + 1 := ⟨j - 1, by omega⟩
      have hi : ((i + 1 : Nat) : Int) - 1 = (i : Int) := by omega
      rw [hi]
      obtain ⟨ad, hA, c0⟩ := itemI h (j := i) (by omega)
      obtain ⟨bd, hB, c1⟩ := itemI h' (j := i) (by omega)
      have ed : Ext w u.drew := e.drew
      refine ⟨ad, hA, ⟨by omega, by omega⟩, fun v => Ext w v, ed, _, fun v ev => by rw [Int.toNat_natCast]; exact Ext.cell ev c0, bd, hB, ⟨by omega, by omega⟩, _, fun v ev => by rw [Int.toNat_natCast]; exact Ext.cell ev c1, brn (fun hne => ?_) (fun heq => ?_)⟩
      · rw [decide_eq_false]
        · exact ⟨rfl, ed⟩
        · rintro rfl; exact hne rfl
      · rw [wi _ (by omega) (by omega)]
        refine ⟨⟨i, by omega, rfl, ed, ?_⟩, by dsimp only; omega⟩
        rw [List.drop_eq_getElem_cons (show i < l.length by omega), List.drop_eq_getElem_cons (show i < m.length by omega), heq, hd]
    · obtain rfl : j = 0 := by omega
      rw [decide_eq_true (by simpa using hd)]
      exact ⟨rfl, e⟩
end
set_option maxRecDepth 100000 in
set_option maxHeartbeats 1000000 in
theorem awake_spec (w : World) : CallsV Try.prog 23 #[] w fun r w' => r = .bool true ∧ Ext w w' := by
  refine cardindexlaw05_awake.calls okay ?_
  unfold cardindexlaw05_awake.W
  refine (aNew w 4 100 (by decide) (by decide) (by decide) (by decide)).mono ?_
  rintro _ u0 ⟨s, T0, rfl, h0, e0, t0⟩
  refine ⟨_, _, rfl, (kCreate h0 (by decide) (by decide) (by decide)).mono ?_⟩
  rintro _ u1 ⟨rfl, A1, D1, T1, h1, c1, f1, m1, l1, F1⟩
  obtain ⟨x1, t1⟩ := c1.keepExt e0 t0
  replace F1 : foD D1 = [(1, [])] := F1
  replace m1 : A1.most = 100 := m1
  replace l1 : A1.last = 1 := l1
  refine ⟨_, _, rfl, brn (fun h => absurd rfl h) fun _ => brn (fun h => absurd rfl h) fun _ => brn (fun h => absurd rfl h) fun _ => ?_⟩
  refine (puts_spec (es := []) (key := [97]) (val := [49]) h1 (id := 1) (by rw [F1]; rfl) (by rw [F1, m1]; decide) (by decide) (by decide)).mono ?_
  rintro _ u2 ⟨rfl, A2, D2, T2, h2, c2, s2, F2⟩
  obtain ⟨x2, t2⟩ := c2.keepExt x1 t1
  rw [F1] at F2
  replace F2 : foD D2 = [(1, [([97], [49])])] := F2
  have m2 := s2.most.trans m1
  have l2 := s2.last.trans l1
  refine ⟨_, rfl, brnb (fun h => by cases h) fun _ => (marks_spec h2 (by decide) 1 rfl).mono ?_⟩
  rintro _ u3 ⟨rfl, T3, h3, c3⟩
  obtain ⟨x3, t3⟩ := c3.keepExt x2 t2
  refine ⟨_, rfl, brnb (fun h => by cases h) fun _ => (puts_spec (es := [([97], [49])]) (key := [97]) (val := [50]) h3 (id := 1) (by rw [F2]; rfl) (by rw [F2, m2]; decide) (by decide) (by decide)).mono ?_⟩
  rintro _ u4 ⟨rfl, A4, D4, T4, h4, c4, s4, F4⟩
  obtain ⟨x4, t4⟩ := c4.keepExt x3 t3
  rw [F2] at F4
  replace F4 : foD D4 = [(1, [([97], [50])])] := F4
  have m4 := s4.most.trans m2
  have l4 := s4.last.trans l2
  refine ⟨_, rfl, brnb (fun h => by cases h) fun _ => (puts_spec (es := [([97], [50])]) (key := [98]) (val := [51]) h4 (id := 1) (by rw [F4]; rfl) (by rw [F4, m4]; decide) (by decide) (by decide)).mono ?_⟩
  rintro _ u5 ⟨rfl, A5, D5, T5, h5, c5, s5, F5⟩
  obtain ⟨x5, t5⟩ := c5.keepExt x4 t4
  rw [F4] at F5
  replace F5 : foD D5 = [(1, [([97], [50]), ([98], [51])])] := F5
  have m5 := s5.most.trans m4
  have l5 := s5.last.trans l4
  refine ⟨_, rfl, brnb (fun h => by cases h) fun _ => (marks_spec h5 (show 1 < 100 by decide) 2 rfl).mono ?_⟩
  rintro _ u6 ⟨rfl, T6, h6, c6⟩
  obtain ⟨x6, t6⟩ := c6.keepExt x5 t5
  refine ⟨_, rfl, brnb (fun h => by cases h) fun _ => (b_spec u6 [97] (by decide)).mono ?_⟩
  rintro _ u7 ⟨KA, kc, rfl, o7, e7, _⟩
  refine ⟨_, _, _, rfl, (kDel (h6.ext e7) (es := [([97], [50]), ([98], [51])]) (id := 1) (by rw [F5]; rfl) [97] o7.imm0 kc).mono ?_⟩
  rintro _ u8 ⟨rfl, A8, D8, T8, h8, c8, s8, F8⟩
  obtain ⟨x8, t8⟩ := c8.keepExt (x6.trans' e7) t6
  rw [F5] at F8
  replace F8 : foD D8 = [(1, [([98], [51])])] := F8
  have m8 := s8.most.trans m5
  have l8 := s8.last.trans l5
  refine ⟨_, _, rfl, (kCreate h8 (by rw [l8]; decide) (by rw [F8, m8]; decide) (by have : (foD D8).length = 1 := by rw [F8]; rfl
                                                                                   rw [List.length_map] at this; omega)).mono ?_⟩
  rintro _ u9 ⟨rfl, A9, D9, T9, h9, c9, _, _, _, _⟩
  obtain ⟨x9, t9⟩ := c9.keepExt x8 t8
  rw [l8]
  refine ⟨_, _, rfl, brnb (fun h => absurd h (by decide)) fun _ => brn (fun h => absurd rfl h) fun _ => brn (fun h => absurd rfl h) fun _ => brn (fun h => absurd rfl h) fun _ => (aBack h9 2).mono ?_⟩
  rintro _ u10 (⟨hb, _⟩ | ⟨_, _, rfl, B, D', T10, hms, h10, c10⟩)
  · exact absurd hb (by show ¬ ((2 : Int) < 1 ∨ ((2 : Nat) : Int) < 2); decide)
  obtain ⟨rfl, rfl⟩ : B = A5 ∧ D' = D5 := by have := Option.some.inj hms; exact ⟨(Prod.mk.inj this).1.symm, (Prod.mk.inj this).2.symm⟩
  obtain ⟨x10, t10⟩ := c10.keepExt x9 t9
  refine ⟨_, rfl, brn (fun h => absurd rfl h) fun _ => (is5_spec h10 1 [97] [50] (by decide) (by rw [F5]; rfl) (by decide)).mono ?_⟩
  rintro _ u11 ⟨rfl, e11⟩
  refine ⟨_, rfl, brnb (fun h => by cases h) fun _ => (is5_spec (h10.ext e11) 1 [98] [51] (by decide) (by rw [F5]; rfl) (by decide)).mono ?_⟩
  rintro _ u12 ⟨rfl, e12⟩
  have h12 := (h10.ext e11).ext e12
  refine ⟨_, rfl, brnb (fun h => by cases h) fun _ => (sTrees h12).mono ?_⟩
  rintro _ u13 ⟨IA, ic, rfl, o13, e13, _⟩
  have hids : idsD D' = [1] := by
    have : (foD D').map (fun p => p.1) = [1] := by rw [F5]; rfl
    rw [← this]; simp [foD, fo, idsD]
  replace o13 : OwnK KI u13 IA ic (idsD D') := o13
  rw [show idsD (⟨B, D', [(A2, D2)]⟩ : Ab).D = [1] from hids]
  rw [hids] at o13
  refine ⟨_, _, _, rfl, ?_⟩
  intro gx u14 f14
  refine (SameInts_spec (l := [1]) (m := [1]) (d := 1) ((o13.imm KI_pos).ext KI_pos f14.ext) (f14.imm (Ω := NoB) (fun h => h) KI_pos rfl (by simp [maxLen]) (fun i a ha => by cases i with | zero => simp at ha; subst ha; rfl | succ i => simp at ha)) (by decide)).mono ?_
  rintro _ u15 ⟨rfl, e15⟩
  have h15 := ((h12.ext e13).ext f14.ext).ext e15
  have x15 : Ext w u15 := ((((x10.trans' e11).trans' e12).trans' e13).trans' f14.ext).trans' e15
  refine ⟨_, rfl, brnb (fun h => absurd h (by decide)) fun _ => (aBack h15 1).mono ?_⟩
  rintro _ u16 (⟨hb, _⟩ | ⟨_, _, rfl, B2, D2', T16, hms, h16, c16⟩)
  · exact absurd hb (by show ¬ ((1 : Int) < 1 ∨ ((1 : Nat) : Int) < 1); decide)
  obtain ⟨rfl, rfl⟩ : B2 = A2 ∧ D2' = D2 := by have := Option.some.inj hms; exact ⟨(Prod.mk.inj this).1.symm, (Prod.mk.inj this).2.symm⟩
  obtain ⟨x16, t16⟩ := c16.keepExt x15 t10
  refine ⟨_, rfl, brn (fun h => absurd rfl h) fun _ => (is5_spec h16 1 [97] [49] (by decide) (by rw [F2]; rfl) (by decide)).mono ?_⟩
  rintro _ u17 ⟨rfl, e17⟩
  refine ⟨_, rfl, brnb (fun h => by cases h) fun _ => (sLen (h16.ext e17) 1).mono ?_⟩
  rintro _ u18 ⟨rfl, e18⟩
  have h18 := (h16.ext e17).ext e18
  refine ⟨_, rfl, brn (fun h => absurd (by show ((lenO (gF (foD D2') 1) : Nat) : Int) = 1; rw [F2]; rfl) h) fun _ => (aBack h18 1).mono ?_⟩
  rintro r19 u19 h19
  obtain ⟨rfl, rfl⟩ : r19 = .int .i64 60 ∧ u19 = u18 := h19.elim (fun h => ⟨h.2.1, h.2.2⟩) fun h => absurd h.2.1 (by show ¬ ((1 : Int) ≤ ((0 : Nat) : Int)); decide)
  refine ⟨_, rfl, brn (fun h => absurd rfl h) fun _ => (marks_spec h18 (show 0 < 100 by decide) 1 rfl).mono ?_⟩
  rintro _ u20 ⟨rfl, T20, h20, c20⟩
  obtain ⟨x20, t20⟩ := c20.keepExt ((x16.trans' e17).trans' e18) t16
  refine ⟨_, rfl, brnb (fun h => by cases h) fun _ => (puts_spec (es := [([97], [49])]) (key := [99]) (val := [52]) h20 (id := 1) (by rw [F2]; rfl) (by rw [F2, m2]; decide) (by decide) (by decide)).mono ?_⟩
  rintro _ u21 ⟨rfl, A21, D21, T21, h21, c21, s21, F21⟩
  obtain ⟨x21, t21⟩ := c21.keepExt x20 t20
  rw [F2] at F21
  replace F21 : foD D21 = [(1, [([97], [49]), ([99], [52])])] := F21
  refine ⟨_, rfl, brnb (fun h => by cases h) fun _ => (aFree h21 1).mono ?_⟩
  rintro _ u22 (⟨hb, _⟩ | ⟨_, _, rfl, T22, h22, c22⟩)
  · exact absurd hb (by show ¬ ((1 : Int) < 1 ∨ ((1 : Nat) : Int) < 1); decide)
  obtain ⟨x22, t22⟩ := c22.keepExt x21 t21
  replace h22 : Sto T22 u22 s ⟨A21, D21, []⟩ := h22
  refine ⟨_, rfl, brd (fun _ => (is5_spec h22 1 [97] [49] (by decide) (by rw [F21]; rfl) (by decide)).mono ?_) fun h => absurd rfl h⟩
  rintro _ u23 ⟨rfl, e23⟩
  refine ⟨_, rfl, br (fun _ => (is5_spec (h22.ext e23) 1 [99] [52] (by decide) (by rw [F21]; rfl) (by decide)).mono ?_) fun h => by cases h⟩
  rintro _ u24 ⟨rfl, e24⟩
  refine ⟨_, rfl, br (fun _ => (sMarks ((h22.ext e23).ext e24)).same ⟨_, rfl, rfl, (x22.trans' e23).trans' e24⟩) fun h => by cases h⟩
end Go.Proofs.Ythfagbfllheneaa
set_option linter.unusedVariables false
set_option maxRecDepth 100000
namespace Go.Proofs.Ythfagbfllheneaa
open Go Go.Sx
noncomputable def cardindexref05_Store_Mark.W : Option Addr → Nat → Nat → Int → Option Addr → Nat → Nat → World → (Value → World → Prop) → Prop := fun (s0_A : Option Addr) (s0_n s0_c : Nat) (s1 : Int)
 (s2_A : Option Addr) (s2_n s2_c : Nat) (w : World) (K : Value → World → Prop) => ∀ (g : Nat) (w' : World), Fresh w g w' [Value.slice s0_A s0_n s0_c, Value.int IntKind.i64 s1, Value.slice s2_A s2_n
 s2_c] 64 → ∀ (g_1 : Nat) (w'_1 : World), Fresh w' g_1 w'_1 [Value.slice none 0 0, Value.int IntKind.i64 (0 : Int), Value.slice none 0 0] 64 → ∃ (x : Option Addr) (x_1 x_2 : Nat),
 World.cell? w'_1 (Addr.add (Addr.mk g 0 none) 2) = some (Value.slice x x_1 x_2) ∧ bif decide ((100 : Int) ≤ (↑x_1 : Int)) then ∃ (x : Option Addr) (x_3 x_4 : Nat), World.cell?
 w'_1 (Addr.add (Addr.mk g 0 none) 0) = some (Value.slice x x_3 x_4) ∧ ∃ (x_5 : Int), World.cell? w'_1 (Addr.add (Addr.mk g 0 none) 1) = some (Value.int IntKind.i64 x_5) ∧ ∃
 (x_6 : Option Addr) (x_7 x_8 : Nat), World.cell? w'_1 (Addr.add (Addr.mk g 0 none) 2) = some (Value.slice x_6 x_7 x_8) ∧ stOK (Addr.mk g_1 0 none) 0 [Value.slice x x_3 x_4,
 Value.int IntKind.i64 x_5, Value.slice x_6 x_7 x_8] w'_1 ∧ ∀ (w' : World), w' = setAll (Addr.mk g_1 0 none) 0 [Value.slice x x_3 x_4, Value.int IntKind.i64 x_5, Value.slice x_6 x_7 x_8] w'_1 → ∃
 (x : Option Addr) (x_9 x_10 : Nat), World.cell? w' (Addr.add (Addr.mk g_1 0 none) 0) = some (Value.slice x x_9 x_10) ∧ ∃ (x_11 : Int), World.cell? w' (Addr.add (Addr.mk g_1 0 none)
 1) = some (Value.int IntKind.i64 x_11) ∧ ∃ (x_12 : Option Addr) (x_13 x_14 : Nat), World.cell? w' (Addr.add (Addr.mk g_1 0 none) 2) = some (Value.slice x_12 x_13 x_14) ∧ K
 (Value.tuple #[Value.agg #[Value.slice x x_9 x_10, Value.int IntKind.i64 x_11, Value.slice x_12 x_13 x_14], Value.int IntKind.i64 (0 : Int), Value.int IntKind.i64 (5 : Int)]) w' else ∃ (x : Option
 Addr) (x_3 x_4 : Nat), World.cell? w'_1 (Addr.add (Addr.mk g 0 none) 2) = some (Value.slice x x_3 x_4) ∧ ∃ (x_5 : Option Addr) (x_6 x_7 : Nat) (w' : World), RunsTo Try.prog
 (Builtin.append_ (Array.mk [62, 62]) 62 #[Value.slice none 0 0, Value.slice x x_3 x_4]) w'_1 (Value.slice x_5 x_6 x_7) w' ∧ ∃ (x : Option Addr) (x_8 x_9 : Nat), World.cell? w' (Addr.add
 (Addr.add (Addr.mk g 0 none) 0) 0) = some (Value.slice x x_8 x_9) ∧ ∃ (x_10 : Int), World.cell? w' (Addr.add (Addr.add (Addr.mk g 0 none) 0) 1) = some (Value.int IntKind.i64
 x_10) ∧ ∀ (g_2 : Nat) (w'_2 : World), Fresh w' g_2 w'_2 [Value.slice x x_8 x_9, Value.int IntKind.i64 x_10] 61 → ∃ (x : Option Addr) (x_11 x_12 : Nat) (w' : World), RunsTo Try.prog (Builtin.append_
 (Array.mk [62, 62]) 62 #[Value.slice x_5 x_6 x_7, Value.slice (some (Addr.mk g_2 0 none)) 1 1]) w'_2 (Value.slice x x_11 x_12) w' ∧ stOK (Addr.add (Addr.mk g 0 none) 2) 0
 [Value.slice x x_11 x_12] w' ∧ ∀ (w'_3 : World), w'_3 = setAll (Addr.add (Addr.mk g 0 none) 2) 0 [Value.slice x x_11 x_12] w' → ∃ (S : World → Prop), S (World.drew w'_3) ∧ ∃ (x : Option Addr)
 (x_13 x_14 : Nat), (∀ (u : World), S u → World.cell? u (Addr.add (Addr.mk g 0 none) 0) = some (Value.slice x x_13 x_14)) ∧ ∃ (x_15 : Int), (∀ (u : World), S u → World.cell? u (Addr.add
 (Addr.mk g 0 none) 1) = some (Value.int IntKind.i64 x_15)) ∧ ∃ (x_16 : Option Addr) (x_17 x_18 : Nat), (∀ (u : World), S u → World.cell? u (Addr.add (Addr.mk g 0 none) 2) =
 some (Value.slice x_16 x_17 x_18)) ∧ ∃ (x_19 : Option Addr) (x_20 x_21 : Nat), (∀ (u : World), S u → World.cell? u (Addr.add (Addr.mk g 0 none) 2) = some (Value.slice x_19 x_20
 x_21)) ∧ stOK (Addr.mk g_1 0 none) 0 [Value.slice x x_13 x_14, Value.int IntKind.i64 x_15, Value.slice x_16 x_17 x_18] (World.drew w'_3) ∧ ∀ (w' : World), w' = setAll (Addr.mk g_1 0 none)
 0 [Value.slice x x_13 x_14, Value.int IntKind.i64 x_15, Value.slice x_16 x_17 x_18] (World.drew w'_3) → S w' ∧ ∃ (x : Option Addr) (x_22 x_23 : Nat), World.cell? w' (Addr.add (Addr.mk g_1 0
 none) 0) = some (Value.slice x x_22 x_23) ∧ ∃ (x_24 : Int), World.cell? w' (Addr.add (Addr.mk g_1 0 none) 1) = some (Value.int IntKind.i64 x_24) ∧ ∃ (x_25 : Option Addr)
 (x_26 x_27 : Nat), World.cell? w' (Addr.add (Addr.mk g_1 0 none) 2) = some (Value.slice x_25 x_26 x_27) ∧ K (Value.tuple #[Value.agg #[Value.slice x x_22 x_23, Value.int IntKind.i64 x_24,
 Value.slice x_25 x_26 x_27], Value.int IntKind.i64 (↑x_20 : Int), Value.int IntKind.i64 (0 : Int)]) w'
theorem cardindexref05_Store_Mark.calls (ok : Okay Try.prog) {s0_A : Option Addr} {s0_n : Nat} {s0_c : Nat} {s1 : Int} {s2_A : Option Addr} {s2_n : Nat} {s2_c : Nat} {w : World} {K : Value → World → Prop} (h : cardindexref05_Store_Mark.W s0_A s0_n s0_c s1 s2_A s2_n s2_c w K) : CallsV Try.prog 44 #[.agg #[.slice s0_A s0_n s0_c, .int .i64 s1, .slice s2_A s2_n s2_c]] w K :=
  fnW_calls ok Try.func44 (an := (.named .auto)) (args := [.agg #[.slice s0_A s0_n s0_c, .int .i64 s1, .slice s2_A s2_n s2_c]]) (Eq.mp (by kernel_rfl) h)
noncomputable def cardindexref05_Store_Back.W : Option Addr → Nat → Nat → Int → Option Addr → Nat → Nat → Int → World → (Value → World → Prop) → Prop := fun (s0_A : Option Addr) (s0_n s0_c : Nat) (s1 :
 Int) (s2_A : Option Addr) (s2_n s2_c : Nat) (n : Int) (w : World) (K : Value → World → Prop) => ∀ (g : Nat) (w' : World), Fresh w g w' [Value.slice s0_A s0_n s0_c, Value.int IntKind.i64 s1, Value.slice
 s2_A s2_n s2_c] 64 → ∀ (g_1 : Nat) (w'_1 : World), Fresh w' g_1 w'_1 [Value.slice none 0 0, Value.int IntKind.i64 (0 : Int), Value.slice none 0 0] 64 → bif decide (n < (1 :
 Int)) then ∃ (x : Option Addr) (x_1 x_2 : Nat), World.cell? w'_1 (Addr.add (Addr.mk g 0 none) 0) = some (Value.slice x x_1 x_2) ∧ ∃ (x_3 : Int), World.cell? w'_1 (Addr.add (Addr.mk g 0
 none) 1) = some (Value.int IntKind.i64 x_3) ∧ ∃ (x_4 : Option Addr) (x_5 x_6 : Nat), World.cell? w'_1 (Addr.add (Addr.mk g 0 none) 2) = some (Value.slice x_4 x_5 x_6) ∧ stOK
 (Addr.mk g_1 0 none) 0 [Value.slice x x_1 x_2, Value.int IntKind.i64 x_3, Value.slice x_4 x_5 x_6] w'_1 ∧ ∀ (w' : World), w' = setAll (Addr.mk g_1 0 none) 0 [Value.slice x x_1 x_2,
 Value.int IntKind.i64 x_3, Value.slice x_4 x_5 x_6] w'_1 → ∃ (x : Option Addr) (x_7 x_8 : Nat), World.cell? w' (Addr.add (Addr.mk g_1 0 none) 0) = some (Value.slice x x_7 x_8) ∧ ∃ (x_9 :
 Int), World.cell? w' (Addr.add (Addr.mk g_1 0 none) 1) = some (Value.int IntKind.i64 x_9) ∧ ∃ (x_10 : Option Addr) (x_11 x_12 : Nat), World.cell? w' (Addr.add (Addr.mk g_1 0 none)
 2) = some (Value.slice x_10 x_11 x_12) ∧ K (Value.tuple #[Value.agg #[Value.slice x x_7 x_8, Value.int IntKind.i64 x_9, Value.slice x_10 x_11 x_12], Value.int IntKind.i64 (60 : Int)]) w' else ∃
 (x : Option Addr) (x_1 x_2 : Nat), World.cell? w'_1 (Addr.add (Addr.mk g 0 none) 2) = some (Value.slice x x_1 x_2) ∧ bif decide ((↑x_1 : Int) < n) then ∃ (x : Option Addr) (x_3
 x_4 : Nat), World.cell? w'_1 (Addr.add (Addr.mk g 0 none) 0) = some (Value.slice x x_3 x_4) ∧ ∃ (x_5 : Int), World.cell? w'_1 (Addr.add (Addr.mk g 0 none) 1) = some
 (Value.int IntKind.i64 x_5) ∧ ∃ (x_6 : Option Addr) (x_7 x_8 : Nat), World.cell? w'_1 (Addr.add (Addr.mk g 0 none) 2) = some (Value.slice x_6 x_7 x_8) ∧ stOK (Addr.mk g_1 0 none) 0
 [Value.slice x x_3 x_4, Value.int IntKind.i64 x_5, Value.slice x_6 x_7 x_8] w'_1 ∧ ∀ (w' : World), w' = setAll (Addr.mk g_1 0 none) 0 [Value.slice x x_3 x_4, Value.int IntKind.i64 x_5,
 Value.slice x_6 x_7 x_8] w'_1 → ∃ (x : Option Addr) (x_9 x_10 : Nat), World.cell? w' (Addr.add (Addr.mk g_1 0 none) 0) = some (Value.slice x x_9 x_10) ∧ ∃ (x_11 : Int), World.cell? w'
 (Addr.add (Addr.mk g_1 0 none) 1) = some (Value.int IntKind.i64 x_11) ∧ ∃ (x_12 : Option Addr) (x_13 x_14 : Nat), World.cell? w' (Addr.add (Addr.mk g_1 0 none) 2) = some
 (Value.slice x_12 x_13 x_14) ∧ K (Value.tuple #[Value.agg #[Value.slice x x_9 x_10, Value.int IntKind.i64 x_11, Value.slice x_12 x_13 x_14], Value.int IntKind.i64 (60 : Int)]) w' else ∃ (x : Option
 Addr) (x_3 x_4 : Nat), World.cell? w'_1 (Addr.add (Addr.mk g 0 none) 2) = some (Value.slice x x_3 x_4) ∧ ∃ (ad : Addr), x = some ad ∧ ((0 : Int) ≤ IntKind.wrap IntKind.i64 (n - (1
 : Int)) ∧ IntKind.wrap IntKind.i64 (n - (1 : Int)) < (↑x_3 : Int)) ∧ ∃ (x : Option Addr) (x_5 x_6 : Nat), World.cell? w'_1 (Addr.add (Addr.add ad (Int.toNat (IntKind.wrap IntKind.i64 (n - (1 : Int))) *
 2)) 0) = some (Value.slice x x_5 x_6) ∧ ∃ (x_7 : Int), World.cell? w'_1 (Addr.add (Addr.add ad (Int.toNat (IntKind.wrap IntKind.i64 (n - (1 : Int))) * 2)) 1) = some (Value.int IntKind.i64
 x_7) ∧ stOK (Addr.add (Addr.mk g 0 none) 0) 0 [Value.slice x x_5 x_6, Value.int IntKind.i64 x_7] w'_1 ∧ ∀ (w' : World), w' = setAll (Addr.add (Addr.mk g 0 none) 0) 0 [Value.slice x x_5
 x_6, Value.int IntKind.i64 x_7] w'_1 → ∃ (x : Option Addr) (x_8 x_9 : Nat), World.cell? w' (Addr.add (Addr.mk g 0 none) 2) = some (Value.slice x x_8 x_9) ∧ ((0 : Int) ≤ IntKind.wrap
 IntKind.i64 (n - (1 : Int)) ∧ IntKind.wrap IntKind.i64 (n - (1 : Int)) ≤ (↑x_9 : Int)) ∧ stOK (Addr.add (Addr.mk g 0 none) 2) 0 [Value.slice (cutAt x x_9 0 2) (Int.toNat (IntKind.wrap
 IntKind.i64 (n - (1 : Int))) - 0) (x_9 - 0)] w' ∧ ∀ (w'_2 : World), w'_2 = setAll (Addr.add (Addr.mk g 0 none) 2) 0 [Value.slice (cutAt x x_9 0 2) (Int.toNat (IntKind.wrap IntKind.i64 (n - (1 :
 Int))) - 0) (x_9 - 0)] w' → ∃ (x : Option Addr) (x_10 x_11 : Nat), World.cell? w'_2 (Addr.add (Addr.mk g 0 none) 0) = some (Value.slice x x_10 x_11) ∧ ∃ (x_12 : Int), World.cell? w'_2
 (Addr.add (Addr.mk g 0 none) 1) = some (Value.int IntKind.i64 x_12) ∧ ∃ (x_13 : Option Addr) (x_14 x_15 : Nat), World.cell? w'_2 (Addr.add (Addr.mk g 0 none) 2) = some
 (Value.slice x_13 x_14 x_15) ∧ stOK (Addr.mk g_1 0 none) 0 [Value.slice x x_10 x_11, Value.int IntKind.i64 x_12, Value.slice x_13 x_14 x_15] w'_2 ∧ ∀ (w' : World), w' = setAll (Addr.mk g_1 0
 none) 0 [Value.slice x x_10 x_11, Value.int IntKind.i64 x_12, Value.slice x_13 x_14 x_15] w'_2 → ∃ (x : Option Addr) (x_16 x_17 : Nat), World.cell? w' (Addr.add (Addr.mk g_1 0 none) 0) =
 some (Value.slice x x_16 x_17) ∧ ∃ (x_18 : Int), World.cell? w' (Addr.add (Addr.mk g_1 0 none) 1) = some (Value.int IntKind.i64 x_18) ∧ ∃ (x_19 : Option Addr) (x_20 x_21 : Nat),
 World.cell? w' (Addr.add (Addr.mk g_1 0 none) 2) = some (Value.slice x_19 x_20 x_21) ∧ K (Value.tuple #[Value.agg #[Value.slice x x_16 x_17, Value.int IntKind.i64 x_18, Value.slice x_19
 x_20 x_21], Value.int IntKind.i64 (0 : Int)]) w'
theorem cardindexref05_Store_Back.calls (ok : Okay Try.prog) {s0_A : Option Addr} {s0_n : Nat} {s0_c : Nat} {s1 : Int} {s2_A : Option Addr} {s2_n : Nat} {s2_c : Nat} {n : Int} {w : World} {K : Value → World → Prop} (h : cardindexref05_Store_Back.W s0_A s0_n s0_c s1 s2_A s2_n s2_c n w K) : CallsV Try.prog 45 #[.agg #[.slice s0_A s0_n s0_c, .int .i64 s1, .slice s2_A s2_n s2_c], .int .i64 n] w K :=
  fnW_calls ok Try.func45 (an := (.named .auto)) (args := [.agg #[.slice s0_A s0_n s0_c, .int .i64 s1, .slice s2_A s2_n s2_c], .int .i64 n]) (Eq.mp (by kernel_rfl) h)
noncomputable def cardindexref05_Store_Free.W : Option Addr → Nat → Nat → Int → Option Addr → Nat → Nat → Int → World → (Value → World → Prop) → Prop := fun (s0_A : Option Addr) (s0_n s0_c : Nat) (s1 :
 Int) (s2_A : Option Addr) (s2_n s2_c : Nat) (n : Int) (w : World) (K : Value → World → Prop) => ∀ (g : Nat) (w' : World), Fresh w g w' [Value.slice s0_A s0_n s0_c, Value.int IntKind.i64 s1, Value.slice
 s2_A s2_n s2_c] 64 → ∀ (g_1 : Nat) (w'_1 : World), Fresh w' g_1 w'_1 [Value.slice none 0 0, Value.int IntKind.i64 (0 : Int), Value.slice none 0 0] 64 → bif decide (n < (1 :
 Int)) then ∃ (x : Option Addr) (x_1 x_2 : Nat), World.cell? w'_1 (Addr.add (Addr.mk g 0 none) 0) = some (Value.slice x x_1 x_2) ∧ ∃ (x_3 : Int), World.cell? w'_1 (Addr.add (Addr.mk g 0
 none) 1) = some (Value.int IntKind.i64 x_3) ∧ ∃ (x_4 : Option Addr) (x_5 x_6 : Nat), World.cell? w'_1 (Addr.add (Addr.mk g 0 none) 2) = some (Value.slice x_4 x_5 x_6) ∧ stOK
 (Addr.mk g_1 0 none) 0 [Value.slice x x_1 x_2, Value.int IntKind.i64 x_3, Value.slice x_4 x_5 x_6] w'_1 ∧ ∀ (w' : World), w' = setAll (Addr.mk g_1 0 none) 0 [Value.slice x x_1 x_2,
 Value.int IntKind.i64 x_3, Value.slice x_4 x_5 x_6] w'_1 → ∃ (x : Option Addr) (x_7 x_8 : Nat), World.cell? w' (Addr.add (Addr.mk g_1 0 none) 0) = some (Value.slice x x_7 x_8) ∧ ∃ (x_9 :
 Int), World.cell? w' (Addr.add (Addr.mk g_1 0 none) 1) = some (Value.int IntKind.i64 x_9) ∧ ∃ (x_10 : Option Addr) (x_11 x_12 : Nat), World.cell? w' (Addr.add (Addr.mk g_1 0 none)
 2) = some (Value.slice x_10 x_11 x_12) ∧ K (Value.tuple #[Value.agg #[Value.slice x x_7 x_8, Value.int IntKind.i64 x_9, Value.slice x_10 x_11 x_12], Value.int IntKind.i64 (60 : Int)]) w' else ∃
 (x : Option Addr) (x_1 x_2 : Nat), World.cell? w'_1 (Addr.add (Addr.mk g 0 none) 2) = some (Value.slice x x_1 x_2) ∧ bif decide ((↑x_1 : Int) < n) then ∃ (x : Option Addr) (x_3
 x_4 : Nat), World.cell? w'_1 (Addr.add (Addr.mk g 0 none) 0) = some (Value.slice x x_3 x_4) ∧ ∃ (x_5 : Int), World.cell? w'_1 (Addr.add (Addr.mk g 0 none) 1) = some
 (Value.int IntKind.i64 x_5) ∧ ∃ (x_6 : Option Addr) (x_7 x_8 : Nat), World.cell? w'_1 (Addr.add (Addr.mk g 0 none) 2) = some (Value.slice x_6 x_7 x_8) ∧ stOK (Addr.mk g_1 0 none) 0
 [Value.slice x x_3 x_4, Value.int IntKind.i64 x_5, Value.slice x_6 x_7 x_8] w'_1 ∧ ∀ (w' : World), w' = setAll (Addr.mk g_1 0 none) 0 [Value.slice x x_3 x_4, Value.int IntKind.i64 x_5,
 Value.slice x_6 x_7 x_8] w'_1 → ∃ (x : Option Addr) (x_9 x_10 : Nat), World.cell? w' (Addr.add (Addr.mk g_1 0 none) 0) = some (Value.slice x x_9 x_10) ∧ ∃ (x_11 : Int), World.cell? w'
 (Addr.add (Addr.mk g_1 0 none) 1) = some (Value.int IntKind.i64 x_11) ∧ ∃ (x_12 : Option Addr) (x_13 x_14 : Nat), World.cell? w' (Addr.add (Addr.mk g_1 0 none) 2) = some
 (Value.slice x_12 x_13 x_14) ∧ K (Value.tuple #[Value.agg #[Value.slice x x_9 x_10, Value.int IntKind.i64 x_11, Value.slice x_12 x_13 x_14], Value.int IntKind.i64 (60 : Int)]) w' else ∃ (x : Option
 Addr) (x_3 x_4 : Nat), World.cell? w'_1 (Addr.add (Addr.mk g 0 none) 2) = some (Value.slice x x_3 x_4) ∧ ((0 : Int) ≤ IntKind.wrap IntKind.i64 (n - (1 : Int)) ∧ IntKind.wrap IntKind.i64
 (n - (1 : Int)) ≤ (↑x_4 : Int)) ∧ stOK (Addr.add (Addr.mk g 0 none) 2) 0 [Value.slice (cutAt x x_4 0 2) (Int.toNat (IntKind.wrap IntKind.i64 (n - (1 : Int))) - 0) (x_4 - 0)] w'_1 ∧ ∀ (w' :
 World), w' = setAll (Addr.add (Addr.mk g 0 none) 2) 0 [Value.slice (cutAt x x_4 0 2) (Int.toNat (IntKind.wrap IntKind.i64 (n - (1 : Int))) - 0) (x_4 - 0)] w'_1 → ∃ (x : Option Addr) (x_5 x_6 :
 Nat), World.cell? w' (Addr.add (Addr.mk g 0 none) 0) = some (Value.slice x x_5 x_6) ∧ ∃ (x_7 : Int), World.cell? w' (Addr.add (Addr.mk g 0 none) 1) = some (Value.int
 IntKind.i64 x_7) ∧ ∃ (x_8 : Option Addr) (x_9 x_10 : Nat), World.cell? w' (Addr.add (Addr.mk g 0 none) 2) = some (Value.slice x_8 x_9 x_10) ∧ stOK (Addr.mk g_1 0 none) 0
 [Value.slice x x_5 x_6, Value.int IntKind.i64 x_7, Value.slice x_8 x_9 x_10] w' ∧ ∀ (w'_2 : World), w'_2 = setAll (Addr.mk g_1 0 none) 0 [Value.slice x x_5 x_6, Value.int IntKind.i64 x_7,
 Value.slice x_8 x_9 x_10] w' → ∃ (x : Option Addr) (x_11 x_12 : Nat), World.cell? w'_2 (Addr.add (Addr.mk g_1 0 none) 0) = some (Value.slice x x_11 x_12) ∧ ∃ (x_13 : Int), World.cell?
 w'_2 (Addr.add (Addr.mk g_1 0 none) 1) = some (Value.int IntKind.i64 x_13) ∧ ∃ (x_14 : Option Addr) (x_15 x_16 : Nat), World.cell? w'_2 (Addr.add (Addr.mk g_1 0 none) 2) =
 some (Value.slice x_14 x_15 x_16) ∧ K (Value.tuple #[Value.agg #[Value.slice x x_11 x_12, Value.int IntKind.i64 x_13, Value.slice x_14 x_15 x_16], Value.int IntKind.i64 (0 : Int)]) w'_2
theorem cardindexref05_Store_Free.calls (ok : Okay Try.prog) {s0_A : Option Addr} {s0_n : Nat} {s0_c : Nat} {s1 : Int} {s2_A : Option Addr} {s2_n : Nat} {s2_c : Nat} {n : Int} {w : World} {K : Value → World → Prop} (h : cardindexref05_Store_Free.W s0_A s0_n s0_c s1 s2_A s2_n s2_c n w K) : CallsV Try.prog 46 #[.agg #[.slice s0_A s0_n s0_c, .int .i64 s1, .slice s2_A s2_n s2_c], .int .i64 n] w K :=
  fnW_calls ok Try.func46 (an := (.named .auto)) (args := [.agg #[.slice s0_A s0_n s0_c, .int .i64 s1, .slice s2_A s2_n s2_c], .int .i64 n]) (Eq.mp (by kernel_rfl) h)
noncomputable def cardindexref05_Store_Ids.W : Option Addr → Nat → Nat → Int → Option Addr → Nat → Nat → World → (Value → World → Prop) → Prop := fun (s0_A : Option Addr) (s0_n s0_c : Nat) (s1 : Int)
 (s2_A : Option Addr) (s2_n s2_c : Nat) (w : World) (K : Value → World → Prop) => ∀ (g : Nat) (w' : World), Fresh w g w' [Value.slice s0_A s0_n s0_c, Value.int IntKind.i64 s1, Value.slice s2_A s2_n
 s2_c] 64 → ∃ (I : Option Addr → Nat → Nat → Int → World → Prop) (μ : Option Addr → Nat → Nat → Int → World → Nat), I none 0 0 (0 : Int) w' ∧ ∀ (x : Option Addr) (x_1 x_2 : Nat) (x_3 : Int) (w :
 World), I x x_1 x_2 x_3 w → ∃ (x_4 : Option Addr) (x_5 x_6 : Nat), World.cell? w (Addr.add (Addr.add (Addr.mk g 0 none) 0) 0) = some (Value.slice x_4 x_5 x_6) ∧ bif decide (x_3
 < (↑x_5 : Int)) then ∃ (x_7 : Option Addr) (x_8 x_9 : Nat), World.cell? w (Addr.add (Addr.add (Addr.mk g 0 none) 0) 0) = some (Value.slice x_7 x_8 x_9) ∧ ∃ (ad : Addr), x_7 = some
 ad ∧ ((0 : Int) ≤ x_3 ∧ x_3 < (↑x_8 : Int)) ∧ ∃ (x_10 : Int), World.cell? w (Addr.add (Addr.add ad (Int.toNat x_3 * 2)) 0) = some (Value.int IntKind.i64 x_10) ∧ ∀ (g : Nat) (w' : World), Fresh w
 g w' [Value.int IntKind.i64 x_10] 3 → ∃ (x_11 : Option Addr) (x_12 x_13 : Nat) (w'_1 : World), RunsTo Try.prog (Builtin.append_ (Array.mk [37, 37]) 37 #[Value.slice x x_1 x_2, Value.slice (some
 (Addr.mk g 0 none)) 1 1]) w' (Value.slice x_11 x_12 x_13) w'_1 ∧ I x_11 x_12 x_13 (IntKind.wrap IntKind.i64 (x_3 + (1 : Int))) w'_1 ∧ μ x_11 x_12 x_13 (IntKind.wrap IntKind.i64 (x_3 + (1 :
 Int))) w'_1 < μ x x_1 x_2 x_3 w else K (Value.slice x x_1 x_2) w
theorem cardindexref05_Store_Ids.calls (ok : Okay Try.prog) {s0_A : Option Addr} {s0_n : Nat} {s0_c : Nat} {s1 : Int} {s2_A : Option Addr} {s2_n : Nat} {s2_c : Nat} {w : World} {K : Value → World → Prop} (h : cardindexref05_Store_Ids.W s0_A s0_n s0_c s1 s2_A s2_n s2_c w K) : CallsV Try.prog 47 #[.agg #[.slice s0_A s0_n s0_c, .int .i64 s1, .slice s2_A s2_n s2_c]] w K :=
  fnW_calls ok Try.func47 (an := (.named (.seq .auto (.seq .auto (.seq (.seq .auto (.block (.loop [(3, .one .slc), (4, .one (.int .i64))] .auto))) .auto))))) (args := [.agg #[.slice s0_A s0_n s0_c, .int .i64 s1, .slice s2_A s2_n s2_c]]) (Eq.mp (by kernel_rfl) h)
end Go.Proofs.Ythfagbfllheneaa
set_option linter.unusedVariables false
set_option linter.unusedSimpArgs false
namespace Go.Proofs.Ythfagbfllheneaa
open Go Go.Sx T4
def KTs : Kd (List (Int × Es) × Int) := ⟨2, fun Ω w p cs => ∃ a c, cs = [.slice a p.1.length c, .int .i64 p.2] ∧ TrR Ω w a c p.1, fun ⟨_, _, h, _⟩ => by simp [h], fun ⟨a, c, h, h1⟩ st => ⟨a, c, h, h1.keep st⟩⟩
theorem KTs_pos : 0 < KTs.size := by decide
theorem slTs : SlT Try.prog 62 61 2 32 [.slice none 0 0, .int .i64 0] := ⟨by kernel_rfl, ⟨Try.t61, by kernel_rfl, by kernel_rfl, by kernel_rfl, .agg #[.slice none 0 0, .int .i64 0], by kernel_rfl, by kernel_rfl⟩, rfl, by decide⟩
theorem oneTs {Ω : Nat → Prop} {w : World} {p : List (Int × Es) × Int} {cs : List Value} (h : KTs.rep Ω w p cs) : ∀ v ∈ cs, v.oneCell' = true := by
  obtain ⟨a, c, rfl, _⟩ := h
  intro v hv
  simp at hv
  rcases hv with rfl | rfl <;> rfl
theorem tsCell {Ω : Nat → Prop} {w : World} {A : Option Addr} {l : List (List (Int × Es) × Int)} (h : Imm KTs Ω w A l) {j : Nat} {p : List (Int × Es) × Int} (hj : l[j]? = some p) : ∃ ad B c, A = some ad ∧ w.cell? ((ad.add (j * 2)).add 0) = some (.slice B p.1.length c) ∧ w.cell? ((ad.add (j * 2)).add 1) = some (.int .i64 p.2) ∧ TrR Ω w B c p.1 := by
  obtain ⟨ad, hA, _, cs, ⟨B, c, rfl, h1⟩, hc⟩ := h j p hj
  exact ⟨ad, B, c, hA, by rw [add_add]; exact hc 0 _ rfl, by rw [add_add]; exact hc 1 _ rfl, h1⟩
structure StR (Ω : Nat → Prop) (w : World) (TA : Option Addr) (tc : Nat) (F : List (Int × Es)) (MA : Option Addr) (mc : Nat) (Ms : List (List (Int × Es) × Int)) : Prop where
  t : TrR Ω w TA tc F
  m : Imm KTs Ω w MA Ms
  c : Ms.length ≤ mc
abbrev sV (TA : Option Addr) (tc : Nat) (F : List (Int × Es)) (la : Int) (MA : Option Addr) (mc : Nat) (n : Nat) : Value := .agg #[.slice TA F.length tc, .int .i64 la, .slice MA n mc]
section
variable {Ω : Nat → Prop} {w : World} {TA : Option Addr} {tc : Nat} {F : List (Int × Es)} {la : Int} {MA : Option Addr} {mc : Nat} {Ms : List (List (Int × Es) × Int)}
theorem StR.keep (h : StR Ω w TA tc F MA mc Ms) {Ω' : Nat → Prop} {w' : World} (st : Step Ω w Ω' w') : StR Ω' w' TA tc F MA mc Ms := ⟨h.t.keep st, h.m.keep KTs_pos st, h.c⟩
theorem StR.ext (h : StR Ω w TA tc F MA mc Ms) {w' : World} (e : Ext w w') : StR Ω w' TA tc F MA mc Ms := h.keep (e.step Ω)
theorem fin3 {u : World} {g1 : Nat} {b0 b1 b2 c0 c1 c2 : Value} (ew : Ext w u) (hb1 : Blk u g1 [b0, b1, b2]) (hg1 : w.heap.size ≤ g1) : stOK ⟨g1, 0, none⟩ 0 [c0, c1, c2] u ∧ ∀ w', w' = setAll ⟨g1, 0, none⟩ 0 [c0, c1, c2] u → Ext w w' ∧ Blk w' g1 [c0, c1, c2] := by
  refine ⟨hb1.stOK (o := 0) [_, _, _] 0 (by simp), fun w' hw' => ?_⟩
  have b' : Blk w' g1 [c0, c1, c2] := by rw [hw']; exact Blk.setAll (o := 0) [c0, c1, c2] 0 hb1
  have f' : Fr (fun k => k = g1) u w' := by rw [hw']; exact Fr.setAll _ _ _
  exact ⟨ew.trans f' (fun _ _ h => h) (fun k hk e => by have e : k = g1 := e; omega), b'⟩
theorem rFree (h : StR Ω w TA tc F MA mc Ms) (hl : Ms.length ≤ 1000) (n : Int) : CallsV Try.prog 46 #[sV TA tc F la MA mc Ms.length, .int .i64 n] w fun r w' => Ext w w' ∧ (((n < 1 ∨ (Ms.length : Int) < n) ∧ r = .tuple #[sV TA tc F la MA mc Ms.length, .int .i64 60]) ∨ (1 ≤ n ∧ n ≤ (Ms.length : Int) ∧ r = .tuple #[sV TA tc F la MA mc (Ms.take (n - 1).toNat).length, .int .i64 0] ∧ StR Ω w' TA tc F MA mc (Ms.take (n - 1).toNat))) := by
  refine cardindexref05_Store_Free.calls okay ?_
  unfold cardindexref05_Store_Free.W
  intro g w1 f1 g1 w2 f2
  have e12 : Ext w w2 := f1.ext.trans' f2.ext
  have b1 := f1.blk.ext f2.ext
  have hne : g1 ≠ g := fun e => by have := f1.blk.lt; have := f2.ge; omega
  have hg1 : w.heap.size ≤ g1 := Nat.le_trans f1.ext.size f2.ge
  have hg : w.heap.size ≤ g := f1.ge
  refine brd (fun hn => ⟨_, _, _, b1.cell rfl, _, b1.cell rfl, _, _, _, b1.cell rfl, (fin3 e12 f2.blk hg1).1, fun u' hu => have h9 := (fin3 e12 f2.blk hg1).2 u' hu; have e' := h9.1; ⟨_, _, _, h9.2.cell rfl, _, h9.2.cell rfl, _, _, _, h9.2.cell rfl, e', .inl ⟨.inl hn, rfl⟩⟩⟩) fun hn => ⟨_, _, _, b1.cell rfl, brd (fun hn2 => ⟨_, _, _, b1.cell rfl, _, b1.cell rfl, _, _, _, b1.cell rfl, (fin3 e12 f2.blk hg1).1, fun u' hu => have h9 := (fin3 e12 f2.blk hg1).2 u' hu; have e' := h9.1; ⟨_, _, _, h9.2.cell rfl, _, h9.2.cell rfl, _, _, _, h9.2.cell rfl, e', .inl ⟨.inr hn2, rfl⟩⟩⟩) fun hn2 => ⟨_, _, _, b1.cell rfl, ?_⟩⟩
  have hw : IntKind.i64.wrap (n - 1) = (((n - 1).toNat : Nat) : Int) := by rw [wi _ (by omega) (by omega)]; omega
  obtain ⟨k, hk⟩ : ∃ k, (n - 1).toNat = k := ⟨_, rfl⟩
  rw [hk] at hw ⊢
  have hc := h.c
  rw [hw, cutAt_zero, Int.toNat_natCast, Nat.sub_zero, Nat.sub_zero]
  obtain ⟨p1, p2⟩ := setF b1 (o := 2) (by simp) (.slice MA k mc)
  refine ⟨⟨by omega, by omega⟩, p1, fun w3 hw3 => ?_⟩
  obtain ⟨b3, f3⟩ := p2 w3 hw3
  have e3 : Ext w w3 := e12.trans f3 (fun _ _ h => h) (fun k hk e => by have e : k = g := e; omega)
  have hlk : (Ms.take k).length = k := by rw [List.length_take]; omega
  refine ⟨_, _, _, b3.cell rfl, _, b3.cell rfl, _, _, _, b3.cell rfl, (fin3 e3 (f2.blk.keep f3 hne) hg1).1, fun u' hu => have h9 := (fin3 e3 (f2.blk.keep f3 hne) hg1).2 u' hu; have e' := h9.1; ⟨_, _, _, h9.2.cell rfl, _, h9.2.cell rfl, _, _, _, h9.2.cell rfl, e', .inr ⟨by omega, by omega, by rw [hlk], (h.t.ext e'), ?_, by rw [hlk]; omega⟩⟩⟩
  have := (h.m.ext KTs_pos e').cut (lo := 0) (hi := k) (m := k) (Nat.le_refl _)
  rwa [cutAt_zero, List.drop_zero] at this
theorem rBack (h : StR Ω w TA tc F MA mc Ms) (hl : Ms.length ≤ 1000) (n : Int) : CallsV Try.prog 45 #[sV TA tc F la MA mc Ms.length, .int .i64 n] w fun r w' => Ext w w' ∧ (((n < 1 ∨ (Ms.length : Int) < n) ∧ r = .tuple #[sV TA tc F la MA mc Ms.length, .int .i64 60]) ∨ (1 ≤ n ∧ n ≤ (Ms.length : Int) ∧ ∃ F' la' TA' tc', Ms[(n - 1).toNat]? = some (F', la') ∧ r = .tuple #[sV TA' tc' F' la' MA mc (Ms.take (n - 1).toNat).length, .int .i64 0] ∧ StR Ω w' TA' tc' F' MA mc (Ms.take (n - 1).toNat))) := by
  refine cardindexref05_Store_Back.calls okay ?_
  unfold cardindexref05_Store_Back.W
  intro g w1 f1 g1 w2 f2
  have e12 : Ext w w2 := f1.ext.trans' f2.ext
  have b1 := f1.blk.ext f2.ext
  have hne : g1 ≠ g := fun e => by have := f1.blk.lt; have := f2.ge; omega
  have hg1 : w.heap.size ≤ g1 := Nat.le_trans f1.ext.size f2.ge
  have hg : w.heap.size ≤ g := f1.ge
  refine brd (fun hn => ⟨_, _, _, b1.cell rfl, _, b1.cell rfl, _, _, _, b1.cell rfl, (fin3 e12 f2.blk hg1).1, fun u' hu => have h9 := (fin3 e12 f2.blk hg1).2 u' hu; have e' := h9.1; ⟨_, _, _, h9.2.cell rfl, _, h9.2.cell rfl, _, _, _, h9.2.cell rfl, e', .inl ⟨.inl hn, rfl⟩⟩⟩) fun hn => ⟨_, _, _, b1.cell rfl, brd (fun hn2 => ⟨_, _, _, b1.cell rfl, _, b1.cell rfl, _, _, _, b1.cell rfl, (fin3 e12 f2.blk hg1).1, fun u' hu => have h9 := (fin3 e12 f2.blk hg1).2 u' hu; have e' := h9.1; ⟨_, _, _, h9.2.cell rfl, _, h9.2.cell rfl, _, _, _, h9.2.cell rfl, e', .inl ⟨.inr hn2, rfl⟩⟩⟩) fun hn2 => ⟨_, _, _, b1.cell rfl, ?_⟩⟩
  have hw : IntKind.i64.wrap (n - 1) = (((n - 1).toNat : Nat) : Int) := by rw [wi _ (by omega) (by omega)]; omega
  obtain ⟨k, hk⟩ : ∃ k, (n - 1).toNat = k := ⟨_, rfl⟩
  rw [hk] at hw ⊢
  have hc := h.c
  have hkl : k < Ms.length := by omega
  obtain ⟨⟨F', la'⟩, hp⟩ : ∃ p, Ms[k]? = some p := ⟨_, List.getElem?_eq_getElem hkl⟩
  obtain ⟨ad, B, cB, hA, c0, c1, hT⟩ := tsCell (h.m.ext KTs_pos e12) hp
  have ⟨p1, p2⟩ : stOK ((⟨g, 0, none⟩ : Addr).add 0) 0 [.slice B F'.length cB, .int .i64 la'] w2 ∧ ∀ w', w' = setAll ((⟨g, 0, none⟩ : Addr).add 0) 0 [.slice B F'.length cB, .int .i64 la'] w2 → Blk w' g [.slice B F'.length cB, .int .i64 la', .slice MA Ms.length mc] ∧ Fr (fun k => k = g) w2 w' := by
    rw [add_new]
    exact ⟨b1.stOK (o := 0) [_, _] 0 (by simp), fun w' hw' => by rw [hw']; exact ⟨Blk.setAll (o := 0) [.slice B F'.length cB, .int .i64 la'] 0 b1, Fr.setAll _ _ _⟩⟩
  rw [hw, Int.toNat_natCast]
  refine ⟨ad, hA, ⟨by omega, by omega⟩, _, _, _, c0, _, c1, p1, fun w3 hw3 => ?_⟩
  obtain ⟨b3, f3⟩ := p2 w3 hw3
  have e3 : Ext w w3 := e12.trans f3 (fun _ _ h => h) (fun k hk e => by have e : k = g := e; omega)
  obtain ⟨q1, q2⟩ := setF b3 (o := 2) (by simp) (.slice MA k mc)
  refine ⟨_, _, _, b3.cell rfl, ?_⟩
  rw [cutAt_zero, Nat.sub_zero, Nat.sub_zero]
  refine ⟨⟨by omega, by omega⟩, q1, fun w4 hw4 => ?_⟩
  obtain ⟨b4, f4⟩ := q2 w4 hw4
  have e4 : Ext w w4 := e3.trans f4 (fun _ _ h => h) (fun k hk e => by have e : k = g := e; omega)
  have hlk : (Ms.take k).length = k := by rw [List.length_take]; omega
  refine ⟨_, _, _, b4.cell rfl, _, b4.cell rfl, _, _, _, b4.cell rfl, (fin3 e4 ((f2.blk.keep f3 hne).keep f4 hne) hg1).1, fun u' hu => have h9 := (fin3 e4 ((f2.blk.keep f3 hne).keep f4 hne) hg1).2 u' hu; have e' := h9.1; ⟨_, _, _, h9.2.cell rfl, _, h9.2.cell rfl, _, _, _, h9.2.cell rfl, e', .inr ⟨by omega, by omega, F', la', B, cB, hp, by rw [hlk], ?_, ?_, by rw [hlk]; omega⟩⟩⟩
  · obtain ⟨ad', hA', _, cs, ⟨B', c', hcs, hT'⟩, hcc⟩ := h.m k _ hp
    obtain ⟨ad2, B2, cB2, hA2, d0, _, hT2⟩ := tsCell h.m hp
    rw [hA2] at hA
    obtain rfl := Option.some.inj hA
    have d0' := Ext.cell e12 d0
    rw [d0'] at c0
    obtain ⟨rfl, rfl⟩ : B2 = B ∧ cB2 = cB := by cases c0; exact ⟨rfl, rfl⟩
    exact hT2.ext e'
  · have := (h.m.ext KTs_pos e').cut (lo := 0) (hi := k) (m := k) (Nat.le_refl _)
    rwa [cutAt_zero, List.drop_zero] at this
set_option maxHeartbeats 400000 in
theorem rMark (h : StR Ω w TA tc F MA mc Ms) (hΩ : ∀ k, Ω k → k < w.heap.size) : CallsV Try.prog 44 #[sV TA tc F la MA mc Ms.length] w fun r w' => Ext w w' ∧ ((100 ≤ Ms.length ∧ r = .tuple #[sV TA tc F la MA mc Ms.length, .int .i64 0, .int .i64 5]) ∨ (Ms.length < 100 ∧ ∃ MA' mc', r = .tuple #[sV TA tc F la MA' mc' (Ms ++ [(F, la)]).length, iv (Ms.length + 1), .int .i64 0] ∧ StR Ω w' TA tc F MA' mc' (Ms ++ [(F, la)]))) := by
  refine cardindexref05_Store_Mark.calls okay ?_
  unfold cardindexref05_Store_Mark.W
  intro g w1 f1 g1 w2 f2
  have e12 : Ext w w2 := f1.ext.trans' f2.ext
  have b1 := f1.blk.ext f2.ext
  have hne : g1 ≠ g := fun e => by have := f1.blk.lt; have := f2.ge; omega
  have hg1 : w.heap.size ≤ g1 := Nat.le_trans f1.ext.size f2.ge
  have hg : w.heap.size ≤ g := f1.ge
  refine ⟨_, _, _, b1.cell rfl, brd (fun hn => ⟨_, _, _, b1.cell rfl, _, b1.cell rfl, _, _, _, b1.cell rfl, (fin3 e12 f2.blk hg1).1, fun u' hu => have h9 := (fin3 e12 f2.blk hg1).2 u' hu; have e' := h9.1; ⟨_, _, _, h9.2.cell rfl, _, h9.2.cell rfl, _, _, _, h9.2.cell rfl, e', .inl ⟨by omega, rfl⟩⟩⟩) fun hn => ⟨_, _, _, b1.cell rfl, ?_⟩⟩
  have hF : Imm (Kd.fix Ω w KTs) NoB w2 MA Ms := (fixI h.m).ext KTs_pos e12
  obtain ⟨A1, c1, w3, hr3, ho3, g3⟩ := appFix (K := KTs) slTs oneTs (ty := 62) (OwnK.nil (Kd.fix Ω w KTs) w2) hF (cb := mc) (fun k hk => (ownB_none k hk).elim) (by simp [maxLen]; omega) (by simp; omega)
  rw [List.nil_append] at hr3 ho3
  have e23 : Ext w2 w3 := g3.fr.mono (fun k _ hk => (ownB_none k hk).elim)
  have hX : ∀ k, ownB A1 k → w2.heap.size ≤ k := fun k hk => (g3.sub k hk).resolve_left fun h => (ownB_none k h).elim
  have b3 := b1.ext e23
  refine ⟨_, _, _, w3, hr3, _, _, _, b3.cell' rfl, _, b3.cell' rfl, ?_⟩
  rintro g4 w4 ⟨rfl, rfl⟩
  have hrep : KTs.rep Ω w (F, la) [.slice TA F.length tc, .int .i64 la] := ⟨TA, tc, rfl, h.t⟩
  obtain ⟨A5, c5, w5, hr5, ho5, g5⟩ := ho3.push (K := Kd.fix Ω w KTs) slTs (ty := 62) (a := (F, la)) (cs := [.slice TA F.length tc, .int .i64 la]) hrep (oneTs hrep) (e' := 61) (by simp only [maxLen]; omega) (by omega)
  have e35 : Ext w2 w5 := e23.trans g5.fr (fun _ _ h => h) (fun k hk ho => by have := hX k ho; omega)
  have hX5 : ∀ k, ownB A5 k → w2.heap.size ≤ k := fun k hk => by
    rcases g5.sub k hk with h | h
    · exact hX k h
    · have := e23.size; omega
  have b5 := b1.ext e35
  have hg2 := f1.blk.lt
  have s2 := f2.ext.size
  obtain ⟨p1, p2⟩ := setF b5 (o := 2) (by simp) (.slice A5 (Ms ++ [(F, la)]).length c5)
  refine ⟨_, _, _, w5, hr5, p1, fun w6 hw6 => ?_⟩
  obtain ⟨b6, f6⟩ := p2 w6 hw6
  have e06 : Ext w w6 := (e12.trans' e35).trans f6 (fun _ _ h => h) (fun k hk e => by have e : k = g := e; omega)
  have ho6 := ho5.fr f6 (fun k hk e => by have e : k = g := e; have := hX5 k hk; omega) (fun _ _ _ h => h)
  have bg6 := (f2.blk.ext e35).keep f6 hne
  have ed : Ext w6 w6.drew := Fr.drew NoB w6
  have b7 : Blk w6.drew g [.slice TA F.length tc, .int .i64 la, .slice A5 (Ms ++ [(F, la)]).length c5] := b6.ext ed
  refine ⟨fun v => Blk v g [.slice TA F.length tc, .int .i64 la, .slice A5 (Ms ++ [(F, la)]).length c5], b7, _, _, _, fun v hv => hv.cell rfl, _, fun v hv => hv.cell rfl, _, _, _, fun v hv => hv.cell rfl, _, _, _, fun v hv => hv.cell rfl, (bg6.ext ed).stOK (o := 0) [_, _, _] 0 (by simp), fun w8 hw8 => ?_⟩
  have b8 : Blk w8 g1 [.slice TA F.length tc, .int .i64 la, .slice A5 (Ms ++ [(F, la)]).length c5] := by rw [hw8]; exact Blk.setAll (o := 0) [.slice TA F.length tc, .int .i64 la, .slice A5 (Ms ++ [(F, la)]).length c5] 0 (bg6.ext ed)
  have f8 : Fr (fun k => k = g1) w6.drew w8 := by rw [hw8]; exact Fr.setAll _ _ _
  have e8 : Ext w w8 := (e06.trans' ed).trans f8 (fun _ _ h => h) (fun k hk e => by have e : k = g1 := e; omega)
  have hg12 := f2.blk.lt
  have ho8 := (ho6.ext ed).fr f8 (fun k hk e => by have e : k = g1 := e; have := hX5 k hk; omega) (fun _ _ _ h => h)
  refine ⟨b7.keep f8 hne.symm, _, _, _, b8.cell rfl, _, b8.cell rfl, _, _, _, b8.cell rfl, e8, .inr ⟨by omega, A5, c5, by simp, h.t.ext e8, ?_, ho8.le⟩⟩
  exact unfixI KTs_pos ho8 e8 fun k hk ht => by have := hX5 k hk; have := hΩ k ht; omega
theorem rIds (h : TrR Ω w TA tc F) (hl : F.length ≤ 1000) (n : Nat) : CallsV Try.prog 47 #[sV TA tc F la MA mc n] w fun r w' => ∃ A c, r = .slice A F.length c ∧ OwnK KI w' A c (F.map fun p => p.1) ∧ Ext w w' := by
  refine cardindexref05_Store_Ids.calls okay ?_
  unfold cardindexref05_Store_Ids.W
  intro g w1 f1
  refine ⟨fun X n cc x v => ∃ j : Nat, x = (j : Int) ∧ j ≤ F.length ∧ n = j ∧ Ext w1 v ∧ OwnK KI v X cc ((F.map fun p => p.1).take j) ∧ ∀ k, ownB X k → w1.heap.size ≤ k, fun _ _ _ x _ => (F.length - x).toNat, ⟨0, rfl, Nat.zero_le _, rfl, .refl _ _, by rw [List.take_zero]; exact OwnK.nil _ _, fun k hk => (ownB_none k hk).elim⟩, ?_⟩
  rintro X n' cc _ v ⟨j, rfl, hj, hn', e, hO, hX⟩
  obtain rfl : j = n' := hn'.symm
  have b := f1.blk.ext e
  refine ⟨_, _, _, b.cell' rfl, brd (fun hlt => ?_) (fun hge => ?_)⟩
  · have hjl : j < F.length := by omega
    obtain ⟨ad, B, cB, hA, c0, c1, _, _⟩ := trCell ((h.ext (f1.ext.trans' e)).1) (List.getElem?_eq_getElem hjl)
    refine ⟨_, _, _, b.cell' rfl, ad, hA, ⟨by omega, by omega⟩, _, by rw [Int.toNat_natCast]; exact c0, ?_⟩
    rintro g2 w2 ⟨rfl, rfl⟩
    have lt1 : ((F.map fun p => p.1).take j).length = j := by rw [List.length_take, List.length_map]; omega
    obtain ⟨A', c', w', hr, ho', gr⟩ := hO.push (K := KI) slI (ty := 37) (a := F[j].1) (cs := [.int .i64 F[j].1]) rfl (fun v hv => by simp at hv; subst hv; rfl) (e' := 3) (by rw [lt1]; simp only [maxLen]; omega) (by rw [lt1]; omega)
    have htk : (F.map fun p => p.1).take j ++ [F[j].1] = (F.map fun p => p.1).take (j + 1) := by rw [List.take_add_one]; simp [hjl]
    have lt2 : ((F.map fun p => p.1).take (j + 1)).length = j + 1 := by rw [List.length_take, List.length_map]; omega
    rw [htk, lt1, lt2] at hr
    rw [htk] at ho'
    rw [wi _ (by omega) (by omega)]
    exact ⟨_, _, _, w', hr, ⟨j + 1, by omega, by omega, rfl, e.trans gr.fr (fun _ _ h => h) (fun k hk ho => by have := hX k ho; omega), ho', fun k hk => (gr.sub k hk).elim (hX k) fun h => by have := e.size; omega⟩, by dsimp only; omega⟩
  · obtain rfl : j = F.length := by omega
    rw [List.take_of_length_le (by simp)] at hO
    exact ⟨X, cc, rfl, hO, f1.ext.trans' e⟩
end
end Go.Proofs.Ythfagbfllheneaa
set_option linter.unusedVariables false
set_option maxRecDepth 100000
namespace Go.Proofs.Ythfagbfllheneaa
open Go Go.Sx
noncomputable def cardindexlaw05_taken.W : Option Addr → World → (Value → World → Prop) → Prop := fun (s : Option Addr) (w : World) (K : Value → World → Prop) => ∀ (g : Nat) (w' : World), Fresh w g w'
 [Value.slice none 0 0, Value.slice none 0 0, Value.int IntKind.i64 (0 : Int), Value.int IntKind.i64 (0 : Int)] 40 → CallsV Try.prog 33 #[Value.pointer s] w' fun (v : Value) (w' : World)
 => ∃ (x : Option Addr) (x_1 x_2 : Nat), v = Value.slice x x_1 x_2 ∧ CallsV Try.prog 39 #[Value.pointer s] w' fun (v : Value) (w' : World) => ∃ (x_3 : Int), v = Value.int IntKind.i64 x_3 ∧ CallsV
 Try.prog 24 #[Value.pointer s] w' fun (v : Value) (w' : World) => ∃ (x_4 : Int), v = Value.int IntKind.i64 x_4 ∧ ∀ (g_1 : Nat) (w'_1 : World), Fresh w' g_1 w'_1 [Value.slice none 0 0,
 Value.slice none 0 0, Value.int IntKind.i64 (0 : Int), Value.int IntKind.i64 (0 : Int)] 40 → stOK (Addr.mk g_1 0 none) 0 [Value.slice x x_1 x_2, Value.slice none 0 0, Value.int
 IntKind.i64 x_3, Value.int IntKind.i64 x_4] w'_1 ∧ ∀ (w' : World), w' = setAll (Addr.mk g_1 0 none) 0 [Value.slice x x_1 x_2, Value.slice none 0 0, Value.int IntKind.i64 x_3, Value.int
 IntKind.i64 x_4] w'_1 → ∃ (x : Option Addr) (x_5 x_6 : Nat), World.cell? w' (Addr.add (Addr.mk g_1 0 none) 0) = some (Value.slice x x_5 x_6) ∧ ∃ (I : Int → World → Prop) (μ : Int → World
 → Nat), I (0 : Int) w' ∧ ∀ (x_7 : Int) (w : World), I x_7 w → bif decide (x_7 < (↑x_5 : Int)) then ∃ (ad : Addr), x = some ad ∧ ((0 : Int) ≤ x_7 ∧ x_7 < (↑x_5 : Int)) ∧ ∃ (x : Int),
 World.cell? w (Addr.add ad (Int.toNat x_7 * 1)) = some (Value.int IntKind.i64 x) ∧ CallsV Try.prog 50 #[Value.pointer s, Value.int IntKind.i64 x, Value.slice none 0 0, Value.bool
 true] w fun (v : Value) (w' : World) => ∃ (x_8 : Option Addr) (x_9 x_10 : Nat) (x_11 : Option Addr) (x_12 x_13 : Nat) (x_14 : Bool), v = Value.tuple #[Value.slice x_8 x_9 x_10, Value.slice x_11
 x_12 x_13, Value.bool x_14] ∧ ∃ (I_1 : Option Addr → Nat → Nat → Option Addr → Nat → Nat → Option Addr → Nat → Nat → Bool → World → Prop) (μ_1 : Option Addr → Nat → Nat → Option Addr → Nat → Nat →
 Option Addr → Nat → Nat → Bool → World → Nat), I_1 none 0 0 x_8 x_9 x_10 x_11 x_12 x_13 x_14 w' ∧ ∀ (x_15 : Option Addr) (x_16 x_17 : Nat) (x_18 : Option Addr) (x_19 x_20 : Nat) (x_21 : Option
 Addr) (x_22 x_23 : Nat) (x_24 : Bool) (w_1 : World), I_1 x_15 x_16 x_17 x_18 x_19 x_20 x_21 x_22 x_23 x_24 w_1 → bif x_24 then bif decide ((↑x_16 : Int) < (1000 : Int)) then ∀ (g : Nat) (w' :
 World), Fresh w_1 g w' [Value.slice x_18 x_19 x_20, Value.slice x_21 x_22 x_23] 125 → ∃ (x_25 : Option Addr) (x_26 x_27 : Nat) (w'_2 : World), RunsTo Try.prog (Builtin.append_ (Array.mk [123, 123]) 123
 #[Value.slice x_15 x_16 x_17, Value.slice (some (Addr.mk g 0 none)) 1 1]) w' (Value.slice x_25 x_26 x_27) w'_2 ∧ CallsV Try.prog 50 #[Value.pointer s, Value.int IntKind.i64 x, Value.slice
 x_18 x_19 x_20, Value.bool false] w'_2 fun (v : Value) (w' : World) => ∃ (x : Option Addr) (x_28 x_29 : Nat) (x_30 : Option Addr) (x_31 x_32 : Nat) (x_33 : Bool), v = Value.tuple #[Value.slice x
 x_28 x_29, Value.slice x_30 x_31 x_32, Value.bool x_33] ∧ I_1 x_25 x_26 x_27 x x_28 x_29 x_30 x_31 x_32 x_33 w' ∧ μ_1 x_25 x_26 x_27 x x_28 x_29 x_30 x_31 x_32 x_33 w' < μ_1 x_15 x_16 x_17 x_18 x_19
 x_20 x_21 x_22 x_23 x_24 w_1 else ∃ (x : Option Addr) (x_25 x_26 : Nat), World.cell? w_1 (Addr.add (Addr.mk g_1 0 none) 1) = some (Value.slice x x_25 x_26) ∧ ∀ (g : Nat) (w' : World),
 Fresh w_1 g w' [Value.slice x_15 x_16 x_17] 123 → ∃ (x_27 : Option Addr) (x_28 x_29 : Nat) (w'_2 : World), RunsTo Try.prog (Builtin.append_ (Array.mk [38, 38]) 38 #[Value.slice x x_25 x_26, Value.slice
 (some (Addr.mk g 0 none)) 1 1]) w' (Value.slice x_27 x_28 x_29) w'_2 ∧ stOK (Addr.add (Addr.mk g_1 0 none) 1) 0 [Value.slice x_27 x_28 x_29] w'_2 ∧ ∀ (w' : World), w' = setAll
 (Addr.add (Addr.mk g_1 0 none) 1) 0 [Value.slice x_27 x_28 x_29] w'_2 → I (IntKind.wrap IntKind.i64 (x_7 + (1 : Int))) w' ∧ μ (IntKind.wrap IntKind.i64 (x_7 + (1 : Int))) w' < μ x_7 w else ∃ (x
 : Option Addr) (x_25 x_26 : Nat), World.cell? w_1 (Addr.add (Addr.mk g_1 0 none) 1) = some (Value.slice x x_25 x_26) ∧ ∀ (g : Nat) (w' : World), Fresh w_1 g w' [Value.slice x_15 x_16
 x_17] 123 → ∃ (x_27 : Option Addr) (x_28 x_29 : Nat) (w'_2 : World), RunsTo Try.prog (Builtin.append_ (Array.mk [38, 38]) 38 #[Value.slice x x_25 x_26, Value.slice (some (Addr.mk g 0
 none)) 1 1]) w' (Value.slice x_27 x_28 x_29) w'_2 ∧ stOK (Addr.add (Addr.mk g_1 0 none) 1) 0 [Value.slice x_27 x_28 x_29] w'_2 ∧ ∀ (w' : World), w' = setAll (Addr.add (Addr.mk g_1 0
 none) 1) 0 [Value.slice x_27 x_28 x_29] w'_2 → I (IntKind.wrap IntKind.i64 (x_7 + (1 : Int))) w' ∧ μ (IntKind.wrap IntKind.i64 (x_7 + (1 : Int))) w' < μ x_7 w else ∃ (x : Option Addr) (x_8 x_9 :
 Nat), World.cell? w (Addr.add (Addr.mk g_1 0 none) 0) = some (Value.slice x x_8 x_9) ∧ ∃ (x_10 : Option Addr) (x_11 x_12 : Nat), World.cell? w (Addr.add (Addr.mk g_1 0 none) 1) =
 some (Value.slice x_10 x_11 x_12) ∧ ∃ (x_13 : Int), World.cell? w (Addr.add (Addr.mk g_1 0 none) 2) = some (Value.int IntKind.i64 x_13) ∧ ∃ (x_14 : Int), World.cell? w (Addr.add
 (Addr.mk g_1 0 none) 3) = some (Value.int IntKind.i64 x_14) ∧ stOK (Addr.mk g 0 none) 0 [Value.slice x x_8 x_9, Value.slice x_10 x_11 x_12, Value.int IntKind.i64 x_13, Value.int
 IntKind.i64 x_14] w ∧ ∀ (w' : World), w' = setAll (Addr.mk g 0 none) 0 [Value.slice x x_8 x_9, Value.slice x_10 x_11 x_12, Value.int IntKind.i64 x_13, Value.int IntKind.i64 x_14] w → ∃ (x :
 Option Addr) (x_15 x_16 : Nat), World.cell? w' (Addr.add (Addr.mk g 0 none) 0) = some (Value.slice x x_15 x_16) ∧ ∃ (x_17 : Option Addr) (x_18 x_19 : Nat), World.cell? w' (Addr.add
 (Addr.mk g 0 none) 1) = some (Value.slice x_17 x_18 x_19) ∧ ∃ (x_20 : Int), World.cell? w' (Addr.add (Addr.mk g 0 none) 2) = some (Value.int IntKind.i64 x_20) ∧ ∃ (x_21 :
 Int), World.cell? w' (Addr.add (Addr.mk g 0 none) 3) = some (Value.int IntKind.i64 x_21) ∧ K (Value.agg #[Value.slice x x_15 x_16, Value.slice x_17 x_18 x_19, Value.int IntKind.i64 x_20,
 Value.int IntKind.i64 x_21]) w'
theorem cardindexlaw05_taken.calls (ok : Okay Try.prog) {s : Option Addr} {w : World} {K : Value → World → Prop} (h : cardindexlaw05_taken.W s w K) : CallsV Try.prog 22 #[.pointer s] w K :=
  fnW_calls ok Try.func22 (an := (.named (.seq .auto (.seq .auto (.seq (.seq .auto (.block (.loop [(20, .one (.int .i64))] (.seq .auto (.seq .auto (.seq (.block (.seq .auto (.seq .auto (.seq .auto (.seq (.block (.loop [(6, .one .slc), (7, .one .slc), (8, .one .slc), (9, .one .bool)] .auto)) .auto))))) .auto)))))) .auto))))) (args := [.pointer s]) (Eq.mp (by kernel_rfl) h)
noncomputable def cardindexlaw05_alike.W : Option Addr → Nat → Nat → Option Addr → Nat → Nat → Int → Int → Option Addr → Nat → Nat → Option Addr → Nat → Nat → Int → Int → World → (Value → World → Prop)
 → Prop := fun (a0_A : Option Addr) (a0_n a0_c : Nat) (a1_A : Option Addr) (a1_n a1_c : Nat) (a2 a3 : Int) (b0_A : Option Addr) (b0_n b0_c : Nat) (b1_A : Option Addr) (b1_n b1_c : Nat) (b2 b3 : Int) (w
 : World) (K : Value → World → Prop) => ∀ (g : Nat) (w' : World), Fresh w g w' [Value.slice a0_A a0_n a0_c, Value.slice a1_A a1_n a1_c, Value.int IntKind.i64 a2, Value.int IntKind.i64 a3] 40 → ∀ (g_1 :
 Nat) (w'_1 : World), Fresh w' g_1 w'_1 [Value.slice b0_A b0_n b0_c, Value.slice b1_A b1_n b1_c, Value.int IntKind.i64 b2, Value.int IntKind.i64 b3] 40 → ∃ (x : Int), World.cell? w'_1 (Addr.add (Addr.mk
 g 0 none) 2) = some (Value.int IntKind.i64 x) ∧ ∃ (x_1 : Int), World.cell? w'_1 (Addr.add (Addr.mk g_1 0 none) 2) = some (Value.int IntKind.i64 x_1) ∧ bif !decide
 (x = x_1) then K (Value.bool false) w'_1 else ∃ (x : Option Addr) (x_2 x_3 : Nat), World.cell? w'_1 (Addr.add (Addr.mk g 0 none) 0) = some (Value.slice x x_2 x_3) ∧ ∃ (x_4 : Option
 Addr) (x_5 x_6 : Nat), World.cell? w'_1 (Addr.add (Addr.mk g_1 0 none) 0) = some (Value.slice x_4 x_5 x_6) ∧ CallsV Try.prog 32 #[Value.slice x x_2 x_3, Value.slice x_4 x_5 x_6] w'_1 fun
 (v : Value) (w' : World) => ∃ (x : Bool), v = Value.bool x ∧ bif !x then K (Value.bool false) w' else ∃ (x : Option Addr) (x_7 x_8 : Nat), World.cell? w' (Addr.add (Addr.mk g 0 none) 1) =
 some (Value.slice x x_7 x_8) ∧ ∃ (x : Option Addr) (x_9 x_10 : Nat), World.cell? w' (Addr.add (Addr.mk g_1 0 none) 1) = some (Value.slice x x_9 x_10) ∧ bif !decide ((↑x_7
 : Int) = (↑x_9 : Int)) then K (Value.bool false) w' else ∃ (x : Option Addr) (x_11 x_12 : Nat), World.cell? w' (Addr.add (Addr.mk g 0 none) 1) = some (Value.slice x x_11 x_12) ∧ ∃ (I
 : Int → World → Prop) (μ : Int → World → Nat), I (0 : Int) w' ∧ ∀ (x : Int) (w : World), I x w → bif decide (x < (↑x_11 : Int)) then ∃ (S : World → Prop), S (World.drew w) ∧ ∃ (x_13 : Option
 Addr) (x_14 x_15 : Nat), (∀ (u : World), S u → World.cell? u (Addr.add (Addr.mk g 0 none) 1) = some (Value.slice x_13 x_14 x_15)) ∧ ∃ (ad : Addr), x_13 = some ad ∧ ((0 : Int) ≤ x ∧
 x < (↑x_14 : Int)) ∧ ∃ (x_16 : Option Addr) (x_17 x_18 : Nat), (∀ (u : World), S u → World.cell? u (Addr.add ad (Int.toNat x * 1)) = some (Value.slice x_16 x_17 x_18)) ∧ ∃ (x_19 : Option Addr)
 (x_20 x_21 : Nat), (∀ (u : World), S u → World.cell? u (Addr.add (Addr.mk g_1 0 none) 1) = some (Value.slice x_19 x_20 x_21)) ∧ ∃ (ad : Addr), x_19 = some ad ∧ ((0 : Int) ≤ x ∧ x <
 (↑x_20 : Int)) ∧ ∃ (x_22 : Option Addr) (x_23 x_24 : Nat), (∀ (u : World), S u → World.cell? u (Addr.add ad (Int.toNat x * 1)) = some (Value.slice x_22 x_23 x_24)) ∧ bif !decide
 ((↑x_17 : Int) = (↑x_23 : Int)) then K (Value.bool false) (World.drew w) else ∃ (x_25 : Option Addr) (x_26 x_27 : Nat), World.cell? (World.drew w) (Addr.add (Addr.mk g 0 none) 1) =
 some (Value.slice x_25 x_26 x_27) ∧ ∃ (ad : Addr), x_25 = some ad ∧ ((0 : Int) ≤ x ∧ x < (↑x_26 : Int)) ∧ ∃ (x_28 : Option Addr) (x_29 x_30 : Nat), World.cell? (World.drew w) (Addr.add ad
 (Int.toNat x * 1)) = some (Value.slice x_28 x_29 x_30) ∧ ∃ (I_1 : Int → World → Prop) (μ_1 : Int → World → Nat), I_1 (0 : Int) (World.drew w) ∧ ∀ (x_31 : Int) (w_1 : World), I_1 x_31 w_1 → bif
 decide (x_31 < (↑x_29 : Int)) then ∃ (S : World → Prop), S (World.drew w_1) ∧ ∃ (x_32 : Option Addr) (x_33 x_34 : Nat), (∀ (u : World), S u → World.cell? u (Addr.add (Addr.mk g 0 none)
 1) = some (Value.slice x_32 x_33 x_34)) ∧ ∃ (ad : Addr), x_32 = some ad ∧ ((0 : Int) ≤ x ∧ x < (↑x_33 : Int)) ∧ ∃ (x_35 : Option Addr) (x_36 x_37 : Nat), (∀ (u : World), S u → World.cell?
 u (Addr.add ad (Int.toNat x * 1)) = some (Value.slice x_35 x_36 x_37)) ∧ ∃ (ad : Addr), x_35 = some ad ∧ ((0 : Int) ≤ x_31 ∧ x_31 < (↑x_36 : Int)) ∧ ∃ (x_38 : Option Addr) (x_39 x_40 :
 Nat), (∀ (u : World), S u → World.cell? u (Addr.add (Addr.add ad (Int.toNat x_31 * 2)) 0) = some (Value.slice x_38 x_39 x_40)) ∧ ∃ (x_41 : Option Addr) (x_42 x_43 : Nat), (∀ (u : World), S u →
 World.cell? u (Addr.add (Addr.mk g_1 0 none) 1) = some (Value.slice x_41 x_42 x_43)) ∧ ∃ (ad : Addr), x_41 = some ad ∧ ((0 : Int) ≤ x ∧ x < (↑x_42 : Int)) ∧ ∃ (x_44 : Option Addr)
 (x_45 x_46 : Nat), (∀ (u : World), S u → World.cell? u (Addr.add ad (Int.toNat x * 1)) = some (Value.slice x_44 x_45 x_46)) ∧ ∃ (ad : Addr), x_44 = some ad ∧ ((0 : Int) ≤ x_31 ∧ x_31 <
 (↑x_45 : Int)) ∧ ∃ (x_47 : Option Addr) (x_48 x_49 : Nat), (∀ (u : World), S u → World.cell? u (Addr.add (Addr.add ad (Int.toNat x_31 * 2)) 0) = some (Value.slice x_47 x_48 x_49)) ∧ CallsV
 Try.prog 68 #[Value.slice x_38 x_39 x_40, Value.slice x_47 x_48 x_49] (World.drew w_1) fun (v : Value) (w' : World) => ∃ (x_50 : Bool), v = Value.bool x_50 ∧ S w' ∧ bif !x_50 then K (Value.bool
 false) w' else ∃ (S_1 : World → Prop), S_1 w' ∧ ∃ (x_51 : Option Addr) (x_52 x_53 : Nat), (∀ (u : World), S_1 u → World.cell? u (Addr.add (Addr.mk g 0 none) 1) = some (Value.slice
 x_51 x_52 x_53)) ∧ ∃ (ad : Addr), x_51 = some ad ∧ ((0 : Int) ≤ x ∧ x < (↑x_52 : Int)) ∧ ∃ (x_54 : Option Addr) (x_55 x_56 : Nat), (∀ (u : World), S_1 u → World.cell? u (Addr.add ad (Int.toNat x
 * 1)) = some (Value.slice x_54 x_55 x_56)) ∧ ∃ (ad : Addr), x_54 = some ad ∧ ((0 : Int) ≤ x_31 ∧ x_31 < (↑x_55 : Int)) ∧ ∃ (x_57 : Option Addr) (x_58 x_59 : Nat), (∀ (u : World), S_1 u →
 World.cell? u (Addr.add (Addr.add ad (Int.toNat x_31 * 2)) 1) = some (Value.slice x_57 x_58 x_59)) ∧ ∃ (x_60 : Option Addr) (x_61 x_62 : Nat), (∀ (u : World), S_1 u → World.cell? u (Addr.add
 (Addr.mk g_1 0 none) 1) = some (Value.slice x_60 x_61 x_62)) ∧ ∃ (ad : Addr), x_60 = some ad ∧ ((0 : Int) ≤ x ∧ x < (↑x_61 : Int)) ∧ ∃ (x_63 : Option Addr) (x_64 x_65 : Nat), (∀ (u
 : World), S_1 u → World.cell? u (Addr.add ad (Int.toNat x * 1)) = some (Value.slice x_63 x_64 x_65)) ∧ ∃ (ad : Addr), x_63 = some ad ∧ ((0 : Int) ≤ x_31 ∧ x_31 < (↑x_64 : Int)) ∧ ∃ (x :
 Option Addr) (x_66 x_67 : Nat), (∀ (u : World), S_1 u → World.cell? u (Addr.add (Addr.add ad (Int.toNat x_31 * 2)) 1) = some (Value.slice x x_66 x_67)) ∧ CallsV Try.prog 68 #[Value.slice x_57
 x_58 x_59, Value.slice x x_66 x_67] w' fun (v : Value) (w' : World) => ∃ (x : Bool), v = Value.bool x ∧ S_1 w' ∧ S w' ∧ bif !x then K (Value.bool false) w' else I_1 (IntKind.wrap IntKind.i64 (x_31
 + (1 : Int))) w' ∧ μ_1 (IntKind.wrap IntKind.i64 (x_31 + (1 : Int))) w' < μ_1 x_31 w_1 else I (IntKind.wrap IntKind.i64 (x + (1 : Int))) w_1 ∧ μ (IntKind.wrap IntKind.i64 (x + (1 : Int))) w_1 < μ x w
 else K (Value.bool true) w
theorem cardindexlaw05_alike.calls (ok : Okay Try.prog) {a0_A : Option Addr} {a0_n : Nat} {a0_c : Nat} {a1_A : Option Addr} {a1_n : Nat} {a1_c : Nat} {a2 : Int} {a3 : Int} {b0_A : Option Addr} {b0_n : Nat} {b0_c : Nat} {b1_A : Option Addr} {b1_n : Nat} {b1_c : Nat} {b2 : Int} {b3 : Int} {w : World} {K : Value → World → Prop} (h : cardindexlaw05_alike.W a0_A a0_n a0_c a1_A a1_n a1_c a2 a3 b0_A b0_n b0_c b1_A b1_n b1_c b2 b3 w K) : CallsV Try.prog 21 #[.agg #[.slice a0_A a0_n a0_c, .slice a1_A a1_n a1_c, .int .i64 a2, .int .i64 a3], .agg #[.slice b0_A b0_n b0_c, .slice b1_A b1_n b1_c, .int .i64 b2, .int .i64 b3]] w K :=
  fnW_calls ok Try.func21 (an := (.named (.seq .auto (.seq .auto (.seq (.seq .auto (.block (.loop [(32, .one (.int .i64))] (.seq .auto (.seq .auto (.seq (.block (.seq .auto (.seq .auto (.seq .auto (.block (.loop [(54, .one (.int .i64))] .auto)))))) .auto)))))) .auto))))) (args := [.agg #[.slice a0_A a0_n a0_c, .slice a1_A a1_n a1_c, .int .i64 a2, .int .i64 a3], .agg #[.slice b0_A b0_n b0_c, .slice b1_A b1_n b1_c, .int .i64 b2, .int .i64 b3]]) (Eq.mp (by kernel_rfl) h)
noncomputable def cardindexlaw05_does.W : Option Addr → Int → Int → Int → Option Addr → Nat → Nat → Option Addr → Nat → Nat → World → (Value → World → Prop) → Prop := fun (s : Option Addr) (o0 o1 o2 :
 Int) (o3_A : Option Addr) (o3_n o3_c : Nat) (o4_A : Option Addr) (o4_n o4_c : Nat) (w : World) (K : Value → World → Prop) => ∀ (g : Nat) (w' : World), Fresh w g w' [Value.int IntKind.i64 o0, Value.int
 IntKind.i64 o1, Value.int IntKind.i64 o2, Value.slice o3_A o3_n o3_c, Value.slice o4_A o4_n o4_c] 30 → ∃ (x : Int), World.cell? w' (Addr.add (Addr.mk g 0 none) 0) = some (Value.int
 IntKind.i64 x) ∧ ∃ (J : Bool → World → Prop), (∀ (x_1 : Bool) (w : World), J x_1 w → bif x_1 then ∃ (x : Int), World.cell? w (Addr.add (Addr.mk g 0 none) 1) = some (Value.int IntKind.i64
 x) ∧ ∃ (x_2 : Option Addr) (x_3 x_4 : Nat), World.cell? w (Addr.add (Addr.mk g 0 none) 3) = some (Value.slice x_2 x_3 x_4) ∧ ∃ (x_5 : Option Addr) (x_6 x_7 : Nat), World.cell? w (Addr.add
 (Addr.mk g 0 none) 4) = some (Value.slice x_5 x_6 x_7) ∧ CallsV Try.prog 29 #[Value.pointer s, Value.int IntKind.i64 x, Value.slice x_2 x_3 x_4, Value.slice x_5 x_6 x_7] w fun (v : Value)
 (w' : World) => ∃ (x : Bool) (x_8 : Int), v = Value.tuple #[Value.bool x, Value.int IntKind.i64 x_8] ∧ K (Value.tuple #[]) w' else ∃ (J : Bool → World → Prop), (∀ (x_2 : Bool) (w : World), J x_2 w →
 bif x_2 then ∃ (x : Int), World.cell? w (Addr.add (Addr.mk g 0 none) 1) = some (Value.int IntKind.i64 x) ∧ ∃ (x_3 : Option Addr) (x_4 x_5 : Nat), World.cell? w (Addr.add (Addr.mk g 0
 none) 3) = some (Value.slice x_3 x_4 x_5) ∧ CallsV Try.prog 40 #[Value.pointer s, Value.int IntKind.i64 x, Value.slice x_3 x_4 x_5] w fun (v : Value) (w' : World) => ∃ (x : Bool) (x_6 :
 Int), v = Value.tuple #[Value.bool x, Value.int IntKind.i64 x_6] ∧ K (Value.tuple #[]) w' else bif decide (x = (7 : Int)) then CallsV Try.prog 26 #[Value.pointer s] w fun (v : Value) (w' :
 World) => ∃ (x x_3 : Int), v = Value.tuple #[Value.int IntKind.i64 x, Value.int IntKind.i64 x_3] ∧ K (Value.tuple #[]) w' else bif decide (x = (8 : Int)) then ∃ (x : Int), World.cell? w
 (Addr.add (Addr.mk g 0 none) 1) = some (Value.int IntKind.i64 x) ∧ CallsV Try.prog 31 #[Value.pointer s, Value.int IntKind.i64 x] w fun (v : Value) (w' : World) => ∃ (x : Int), v =
 Value.int IntKind.i64 x ∧ K (Value.tuple #[]) w' else K (Value.tuple #[]) w) ∧ bif decide (x = (5 : Int)) then J (decide (x = (5 : Int))) w else J (decide (x = (6 : Int)))
 w) ∧ bif decide (x = (1 : Int)) then J (decide (x = (1 : Int))) w' else bif decide (x = (2 : Int)) then J (decide (x = (2 : Int))) w' else bif decide
 (x = (3 : Int)) then J (decide (x = (3 : Int))) w' else J (decide (x = (4 : Int))) w'
theorem cardindexlaw05_does.calls (ok : Okay Try.prog) {s : Option Addr} {o0 : Int} {o1 : Int} {o2 : Int} {o3_A : Option Addr} {o3_n : Nat} {o3_c : Nat} {o4_A : Option Addr} {o4_n : Nat} {o4_c : Nat} {w : World} {K : Value → World → Prop} (h : cardindexlaw05_does.W s o0 o1 o2 o3_A o3_n o3_c o4_A o4_n o4_c w K) : CallsV Try.prog 17 #[.pointer s, .agg #[.int .i64 o0, .int .i64 o1, .int .i64 o2, .slice o3_A o3_n o3_c, .slice o4_A o4_n o4_c]] w K :=
  fnW_calls ok Try.func17 (an := (.named (.seq .auto (.seq .auto (.block (.join [(6, .one .bool)] .auto (.cond .auto (.join [(19, .one .bool)] .auto .auto)))))))) (args := [.pointer s, .agg #[.int .i64 o0, .int .i64 o1, .int .i64 o2, .slice o3_A o3_n o3_c, .slice o4_A o4_n o4_c]]) (Eq.mp (by kernel_rfl) h)
noncomputable def cardindexlaw05_small.W : Int → Int → Int → Option Addr → Nat → Nat → Option Addr → Nat → Nat → World → (Value → World → Prop) → Prop := fun (o0 o1 o2 : Int) (o3_A : Option Addr) (o3_n
 o3_c : Nat) (o4_A : Option Addr) (o4_n o4_c : Nat) (w : World) (K : Value → World → Prop) => ∀ (g : Nat) (w' : World), Fresh w g w' [Value.int IntKind.i64 o0, Value.int IntKind.i64 o1, Value.int
 IntKind.i64 o2, Value.slice o3_A o3_n o3_c, Value.slice o4_A o4_n o4_c] 30 → ∃ (x : Option Addr) (x_1 x_2 : Nat), World.cell? w' (Addr.add (Addr.mk g 0 none) 3) = some (Value.slice x x_1
 x_2) ∧ bif decide ((↑x_1 : Int) ≤ (100 : Int)) then ∃ (x : Option Addr) (x_3 x_4 : Nat), World.cell? w' (Addr.add (Addr.mk g 0 none) 4) = some (Value.slice x x_3 x_4) ∧ K
 (Value.bool (decide ((↑x_3 : Int) ≤ (100 : Int)))) w' else K (Value.bool false) w'
theorem cardindexlaw05_small.calls (ok : Okay Try.prog) {o0 : Int} {o1 : Int} {o2 : Int} {o3_A : Option Addr} {o3_n : Nat} {o3_c : Nat} {o4_A : Option Addr} {o4_n : Nat} {o4_c : Nat} {w : World} {K : Value → World → Prop} (h : cardindexlaw05_small.W o0 o1 o2 o3_A o3_n o3_c o4_A o4_n o4_c w K) : CallsV Try.prog 16 #[.agg #[.int .i64 o0, .int .i64 o1, .int .i64 o2, .slice o3_A o3_n o3_c, .slice o4_A o4_n o4_c]] w K :=
  fnW_calls ok Try.func16 (an := (.named .auto)) (args := [.agg #[.int .i64 o0, .int .i64 o1, .int .i64 o2, .slice o3_A o3_n o3_c, .slice o4_A o4_n o4_c]]) (Eq.mp (by kernel_rfl) h)
end Go.Proofs.Ythfagbfllheneaa
set_option linter.unusedVariables false
set_option linter.unusedSimpArgs false
namespace Go.Proofs.Ythfagbfllheneaa
open Go Go.Sx T4
structure Op5 where
  kind : Int
  id : Int
  n : Int
  key : Key
  val : Key
def KOp : Kd Op5 := ⟨5, fun Ω w o cs => ∃ a b, cs = [.int .i64 o.kind, .int .i64 o.id, .int .i64 o.n, a, b] ∧ KBs.rep Ω w o.key [a] ∧ KBs.rep Ω w o.val [b], fun ⟨_, _, h, _⟩ => by simp [h], fun ⟨a, b, h, h1, h2⟩ st => ⟨a, b, h, KBs.keep h1 st, KBs.keep h2 st⟩⟩
theorem opCell {Ω : Nat → Prop} {w : World} {A : Option Addr} {l : List Op5} (h : Imm KOp Ω w A l) {j : Nat} (hj : j < l.length) : ∃ ad KA kc VA vc, A = some ad ∧ w.cell? ((ad.add (j * 5)).add 0) = some (.int .i64 l[j].kind) ∧ w.cell? ((ad.add (j * 5)).add 1) = some (.int .i64 l[j].id) ∧ w.cell? ((ad.add (j * 5)).add 2) = some (.int .i64 l[j].n) ∧ w.cell? ((ad.add (j * 5)).add 3) = some (.slice KA l[j].key.length kc) ∧ w.cell? ((ad.add (j * 5)).add 4) = some (.slice VA l[j].val.length vc) ∧ Imm KB Ω w KA l[j].key ∧ Imm KB Ω w VA l[j].val := by
  obtain ⟨ad, hA, _, cs, ⟨a, b, rfl, h1, h2⟩, hc⟩ := h j l[j] (List.getElem?_eq_getElem hj)
  obtain ⟨KA, kc, e1, l1, i1⟩ := h1
  obtain ⟨VA, vc, e2, l2, i2⟩ := h2
  simp at e1 e2
  subst e1; subst e2
  exact ⟨ad, KA, kc, VA, vc, hA, by rw [add_add]; exact hc 0 _ rfl, by rw [add_add]; exact hc 1 _ rfl, by rw [add_add]; exact hc 2 _ rfl, by rw [add_add]; exact hc 3 _ rfl, by rw [add_add]; exact hc 4 _ rfl, i1, i2⟩
structure OpC (w : World) (o : Op5) (ad : Addr) (KA : Option Addr) (kc : Nat) (VA : Option Addr) (vc : Nat) : Prop where
  c0 : w.cell? (ad.add 0) = some (.int .i64 o.kind)
  c1 : w.cell? (ad.add 1) = some (.int .i64 o.id)
  c2 : w.cell? (ad.add 2) = some (.int .i64 o.n)
  c3 : w.cell? (ad.add 3) = some (.slice KA o.key.length kc)
  c4 : w.cell? (ad.add 4) = some (.slice VA o.val.length vc)
  k : Imm KB NoB w KA o.key
  v : Imm KB NoB w VA o.val
theorem OpC.ext {w w' : World} {o : Op5} {ad : Addr} {KA : Option Addr} {kc : Nat} {VA : Option Addr} {vc : Nat} (h : OpC w o ad KA kc VA vc) (e : Ext w w') : OpC w' o ad KA kc VA vc :=
  ⟨Ext.cell e h.c0, Ext.cell e h.c1, Ext.cell e h.c2, Ext.cell e h.c3, Ext.cell e h.c4, h.k.ext KB_pos e, h.v.ext KB_pos e⟩
theorem opC {Ω : Nat → Prop} {w : World} {A : Option Addr} {l : List Op5} (h : Imm KOp Ω w A l) {j : Nat} (hj : j < l.length) : ∃ ad KA kc VA vc, A = some ad ∧ OpC w l[j] (ad.add (j * 5)) KA kc VA vc := by
  obtain ⟨ad, KA, kc, VA, vc, hA, c0, c1, c2, c3, c4, i1, i2⟩ := opCell h hj
  exact ⟨ad, KA, kc, VA, vc, hA, c0, c1, c2, c3, c4, i1.sub KB_pos fun _ _ h => h.elim, i2.sub KB_pos fun _ _ h => h.elim⟩
/-! ## a call -/
structure Done (A : Ar) (D : List Tr) (A' : Ar) (D' : List Tr) : Prop where
  inv : Inv A' D'
  fan : A'.fan = A.fan
  most : A'.most = A.most
  last : A'.last ≤ A.last + 1
structure Does (A : Ar) (D : List Tr) (o : Op5) (A' : Ar) (D' : List Tr) : Prop where
  done : Done A D A' D'
  run : ∀ {T : Nat → Prop} {u : World} {s : Nat} {ms : List (Ar × List Tr)}, Sto T u s ⟨A, D, ms⟩ → ∀ {Ω1 Ω2 : Nat → Prop} {KA VA : Option Addr}, Imm KB Ω1 u KA o.key → Imm KB Ω2 u VA o.val → ∀ kc vc : Nat,
    CallsV Try.prog 17 #[.pointer (some ⟨s, 0, none⟩), .agg #[.int .i64 o.kind, .int .i64 o.id, .int .i64 o.n, .slice KA o.key.length kc, .slice VA o.val.length vc]] u fun r u' => r = .tuple #[] ∧ ∃ T', Sto T' u' s ⟨A', D', ms⟩ ∧ Tch T u T' u'
end Go.Proofs.Ythfagbfllheneaa
