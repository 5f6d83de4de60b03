/- Owned lists of things: grown by append, read alone thereafter. -/
import Derived.Test.YtakmlaliglmnmaaSxConv
set_option linter.unusedVariables false
set_option linter.unusedSimpArgs false
namespace Go.Sx
section
variable {P : Program} {α : Type}
/-- A list of things in an owned block; what the things lead to lies elsewhere. -/
def OwnK (K : Kd α) (w : World) (A : Option Addr) (c : Nat) (l : List α) : Prop :=
  ∃ xs, Own w K.size A l.length c xs ∧ ∀ i a, l[i]? = some a → K.rep (ownB A) w a ((xs.drop (i * K.size)).take K.size)
theorem OwnK.nil (K : Kd α) (w : World) : OwnK K w none 0 [] := ⟨[], Own.nil w _, fun i a h => by simp at h⟩
theorem OwnK.ext {K : Kd α} {w w' : World} {A : Option Addr} {c : Nat} {l : List α} (h : OwnK K w A c l) (e : Ext w w') : OwnK K w' A c l := by
  obtain ⟨xs, ho, hr⟩ := h
  exact ⟨xs, ho.keep e (fun _ _ h => h), fun i a ha => K.keep (hr i a ha) (e.step _)⟩
theorem OwnK.le {K : Kd α} {w : World} {A : Option Addr} {c : Nat} {l : List α} (h : OwnK K w A c l) : l.length ≤ c := by
  obtain ⟨xs, ho, _⟩ := h
  exact ho.le
theorem OwnK.imm {K : Kd α} {w : World} {A : Option Addr} {c : Nat} {l : List α} (h : OwnK K w A c l) (hz : 0 < K.size) : Imm K NoB w A l := by
  obtain ⟨xs, ho, hr⟩ := h
  exact ho.imm hz (fun _ _ h => h) fun i a ha => K.keep (hr i a ha) ⟨Nat.le_refl _, fun _ _ _ => rfl, fun _ _ h => h.elim⟩
theorem Grew.step {A A' : Option Addr} {w w' : World} (g : Grew A A' w w') : Step (ownB A) w (ownB A') w' :=
  g.fr.step (fun _ _ h => h) (fun k hk h => (g.sub k h).elim id (fun h' => absurd hk (Nat.not_lt.2 h')))
theorem OwnK.push {K : Kd α} {t e by_ : Nat} {z : List Value} (T : SlT P t e K.size by_ z) {ty : TypeId} {w : World} {A : Option Addr} {c : Nat} {l : List α} (h : OwnK K w A c l) {a : α} {cs : List Value} (ha : K.rep (ownB A) w a cs)
    (h1 : ∀ v ∈ cs, v.oneCell' = true) {e' : TypeId} (hb : l.length + 1 ≤ maxLen) (hb2 : (l.length + 1) * by_ ≤ 140737488355328) :
    ∃ A' c' w', RunsTo P (Builtin.append_ #[t, t] ty #[.slice A l.length c, .slice (some ⟨w.heap.size, 0, none⟩) 1 1]) (w.alloc (.cells cs.toArray e')) (.slice A' (l ++ [a]).length c') w' ∧ OwnK K w' A' c' (l ++ [a]) ∧ Grew A A' w w' := by
  obtain ⟨xs, ho, hr⟩ := h
  obtain ⟨A', c', w', hrun, ho', hf, hs, _⟩ := append_one (ty := ty) T ho (cs := cs) (K.len ha) h1 (e' := e') hb hb2
  have g : Grew A A' w w' := ⟨hf, hs⟩
  refine ⟨A', c', w', by simpa using hrun, ⟨xs ++ cs, by simpa using ho', fun i b hi => ?_⟩, g⟩
  have hlen := ho.len
  rcases Nat.lt_or_ge i l.length with hlt | hge
  · rw [List.getElem?_append_left hlt] at hi
    have hle : (i + 1) * K.size ≤ xs.length := by rw [hlen]; exact Nat.mul_le_mul_right _ hlt
    rw [Nat.add_mul, Nat.one_mul] at hle
    rw [List.drop_append_of_le_length (by omega), List.take_append_of_le_length (by simp; omega)]
    exact K.keep (hr i b hi) g.step
  · rw [List.getElem?_append_right hge] at hi
    have hi0 : i - l.length = 0 := by
      have := (List.getElem?_eq_some_iff.1 hi).1
      simp at this; omega
    rw [hi0] at hi
    have : i = l.length := by omega
    subst this
    cases hi
    rw [← hlen, List.drop_left, List.take_of_length_le (by rw [K.len ha]; exact Nat.le_refl _)]
    exact K.keep ha g.step
/-- a literal's list -/
theorem ownK_lit {K : Kd α} {w : World} {cs : List Value} {e : TypeId} {l : List α} (hl : cs.length = l.length * K.size) (hn : l.length ≤ maxLen)
    (hr : ∀ i a, l[i]? = some a → K.rep NoB w a ((cs.drop (i * K.size)).take K.size)) : OwnK K (w.alloc (.cells cs.toArray e)) (some ⟨w.heap.size, 0, none⟩) l.length l :=
  ⟨cs, own_lit hl hn, fun i a ha => K.keep (hr i a ha) ((Fr.alloc NoB w _).step (fun _ _ h => h.elim) (fun k hk h => by rw [ownB_some] at h; omega))⟩
theorem KBs_rep {Ω : Nat → Prop} {w : World} {A : Option Addr} {c : Nat} {l : List UInt8} (h : Imm KB Ω w A l) (hc : l.length ≤ c) : KBs.rep Ω w l [.slice A l.length c] := ⟨A, c, rfl, hc, h⟩
theorem OwnK.weaken {β : Type} {K : Kd α} {K' : Kd β} {f : α → β} (hs : K.size = K'.size) {w : World} {A : Option Addr} {c : Nat} {l : List α} (h : OwnK K w A c l) (hr : ∀ Ω a cs, K.rep Ω w a cs → K'.rep Ω w (f a) cs) : OwnK K' w A c (l.map f) := by
  obtain ⟨xs, ho, hx⟩ := h
  refine ⟨xs, by rw [List.length_map, ← hs]; exact ho, fun i b hb => ?_⟩
  rw [List.getElem?_map] at hb
  cases hi : l[i]? with
  | none => simp [hi] at hb
  | some a =>
    simp [hi] at hb
    subst hb
    rw [← hs]
    exact hr _ _ _ (hx i a hi)
/-- bytes in a block of their own, from base on -/
def Kd.ownBytes (base : Nat) : Kd (List UInt8) :=
  ⟨1, fun Ω w l cs => ∃ A c, cs = [.slice A l.length c] ∧ OwnB w A c l ∧ ∀ k, ownB A k → ¬ Ω k ∧ base ≤ k, fun ⟨_, _, h, _⟩ => by simp [h], fun ⟨A, c, h, ho, hk⟩ st => by
    refine ⟨A, c, h, ?_, fun k ha => ⟨st.out (Own.lt ho k ha) (hk k ha).1, (hk k ha).2⟩⟩
    refine ⟨ho.1, ho.2.1, ?_⟩
    rcases ho.2.2 with hn | ⟨g, cur, e, lo, hi, hA, hg, rest⟩
    · exact .inl hn
    · subst hA
      exact .inr ⟨g, cur, e, lo, hi, rfl, (st.block g (Array.getElem?_eq_some_iff.1 hg).1 (hk g ⟨_, rfl, rfl⟩).1).trans hg, rest⟩⟩
theorem ownBytes_KBs {base : Nat} {Ω : Nat → Prop} {w : World} {l : List UInt8} {cs : List Value} (h : (Kd.ownBytes base).rep Ω w l cs) : KBs.rep Ω w l cs := by
  obtain ⟨A, c, rfl, ho, hk⟩ := h
  exact KBs_rep (ho.imm fun k ha => (hk k ha).1) ho.le
/-- the cells of a list that is read -/
theorem Imm.cellsOf {K : Kd α} {Ω : Nat → Prop} {w : World} {B : Option Addr} {m : List α} (h : Imm K Ω w B m) (h1 : ∀ a cs, K.rep Ω w a cs → ∀ v ∈ cs, v.oneCell' = true) : ∀ k, k ≤ m.length →
    ∃ ys : List Value, ys.length = k * K.size ∧ (∀ i a, i < k → m[i]? = some a → K.rep Ω w a ((ys.drop (i * K.size)).take K.size)) ∧ (∀ j v, ys[j]? = some v → ∃ ad, B = some ad ∧ w.cell? (ad.add j) = some v) ∧ ∀ v ∈ ys, v.oneCell' = true
  | 0, _ => ⟨[], by simp, fun i a hi => by omega, fun j v hj => by simp at hj, fun v hv => by simp at hv⟩
  | k + 1, hk => by
    obtain ⟨ys, hl, hr, hc, ho⟩ := Imm.cellsOf h h1 k (by omega)
    obtain ⟨ad, hA, _, cs, hrep, hcell⟩ := h k m[k] (by simp)
    have hcl := K.len hrep
    refine ⟨ys ++ cs, by rw [List.length_append, hl, hcl, Nat.add_mul, Nat.one_mul], fun i a hi hia => ?_, fun j v hj => ?_, fun v hv => ?_⟩
    · rcases Nat.lt_or_ge i k with hlt | hge
      · have hle : (i + 1) * K.size ≤ ys.length := by rw [hl]; exact Nat.mul_le_mul_right _ hlt
        rw [Nat.add_mul, Nat.one_mul] at hle
        rw [List.drop_append_of_le_length (by omega), List.take_append_of_le_length (by simp; omega)]
        exact hr i a hlt hia
      · have : i = k := by omega
        subst this
        rw [List.getElem?_eq_getElem (by omega)] at hia
        cases hia
        rw [← hl, List.drop_left, List.take_of_length_le (by omega)]
        exact hrep
    · rcases Nat.lt_or_ge j ys.length with hlt | hge
      · rw [List.getElem?_append_left hlt] at hj
        exact hc j v hj
      · rw [List.getElem?_append_right hge] at hj
        refine ⟨ad, hA, ?_⟩
        have := hcell _ _ hj
        rwa [show k * K.size + (j - ys.length) = j by omega] at this
    · rcases List.mem_append.1 hv with hv | hv
      · exact ho v hv
      · exact h1 _ _ hrep v hv
/-- a list that is read, appended to one that is owned -/
theorem OwnK.append {K : Kd α} {t e by_ : Nat} {z : List Value} (T : SlT P t e K.size by_ z) {ty : TypeId} {w : World} {A B : Option Addr} {c cb : Nat} {l m : List α} (h : OwnK K w A c l) (hB : Imm K (ownB A) w B m)
    (h1 : ∀ a cs, K.rep (ownB A) w a cs → ∀ v ∈ cs, v.oneCell' = true) (hb : l.length + m.length ≤ maxLen) (hb2 : (l.length + m.length) * by_ ≤ 140737488355328) :
    ∃ A' c' w', RunsTo P (Builtin.append_ #[t, t] ty #[.slice A l.length c, .slice B m.length cb]) w (.slice A' (l ++ m).length c') w' ∧ OwnK K w' A' c' (l ++ m) ∧ Grew A A' w w' := by
  obtain ⟨xs, ho, hr⟩ := h
  obtain ⟨ys, hyl, hyr, hyc, hy1⟩ := hB.cellsOf h1 m.length (Nat.le_refl _)
  obtain ⟨A', c', w', hrun, ho', hf, hs, _⟩ := append_own (ty := ty) (t2 := t) T ⟨_, T.ht, fun _ h => by cases h⟩ ho (Src.cells (P := P) (c := cb) hyl hyc hy1) hb hb2
  have g : Grew A A' w w' := ⟨hf, hs⟩
  refine ⟨A', c', w', by rw [List.length_append]; exact hrun, ⟨xs ++ ys, by rw [List.length_append]; exact ho', fun i b hi => ?_⟩, g⟩
  have hlen := ho.len
  rcases Nat.lt_or_ge i l.length with hlt | hge
  · rw [List.getElem?_append_left hlt] at hi
    have hle : (i + 1) * K.size ≤ xs.length := by rw [hlen]; exact Nat.mul_le_mul_right _ hlt
    rw [Nat.add_mul, Nat.one_mul] at hle
    rw [List.drop_append_of_le_length (by omega), List.take_append_of_le_length (by simp; omega)]
    exact K.keep (hr i b hi) g.step
  · rw [List.getElem?_append_right hge] at hi
    have hil : i - l.length < m.length := (List.getElem?_eq_some_iff.1 hi).1
    have e1 : i * K.size = xs.length + (i - l.length) * K.size := by rw [hlen, ← Nat.add_mul]; congr 1; omega
    rw [e1, List.drop_append, List.drop_of_length_le (by omega), List.nil_append, Nat.add_sub_cancel_left]
    exact K.keep (hyr _ b hil hi) g.step
/-- things that are told of in an earlier world -/
def Kd.at (w0 : World) (K : Kd α) : Kd α := ⟨K.size, fun _ _ a cs => K.rep NoB w0 a cs, fun h => K.len h, fun h _ => h⟩
theorem Ext.stepTo {w w' : World} (e : Ext w w') {Ω : Nat → Prop} (h : ∀ k, k < w.heap.size → ¬ Ω k) : Step NoB w Ω w' := e.step' h
theorem OwnK.immAt {K : Kd α} {w0 w : World} {A : Option Addr} {c : Nat} {l : List α} {Ω : Nat → Prop} (h : OwnK (Kd.at w0 K) w A c l) (hz : 0 < K.size) (e : Ext w0 w) (h0 : ∀ k, k < w0.heap.size → ¬ Ω k) (hΩ : ∀ k, ownB A k → ¬ Ω k) : Imm K Ω w A l := by
  obtain ⟨xs, ho, hr⟩ := h
  exact Own.imm (K := K) hz ho hΩ fun i a ha => K.keep (show K.rep NoB w0 a _ from hr i a ha) (e.stepTo h0)
theorem Imm.toOwn {K : Kd α} {w w' : World} {A B : Option Addr} {l : List α} (h : Imm K NoB w A l) (hz : 0 < K.size) (e : Ext w w') (hn : New w B) : Imm K (ownB B) w' A l := h.keep hz (e.stepTo fun k hk ho => absurd hk (Nat.not_lt.2 (hn k ho)))
/-- the item of a list of lists -/
theorem Imm.item {K : Kd α} {hz : 0 < K.size} {Ω : Nat → Prop} {w : World} {A : Option Addr} {l : List (List α)} (h : Imm (Kd.slice K hz) Ω w A l) {x : Int} (h0 : 0 ≤ x) (h1 : x < (l.length : Nat)) :
    ∃ ad, A = some ad ∧ ∃ B c, (l.getD x.toNat []).length ≤ c ∧ Imm K Ω w B (l.getD x.toNat []) ∧ ∀ u, Ext w u → u.cell? (ad.add (x.toNat * 1)) = some (.slice B (l.getD x.toNat []).length c) := by
  have hlt : x.toNat < l.length := by omega
  have hg : l[x.toNat]? = some (l.getD x.toNat []) := by simp [List.getD, hlt]
  obtain ⟨ad, hA, hn, cs, ⟨B, c, rfl, hc, hi⟩, hcell⟩ := h x.toNat _ hg
  exact ⟨ad, hA, B, c, hc, hi, fun u hu => hu.cell (fun h => h) (hcell 0 _ rfl)⟩
/-- memory that may be written to, n cells of it, from base on, but for the block g0 -/
def Wr (base g0 : Nat) (w : World) (A : Option Addr) (n : Nat) : Prop :=
  n = 0 ∨ ∃ g cur e fr, A = some ⟨g, 0, none⟩ ∧ base ≤ g ∧ g ≠ g0 ∧ w.heap[g]? = some (.cells cur e fr) ∧ n ≤ cur.size ∧ (cur.size ≤ fr.1 ∨ fr.2 ≤ fr.1)
theorem Wr.set {base g0 : Nat} {w : World} {A : Option Addr} {n : Nat} (h : Wr base g0 w A n) (g o : Nat) (v : Value) : Wr base g0 (w.setCell ⟨g, o, none⟩ v) A n := by
  rcases h with h | ⟨g', cur, e, fr, rfl, hb, hne, hg, hn, hf⟩
  · exact .inl h
  · by_cases hgg : g' = g
    · subst hgg
      refine .inr ⟨g', cur.setIfInBounds o v, e, fr, rfl, hb, hne, ?_, by simpa using hn, by simpa using hf⟩
      obtain ⟨lo, hi⟩ := fr
      simp [World.setCell, Array.getElem?_modify, hg]
    · refine .inr ⟨g', cur, e, fr, rfl, hb, hne, ?_, hn, hf⟩
      simp only [World.setCell, Array.getElem?_modify]
      rw [if_neg (fun h => hgg h.symm)]
      exact hg
theorem Wr.of {base g0 : Nat} {w : World} {A : Option Addr} {c : Nat} {l : List UInt8} (h : OwnB w A c l) (hk : ∀ k, ownB A k → k ≠ g0 ∧ base ≤ k) : Wr base g0 w A l.length := by
  rcases h.2.2 with ⟨_, h1, _⟩ | ⟨g, cur, e, lo, hi, hA, hg, hn, hs, _, hf⟩
  · exact .inl h1
  · exact .inr ⟨g, cur, e, (lo, hi), hA, (hk g ⟨_, hA, rfl⟩).2, (hk g ⟨_, hA, rfl⟩).1, hg, by omega, hf⟩
theorem Wr.at {base g0 : Nat} {w : World} {A : Option Addr} {n : Nat} (h : Wr base g0 w A n) {j : Nat} (hj : j < n) : ∃ g, A = some ⟨g, 0, none⟩ ∧ base ≤ g ∧ g ≠ g0 ∧ (w.cell? ⟨g, j, none⟩).isSome = true ∧ w.frozen? ⟨g, j, none⟩ = false := by
  rcases h with h | ⟨g, cur, e, fr, hA, hb, hne, hg, hn, hf⟩
  · omega
  · refine ⟨g, hA, hb, hne, ?_, ?_⟩
    · rw [cell_of_row w g j cur e fr hg]
      simp; omega
    · exact not_frozen hg (by omega) hf
end
end Go.Sx
