/- Memory: what stays, what is owned, what is read; append, make, conversions. -/
import Derived.Test.YtakmlaliglmnmaaSxWp
import Derived.Lib.ConvBytes
import Derived.Lib.AppendStr
import Derived.Laws.MakeOwn
import Derived.Laws.BytesArg
set_option linter.unusedVariables false
set_option linter.unusedSimpArgs false
namespace Go.Sx
open Go.RowKit (Below)

/-! ## what stays -/
/-- what was there is as it was, but for the blocks of S -/
structure Fr (S : Nat → Prop) (w w' : World) : Prop where
  os : w'.os = w.os
  tape : w'.tape = w.tape
  output : w'.output = w.output
  size : w.heap.size ≤ w'.heap.size
  block : ∀ k, k < w.heap.size → ¬ S k → w'.heap[k]? = w.heap[k]?
def NoB : Nat → Prop := fun _ => False
/-- all that was there is as it was -/
abbrev Ext (w w' : World) : Prop := Fr NoB w w'
/-- the block of a slice -/
def ownB (A : Option Addr) : Nat → Prop := fun k => ∃ ad, A = some ad ∧ ad.block = k
theorem ownB_none (k : Nat) : ¬ ownB none k := fun ⟨_, h, _⟩ => by cases h
theorem ownB_some (b o : Nat) (s : Option Nat) (k : Nat) : ownB (some ⟨b, o, s⟩) k ↔ b = k := ⟨fun ⟨_, h, e⟩ => by cases h; exact e, fun h => ⟨_, rfl, h⟩⟩

theorem Fr.refl (S : Nat → Prop) (w : World) : Fr S w w := ⟨rfl, rfl, rfl, Nat.le_refl _, fun _ _ _ => rfl⟩
theorem Fr.trans {S S' S'' : Nat → Prop} {a b c : World} (h : Fr S a b) (h' : Fr S' b c) (h1 : ∀ k, k < a.heap.size → S k → S'' k) (h2 : ∀ k, k < a.heap.size → S' k → S'' k) : Fr S'' a c :=
  ⟨h'.os.trans h.os, h'.tape.trans h.tape, h'.output.trans h.output, Nat.le_trans h.size h'.size, fun k hk hn =>
    (h'.block k (Nat.lt_of_lt_of_le hk h.size) (fun hs => hn (h2 k hk hs))).trans (h.block k hk (fun hs => hn (h1 k hk hs)))⟩
theorem Fr.ext {S : Nat → Prop} {a b c : World} (h : Fr S a b) (h' : Fr S b c) : Fr S a c := h.trans h' (fun _ _ h => h) (fun _ _ h => h)
theorem Fr.mono {S S' : Nat → Prop} {a b : World} (h : Fr S a b) (h1 : ∀ k, k < a.heap.size → S k → S' k) : Fr S' a b := ⟨h.os, h.tape, h.output, h.size, fun k hk hn => h.block k hk (fun hs => hn (h1 k hk hs))⟩
theorem Ext.fr {S : Nat → Prop} {a b : World} (h : Ext a b) : Fr S a b := h.mono (fun _ _ h => h.elim)
theorem Fr.drew (S : Nat → Prop) (w : World) : Fr S w w.drew := ⟨rfl, rfl, rfl, Nat.le_refl _, fun _ _ _ => rfl⟩
theorem Fr.alloc (S : Nat → Prop) (w : World) (o : Obj) : Fr S w (w.alloc o) :=
  ⟨rfl, rfl, rfl, by simp [World.alloc, -World.alloc_eq], fun k hk _ => Go.RowKit.Below.heap_alloc w o k hk⟩
theorem Fr.cell {S : Nat → Prop} {w w' : World} (h : Fr S w w') {a : Addr} (ha : ¬ S a.block) {v : Value} (hv : w.cell? a = some v) : w'.cell? a = some v :=
  (World.cell?_of_block (h.block _ (World.block_lt_of_cell? w a hv) ha)).trans hv
theorem Fr.setCell {w : World} (S : Nat → Prop) {a : Addr} (v : Value) (ha : w.heap.size ≤ a.block ∨ S a.block) : Fr S w (w.setCell a v) := by
  refine ⟨rfl, rfl, rfl, by simp [World.setCell], fun k hk hn => ?_⟩
  simp only [World.setCell, Array.getElem?_modify]
  rw [if_neg]
  rintro rfl
  rcases ha with h | h
  · omega
  · exact hn h

/-! ## addresses -/
theorem add_add (a : Addr) (i j : Nat) : (a.add i).add j = a.add (i + j) := by
  unfold Addr.add
  by_cases hi : i = 0
  · subst hi; simp
  · by_cases hj : j = 0
    · subst hj; simp [hi]
    · have hij : i + j ≠ 0 := by omega
      simp [hi, hj, hij, Nat.add_assoc]
theorem add_block (a : Addr) (i : Nat) : (a.add i).block = a.block := by unfold Addr.add; split <;> rfl
theorem add_zero' (a : Addr) : a.add 0 = a := rfl
theorem add_new (b o i : Nat) : (⟨b, o, none⟩ : Addr).add i = ⟨b, o + i, none⟩ := by unfold Addr.add; split <;> simp_all

/-! ## kinds of data -/
/-- from one world with its mutable blocks to a later one -/
structure Step (Ω : Nat → Prop) (w : World) (Ω' : Nat → Prop) (w' : World) : Prop where
  size : w.heap.size ≤ w'.heap.size
  block : ∀ k, k < w.heap.size → ¬ Ω k → w'.heap[k]? = w.heap[k]?
  sub : ∀ k, k < w.heap.size → Ω' k → Ω k
theorem Step.refl (Ω : Nat → Prop) (w : World) : Step Ω w Ω w := ⟨Nat.le_refl _, fun _ _ _ => rfl, fun _ _ h => h⟩
theorem Fr.step {S Ω Ω' : Nat → Prop} {w w' : World} (h : Fr S w w') (h1 : ∀ k, k < w.heap.size → S k → Ω k) (h2 : ∀ k, k < w.heap.size → Ω' k → Ω k) : Step Ω w Ω' w' :=
  ⟨h.size, fun k hk hn => h.block k hk (fun hs => hn (h1 k hk hs)), h2⟩
theorem Ext.step {w w' : World} (h : Ext w w') (Ω : Nat → Prop) : Step Ω w Ω w' := Fr.step h (fun _ _ h => h.elim) (fun _ _ h => h)
theorem Step.cell {Ω Ω' : Nat → Prop} {w w' : World} (h : Step Ω w Ω' w') {a : Addr} (ha : ¬ Ω a.block) {v : Value} (hv : w.cell? a = some v) : w'.cell? a = some v :=
  (World.cell?_of_block (h.block _ (World.block_lt_of_cell? w a hv) ha)).trans hv
theorem Step.out {Ω Ω' : Nat → Prop} {w w' : World} (h : Step Ω w Ω' w') {k : Nat} (hk : k < w.heap.size) (hn : ¬ Ω k) : ¬ Ω' k := fun h' => hn (h.sub k hk h')

structure Kd (α : Type) where
  size : Nat
  rep : (Nat → Prop) → World → α → List Value → Prop
  len : ∀ {Ω w a cs}, rep Ω w a cs → cs.length = size
  keep : ∀ {Ω w a cs Ω' w'}, rep Ω w a cs → Step Ω w Ω' w' → rep Ω' w' a cs

def u8 (b : UInt8) : Value := .int .u8 (b.toNat : Int)
def Kd.u8 : Kd UInt8 := ⟨1, fun _ _ a cs => cs = [Sx.u8 a], fun h => by simp [h], fun h _ => h⟩
def Kd.int (k : IntKind) : Kd Int := ⟨1, fun _ _ a cs => cs = [.int k a], fun h => by simp [h], fun h _ => h⟩
def Kd.str : Kd ByteArray := ⟨1, fun _ _ a cs => cs = [.string a], fun h => by simp [h], fun h _ => h⟩
def Kd.bool : Kd Bool := ⟨1, fun _ _ a cs => cs = [.bool a], fun h => by simp [h], fun h _ => h⟩

/-- A slice's elements, in memory that nobody writes to: none of it in a block of Ω. -/
def Imm {α : Type} (K : Kd α) (Ω : Nat → Prop) (w : World) (A : Option Addr) (l : List α) : Prop :=
  ∀ i a, l[i]? = some a → ∃ ad, A = some ad ∧ ¬ Ω ad.block ∧ ∃ cs, K.rep Ω w a cs ∧ ∀ j v, cs[j]? = some v → w.cell? (ad.add (i * K.size + j)) = some v

theorem Imm.keep {α : Type} {K : Kd α} {Ω Ω' : Nat → Prop} {w w' : World} {A : Option Addr} {l : List α} (hz : 0 < K.size) (h : Imm K Ω w A l) (st : Step Ω w Ω' w') : Imm K Ω' w' A l := by
  intro i a ha
  obtain ⟨ad, hA, hn, cs, hr, hc⟩ := h i a ha
  have hlt : ad.block < w.heap.size := by
    have h0 : 0 < cs.length := by rw [K.len hr]; exact hz
    obtain ⟨v, hv⟩ : ∃ v, cs[0]? = some v := ⟨cs[0], by simp [h0]⟩
    have := World.block_lt_of_cell? w _ (hc 0 v hv)
    rwa [add_block] at this
  exact ⟨ad, hA, st.out hlt hn, cs, K.keep hr st, fun j v hj => st.cell (by rw [add_block]; exact hn) (hc j v hj)⟩
theorem Imm.nil {α : Type} (K : Kd α) (Ω : Nat → Prop) (w : World) (A : Option Addr) : Imm K Ω w A [] := fun i a h => by simp at h
theorem Imm.cut {α : Type} {K : Kd α} {Ω : Nat → Prop} {w : World} {A : Option Addr} {l : List α} (h : Imm K Ω w A l) {lo hi m : Nat} (h1 : hi ≤ m) : Imm K Ω w (cutAt A m lo K.size) ((l.take hi).drop lo) := by
  intro i a ha
  rw [List.getElem?_drop, List.getElem?_take] at ha
  split at ha
  · rename_i hlt
    obtain ⟨ad, hA, hn, cs, hr, hc⟩ := h (lo + i) a ha
    have hne : ¬ m = lo := by omega
    refine ⟨ad.add (lo * K.size), by simp [cutAt, hne, hA], by rw [add_block]; exact hn, cs, hr, fun j v hj => ?_⟩
    rw [add_add, show lo * K.size + (i * K.size + j) = (lo + i) * K.size + j by rw [Nat.add_mul]; omega]
    exact hc j v hj
  · cases ha
theorem Imm.get1 {α : Type} {K : Kd α} {Ω : Nat → Prop} {w : World} {A : Option Addr} {l : List α} (h : Imm K Ω w A l) {i : Nat} (hi : i < l.length) :
    ∃ ad, A = some ad ∧ ∃ cs, K.rep Ω w l[i] cs ∧ ∀ j v, cs[j]? = some v → w.cell? (ad.add (i * K.size + j)) = some v := by
  obtain ⟨ad, hA, _, cs, hr, hc⟩ := h i l[i] (by simp [hi])
  exact ⟨ad, hA, cs, hr, hc⟩

/-- a slice as one cell -/
def Kd.slice {α : Type} (K : Kd α) (hz : 0 < K.size) : Kd (List α) :=
  ⟨1, fun Ω w l cs => ∃ A c, cs = [.slice A l.length c] ∧ l.length ≤ c ∧ Imm K Ω w A l, fun ⟨_, _, h, _⟩ => by simp [h], fun ⟨A, c, h, hc, hi⟩ st => ⟨A, c, h, hc, hi.keep hz st⟩⟩
abbrev KB : Kd UInt8 := Kd.u8
theorem KB_pos : 0 < KB.size := by decide
abbrev KBs : Kd (List UInt8) := Kd.slice KB KB_pos
theorem KBs_pos : 0 < KBs.size := by decide

/-! ## bytes -/
theorem Imm.byte {Ω : Nat → Prop} {w : World} {A : Option Addr} {l : List UInt8} (h : Imm KB Ω w A l) {i : Nat} (hi : i < l.length) :
    ∃ ad, A = some ad ∧ w.cell? (ad.add (i * 1)) = some (.int .u8 (l[i].toNat : Int)) := by
  obtain ⟨ad, hA, cs, hr, hc⟩ := h.get1 hi
  cases hr
  exact ⟨ad, hA, hc 0 _ rfl⟩

/-! ## owned memory -/
/-- A slice of n elements of sz cells, alone in a block whose cells nobody else reads or writes: nil, or from the block's begin on. -/
def Own (w : World) (sz : Nat) (A : Option Addr) (n c : Nat) (xs : List Value) : Prop :=
  xs.length = n * sz ∧ c ≤ maxLen ∧ ((A = none ∧ n = 0 ∧ c = 0) ∨
   ∃ g cur e lo hi, A = some ⟨g, 0, none⟩ ∧ w.heap[g]? = some (.cells cur e (lo, hi)) ∧ n ≤ c ∧ cur.size = c * sz ∧ cur.toList.take (n * sz) = xs ∧ (cur.size ≤ lo ∨ hi ≤ lo))

theorem Own.nil (w : World) (sz : Nat) : Own w sz none 0 0 [] := ⟨by simp, by simp [maxLen], .inl ⟨rfl, rfl, rfl⟩⟩
theorem Own.lt {w : World} {sz : Nat} {A : Option Addr} {n c : Nat} {xs : List Value} (h : Own w sz A n c xs) : ∀ k, ownB A k → k < w.heap.size := by
  rintro k ⟨ad, rfl, rfl⟩
  rcases h.2.2 with ⟨h, _⟩ | ⟨g, cur, e, lo, hi, h, hg, _⟩
  · cases h
  · cases h; exact (Array.getElem?_eq_some_iff.1 hg).1
theorem Own.le {w : World} {sz : Nat} {A : Option Addr} {n c : Nat} {xs : List Value} (h : Own w sz A n c xs) : n ≤ c := by
  rcases h.2.2 with ⟨_, h1, h2⟩ | ⟨_, _, _, _, _, _, _, h, _⟩
  · omega
  · exact h
theorem Own.len {w : World} {sz : Nat} {A : Option Addr} {n c : Nat} {xs : List Value} (h : Own w sz A n c xs) : xs.length = n * sz := h.1
theorem Own.cells {w : World} {sz : Nat} {A : Option Addr} {n c : Nat} {xs : List Value} (h : Own w sz A n c xs) {j : Nat} {v : Value} (hj : xs[j]? = some v) : ∃ g, A = some ⟨g, 0, none⟩ ∧ w.cell? ⟨g, j, none⟩ = some v := by
  rcases h.2.2 with ⟨_, h1, _⟩ | ⟨g, cur, e, lo, hi, hA, hg, _, _, ht, _⟩
  · have := h.1; rw [h1, Nat.zero_mul] at this; rw [List.eq_nil_of_length_eq_zero this] at hj; simp at hj
  · refine ⟨g, hA, ?_⟩
    rw [← ht, List.getElem?_take] at hj
    split at hj
    · rw [cell_of_row w g j cur e _ hg]; simpa using hj
    · cases hj
theorem Own.keep {w w' : World} {S : Nat → Prop} {sz : Nat} {A : Option Addr} {n c : Nat} {xs : List Value} (h : Own w sz A n c xs) (hf : Fr S w w') (hn : ∀ k, ownB A k → ¬ S k) : Own w' sz A n c xs := by
  refine ⟨h.1, h.2.1, ?_⟩
  rcases h.2.2 with hn' | ⟨g, cur, e, lo, hi, hA, hg, rest⟩
  · exact .inl hn'
  · refine .inr ⟨g, cur, e, lo, hi, hA, ?_, rest⟩
    subst hA
    rw [hf.block g (Array.getElem?_eq_some_iff.1 hg).1 (hn g ⟨_, rfl, rfl⟩)]
    exact hg
/-- the begin of what is owned -/
theorem Own.take {w : World} {sz : Nat} {A : Option Addr} {n c : Nat} {xs : List Value} (h : Own w sz A n c xs) {k : Nat} (hk : k ≤ n) : Own w sz A k c (xs.take (k * sz)) := by
  refine ⟨by rw [List.length_take, h.1]; exact Nat.min_eq_left (Nat.mul_le_mul_right _ hk), h.2.1, ?_⟩
  rcases h.2.2 with ⟨h1, h2, h3⟩ | ⟨g, cur, e, lo, hi, hA, hg, hc, hs, ht, hf⟩
  · exact .inl ⟨h1, by omega, h3⟩
  · refine .inr ⟨g, cur, e, lo, hi, hA, hg, by omega, hs, ?_, hf⟩
    rw [← ht, List.take_take, Nat.min_eq_left (Nat.mul_le_mul_right _ hk)]
/-- what was owned, read alone from now on -/
theorem Own.imm {α : Type} {K : Kd α} (hz0 : 0 < K.size) {Ω : Nat → Prop} {w : World} {A : Option Addr} {n c : Nat} {xs : List Value} (h : Own w K.size A n c xs) (hΩ : ∀ k, ownB A k → ¬ Ω k) {l : List α}
    (hl : ∀ i a, l[i]? = some a → K.rep Ω w a ((xs.drop (i * K.size)).take K.size)) : Imm K Ω w A l := by
  intro i a ha
  have hr := hl i a ha
  rcases h.2.2 with ⟨hA, h1, _⟩ | ⟨g, cur, e, lo, hi, hA, hg, _, _, ht, _⟩
  · -- no cells: only where the elements have no size
    have h0 := h.1
    rw [h1, Nat.zero_mul] at h0
    have hx := List.eq_nil_of_length_eq_zero h0
    have hz := K.len hr
    rw [hx] at hz
    simp at hz
    omega
  · refine ⟨_, hA, hΩ g ⟨_, hA, rfl⟩, _, hr, fun j v hj => ?_⟩
    rw [List.getElem?_take] at hj
    split at hj
    · rw [List.getElem?_drop] at hj
      obtain ⟨g', hA', hc⟩ := h.cells hj
      rw [hA] at hA'
      cases hA'
      rw [add_new, Nat.zero_add]
      exact hc
    · cases hj
end Go.Sx
