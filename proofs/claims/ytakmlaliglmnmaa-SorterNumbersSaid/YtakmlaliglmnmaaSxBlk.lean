/- A block of one's own, by its number: what a variable that is pointed to lies in. -/
import Derived.Test.YtakmlaliglmnmaaSxList
set_option linter.unusedVariables false
set_option linter.unusedSimpArgs false
namespace Go.Sx
/-- the block g holds these cells -/
def Blk (w : World) (g : Nat) (cur : List Value) : Prop := ∃ e, w.heap[g]? = some (.cells cur.toArray e (0, 0))
theorem Blk.alloc (w : World) (cs : List Value) (e : TypeId) : Blk (w.alloc (.cells cs.toArray e)) w.heap.size cs := ⟨e, Go.heap_alloc_new w _⟩
theorem Blk.lt {w : World} {g : Nat} {cur : List Value} (h : Blk w g cur) : g < w.heap.size := by obtain ⟨e, h⟩ := h; exact (Array.getElem?_eq_some_iff.1 h).1
theorem Blk.keep {w w' : World} {g : Nat} {cur : List Value} {S : Nat → Prop} (h : Blk w g cur) (hf : Fr S w w') (hn : ¬ S g) : Blk w' g cur := by
  have hl := h.lt
  obtain ⟨e, h⟩ := h; exact ⟨e, (hf.block g hl hn).trans h⟩
theorem Blk.ext {w w' : World} {g : Nat} {cur : List Value} (h : Blk w g cur) (e : Ext w w') : Blk w' g cur := h.keep e (fun h => h)
theorem Blk.cell0 {w : World} {g : Nat} {cur : List Value} (h : Blk w g cur) {o : Nat} {v : Value} (hv : cur[o]? = some v) : w.cell? ⟨g, o, none⟩ = some v := by
  obtain ⟨e, h⟩ := h
  rw [cell_of_row w g o _ e _ h]; simpa using hv
theorem Blk.cell {w : World} {g : Nat} {cur : List Value} (h : Blk w g cur) {o i : Nat} {v : Value} (hv : cur[o + i]? = some v) : w.cell? ((⟨g, o, none⟩ : Addr).add i) = some v := by rw [add_new]; exact h.cell0 hv
theorem Blk.cell' {w : World} {g : Nat} {cur : List Value} (h : Blk w g cur) {o i j : Nat} {v : Value} (hv : cur[o + i + j]? = some v) : w.cell? (((⟨g, o, none⟩ : Addr).add i).add j) = some v := by rw [add_new, add_new]; exact h.cell0 hv
theorem Blk.unfrozen {w : World} {g : Nat} {cur : List Value} (h : Blk w g cur) (o i : Nat) : w.frozen? ((⟨g, o, none⟩ : Addr).add i) = false := by
  obtain ⟨e, h⟩ := h
  rw [add_new]
  simp [World.frozen?, h]
theorem Blk.unfrozen0 {w : World} {g : Nat} {cur : List Value} (h : Blk w g cur) (o : Nat) : w.frozen? ⟨g, o, none⟩ = false := by
  obtain ⟨e, h⟩ := h
  simp [World.frozen?, h]
theorem Blk.set0 {w : World} {g : Nat} {cur : List Value} (h : Blk w g cur) (o : Nat) (v : Value) : Blk (w.setCell ⟨g, o, none⟩ v) g (cur.set o v) := by
  obtain ⟨e, h⟩ := h
  refine ⟨e, ?_⟩
  simp [World.setCell, Array.getElem?_modify, h]
theorem Blk.set {w : World} {g : Nat} {cur : List Value} (h : Blk w g cur) (o i : Nat) (v : Value) : Blk (w.setCell ((⟨g, o, none⟩ : Addr).add i) v) g (cur.set (o + i) v) := by rw [add_new]; exact h.set0 _ _
theorem Ext.setNew {w w1 : World} (h : Ext w w1) {a : Addr} (ha : w.heap.size ≤ a.block) (v : Value) : Ext w (w1.setCell a v) :=
  h.trans (Fr.setCell (fun k => k = a.block) v (.inr rfl)) (fun _ _ h => h) (fun k hk e => absurd hk (by omega))
theorem Ext.setNewAdd {w w1 : World} (h : Ext w w1) {g o i : Nat} (ha : w.heap.size ≤ g) (v : Value) : Ext w (w1.setCell ((⟨g, o, none⟩ : Addr).add i) v) := h.setNew (by rw [add_block]; exact ha) v
theorem Ext.alloc {w w1 : World} (h : Ext w w1) (o : Obj) : Ext w (w1.alloc o) := h.trans' (Fr.alloc NoB w1 o)
theorem Ext.drew {w w1 : World} (h : Ext w w1) : Ext w w1.drew := h.trans' (Fr.drew NoB w1)
theorem Ext.drew0 {w w1 : World} (h : Ext w.drew w1) : Ext w w1 := (Fr.drew NoB w).ext h
theorem brnb {b : Bool} {A B : Prop} (h1 : b = false → A) (h2 : b = true → B) : cond (!b) A B := by cases b with | true => exact h2 rfl | false => exact h1 rfl
/-! ## worlds by name -/
theorem Fresh.blk {w w' : World} {g : Nat} {cs : List Value} {e : TypeId} (h : Fresh w g w' cs e) : Blk w' g cs := by obtain ⟨rfl, rfl⟩ := h; exact Blk.alloc _ _ _
theorem Fresh.ext {w w' : World} {g : Nat} {cs : List Value} {e : TypeId} (h : Fresh w g w' cs e) : Ext w w' := by obtain ⟨rfl, rfl⟩ := h; exact Fr.alloc NoB w _
theorem Fresh.ge {w w' : World} {g : Nat} {cs : List Value} {e : TypeId} (h : Fresh w g w' cs e) : w.heap.size ≤ g := Nat.le_of_eq h.hg.symm
theorem Fresh.lt {w w' : World} {g : Nat} {cs : List Value} {e : TypeId} (h : Fresh w g w' cs e) : g < w'.heap.size := h.blk.lt
theorem Blk.stOK {w : World} {g o : Nat} {cur : List Value} (h : Blk w g cur) : ∀ (vs : List Value) (i : Nat), o + i + vs.length ≤ cur.length → Go.Sx.stOK ⟨g, o, none⟩ i vs w
  | [], _, _ => trivial
  | [v], i, hl => by
    have hlt : o + i < cur.length := by simp at hl; omega
    exact ⟨by rw [h.cell (v := cur[o + i]) (by simp [hlt])]; rfl, h.unfrozen _ _⟩
  | v :: x :: vs, i, hl => by
    have hlt : o + i < cur.length := by simp at hl; omega
    exact ⟨⟨by rw [h.cell (v := cur[o + i]) (by simp [hlt])]; rfl, h.unfrozen _ _⟩, Blk.stOK h (x :: vs) (i + 1) (by simp at hl ⊢; omega)⟩
/-- cells, set from o on -/
def setL : List Value → Nat → List Value → List Value
  | cur, _, [] => cur
  | cur, o, v :: vs => setL (cur.set o v) (o + 1) vs
theorem Blk.setAll {g o : Nat} : ∀ (vs : List Value) (i : Nat) {w : World} {cur : List Value}, Blk w g cur → Blk (Go.Sx.setAll ⟨g, o, none⟩ i vs w) g (setL cur (o + i) vs)
  | [], _, _, _, h => h
  | v :: vs, i, w, cur, h => by
    have := Blk.setAll (o := o) vs (i + 1) (h.set o i v)
    rwa [← Nat.add_assoc] at this
theorem Fr.setAll {g o : Nat} : ∀ (vs : List Value) (i : Nat) (w : World), Fr (fun k => k = g) w (Go.Sx.setAll ⟨g, o, none⟩ i vs w)
  | [], _, w => .refl _ _
  | v :: vs, i, w => (Fr.setCell (fun k => k = g) v (.inr (by rw [add_block]))).trans (Fr.setAll vs (i + 1) _) (fun _ _ h => h) (fun _ _ h => h)
theorem Ext.setAll {w w1 : World} (h : Ext w w1) {g o : Nat} (hg : w.heap.size ≤ g) (vs : List Value) (i : Nat) : Ext w (Go.Sx.setAll ⟨g, o, none⟩ i vs w1) :=
  h.trans (Fr.setAll vs i w1) (fun _ _ h => h) (fun k hk e => absurd hk (by omega))
end Go.Sx
