/- Conversions between strings and bytes, and small facts on owned and read bytes. -/
import Derived.Test.YtakmlaliglmnmaaSxLib
set_option linter.unusedVariables false
set_option linter.unusedSimpArgs false
namespace Go.Sx
section
variable {P : Program}
/-- the types []byte, byte, string -/
structure BT (P : Program) (t e s : TypeId) : Prop where
  ht : und P t = some (.slice e)
  he : und P e = some (.int .u8)
  hs : und P s = some .string

/-- a string's bytes -/
def sb (s : ByteArray) : List UInt8 := s.data.toList
theorem sb_length (s : ByteArray) : (sb s).length = s.size := Array.length_toList
/-- a new slice: its block was not there -/
def New (w : World) (A : Option Addr) : Prop := ∀ k, ownB A k → w.heap.size ≤ k
theorem New.none (w : World) : New w Option.none := fun k h => (ownB_none k h).elim
theorem New.self (w : World) (i : Nat) (s : Option Nat) : New w (some ⟨w.heap.size, i, s⟩) := fun k h => by rw [ownB_some] at h; omega
theorem New.ext {w w' : World} {A : Option Addr} {S : Nat → Prop} (h : New w' A) (hf : Fr S w w') : New w A := fun k hk => Nat.le_trans hf.size (h k hk)
theorem Grew.ext {A A' : Option Addr} {w w1 w2 : World} (g : Grew A A' w1 w2) (h : Ext w w1) (hn : New w A) : Ext w w2 :=
  h.trans g.fr (fun _ _ h => h) (fun k hk ho => absurd hk (Nat.not_lt.2 (hn k ho)))
theorem Grew.new {A A' : Option Addr} {w w1 w2 : World} (g : Grew A A' w1 w2) (h : Ext w w1) (hn : New w A) : New w A' :=
  fun k hk => (g.sub k hk).elim (hn k) (fun h' => Nat.le_trans h.size h')
theorem Ext.step' {w w' : World} (e : Ext w w') {Ω : Nat → Prop} (h : ∀ k, k < w.heap.size → ¬ Ω k) : Step NoB w Ω w' := Fr.step e (fun _ _ h => h) (fun k hk ho => (h k hk ho).elim)
theorem Ext.trans' {a b c : World} (h : Ext a b) (h' : Ext b c) : Ext a c := Fr.ext h h'
theorem Imm.ext {α : Type} {K : Kd α} {Ω : Nat → Prop} {w w' : World} {A : Option Addr} {l : List α} (h : Imm K Ω w A l) (hz : 0 < K.size) (e : Ext w w') : Imm K Ω w' A l := h.keep hz (e.step Ω)
theorem Imm.grew {α : Type} {K : Kd α} {w w' : World} {A B B' : Option Addr} {l : List α} (h : Imm K (ownB B) w A l) (hz : 0 < K.size) (g : Grew B B' w w') : Imm K (ownB B') w' A l :=
  h.keep hz (g.fr.step (fun _ _ h => h) (fun k hk h => (g.sub k h).elim id (fun h' => absurd hk (Nat.not_lt.2 h'))))
theorem Imm.sub {α : Type} {K : Kd α} {Ω Ω' : Nat → Prop} {w : World} {A : Option Addr} {l : List α} (h : Imm K Ω w A l) (hz : 0 < K.size) (hs : ∀ k, k < w.heap.size → Ω' k → Ω k) : Imm K Ω' w A l :=
  h.keep hz ⟨Nat.le_refl _, fun _ _ _ => rfl, hs⟩
theorem Imm.new {α : Type} {K : Kd α} {Ω : Nat → Prop} {w : World} {A B : Option Addr} {l : List α} (h : Imm K Ω w A l) (hz : 0 < K.size) (hn : New w B) : Imm K (ownB B) w A l :=
  h.sub hz fun k hk ho => absurd hk (Nat.not_lt.2 (hn k ho))
theorem OwnB.ext {w w' : World} {A : Option Addr} {c : Nat} {l : List UInt8} (h : OwnB w A c l) (e : Ext w w') : OwnB w' A c l := h.keep e fun _ _ h => h
theorem OwnB.imm0 {w : World} {A : Option Addr} {c : Nat} {l : List UInt8} (h : OwnB w A c l) : Imm KB NoB w A l := h.imm fun _ _ h => h
theorem OwnB.le {w : World} {A : Option Addr} {c : Nat} {l : List UInt8} (h : OwnB w A c l) : l.length ≤ c := Own.le h

/-- a literal's block, or any new one: owned -/
theorem own_block {w : World} {g : Nat} {cs : List Value} {e : TypeId} {fr : Nat × Nat} (h : w.heap[g]? = some (.cells cs.toArray e fr)) {sz n : Nat} (hl : cs.length = n * sz) (hn : n ≤ maxLen) (hf : cs.length ≤ fr.1 ∨ fr.2 ≤ fr.1) :
    Own w sz (some ⟨g, 0, none⟩) n n cs :=
  ⟨hl, hn, .inr ⟨g, cs.toArray, e, fr.1, fr.2, rfl, h, Nat.le_refl _, by simpa using hl, by rw [← hl]; simp, by simpa using hf⟩⟩
theorem own_lit {w : World} {cs : List Value} {e : TypeId} {sz n : Nat} (hl : cs.length = n * sz) (hn : n ≤ maxLen) : Own (w.alloc (.cells cs.toArray e)) sz (some ⟨w.heap.size, 0, none⟩) n n cs :=
  own_block (Go.heap_alloc_new w _) hl hn (.inr (Nat.le_refl _))
theorem ownB_lit {w : World} {l : List UInt8} {e : TypeId} (hn : l.length ≤ maxLen) : OwnB (w.alloc (.cells (l.map u8).toArray e)) (some ⟨w.heap.size, 0, none⟩) l.length l :=
  own_lit (by simp) hn

theorem freeze_heap (w : World) (g n m : Nat) (cs : Array Value) (e : TypeId) (h : w.heap[g]? = some (.cells cs e (0, 0))) (hm : m ≠ 0) : (w.freeze ⟨g, n, none⟩ m).heap[g]? = some (.cells cs e (n, n + m)) := by
  simp [World.freeze, hm, Array.getElem?_modify, h]
theorem freeze_other (w : World) (g n m k : Nat) (h : k ≠ g) : (w.freeze ⟨g, n, none⟩ m).heap[k]? = w.heap[k]? := by
  unfold World.freeze
  split
  · rfl
  · simp only [Array.getElem?_modify]; rw [if_neg (fun e => h e.symm)]
theorem freeze_size (w : World) (a : Addr) (m : Nat) : (w.freeze a m).heap.size = w.heap.size := by unfold World.freeze; split <;> simp
theorem freeze_os (w : World) (a : Addr) (m : Nat) : (w.freeze a m).os = w.os := by unfold World.freeze; split <;> rfl
theorem freeze_tape (w : World) (a : Addr) (m : Nat) : (w.freeze a m).tape = w.tape := by unfold World.freeze; split <;> rfl
theorem freeze_output (w : World) (a : Addr) (m : Nat) : (w.freeze a m).output = w.output := by unfold World.freeze; split <;> rfl
theorem freeze_new_fr (S : Nat → Prop) (w u : World) (hu : Fr S w u) (n m : Nat) : Fr S w (u.freeze ⟨w.heap.size, n, none⟩ m) :=
  ⟨(freeze_os _ _ _).trans hu.os, (freeze_tape _ _ _).trans hu.tape, (freeze_output _ _ _).trans hu.output, by rw [freeze_size]; exact hu.size, fun k hk hn => (freeze_other _ _ _ _ _ (by omega)).trans (hu.block k hk hn)⟩

/-- a string's bytes, anew -/
theorem to_bytes {t e s : TypeId} (T : BT P t e s) (w : World) (x : ByteArray) (hx : x.size ≤ maxLen) :
    ∃ A c w', RunsTo P (convert s t (.string x)) w (.slice A (sb x).length c) w' ∧ OwnB w' A c (sb x) ∧ Ext w w' ∧ New w A ∧ A ≠ none := by
  refine ⟨_, _, _, by rw [sb_length]; exact Lib.run_convert_string_bytes w s t e x (und_underlying T.hs) (und_underlying T.ht) (und_underlying T.he), ?_, ?_, New.self w 0 none, by simp⟩
  · have hge := grownCap_ge w x.size 0 e
    have hcs : (Lib.bytesCells w e x).size = grownCap w x.size 0 e := by
      simp only [Lib.bytesCells, Array.size_append, Array.size_map, Array.size_replicate]
      have : x.data.size = x.size := rfl
      omega
    refine ⟨by simp, grownCap_le_maxLen w _ 0 e hx, .inr ⟨w.heap.size, Lib.bytesCells w e x, e, (Lib.bytesCells w e x).size, (Lib.bytesCells w e x).size + 1, rfl, ?_, by rw [sb_length]; exact hge, by rw [hcs, Nat.mul_one], ?_, .inl (Nat.le_refl _)⟩⟩
    · exact freeze_heap _ _ _ _ _ _ (Go.heap_alloc_new w.drew _) (by decide)
    · have e1 : (Lib.bytesCells w e x).toList = (sb x).map u8 ++ List.replicate (grownCap w x.size 0 e - x.size) (.int .u8 0) := by
        simp [Lib.bytesCells, sb, u8]
      rw [e1, Nat.mul_one]
      have : (sb x).length = ((sb x).map u8).length := by simp
      rw [this]; exact List.take_left
  · exact freeze_new_fr NoB w _ ((Fr.drew _ w).ext (Fr.alloc _ _ _)) _ _

/-- bytes as a string -/
theorem to_str {t e s : TypeId} (T : BT P t e s) {w : World} {Ω : Nat → Prop} {A : Option Addr} {l : List UInt8} (h : Imm KB Ω w A l) (c : Nat) :
    RunsTo P (convert t s (.slice A l.length c)) w (.string ⟨l.toArray⟩) w := by
  unfold RunsTo
  rw [run_convert_bytes_string w t s e _ _ c (und_underlying T.ht) (und_underlying T.he) (und_underlying T.hs)]
  cases A with
  | none =>
    have : l = [] := by
      cases l with
      | nil => rfl
      | cons b r => obtain ⟨ad, h, _⟩ := h 0 b rfl; cases h
    subst this
    simp [Conv.bytesToString]
    rfl
  | some ad =>
    have hl := run_loadCells_list (P := P) w ad (l.map u8) (fun j v hj => by
      rw [List.getElem?_map] at hj
      cases hb : l[j]? with
      | none => simp [hb] at hj
      | some b =>
        simp [hb] at hj; subst hj
        obtain ⟨ad', hA, _, cs, hr, hc⟩ := h j b hb
        cases hA; cases hr
        have h2 := hc 0 _ rfl
        rw [show j * KB.size + 0 = j from Nat.mul_one j] at h2
        exact h2)
    rw [List.length_map] at hl
    rw [run_bytesToString w ad l.length c (l.map fun b => (b.toNat : Int)) (by rw [hl]; simp [u8]), foldl_push_bytes]
    have e2 : (l.map (fun b => (b.toNat : Int))).map (fun n => UInt8.ofNat n.toNat) = l := by
      rw [List.map_map]; conv => rhs; rw [← List.map_id l]
      apply List.map_congr_left; intro b _; simp
    rw [e2]
    simp [ByteArray.empty, ByteArray.emptyWithCapacity]
    rfl
theorem to_str_all {t e s : TypeId} (T : BT P t e s) {w : World} {Ω : Nat → Prop} {A : Option Addr} {l : List UInt8} (h : Imm KB Ω w A l) (c : Nat) :
    ∀ u, Ext w u → RunsTo P (convert t s (.slice A l.length c)) u (.string ⟨l.toArray⟩) u := fun u hu => to_str T (h.ext KB_pos hu) c
theorem eq_str (l l' : List UInt8) : (ByteArray.toList ⟨l.toArray⟩ == ByteArray.toList ⟨l'.toArray⟩) = decide (l = l') := by
  have e : ∀ m : List UInt8, ByteArray.toList ⟨m.toArray⟩ = m := fun m => by
    rw [ByteArray.toList_eq]
  rw [e, e]
  by_cases h : l = l' <;> simp [h]

/-- a literal's bytes, told to be of the type that they are of -/
theorem conv_lit {t e s : TypeId} (T : BT P t e s) (w : World) (l : List UInt8) (e' : TypeId) (n c : Nat) (hn : l.length ≤ maxLen) :
    RunsTo P (convert t t (.slice (some ⟨w.heap.size, 0, none⟩) n c)) (w.alloc (.cells (l.map u8).toArray e')) (.slice (some ⟨w.heap.size, 0, none⟩) n c) ((w.alloc (.cells (l.map u8).toArray e')).freeze ⟨w.heap.size, l.length, none⟩ 1) ∧
      OwnB ((w.alloc (.cells (l.map u8).toArray e')).freeze ⟨w.heap.size, l.length, none⟩ 1) (some ⟨w.heap.size, 0, none⟩) l.length l ∧ Ext w ((w.alloc (.cells (l.map u8).toArray e')).freeze ⟨w.heap.size, l.length, none⟩ 1) := by
  refine ⟨?_, ?_, freeze_new_fr NoB w _ (Fr.alloc _ _ _) _ _⟩
  · have hsh : (w.alloc (.cells (l.map u8).toArray e')).shape? w.heap.size = some (e', l.length) := by
      simp [World.shape?, World.alloc, -World.alloc_eq]
    simp [RunsTo, convert, run_und T.ht, run_und T.he, markStringish, hsh, Result.andThen]
  · exact own_block (freeze_heap _ _ _ _ _ _ (Go.heap_alloc_new w _) (by decide)) (by simp) hn (.inl (by simp))
end
end Go.Sx
