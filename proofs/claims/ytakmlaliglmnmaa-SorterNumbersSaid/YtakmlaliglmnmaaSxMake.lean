/- make, copy, and what is owned written to in its midst. -/
import Derived.Test.YtakmlaliglmnmaaSxBlk
set_option linter.unusedVariables false
set_option linter.unusedSimpArgs false
namespace Go.Sx
section
variable {P : Program}
theorem made_one (z : Value) (n : Nat) : (madeCells #[z] n).toList = List.replicate n z := by
  apply List.ext_getElem
  · simp [madeCells]
  · intro i h1 h2
    simp [madeCells, Nat.mod_one]
/-- make: elements of one cell -/
theorem make_own {t e by_ : Nat} {z : Value} (T : SlT P t e 1 by_ [z]) (hz1 : z.oneCell' = true) (w : World) (n : Nat) (h1 : n ≤ maxLen) (h2 : n * by_ ≤ 281474976710656) (k k' : IntKind) :
    ∃ w', RunsTo P (Instr.makeSlice t (.int k (n : Int)) (.int k' (n : Int))) w (.slice (some ⟨w.heap.size, 0, none⟩) n n) w' ∧ Own w' 1 (some ⟨w.heap.size, 0, none⟩) n n (List.replicate n z) ∧ Ext w w' := by
  obtain ⟨i, hi, hs, hb, zv, hzv, hzl⟩ := T.hi
  have hc : zv.cells = #[z] := by
    have := cellsL_eq zv
    rw [← Array.toList_inj]; rw [← cellsL_eq, hzl]
  have h2' : (i.bytes : Int) * (n : Int) ≤ 281474976710656 := by
    have h3 : ((n * by_ : Nat) : Int) ≤ 281474976710656 := by omega
    rw [Int.natCast_mul] at h3
    rw [hb, Int.mul_comm]; exact h3
  have hr := run_make (P := P) w t e i zv (und_underlying T.ht) (inf_info hi) hzv k k' (n : Int) (n : Int) (by omega) (by omega) h2' (by simp [maxLen] at h1; omega)
  rw [hc, hs, Int.toNat_natCast, Nat.mul_one] at hr
  refine ⟨_, hr, ?_, Fr.alloc NoB w _⟩
  have := own_lit (w := w) (cs := List.replicate n z) (e := e) (sz := 1) (n := n) (by simp) h1
  rw [show (madeCells #[z] n) = (List.replicate n z).toArray by rw [← made_one, Array.toArray_toList]]
  exact this

theorem zerosL_part (z : List Value) (n i : Nat) (hi : i < n) : ((zerosL z n).drop (i * z.length)).take z.length = z := by
  apply List.ext_getElem?
  intro j
  rw [List.getElem?_take]
  split
  · rename_i hj
    have hlt : i * z.length + j < n * z.length := by
      have h1 : (i + 1) * z.length ≤ n * z.length := Nat.mul_le_mul_right _ hi
      rw [Nat.add_mul, Nat.one_mul] at h1
      omega
    rw [List.getElem?_drop, zerosL_get z n _ hlt, Nat.mul_comm, Nat.mul_add_mod, Nat.mod_eq_of_lt hj]
  · rename_i hj
    rw [List.getElem?_eq_none (by omega)]
/-- make: elements of some cells -/
theorem make_ownZ {t e sz by_ : Nat} {z : List Value} (T : SlT P t e sz by_ z) (w : World) (n : Nat) (h1 : n ≤ maxLen) (h2 : n * by_ ≤ 281474976710656) (k k' : IntKind) :
    ∃ w', RunsTo P (Instr.makeSlice t (.int k (n : Int)) (.int k' (n : Int))) w (.slice (some ⟨w.heap.size, 0, none⟩) n n) w' ∧ Own w' sz (some ⟨w.heap.size, 0, none⟩) n n (zerosL z n) ∧ Ext w w' := by
  obtain ⟨i, hi, hs, hb, zv, hzv, hzl⟩ := T.hi
  have hc : zv.cells.toList = z := by rw [← cellsL_eq, hzl]
  have h2' : (i.bytes : Int) * (n : Int) ≤ 281474976710656 := by
    have h3 : ((n * by_ : Nat) : Int) ≤ 281474976710656 := by omega
    rw [Int.natCast_mul] at h3
    rw [hb, Int.mul_comm]; exact h3
  have hr := run_make (P := P) w t e i zv (und_underlying T.ht) (inf_info hi) hzv k k' (n : Int) (n : Int) (by omega) (by omega) h2' (by simp [maxLen] at h1; omega)
  rw [hs, Int.toNat_natCast] at hr
  refine ⟨_, hr, ?_, Fr.alloc NoB w _⟩
  have hzs : z.length = sz := T.hz
  have := own_lit (w := w) (cs := zerosL z n) (e := e) (sz := sz) (n := n) (by rw [zerosL_length, hzs]) h1
  have hm : madeCells zv.cells (n * sz) = (zerosL z n).toArray := by
    rw [← Array.toList_inj]
    have := zeros_eq zv.cells sz n (by rw [hc]; exact hzs)
    rw [hc] at this
    exact this
  rw [hm]
  exact this
theorem make_ownK {α : Type} {K : Kd α} {t e by_ : Nat} {z : List Value} (T : SlT P t e K.size by_ z) {a : α} (ha : ∀ Ω w, K.rep Ω w a z) (w : World) (n : Nat) (h1 : n ≤ maxLen) (h2 : n * by_ ≤ 281474976710656) (k k' : IntKind) :
    ∃ w', RunsTo P (Instr.makeSlice t (.int k (n : Int)) (.int k' (n : Int))) w (.slice (some ⟨w.heap.size, 0, none⟩) n n) w' ∧ OwnK K w' (some ⟨w.heap.size, 0, none⟩) n (List.replicate n a) ∧ Ext w w' := by
  obtain ⟨w', hr, ho, he⟩ := make_ownZ T w n h1 h2 k k'
  refine ⟨w', hr, ⟨_, by rw [List.length_replicate]; exact ho, fun i b hb => ?_⟩, he⟩
  obtain ⟨hi, rfl⟩ := List.getElem?_eq_some_iff.1 hb
  rw [List.length_replicate] at hi
  have hzs : z.length = K.size := T.hz
  rw [← hzs, zerosL_part z n i hi, List.getElem_replicate]
  exact ha _ _
/-- copy of as many elements as there are -/
theorem copy_own {t t2 e sz by_ : Nat} {z : List Value} (T : SlT P t e sz by_ z) {ty : TypeId} {w : World} {A : Option Addr} {n c : Nat} {xs : List Value} (h : Own w sz A n c xs) {x : Value} {ys : List Value} (hx : Src P w sz x n ys) :
    ∃ w', RunsTo P (Builtin.copy_ #[t, t2] ty #[.slice A n c, x]) w (.int .i64 (n : Int)) w' ∧ Own w' sz A n c ys ∧ Fr (ownB A) w w' := by
  obtain ⟨i, hi, hsz, hby, zv, hzv, hzl⟩ := T.hi
  subst hsz
  obtain ⟨hfc, hlen, hyl, hy1⟩ := hx
  have hfd := hfc w rfl
  rcases h.2.2 with ⟨rfl, rfl, rfl⟩ | ⟨g, cur, e', lo, hi', rfl, hg, hnc, hcs, htake, hfz⟩
  · have hy0 : ys = [] := List.eq_nil_of_length_eq_zero (by simpa using hyl)
    subst hy0
    refine ⟨w, ?_, Own.nil w _, .refl _ _⟩
    simp only [RunsTo, Builtin.copy_, List.getElem?_toArray, List.getElem?_cons_zero, List.getElem?_cons_succ, Sem.run_bind, run_und T.ht, Result.andThen_ok, hlen, run_size hi, Nat.min_self, Nat.min_def, Nat.le_refl, if_true, hfd, Sem.run_pure, goInt]
  · have hfit : 0 + 0 + ys.length ≤ cur.size := by rw [hyl, hcs]; simpa using Nat.mul_le_mul_right _ hnc
    have hst := run_storeCells_own (P := P) g 0 e' lo hi' ys 0 cur w hg hfz hfit hy1
    simp only [Nat.add_zero, Nat.zero_add, List.take_zero, List.nil_append] at hst
    refine ⟨w.setRow g (ys ++ cur.toList.drop ys.length).toArray, ?_, ⟨hyl, h.2.1, .inr ⟨g, _, e', lo, hi', rfl, setRow_heap w g cur _ e' _ hg, hnc, ?_, ?_, ?_⟩⟩, ⟨rfl, rfl, rfl, by simp, fun k _ hk => setRow_other w g k _ (fun e => hk (by rw [ownB_some]; exact e.symm))⟩⟩
    · simp only [RunsTo, Builtin.copy_, List.getElem?_toArray, List.getElem?_cons_zero, List.getElem?_cons_succ, Sem.run_bind, run_und T.ht, Result.andThen_ok, hlen, run_size hi, Nat.min_self, Nat.min_def, Nat.le_refl, if_true, hfd, hst, Sem.run_pure, goInt]
    · simp only [List.size_toArray, List.length_append, List.length_drop, Array.length_toList]
      omega
    · rw [← hyl]; exact List.take_left
    · simp only [List.size_toArray, List.length_append, List.length_drop, Array.length_toList]
      omega

/-- a cell of what is owned, written -/
theorem Own.at_ {w : World} {sz : Nat} {A : Option Addr} {n c : Nat} {xs : List Value} (h : Own w sz A n c xs) {j : Nat} (hj : j < n * sz) :
    ∃ g, A = some ⟨g, 0, none⟩ ∧ (w.cell? ⟨g, j, none⟩).isSome = true ∧ w.frozen? ⟨g, j, none⟩ = false ∧ ∀ v, Own (w.setCell ⟨g, j, none⟩ v) sz A n c (xs.set j v) ∧ Fr (ownB A) w (w.setCell ⟨g, j, none⟩ v) := by
  rcases h.2.2 with ⟨_, rfl, _⟩ | ⟨g, cur, e, lo, hi, rfl, hg, hnc, hcs, htake, hfz⟩
  · simp at hj
  · have hjc : j < cur.size := by rw [hcs]; exact Nat.lt_of_lt_of_le hj (Nat.mul_le_mul_right _ hnc)
    refine ⟨g, rfl, by rw [cell_of_row w g j cur e _ hg]; simp [hjc], not_frozen hg hjc hfz, fun v => ⟨⟨by rw [List.length_set]; exact h.1, h.2.1, .inr ⟨g, cur.setIfInBounds j v, e, lo, hi, rfl, ?_, hnc, by simpa using hcs, ?_, by simpa using hfz⟩⟩, ?_⟩⟩
    · simp [World.setCell, Array.getElem?_modify, hg]
    · rw [Array.toList_setIfInBounds, ← htake, List.take_set]
    · exact Fr.setCell (ownB (some ⟨g, 0, none⟩)) v (.inr (by rw [ownB_some]))
end
end Go.Sx
