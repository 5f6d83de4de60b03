/- Things told of in an earlier world; lists that are written to in their midst, cut, cleared. -/
import Derived.Test.YtakmlaliglmnmaaSxMake
set_option linter.unusedVariables false
set_option linter.unusedSimpArgs false
namespace Go.Sx
section
variable {P : Program} {α : Type}
/-- told of in w0, but for the blocks Ω0 -/
def Kd.fix (Ω0 : Nat → Prop) (w0 : World) (K : Kd α) : Kd α := ⟨K.size, fun _ _ a cs => K.rep Ω0 w0 a cs, fun h => K.len h, fun h _ => h⟩
/-- nor in the blocks G -/
def Kd.out (G : Nat → Prop) (K : Kd α) : Kd α := ⟨K.size, fun Ω w a cs => K.rep (fun k => Ω k ∨ G k) w a cs, fun h => K.len h, fun h st => K.keep h ⟨st.size, fun k hk hn => st.block k hk (fun h => hn (.inl h)), fun k hk h => h.imp (st.sub k hk) id⟩⟩
/-- what is owned by w, seen from w0 = w -/
theorem OwnK.toFix {K : Kd α} {w : World} {A : Option Addr} {c : Nat} {l : List α} (h : OwnK K w A c l) : OwnK (Kd.fix (ownB A) w K) w A c l := h
theorem OwnK.fixImm {K : Kd α} {w : World} {A : Option Addr} {c : Nat} {l : List α} (h : OwnK K w A c l) (hz : 0 < K.size) : Imm (Kd.fix (ownB A) w K) NoB w A l := by
  obtain ⟨xs, ho, hr⟩ := h
  exact Own.imm (K := Kd.fix (ownB A) w K) hz ho (fun _ _ h => h) hr
theorem OwnK.unfix {K : Kd α} {Ω0 : Nat → Prop} {w0 w : World} {A : Option Addr} {c : Nat} {l : List α} (h : OwnK (Kd.fix Ω0 w0 K) w A c l) (st : Step Ω0 w0 (ownB A) w) : OwnK K w A c l := by
  obtain ⟨xs, ho, hr⟩ := h
  exact ⟨xs, ho, fun i a ha => K.keep (show K.rep Ω0 w0 a _ from hr i a ha) st⟩
theorem OwnK.lt {K : Kd α} {w : World} {A : Option Addr} {c : Nat} {l : List α} (h : OwnK K w A c l) : ∀ k, ownB A k → k < w.heap.size := by
  obtain ⟨xs, ho, _⟩ := h; exact ho.lt
theorem OwnK.fr {K : Kd α} {w w' : World} {S : Nat → Prop} {A : Option Addr} {c : Nat} {l : List α} (h : OwnK K w A c l) (hf : Fr S w w') (hn : ∀ k, ownB A k → ¬ S k) (hr : ∀ a cs, a ∈ l → K.rep (ownB A) w a cs → K.rep (ownB A) w' a cs) : OwnK K w' A c l := by
  obtain ⟨xs, ho, hx⟩ := h
  exact ⟨xs, ho.keep hf hn, fun i a ha => hr a _ (List.mem_of_getElem? ha) (hx i a ha)⟩
theorem OwnK.take {K : Kd α} {w : World} {A : Option Addr} {c : Nat} {l : List α} (h : OwnK K w A c l) (k : Nat) (hk : k ≤ l.length) : OwnK K w A c (l.take k) := by
  obtain ⟨xs, ho, hx⟩ := h
  refine ⟨xs.take (k * K.size), by rw [List.length_take, Nat.min_eq_left hk]; exact ho.take hk, fun i a ha => ?_⟩
  rw [List.getElem?_take] at ha
  split at ha
  · rename_i hlt
    have := hx i a ha
    have e : ((xs.take (k * K.size)).drop (i * K.size)).take K.size = (xs.drop (i * K.size)).take K.size := by
      rw [List.drop_take, List.take_take, Nat.min_eq_left]
      have : (i + 1) * K.size ≤ k * K.size := Nat.mul_le_mul_right _ hlt
      rw [Nat.add_mul, Nat.one_mul] at this; omega
    rw [e]; exact this
  · cases ha
/-- the block of a list that is owned, as a block -/
theorem OwnK.blk {K : Kd α} {w : World} {A : Option Addr} {c : Nat} {l : List α} (h : OwnK K w A c l) (hz : 0 < K.size) {i : Nat} (hi : i < l.length) : ∃ g, A = some ⟨g, 0, none⟩ ∧ ∀ j, j < K.size → (w.cell? ⟨g, i * K.size + j, none⟩).isSome = true ∧ w.frozen? ⟨g, i * K.size + j, none⟩ = false := by
  obtain ⟨xs, ho, hx⟩ := h
  have hle : (i + 1) * K.size ≤ l.length * K.size := Nat.mul_le_mul_right _ hi
  rw [Nat.add_mul, Nat.one_mul] at hle
  obtain ⟨g, hA, _⟩ := ho.at_ (j := i * K.size) (by omega)
  refine ⟨g, hA, fun j hj => ?_⟩
  obtain ⟨g', hA', h1, h2, _⟩ := ho.at_ (j := i * K.size + j) (by omega)
  rw [hA] at hA'; cases hA'
  exact ⟨h1, h2⟩
theorem stOK_of {a : Addr} {w : World} : ∀ (vs : List Value) (i : Nat), (∀ j, j < vs.length → (w.cell? (a.add (i + j))).isSome = true ∧ w.frozen? (a.add (i + j)) = false) → stOK a i vs w
  | [], _, _ => trivial
  | [v], i, h => h 0 (by simp)
  | v :: x :: vs, i, h => ⟨h 0 (by simp), stOK_of (x :: vs) (i + 1) (fun j hj => by have := h (j + 1) (by simp at hj ⊢; omega); rwa [show i + (j + 1) = i + 1 + j by omega] at this)⟩
theorem setAll_own {sz n c o g : Nat} : ∀ (vs : List Value) (i : Nat) {w : World} {xs : List Value}, Own w sz (some ⟨g, 0, none⟩) n c xs → o + i + vs.length ≤ n * sz →
    Own (setAll ⟨g, o, none⟩ i vs w) sz (some ⟨g, 0, none⟩) n c (setL xs (o + i) vs)
  | [], _, _, _, h, _ => h
  | v :: vs, i, w, xs, h, hl => by
    obtain ⟨g', hA, _, _, hs⟩ := h.at_ (j := o + i) (by simp at hl; omega)
    cases hA
    have := setAll_own vs (i + 1) (hs v).1 (o := o) (by simp at hl; omega)
    show Own (setAll ⟨g, o, none⟩ (i + 1) vs (w.setCell ((⟨g, o, none⟩ : Addr).add i) v)) _ _ _ _ _
    rw [add_new]
    exact this
theorem setL_length : ∀ (vs : List Value) (o : Nat) (xs : List Value), (setL xs o vs).length = xs.length
  | [], _, _ => rfl
  | v :: vs, o, xs => by rw [setL, setL_length vs, List.length_set]
theorem setL_get : ∀ (vs : List Value) (o : Nat) (xs : List Value) (j : Nat), j < xs.length → (setL xs o vs)[j]? = if o ≤ j ∧ j < o + vs.length then vs[j - o]? else xs[j]?
  | [], o, xs, j, h => by
    have : ¬ (o ≤ j ∧ j < o + ([] : List Value).length) := by rw [List.length_nil]; omega
    rw [setL, if_neg this]
  | v :: vs, o, xs, j, h => by
    rw [setL, setL_get vs (o + 1) (xs.set o v) j (by simpa using h), List.getElem?_set]
    by_cases hj : o = j
    · subst hj
      rw [if_neg (by omega), if_pos rfl, if_pos (by simpa using h), if_pos (by simp)]
      simp
    · rw [if_neg hj]
      by_cases hr : o + 1 ≤ j ∧ j < o + 1 + vs.length
      · rw [if_pos hr, if_pos (by simp; omega), show j - o = (j - (o + 1)) + 1 by omega]; rfl
      · rw [if_neg hr, if_neg (by simp; omega)]
/-- the i-th thing of a list that is owned, set anew -/
theorem OwnK.set {K : Kd α} {w : World} {A : Option Addr} {c : Nat} {l : List α} (h : OwnK K w A c l) (hfix : ∀ w' a cs, K.rep (ownB A) w a cs → K.rep (ownB A) w' a cs) {i : Nat} (hi : i < l.length) {a : α} {cs : List Value} (ha : K.rep (ownB A) w a cs) {g : Nat} (hA : A = some ⟨g, 0, none⟩) :
    OwnK K (setAll ⟨g, i * K.size, none⟩ 0 cs w) A c (l.set i a) := by
  subst hA
  obtain ⟨xs, ho, hx⟩ := h
  have hcl := K.len ha
  have hle : (i + 1) * K.size ≤ l.length * K.size := Nat.mul_le_mul_right _ hi
  rw [Nat.add_mul, Nat.one_mul] at hle
  have ho' := setAll_own (o := i * K.size) cs 0 ho (by omega)
  refine ⟨setL xs (i * K.size + 0) cs, by rw [List.length_set]; exact ho', fun j b hj => ?_⟩
  have hlen := ho.len
  have hjl : j < l.length := by have := (List.getElem?_eq_some_iff.1 hj).1; simpa using this
  have hje : (j + 1) * K.size ≤ l.length * K.size := Nat.mul_le_mul_right _ hjl
  rw [Nat.add_mul, Nat.one_mul] at hje
  have ext : ∀ (ys : List Value), ys.length = K.size → (∀ q, q < K.size → (setL xs (i * K.size + 0) cs)[j * K.size + q]? = ys[q]?) → ((setL xs (i * K.size + 0) cs).drop (j * K.size)).take K.size = ys := by
    intro ys hy hq
    apply List.ext_getElem?
    intro q
    rw [List.getElem?_take]
    split
    · rename_i hlt; rw [List.getElem?_drop]; exact hq q hlt
    · rw [List.getElem?_eq_none (by omega)]
  by_cases hij : i = j
  · subst hij
    rw [List.getElem?_set_self hi] at hj
    cases hj
    rw [ext cs hcl (fun q hq => by
      rw [setL_get _ _ _ _ (by omega), if_pos (by omega)]; congr 1; omega)]
    exact hfix _ _ _ ha
  · rw [List.getElem?_set_ne hij] at hj
    have hb := hx j b hj
    rw [ext ((xs.drop (j * K.size)).take K.size) (K.len hb) (fun q hq => by
      have hd : ¬ (i * K.size + 0 ≤ j * K.size + q ∧ j * K.size + q < i * K.size + 0 + cs.length) := by
        rcases Nat.lt_or_ge i j with h | h
        · have : (i + 1) * K.size ≤ j * K.size := Nat.mul_le_mul_right _ h
          rw [Nat.add_mul, Nat.one_mul] at this; omega
        · have : (j + 1) * K.size ≤ i * K.size := Nat.mul_le_mul_right _ (by omega)
          rw [Nat.add_mul, Nat.one_mul] at this; omega
      rw [setL_get _ _ _ _ (by omega), if_neg hd, List.getElem?_take_of_lt hq, List.getElem?_drop])]
    exact hfix _ _ _ hb
theorem made_cells (z : Array Value) (n : Nat) : (Builtin.zeroCells z n).size = n * z.size := by simp [Builtin.zeroCells, Nat.mul_comm]
/-- clear, of what is owned, from a place on -/
theorem clear_own {K : Kd α} {t e by_ : Nat} {z : List Value} (T : SlT P t e K.size by_ z) (hz1 : ∀ v ∈ z, v.oneCell' = true) {ty : TypeId} {w : World} {A : Option Addr} {c : Nat} {l : List α} (h : OwnK K w A c l) (hfix : ∀ w' a cs, K.rep (ownB A) w a cs → K.rep (ownB A) w' a cs) {k : Nat} (hk : k ≤ l.length) (c' : Nat) :
    ∃ w', RunsTo P (Builtin.clear_ #[t] ty #[.slice (cutAt A c k K.size) (l.length - k) c']) w (.tuple #[]) w' ∧ OwnK K w' A c (l.take k) ∧ Fr (ownB A) w w' := by
  obtain ⟨i, hi, hsz, hby, zv, hzv, hzl⟩ := T.hi
  have hpos := T.pos
  rcases Nat.eq_or_lt_of_le hk with rfl | hlt
  · refine ⟨w, ?_, by rw [List.take_length]; exact h, .refl _ _⟩
    rw [Nat.sub_self]
    unfold RunsTo
    cases hA : cutAt A c l.length K.size <;> simp [Builtin.clear_, run_und T.ht, Result.andThen]
  · have hT := h.take k hk
    obtain ⟨xs, ho, hx⟩ := h
    rcases ho.2.2 with ⟨_, h0, _⟩ | ⟨g, cur, e', lo, hi', rfl, hg, hnc, hcs, htake, hfz⟩
    · omega
    · have hne : ¬ c = k := by have := ho.le; omega
      have hcut : cutAt (some ⟨g, 0, none⟩) c k K.size = some ⟨g, k * K.size, none⟩ := by
        unfold cutAt; rw [if_neg hne]; simp [add_new]
      rw [hcut]
      obtain ⟨m, hm⟩ : ∃ m, l.length - k = m + 1 := ⟨l.length - k - 1, by omega⟩
      have hzc : zv.cells.toList = z := by rw [← cellsL_eq]; exact hzl
      have hzs : zv.cells.size = K.size := by rw [← Array.length_toList, hzc]; exact T.hz
      have hlen : (Builtin.zeroCells zv.cells (l.length - k)).toList.length = (l.length - k) * K.size := by rw [Array.length_toList, made_cells, hzs]
      have hone : ∀ v ∈ (Builtin.zeroCells zv.cells (l.length - k)).toList, v.oneCell' = true := by
        intro v hv
        simp only [Builtin.zeroCells, Array.toList_map, List.mem_map] at hv
        obtain ⟨q, hq, rfl⟩ := hv
        have hqs : q % zv.cells.size < zv.cells.size := Nat.mod_lt _ (by omega)
        rw [getElem!_pos zv.cells _ hqs]
        exact hz1 _ (by rw [← hzc]; simp)
      have hle : l.length * K.size ≤ c * K.size := Nat.mul_le_mul_right _ hnc
      have hsub : k * K.size + (l.length - k) * K.size = l.length * K.size := by rw [← Nat.add_mul]; congr 1; omega
      have hst := run_storeCells_own (P := P) g (k * K.size) e' lo hi' (Builtin.zeroCells zv.cells (l.length - k)).toList 0 cur w hg hfz (by omega) hone
      refine ⟨w.setRow g (cur.toList.take (k * K.size + 0) ++ (Builtin.zeroCells zv.cells (l.length - k)).toList ++ cur.toList.drop (k * K.size + 0 + (Builtin.zeroCells zv.cells (l.length - k)).toList.length)).toArray, ?_, ?_, ⟨rfl, rfl, rfl, by simp, fun b _ hb => setRow_other w g b _ (fun e => hb (by rw [ownB_some]; exact e.symm))⟩⟩
      · have hzr : (zeroValue e).run P w = .ok zv w := by simp only [zeroValue, Sem.run_bind, run_inf hi, Result.andThen_ok, hzv, Sem.run_pure]
        unfold RunsTo
        rw [hm] at hst ⊢
        simp only [Builtin.clear_, List.getElem?_toArray, List.getElem?_cons_zero, Sem.run_bind, run_und T.ht, Result.andThen_ok, hzr, hst, Sem.run_pure]
      · obtain ⟨xs', ho', hx'⟩ := hT
        refine ⟨xs', ⟨ho'.1, ho'.2.1, .inr ⟨g, _, e', lo, hi', rfl, setRow_heap w g cur _ e' _ hg, by rw [List.length_take]; omega, ?_, ?_, ?_⟩⟩, fun j b hj => hfix _ _ _ (hx' j b hj)⟩
        · simp only [List.size_toArray, List.length_append, List.length_take, List.length_drop, Array.length_toList, hlen]; omega
        · have hx'' : xs' = cur.toList.take (k * K.size) := by
            rcases ho'.2.2 with ⟨h, _⟩ | ⟨g2, cur2, e2, lo2, hi2, hA2, hg2, _, _, ht2, _⟩
            · cases h
            · cases hA2
              rw [hg] at hg2; cases hg2
              rw [← ht2, List.length_take, Nat.min_eq_left hk]
          have hkl : (k * K.size) ≤ cur.toList.length := by rw [Array.length_toList]; omega
          rw [List.length_take, Nat.min_eq_left hk, hx'']
          simp only [Nat.add_zero, List.append_assoc]
          rw [List.take_append_of_le_length (by rw [List.length_take]; omega), List.take_take, Nat.min_self]
        · simp only [List.size_toArray, List.length_append, List.length_take, List.length_drop, Array.length_toList, hlen]
          rcases hfz with h | h
          · left; omega
          · right; exact h
end
end Go.Sx
