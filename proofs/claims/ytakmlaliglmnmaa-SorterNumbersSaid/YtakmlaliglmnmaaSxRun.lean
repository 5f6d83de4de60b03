/- What append, make, copy and the conversions come to, over owned memory. -/
import Derived.Test.YtakmlaliglmnmaaSxMem
set_option linter.unusedVariables false
set_option linter.unusedSimpArgs false
namespace Go.Sx
section
variable {P : Program}

/-- the facts on a slice type: its elements' type, cells and bytes -/
structure SlT (P : Program) (t e sz by_ : Nat) (z : List Value) : Prop where
  ht : und P t = some (.slice e)
  hi : ∃ i, inf P e = some i ∧ i.size = sz ∧ i.bytes = by_ ∧ ∃ zv, i.zero = some zv ∧ cellsL zv = z
  hz : z.length = sz
  pos : 0 < sz

theorem not_frozen {w : World} {g j lo hi : Nat} {cur : Array Value} {e : TypeId} (hg : w.heap[g]? = some (.cells cur e (lo, hi))) (hj : j < cur.size) (hf : cur.size ≤ lo ∨ hi ≤ lo) : w.frozen? ⟨g, j, none⟩ = false := by
  simp only [World.frozen?, hg]
  rcases hf with h | h
  · simp; omega
  · simp; omega

theorem run_storeCells_own (g o : Nat) (e : TypeId) (lo hi : Nat) : ∀ (vs : List Value) (i : Nat) (cur : Array Value) (w : World), w.heap[g]? = some (.cells cur e (lo, hi)) → (cur.size ≤ lo ∨ hi ≤ lo) → o + i + vs.length ≤ cur.size → (∀ v ∈ vs, v.oneCell' = true) →
    (storeCells ⟨g, o, none⟩ vs i).run P w = .ok () (w.setRow g (cur.toList.take (o + i) ++ vs ++ cur.toList.drop (o + i + vs.length)).toArray)
  | [], i, cur, w, hg, _, _, _ => by
    simp only [storeCells, List.append_nil, List.length_nil, Nat.add_zero, List.take_append_drop, Array.toArray_toList]
    rw [setRow_self w g cur e (lo, hi) hg]
    rfl
  | v :: rest, i, cur, w, hg, hf, hl, h1 => by
    have hi' : o + i < cur.size := by simp at hl; omega
    have hcell : w.cell? ⟨g, o + i, none⟩ = some cur[o + i] := by simp [World.cell?, hg, hi']
    have hfro := not_frozen hg hi' hf
    have hst : (store ((⟨g, o, none⟩ : Addr).add i) v).run P w = .ok () (w.setRow g (cur.setIfInBounds (o + i) v)) := by
      rw [add_new, run_store P w _ v _ (h1 v (by simp)), hcell]
      simp [hfro, setCell_eq_setRow w g (o + i) cur e (lo, hi) v hg]
    have ih := run_storeCells_own g o e lo hi rest (i + 1) (cur.setIfInBounds (o + i) v) (w.setRow g (cur.setIfInBounds (o + i) v)) (setRow_heap w g cur _ e _ hg) (by simpa using hf) (by simp at hl ⊢; omega) (fun x hx => h1 x (by simp [hx]))
    simp only [storeCells, Sem.run_bind, hst, Result.andThen_ok, ih, setRow_setRow]
    congr 3
    have e := list_seg_step cur.toList (o + i) v rest (by simp at hl ⊢; omega)
    simpa [Array.toList_setIfInBounds, Nat.add_assoc] using e

/-- What an append takes: so many elements, these cells; read alike wherever the heap is as it is. -/
def Src (P : Program) (w : World) (sz : Nat) (x : Value) (m : Nat) (ys : List Value) : Prop :=
  (∀ w' : World, w'.heap = w.heap → (Builtin.firstCells sz m x).run P w' = .ok ys.toArray w') ∧ (∀ w', (Builtin.lenOf x).run P w' = .ok m w') ∧ ys.length = m * sz ∧ ∀ v ∈ ys, v.oneCell' = true

theorem Src.cells {w : World} {sz m c : Nat} {B : Option Addr} {ys : List Value} (hl : ys.length = m * sz) (h : ∀ j v, ys[j]? = some v → ∃ ad, B = some ad ∧ w.cell? (ad.add j) = some v) (h1 : ∀ v ∈ ys, v.oneCell' = true) : Src P w sz (.slice B m c) m ys := by
  refine ⟨fun w' hw => ?_, fun w' => rfl, hl, h1⟩
  have hc : ∀ a : Addr, w'.cell? a = w.cell? a := fun a => by simp [World.cell?, hw]
  cases B with
  | none =>
    have : ys = [] := by
      cases ys with
      | nil => rfl
      | cons v vs => obtain ⟨ad, h, _⟩ := h 0 v rfl; cases h
    subst this
    simp [Builtin.firstCells]
  | some ad =>
    exact run_firstCells_some (P := P) w' sz m ad m c ys hl (fun j v hj => by obtain ⟨ad', hA, hv⟩ := h j v hj; cases hA; rw [hc]; exact hv)
theorem Src.str {w : World} (s : ByteArray) : Src P w 1 (.string s) s.size (Lib.strCells s) :=
  ⟨fun w' _ => Lib.run_firstCells_string (P := P) w' 1 s, fun _ => rfl, by rw [Lib.strCells_length, Nat.mul_one], Lib.strCells_oneCell s⟩
theorem Src.own {w : World} {sz : Nat} {A : Option Addr} {n c : Nat} {xs : List Value} (h : Own w sz A n c xs) (h1 : ∀ v ∈ xs, v.oneCell' = true) : Src P w sz (.slice A n c) n xs :=
  .cells h.1 (fun j v hj => by obtain ⟨g, hA, hc⟩ := h.cells hj; exact ⟨_, hA, by rw [add_new, Nat.zero_add]; exact hc⟩) h1
/-- a new block's cells -/
theorem alloc_cell (w : World) (cs : Array Value) (e : TypeId) (fr : Nat × Nat) (j : Nat) : (w.alloc (.cells cs e fr)).cell? ⟨w.heap.size, j, none⟩ = cs[j]? := by
  simp [World.cell?, World.alloc, -World.alloc_eq]
theorem Src.new {w : World} {sz m c : Nat} {cs : List Value} (e : TypeId) (hl : cs.length = m * sz) (h1 : ∀ v ∈ cs, v.oneCell' = true) : Src P (w.alloc (.cells cs.toArray e)) sz (.slice (some ⟨w.heap.size, 0, none⟩) m c) m cs :=
  .cells hl (fun j v hj => ⟨_, rfl, by rw [add_new, Nat.zero_add, alloc_cell]; simpa using hj⟩) h1
theorem Src.imm {α : Type} {K : Kd α} {Ω : Nat → Prop} {w : World} {A : Option Addr} {l : List α} {c : Nat} (h : Imm K Ω w A l) {ys : List Value} (hl : ys.length = l.length * K.size)
    (hys : ∀ i a cs, l[i]? = some a → K.rep Ω w a cs → (∀ ad, A = some ad → ∀ j v, cs[j]? = some v → w.cell? (ad.add (i * K.size + j)) = some v) → ∀ j v, cs[j]? = some v → ys[i * K.size + j]? = some v) (h1 : ∀ v ∈ ys, v.oneCell' = true) : Src P w K.size (.slice A l.length c) l.length ys := by
  refine .cells hl (fun j v hj => ?_) h1
  have hlt : j < l.length * K.size := by rw [← hl]; exact (List.getElem?_eq_some_iff.1 hj).1
  have hz : 0 < K.size := by
    rcases Nat.eq_zero_or_pos K.size with h | h
    · rw [h] at hlt; simp at hlt
    · exact h
  have hi : j / K.size < l.length := Nat.div_lt_of_lt_mul (by rwa [Nat.mul_comm] at hlt)
  obtain ⟨ad, hA, _, cs, hr, hc⟩ := h (j / K.size) l[j / K.size] (by simp [hi])
  have hm : j % K.size < cs.length := by rw [K.len hr]; exact Nat.mod_lt _ hz
  have hdm : j / K.size * K.size + j % K.size = j := by rw [Nat.mul_comm]; exact Nat.div_add_mod j K.size
  have e1 := hys (j / K.size) l[j / K.size] cs (by simp [hi]) hr (fun ad' hA' j v hj => by rw [hA] at hA'; cases hA'; exact hc j v hj) (j % K.size) cs[j % K.size] (by simp [hm])
  have e2 := hc (j % K.size) cs[j % K.size] (by simp [hm])
  rw [hdm] at e1 e2
  rw [hj] at e1
  cases e1
  exact ⟨ad, hA, e2⟩
theorem u8_cells_one (l : List UInt8) : ∀ v ∈ l.map u8, v.oneCell' = true := by intro v hv; obtain ⟨b, _, rfl⟩ := List.mem_map.1 hv; rfl
theorem Src.bytes {Ω : Nat → Prop} {w : World} {A : Option Addr} {l : List UInt8} {c : Nat} (h : Imm KB Ω w A l) : Src P w 1 (.slice A l.length c) l.length (l.map u8) :=
  .cells (by simp) (fun j v hj => by
    rw [List.getElem?_map] at hj
    cases hl : l[j]? with
    | none => simp [hl] at hj
    | some b =>
      simp [hl] at hj; subst hj
      obtain ⟨ad, hA, _, cs, hr, hc⟩ := h j b hl
      cases hr
      exact ⟨ad, hA, by have h2 := hc 0 _ rfl; rw [show j * KB.size + 0 = j from Nat.mul_one j] at h2; exact h2⟩) (u8_cells_one l)

theorem zeroCells_eq (z : List Value) (n : Nat) : (Builtin.zeroCells z.toArray n).toList = zerosL z n := by
  have := zeros_eq z.toArray z.length n (by simp)
  simpa [Builtin.zeroCells] using this

/-- **append**: onto what is owned, from whatever source. -/
theorem append_own {t e sz by_ : Nat} {z : List Value} (T : SlT P t e sz by_ z) {t2 ty : TypeId} (ht2 : ∃ d, und P t2 = some d ∧ ∀ k, d ≠ .int k) {w : World} {A : Option Addr} {n c : Nat} {xs : List Value} (h : Own w sz A n c xs)
    {x : Value} {m : Nat} {ys : List Value} (hx : Src P w sz x m ys) (h1 : n + m ≤ maxLen) (h2 : (n + m) * by_ ≤ 140737488355328) :
    ∃ A' c' w', RunsTo P (Builtin.append_ #[t, t2] ty #[.slice A n c, x]) w (.slice A' (n + m) c') w' ∧ Own w' sz A' (n + m) c' (xs ++ ys) ∧ Fr (ownB A) w w' ∧
      (∀ k, ownB A' k → ownB A k ∨ w.heap.size ≤ k) ∧ (m = 0 → A' = A) := by
  obtain ⟨i, hi, hsz, hby, zv, hzv, hzl⟩ := T.hi
  subst hsz; subst hby
  obtain ⟨d2, hd2, hnint⟩ := ht2
  obtain ⟨hfc, hlen, hyl, hy1⟩ := hx
  have hzz : (match d2 with | .int _ => true | _ => false) = false := by cases d2 <;> first | rfl | exact absurd rfl (hnint _)
  have hpos := T.pos
  have hzsz : z.length = i.size := T.hz
  have hl63 : ¬ (((n + m : Nat) : Int) > IntKind.i64.max) := by simp [maxLen] at h1; simp [IntKind.max, IntKind.signed, IntKind.bits]; omega
  -- the arm that grows
  have grow : c < n + m → (Builtin.firstCells i.size n (.slice A n c)).run P w.drew = .ok xs.toArray w.drew →
      (Builtin.append_ #[t, t2] ty #[.slice A n c, x]).run P w = .ok (.slice (some ⟨w.heap.size, 0, none⟩) (n + m) (grownCap w (n + m) c e))
        (w.drew.alloc (.cells (xs.toArray ++ ys.toArray ++ Builtin.zeroCells z.toArray (grownCap w (n + m) c e - (n + m))) e)) := by
    intro hc hold
    have hcap : ¬ (n + m ≤ c) := by omega
    have h48 : ¬ (Builtin.nextslicecap (n + m) c * i.bytes > 2 ^ 48) := by
      have := growslice_fits hc h2
      omega
    have hfd := hfc w.drew rfl
    have hzc : zv.cells = z.toArray := by rw [← hzl, cellsL_eq, Array.toArray_toList]
    simp only [Builtin.append_, List.getElem?_toArray, List.getElem?_cons_zero, List.getElem?_cons_succ, Sem.run_bind, run_und T.ht, Result.andThen_ok, run_size hi, run_und hd2, Sem.run_pure, hzz, Bool.false_eq_true, if_false, hlen, if_neg hcap, run_inf hi, hl63, false_and, if_neg h48, run_choose, Question.forced, World.drew_eq, run_askRoom, hold, hfd, zeroValue, hzv, hzc, newRow, run_newObj, Bool.not_false, if_true]
    rfl
  have grown : ∀ old, c < n + m → Own (w.drew.alloc (.cells (xs.toArray ++ ys.toArray ++ Builtin.zeroCells z.toArray (grownCap w (n + m) old e - (n + m))) e)) i.size (some ⟨w.heap.size, 0, none⟩) (n + m) (grownCap w (n + m) old e) (xs ++ ys) := by
    intro old hc
    have hge := grownCap_ge w (n + m) old e
    refine ⟨by rw [List.length_append, h.1, hyl, Nat.add_mul], grownCap_le_maxLen w (n + m) old e h1, .inr ⟨w.heap.size, _, e, 0, 0, rfl, Go.heap_alloc_new w.drew _, hge, ?_, ?_, .inr (Nat.le_refl _)⟩⟩
    · simp only [Array.size_append, List.size_toArray, size_zeroCells, hzsz, h.1, hyl, ← Nat.add_mul]
      congr 1; omega
    · simp only [Array.toList_append, List.append_assoc]
      rw [← List.append_assoc, show (n + m) * i.size = (xs ++ ys).length by rw [List.length_append, h.1, hyl, Nat.add_mul]]
      exact List.take_left
  have fresh : ∀ o, Fr (ownB A) w (w.drew.alloc o) := fun o => (Fr.drew _ w).ext (Fr.alloc _ _ o)
  rcases h.2.2 with ⟨rfl, rfl, rfl⟩ | ⟨g, cur, e', lo, hi', rfl, hg, hnc, hcs, htake, hfz⟩
  · have hx0 : xs = [] := List.eq_nil_of_length_eq_zero (by simpa using h.1)
    subst hx0
    by_cases hm : m = 0
    · subst hm
      have hy0 : ys = [] := List.eq_nil_of_length_eq_zero (by simpa using hyl)
      subst hy0
      refine ⟨none, 0, w, ?_, Own.nil w _, .refl _ _, fun k hk => (ownB_none k hk).elim, fun _ => rfl⟩
      have hfd := hfc w rfl
      simp only [RunsTo, Builtin.append_, List.getElem?_toArray, List.getElem?_cons_zero, List.getElem?_cons_succ, Sem.run_bind, run_und T.ht, Result.andThen_ok, run_size hi, run_und hd2, Sem.run_pure, hzz, Bool.false_eq_true, if_false, hlen, Nat.add_zero, Nat.le_refl, if_true, Bool.not_false, hfd]
    · exact ⟨_, _, _, grow (by omega) (by simp [Builtin.firstCells]), grown 0 (by omega), fresh _, fun k hk => .inr (by rw [ownB_some] at hk; omega), fun h => absurd h hm⟩
  · by_cases hroom : n + m ≤ c
    · have hfit : n * i.size + ys.length ≤ cur.size := by rw [hyl, hcs, ← Nat.add_mul]; exact Nat.mul_le_mul_right _ hroom
      have hst := run_storeCells_own (P := P) g (n * i.size) e' lo hi' ys 0 cur w hg hfz (by simpa using hfit) hy1
      simp only [Nat.add_zero] at hst
      have hfd := hfc w rfl
      refine ⟨some ⟨g, 0, none⟩, c, w.setRow g (cur.toList.take (n * i.size) ++ ys ++ cur.toList.drop (n * i.size + ys.length)).toArray, ?_, ⟨by rw [List.length_append, h.1, hyl, Nat.add_mul], h.2.1, .inr ⟨g, _, e', lo, hi', rfl, setRow_heap w g cur _ e' _ hg, hroom, ?_, ?_, ?_⟩⟩,
        ⟨rfl, rfl, rfl, by simp, fun k _ hk => setRow_other w g k _ (fun e => hk (by rw [ownB_some]; exact e.symm))⟩, fun k hk => .inl hk, fun _ => rfl⟩
      · simp only [RunsTo, Builtin.append_, List.getElem?_toArray, List.getElem?_cons_zero, List.getElem?_cons_succ, Sem.run_bind, run_und T.ht, Result.andThen_ok, run_size hi, run_und hd2, Sem.run_pure, hzz, Bool.false_eq_true, if_false, hlen, if_pos hroom, Bool.not_false, if_true, hfd, add_new, Nat.zero_add, hst]
      · simp only [List.size_toArray, List.length_append, List.length_take, List.length_drop, Array.length_toList]
        omega
      · rw [htake]
        rw [show (n + m) * i.size = (xs ++ ys).length by rw [List.length_append, h.1, hyl, Nat.add_mul]]
        exact List.take_left
      · simp only [List.size_toArray, List.length_append, List.length_take, List.length_drop, Array.length_toList]
        omega
    · have hold : (Builtin.firstCells i.size n (.slice (some ⟨g, 0, none⟩) n c)).run P w.drew = .ok xs.toArray w.drew :=
        run_firstCells_some (P := P) w.drew i.size n _ n c xs h.1 (fun j v hj => by
          obtain ⟨g', hA, hc⟩ := h.cells hj
          cases hA
          rw [add_new, Nat.zero_add]
          exact hc)
      have hm : m ≠ 0 := by omega
      exact ⟨_, _, _, grow (by omega) hold, grown c (by omega), fresh _, fun k hk => .inr (by rw [ownB_some] at hk; omega), fun h => absurd h hm⟩

/-- one element more, out of the block that the call of append makes for it -/
theorem append_one {t e sz by_ : Nat} {z : List Value} (T : SlT P t e sz by_ z) {ty : TypeId} {w : World} {A : Option Addr} {n c : Nat} {xs : List Value} (h : Own w sz A n c xs)
    {cs : List Value} (hl : cs.length = sz) (hc1 : ∀ v ∈ cs, v.oneCell' = true) {e' : TypeId} (h1 : n + 1 ≤ maxLen) (h2 : (n + 1) * by_ ≤ 140737488355328) :
    ∃ A' c' w', RunsTo P (Builtin.append_ #[t, t] ty #[.slice A n c, .slice (some ⟨w.heap.size, 0, none⟩) 1 1]) (w.alloc (.cells cs.toArray e')) (.slice A' (n + 1) c') w' ∧ Own w' sz A' (n + 1) c' (xs ++ cs) ∧ Fr (ownB A) w w' ∧
      (∀ k, ownB A' k → ownB A k ∨ w.heap.size ≤ k) ∧ A' ≠ none := by
  have ho : Own (w.alloc (.cells cs.toArray e')) sz A n c xs := h.keep (Fr.alloc NoB w _) (fun _ _ h => h)
  obtain ⟨A', c', w', hr, ho', hf, hb, _⟩ := append_own T (ty := ty) (t2 := t) ⟨_, T.ht, fun _ h => by cases h⟩ ho (Src.new (P := P) (m := 1) (c := 1) e' (by simpa using hl) hc1) h1 h2
  refine ⟨A', c', w', hr, ho', (Fr.alloc _ w _).ext hf, fun k hk => ?_, ?_⟩
  · rcases hb k hk with h | h
    · exact .inl h
    · right; simp [World.alloc, -World.alloc_eq] at h; omega
  · rintro rfl
    rcases ho'.2.2 with ⟨_, h, _⟩ | ⟨_, _, _, _, _, h, _⟩
    · omega
    · cases h
end
end Go.Sx
