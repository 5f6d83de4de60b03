/- Soundness of the operations that look at no world. -/
import Derived.Test.YtakmlaliglmnmaaSxOps
set_option linter.unusedVariables false
set_option linter.unusedSimpArgs false
namespace Go.Sx
section
variable {P : Program} {ρ : Env} {σ : Operand → Value}

theorem cellsL_eq (v : Value) : cellsL v = v.cells.toList := by cases v <;> rfl

theorem setAt_eq (off : Nat) : ∀ (vs cs : List Value), off + vs.length ≤ cs.length →
    (vs.zipIdx.foldl (fun (acc : List Value) (x : Value × Nat) => acc.set (off + x.2) x.1) cs) = setAt off vs cs := by
  suffices H : ∀ (vs : List Value) (k : Nat) (cs : List Value), off + k + vs.length ≤ cs.length →
      ((vs.zipIdx k).foldl (fun (acc : List Value) (x : Value × Nat) => acc.set (off + x.2) x.1) cs) = setAt (off + k) vs cs by
    intro vs cs h; simpa using H vs 0 cs (by simpa using h)
  intro vs
  induction vs with
  | nil => intro k cs h; simp [setAt]
  | cons v vs ih =>
    intro k cs h
    simp only [List.zipIdx_cons, List.foldl_cons, List.length_cons] at h ⊢
    rw [ih (k + 1) _ (by simp; omega)]
    unfold setAt
    apply List.ext_getElem?
    intro i
    simp only [List.append_assoc, List.getElem?_append, List.getElem?_take, List.length_take, List.length_set, List.length_cons, List.getElem?_drop, List.getElem?_set, List.getElem?_cons]
    grind

theorem foldl_set_arr (off : Nat) : ∀ (l : List (Value × Nat)) (cs : Array Value),
    (l.foldl (fun (cs : Array Value) (x : Value × Nat) => cs.setIfInBounds (off + x.2) x.1) cs).toList = l.foldl (fun (acc : List Value) (x : Value × Nat) => acc.set (off + x.2) x.1) cs.toList := by
  intro l
  induction l with
  | nil => intro cs; rfl
  | cons x l ih => intro cs; simp only [List.foldl_cons]; rw [ih]; simp

theorem fill_eq (place : Nat → Option (Nat × Nat)) : ∀ (parts : List (Nat × Value)) (cells : List Value) (out : List Value),
    fillL place cells parts = some out → Instr.fill place cells.toArray parts = some out.toArray
  | [], cells, out, h => by simp [fillL] at h; simp [Instr.fill, h]
  | (i, v) :: rest, cells, out, h => by
    simp only [fillL] at h
    simp only [Instr.fill]
    cases hp : place i with
    | none => simp [hp] at h
    | some q =>
      obtain ⟨off, size⟩ := q
      simp only [hp] at h ⊢
      split at h
      · rename_i h1
        split at h
        · rename_i h2
          have ih := fill_eq place rest _ out h
          have e1 : v.cells.size = size := by rw [← h1, cellsL_eq]; simp
          have e2 : ¬ (off + v.cells.size > cells.toArray.size) := by have := h2; rw [cellsL_eq] at this; simp at this ⊢; omega
          rw [if_neg (by simp only [ne_eq, e1, not_true_eq_false, Bool.or_eq_true, decide_eq_true_eq, false_or]; simpa [e1] using e2)]
          have e3 : (Array.foldl (fun (cs : Array Value) (x : Value × Nat) => cs.setIfInBounds (off + x.2) x.1) cells.toArray v.cells.zipIdx) = (setAt off (cellsL v) cells).toArray := by
            rw [← Array.toList_inj, ← Array.foldl_toList, foldl_set_arr, Array.toList_zipIdx, ← cellsL_eq]
            exact setAt_eq off (cellsL v) cells (by omega)
          rw [← ih]
          congr 1
        · cases h
      · cases h

theorem bndS_run {v : Value} {y : Nat} {K : Nat → Prop} (code : BoundsCode) (h : bndS v y K) : ∃ n, (∀ w, (Instr.sliceBound v y code).run P w = .ok n w) ∧ K n := by
  unfold bndS at h
  split at h
  · rename_i k n
    refine ⟨n.toNat, fun w => ?_, h.2⟩
    simp only [Instr.sliceBound, asIntOf, Sem.run_bind, Sem.run_pure, Result.andThen_ok]
    rw [if_pos h.1]; rfl
  · exact h.elim

theorem boundsS_run {b : Bool} {len cap : Nat} {lo hi mx : Option Value} {K : Nat → Nat → Nat → Prop} (h : boundsS len cap lo hi mx K) :
    ∃ l h' m, (∀ w, (Instr.sliceBounds b len cap lo hi mx).run P w = .ok (l, h', m) w) ∧ K l h' m := by
  unfold boundsS at h
  split at h
  · rename_i hv mv
    obtain ⟨m, hm, h⟩ := bndS_run (P := P) (if b then BoundsCode.slice3Acap else BoundsCode.slice3Alen) h
    obtain ⟨h', hh, h⟩ := bndS_run (P := P) .slice3B h
    cases lo with
    | none => exact ⟨0, h', m, fun w => by simp [Instr.sliceBounds, hm, hh], h⟩
    | some lv =>
      obtain ⟨l, hl, h⟩ := bndS_run (P := P) .slice3C h
      exact ⟨l, h', m, fun w => by simp [Instr.sliceBounds, hm, hh, hl], h⟩
  · rename_i hv
    obtain ⟨h', hh, h⟩ := bndS_run (P := P) (if b then BoundsCode.sliceAcap else BoundsCode.sliceAlen) h
    cases lo with
    | none => exact ⟨0, h', cap, fun w => by simp [Instr.sliceBounds, hh], h⟩
    | some lv =>
      obtain ⟨l, hl, h⟩ := bndS_run (P := P) .sliceB h
      exact ⟨l, h', cap, fun w => by simp [Instr.sliceBounds, hh, hl], h⟩
  · cases lo with
    | none => exact ⟨0, len, cap, fun w => by simp [Instr.sliceBounds], h⟩
    | some lv =>
      obtain ⟨l, hl, h⟩ := bndS_run (P := P) .sliceB h
      exact ⟨l, len, cap, fun w => by simp [Instr.sliceBounds, hl], h⟩
  · exact h.elim

theorem optB_knows (hk : Knows ρ σ) {x : Option Operand} {v : Option Value} (h : optB ρ x = some v) : x.map σ = v := by
  cases x with
  | none => simp [optB] at h; simp [← h]
  | some x =>
    simp only [optB] at h
    cases he : ev ρ x with
    | none => simp [he] at h
    | some u => simp [he] at h; simp [← h, hk x u he]

theorem allEv_knows (hk : Knows ρ σ) : ∀ {l : List (Nat × Operand)} {vs : List (Nat × Value)}, allEv ρ l = some vs → l.map (fun p => (p.1, σ p.2)) = vs
  | [], vs, h => by simp [allEv] at h; simp [h]
  | (i, x) :: l, vs, h => by
    simp only [allEv] at h
    cases h1 : ev ρ x with
    | none => simp [h1] at h
    | some v =>
      cases h2 : allEv ρ l with
      | none => simp [h1, h2] at h
      | some r => simp [h1, h2] at h; subst h; simp [hk x v h1, allEv_knows hk h2]

theorem placesL_run : ∀ {fs : List Field} {pl : List (Nat × Nat)}, placesL P fs = some pl → ∀ w, (fs.mapM (fun f => (do pure (f.offset, ← sizeOf f.type) : Sem (Nat × Nat)))).run P w = .ok pl w
  | [], pl, h, w => by simp [placesL] at h; subst h; simp
  | f :: fs, pl, h, w => by
    simp only [placesL] at h
    cases h1 : inf P f.type with
    | none => simp [h1] at h
    | some i =>
      cases h2 : placesL P fs with
      | none => simp [h1, h2] at h
      | some r =>
        simp [h1, h2] at h; subst h
        have ih := placesL_run h2 w
        simp only [List.mapM_cons, Sem.run_bind, run_size h1, Result.andThen_ok, Sem.run_pure, ih]

theorem buildS_run {t : TypeId} {parts : List (Nat × Value)} {K : Value → Prop} (h : buildS P t parts K) : ∃ v, (∀ w, (Instr.build t parts.toArray).run P w = .ok v w) ∧ K v := by
  unfold buildS at h
  split at h
  · rename_i i fs hi hu
    split at h
    · rename_i z pl hz hpl
      split at h
      · rename_i cs hcs
        refine ⟨_, fun w => ?_, h⟩
        have hz' : (zeroValue t).run P w = .ok z w := by simp [zeroValue, run_inf hi, hz]
        have hm := placesL_run (P := P) hpl w
        have hf := fill_eq _ parts (cellsL z) cs hcs
        rw [cellsL_eq, Array.toArray_toList] at hf
        have hm' : (fs.mapM fun f => (do pure (f.offset, ← sizeOf f.type) : Sem (Nat × Nat))).run P w = .ok pl.toArray w := by
          rw [Array.mapM_eq_mapM_toList]
          simp only [Sem.run_map]
          rw [hm]; rfl
        have hg : (fun (x : Nat) => pl.toArray[x]?) = (fun (j : Nat) => pl[j]?) := by funext j; simp
        simp only [Instr.build, Sem.run_bind, hz', Result.andThen_ok, run_und hu, hm', hg, hf, Sem.run_pure]
      · exact h.elim
    · exact h.elim
  · rename_i i n e hi hu
    split at h
    · rename_i z j hz hj
      split at h
      · rename_i cs hcs
        refine ⟨_, fun w => ?_, h⟩
        have hz' : (zeroValue t).run P w = .ok z w := by simp [zeroValue, run_inf hi, hz]
        have hf := fill_eq _ parts (cellsL z) cs hcs
        rw [cellsL_eq, Array.toArray_toList] at hf
        simp only [Instr.build, Sem.run_bind, hz', Result.andThen_ok, run_und hu, run_size hj, hf, Sem.run_pure]
      · exact h.elim
    · exact h.elim
  · exact h.elim

theorem pureS_gives (hk : Knows ρ σ) {o : Oper} {K : Value → Prop} (h : pureS P ρ o.op K) : Gives P σ o K := by
  obtain ⟨dst, op, type, pos, after, guard⟩ := o
  simp only at h
  cases op <;> simp only [pureS] at h <;> try exact h.elim
  case move x =>
    split at h
    · rename_i v hv; exact ⟨v, fun w => by simp [execOp, hk x v hv], h⟩
    · exact h.elim
  case assign x =>
    split at h
    · rename_i v hv; exact ⟨v, fun w => by simp [execOp, hk x v hv], h⟩
    · exact h.elim
  case pick c a b =>
    split at h
    · rename_i cv hc
      cases cv with
      | true =>
        simp only [cond_true] at h
        split at h
        · rename_i v hv; exact ⟨v, fun w => by simp [execOp, hk c _ hc, hk a v hv, asBool], h⟩
        · exact h.elim
      | false =>
        simp only [cond_false] at h
        split at h
        · rename_i v hv; exact ⟨v, fun w => by simp [execOp, hk c _ hc, hk b v hv, asBool], h⟩
        · exact h.elim
    · exact h.elim
  case build t parts =>
    split at h
    · rename_i ps hps
      obtain ⟨v, hr, hv⟩ := buildS_run h
      refine ⟨v, fun w => ?_, hv⟩
      have e : parts.map (fun p => (p.1, σ p.2)) = ps.toArray := by rw [← Array.toList_inj, Array.toList_map, allEv_knows hk hps]
      simp only [execOp, Sem.run_bind]
      rw [show (parts.map fun (i, x) => (i, σ x)) = ps.toArray from e, hr]; rfl
    · exact h.elim
  case nilCheck x =>
    split at h
    · rename_i p hp
      obtain ⟨a, rfl, hK⟩ := h
      exact ⟨_, fun w => by simp [execOp, hk x _ hp], hK⟩
    · rename_i f first captured hp
      exact ⟨_, fun w => by simp [execOp, hk x _ hp], h⟩
    · exact h.elim
  case binOp op t x y yt =>
    split at h
    · rename_i a b ha hb
      obtain ⟨v, hr, hg, hv⟩ := aggS_run h
      exact ⟨v, fun w => by simp only [execOp, hk x _ ha, hk y _ hb, Sem.run_bind, hg, Result.andThen_ok, hr, Sem.run_pure], hv⟩
    · rename_i a b _ ha hb
      cases hp : (isPtrT (und P t) && !(constO x || constO y)) with
      | true =>
        rw [hp] at h
        obtain ⟨v, hr, hg, hv⟩ := ptrS_run h
        exact ⟨v, fun w => by simp only [execOp, hk x _ ha, hk y _ hb, Sem.run_bind, hg, Result.andThen_ok, hr, Sem.run_pure], hv⟩
      | false =>
        rw [hp] at h
        have h : binS P op t a b K := h
        obtain ⟨v, hr, hv⟩ := binS_run h
        exact ⟨v, fun w => by simp only [execOp, hk x _ ha, hk y _ hb, Sem.run_bind, run_eqGuard h, Result.andThen_ok, hr, Sem.run_pure], hv⟩
    · exact h.elim
  case unOp op t x =>
    split at h
    · rename_i a ha
      obtain ⟨v, hr, hv⟩ := unS_run (P := P) h
      exact ⟨v, fun w => by simp only [execOp, hk x _ ha, Sem.run_bind, Result.andThen_ok, hr, Sem.run_pure], hv⟩
    · exact h.elim
  case convert s d x =>
    split at h
    · rename_i k k' n hd hx
      split at h
      · rename_i ds hs
        refine ⟨_, fun w => ?_, h⟩
        simp only [execOp, hk x _ hx, Sem.run_bind, convert, run_und hs, run_und hd, Result.andThen_ok, Conv.intToInt, Sem.run_pure]
      · exact h.elim
    · rename_i b hd hx
      split at h
      · rename_i ds hs
        refine ⟨_, fun w => ?_, h⟩
        simp only [execOp, hk x _ hx, Sem.run_bind, convert, run_und hs, run_und hd, Result.andThen_ok, Sem.run_pure]
      · exact h.elim
    · exact h.elim
  case makeInterface t x =>
    split at h
    · exact h.elim
    · rename_i d v hn hd hx
      refine ⟨_, fun w => ?_, h⟩
      simp only [execOp, hk x _ hx, Sem.run_bind, Instr.makeInterface, run_und hd, Result.andThen_ok]
      cases d <;> first | rfl | exact absurd rfl (hn _ · )
    · exact h.elim
  case makeFunc fn first captured =>
    split at h
    · rename_i a b ha hb
      refine ⟨_, fun w => ?_, h⟩
      have e1 : first.map σ = a.toArray := by rw [← Array.toList_inj, Array.toList_map, hk.list ha]
      have e2 : captured.map σ = b.toArray := by rw [← Array.toList_inj, Array.toList_map, hk.list hb]
      simp only [execOp, Sem.run_bind, Instr.makeFunc, e1, e2, Sem.run_pure, Result.andThen_ok]
    · exact h.elim
  case slice t x lo hi mx =>
    split at h
    · rename_i s lo' hi' hd hx hlo hhi hmx
      obtain ⟨l, h', m, hr, hK⟩ := boundsS_run (P := P) (b := false) h
      refine ⟨_, fun w => ?_, hK⟩
      have := hr w
      simp only [execOp, hk x _ hx, optB_knows hk hlo, optB_knows hk hhi, optB_knows hk hmx, Sem.run_bind, Instr.sliceAt, Instr.slice, run_und hd, Result.andThen_ok, Option.isSome_none, Bool.false_eq_true, if_false, this, Sem.run_pure]
    · rename_i e A n c lo' hi' mx' hd hx hlo hhi hmx
      split at h
      · rename_i q hq
        obtain ⟨l, h', m, hr, hK⟩ := boundsS_run (P := P) (b := true) h
        refine ⟨_, fun w => ?_, hK⟩
        have := hr w
        simp only [execOp, hk x _ hx, optB_knows hk hlo, optB_knows hk hhi, optB_knows hk hmx, Sem.run_bind, Instr.sliceAt, Instr.slice, run_und hd, Result.andThen_ok, this, run_size hq, Sem.run_pure, cutAt]
      · exact h.elim
    · rename_i n e ad lo' hi' mx' hd hx hlo hhi hmx
      split at h
      · rename_i q hq
        obtain ⟨l, h', m, hr, hK⟩ := boundsS_run (P := P) (b := false) h
        refine ⟨_, fun w => ?_, hK⟩
        have := hr w
        simp only [execOp, hk x _ hx, optB_knows hk hlo, optB_knows hk hhi, optB_knows hk hmx, Sem.run_bind, Instr.sliceAt, Instr.slice, run_und hd, Result.andThen_ok, Instr.sureAddr, this, run_size hq, Sem.run_pure, cutAt]
        split <;> rfl
      · exact h.elim
    · exact h.elim
  case fieldAddr t x f =>
    split at h
    · rename_i fs a hfs hx
      split at h
      · rename_i fd hfd
        split at h
        · rename_i i hi
          split at h
          · exact h.elim
          · rename_i hz
            refine ⟨_, fun w => ?_, h⟩
            unfold fieldsOf at hfs
            split at hfs
            · rename_i fa hu
              simp only [Option.some.injEq] at hfs
              subst hfs
              have hfd' : fa[f]? = some fd := by simpa using hfd
              simp only [execOp, hk x _ hx, Sem.run_bind, Instr.fieldAt, run_und hu, Result.andThen_ok, hfd', Instr.sureAddr, Sem.run_pure, fieldPlace, run_size hi, if_neg hz]
            · cases hfs
        · exact h.elim
      · exact h.elim
    · exact h.elim
  case field t x f =>
    split at h
    · rename_i fs cs hfs hx
      split at h
      · rename_i fd hfd
        unfold fieldsOf at hfs
        split at hfs
        · rename_i fa hu
          simp only [Option.some.injEq] at hfs
          subst hfs
          have hfd' : fa[f]? = some fd := by simpa using hfd
          obtain ⟨v, hr, hv⟩ := partS_run h
          refine ⟨v, fun w => ?_, hv⟩
          simp only [execOp, hk x _ hx, Sem.run_bind, Instr.field, run_und hu, Result.andThen_ok, hfd', asAgg, Sem.run_pure, hr]
        · cases hfs
      · exact h.elim
    · exact h.elim
  case indexAddr t x i =>
    split at h
    · rename_i e A n c k j hd hx hi
      split at h
      · rename_i q hq
        obtain ⟨ad, rfl, hb, hK⟩ := h
        refine ⟨_, fun w => ?_, hK⟩
        simp only [execOp, hk x _ hx, hk i _ hi, Sem.run_bind, Instr.indexAt, asIntOf, Sem.run_pure, Result.andThen_ok, run_und hd, if_pos hb, run_size hq]
      · exact h.elim
    · rename_i n e ad k j hd hx hi
      split at h
      · rename_i q hq
        obtain ⟨hb, hK⟩ := h
        refine ⟨_, fun w => ?_, hK⟩
        simp only [execOp, hk x _ hx, hk i _ hi, Sem.run_bind, Instr.indexAt, asIntOf, Sem.run_pure, Result.andThen_ok, run_und hd, Instr.sureAddr, if_pos hb, run_size hq]
      · exact h.elim
    · exact h.elim
  case index t x i =>
    split at h
    · rename_i s k j hd hx hi
      obtain ⟨b, ⟨h0, hb⟩, hK⟩ := h
      refine ⟨_, fun w => ?_, hK⟩
      simp only [execOp, hk x _ hx, hk i _ hi, Sem.run_bind, Instr.index, asIntOf, Sem.run_pure, Result.andThen_ok, run_und hd, if_pos h0, hb]
    · rename_i n e cs k j hd hx hi
      split at h
      · rename_i q hq
        obtain ⟨hb, hp⟩ := h
        obtain ⟨m, hm, hp⟩ := idxS_at hp
        obtain ⟨v, hr, hv⟩ := partS_run hp
        refine ⟨v, fun w => ?_, hv⟩
        have hjm : j.toNat = m := by omega
        rw [← hjm] at hr
        simp only [execOp, hk x _ hx, hk i _ hi, Sem.run_bind, Instr.index, asIntOf, Sem.run_pure, Result.andThen_ok, run_und hd, if_pos hb, run_size hq, hr]
      · exact h.elim
    · exact h.elim
  case extract x i =>
    split at h
    · rename_i vs hx
      split at h
      · rename_i v hv
        have hv' : vs[i]? = some v := by simpa using hv
        exact ⟨v, fun w => by simp only [execOp, hk x _ hx, Sem.run_bind, Instr.extract, hv', Sem.run_pure, Result.andThen_ok], h⟩
      · exact h.elim
    · exact h.elim
  case call c =>
    obtain ⟨callee, args, argTypes⟩ := c
    simp only at h
    have hargs : ∀ vs, evs ρ args.toList = some vs → args.map σ = vs.toArray := fun vs he => by rw [← Array.toList_inj, Array.toList_map, hk.list he]
    split at h
    · rename_i t ts v vs ht he
      have h0 : argTypes[0]? = some t := by rw [← Array.getElem?_toList, ht]; rfl
      have h1 := hargs _ he
      split at h
      · rename_i s hd
        exact ⟨_, fun w => by simp [execOp, resolve, invoke, builtin, h1, Builtin.len_, h0, run_und hd, goInt], h⟩
      · rename_i e A n c hd
        exact ⟨_, fun w => by simp [execOp, resolve, invoke, builtin, h1, Builtin.len_, h0, run_und hd, goInt], h⟩
      · rename_i n e hd
        exact ⟨_, fun w => by simp [execOp, resolve, invoke, builtin, h1, Builtin.len_, h0, run_und hd, goInt], h⟩
      · rename_i k e hd
        exact ⟨_, fun w => by simp [execOp, resolve, invoke, builtin, h1, Builtin.len_, h0, run_und hd, goInt], h⟩
      · exact h.elim
    · rename_i k x k' y he
      split at h
      · rename_i hkk; subst hkk
        exact ⟨_, fun w => by simp [execOp, resolve, invoke, builtin, hargs _ he, Builtin.min_, Builtin.min2], h⟩
      · exact h.elim
    · rename_i k x k' y he
      split at h
      · rename_i hkk; subst hkk
        exact ⟨_, fun w => by simp [execOp, resolve, invoke, builtin, hargs _ he, Builtin.max_, Builtin.max2], h⟩
      · exact h.elim
    · rename_i k x k' y k'' z he
      split at h
      · rename_i hkk; subst hkk
        split at h
        · rename_i hkk; subst hkk
          exact ⟨_, fun w => by simp [execOp, resolve, invoke, builtin, hargs _ he, Builtin.min_, Builtin.min2], h⟩
        · exact h.elim
      · exact h.elim
    · rename_i k x k' y k'' z he
      split at h
      · rename_i hkk; subst hkk
        split at h
        · rename_i hkk; subst hkk
          exact ⟨_, fun w => by simp [execOp, resolve, invoke, builtin, hargs _ he, Builtin.max_, Builtin.max2], h⟩
        · exact h.elim
      · exact h.elim
    · rename_i t ts v vs ht he
      have h0 : argTypes[0]? = some t := by rw [← Array.getElem?_toList, ht]; rfl
      have h1 := hargs _ he
      split at h
      · rename_i e A n c hd
        exact ⟨_, fun w => by simp [execOp, resolve, invoke, builtin, h1, Builtin.cap_, h0, run_und hd, goInt], h⟩
      · exact h.elim
    · exact h.elim
end
end Go.Sx
