/- The operations that look at the world or change it. -/
import Derived.Test.YtakmlaliglmnmaaSxPure
set_option linter.unusedVariables false
set_option linter.unusedSimpArgs false
namespace Go.Sx

def exT (t : Ty) (p : Value → Prop) : Prop := exA t.ats fun l => match t.inj l with | some (v, _) => p v | none => False
def exTs : List Ty → (List Value → Prop) → Prop
  | [], p => p []
  | t :: ts, p => exT t fun v => exTs ts fun vs => p (v :: vs)
theorem exT_elim {t : Ty} {p : Value → Prop} (h : exT t p) : ∃ v, p v := by
  obtain ⟨l, _, h⟩ := exA_elim h
  split at h
  · exact ⟨_, h⟩
  · exact h.elim
theorem exTs_elim : ∀ {ts : List Ty} {p : List Value → Prop}, exTs ts p → ∃ v, p v
  | [], p, h => ⟨[], h⟩
  | t :: ts, p, h => let ⟨v, h⟩ := exT_elim h; let ⟨vs, h⟩ := exTs_elim h; ⟨_, h⟩
def tysOf (P : Program) : List TypeId → Option (List Ty)
  | [] => some []
  | t :: ts => match tyOf P t, tysOf P ts with | some a, some b => some (a :: b) | _, _ => none
/-- some value of the kind that a type says -/
def exRes (P : Program) (t : TypeId) (p : Value → Prop) : Prop :=
  match und P t with
  | some (.tuple ts) => (match tysOf P ts.toList with | some tys => exTs tys fun vs => p (.tuple vs.toArray) | none => False)
  | _ => (match tyOf P t with | some ty => exT ty p | none => ∃ v, p v)
theorem exRes_elim {P : Program} {t : TypeId} {p : Value → Prop} (h : exRes P t p) : ∃ v, p v := by
  unfold exRes at h
  split at h
  · split at h
    · obtain ⟨vs, h⟩ := exTs_elim h; exact ⟨_, h⟩
    · exact h.elim
  · split at h
    · exact exT_elim h
    · exact h
/-- a call's value, by its result types -/
def retS (P : Program) (ts : List TypeId) (v : Value) (k : Value → Prop) : Prop :=
  match ts with
  | [] => v = .tuple #[] ∧ k (.tuple #[])
  | [t] => (match tyOf P t with | some ty => exT ty fun u => v = u ∧ k u | none => k v)
  | ts => (match tysOf P ts with | some tys => exTs tys fun us => v = .tuple us.toArray ∧ k (.tuple us.toArray) | none => False)
theorem retS_elim {P : Program} {ts : List TypeId} {v : Value} {k : Value → Prop} (h : retS P ts v k) : k v := by
  unfold retS at h
  split at h
  · obtain ⟨rfl, h⟩ := h; exact h
  · split at h
    · obtain ⟨u, rfl, h⟩ := exT_elim h; exact h
    · exact h
  · split at h
    · obtain ⟨u, h1, h2⟩ := exTs_elim h; subst h1; exact h2
    · exact h.elim

def readCells (C : Addr → Value → Prop) (a : Addr) : Nat → List CT → (List Value → Prop) → Prop
  | _, [], K => K []
  | i, c :: cs, K => exA c.ats fun l => match c.inj l with | some (v, _) => C (a.add i) v ∧ readCells C a (i + 1) cs (fun vs => K (v :: vs)) | none => False
def readT (P : Program) (t : TypeId) (C : Addr → Value → Prop) (a : Addr) (K : Value → Prop) : Prop :=
  match tyOf P t, isAggT P t, inf P t with
  | some (.one c), some false, _ => exA c.ats fun l => match c.inj l with | some (v, _) => C a v ∧ K v | none => False
  | some (.agg cs), some true, some i => if i.size = cs.length then readCells C a 0 cs fun vs => K (.agg vs.toArray) else False
  | _, _, _ => False
theorem readCells_elim {C : Addr → Value → Prop} {a : Addr} : ∀ {cs : List CT} {i : Nat} {K : List Value → Prop}, readCells C a i cs K →
    ∃ vs, vs.length = cs.length ∧ (∀ j v, vs[j]? = some v → C (a.add (i + j)) v) ∧ K vs
  | [], i, K, h => ⟨[], rfl, by simp, h⟩
  | c :: cs, i, K, h => by
    obtain ⟨l, _, h⟩ := exA_elim h
    split at h
    · rename_i v _ _
      obtain ⟨hc, h⟩ := h
      obtain ⟨vs, hl, hv, hK⟩ := readCells_elim h
      refine ⟨v :: vs, by simp [hl], fun j u hu => ?_, hK⟩
      cases j with
      | zero => simp at hu; subst hu; simpa using hc
      | succ j => simp at hu; have := hv j u hu; rwa [show i + (j + 1) = i + 1 + j by omega]
    · exact h.elim
theorem readT_elim {P : Program} {t : TypeId} {C : Addr → Value → Prop} {a : Addr} {K : Value → Prop} (h : readT P t C a K) :
    ∃ v, (∀ w, (∀ ad u, C ad u → w.cell? ad = some u) → (loadVar t a).run P w = .ok v w) ∧ K v := by
  unfold readT at h
  split at h
  · rename_i c hty hag
    obtain ⟨l, _, h⟩ := exA_elim h
    split at h
    · rename_i v _ _
      refine ⟨v, fun w hw => ?_, h.2⟩
      have := hw _ _ h.1
      simp [loadVar, run_isAgg hag, this]
    · exact h.elim
  · rename_i cs i hty hag hi
    split at h
    · rename_i hsz
      obtain ⟨vs, hl, hv, hK⟩ := readCells_elim h
      refine ⟨_, fun w hw => ?_, hK⟩
      have hr := run_loadCells_list (P := P) (w := w) a vs (fun j v hj => by have := hv j v hj; rw [Nat.zero_add] at this; exact hw _ _ this)
      simp only [loadVar, Sem.run_bind, run_isAgg hag, Result.andThen_ok, if_true, run_size hi, hsz, ← hl, hr, Sem.run_pure]
    · exact h.elim
  · exact h.elim

def storeS (a : Addr) : Nat → List Value → World → (World → Prop) → Prop
  | _, [], w, K => K w
  | i, v :: vs, w, K => cond v.oneCell' (((w.cell? (a.add i)).isSome = true ∧ w.frozen? (a.add i) = false) ∧ storeS a (i + 1) vs (w.setCell (a.add i) v) K) False
theorem storeS_run {P : Program} {a : Addr} : ∀ {vs : List Value} {i : Nat} {w : World} {K : World → Prop}, storeS a i vs w K → ∃ w', (storeCells a vs i).run P w = .ok () w' ∧ K w'
  | [], i, w, K, h => ⟨w, rfl, h⟩
  | v :: vs, i, w, K, h => by
    unfold storeS at h
    cases hv : v.oneCell' with
    | false => rw [hv] at h; exact h.elim
    | true =>
      rw [hv] at h
      obtain ⟨⟨hs, hf⟩, h⟩ := h
      obtain ⟨w', hr, hK⟩ := storeS_run (P := P) h
      obtain ⟨old, ho⟩ := Option.isSome_iff_exists.1 hs
      refine ⟨w', ?_, hK⟩
      simp only [storeCells, Sem.run_bind, run_store _ _ _ _ _ hv, ho, hf, Bool.false_eq_true, if_false, Result.andThen_ok, hr]

def runV (P : Program) (t : TypeId) (s : Sem Value) (w : World) (K : Value → World → Prop) : Prop :=
  exRes P t fun v => ∃ w', RunsTo P s w v w' ∧ K v w'
def runU (P : Program) (s : Sem Unit) (w : World) (K : Value → World → Prop) : Prop := ∃ w', RunsTo P s w () w' ∧ K undef w'
def callS (P : Program) (fid : FuncId) (args : List Value) (w : World) (K : Value → World → Prop) : Prop :=
  match P.funcs.toList[fid]? with
  | some fn => (match fn.body with
    | some _ => CallsV P fid args.toArray w fun v w' => retS P fn.resultTypes.toList v fun u => K u w'
    | none => (match fn.resultTypes.toList with
      | [t] => exRes P t fun v => ∃ w', RunsTo P (callFunc fid args.toArray) w (Next.value v) w' ∧ K v w'
      | [] => ∃ w', RunsTo P (callFunc fid args.toArray) w (Next.value (.tuple #[])) w' ∧ K (.tuple #[]) w'
      | _ => False))
  | none => False
def bodied (P : Program) (fid : FuncId) : Bool := match P.funcs.toList[fid]? with | some fn => fn.body.isSome | none => false
/-- a call of a function that is not known ahead -/
def callU (P : Program) (v : Value) (as : List Value) (t : TypeId) (w : World) (K : Value → World → Prop) : Prop :=
  ∃ (fid : FuncId) (first captured : Array Value), v = .func (.func fid) first captured ∧ bodied P fid = true ∧
    CallsV P fid (first.toList ++ (as ++ captured.toList)).toArray w fun r w' => retS P (match und P t with | some (.tuple ts) => ts.toList | _ => [t]) r fun u => K u w'
def zerosL (z : List Value) : Nat → List Value
  | 0 => []
  | n + 1 => z ++ zerosL z n

def isSlc : Option TypeDesc → Bool | some (.slice _) => true | _ => false
def isUns : Option TypeDesc → Bool | some .unsafePointer => true | _ => false
def isStr : Option TypeDesc → Bool | some .string => true | _ => false
def isMapT : Option TypeDesc → Bool | some (.map _ _) => true | _ => false
/-- a builtin that looks at the world or changes it -/
def effB (P : Program) (b : Builtin) (argTypes : List TypeId) : Bool :=
  match b with
  | .append | .copy | .delete | .clear | .unsafeString | .unsafeSliceData | .unsafeStringData | .unsafeSlice => true
  | .len => (match argTypes with | t :: _ => isMapT (und P t) | [] => false)
  | _ => false

def opS (P : Program) (ρ : Env) (o : Oper) (w : World) (K : Value → World → Prop) : Prop :=
  match o.op with
  | .load t x => (match ev ρ x with | some (.pointer (some a)) => readT P t (fun ad v => w.cell? ad = some v) a fun v => K v w | _ => False)
  | .store t x y => (match ev ρ x, ev ρ y, inf P t with
    | some (.pointer (some a)), some v, some i => if (cellsL v).length = i.size then storeS a 0 (cellsL v) w fun w' => K undef w' else False
    | _, _, _ => False)
  | .alloc t => (match inf P t with
    | some i => (match i.zero with | some z => K (.pointer (some ⟨w.heap.size, 0, none⟩)) (w.alloc (.cells (cellsL z).toArray t)) | none => False)
    | none => False)
  | .box t x => (match ev ρ x with | some v => K (.pointer (some ⟨w.heap.size, 0, none⟩)) (w.alloc (.cells (cellsL v).toArray t)) | none => False)
  | .buildSlice t len parts => (match und P t, allEv ρ parts.toList with
    | some (.slice e), some ps => (match inf P e with
      | some i => (match i.zero with
        | some z => if (cellsL z).length = i.size then if len * i.size ≤ 16777216 then
            (match fillL (fun q => some (q * i.size, i.size)) (zerosL (cellsL z) len) ps with
            | some cs => K (.slice (some ⟨w.heap.size, 0, none⟩) len len) (w.alloc (.cells cs.toArray e))
            | none => False) else False else False
        | none => False)
      | none => False)
    | _, _ => False)
  | .convert s d x => (if isSlc (und P s) || isSlc (und P d) || isUns (und P s) || isUns (und P d)
      then (match ev ρ x with | some v => runV P d (convert s d v) w K | none => False)
      else pureS P ρ o.op fun v => K v w)
  | .makeSlice t l c => (match ev ρ l, ev ρ c with | some a, some b => runV P t (Instr.makeSlice t a b) w K | _, _ => False)
  | .makeMap t r => (match optB ρ r with | some r => runV P t (Instr.makeMap t r) w K | none => False)
  | .lookup t x i ok => (match ev ρ x, ev ρ i with | some a, some b => runV P o.type (Instr.lookup t a b ok) w K | _, _ => False)
  | .mapUpdate t m k x => (match ev ρ m, ev ρ k, ev ρ x with | some a, some b, some c => runU P (Instr.mapUpdate t a b c) w K | _, _, _ => False)
  | .insert t m k x => (match ev ρ m, ev ρ k, ev ρ x with | some a, some b, some c => runU P (Instr.mapUpdate t a b c) w K | _, _, _ => False)
  | .call c => (match c.callee with
    | .value f => (match ev ρ f, evs ρ c.args.toList with
      | some (.func (.func fid) first captured), some as => callS P fid (first.toList ++ (as ++ captured.toList)) w K
      | some v, some as => callU P v as o.type w K
      | _, _ => False)
    | .builtin b => (if effB P b c.argTypes.toList
      then (match evs ρ c.args.toList, b with
        | some as, .append => runV P o.type (Builtin.append_ c.argTypes o.type as.toArray) w K
        | some as, .copy => runV P o.type (Builtin.copy_ c.argTypes o.type as.toArray) w K
        | some as, .delete => runV P o.type (Builtin.delete_ c.argTypes o.type as.toArray) w K
        | some as, .len => runV P o.type (Builtin.len_ c.argTypes o.type as.toArray) w K
        | some as, .unsafeString => runV P o.type (Builtin.unsafeString_ c.argTypes o.type as.toArray) w K
        | some as, .unsafeSliceData => runV P o.type (Builtin.unsafeSliceData_ c.argTypes o.type as.toArray) w K
        | some as, .clear => ∃ w', RunsTo P (Builtin.clear_ c.argTypes o.type as.toArray) w (.tuple #[]) w' ∧ K (.tuple #[]) w'
        | _, _ => False)
      else pureS P ρ o.op fun v => K v w)
    | .invoke _ _ => False)
  | _ => pureS P ρ o.op fun v => K v w

/-! ## the same, each new block and each new world by a name of its own -/
/-- a new block -/
structure Fresh (w : World) (g : Nat) (w' : World) (cs : List Value) (e : TypeId) : Prop where
  hg : g = w.heap.size
  hw : w' = w.alloc (.cells cs.toArray e)
def stOK (a : Addr) : Nat → List Value → World → Prop
  | _, [], _ => True
  | i, [_], w => (w.cell? (a.add i)).isSome = true ∧ w.frozen? (a.add i) = false
  | i, _ :: vs, w => ((w.cell? (a.add i)).isSome = true ∧ w.frozen? (a.add i) = false) ∧ stOK a (i + 1) vs w
def setAll (a : Addr) : Nat → List Value → World → World
  | _, [], w => w
  | i, v :: vs, w => setAll a (i + 1) vs (w.setCell (a.add i) v)
def allOne : List Value → Bool
  | [] => true
  | v :: vs => bif v.oneCell' then allOne vs else false
theorem setCell_some (w : World) (a b : Addr) (v : Value) (h : (w.cell? b).isSome = true) : ((w.setCell a v).cell? b).isSome = true := by
  by_cases e : b = a
  · subst e; rw [World.cell?_setCell_same' w b v h]; rfl
  · rw [World.cell?_setCell_other]
    · exact h
    · first | exact e | exact fun h => e h.symm
theorem setCell_frozen (w : World) (a b : Addr) (v : Value) : (w.setCell a v).frozen? b = w.frozen? b := World.frozen?_setCell _ _ _ _
theorem stOK_mono {a : Addr} : ∀ {vs : List Value} {i : Nat} {w w' : World}, (∀ b, (w.cell? b).isSome = true → (w'.cell? b).isSome = true) → (∀ b, w'.frozen? b = w.frozen? b) → stOK a i vs w → stOK a i vs w'
  | [], _, _, _, _, _, _ => trivial
  | [_], _, _, _, h1, h2, h => ⟨h1 _ h.1, (h2 _).trans h.2⟩
  | _ :: x :: vs, _, _, _, h1, h2, h => ⟨⟨h1 _ h.1.1, (h2 _).trans h.1.2⟩, stOK_mono h1 h2 h.2⟩
theorem storeS_of {a : Addr} : ∀ {vs : List Value} {i : Nat} {w : World} {K : World → Prop}, allOne vs = true → stOK a i vs w → K (setAll a i vs w) → storeS a i vs w K
  | [], _, _, _, _, _, hk => hk
  | [v], i, w, K, h1, h, hk => by
    have hv : v.oneCell' = true := by cases hv : v.oneCell' with | true => rfl | false => simp [allOne, hv] at h1
    unfold storeS; rw [hv]; exact ⟨h, hk⟩
  | v :: x :: vs, i, w, K, h1, h, hk => by
    have hv : v.oneCell' = true := by cases hv : v.oneCell' with | true => rfl | false => simp [allOne, hv] at h1
    have h1' : allOne (x :: vs) = true := by unfold allOne at h1; rw [hv] at h1; exact h1
    unfold storeS; rw [hv]
    exact ⟨h.1, storeS_of h1' (stOK_mono (fun b hb => setCell_some w _ b v hb) (fun b => setCell_frozen w _ b v) h.2) hk⟩
def withL : List Value → (List Value → Prop) → Prop
  | [], k => k []
  | v :: r, k => withL r fun r' => k (v :: r')
theorem withL_iff : ∀ {l : List Value} {k : List Value → Prop}, withL l k → k l
  | [], _, h => h
  | v :: r, k, h => withL_iff (l := r) (k := fun r' => k (v :: r')) h
def opN (P : Program) (ρ : Env) (o : Oper) (w : World) (K : Value → World → Prop) : Prop :=
  match o.op with
  | .store t x y => (match ev ρ x, ev ρ y, inf P t with
    | some (.pointer (some a)), some v, some i => if (cellsL v).length = i.size then withL (cellsL v) fun cs => cond (allOne cs) (stOK a 0 cs w ∧ ∀ w', w' = setAll a 0 cs w → K undef w') False else False
    | _, _, _ => False)
  | .alloc t => (match inf P t with
    | some i => (match i.zero with | some z => withL (cellsL z) fun cs => ∀ g w', Fresh w g w' cs t → K (.pointer (some ⟨g, 0, none⟩)) w' | none => False)
    | none => False)
  | .box t x => (match ev ρ x with | some v => withL (cellsL v) fun cs => ∀ g w', Fresh w g w' cs t → K (.pointer (some ⟨g, 0, none⟩)) w' | none => False)
  | .buildSlice t len parts => (match und P t, allEv ρ parts.toList with
    | some (.slice e), some ps => (match inf P e with
      | some i => (match i.zero with
        | some z => if (cellsL z).length = i.size then if len * i.size ≤ 16777216 then
            (match fillL (fun q => some (q * i.size, i.size)) (zerosL (cellsL z) len) ps with
            | some cs => withL cs fun cs => ∀ g w', Fresh w g w' cs e → K (.slice (some ⟨g, 0, none⟩) len len) w'
            | none => False) else False else False
        | none => False)
      | none => False)
    | _, _ => False)
  | _ => opS P ρ o w K
theorem opN_opS {P : Program} {ρ : Env} {o : Oper} {w : World} {K : Value → World → Prop} (h : opN P ρ o w K) : opS P ρ o w K := by
  unfold opN at h
  split at h
  · rename_i t x y ho
    unfold opS; rw [ho]; dsimp only
    split at h
    · split at h
      · rename_i hl
        rw [if_pos hl]
        have h := withL_iff h
        cases hc : allOne (cellsL _) with
        | false => rw [hc] at h; exact h.elim
        | true =>
          rw [hc] at h
          exact storeS_of hc h.1 (h.2 _ rfl)
      · exact h.elim
    · exact h.elim
  · rename_i t ho
    unfold opS; rw [ho]; dsimp only
    split at h
    · split at h
      · exact withL_iff h _ _ ⟨rfl, rfl⟩
      · exact h.elim
    · exact h.elim
  · rename_i t x ho
    unfold opS; rw [ho]; dsimp only
    split at h
    · exact withL_iff h _ _ ⟨rfl, rfl⟩
    · exact h.elim
  · rename_i t len parts ho
    unfold opS; rw [ho]; dsimp only
    split at h
    · split at h
      · split at h
        · split at h
          · rename_i hl
            rw [if_pos hl]
            split at h
            · rename_i hm
              rw [if_pos hm]
              split at h
              · exact withL_iff h _ _ ⟨rfl, rfl⟩
              · exact h.elim
            · exact h.elim
          · exact h.elim
        · exact h.elim
      · exact h.elim
    · exact h.elim
  · exact h
/-- m: each new world by a name of its own? -/
def opX (m : Bool) (P : Program) (ρ : Env) (o : Oper) (w : World) (K : Value → World → Prop) : Prop := match m with | true => opN P ρ o w K | false => opS P ρ o w K
theorem opX_opS {m : Bool} {P : Program} {ρ : Env} {o : Oper} {w : World} {K : Value → World → Prop} (h : opX m P ρ o w K) : opS P ρ o w K := by
  cases m with
  | true => exact opN_opS h
  | false => exact h

structure Okay (P : Program) : Prop where
  mixed : P.follows .mixedOrders = true
  names : (P.funcs.toList.all fun fn => !(fn.name == "runtime.NumGoroutine")) = true

section
variable {P : Program} {ρ : Env} {σ : Operand → Value}

theorem zerosL_length (z : List Value) (n : Nat) : (zerosL z n).length = n * z.length := by
  induction n with
  | zero => simp [zerosL]
  | succ n ih => simp [zerosL, ih, Nat.add_mul]; omega
theorem zerosL_get (z : List Value) : ∀ (n i : Nat), i < n * z.length → (zerosL z n)[i]? = z[i % z.length]?
  | 0, i, h => by simp at h
  | n + 1, i, h => by
    rw [zerosL]
    rcases Nat.lt_or_ge i z.length with hi | hi
    · rw [List.getElem?_append_left hi, Nat.mod_eq_of_lt hi]
    · rw [List.getElem?_append_right hi, zerosL_get z n _ (by rw [Nat.add_mul] at h; omega)]
      congr 1
      rw [Nat.mod_eq_sub_mod hi]
theorem zeros_eq (z : Array Value) (size n : Nat) (hz : z.toList.length = size) :
    ((Array.range (n * size)).map (z[· % z.size]!)).toList = zerosL z.toList n := by
  apply List.ext_getElem?
  intro i
  have hs : z.size = size := by simpa using hz
  simp only [Array.toList_map, Array.toList_range, List.getElem?_map]
  rcases Nat.lt_or_ge i (n * size) with h | h
  · rw [List.getElem?_range h, zerosL_get z.toList n i (by rw [hz]; exact h), hz]
    have hpos : 0 < size := by
      rcases Nat.eq_zero_or_pos size with h0 | h0
      · subst h0; simp at h
      · exact h0
    have hlt : i % size < z.size := by rw [hs]; exact Nat.mod_lt _ hpos
    have e : z[i % size]? = some z[i % size] := Array.getElem?_eq_getElem hlt
    simp only [hs, Array.getElem?_toList, e, Option.map_some]
    rw [getElem!_pos z _ hlt]
  · rw [List.getElem?_eq_none (by simpa using h), List.getElem?_eq_none (by rw [zerosL_length, hz]; exact h)]
    rfl

theorem runV_does {t : TypeId} {s : Sem Value} {w : World} {K : Value → World → Prop} {o : Oper} (h : runV P t s w K)
    (he : ∀ v w', s.run P w = .ok v w' → (execOp σ o).run P w = .ok (.value v) w') : Does P σ o w K := by
  obtain ⟨v, w', hr, hK⟩ := exRes_elim h
  exact .inl ⟨v, w', he v w' hr, hK⟩
theorem runU_does {s : Sem Unit} {w : World} {K : Value → World → Prop} {o : Oper} (h : runU P s w K)
    (he : ∀ w', s.run P w = .ok () w' → (execOp σ o).run P w = .ok .skip w') : Does P σ o w K := by
  obtain ⟨w', hr, hK⟩ := h
  exact .inr (.inl ⟨w', he w' hr, hK⟩)

theorem opS_does (ok : Okay P) (hk : Knows ρ σ) {o : Oper} {w : World} {K : Value → World → Prop} (h : opS P ρ o w K) : Does P σ o w K := by
  have hp : pureS P ρ o.op (fun v => K v w) → Does P σ o w K := fun h => (pureS_gives hk h).does
  obtain ⟨dst, op, type, pos, after, guard⟩ := o
  unfold opS at h
  simp only at h
  split at h
  · -- load
    rename_i t x
    split at h
    · rename_i a ha
      obtain ⟨v, hr, hK⟩ := readT_elim h
      refine .inl ⟨v, w, ?_, hK⟩
      have := hr w (fun _ _ h => h)
      simp only [execOp, hk x _ ha, Sem.run_bind, Instr.loadAt, Instr.sureAddr, Sem.run_pure, Result.andThen_ok, this]
    · exact h.elim
  · -- store
    rename_i t x y
    split at h
    · rename_i a v i ha hv hi
      split at h
      · rename_i hsz
        obtain ⟨w', hr, hK⟩ := storeS_run (P := P) h
        refine .inr (.inl ⟨w', ?_, hK⟩)
        have e : v.cells.size = i.size := by rw [← hsz, cellsL_eq]; simp
        rw [cellsL_eq] at hr
        simp only [execOp, hk x _ ha, hk y _ hv, Sem.run_bind, Instr.storeAt, Instr.sureAddr, Sem.run_pure, Result.andThen_ok, storeVar, run_size hi, e, ne_eq, not_true_eq_false, if_false, hr]
      · exact h.elim
    · exact h.elim
  · -- alloc
    rename_i t
    split at h
    · rename_i i hi
      split at h
      · rename_i z hz
        refine .inl ⟨_, _, ?_, h⟩
        simp only [execOp, Sem.run_bind, Instr.alloc, zeroValue, run_inf hi, Result.andThen_ok, hz, Sem.run_pure, newVar, newRow, run_newObj, World.alloc, cellsL_eq, Array.toArray_toList]
      · exact h.elim
    · exact h.elim
  · -- box
    rename_i t x
    split at h
    · rename_i v hv
      refine .inl ⟨_, _, ?_, h⟩
      simp only [execOp, hk x _ hv, Sem.run_bind, Instr.box, newVar, newRow, run_newObj, Result.andThen_ok, Sem.run_pure, World.alloc, cellsL_eq, Array.toArray_toList]
    · exact h.elim
  · -- buildSlice
    rename_i t len parts
    split at h
    · rename_i e ps hd hps
      split at h
      · rename_i i hi
        split at h
        · rename_i z hz
          split at h
          · rename_i hzl
            split at h
            · rename_i hsm
              split at h
              · rename_i cs hcs
                refine .inl ⟨_, _, ?_, h⟩
                have ep : (parts.map fun (i, x) => (i, σ x)) = ps.toArray := by
                  rw [← Array.toList_inj, Array.toList_map]; exact allEv_knows hk hps
                have hf := fill_eq _ ps _ cs hcs
                have hzc : z.cells.toList.length = i.size := by rw [← cellsL_eq]; exact hzl
                have hsm' : ¬ len * i.size > 2 ^ 24 := by omega
                have key : ∀ zz : Array Value, (len * i.size = 0 → zz = #[]) → (len * i.size ≠ 0 → zz = z.cells) →
                    ((Array.range (len * i.size)).map (zz[· % zz.size]!)) = (zerosL (cellsL z) len).toArray := by
                  intro zz h0 h1
                  by_cases hz0 : len * i.size = 0
                  · rw [hz0]
                    have hnil : zerosL (cellsL z) len = [] := List.eq_nil_of_length_eq_zero (by rw [zerosL_length, hzl]; exact hz0)
                    simp [hnil]
                  · rw [h1 hz0, ← Array.toList_inj, zeros_eq z.cells i.size len hzc, cellsL_eq]
                simp only [execOp, Sem.run_bind, Instr.buildSlice, run_und hd, Result.andThen_ok, run_size hi, if_neg hsm', ep]
                by_cases hz0 : len * i.size = 0
                · rw [if_pos hz0]
                  simp only [Sem.run_bind, Sem.run_pure, Result.andThen_ok]
                  rw [key #[] (fun _ => rfl) (fun h => absurd hz0 h)]
                  simp only [hf, newRow, Sem.run_bind, run_newObj, Result.andThen_ok, Sem.run_pure, World.alloc]
                · rw [if_neg hz0]
                  simp only [Sem.run_bind, zeroValue, run_inf hi, Result.andThen_ok, hz, Sem.run_pure]
                  rw [key z.cells (fun h => absurd h hz0) (fun _ => rfl)]
                  simp only [hf, newRow, Sem.run_bind, run_newObj, Result.andThen_ok, Sem.run_pure, World.alloc]
              · exact h.elim
            · exact h.elim
          · exact h.elim
        · exact h.elim
      · exact h.elim
    · exact h.elim
  · -- convert
    rename_i s d x
    split at h
    · split at h
      · rename_i v hv
        exact runV_does h fun u w' hr => by simp only [execOp, hk x _ hv, Sem.run_bind, hr, Result.andThen_ok, Sem.run_pure]
      · exact h.elim
    · exact hp h
  · -- makeSlice
    rename_i t l c
    split at h
    · rename_i a b ha hb
      exact runV_does h fun u w' hr => by simp only [execOp, hk l _ ha, hk c _ hb, Sem.run_bind, hr, Result.andThen_ok, Sem.run_pure]
    · exact h.elim
  · -- makeMap
    rename_i t r
    split at h
    · rename_i v hv
      exact runV_does h fun u w' hr => by simp only [execOp, optB_knows hk hv, Sem.run_bind, hr, Result.andThen_ok, Sem.run_pure]
    · exact h.elim
  · -- lookup
    rename_i t x i okb
    split at h
    · rename_i a b ha hb
      exact runV_does h fun u w' hr => by simp only [execOp, hk x _ ha, hk i _ hb, Sem.run_bind, hr, Result.andThen_ok, Sem.run_pure]
    · exact h.elim
  · rename_i t m k x
    split at h
    · rename_i a b c ha hb hc
      exact runU_does h fun w' hr => by simp only [execOp, hk m _ ha, hk k _ hb, hk x _ hc, Sem.run_bind, hr, Result.andThen_ok, Sem.run_pure]
    · exact h.elim
  · rename_i t m k x
    split at h
    · rename_i a b c ha hb hc
      exact runU_does h fun w' hr => by simp only [execOp, hk m _ ha, hk k _ hb, hk x _ hc, Sem.run_bind, hr, Result.andThen_ok, Sem.run_pure]
    · exact h.elim
  · -- call
    rename_i c
    obtain ⟨callee, args, argTypes⟩ := c
    simp only at h
    have hargs : ∀ vs, evs ρ args.toList = some vs → args.map σ = vs.toArray := fun vs he => by rw [← Array.toList_inj, Array.toList_map, hk.list he]
    split at h
    · rename_i f
      split at h
      · rename_i fid first captured as hf has
        unfold callS at h
        split at h
        · rename_i fn hfn
          have hfn' : P.funcs[fid]? = some fn := by simpa using hfn
          have hname : (fn.name == "runtime.NumGoroutine") = false := by
            have := List.all_eq_true.1 ok.names fn (List.mem_of_getElem? hfn)
            simpa using this
          have e0 : first ++ as.toArray ++ captured = (first.toList ++ (as ++ captured.toList)).toArray := by
            rw [← Array.toList_inj]; simp
          split at h
          · rename_i body hb
            refine .inr (.inr ⟨fid, (first.toList ++ (as ++ captured.toList)).toArray, ?_, h.mono fun v w' hv => retS_elim hv⟩)
            simp only [execOp, hk f _ hf, Sem.run_bind, resolve, Deferred.ofValue, hargs _ has, Sem.run_pure, Result.andThen_ok, invoke, callFunc, run_program, hfn', hname, hb, Option.isNone_some, Bool.false_eq_true, if_false, e0]
          · rename_i hb
            split at h
            · obtain ⟨v, w', hr, hK⟩ := exRes_elim h
              refine .inl ⟨v, w', ?_, hK⟩
              simp only [execOp, hk f _ hf, Sem.run_bind, resolve, Deferred.ofValue, hargs _ has, Sem.run_pure, Result.andThen_ok, invoke, e0]
              exact hr
            · obtain ⟨w', hr, hK⟩ := h
              refine .inl ⟨_, w', ?_, hK⟩
              simp only [execOp, hk f _ hf, Sem.run_bind, resolve, Deferred.ofValue, hargs _ has, Sem.run_pure, Result.andThen_ok, invoke, e0]
              exact hr
            · exact h.elim
        · exact h.elim
      · rename_i v as _ hf has
        obtain ⟨fid, first, captured, rfl, hb, h⟩ := h
        unfold bodied at hb
        split at hb
        · rename_i fn hfn
          have hfn' : P.funcs[fid]? = some fn := by simpa using hfn
          have hname : (fn.name == "runtime.NumGoroutine") = false := by
            have := List.all_eq_true.1 ok.names fn (List.mem_of_getElem? hfn)
            simpa using this
          have e0 : first ++ as.toArray ++ captured = (first.toList ++ (as ++ captured.toList)).toArray := by
            rw [← Array.toList_inj]; simp
          have hb' : fn.body.isNone = false := by cases hq : fn.body with | none => rw [hq] at hb; cases hb | some _ => rfl
          refine .inr (.inr ⟨fid, (first.toList ++ (as ++ captured.toList)).toArray, ?_, h.mono fun v w' hv => retS_elim hv⟩)
          simp only [execOp, hk f _ hf, Sem.run_bind, resolve, Deferred.ofValue, hargs _ has, Sem.run_pure, Result.andThen_ok, invoke, callFunc, run_program, hfn', hname, hb', Bool.false_eq_true, if_false, e0]
        · cases hb
      · exact h.elim
    · rename_i b
      split at h
      · split at h
        · rename_i as has hbe
          exact runV_does h fun u w' hr => by simp only [execOp, resolve, hargs _ has, Sem.run_pure, Sem.run_bind, Result.andThen_ok, invoke, builtin, hr]
        · rename_i as has hbe
          exact runV_does h fun u w' hr => by simp only [execOp, resolve, hargs _ has, Sem.run_pure, Sem.run_bind, Result.andThen_ok, invoke, builtin, hr]
        · rename_i as has hbe
          exact runV_does h fun u w' hr => by simp only [execOp, resolve, hargs _ has, Sem.run_pure, Sem.run_bind, Result.andThen_ok, invoke, builtin, hr]
        · rename_i as has hbe
          exact runV_does h fun u w' hr => by simp only [execOp, resolve, hargs _ has, Sem.run_pure, Sem.run_bind, Result.andThen_ok, invoke, builtin, hr]
        · rename_i as has hbe
          exact runV_does h fun u w' hr => by simp only [execOp, resolve, hargs _ has, Sem.run_pure, Sem.run_bind, Result.andThen_ok, invoke, builtin, hr]
        · rename_i as has hbe
          exact runV_does h fun u w' hr => by simp only [execOp, resolve, hargs _ has, Sem.run_pure, Sem.run_bind, Result.andThen_ok, invoke, builtin, hr]
        · rename_i as has hbe
          obtain ⟨w', hr, hK⟩ := h
          unfold RunsTo at hr
          exact .inl ⟨_, w', by simp only [execOp, resolve, hargs _ has, Sem.run_pure, Sem.run_bind, Result.andThen_ok, invoke, builtin, hr], hK⟩
        · exact h.elim
      · exact hp h
    · exact h.elim
  · exact hp h
end
end Go.Sx
