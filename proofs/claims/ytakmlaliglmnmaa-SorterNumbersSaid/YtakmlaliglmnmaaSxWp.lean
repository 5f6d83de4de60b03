/- Regions, control flow, functions: the precondition of a whole body, and its soundness. -/
import Derived.ScopeJumps
import Derived.Test.YtakmlaliglmnmaaSxEff
set_option linter.unusedVariables false
set_option linter.unusedSimpArgs false
namespace Go.Sx

/-! ## regions -/
def eqB : Bool → Bool → Bool | true, b => b | false, b => !b
/-- is an operation to be carried out? -/
def gd (all : List Oper) (o : Oper) (ρ : Env) : Option Bool :=
  match o.guard with
  | none => some true
  | some (j, want) => match all[j]? with
    | some g => (match g.dst with | some d => (match ρ d with | some (.bool b) => some (eqB b want) | some (.tuple _) => some false | _ => none) | none => none)
    | none => none
def isGuard (i : Nat) : List Oper → Bool
  | [] => false
  | o :: l => match o.guard with | some (j, _) => (bif Nat.beq i j then true else isGuard i l) | none => isGuard i l
/-- both ways of a bool -/
def brB (b : Bool) (k : Bool → Prop) : Prop := cond b (k true) (k false)
theorem brB_elim {b : Bool} {k : Bool → Prop} (h : brB b k) : k b := by cases b <;> exact h
def putS (n : Nat) (all : List Oper) (i : Nat) (o : Oper) (v : Value) (ρ : Env) (k : Env → Prop) : Prop :=
  match o.dst with
  | none => k ρ
  | some d => cond (Nat.blt d n) (cond (isGuard i all) (match v with | .bool b => brB b fun b' => k (ρ.set d (some (.bool b'))) | _ => False) (k (ρ.set d (some v)))) False
def skipEnv (n : Nat) (o : Oper) (ρ : Env) : Env := match o.dst with | none => ρ | some d => ρ.set d (bif Nat.blt d n then some undef else none)
theorem putS_elim {n : Nat} {all : List Oper} {i : Nat} {o : Oper} {v : Value} {ρ : Env} {k : Env → Prop} {a : Act} (h : putS n all i o v ρ k) (ha : Agrees n ρ a) :
    ∃ ρ', Agrees n ρ' (a.put o.dst v) ∧ k ρ' := by
  unfold putS at h
  cases hd : o.dst with
  | none => rw [hd] at h; exact ⟨ρ, ha.put0 v, h⟩
  | some d =>
    rw [hd] at h
    simp only at h
    cases hlt : Nat.blt d n with
    | false => rw [hlt] at h; exact h.elim
    | true =>
      rw [hlt] at h
      have hlt' : d < n := by simpa [Nat.blt_eq] using hlt
      cases hg : isGuard i all with
      | false => rw [hg] at h; exact ⟨_, ha.put hlt' v, h⟩
      | true =>
        rw [hg] at h
        simp only [cond_true] at h
        split at h
        · rename_i b; exact ⟨_, ha.put hlt' _, brB_elim h⟩
        · exact h.elim
theorem skip_agrees {n : Nat} {o : Oper} {ρ : Env} {a : Act} (ha : Agrees n ρ a) : Agrees n (skipEnv n o ρ) (a.put o.dst undef) := by
  unfold skipEnv
  cases hd : o.dst with
  | none => exact ha.put0 _
  | some d =>
    cases hlt : Nat.blt d n with
    | true => simp only [hlt, cond_true]; exact ha.put (by simpa [Nat.blt_eq] using hlt) _
    | false => simp only [hlt, cond_false]; exact ha.putNone d _
theorem gd_wanted {n : Nat} {all : List Oper} {o : Oper} {ρ : Env} {a : Act} {b : Bool} (h : gd all o ρ = some b) (ha : Agrees n ρ a) : Region.wanted o (yielded all.toArray a.tmps) = b := by
  unfold gd at h
  unfold Region.wanted
  split at h
  · rename_i hg; rw [hg]; simp at h; simp [h]
  · rename_i j want hg
    rw [hg]
    simp only
    split at h
    · rename_i g hj
      split at h
      · rename_i d hd
        split at h
        · rename_i c hc
          simp only [Option.some.injEq] at h
          have h1 := ha.at_ d _ hc
          have h2 : yielded all.toArray a.tmps j = some c := by
            simp [yielded, hj, hd, h1]
          rw [h2, ← h]
          cases c <;> cases want <;> rfl
        · rename_i vs hc
          simp only [Option.some.injEq] at h
          have h1 := ha.at_ d _ hc
          have h2 : yielded all.toArray a.tmps j = none := by
            simp [yielded, hj, hd, h1]
          rw [h2, ← h]
          rfl
        · cases h
      · cases h
    · cases h

def regW (m : Bool) (P : Program) (n : Nat) (all : List Oper) : Nat → List Oper → (Env → World → Prop) → Env → World → Prop
  | _, [], K, ρ, w => K ρ w
  | i, o :: rest, K, ρ, w => match gd all o ρ with
    | some true => opX m P ρ o w fun v w' => putS n all i o v ρ fun ρ' => regW m P n all (i + 1) rest K ρ' w'
    | some false => regW m P n all (i + 1) rest K (skipEnv n o ρ) w
    | none => False

def opDst (o : Oper) : List Nat := match o.dst with | some d => [d] | none => []
def opsDst : List Oper → List Nat
  | [] => []
  | o :: l => opDst o ++ opsDst l
theorem mem_opsDst {o : Oper} {d : Nat} (hd : o.dst = some d) : ∀ {l : List Oper}, o ∈ l → d ∈ opsDst l
  | x :: l, h => by
    rcases List.mem_cons.1 h with rfl | h
    · simp [opsDst, opDst, hd]
    · simp [opsDst, mem_opsDst hd h]
theorem put_same {o : Oper} {l : List Oper} (ho : o ∈ l) (a : Act) (v : Value) : SameBut (opsDst l) a (a.put o.dst v) :=
  .put a (fun t ht => mem_opsDst ht ho) v

/-- the exits that the engine lets by -/
def QW (n : Nat) (L : List Nat) (a₀ : Act) (K : Exit → Env → World → Prop) : Exit → Act → World → Prop
  | .panic _, _, _ => False
  | .outgrown, _, _ => False
  | e, a, w => SameBut L a₀ a ∧ ∃ ρ, Agrees n ρ a ∧ K e ρ w

theorem regW_sound {m : Bool} {P : Program} (ok : Okay P) {n : Nat} {all : List Oper} {L : List Nat} (hL : ∀ t, t ∈ opsDst all → t ∈ L) {a₀ : Act} {K : Exit → Env → World → Prop} :
    ∀ (rest : List Oper) (i : Nat) (ρ : Env) (a : Act) (w : World), (∀ o ∈ rest, o ∈ all) → SameBut L a₀ a → Agrees n ρ a →
      regW m P n all i rest (K .normal) ρ w → wpList P all.toArray (QW n L a₀ K) rest a w
  | [], i, ρ, a, w, _, hs, ha, h => ⟨hs, ρ, ha, h⟩
  | o :: rest, i, ρ, a, w, hm, hs, ha, h => by
    have hmo : o ∈ all := hm o (by simp)
    have hmr : ∀ x ∈ rest, x ∈ all := fun x hx => hm x (by simp [hx])
    have hput : ∀ v, SameBut L a₀ (a.put o.dst v) := fun v => hs.trans ((put_same hmo a v).mono hL)
    unfold regW at h
    unfold wpList
    split at h
    · rename_i hg
      rw [gd_wanted hg ha]
      simp only [if_true]
      refine .inl (Oper.wp_mono ?_ (opS_does ok ha.ev (opX_opS h)).wp)
      rintro a' w' ⟨v, rfl, hv⟩
      obtain ⟨ρ', ha', hk⟩ := putS_elim hv ha
      exact regW_sound ok hL rest (i + 1) ρ' _ w' hmr (hput v) ha' hk
    · rename_i hg
      rw [gd_wanted hg ha]
      simp only [Bool.false_eq_true, if_false]
      exact regW_sound ok hL rest (i + 1) _ _ w hmr (hput _) (skip_agrees ha) h
    · exact h.elim

/-! ## regions whose order is drawn -/
def quietK (P : Program) (o : Oper) : Bool :=
  match o.op with
  | .load _ _ => true
  | .store _ _ _ | .alloc _ | .box _ _ | .buildSlice _ _ _ | .makeSlice _ _ _ | .makeMap _ _ | .lookup _ _ _ _ | .mapUpdate _ _ _ _ | .insert _ _ _ _ => false
  | .convert s d _ => !(isSlc (und P d) || isUns (und P s) || isUns (und P d))
  | .call c => (match c.callee with | .builtin b => !effB P b c.argTypes.toList | _ => false)
  | _ => true
/-- a quiet operation, taken first: what it yields in every world that meets S -/
def quietS (P : Program) (ρ : Env) (o : Oper) (S : World → Prop) (K : Value → Prop) : Prop :=
  match o.op with
  | .load t x => (match ev ρ x with | some (.pointer (some a)) => readT P t (fun ad v => ∀ u, S u → u.cell? ad = some v) a K | _ => False)
  | .convert s d x => (if isSlc (und P s) && isStr (und P d)
      then (match ev ρ x with | some v => ∃ r : ByteArray, (∀ u, S u → RunsTo P (convert s d v) u (.string r) u) ∧ K (.string r) | none => False)
      else pureS P ρ o.op K)
  | _ => pureS P ρ o.op K
theorem quietS_yields {P : Program} {ρ : Env} {σ : Operand → Value} (hk : Knows ρ σ) {o : Oper} {S : World → Prop} {K : Value → Prop} (h : quietS P ρ o S K) :
    ∃ v, (∀ w, S w → (execOp σ o).run P w = .ok (.value v) w) ∧ K v := by
  have hp : pureS P ρ o.op K → ∃ v, (∀ w, S w → (execOp σ o).run P w = .ok (.value v) w) ∧ K v := fun h =>
    let ⟨v, hr, hK⟩ := pureS_gives hk h; ⟨v, fun w _ => hr w, hK⟩
  obtain ⟨dst, op, type, pos, after, guard⟩ := o
  unfold quietS at h
  simp only at h
  split at h
  · rename_i t x
    split at h
    · rename_i a ha
      obtain ⟨v, hr, hK⟩ := readT_elim h
      refine ⟨v, fun w hS => ?_, hK⟩
      have := hr w (fun ad u hu => hu w hS)
      simp only [execOp, hk x _ ha, Sem.run_bind, Instr.loadAt, Instr.sureAddr, Sem.run_pure, Result.andThen_ok, this]
    · exact h.elim
  · rename_i s d x
    split at h
    · split at h
      · rename_i v hv
        obtain ⟨r, hr, hK⟩ := h
        refine ⟨.string r, fun w hS => ?_, hK⟩
        have e : (convert s d v).run P w = .ok (.string r) w := hr w hS
        simp only [execOp, hk x _ hv, Sem.run_bind, e, Result.andThen_ok, Sem.run_pure]
      · exact h.elim
    · exact hp h
  · exact hp h

/-- an operation, as the order of a region sees it -/
structure LO where
  dst : Option Nat
  looks : List Nat
  aft : List Nat
  q : Bool
def tmpsL : List Operand → List Nat
  | [] => []
  | .tmp t :: l => t :: tmpsL l
  | _ :: l => tmpsL l
def operL : Op → List Operand
  | .alloc _ | .ready _ | .waits _ => []
  | .move x | .assign x | .box _ x | .load _ x | .nilCheck x | .unOp _ _ x | .convert _ _ x | .sliceToArrayPointer _ x | .makeInterface _ x
  | .makeChan _ x | .fieldAddr _ x _ | .field _ x _ | .range _ x | .next x _ | .entry x | .typeAssert x _ _ _ | .extract x _ | .panic x | .recv _ x _ => [x]
  | .pick c a b => [c, a, b]
  | .build _ ps | .buildSlice _ _ ps => ps.toList.map (·.2)
  | .store _ a v | .binOp _ _ a v _ | .makeSlice _ a v | .indexAddr _ a v | .index _ a v | .lookup _ a v _ | .mapEntry _ a v | .send a v => [a, v]
  | .makeFunc _ first captured => first.toList ++ captured.toList
  | .makeMap _ r => r.toList
  | .slice _ x l h m => x :: (l.toList ++ (h.toList ++ m.toList))
  | .mapUpdate _ m k v | .entryStore _ m k v | .insert _ m k v => [m, k, v]
  | .call c | .go c | .defer c => (match c.callee with | .value f => f :: c.args.toList | .invoke r _ => r :: c.args.toList | .builtin _ => c.args.toList)
  | .select cs _ => (cs.flatMap fun c => #[c.chan] ++ c.send.toArray).toList
theorem operL_eq (o : Op) : o.operands.toList = operL o := by
  cases o <;> simp only [Op.operands, operL, Call.operands] <;> first | rfl | (simp; done) | (rename_i c; cases c.callee <;> simp) | skip
  all_goals (rename_i c; obtain ⟨callee, args, ts⟩ := c; cases callee <;> simp)
theorem tmpsL_eq : ∀ l : List Operand, l.filterMap (fun | .tmp t => some t | _ => none) = tmpsL l
  | [] => rfl
  | x :: l => by cases x <;> simp [tmpsL, tmpsL_eq l]
def bindsE (e : Edge) : Bool := match e.ground with | .textOnly _ => false | .gcOnly _ => false | _ => true
theorem bindsE_eq (e : Edge) : Region.binds .any e = bindsE e := by obtain ⟨on, g⟩ := e; cases g <;> rfl
def aftL : List Edge → List Nat
  | [] => []
  | e :: l => bif bindsE e then e.on :: aftL l else aftL l
def lightOf (P : Program) (all : List Oper) : List Oper → List LO
  | [] => []
  | o :: l => { dst := o.dst, looks := tmpsL (operL o.op) ++ (match o.guard with | some (g, _) => (match all[g]? with | some x => x.dst.toList | none => []) | none => []), aft := aftL o.after.toList, q := quietK P o } :: lightOf P all l
def nthB : List Bool → Nat → Bool → Bool
  | [], _, d => d
  | b :: _, 0, _ => b
  | _ :: l, n + 1, d => nthB l n d
def allOn (listed : List Bool) : List Nat → Bool
  | [] => true
  | j :: l => bif nthB listed j false then allOn listed l else false
def readyL (listed : List Bool) : Nat → List LO → List Bool → List Nat
  | _, [], _ => []
  | _, _ :: _, [] => []
  | i, x :: xs, b :: bs => bif b then readyL listed (i + 1) xs bs else bif allOn listed x.aft then i :: readyL listed (i + 1) xs bs else readyL listed (i + 1) xs bs
def eqO : Option Nat → Nat → Bool
  | none, _ => false
  | some x, d => Nat.beq x d
def apartL (x y : LO) : Bool :=
  (match x.dst with | some d => bif memNat d y.looks then false else bif eqO y.dst d then false else true | none => true) &&
  (match y.dst with | some d => bif memNat d x.looks then false else true | none => true)
def freeL (x : LO) (i : Nat) : Nat → List LO → List Bool → Bool
  | _, [], _ => true
  | _, _ :: _, [] => true
  | j, y :: ys, b :: bs => bif b then freeL x i (j + 1) ys bs else bif Nat.beq j i then freeL x i (j + 1) ys bs else bif memNat i y.aft then freeL x i (j + 1) ys bs else bif apartL x y then freeL x i (j + 1) ys bs else false
def markL : Nat → List Bool → List Bool
  | _, [] => []
  | 0, _ :: l => true :: l
  | n + 1, b :: l => b :: markL n l
def findTake (L : List LO) (listed : List Bool) : List Nat → Option Nat
  | [] => none
  | i :: l => match L[i]? with
    | some x => bif x.q then (bif freeL x i 0 L listed then some i else findTake L listed l) else findTake L listed l
    | none => findTake L listed l
def allL {α : Type} : List α → (α → Prop) → Prop
  | [], _ => True
  | [x], p => p x
  | x :: l, p => p x ∧ allL l p
theorem allL_elim {α : Type} : ∀ {l : List α} {p : α → Prop}, allL l p → ∀ x ∈ l, p x
  | [x], p, h, y, hy => by simp at hy; subst hy; exact h
  | x :: z :: l, p, h, y, hy => by
    rcases List.mem_cons.1 hy with rfl | hy
    · exact h.1
    · exact allL_elim h.2 y hy

theorem nthB_eq : ∀ (l : List Bool) (n : Nat) (d : Bool), nthB l n d = l.toArray.getD n d
  | [], n, d => by simp [nthB]
  | b :: l, 0, d => by simp [nthB]
  | b :: l, n + 1, d => by have := nthB_eq l n d; simp [nthB, this]
theorem markL_eq : ∀ (n : Nat) (l : List Bool), (markL n l).toArray = l.toArray.setIfInBounds n true
  | n, [] => by cases n <;> simp [markL]
  | 0, b :: l => by simp [markL]
  | n + 1, b :: l => by have := markL_eq n l; simp [markL] at this ⊢; exact this
theorem markL_length : ∀ (n : Nat) (l : List Bool), (markL n l).length = l.length
  | n, [] => by cases n <;> rfl
  | 0, b :: l => rfl
  | n + 1, b :: l => by simp [markL, markL_length n l]
theorem allOn_eq (listed : List Bool) : ∀ es : List Edge, allOn listed (aftL es) = es.all fun e => !Region.binds .any e || listed.toArray.getD e.on false
  | [] => rfl
  | e :: es => by
    have ih := allOn_eq listed es
    rw [List.all_cons, ← ih, bindsE_eq]
    have e0 : aftL (e :: es) = bif bindsE e then e.on :: aftL es else aftL es := rfl
    rw [e0]
    cases hb : bindsE e with
    | false => simp only [cond_false, Bool.not_false, Bool.true_or, Bool.true_and]
    | true => simp only [cond_true, allOn, nthB_eq, Bool.not_true, Bool.false_or]; cases listed.toArray.getD e.on false <;> rfl
theorem lightOf_get {P : Program} {all : List Oper} : ∀ (l : List Oper) (i : Nat), (lightOf P all l)[i]? = l[i]?.map fun o => { dst := o.dst, looks := tmpsL (operL o.op) ++ (match o.guard with | some (g, _) => (match all[g]? with | some x => x.dst.toList | none => []) | none => []), aft := aftL o.after.toList, q := quietK P o }
  | [], i => by simp [lightOf]
  | o :: l, 0 => by simp [lightOf]
  | o :: l, i + 1 => by simp [lightOf, lightOf_get l i]
theorem lightOf_length {P : Program} {all : List Oper} : ∀ l : List Oper, (lightOf P all l).length = l.length
  | [] => rfl
  | o :: l => by simp [lightOf, lightOf_length l]
theorem ready_eq {P : Program} {ops : List Oper} {listed : List Bool} (hl : listed.length = ops.length) :
    Region.ready .any ops.toArray listed.toArray = readyL listed 0 (lightOf P ops ops) listed := by
  unfold Region.ready
  suffices H : ∀ (l : List Oper) (bs : List Bool) (i : Nat), l.length = bs.length → (∀ j, ops[i + j]? = l[j]?) → (∀ j, listed[i + j]? = bs[j]?) →
      (List.range' i l.length).filter (fun i => !listed.toArray.getD i true && ((ops.toArray[i]?).map (·.after.all fun e => !Region.binds .any e || listed.toArray.getD e.on false)).getD false) = readyL listed i (lightOf P ops l) bs by
    have := H ops listed 0 hl.symm (by simp) (by simp)
    rw [← this, List.range_eq_range']
    simp
  intro l
  induction l with
  | nil => intro bs i h _ _; simp [lightOf, readyL]
  | cons o l ih =>
    intro bs i h ho hb
    cases bs with
    | nil => simp at h
    | cons b bs =>
      have ih' := ih bs (i + 1) (by simpa using h) (fun j => by have := ho (j + 1); simpa [Nat.add_assoc, Nat.add_comm 1] using this) (fun j => by have := hb (j + 1); simpa [Nat.add_assoc, Nat.add_comm 1] using this)
      have h0 : ops[i]? = some o := by simpa using ho 0
      have h1 : listed.toArray.getD i true = b := by have := hb 0; simp at this; simp [Array.getD_eq_getD_getElem?, this]
      have h2 : (o.after.all fun e => !Region.binds .any e || listed.toArray.getD e.on false) = allOn listed (aftL o.after.toList) := by
        rw [allOn_eq, ← Array.all_toList]
      have h0' : ops.toArray[i]? = some o := by simpa using h0
      simp only [List.length_cons, List.range'_succ, List.filter_cons, lightOf, readyL, h1, h0', Option.map_some, Option.getD_some, h2]
      rw [ih']
      cases b <;> cases allOn listed (aftL o.after.toList) <;> simp
theorem apartL_apart {P : Program} {ops : List Oper} {x y : Oper} {i j : Nat} {lx ly : LO} (hx : ops[i]? = some x) (hy : ops[j]? = some y) (h1 : (lightOf P ops ops)[i]? = some lx) (h2 : (lightOf P ops ops)[j]? = some ly)
    (h : apartL lx ly = true) : x.apart ops.toArray y = true := by
  rw [lightOf_get, hx] at h1; rw [lightOf_get, hy] at h2
  simp only [Option.map_some, Option.some.injEq] at h1 h2
  subst h1; subst h2
  have looks : ∀ z : Oper, z.looksAt ops.toArray = tmpsL (operL z.op) ++ (match z.guard with | some (g, _) => (match ops[g]? with | some x => x.dst.toList | none => []) | none => []) := by
    intro z
    unfold Oper.looksAt
    rw [operL_eq]
    congr 1
    · exact tmpsL_eq _
    · cases z.guard with
      | none => rfl
      | some p => obtain ⟨g, b⟩ := p; simp only [List.getElem?_toArray]; cases ops[g]? <;> simp
  unfold Oper.apart
  rw [looks x, looks y]
  unfold apartL at h
  simp only [Bool.and_eq_true] at h
  obtain ⟨ha, hb⟩ := h
  have mem : ∀ (d : Nat) (l : List Nat), l.contains d = memNat d l := fun d l => by
    cases hm : memNat d l with
    | true => simpa using memNat_iff.1 hm
    | false => simp; intro hc; rw [memNat_iff.2 hc] at hm; cases hm
  simp only [Bool.and_eq_true]
  refine ⟨?_, ?_⟩
  · cases hd : x.dst with
    | none => rfl
    | some d =>
      simp only [hd] at ha
      simp only [mem]
      cases hm : memNat d (tmpsL (operL y.op) ++ (match y.guard with | some (g, _) => (match ops[g]? with | some x => x.dst.toList | none => []) | none => [])) with
      | true => rw [hm] at ha; simp at ha
      | false =>
        rw [hm] at ha
        simp only [cond_false] at ha
        cases hy' : y.dst with
        | none => simp
        | some d' =>
          rw [hy'] at ha
          simp only [eqO] at ha
          cases hq : Nat.beq d' d with
          | true => rw [hq] at ha; simp at ha
          | false => have := Nat.ne_of_beq_eq_false hq; simp [this]
  · cases hd : y.dst with
    | none => rfl
    | some d =>
      simp only [hd] at hb
      simp only [mem]
      cases hm : memNat d (tmpsL (operL x.op) ++ (match x.guard with | some (g, _) => (match ops[g]? with | some x => x.dst.toList | none => []) | none => [])) with
      | true => rw [hm] at hb; simp at hb
      | false => rfl
theorem mem_aftL {i : Nat} : ∀ {es : List Edge}, i ∈ aftL es → ∃ e ∈ es, Region.binds .any e = true ∧ e.on = i
  | e :: es, h => by
    unfold aftL at h
    cases hb : bindsE e with
    | true =>
      rw [hb] at h
      rcases List.mem_cons.1 h with h | h
      · exact ⟨e, by simp, by rw [bindsE_eq]; exact hb, h.symm⟩
      · obtain ⟨e', he, hx⟩ := mem_aftL h; exact ⟨e', by simp [he], hx⟩
    | false => rw [hb] at h; obtain ⟨e', he, hx⟩ := mem_aftL h; exact ⟨e', by simp [he], hx⟩
theorem freeL_free {P : Program} {ops : List Oper} {listed : List Bool} (hl : listed.length = ops.length) {i : Nat} {oi : Oper} {x : LO} (hi : ops[i]? = some oi) (hx : (lightOf P ops ops)[i]? = some x)
    (h : freeL x i 0 (lightOf P ops ops) listed = true) : Region.free .any ops.toArray listed.toArray i = true := by
  have H : ∀ (ys : List LO) (bs : List Bool) (j0 : Nat), freeL x i j0 ys bs = true → ∀ j y, ys[j]? = some y → bs[j]? = some false → j0 + j ≠ i → i ∉ y.aft → apartL x y = true := by
    intro ys
    induction ys with
    | nil => intro bs j0 _ j y hy; simp at hy
    | cons z ys ih =>
      intro bs j0 hf j y hy hb hne hna
      cases bs with
      | nil => simp at hb
      | cons b bs =>
        unfold freeL at hf
        cases j with
        | zero =>
          simp at hy hb; subst hy; subst hb
          simp only [cond_false] at hf
          have : Nat.beq j0 i = false := by cases hq : Nat.beq j0 i with | true => exact absurd (Nat.eq_of_beq_eq_true hq) (by simpa using hne) | false => rfl
          rw [this] at hf
          simp only [cond_false] at hf
          have hm : memNat i z.aft = false := by cases hq : memNat i z.aft with | true => exact absurd (memNat_iff.1 hq) hna | false => rfl
          rw [hm] at hf
          simp only [cond_false] at hf
          cases ha : apartL x z with | true => rfl | false => rw [ha] at hf; simp at hf
        | succ j =>
          simp at hy hb
          have hf' : freeL x i (j0 + 1) ys bs = true := by
            cases b with
            | true => simpa using hf
            | false =>
              simp only [cond_false] at hf
              cases h1 : Nat.beq j0 i with
              | true => rw [h1] at hf; simpa using hf
              | false =>
                rw [h1] at hf
                simp only [cond_false] at hf
                cases h2 : memNat i z.aft with
                | true => rw [h2] at hf; simpa using hf
                | false =>
                  rw [h2] at hf
                  simp only [cond_false] at hf
                  cases h3 : apartL x z with | true => rw [h3] at hf; simpa using hf | false => rw [h3] at hf; simp at hf
          exact ih bs (j0 + 1) hf' j y hy hb (by omega) hna
  unfold Region.free
  simp only [List.getElem?_toArray, hi, List.all_eq_true, List.mem_range, List.size_toArray]
  intro j hj
  simp only [Bool.or_eq_true]
  by_cases hji : j = i
  · exact .inl (.inl (by simp [hji]))
  · have hjo : ops[j]? = some ops[j] := by simp [hj]
    cases hb : listed.toArray.getD j true with
    | true => exact .inl (.inr rfl)
    | false =>
      right
      rw [hjo]
      simp only [Bool.or_eq_true]
      by_cases hm : i ∈ aftL ops[j].after.toList
      · left
        obtain ⟨e, he, h1, h2⟩ := mem_aftL hm
        exact Array.any_eq_true'.2 ⟨e, by simpa using he, by simp [h1, h2]⟩
      · right
        have hly : (lightOf P ops ops)[j]? = some { dst := ops[j].dst, looks := tmpsL (operL ops[j].op) ++ (match ops[j].guard with | some (g, _) => (match ops[g]? with | some x => x.dst.toList | none => []) | none => []), aft := aftL ops[j].after.toList, q := quietK P ops[j] } := by rw [lightOf_get, hjo]; rfl
        have hbj : listed[j]? = some false := by
          have hlt : j < listed.length := by omega
          rw [Array.getD_eq_getD_getElem?, List.getElem?_toArray] at hb
          simp [hlt] at hb ⊢; exact hb
        exact apartL_apart hi hjo hx hly (H _ _ 0 h j _ hly hbj (by omega) hm)

def noSel : List Oper → Bool
  | [] => true
  | o :: l => match o.op with | .select _ _ => false | _ => noSel l
theorem noSel_all : ∀ {l : List Oper}, noSel l = true → (l.all fun o => match o.op with | .select .. => false | _ => true) = true
  | [], _ => rfl
  | o :: l, h => by
    obtain ⟨dst, op, type, pos, after, guard⟩ := o
    simp only [List.all_cons, Bool.and_eq_true]
    cases op <;> simp only [noSel] at h <;> first | (cases h; done) | exact ⟨rfl, noSel_all h⟩
theorem noSel_eq {l : List Oper} (h : noSel l = true) : Region.noSelect l.toArray = true := by
  have := noSel_all h
  unfold Region.noSelect
  rw [← Array.all_toList]
  exact this

def falses : List Oper → List Bool
  | [] => []
  | _ :: l => false :: falses l
def drW (m : Bool) (P : Program) (n : Nat) (ops : List Oper) (L : List LO) (K : Env → World → Prop) : List Oper → List Bool → (World → Prop) → Env → World → Prop
  | [], listed, S, ρ, w => (match readyL listed 0 L listed with | [] => K ρ w | _ => False)
  | _ :: fuel, listed, S, ρ, w =>
    match readyL listed 0 L listed with
    | [] => K ρ w
    | i0 :: more =>
      match findTake L listed (i0 :: more) with
      | some i => (match ops[i]? with
        | some o => (match gd ops o ρ with
          | some true => quietS P ρ o S fun v => putS n ops i o v ρ fun ρ' => drW m P n ops L K fuel (markL i listed) S ρ' w
          | some false => drW m P n ops L K fuel (markL i listed) S (skipEnv n o ρ) w
          | none => False)
        | none => False)
      | none => allL (i0 :: more) fun i => (match ops[i]? with
        | some o => (match gd ops o ρ with
          | some true => opX m P ρ o w fun v w' => putS n ops i o v ρ fun ρ' => ∃ S' : World → Prop, (∀ u, S' u → S u) ∧ S' w' ∧ drW m P n ops L K fuel (markL i listed) S' ρ' w'
          | some false => drW m P n ops L K fuel (markL i listed) S (skipEnv n o ρ) w
          | none => False)
        | none => False)

theorem wpAnyH_weaken {P : Program} {md : Region.Mode} {ops : Array Oper} {Q : Exit → Act → World → Prop} {S S' : World → Prop} (hS : ∀ w, S' w → S w) :
    ∀ (fuel : Nat) (listed : Array Bool) (a : Act) (w : World), wpAnyH P md ops Q S' fuel listed a w → wpAnyH P md ops Q S fuel listed a w
  | 0, _, _, _, h => h
  | fuel + 1, listed, a, w, h => ⟨h.1, fun i hi => wpOp_mono (fun a' w' h' => ⟨hS _ h'.1, wpAnyH_weaken hS fuel _ a' w' h'.2⟩) (h.2 i hi)⟩

theorem findTake_spec {L : List LO} {listed : List Bool} : ∀ {l : List Nat} {i : Nat}, findTake L listed l = some i → i ∈ l ∧ ∃ x, L[i]? = some x ∧ freeL x i 0 L listed = true
  | j :: l, i, h => by
    simp only [findTake] at h
    split at h
    · rename_i x hx
      cases hq : x.q with
      | false => rw [hq] at h; simp at h; obtain ⟨h1, h2⟩ := findTake_spec h; exact ⟨by simp [h1], h2⟩
      | true =>
        rw [hq] at h
        simp only [cond_true] at h
        cases hc : freeL x j 0 L listed with
        | true => rw [hc] at h; simp at h; subst h; exact ⟨by simp, x, hx, hc⟩
        | false => rw [hc] at h; simp at h; obtain ⟨h1, h2⟩ := findTake_spec h; exact ⟨by simp [h1], h2⟩
    · obtain ⟨h1, h2⟩ := findTake_spec h; exact ⟨by simp [h1], h2⟩

theorem drW_sound {m : Bool} {P : Program} (ok : Okay P) {n : Nat} {ops : List Oper} (hsel : Region.noSelect ops.toArray = true) {L : List Nat} (hL : ∀ t, t ∈ opsDst ops → t ∈ L) {a₀ : Act} {K : Exit → Env → World → Prop} :
    ∀ (fl : List Oper) (listed : List Bool) (S : World → Prop) (ρ : Env) (a : Act) (w : World), listed.length = ops.length → SameBut L a₀ a → Agrees n ρ a → S w →
      drW m P n ops (lightOf P ops ops) (K .normal) fl listed S ρ w → wpAnyH P .any ops.toArray (QW n L a₀ K) S fl.length listed.toArray a w
  | [], listed, S, ρ, a, w, hl, hs, ha, hS, h => by
    have hr0 := ready_eq (P := P) hl
    unfold drW at h
    split at h
    · rename_i hr; exact ⟨hr0.trans hr, hs, ρ, ha, h⟩
    · exact h.elim
  | _ :: fl, listed, S, ρ, a, w, hl, hs, ha, hS, h => by
    have hr0 := ready_eq (P := P) hl
    have hmem : ∀ {i : Nat} {o : Oper}, ops[i]? = some o → o ∈ ops := fun {i o} hi => List.mem_of_getElem? hi
    have hput : ∀ {i : Nat} {o : Oper} (_ : ops[i]? = some o) v, SameBut L a₀ (a.put o.dst v) := fun hi v => hs.trans ((put_same (hmem hi) a v).mono hL)
    unfold drW at h
    split at h
    · rename_i hr
      exact wpAnyH_done (hr0.trans hr) ⟨hs, ρ, ha, h⟩ _
    · rename_i i0 more hr
      have hrr := hr0.trans hr
      split at h
      · rename_i i hf
        obtain ⟨hi, x, hx, hfx⟩ := findTake_spec hf
        split at h
        · rename_i o ho
          have hfree := freeL_free hl ho hx hfx
          have ho' : ops.toArray[i]? = some o := by simpa using ho
          split at h
          · rename_i hg
            obtain ⟨v, hy, hv⟩ := quietS_yields ha.ev h
            obtain ⟨ρ', ha', hk⟩ := putS_elim hv ha
            have hw := gd_wanted hg ha
            refine wpAnyH_take ho' hsel hfree (by rw [hrr]; simpa using hi) (fun _ _ _ q => q.elim) (.inl ⟨hw, hy⟩) hS ?_
            rw [← markL_eq]
            exact drW_sound ok hsel hL fl _ S ρ' _ w (by rw [markL_length]; exact hl) (hput ho v) ha' hS hk
          · rename_i hg
            have hw := gd_wanted hg ha
            refine wpAnyH_take ho' hsel hfree (by rw [hrr]; simpa using hi) (fun _ _ _ q => q.elim) (.inr ⟨hw, rfl⟩) hS ?_
            rw [← markL_eq]
            exact drW_sound ok hsel hL fl _ S _ _ w (by rw [markL_length]; exact hl) (hput ho _) (skip_agrees ha) hS h
          · exact h.elim
        · exact h.elim
      · refine wpAnyH_all hrr (by simp) fun i hi => ?_
        have h := allL_elim h i hi
        unfold wpOp
        split at h
        · rename_i o ho
          have ho' : ops.toArray[i]? = some o := by simpa using ho
          rw [ho']
          simp only
          split at h
          · rename_i hg
            have hw := gd_wanted hg ha
            rw [hw]
            simp only [if_true]
            refine .inl (Oper.wp_mono ?_ (opS_does ok ha.ev (opX_opS h)).wp)
            rintro a' w' ⟨v, rfl, hv⟩
            obtain ⟨ρ', ha', S', hSS, hS', hk⟩ := putS_elim hv ha
            rw [← markL_eq]
            exact ⟨hSS _ hS', wpAnyH_weaken hSS _ _ _ _ (drW_sound ok hsel hL fl _ S' ρ' _ w' (by rw [markL_length]; exact hl) (hput ho v) ha' hS' hk)⟩
          · rename_i hg
            have hw := gd_wanted hg ha
            rw [hw]
            simp only [Bool.false_eq_true, if_false]
            rw [← markL_eq]
            exact ⟨hS, drW_sound ok hsel hL fl _ S _ _ w (by rw [markL_length]; exact hl) (hput ho _) (skip_agrees ha) hS h⟩
          · exact h.elim
        · exact h.elim

/-! ## regions whose order is drawn, a reading's condition asked as long as it may still be due -/
def waitsOn (md : Region.Mode) (o : Oper) (q : Nat) : Bool := o.after.any fun e => Region.binds md e && e.on == q
def keepAt (md : Region.Mode) (ops : Array Oper) (i : Nat) (T : List (Nat × (World → Prop))) : List (Nat × (World → Prop)) :=
  match ops[i]? with
  | some o => T.filter fun p => !waitsOn md o p.1
  | none => T
def wpAnyT (P : Program) (md : Region.Mode) (ops : Array Oper) (Q : Exit → Act → World → Prop) : List (Nat × (World → Prop)) → Nat → Array Bool → Act → World → Prop
  | _, 0, listed, a, w => Region.ready md ops listed = [] ∧ Q .normal a w
  | T, fuel + 1, listed, a, w => (Region.ready md ops listed = [] → Q .normal a w) ∧
      ∀ i ∈ Region.ready md ops listed, wpOp P ops Q i (fun a' w' => (∀ p ∈ keepAt md ops i T, p.2 w') ∧ wpAnyT P md ops Q (keepAt md ops i T) fuel (listed.setIfInBounds i true) a' w') a w
theorem wpAny_of_T {P : Program} {md : Region.Mode} {ops : Array Oper} {Q : Exit → Act → World → Prop} : ∀ (fuel : Nat) (T : List (Nat × (World → Prop))) (listed : Array Bool) (a : Act) (w : World), wpAnyT P md ops Q T fuel listed a w → wpAny P md ops Q fuel listed a w
  | 0, _, _, _, _, h => h
  | fuel + 1, _, _, _, _, h => ⟨h.1, fun i hi => wpOp_mono (fun a' w' h' => wpAny_of_T fuel _ _ a' w' h'.2) (h.2 i hi)⟩
theorem keepAt_sub {md : Region.Mode} {ops : Array Oper} {i : Nat} {T T' : List (Nat × (World → Prop))} (h : ∀ p ∈ T', p ∈ T ∨ ∀ w, p.2 w) : ∀ p ∈ keepAt md ops i T', p ∈ keepAt md ops i T ∨ ∀ w, p.2 w := by
  unfold keepAt
  split
  · intro p hp
    obtain ⟨hp, hw⟩ := List.mem_filter.1 hp
    exact (h p hp).imp (fun hm => List.mem_filter.2 ⟨hm, hw⟩) id
  · exact h
theorem wpAnyT_sub {P : Program} {md : Region.Mode} {ops : Array Oper} {Q : Exit → Act → World → Prop} : ∀ (fuel : Nat) (T T' : List (Nat × (World → Prop))) (listed : Array Bool) (a : Act) (w : World), (∀ p ∈ T', p ∈ T ∨ ∀ w, p.2 w) → wpAnyT P md ops Q T fuel listed a w → wpAnyT P md ops Q T' fuel listed a w
  | 0, _, _, _, _, _, _, h => h
  | fuel + 1, T, T', _, _, _, hT, h => ⟨h.1, fun i hi => wpOp_mono (fun a' w' h' => ⟨fun p hp => (keepAt_sub hT p hp).elim (h'.1 p) (fun hw => hw w'), wpAnyT_sub fuel _ _ _ a' w' (keepAt_sub hT) h'.2⟩) (h.2 i hi)⟩
theorem keepAt_mem {md : Region.Mode} {ops : Array Oper} {i : Nat} {T : List (Nat × (World → Prop))} {p : Nat × (World → Prop)} (h : p ∈ keepAt md ops i T) : p ∈ T := by
  unfold keepAt at h
  split at h
  · exact (List.mem_filter.1 h).1
  · exact h
theorem wpAnyT_first {P : Program} {md : Region.Mode} {ops : Array Oper} {Q : Exit → Act → World → Prop} {i : Nat} {oi : Oper} {v : Value} {S : World → Prop} (hi : ops[i]? = some oi) (hsel : ∀ (j : Nat) (o : Oper) cs b, ops[j]? = some o → o.op ≠ .select cs b)
    (hQ : ∀ c a w, Q (.panic c) (a.put oi.dst v) w → Q (.panic c) a w) :
    ∀ (fuel : Nat) (T : List (Nat × (World → Prop))) (listed : Array Bool) (a : Act) (w : World),
      (∀ j oj, ops[j]? = some oj → j ≠ i → listed.getD j true = false → (∀ e ∈ oj.after, Region.binds md e = true → e.on ≠ i) → oi.apart ops oj = true) →
      i ∈ Region.ready md ops listed → YieldsIf P ops S oi v a → S w → (∀ p ∈ T, p.2 w) →
      wpAnyT P md ops Q ((i, S) :: T) fuel (listed.setIfInBounds i true) (a.put oi.dst v) w → wpAnyT P md ops Q T (fuel + 1) listed a w := by
  have base : ∀ (fuel : Nat) (T : List (Nat × (World → Prop))) (listed : Array Bool) (a : Act) (w : World), YieldsIf P ops S oi v a → S w → (∀ p ∈ T, p.2 w) → wpAnyT P md ops Q ((i, S) :: T) fuel (listed.setIfInBounds i true) (a.put oi.dst v) w →
      wpOp P ops Q i (fun a' w' => (∀ p ∈ keepAt md ops i T, p.2 w') ∧ wpAnyT P md ops Q (keepAt md ops i T) fuel (listed.setIfInBounds i true) a' w') a w := by
    intro fuel T listed a w hy hS hT H
    refine hy.wpOp hi hS ⟨fun p hp => hT p (keepAt_mem hp), wpAnyT_sub _ _ _ _ _ _ (fun p hp => .inl (List.mem_cons.2 (.inr (keepAt_mem hp)))) H⟩
  intro fuel
  induction fuel with
  | zero =>
    intro T listed a w _ hr hy hS hT H
    refine ⟨fun h => (by rw [h] at hr; cases hr), fun j hj => ?_⟩
    by_cases hji : j = i
    · subst hji; exact base 0 T listed a w hy hS hT H
    · have := ready_mono hj hji
      rw [H.1] at this
      cases this
  | succ fuel ih =>
    intro T listed a w hfree hr hy hS hT H
    refine ⟨fun h => (by rw [h] at hr; cases hr), fun j hj => ?_⟩
    by_cases hji : j = i
    · subst hji; exact base _ T listed a w hy hS hT H
    · have h1 := H.2 j (ready_mono hj hji)
      obtain ⟨hjun, oj, hoj, hall⟩ := mem_ready.1 hj
      have hnot : ∀ e ∈ oj.after, Region.binds md e = true → e.on ≠ i := fun e he hb heq => by
        have h1 := hall e he hb
        have h0 := (mem_ready.1 hr).1
        rw [heq] at h1
        rcases Nat.lt_or_ge i listed.size with h' | h'
        · simp [h'] at h0 h1; rw [h0] at h1; cases h1
        · simp [Array.getElem?_eq_none h'] at h1
      have hkeep : keepAt md ops j ((i, S) :: T) = (i, S) :: keepAt md ops j T := by
        unfold keepAt
        rw [hoj]
        dsimp only
        rw [List.filter_cons_of_pos]
        have : waitsOn md oj i = false := by
          unfold waitsOn
          rw [Array.any_eq_false]
          intro k hk
          have := hnot oj.after[k] (by simp) 
          simp only [Bool.and_eq_true, beq_iff_eq, not_and]
          exact this
        simp [this]
      rw [hkeep] at h1
      have h2 := wpOp_putIf hoj (hfree j oj hoj hji hjun hnot) (fun cs b => hsel i oi cs b hi) (fun cs b => hsel j oj cs b hoj) hQ hy h1
      have hfree' : ∀ k ok, ops[k]? = some ok → k ≠ i → (listed.setIfInBounds j true).getD k true = false →
          (∀ e ∈ ok.after, Region.binds md e = true → e.on ≠ i) → oi.apart ops ok = true := fun k ok hk hki hun hno => by
        refine hfree k ok hk hki ?_ hno
        by_cases hjk : j = k
        · subst hjk; exact hjun
        · rw [getD_set_ne true hjk] at hun; exact hun
      refine wpOp_mono (fun a' w' h3 => ⟨fun p hp => h3.2.1 p (List.mem_cons.2 (.inr hp)), ih (keepAt md ops j T) (listed.setIfInBounds j true) a' w' hfree' (ready_mono hr (Ne.symm hji)) h3.1 (h3.2.1 _ (List.mem_cons.2 (.inl rfl))) (fun p hp => h3.2.1 p (List.mem_cons.2 (.inr hp))) ?_⟩) h2
      rw [Array.setIfInBounds_comm _ _ hji]
      exact h3.2.2

def waitsL : List Edge → Nat → Bool
  | [], _ => false
  | e :: l, q => bif bindsE e then (bif Nat.beq e.on q then true else waitsL l q) else waitsL l q
theorem waitsL_eq (o : Oper) (q : Nat) : waitsL o.after.toList q = waitsOn .any o q := by
  have h : ∀ l : List Edge, waitsL l q = l.any fun e => Region.binds .any e && e.on == q := by
    intro l
    induction l with
    | nil => rfl
    | cons e l ih =>
      rw [waitsL, List.any_cons, bindsE_eq, ih]
      cases bindsE e
      · rfl
      · simp only [cond_true, Bool.true_and]
        by_cases he : e.on = q
        · simp [he]
        · have : Nat.beq e.on q = false := by
            cases hb : Nat.beq e.on q with
            | false => rfl
            | true => exact absurd (Nat.eq_of_beq_eq_true hb) he
          simp [this, he]
  rw [h, waitsOn, ← Array.any_toList]
abbrev Grp := List Nat × (World → Prop)
def filtQ (l : List Edge) : List Nat → List Nat
  | [] => []
  | q :: r => bif waitsL l q then filtQ l r else q :: filtQ l r
def keepG (l : List Edge) : List Grp → List Grp
  | [] => []
  | (qs, S) :: T => match filtQ l qs with | [] => keepG l T | q :: r => (q :: r, S) :: keepG l T
def allS : List Grp → World → Prop → Prop
  | [], _, k => k
  | (_, S) :: T, w, k => S w ∧ allS T w k
theorem allS_elim : ∀ {T : List Grp} {w : World} {k : Prop}, allS T w k → (∀ g ∈ T, g.2 w) ∧ k
  | [], _, _, h => ⟨fun _ h => (by cases h), h⟩
  | (qs, S) :: T, w, k, h => ⟨fun g hg => by
      rcases List.mem_cons.1 hg with rfl | hg
      · exact h.1
      · exact (allS_elim h.2).1 g hg, (allS_elim h.2).2⟩
def addC : Option Grp → List Grp → List Grp
  | none, T => T
  | some g, T => g :: T
def expd : List Grp → List (Nat × (World → Prop))
  | [] => []
  | (qs, S) :: T => qs.map (fun q => (q, S)) ++ expd T
theorem expd_mem : ∀ {T : List Grp} {p : Nat × (World → Prop)}, p ∈ expd T → ∃ g ∈ T, g.2 = p.2
  | (qs, S) :: T, p, h => by
    rcases List.mem_append.1 h with h | h
    · obtain ⟨q, _, rfl⟩ := List.mem_map.1 h
      exact ⟨_, List.mem_cons.2 (.inl rfl), rfl⟩
    · obtain ⟨g, hg, e⟩ := expd_mem h
      exact ⟨g, List.mem_cons.2 (.inr hg), e⟩
theorem filtQ_eq (l : List Edge) : ∀ qs : List Nat, filtQ l qs = qs.filter fun q => !waitsL l q
  | [] => rfl
  | q :: r => by rw [filtQ, filtQ_eq l r, List.filter_cons]; cases waitsL l q <;> simp
theorem expd_keep (o : Oper) : ∀ T : List Grp, expd (keepG o.after.toList T) = (expd T).filter fun p => !waitsOn .any o p.1
  | [] => rfl
  | (qs, S) :: T => by
    rw [expd, List.filter_append, ← expd_keep o T]
    have h1 : (qs.map (fun q => (q, S))).filter (fun p => !waitsOn .any o p.1) = (filtQ o.after.toList qs).map (fun q => (q, S)) := by
      rw [filtQ_eq, List.filter_map]
      congr 1
      apply List.filter_congr
      intro q _
      simp [waitsL_eq]
    rw [h1, keepG]
    split
    · rename_i h; rw [h]; rfl
    · rename_i q r h; rw [h]; rfl
def needS (P : Program) (o : Oper) : Bool := match o.op with
  | .load _ _ => true
  | .convert s d _ => isSlc (und P s) && isStr (und P d)
  | _ => false
def drT (P : Program) (n : Nat) (ops : List Oper) (L : List LO) (K : Env → World → Prop) : List Oper → List Bool → Option Grp → List Grp → Env → World → Prop
  | [], listed, c, T, ρ, w => (match readyL listed 0 L listed with | [] => K ρ w | _ => False)
  | _ :: fuel, listed, c, T, ρ, w =>
    match readyL listed 0 L listed with
    | [] => K ρ w
    | i0 :: more =>
      match findTake L listed (i0 :: more) with
      | some i => (match ops[i]? with
        | some o => (match gd ops o ρ with
          | some true => (match needS P o with
            | true => (match c with
              | some (qs, S) => quietS P ρ o S fun v => putS n ops i o v ρ fun ρ' => drT P n ops L K fuel (markL i listed) (some (i :: qs, S)) T ρ' w
              | none => ∃ S : World → Prop, S w ∧ quietS P ρ o S fun v => putS n ops i o v ρ fun ρ' => drT P n ops L K fuel (markL i listed) (some ([i], S)) T ρ' w)
            | false => pureS P ρ o.op fun v => putS n ops i o v ρ fun ρ' => drT P n ops L K fuel (markL i listed) c T ρ' w)
          | some false => drT P n ops L K fuel (markL i listed) c T (skipEnv n o ρ) w
          | none => False)
        | none => False)
      | none => allL (i0 :: more) fun i => (match ops[i]? with
        | some o => (match gd ops o ρ with
          | some true => opN P ρ o w fun v w' => putS n ops i o v ρ fun ρ' => allS (keepG o.after.toList (addC c T)) w' (drT P n ops L K fuel (markL i listed) none (keepG o.after.toList (addC c T)) ρ' w')
          | some false => drT P n ops L K fuel (markL i listed) none (keepG o.after.toList (addC c T)) (skipEnv n o ρ) w
          | none => False)
        | none => False)
theorem drT_sound {P : Program} (ok : Okay P) {n : Nat} {ops : List Oper} (hsel : Region.noSelect ops.toArray = true) {L : List Nat} (hL : ∀ t, t ∈ opsDst ops → t ∈ L) {a₀ : Act} {K : Exit → Env → World → Prop} :
    ∀ (fl : List Oper) (listed : List Bool) (c : Option Grp) (T : List Grp) (ρ : Env) (a : Act) (w : World), listed.length = ops.length → SameBut L a₀ a → Agrees n ρ a → (∀ g ∈ addC c T, g.2 w) →
      drT P n ops (lightOf P ops ops) (K .normal) fl listed c T ρ w → wpAnyT P .any ops.toArray (QW n L a₀ K) (expd (addC c T)) fl.length listed.toArray a w
  | [], listed, c, T, ρ, a, w, hl, hs, ha, hT, h => by
    have hr0 := ready_eq (P := P) hl
    unfold drT at h
    split at h
    · rename_i hr; exact ⟨hr0.trans hr, hs, ρ, ha, h⟩
    · exact h.elim
  | _ :: fl, listed, c, T, ρ, a, w, hl, hs, ha, hT, h => by
    have hr0 := ready_eq (P := P) hl
    have hmem : ∀ {i : Nat} {o : Oper}, ops[i]? = some o → o ∈ ops := fun {i o} hi => List.mem_of_getElem? hi
    have hput : ∀ {i : Nat} {o : Oper} (_ : ops[i]? = some o) v, SameBut L a₀ (a.put o.dst v) := fun hi v => hs.trans ((put_same (hmem hi) a v).mono hL)
    have hTe : ∀ p ∈ expd (addC c T), p.2 w := fun p hp => by
      obtain ⟨g, hg, e⟩ := expd_mem hp
      rw [← e]; exact hT g hg
    unfold drT at h
    split at h
    · rename_i hr
      exact ⟨fun _ => ⟨hs, ρ, ha, h⟩, by rw [hr0, hr]; simp⟩
    · rename_i i0 more hr
      have hrr := hr0.trans hr
      split at h
      · rename_i i hf
        obtain ⟨hi, x, hx, hfx⟩ := findTake_spec hf
        split at h
        · rename_i o ho
          have hfree := freeL_free hl ho hx hfx
          have ho' : ops.toArray[i]? = some o := by simpa using ho
          have hri : i ∈ Region.ready .any ops.toArray listed.toArray := by rw [hrr]; exact hi
          have take : ∀ {v : Value} {S : World → Prop}, YieldsIf P ops.toArray S o v a → S w → wpAnyT P .any ops.toArray (QW n L a₀ K) ((i, S) :: expd (addC c T)) fl.length (markL i listed).toArray (a.put o.dst v) w → wpAnyT P .any ops.toArray (QW n L a₀ K) (expd (addC c T)) (fl.length + 1) listed.toArray a w := by
            intro v S hy hS hk
            rw [markL_eq] at hk
            exact wpAnyT_first ho' (Region.noSelect_spec hsel) (fun _ _ _ q => q.elim) _ _ _ _ _ (Region.free_spec ho' hfree) hri hy hS hTe hk
          split at h
          · rename_i hg
            have hw := gd_wanted hg ha
            split at h
            · split at h
              · rename_i qs S
                obtain ⟨v, hy, hv⟩ := quietS_yields ha.ev h
                obtain ⟨ρ', ha', hk⟩ := putS_elim hv ha
                exact take (.inl ⟨hw, hy⟩) (hT _ (List.mem_cons.2 (.inl rfl))) (drT_sound ok hsel hL fl _ (some (i :: qs, S)) T ρ' _ w (by rw [markL_length]; exact hl) (hput ho v) ha' (fun g hg => by
                  rcases List.mem_cons.1 hg with rfl | hg
                  · exact hT (qs, S) (List.mem_cons.2 (.inl rfl))
                  · exact hT g (List.mem_cons.2 (.inr hg))) hk)
              · obtain ⟨S, hS, h⟩ := h
                obtain ⟨v, hy, hv⟩ := quietS_yields ha.ev h
                obtain ⟨ρ', ha', hk⟩ := putS_elim hv ha
                exact take (.inl ⟨hw, hy⟩) hS (drT_sound ok hsel hL fl _ (some ([i], S)) T ρ' _ w (by rw [markL_length]; exact hl) (hput ho v) ha' (fun g hg => by
                  rcases List.mem_cons.1 hg with rfl | hg
                  · exact hS
                  · exact hT g hg) hk)
            · obtain ⟨v, hy, hv⟩ := pureS_gives ha.ev h
              obtain ⟨ρ', ha', hk⟩ := putS_elim hv ha
              refine take (S := fun _ => True) (.inl ⟨hw, fun w _ => hy w⟩) trivial (wpAnyT_sub _ _ _ _ _ _ (fun p hp => ?_) (drT_sound ok hsel hL fl _ c T ρ' _ w (by rw [markL_length]; exact hl) (hput ho v) ha' hT hk))
              rcases List.mem_cons.1 hp with rfl | hp
              · exact .inr fun _ => trivial
              · exact .inl hp
          · rename_i hg
            have hw := gd_wanted hg ha
            refine take (S := fun _ => True) (.inr ⟨hw, rfl⟩) trivial (wpAnyT_sub _ _ _ _ _ _ (fun p hp => ?_) (drT_sound ok hsel hL fl _ c T _ _ w (by rw [markL_length]; exact hl) (hput ho _) (skip_agrees ha) hT h))
            rcases List.mem_cons.1 hp with rfl | hp
            · exact .inr fun _ => trivial
            · exact .inl hp
          · exact h.elim
        · exact h.elim
      · refine ⟨fun h0 => (by rw [hrr] at h0; cases h0), fun i hi => ?_⟩
        rw [hrr] at hi
        have h := allL_elim h i hi
        unfold wpOp
        split at h
        · rename_i o ho
          have ho' : ops.toArray[i]? = some o := by simpa using ho
          have hke : keepAt .any ops.toArray i (expd (addC c T)) = expd (keepG o.after.toList (addC c T)) := by
            unfold keepAt; rw [ho', expd_keep]
          rw [ho', hke]
          simp only
          split at h
          · rename_i hg
            have hw := gd_wanted hg ha
            rw [hw]
            simp only [if_true]
            refine .inl (Oper.wp_mono ?_ (opS_does ok ha.ev (opN_opS h)).wp)
            rintro a' w' ⟨v, rfl, hv⟩
            obtain ⟨ρ', ha', hk⟩ := putS_elim hv ha
            obtain ⟨hall, hk⟩ := allS_elim hk
            rw [← markL_eq]
            refine ⟨fun p hp => ?_, drT_sound ok hsel hL fl _ none _ ρ' _ w' (by rw [markL_length]; exact hl) (hput ho v) ha' hall hk⟩
            obtain ⟨g, hg, e⟩ := expd_mem hp
            rw [← e]; exact hall g hg
          · rename_i hg
            have hw := gd_wanted hg ha
            rw [hw]
            simp only [Bool.false_eq_true, if_false]
            rw [← markL_eq]
            have hall : ∀ g ∈ keepG o.after.toList (addC c T), g.2 w := fun g hg => by
              have : ∀ T : List Grp, (∀ g ∈ T, g.2 w) → ∀ g ∈ keepG o.after.toList T, g.2 w := by
                intro T
                induction T with
                | nil => intro _ g hg; cases hg
                | cons t T ih =>
                  obtain ⟨qs, S⟩ := t
                  intro ht g hg
                  rw [keepG] at hg
                  split at hg
                  · exact ih (fun g hg => ht g (List.mem_cons.2 (.inr hg))) g hg
                  · rcases List.mem_cons.1 hg with rfl | hg
                    · exact ht (qs, S) (List.mem_cons.2 (.inl rfl))
                    · exact ih (fun g hg => ht g (List.mem_cons.2 (.inr hg))) g hg
              exact this _ hT g hg
            refine ⟨fun p hp => ?_, drT_sound ok hsel hL fl _ none _ _ _ w (by rw [markL_length]; exact hl) (hput ho _) (skip_agrees ha) hall h⟩
            obtain ⟨g, hg, e⟩ := expd_mem hp
            rw [← e]; exact hall g hg
          · exact h.elim
        · exact h.elim

def drX (m : Bool) (P : Program) (n : Nat) (ops : List Oper) (K : Env → World → Prop) (ρ : Env) (w : World) : Prop :=
  match m with
  | true => drT P n ops (lightOf P ops ops) K ops (falses ops) none [] ρ w.drew
  | false => ∃ S : World → Prop, S w.drew ∧ drW false P n ops (lightOf P ops ops) K ops (falses ops) S ρ w.drew

/-! ## control flow -/
inductive Ann where
  | auto
  | seq (a b : Ann)
  | cond (a b : Ann)
  | block (a : Ann)
  | loop (vars : List (Nat × Ty)) (a : Ann)
  | join (vars : List (Nat × Ty)) (a b : Ann)
  | scope (l : Nat) (vars : List (Nat × Ty)) (a b : Ann)
  | named (a : Ann)

def wr : Code → List Nat
  | .region _ ops _ => opsDst ops.toList
  | .seq a b => wr a ++ wr b
  | .cond _ a b => wr a ++ wr b
  | .block _ a => wr a
  | .loop a => wr a
  | .scope a => wr a
  | _ => []

def nxt (K : Exit → Env → World → Prop) (f : Env → World → Prop) : Exit → Env → World → Prop
  | .normal, ρ, w => f ρ w
  | e, ρ, w => K e ρ w
def inBlk (id : Nat) (K : Exit → Env → World → Prop) : Exit → Env → World → Prop
  | .exit j, ρ, w => cond (Nat.beq j id) (K .normal ρ w) (K (.exit j) ρ w)
  | e, ρ, w => K e ρ w
def projS (vs : List (Nat × Ty)) (ρ : Env) (k : List AV → Prop) : Prop := match projVars vs ρ with | some l => k l | none => False

def isLabel (l : Nat) : Code → Bool
  | .label m => Nat.beq m l
  | _ => false
def onSpine (l : Nat) : Code → Bool
  | .label m => Nat.beq m l
  | .seq a b => cond (onSpine l a) true (onSpine l b)
  | _ => false
def jumpTo (l : Nat) (f : Env → World → Prop) (K : Exit → Env → World → Prop) : Exit → Env → World → Prop
  | .goto m, ρ, w => cond (Nat.beq m l) (f ρ w) False
  | e, ρ, w => K e ρ w
/-- m: none: of the whole code; 'some l': of what comes behind the label l. -/
def cWf (m : Bool) (P : Program) (n : Nat) : Option Nat → Ann → Code → (Exit → Env → World → Prop) → Env → World → Prop
  | some l, an, .seq x y, K, ρ, w => cond (isLabel l x) (cWf m P n none an y K ρ w) (cond (onSpine l x) False (cWf m P n (some l) an y K ρ w))
  | some _, _, _, _, _, _ => False
  | none, _, .skip, K, ρ, w => K .normal ρ w
  | none, _, .region id ops false, K, ρ, w => regW m P n ops.toList 0 ops.toList (K .normal) ρ w
  | none, _, .region id ops true, K, ρ, w => cond (noSel ops.toList) (drX m P n ops.toList (K .normal) ρ w) False
  | none, .seq a b, .seq x y, K, ρ, w => cWf m P n none a x (nxt K fun ρ w => cWf m P n none b y K ρ w) ρ w
  | none, .join vs a b, .seq x y, K, ρ, w => ∃ J : Cur Prop (varsAts vs), allA (varsAts vs) (fun l => ∀ w, app False (varsAts vs) J l w → cWf m P n none b y K (setVars vs l (ρ.forget (wr x))) w) ∧
      cWf m P n none a x (nxt K fun ρ' w' => projS vs ρ' fun l => app False (varsAts vs) J l w') ρ w
  | none, _, .seq x y, K, ρ, w => cWf m P n none .auto x (nxt K fun ρ w => cWf m P n none .auto y K ρ w) ρ w
  | none, .cond a b, .cond c x y, K, ρ, w => (match ev ρ c with | some (.bool t) => cond t (cWf m P n none a x K ρ w) (cWf m P n none b y K ρ w) | _ => False)
  | none, _, .cond c x y, K, ρ, w => (match ev ρ c with | some (.bool t) => cond t (cWf m P n none .auto x K ρ w) (cWf m P n none .auto y K ρ w) | _ => False)
  | none, .block a, .block id x, K, ρ, w => cWf m P n none a x (inBlk id K) ρ w
  | none, _, .block id x, K, ρ, w => cWf m P n none .auto x (inBlk id K) ρ w
  | none, .loop vs a, .loop x, K, ρ, w => projS vs ρ fun l₀ => ∃ (I : Cur Prop (varsAts vs)) (μ : Cur Nat (varsAts vs)), app False (varsAts vs) I l₀ w ∧
      allA (varsAts vs) fun l => ∀ w, app False (varsAts vs) I l w →
        cWf m P n none a x (nxt K fun ρ' w' => projS vs ρ' fun l' => app False (varsAts vs) I l' w' ∧ app 0 (varsAts vs) μ l' w' < app 0 (varsAts vs) μ l w) (setVars vs l (ρ.forget (wr x))) w
  | none, .scope l vs a b, .scope x, K, ρ, w => cond (onSpine l x) (∃ (I : Cur Prop (varsAts vs)) (μ : Cur Nat (varsAts vs)), cWf m P n none a x (jumpTo l (fun ρ' w' => projS vs ρ' fun l' => app False (varsAts vs) I l' w') K) ρ w ∧
      allA (varsAts vs) fun v => ∀ w, app False (varsAts vs) I v w →
        cWf m P n (some l) b x (jumpTo l (fun ρ' w' => projS vs ρ' fun l' => app False (varsAts vs) I l' w' ∧ app 0 (varsAts vs) μ l' w' < app 0 (varsAts vs) μ v w) K) (setVars vs v (ρ.forget (wr x))) w) False
  | none, _, .label _, K, ρ, w => K .normal ρ w
  | none, _, .goto l, K, ρ, w => K (.goto l) ρ w
  | none, _, .exit id, K, ρ, w => K (.exit id) ρ w
  | none, _, .ret, K, ρ, w => K .ret ρ w
  | none, _, _, _, _, _ => False

abbrev cW (m : Bool) (P : Program) (n : Nat) : Ann → Code → (Exit → Env → World → Prop) → Env → World → Prop := cWf m P n none

theorem then_QW {P : Program} {n : Nat} {L : List Nat} {a₀ : Act} {K : Exit → Env → World → Prop} {y : Code} {f : Env → World → Prop}
    (hy : ∀ ρ a w, SameBut L a₀ a → Agrees n ρ a → f ρ w → y.wp P (QW n L a₀ K) a w) :
    ∀ e a w, QW n L a₀ (nxt K f) e a w → Exit.then (y.wp P (QW n L a₀ K)) (QW n L a₀ K) e a w := by
  intro e a w h
  cases e with
  | normal => obtain ⟨hs, ρ, ha, hf⟩ := h; exact hy ρ a w hs ha hf
  | exit id => exact h
  | goto l => exact h
  | ret => exact h
  | panic c => exact h
  | outgrown => exact h

theorem then_QW' {n : Nat} {L : List Nat} {a₀ : Act} {K : Exit → Env → World → Prop} {f : Env → World → Prop} {R : Act → World → Prop}
    (hy : ∀ ρ a w, SameBut L a₀ a → Agrees n ρ a → f ρ w → R a w) :
    ∀ e a w, QW n L a₀ (nxt K f) e a w → Exit.then R (QW n L a₀ K) e a w := by
  intro e a w h
  cases e with
  | normal => obtain ⟨hs, ρ, ha, hf⟩ := h; exact hy ρ a w hs ha hf
  | exit id => exact h
  | goto l => exact h
  | ret => exact h
  | panic c => exact h
  | outgrown => exact h

theorem QW_mono {n : Nat} {L L' : List Nat} {a₀ a₁ : Act} {K : Exit → Env → World → Prop} (hs : ∀ a, SameBut L a₀ a → SameBut L' a₁ a) {e : Exit} {a : Act} {w : World} (h : QW n L a₀ K e a w) : QW n L' a₁ K e a w := by
  cases e <;> first | exact h | exact ⟨hs _ h.1, h.2⟩

theorem findLabel_none {l : Nat} : ∀ {c : Code}, onSpine l c = false → findLabel c l = none := by
  intro c
  induction c with
  | seq a b iha ihb =>
    intro h
    cases ha : onSpine l a with
    | true => simp [onSpine, ha] at h
    | false => simp [onSpine, ha] at h; simp [findLabel, iha ha, ihb h]
  | label m => intro h; have h2 := Nat.ne_of_beq_eq_false (show Nat.beq m l = false from h); simp [findLabel, h2]
  | _ => intro _; rfl
theorem findLabel_some {l : Nat} : ∀ {c : Code}, onSpine l c = true → ∃ r, findLabel c l = some r := by
  intro c
  induction c with
  | seq a b iha ihb =>
    intro h
    cases ha : onSpine l a with
    | true => obtain ⟨r, hr⟩ := iha ha; exact ⟨.seq r b, by simp [findLabel, hr]⟩
    | false => simp [onSpine, ha] at h; obtain ⟨r, hr⟩ := ihb h; exact ⟨r, by simp [findLabel, findLabel_none ha, hr]⟩
  | label m => intro h; simp [onSpine] at h; exact ⟨.skip, by simp [findLabel, h]⟩
  | _ => intro h; simp [onSpine] at h

theorem cWf_sound {m : Bool} {P : Program} (ok : Okay P) {n : Nat} {a₀ : Act} : ∀ (c : Code), (∀ (an : Ann) (L : List Nat) (K : Exit → Env → World → Prop) (ρ : Env) (a : Act) (w : World),
    (∀ t, t ∈ wr c → t ∈ L) → SameBut L a₀ a → Agrees n ρ a → cWf m P n none an c K ρ w → c.wp P (QW n L a₀ K) a w) ∧
    (∀ (l : Nat) (an : Ann) (L : List Nat) (K : Exit → Env → World → Prop) (ρ : Env) (a : Act) (w : World),
    (∀ t, t ∈ wr c → t ∈ L) → SameBut L a₀ a → Agrees n ρ a → cWf m P n (some l) an c K ρ w → ∃ rest, findLabel c l = some rest ∧ rest.wp P (QW n L a₀ K) a w) := by
  intro c
  induction c generalizing a₀ with
  | skip =>
    refine ⟨?_, (fun l an L K ρ a w _ _ _ h => h.elim)⟩
    intro an L K ρ a w _ hs ha h; exact wp_skip ⟨hs, ρ, ha, by cases an <;> exact h⟩
  | region id ops draw =>
    refine ⟨?_, (fun l an L K ρ a w _ _ _ h => h.elim)⟩
    intro an L K ρ a w hL hs ha h
    cases draw with
    | false =>
      have h' : regW m P n ops.toList 0 ops.toList (K .normal) ρ w := by cases an <;> exact h
      have := regW_sound ok (L := L) (fun t ht => hL t (by simpa [wr] using ht)) (a₀ := a₀) (K := K) ops.toList 0 ρ a w (fun _ h => h) hs ha h'
      exact wp_region_list (by simpa using this)
    | true =>
      have h' : cond (noSel ops.toList) (drX m P n ops.toList (K .normal) ρ w) False := by cases an <;> exact h
      cases hsel : noSel ops.toList with
      | false => rw [hsel] at h'; exact h'.elim
      | true =>
        rw [hsel] at h'
        have hf : ∀ l : List Oper, (falses l).length = l.length := fun l => by induction l with | nil => rfl | cons _ _ ih => simp [falses, ih]
        have hfa : ∀ l : List Oper, (falses l).toArray = Array.replicate l.length false := fun l => by
          have : falses l = List.replicate l.length false := by induction l with | nil => rfl | cons _ _ ih => simp [falses, ih, List.replicate_succ]
          rw [this]; simp
        cases m with
        | true =>
          have := drT_sound ok (noSel_eq hsel) (L := L) (fun t ht => hL t (by simpa [wr] using ht)) (a₀ := a₀) (K := K) ops.toList _ none [] ρ a _ (hf _) hs ha (fun _ h => by cases h) h'
          rw [hfa] at this
          simp only [Array.toArray_toList, Array.length_toList] at this
          exact wp_region_any ok.mixed (wpAny_of_T _ _ _ _ _ this)
        | false =>
          obtain ⟨S, hS, hd⟩ := h'
          have := drW_sound ok (noSel_eq hsel) (L := L) (fun t ht => hL t (by simpa [wr] using ht)) (a₀ := a₀) (K := K) ops.toList _ S ρ a _ (hf _) hs ha hS hd
          rw [hfa] at this
          simp only [Array.toArray_toList, Array.length_toList] at this
          exact wp_region_held ok.mixed this
  | seq x y ihx ihy =>
    refine ⟨?_, ?_⟩
    · intro an L K ρ a w hL hs ha h
      have hx : ∀ t, t ∈ wr x → t ∈ L := fun t ht => hL t (by simp [wr, ht])
      have hy : ∀ t, t ∈ wr y → t ∈ L := fun t ht => hL t (by simp [wr, ht])
      have plain : ∀ (a1 b1 : Ann), cW m P n a1 x (nxt K fun ρ w => cW m P n b1 y K ρ w) ρ w → (Code.seq x y).wp P (QW n L a₀ K) a w := fun a1 b1 h =>
        wp_seq (Code.wp_mono (then_QW fun ρ' a' w' hs' ha' hf => ihy.1 b1 L K ρ' a' w' hy hs' ha' hf) (ihx.1 a1 L _ ρ a w hx hs ha h))
      cases an with
      | seq a1 b1 => exact plain a1 b1 h
      | join vs a1 b1 =>
        obtain ⟨J, hrest, hfirst⟩ := h
        have h1 := (ihx (a₀ := a)).1 a1 (wr x) _ ρ a w (fun _ h => h) (.refl _ _) ha hfirst
        refine wp_seq (Code.wp_mono ?_ h1)
        intro e a' w' hq
        cases e with
        | normal =>
          obtain ⟨hs', ρ', ha', hp⟩ := hq
          simp only [nxt, projS] at hp
          split at hp
          · rename_i l hl
            have hcw := allA_elim (projVars_typed hl) hrest w' hp
            refine ihy.1 b1 L K _ a' w' hy (hs.trans (hs'.mono hx)) (setVars_agrees hl ha' (ha.forget hs' ha'.defers ha'.size)) hcw
          · exact hp.elim
        | exit id => exact QW_mono (fun b hb => hs.trans (hb.mono hx)) hq
        | goto l => exact QW_mono (fun b hb => hs.trans (hb.mono hx)) hq
        | ret => exact QW_mono (fun b hb => hs.trans (hb.mono hx)) hq
        | panic c => exact hq
        | outgrown => exact hq
      | auto => exact plain _ _ h
      | cond _ _ => exact plain _ _ h
      | block _ => exact plain _ _ h
      | loop _ _ => exact plain _ _ h
      | scope _ _ _ _ => exact plain _ _ h
      | named _ => exact plain _ _ h
    · intro l an L K ρ a w hL hs ha h
      have hy : ∀ t, t ∈ wr y → t ∈ L := fun t ht => hL t (by simp [wr, ht])
      have h' : cond (isLabel l x) (cWf m P n none an y K ρ w) (cond (onSpine l x) False (cWf m P n (some l) an y K ρ w)) := h
      cases hl : isLabel l x with
      | true =>
        rw [hl] at h'
        have hx : x = .label l := by
          cases x <;> simp [isLabel] at hl
          rw [hl]
        subst hx
        exact ⟨.seq .skip y, by simp [findLabel], wp_seq (wp_skip (ihy.1 an L K ρ a w hy hs ha h'))⟩
      | false =>
        rw [hl] at h'
        cases hsp : onSpine l x with
        | true => rw [hsp] at h'; exact h'.elim
        | false =>
          rw [hsp] at h'
          obtain ⟨rest, hr, hw⟩ := ihy.2 l an L K ρ a w hy hs ha h'
          exact ⟨rest, by simp [findLabel, findLabel_none hsp, hr], hw⟩
  | cond c x y ihx ihy =>
    refine ⟨?_, (fun l an L K ρ a w _ _ _ h => h.elim)⟩
    intro an L K ρ a w hL hs ha h
    have hx : ∀ t, t ∈ wr x → t ∈ L := fun t ht => hL t (by simp [wr, ht])
    have hy : ∀ t, t ∈ wr y → t ∈ L := fun t ht => hL t (by simp [wr, ht])
    have plain : ∀ (a1 b1 : Ann), (match ev ρ c with | some (.bool t) => cond t (cW m P n a1 x K ρ w) (cW m P n b1 y K ρ w) | _ => False) → (Code.cond c x y).wp P (QW n L a₀ K) a w := by
      intro a1 b1 h
      split at h
      · rename_i t ht
        refine wp_cond_split (ha.ev c _ ht) (fun e => ?_) (fun e => ?_)
        · subst e; exact ihx.1 a1 L K ρ a w hx hs ha h
        · subst e; exact ihy.1 b1 L K ρ a w hy hs ha h
      · exact h.elim
    cases an with
    | cond a1 b1 => exact plain a1 b1 h
    | auto => exact plain _ _ h
    | seq _ _ => exact plain _ _ h
    | block _ => exact plain _ _ h
    | loop _ _ => exact plain _ _ h
    | join _ _ _ => exact plain _ _ h
    | scope _ _ _ _ => exact plain _ _ h
    | named _ => exact plain _ _ h
  | block id x ih =>
    refine ⟨?_, (fun l an L K ρ a w _ _ _ h => h.elim)⟩
    intro an L K ρ a w hL hs ha h
    have plain : ∀ a1, cW m P n a1 x (inBlk id K) ρ w → (Code.block id x).wp P (QW n L a₀ K) a w := by
      intro a1 h
      refine wp_block (Code.wp_mono ?_ (ih.1 a1 L _ ρ a w hL hs ha h))
      intro e a' w' hq
      cases e with
      | exit j =>
        obtain ⟨hs', ρ', ha', hk⟩ := hq
        simp only [inBlk] at hk
        simp only [Exit.inBlock]
        cases hj : Nat.beq j id with
        | true => have := Nat.eq_of_beq_eq_true hj; subst this; rw [hj] at hk; rw [if_pos rfl]; exact ⟨hs', ρ', ha', hk⟩
        | false => have := Nat.ne_of_beq_eq_false hj; rw [hj] at hk; rw [if_neg this]; exact ⟨hs', ρ', ha', hk⟩
      | normal => exact hq
      | goto l => exact hq
      | ret => exact hq
      | panic c => exact hq
      | outgrown => exact hq
    cases an with
    | block a1 => exact plain a1 h
    | auto => exact plain _ h
    | seq _ _ => exact plain _ h
    | cond _ _ => exact plain _ h
    | loop _ _ => exact plain _ h
    | join _ _ _ => exact plain _ h
    | scope _ _ _ _ => exact plain _ h
    | named _ => exact plain _ h
  | loop x ih =>
    refine ⟨?_, (fun l an L K ρ a w _ _ _ h => h.elim)⟩
    intro an L K ρ a w hL hs ha h
    cases an with
    | loop vs a1 =>
      have h' : projS vs ρ fun l₀ => ∃ (I : Cur Prop (varsAts vs)) (μ : Cur Nat (varsAts vs)), app False (varsAts vs) I l₀ w ∧
        allA (varsAts vs) fun l => ∀ w, app False (varsAts vs) I l w →
        cW m P n a1 x (nxt K fun ρ' w' => projS vs ρ' fun l' => app False (varsAts vs) I l' w' ∧ app 0 (varsAts vs) μ l' w' < app 0 (varsAts vs) μ l w) (setVars vs l (ρ.forget (wr x))) w := h
      unfold projS at h'
      split at h'
      · rename_i l₀ hl₀
        obtain ⟨I, μ, h0, hround⟩ := h'
        -- the invariant on acts
        let val (a' : Act) (l : List AV) : Prop := SameBut (wr x) a a' ∧ ∃ ρ', Agrees n ρ' a' ∧ projVars vs ρ' = some l
        have uniq : ∀ a' l l', val a' l → val a' l' → l = l' := by
          rintro a' l l' ⟨_, ρ1, ha1, hp1⟩ ⟨_, ρ2, ha2, hp2⟩
          have : ∀ (vs : List (Nat × Ty)) l l', projVars vs ρ1 = some l → projVars vs ρ2 = some l' → l = l' := by
            intro vs
            induction vs with
            | nil => intro l l' h1 h2; exact (Option.some.inj h1).symm.trans (Option.some.inj h2)
            | cons p vs ihv =>
              intro l l' h1 h2
              obtain ⟨t, ty⟩ := p
              simp only [projVars] at h1 h2
              cases e1 : ρ1 t with
              | none => simp [e1] at h1
              | some v1 =>
                cases e2 : ρ2 t with
                | none => simp [e2] at h2
                | some v2 =>
                  have hv : v1 = v2 := by have := ha1.at_ t v1 e1; rw [ha2.at_ t v2 e2] at this; simpa using this.symm
                  subst hv
                  cases q : ty.proj v1 with
                  | none => simp [e1, q] at h1
                  | some x1 =>
                    cases r1 : projVars vs ρ1 with
                    | none => simp [e1, q, r1] at h1
                    | some y1 =>
                      cases r2 : projVars vs ρ2 with
                      | none => simp [e2, q, r2] at h2
                      | some y2 =>
                        simp [e1, e2, q, r1, r2] at h1 h2
                        rw [← h1, ← h2, ihv y1 y2 r1 r2]
          exact this vs l l' hp1 hp2
        refine wp_loop (fun a' w' => ∃ l, val a' l ∧ app False (varsAts vs) I l w')
          (fun a' w' => open Classical in if h : ∃ l, val a' l then app 0 (varsAts vs) μ h.choose w' else 0) ⟨l₀, ⟨.refl _ _, ρ, ha, hl₀⟩, h0⟩ ?_
        rintro a' w' ⟨l, hval, hI⟩
        obtain ⟨hs', ρ', ha', hl⟩ := id hval
        have hμ : ∀ a'' l'' w'', val a'' l'' → (open Classical in if h : ∃ l, val a'' l then app 0 (varsAts vs) μ h.choose w'' else 0) = app 0 (varsAts vs) μ l'' w'' := by
          intro a'' l'' w'' hv
          have hex : ∃ l, val a'' l := ⟨l'', hv⟩
          rw [dif_pos hex, uniq a'' _ _ hex.choose_spec hv]
        have hcw := allA_elim (projVars_typed hl) hround w' hI
        have hag : Agrees n (setVars vs l (ρ.forget (wr x))) a' := setVars_agrees hl ha' (ha.forget hs' ha'.defers ha'.size)
        have hb := (ih (a₀ := a')).1 a1 (wr x) _ _ a' w' (fun _ h => h) (.refl _ _) hag hcw
        refine Code.wp_mono ?_ hb
        intro e a2 w2 hq
        cases e with
        | normal =>
          obtain ⟨hs2, ρ2, ha2, hp⟩ := hq
          simp only [nxt, projS] at hp
          split at hp
          · rename_i l2 hl2
            have hv2 : val a2 l2 := ⟨hs'.trans hs2, ρ2, ha2, hl2⟩
            refine ⟨⟨l2, hv2, hp.1⟩, ?_⟩
            rw [hμ a2 l2 w2 hv2, hμ a' l w' hval]
            exact hp.2
          · exact hp.elim
        | exit id => exact QW_mono (fun b hb => hs.trans ((hs'.trans hb).mono hL)) hq
        | goto l => exact QW_mono (fun b hb => hs.trans ((hs'.trans hb).mono hL)) hq
        | ret => exact QW_mono (fun b hb => hs.trans ((hs'.trans hb).mono hL)) hq
        | panic c => exact hq
        | outgrown => exact hq
      · exact h'.elim
    | auto => exact False.elim h
    | seq _ _ => exact False.elim h
    | cond _ _ => exact False.elim h
    | block _ => exact False.elim h
    | join _ _ _ => exact False.elim h
    | scope _ _ _ _ => exact False.elim h
    | named _ => exact False.elim h
  | exit id =>
    refine ⟨?_, (fun l an L K ρ a w _ _ _ h => h.elim)⟩
    intro an L K ρ a w _ hs ha h; exact wp_exit ⟨hs, ρ, ha, by cases an <;> exact h⟩
  | ret =>
    refine ⟨?_, (fun l an L K ρ a w _ _ _ h => h.elim)⟩
    intro an L K ρ a w _ hs ha h; exact wp_ret ⟨hs, ρ, ha, by cases an <;> exact h⟩
  | rangeFunc f ps as b _ _ =>
    refine ⟨?_, (fun l an L K ρ a w _ _ _ h => h.elim)⟩
    intro an L K ρ a w _ hs ha h; cases an <;> exact False.elim h
  | scope x ih =>
    refine ⟨?_, (fun l an L K ρ a w _ _ _ h => h.elim)⟩
    intro an L K ρ a w hL hs ha h
    cases an with
    | scope lab vs a1 b1 =>
      have h' : cond (onSpine lab x) (∃ (I : Cur Prop (varsAts vs)) (μ : Cur Nat (varsAts vs)), cWf m P n none a1 x (jumpTo lab (fun ρ' w' => projS vs ρ' fun l' => app False (varsAts vs) I l' w') K) ρ w ∧
        allA (varsAts vs) fun v => ∀ w, app False (varsAts vs) I v w →
          cWf m P n (some lab) b1 x (jumpTo lab (fun ρ' w' => projS vs ρ' fun l' => app False (varsAts vs) I l' w' ∧ app 0 (varsAts vs) μ l' w' < app 0 (varsAts vs) μ v w) K) (setVars vs v (ρ.forget (wr x))) w) False := h
      cases hsp : onSpine lab x with
      | false => rw [hsp] at h'; exact h'.elim
      | true =>
        rw [hsp] at h'
        obtain ⟨I, μ, hfirst, hround⟩ := h'
        obtain ⟨rest, hrest⟩ := findLabel_some hsp
        -- the invariant on acts
        let val (a' : Act) (l : List AV) : Prop := SameBut (wr x) a a' ∧ ∃ ρ', Agrees n ρ' a' ∧ projVars vs ρ' = some l
        have uniq : ∀ a' l l', val a' l → val a' l' → l = l' := by
          rintro a' l l' ⟨_, ρ1, ha1, hp1⟩ ⟨_, ρ2, ha2, hp2⟩
          have : ∀ (vs : List (Nat × Ty)) l l', projVars vs ρ1 = some l → projVars vs ρ2 = some l' → l = l' := by
            intro vs
            induction vs with
            | nil => intro l l' h1 h2; exact (Option.some.inj h1).symm.trans (Option.some.inj h2)
            | cons p vs ihv =>
              intro l l' h1 h2
              obtain ⟨t, ty⟩ := p
              simp only [projVars] at h1 h2
              cases e1 : ρ1 t with
              | none => simp [e1] at h1
              | some v1 =>
                cases e2 : ρ2 t with
                | none => simp [e2] at h2
                | some v2 =>
                  have hv : v1 = v2 := by have := ha1.at_ t v1 e1; rw [ha2.at_ t v2 e2] at this; simpa using this.symm
                  subst hv
                  cases q : ty.proj v1 with
                  | none => simp [e1, q] at h1
                  | some x1 =>
                    cases r1 : projVars vs ρ1 with
                    | none => simp [e1, q, r1] at h1
                    | some y1 =>
                      cases r2 : projVars vs ρ2 with
                      | none => simp [e2, q, r2] at h2
                      | some y2 =>
                        simp [e1, e2, q, r1, r2] at h1 h2
                        rw [← h1, ← h2, ihv y1 y2 r1 r2]
          exact this vs l l' hp1 hp2
        have hμ : ∀ a'' l'' w'', val a'' l'' → (open Classical in if h : ∃ l, val a'' l then app 0 (varsAts vs) μ h.choose w'' else 0) = app 0 (varsAts vs) μ l'' w'' := by
          intro a'' l'' w'' hv
          have hex : ∃ l, val a'' l := ⟨l'', hv⟩
          rw [dif_pos hex, uniq a'' _ _ hex.choose_spec hv]
        refine wp_scope_jumps lab (fun a' w' => ∃ l, val a' l ∧ app False (varsAts vs) I l w')
          (fun a' w' => open Classical in if h : ∃ l, val a' l then app 0 (varsAts vs) μ h.choose w' else 0) hrest ?_ ?_
        · refine Code.wp_mono ?_ ((ih (a₀ := a)).1 a1 (wr x) _ ρ a w (fun _ h => h) (.refl _ _) ha hfirst)
          intro e a' w' hq
          cases e with
          | goto m =>
            obtain ⟨hs', ρ', ha', hp⟩ := hq
            simp only [jumpTo] at hp
            cases hm : Nat.beq m lab with
            | false => rw [hm] at hp; exact hp.elim
            | true =>
              rw [hm] at hp
              simp only [cond_true, projS] at hp
              split at hp
              · rename_i l hl
                exact ⟨Nat.eq_of_beq_eq_true hm, l, ⟨hs', ρ', ha', hl⟩, hp⟩
              · exact hp.elim
          | normal => exact QW_mono (fun b hb => hs.trans (hb.mono hL)) hq
          | exit id => exact QW_mono (fun b hb => hs.trans (hb.mono hL)) hq
          | ret => exact QW_mono (fun b hb => hs.trans (hb.mono hL)) hq
          | panic c => exact hq
          | outgrown => exact hq
        · rintro a' w' ⟨l, hval, hI⟩
          obtain ⟨hs', ρ', ha', hl⟩ := id hval
          have hcw := allA_elim (projVars_typed hl) hround w' hI
          have hag : Agrees n (setVars vs l (ρ.forget (wr x))) a' := setVars_agrees hl ha' (ha.forget hs' ha'.defers ha'.size)
          obtain ⟨rest', hr', hb⟩ := (ih (a₀ := a')).2 lab b1 (wr x) _ _ a' w' (fun _ h => h) (.refl _ _) hag hcw
          rw [hrest] at hr'
          cases hr'
          refine Code.wp_mono ?_ hb
          intro e a'' w'' hq
          cases e with
          | goto m =>
            obtain ⟨hs'', ρ'', ha'', hp⟩ := hq
            simp only [jumpTo] at hp
            cases hm : Nat.beq m lab with
            | false => rw [hm] at hp; exact hp.elim
            | true =>
              rw [hm] at hp
              simp only [cond_true, projS] at hp
              split at hp
              · rename_i l2 hl2
                have hv2 : val a'' l2 := ⟨hs'.trans hs'', ρ'', ha'', hl2⟩
                refine ⟨Nat.eq_of_beq_eq_true hm, ⟨l2, hv2, hp.1⟩, ?_⟩
                rw [hμ a'' l2 w'' hv2, hμ a' l w' hval]
                exact hp.2
              · exact hp.elim
          | normal => exact QW_mono (fun b hb => hs.trans ((hs'.trans hb).mono hL)) hq
          | exit id => exact QW_mono (fun b hb => hs.trans ((hs'.trans hb).mono hL)) hq
          | ret => exact QW_mono (fun b hb => hs.trans ((hs'.trans hb).mono hL)) hq
          | panic c => exact hq
          | outgrown => exact hq
    | auto => exact False.elim h
    | seq _ _ => exact False.elim h
    | cond _ _ => exact False.elim h
    | block _ => exact False.elim h
    | loop _ _ => exact False.elim h
    | join _ _ _ => exact False.elim h
    | named _ => exact False.elim h
  | label l =>
    refine ⟨?_, (fun l an L K ρ a w _ _ _ h => h.elim)⟩
    intro an L K ρ a w _ hs ha h; exact wp_label ⟨hs, ρ, ha, by cases an <;> exact h⟩
  | goto l =>
    refine ⟨?_, (fun l an L K ρ a w _ _ _ h => h.elim)⟩
    intro an L K ρ a w _ hs ha h; exact wp_goto ⟨hs, ρ, ha, by cases an <;> exact h⟩
  | refuse s =>
    refine ⟨?_, (fun l an L K ρ a w _ _ _ h => h.elim)⟩
    intro an L K ρ a w _ hs ha h; cases an <;> exact False.elim h

theorem cW_sound {m : Bool} {P : Program} (ok : Okay P) {n : Nat} {a₀ : Act} (c : Code) (an : Ann) (L : List Nat) (K : Exit → Env → World → Prop) (ρ : Env) (a : Act) (w : World)
    (hL : ∀ t, t ∈ wr c → t ∈ L) (hs : SameBut L a₀ a) (ha : Agrees n ρ a) (h : cW m P n an c K ρ w) : c.wp P (QW n L a₀ K) a w := (cWf_sound ok c).1 an L K ρ a w hL hs ha h

/-! ## functions -/
def argEnv : Nat → List Value → Env
  | _, [], _ => none
  | i, v :: vs, t => bif Nat.beq t i then some v else argEnv (i + 1) vs t
def resS (P : Program) (ρ : Env) (w : World) : List ResultVar → (List Value → Prop) → Prop
  | [], k => k []
  | .tmp t :: l, k => (match ρ t with | some v => resS P ρ w l fun vs => k (v :: vs) | none => False)
  | .cell a t :: l, k => (match ρ a with
    | some (.pointer (some ad)) => readT P t (fun ad v => w.cell? ad = some v) ad fun v => resS P ρ w l fun vs => k (v :: vs)
    | _ => False)
def one : List Value → Value
  | [v] => v
  | l => .tuple l.toArray
def fnK (P : Program) (res : List ResultVar) (K : Value → World → Prop) : Exit → Env → World → Prop
  | .normal, ρ, w => resS P ρ w res fun vs => K (one vs) w
  | .ret, ρ, w => resS P ρ w res fun vs => K (one vs) w
  | _, _, _ => False
def nmd : Ann → Bool | .named _ => true | _ => false
def bare : Ann → Ann | .named a => a | a => a
def fnW (P : Program) (fn : Func) (an : Ann) (args : List Value) (w : World) (K : Value → World → Prop) : Prop :=
  match fn.body with
  | some c => cond (Nat.ble args.length fn.ntmps) (cW (nmd an) P fn.ntmps (bare an) c (fnK P fn.results.toList K) (argEnv 0 args) w) False
  | none => False

theorem argEnv_get : ∀ (vs : List Value) (i t : Nat) (v : Value), argEnv i vs t = some v → i ≤ t ∧ vs[t - i]? = some v
  | [], i, t, v, h => by simp [argEnv] at h
  | x :: vs, i, t, v, h => by
    simp only [argEnv] at h
    cases hb : Nat.beq t i with
    | true => have := Nat.eq_of_beq_eq_true hb; subst this; simp [hb] at h; subst h; simp
    | false =>
      have hne := Nat.ne_of_beq_eq_false hb
      simp [hb] at h
      obtain ⟨h1, h2⟩ := argEnv_get vs (i + 1) t v h
      refine ⟨by omega, ?_⟩
      rw [show t - i = (t - (i + 1)) + 1 by omega]
      simpa using h2

def resF (a : Act) : ResultVar → Sem Value
  | .tmp t => pure (a.tmps.getD t undef)
  | .cell ad t => do loadVar t (← asAddr (a.tmps.getD ad undef))
theorem resS_run {P : Program} {n : Nat} {ρ : Env} {a : Act} (ha : Agrees n ρ a) {w : World} : ∀ {l : List ResultVar} {k : List Value → Prop}, resS P ρ w l k →
    ∃ vs, (l.mapM (resF a)).run P w = .ok vs w ∧ k vs
  | [], k, h => ⟨[], rfl, h⟩
  | .tmp t :: l, k, h => by
    simp only [resS] at h
    split at h
    · rename_i v hv
      obtain ⟨vs, hr, hk⟩ := resS_run ha h
      refine ⟨v :: vs, ?_, hk⟩
      have h1 := ha.at_ t v hv
      have e : (resF a (.tmp t)).run P w = .ok v w := by simp [resF, Array.getD_eq_getD_getElem?, h1]
      simp only [List.mapM_cons, Sem.run_bind, e, Sem.run_pure, Result.andThen_ok, hr]
    · exact h.elim
  | .cell ad t :: l, k, h => by
    simp only [resS] at h
    split at h
    · rename_i p hp
      obtain ⟨v, hv, h⟩ := readT_elim h
      obtain ⟨vs, hr, hk⟩ := resS_run ha h
      refine ⟨v :: vs, ?_, hk⟩
      have h1 := ha.at_ ad _ hp
      have hl := hv w (fun _ _ h => h)
      have e : (resF a (.cell ad t)).run P w = .ok v w := by simp [resF, Array.getD_eq_getD_getElem?, h1, asAddr, hl]
      simp only [List.mapM_cons, Sem.run_bind, e, Sem.run_pure, Result.andThen_ok, hr]
    · exact h.elim

theorem fnW_calls {P : Program} (ok : Okay P) {f : FuncId} {fn : Func} (hf : P.funcs[f]? = some fn) {an : Ann} {args : List Value} {w : World} {K : Value → World → Prop}
    (h : fnW P fn an args w K) : CallsV P f args.toArray w K := by
  unfold fnW at h
  split at h
  · rename_i c hc
    cases hle : Nat.ble args.length fn.ntmps with
    | false => rw [hle] at h; exact h.elim
    | true =>
      rw [hle] at h
      have hle' := Nat.le_of_ble_eq_true hle
      refine calls_of_wp hf hc ?_
      have ha : Agrees fn.ntmps (argEnv 0 args) { tmps := args.toArray ++ Array.replicate (fn.ntmps - args.toArray.size) undef, defers := [] } := by
        refine ⟨rfl, by simp; omega, fun t v hv => ?_⟩
        obtain ⟨_, h2⟩ := argEnv_get args 0 t v hv
        have hlt : t < args.length := by
          rcases Nat.lt_or_ge t args.length with h | h
          · exact h
          · rw [List.getElem?_eq_none (by simpa using h)] at h2; cases h2
        rw [Array.getElem?_append_left (by simpa using hlt)]
        simpa using h2
      refine Code.wp_mono ?_ (cW_sound ok (a₀ := _) c (bare an) (wr c) _ _ _ w (fun _ h => h) (.refl _ _) ha h)
      have fin : ∀ (a' : Act) (w' : World), (∃ ρ, Agrees fn.ntmps ρ a' ∧ resS P ρ w' fn.results.toList fun vs => K (one vs) w') →
          a'.defers = [] ∧ ∃ v, (results fn a'.tmps).run P w' = .ok v w' ∧ ∃ u, Ending.returned v = Ending.returned u ∧ K u w' := by
        rintro a' w' ⟨ρ, ha', hr⟩
        obtain ⟨vs, hrun, hK⟩ := resS_run ha' hr
        refine ⟨ha'.defers, one vs, ?_, _, rfl, hK⟩
        have hm : (fn.results.mapM (resF a')).run P w' = .ok vs.toArray w' := by
          rw [Array.mapM_eq_mapM_toList]; simp only [Sem.run_map, hrun, Result.andThen_ok]
        have e : results fn a'.tmps = (do let vs ← fn.results.mapM (resF a'); pure (if h : vs.size = 1 then vs[0] else .tuple vs)) := by
          unfold results; congr 1
        rw [e]
        simp only [Sem.run_bind, hm, Result.andThen_ok, Sem.run_pure]
        congr 1
        match vs with
        | [] => rfl
        | [v] => rfl
        | _ :: _ :: _ => simp [one]
      intro e a' w' hq
      cases e with
      | normal => exact fin a' w' ⟨_, hq.2.choose_spec⟩
      | ret => exact fin a' w' ⟨_, hq.2.choose_spec⟩
      | exit id => obtain ⟨_, ρ, _, h⟩ := hq; exact h.elim
      | goto l => obtain ⟨_, ρ, _, h⟩ := hq; exact h.elim
      | panic c => exact hq.elim
      | outgrown => exact hq.elim
  · exact h.elim

end Go.Sx
