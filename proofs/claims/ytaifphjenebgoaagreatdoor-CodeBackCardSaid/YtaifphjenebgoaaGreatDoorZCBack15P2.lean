/- Part 2 of the texts of this claim: the engine, contracts, plain laws. -/
import Derived.ScopeJumps
import Derived.Test.YtaifphjenebgoaaGreatDoorZCBack15P1
import Derived.Lib.ConvBytes
import Derived.Lib.AppendStr
import Derived.Laws.MakeOwn
import Derived.Laws.BytesArg
import Derived.MapKept
import Derived.Sort.Grow
import Derived.Lib.SlicesCompact
import Derived.WalkKit
import Derived.ProofKit
import Derived.OpenShut
import Derived.Carry
import Derived.Deep.Slices
import Derived.ChangeMaps5
set_option linter.unusedVariables false
set_option linter.unusedSimpArgs false
namespace Go.Sx

/-! ## regions -/
def eqB : Bool → Bool → Bool | true, b => b | false, b => !b
def gd (all : List Oper) (o : Oper) (ρ : Env) : Option Bool :=
  match o.guard with
  | none => some true
  | some (j, want) => match all[j]? with
    | some g => (match g.dst with | some d => (match ρ d with | some (.bool b) => some (eqB b want) | some (.tuple _) => some false | _ => none) | none => none)
    | none => none
def isGuard (i : Nat) : List Oper → Bool
  | [] => false
  | o :: l => match o.guard with | some (j, _) => (bif Nat.beq i j then true else isGuard i l) | none => isGuard i l
def brB (b : Bool) (k : Bool → Prop) : Prop := cond b (k true) (k false)
theorem brB_elim {b : Bool} {k : Bool → Prop} (h : brB b k) : k b := by cases b <;> exact h
def putS (n : Nat) (all : List Oper) (i : Nat) (o : Oper) (v : Value) (ρ : Env) (k : Env → Prop) : Prop :=
  match o.dst with
  | none => k ρ
  | some d => cond (Nat.blt d n) (cond (isGuard i all) (match v with | .bool b => brB b fun b' => k (ρ.set d (some (.bool b'))) | _ => False) (k (ρ.set d (some v)))) False
def skipEnv (n : Nat) (o : Oper) (ρ : Env) : Env := match o.dst with | none => ρ | some d => ρ.set d (bif Nat.blt d n then some undef else none)
theorem putS_elim {n : Nat} {all : List Oper} {i : Nat} {o : Oper} {v : Value} {ρ : Env} {k : Env → Prop} {a : Act} (h : putS n all i o v ρ k) (ha : Agrees n ρ a) :
    ∃ ρ', Agrees n ρ' (a.put o.dst v) ∧ k ρ' := by
  unfold putS at h
  cases hd : o.dst with
  | none => rw [hd] at h; exact ⟨ρ, ha.put0 v, h⟩
  | some d =>
    rw [hd] at h
    simp only at h
    cases hlt : Nat.blt d n with
    | false => rw [hlt] at h; exact h.elim
    | true =>
      rw [hlt] at h
      have hlt' : d < n := by simpa [Nat.blt_eq] using hlt
      cases hg : isGuard i all with
      | false => rw [hg] at h; exact ⟨_, ha.put hlt' v, h⟩
      | true =>
        rw [hg] at h
        simp only [cond_true] at h
        split at h
        · rename_i b; exact ⟨_, ha.put hlt' _, brB_elim h⟩
        · exact h.elim
theorem skip_agrees {n : Nat} {o : Oper} {ρ : Env} {a : Act} (ha : Agrees n ρ a) : Agrees n (skipEnv n o ρ) (a.put o.dst undef) := by
  unfold skipEnv
  cases hd : o.dst with
  | none => exact ha.put0 _
  | some d =>
    cases hlt : Nat.blt d n with
    | true => simp only [hlt, cond_true]; exact ha.put (by simpa [Nat.blt_eq] using hlt) _
    | false => simp only [hlt, cond_false]; exact ha.putNone d _
theorem gd_wanted {n : Nat} {all : List Oper} {o : Oper} {ρ : Env} {a : Act} {b : Bool} (h : gd all o ρ = some b) (ha : Agrees n ρ a) : Region.wanted o (yielded all.toArray a.tmps) = b := by
  unfold gd at h
  unfold Region.wanted
  split at h
  · rename_i hg; rw [hg]; simp at h; simp [h]
  · rename_i j want hg
    rw [hg]
    simp only
    split at h
    · rename_i g hj
      split at h
      · rename_i d hd
        split at h
        · rename_i c hc
          simp only [Option.some.injEq] at h
          have h1 := ha.at_ d _ hc
          have h2 : yielded all.toArray a.tmps j = some c := by
            simp [yielded, hj, hd, h1]
          rw [h2, ← h]
          cases c <;> cases want <;> rfl
        · rename_i vs hc
          simp only [Option.some.injEq] at h
          have h1 := ha.at_ d _ hc
          have h2 : yielded all.toArray a.tmps j = none := by
            simp [yielded, hj, hd, h1]
          rw [h2, ← h]
          rfl
        · cases h
      · cases h
    · cases h

def regW (m : Md) (P : Program) (n : Nat) (all : List Oper) : Nat → List Oper → (Env → World → Prop) → Env → World → Prop
  | _, [], K, ρ, w => K ρ w
  | i, o :: rest, K, ρ, w => match gd all o ρ with
    | some true => opX m P ρ o w fun v w' => putS n all i o v ρ fun ρ' => regW m P n all (i + 1) rest K ρ' w'
    | some false => regW m P n all (i + 1) rest K (skipEnv n o ρ) w
    | none => False

def opDst (o : Oper) : List Nat := match o.dst with | some d => [d] | none => []
def opsDst : List Oper → List Nat
  | [] => []
  | o :: l => opDst o ++ opsDst l
theorem mem_opsDst {o : Oper} {d : Nat} (hd : o.dst = some d) : ∀ {l : List Oper}, o ∈ l → d ∈ opsDst l
  | x :: l, h => by
    rcases List.mem_cons.1 h with rfl | h
    · simp [opsDst, opDst, hd]
    · simp [opsDst, mem_opsDst hd h]
theorem put_same {o : Oper} {l : List Oper} (ho : o ∈ l) (a : Act) (v : Value) : SameBut (opsDst l) a (a.put o.dst v) :=
  .put a (fun t ht => mem_opsDst ht ho) v

def QW (n : Nat) (L : List Nat) (a₀ : Act) (K : Exit → Env → World → Prop) : Exit → Act → World → Prop
  | .panic _, _, _ => False
  | .outgrown, _, _ => False
  | e, a, w => SameBut L a₀ a ∧ ∃ ρ, Agrees n ρ a ∧ K e ρ w

theorem regW_sound {m : Md} {P : Program} (ok : Okay P) {n : Nat} {all : List Oper} {L : List Nat} (hL : ∀ t, t ∈ opsDst all → t ∈ L) {a₀ : Act} {K : Exit → Env → World → Prop} :
    ∀ (rest : List Oper) (i : Nat) (ρ : Env) (a : Act) (w : World), (∀ o ∈ rest, o ∈ all) → SameBut L a₀ a → Agrees n ρ a →
      regW m P n all i rest (K .normal) ρ w → wpList P all.toArray (QW n L a₀ K) rest a w
  | [], i, ρ, a, w, _, hs, ha, h => ⟨hs, ρ, ha, h⟩
  | o :: rest, i, ρ, a, w, hm, hs, ha, h => by
    have hmo : o ∈ all := hm o (by simp)
    have hmr : ∀ x ∈ rest, x ∈ all := fun x hx => hm x (by simp [hx])
    have hput : ∀ v, SameBut L a₀ (a.put o.dst v) := fun v => hs.trans ((put_same hmo a v).mono hL)
    unfold regW at h
    unfold wpList
    split at h
    · rename_i hg
      rw [gd_wanted hg ha]
      simp only [if_true]
      refine .inl (Oper.wp_mono ?_ (opX_does ok ha.ev h).wp)
      rintro a' w' ⟨v, rfl, hv⟩
      obtain ⟨ρ', ha', hk⟩ := putS_elim hv ha
      exact regW_sound ok hL rest (i + 1) ρ' _ w' hmr (hput v) ha' hk
    · rename_i hg
      rw [gd_wanted hg ha]
      simp only [Bool.false_eq_true, if_false]
      exact regW_sound ok hL rest (i + 1) _ _ w hmr (hput _) (skip_agrees ha) h
    · exact h.elim

/-! ## regions whose order is drawn -/
def quietK (P : Program) (o : Oper) : Bool :=
  match o.op with
  | .load _ _ => true
  | .store _ _ _ | .alloc _ | .box _ _ | .buildSlice _ _ _ | .makeSlice _ _ _ | .makeMap _ _ | .lookup _ _ _ _ | .mapUpdate _ _ _ _ | .insert _ _ _ _ => false
  | .convert s d _ => !(isSlc (und P d) || isUns (und P s) || isUns (und P d))
  | .call c => (match c.callee with | .builtin b => !effB P b c.argTypes.toList | _ => false)
  | _ => true
def quietS (P : Program) (ρ : Env) (o : Oper) (S : World → Prop) (K : Value → Prop) : Prop :=
  match o.op with
  | .load t x => (match ev ρ x with | some (.pointer (some a)) => readT P t (fun ad v => ∀ u, S u → u.cell? ad = some v) a K | _ => False)
  | .convert s d x => (if isSlc (und P s) && isStr (und P d)
      then (match ev ρ x with | some v => ∃ r : ByteArray, (∀ u, S u → RunsTo P (convert s d v) u (.string r) u) ∧ K (.string r) | none => False)
      else pureS P ρ o.op K)
  | _ => pureS P ρ o.op K
theorem quietS_yields {P : Program} {ρ : Env} {σ : Operand → Value} (hk : Knows ρ σ) {o : Oper} {S : World → Prop} {K : Value → Prop} (h : quietS P ρ o S K) :
    ∃ v, (∀ w, S w → (execOp σ o).run P w = .ok (.value v) w) ∧ K v := by
  have hp : pureS P ρ o.op K → ∃ v, (∀ w, S w → (execOp σ o).run P w = .ok (.value v) w) ∧ K v := fun h =>
    let ⟨v, hr, hK⟩ := pureS_gives hk h; ⟨v, fun w _ => hr w, hK⟩
  obtain ⟨dst, op, type, pos, after, guard⟩ := o
  unfold quietS at h
  simp only at h
  split at h
  · rename_i t x
    split at h
    · rename_i a ha
      obtain ⟨v, hr, hK⟩ := readT_elim h
      refine ⟨v, fun w hS => ?_, hK⟩
      have := hr w (fun ad u hu => hu w hS)
      simp only [execOp, hk x _ ha, Sem.run_bind, Instr.loadAt, Instr.sureAddr, Sem.run_pure, Result.andThen_ok, this]
    · exact h.elim
  · rename_i s d x
    split at h
    · split at h
      · rename_i v hv
        obtain ⟨r, hr, hK⟩ := h
        refine ⟨.string r, fun w hS => ?_, hK⟩
        have e : (convert s d v).run P w = .ok (.string r) w := hr w hS
        simp only [execOp, hk x _ hv, Sem.run_bind, e, Result.andThen_ok, Sem.run_pure]
      · exact h.elim
    · exact hp h
  · exact hp h

structure LO where
  dst : Option Nat
  looks : List Nat
  aft : List Nat
  q : Bool
def tmpsL : List Operand → List Nat
  | [] => []
  | .tmp t :: l => t :: tmpsL l
  | _ :: l => tmpsL l
def operL : Op → List Operand
  | .alloc _ | .ready _ | .waits _ => []
  | .move x | .assign x | .box _ x | .load _ x | .nilCheck x | .unOp _ _ x | .convert _ _ x | .sliceToArrayPointer _ x | .makeInterface _ x
  | .makeChan _ x | .fieldAddr _ x _ | .field _ x _ | .range _ x | .next x _ | .entry x | .typeAssert x _ _ _ | .extract x _ | .panic x | .recv _ x _ => [x]
  | .pick c a b => [c, a, b]
  | .build _ ps | .buildSlice _ _ ps => ps.toList.map (·.2)
  | .store _ a v | .binOp _ _ a v _ | .makeSlice _ a v | .indexAddr _ a v | .index _ a v | .lookup _ a v _ | .mapEntry _ a v | .send a v => [a, v]
  | .makeFunc _ first captured => first.toList ++ captured.toList
  | .makeMap _ r => r.toList
  | .slice _ x l h m => x :: (l.toList ++ (h.toList ++ m.toList))
  | .mapUpdate _ m k v | .entryStore _ m k v | .insert _ m k v => [m, k, v]
  | .call c | .go c | .defer c => (match c.callee with | .value f => f :: c.args.toList | .invoke r _ => r :: c.args.toList | .builtin _ => c.args.toList)
  | .select cs _ => (cs.flatMap fun c => #[c.chan] ++ c.send.toArray).toList
theorem operL_eq (o : Op) : o.operands.toList = operL o := by
  cases o <;> simp only [Op.operands, operL, Call.operands] <;> first | rfl | (simp; done) | (rename_i c; cases c.callee <;> simp) | skip
  all_goals (rename_i c; obtain ⟨callee, args, ts⟩ := c; cases callee <;> simp)
theorem tmpsL_eq : ∀ l : List Operand, l.filterMap (fun | .tmp t => some t | _ => none) = tmpsL l
  | [] => rfl
  | x :: l => by cases x <;> simp [tmpsL, tmpsL_eq l]
def bindsE (e : Edge) : Bool := match e.ground with | .textOnly _ => false | .gcOnly _ => false | _ => true
theorem bindsE_eq (e : Edge) : Region.binds .any e = bindsE e := by obtain ⟨on, g⟩ := e; cases g <;> rfl
def aftL : List Edge → List Nat
  | [] => []
  | e :: l => bif bindsE e then e.on :: aftL l else aftL l
def lightOf (P : Program) (all : List Oper) : List Oper → List LO
  | [] => []
  | o :: l => { dst := o.dst, looks := tmpsL (operL o.op) ++ (match o.guard with | some (g, _) => (match all[g]? with | some x => x.dst.toList | none => []) | none => []), aft := aftL o.after.toList, q := quietK P o } :: lightOf P all l
def nthB : List Bool → Nat → Bool → Bool
  | [], _, d => d
  | b :: _, 0, _ => b
  | _ :: l, n + 1, d => nthB l n d
def allOn (listed : List Bool) : List Nat → Bool
  | [] => true
  | j :: l => bif nthB listed j false then allOn listed l else false
def readyL (listed : List Bool) : Nat → List LO → List Bool → List Nat
  | _, [], _ => []
  | _, _ :: _, [] => []
  | i, x :: xs, b :: bs => bif b then readyL listed (i + 1) xs bs else bif allOn listed x.aft then i :: readyL listed (i + 1) xs bs else readyL listed (i + 1) xs bs
def eqO : Option Nat → Nat → Bool
  | none, _ => false
  | some x, d => Nat.beq x d
def apartL (x y : LO) : Bool :=
  (match x.dst with | some d => bif memNat d y.looks then false else bif eqO y.dst d then false else true | none => true) &&
  (match y.dst with | some d => bif memNat d x.looks then false else true | none => true)
def freeL (x : LO) (i : Nat) : Nat → List LO → List Bool → Bool
  | _, [], _ => true
  | _, _ :: _, [] => true
  | j, y :: ys, b :: bs => bif b then freeL x i (j + 1) ys bs else bif Nat.beq j i then freeL x i (j + 1) ys bs else bif memNat i y.aft then freeL x i (j + 1) ys bs else bif apartL x y then freeL x i (j + 1) ys bs else false
def markL : Nat → List Bool → List Bool
  | _, [] => []
  | 0, _ :: l => true :: l
  | n + 1, b :: l => b :: markL n l
def findTake (L : List LO) (listed : List Bool) : List Nat → Option Nat
  | [] => none
  | i :: l => match L[i]? with
    | some x => bif x.q then (bif freeL x i 0 L listed then some i else findTake L listed l) else findTake L listed l
    | none => findTake L listed l
def allL {α : Type} : List α → (α → Prop) → Prop
  | [], _ => True
  | [x], p => p x
  | x :: l, p => p x ∧ allL l p
theorem allL_elim {α : Type} : ∀ {l : List α} {p : α → Prop}, allL l p → ∀ x ∈ l, p x
  | [x], p, h, y, hy => by simp at hy; subst hy; exact h
  | x :: z :: l, p, h, y, hy => by
    rcases List.mem_cons.1 hy with rfl | hy
    · exact h.1
    · exact allL_elim h.2 y hy

theorem nthB_eq : ∀ (l : List Bool) (n : Nat) (d : Bool), nthB l n d = l.toArray.getD n d
  | [], n, d => by simp [nthB]
  | b :: l, 0, d => by simp [nthB]
  | b :: l, n + 1, d => by have := nthB_eq l n d; simp [nthB, this]
theorem markL_eq : ∀ (n : Nat) (l : List Bool), (markL n l).toArray = l.toArray.setIfInBounds n true
  | n, [] => by cases n <;> simp [markL]
  | 0, b :: l => by simp [markL]
  | n + 1, b :: l => by have := markL_eq n l; simp [markL] at this ⊢; exact this
theorem markL_length : ∀ (n : Nat) (l : List Bool), (markL n l).length = l.length
  | n, [] => by cases n <;> rfl
  | 0, b :: l => rfl
  | n + 1, b :: l => by simp [markL, markL_length n l]
theorem allOn_eq (listed : List Bool) : ∀ es : List Edge, allOn listed (aftL es) = es.all fun e => !Region.binds .any e || listed.toArray.getD e.on false
  | [] => rfl
  | e :: es => by
    have ih := allOn_eq listed es
    rw [List.all_cons, ← ih, bindsE_eq]
    have e0 : aftL (e :: es) = bif bindsE e then e.on :: aftL es else aftL es := rfl
    rw [e0]
    cases hb : bindsE e with
    | false => simp only [cond_false, Bool.not_false, Bool.true_or, Bool.true_and]
    | true => simp only [cond_true, allOn, nthB_eq, Bool.not_true, Bool.false_or]; cases listed.toArray.getD e.on false <;> rfl
theorem lightOf_get {P : Program} {all : List Oper} : ∀ (l : List Oper) (i : Nat), (lightOf P all l)[i]? = l[i]?.map fun o => { dst := o.dst, looks := tmpsL (operL o.op) ++ (match o.guard with | some (g, _) => (match all[g]? with | some x => x.dst.toList | none => []) | none => []), aft := aftL o.after.toList, q := quietK P o }
  | [], i => by simp [lightOf]
  | o :: l, 0 => by simp [lightOf]
  | o :: l, i + 1 => by simp [lightOf, lightOf_get l i]
theorem ready_eq {P : Program} {ops : List Oper} {listed : List Bool} (hl : listed.length = ops.length) :
    Region.ready .any ops.toArray listed.toArray = readyL listed 0 (lightOf P ops ops) listed := by
  unfold Region.ready
  suffices H : ∀ (l : List Oper) (bs : List Bool) (i : Nat), l.length = bs.length → (∀ j, ops[i + j]? = l[j]?) → (∀ j, listed[i + j]? = bs[j]?) →
      (List.range' i l.length).filter (fun i => !listed.toArray.getD i true && ((ops.toArray[i]?).map (·.after.all fun e => !Region.binds .any e || listed.toArray.getD e.on false)).getD false) = readyL listed i (lightOf P ops l) bs by
    have := H ops listed 0 hl.symm (by simp) (by simp)
    rw [← this, List.range_eq_range']
    simp
  intro l
  induction l with
  | nil => intro bs i h _ _; simp [lightOf, readyL]
  | cons o l ih =>
    intro bs i h ho hb
    cases bs with
    | nil => simp at h
    | cons b bs =>
      have ih' := ih bs (i + 1) (by simpa using h) (fun j => by have := ho (j + 1); simpa [Nat.add_assoc, Nat.add_comm 1] using this) (fun j => by have := hb (j + 1); simpa [Nat.add_assoc, Nat.add_comm 1] using this)
      have h0 : ops[i]? = some o := by simpa using ho 0
      have h1 : listed.toArray.getD i true = b := by have := hb 0; simp at this; simp [Array.getD_eq_getD_getElem?, this]
      have h2 : (o.after.all fun e => !Region.binds .any e || listed.toArray.getD e.on false) = allOn listed (aftL o.after.toList) := by
        rw [allOn_eq, ← Array.all_toList]
      have h0' : ops.toArray[i]? = some o := by simpa using h0
      simp only [List.length_cons, List.range'_succ, List.filter_cons, lightOf, readyL, h1, h0', Option.map_some, Option.getD_some, h2]
      rw [ih']
      cases b <;> cases allOn listed (aftL o.after.toList) <;> simp
theorem apartL_apart {P : Program} {ops : List Oper} {x y : Oper} {i j : Nat} {lx ly : LO} (hx : ops[i]? = some x) (hy : ops[j]? = some y) (h1 : (lightOf P ops ops)[i]? = some lx) (h2 : (lightOf P ops ops)[j]? = some ly)
    (h : apartL lx ly = true) : x.apart ops.toArray y = true := by
  rw [lightOf_get, hx] at h1; rw [lightOf_get, hy] at h2
  simp only [Option.map_some, Option.some.injEq] at h1 h2
  subst h1; subst h2
  have looks : ∀ z : Oper, z.looksAt ops.toArray = tmpsL (operL z.op) ++ (match z.guard with | some (g, _) => (match ops[g]? with | some x => x.dst.toList | none => []) | none => []) := by
    intro z
    unfold Oper.looksAt
    rw [operL_eq]
    congr 1
    · exact tmpsL_eq _
    · cases z.guard with
      | none => rfl
      | some p => obtain ⟨g, b⟩ := p; simp only [List.getElem?_toArray]; cases ops[g]? <;> simp
  unfold Oper.apart
  rw [looks x, looks y]
  unfold apartL at h
  simp only [Bool.and_eq_true] at h
  obtain ⟨ha, hb⟩ := h
  have mem : ∀ (d : Nat) (l : List Nat), l.contains d = memNat d l := fun d l => by
    cases hm : memNat d l with
    | true => simpa using memNat_iff.1 hm
    | false => simp; intro hc; rw [memNat_iff.2 hc] at hm; cases hm
  simp only [Bool.and_eq_true]
  refine ⟨?_, ?_⟩
  · cases hd : x.dst with
    | none => rfl
    | some d =>
      simp only [hd] at ha
      simp only [mem]
      cases hm : memNat d (tmpsL (operL y.op) ++ (match y.guard with | some (g, _) => (match ops[g]? with | some x => x.dst.toList | none => []) | none => [])) with
      | true => rw [hm] at ha; simp at ha
      | false =>
        rw [hm] at ha
        simp only [cond_false] at ha
        cases hy' : y.dst with
        | none => simp
        | some d' =>
          rw [hy'] at ha
          simp only [eqO] at ha
          cases hq : Nat.beq d' d with
          | true => rw [hq] at ha; simp at ha
          | false => have := Nat.ne_of_beq_eq_false hq; simp [this]
  · cases hd : y.dst with
    | none => rfl
    | some d =>
      simp only [hd] at hb
      simp only [mem]
      cases hm : memNat d (tmpsL (operL x.op) ++ (match x.guard with | some (g, _) => (match ops[g]? with | some x => x.dst.toList | none => []) | none => [])) with
      | true => rw [hm] at hb; simp at hb
      | false => rfl
theorem mem_aftL {i : Nat} : ∀ {es : List Edge}, i ∈ aftL es → ∃ e ∈ es, Region.binds .any e = true ∧ e.on = i
  | e :: es, h => by
    unfold aftL at h
    cases hb : bindsE e with
    | true =>
      rw [hb] at h
      rcases List.mem_cons.1 h with h | h
      · exact ⟨e, by simp, by rw [bindsE_eq]; exact hb, h.symm⟩
      · obtain ⟨e', he, hx⟩ := mem_aftL h; exact ⟨e', by simp [he], hx⟩
    | false => rw [hb] at h; obtain ⟨e', he, hx⟩ := mem_aftL h; exact ⟨e', by simp [he], hx⟩
theorem freeL_free {P : Program} {ops : List Oper} {listed : List Bool} (hl : listed.length = ops.length) {i : Nat} {oi : Oper} {x : LO} (hi : ops[i]? = some oi) (hx : (lightOf P ops ops)[i]? = some x)
    (h : freeL x i 0 (lightOf P ops ops) listed = true) : Region.free .any ops.toArray listed.toArray i = true := by
  have H : ∀ (ys : List LO) (bs : List Bool) (j0 : Nat), freeL x i j0 ys bs = true → ∀ j y, ys[j]? = some y → bs[j]? = some false → j0 + j ≠ i → i ∉ y.aft → apartL x y = true := by
    intro ys
    induction ys with
    | nil => intro bs j0 _ j y hy; simp at hy
    | cons z ys ih =>
      intro bs j0 hf j y hy hb hne hna
      cases bs with
      | nil => simp at hb
      | cons b bs =>
        unfold freeL at hf
        cases j with
        | zero =>
          simp at hy hb; subst hy; subst hb
          simp only [cond_false] at hf
          have : Nat.beq j0 i = false := by cases hq : Nat.beq j0 i with | true => exact absurd (Nat.eq_of_beq_eq_true hq) (by simpa using hne) | false => rfl
          rw [this] at hf
          simp only [cond_false] at hf
          have hm : memNat i z.aft = false := by cases hq : memNat i z.aft with | true => exact absurd (memNat_iff.1 hq) hna | false => rfl
          rw [hm] at hf
          simp only [cond_false] at hf
          cases ha : apartL x z with | true => rfl | false => rw [ha] at hf; simp at hf
        | succ j =>
          simp at hy hb
          have hf' : freeL x i (j0 + 1) ys bs = true := by
            cases b with
            | true => simpa using hf
            | false =>
              simp only [cond_false] at hf
              cases h1 : Nat.beq j0 i with
              | true => rw [h1] at hf; simpa using hf
              | false =>
                rw [h1] at hf
                simp only [cond_false] at hf
                cases h2 : memNat i z.aft with
                | true => rw [h2] at hf; simpa using hf
                | false =>
                  rw [h2] at hf
                  simp only [cond_false] at hf
                  cases h3 : apartL x z with | true => rw [h3] at hf; simpa using hf | false => rw [h3] at hf; simp at hf
          exact ih bs (j0 + 1) hf' j y hy hb (by omega) hna
  unfold Region.free
  simp only [List.getElem?_toArray, hi, List.all_eq_true, List.mem_range, List.size_toArray]
  intro j hj
  simp only [Bool.or_eq_true]
  by_cases hji : j = i
  · exact .inl (.inl (by simp [hji]))
  · have hjo : ops[j]? = some ops[j] := by simp [hj]
    cases hb : listed.toArray.getD j true with
    | true => exact .inl (.inr rfl)
    | false =>
      right
      rw [hjo]
      simp only [Bool.or_eq_true]
      by_cases hm : i ∈ aftL ops[j].after.toList
      · left
        obtain ⟨e, he, h1, h2⟩ := mem_aftL hm
        exact Array.any_eq_true'.2 ⟨e, by simpa using he, by simp [h1, h2]⟩
      · right
        have hly : (lightOf P ops ops)[j]? = some { dst := ops[j].dst, looks := tmpsL (operL ops[j].op) ++ (match ops[j].guard with | some (g, _) => (match ops[g]? with | some x => x.dst.toList | none => []) | none => []), aft := aftL ops[j].after.toList, q := quietK P ops[j] } := by rw [lightOf_get, hjo]; rfl
        have hbj : listed[j]? = some false := by
          have hlt : j < listed.length := by omega
          rw [Array.getD_eq_getD_getElem?, List.getElem?_toArray] at hb
          simp [hlt] at hb ⊢; exact hb
        exact apartL_apart hi hjo hx hly (H _ _ 0 h j _ hly hbj (by omega) hm)

def noSel : List Oper → Bool
  | [] => true
  | o :: l => match o.op with | .select _ _ => false | _ => noSel l
theorem noSel_all : ∀ {l : List Oper}, noSel l = true → (l.all fun o => match o.op with | .select .. => false | _ => true) = true
  | [], _ => rfl
  | o :: l, h => by
    obtain ⟨dst, op, type, pos, after, guard⟩ := o
    simp only [List.all_cons, Bool.and_eq_true]
    cases op <;> simp only [noSel] at h <;> first | (cases h; done) | exact ⟨rfl, noSel_all h⟩
theorem noSel_eq {l : List Oper} (h : noSel l = true) : Region.noSelect l.toArray = true := by
  have := noSel_all h
  unfold Region.noSelect
  rw [← Array.all_toList]
  exact this

def falses : List Oper → List Bool
  | [] => []
  | _ :: l => false :: falses l
def drW (m : Md) (P : Program) (n : Nat) (ops : List Oper) (L : List LO) (K : Env → World → Prop) : List Oper → List Bool → (World → Prop) → Env → World → Prop
  | [], listed, S, ρ, w => (match readyL listed 0 L listed with | [] => K ρ w | _ => False)
  | _ :: fuel, listed, S, ρ, w =>
    match readyL listed 0 L listed with
    | [] => K ρ w
    | i0 :: more =>
      match findTake L listed (i0 :: more) with
      | some i => (match ops[i]? with
        | some o => (match gd ops o ρ with
          | some true => quietS P ρ o S fun v => putS n ops i o v ρ fun ρ' => drW m P n ops L K fuel (markL i listed) S ρ' w
          | some false => drW m P n ops L K fuel (markL i listed) S (skipEnv n o ρ) w
          | none => False)
        | none => False)
      | none => allL (i0 :: more) fun i => (match ops[i]? with
        | some o => (match gd ops o ρ with
          | some true => opX m P ρ o w fun v w' => putS n ops i o v ρ fun ρ' => ∃ S' : World → Prop, (∀ u, S' u → S u) ∧ S' w' ∧ drW m P n ops L K fuel (markL i listed) S' ρ' w'
          | some false => drW m P n ops L K fuel (markL i listed) S (skipEnv n o ρ) w
          | none => False)
        | none => False)

theorem wpAnyH_weaken {P : Program} {md : Region.Mode} {ops : Array Oper} {Q : Exit → Act → World → Prop} {S S' : World → Prop} (hS : ∀ w, S' w → S w) :
    ∀ (fuel : Nat) (listed : Array Bool) (a : Act) (w : World), wpAnyH P md ops Q S' fuel listed a w → wpAnyH P md ops Q S fuel listed a w
  | 0, _, _, _, h => h
  | fuel + 1, listed, a, w, h => ⟨h.1, fun i hi => wpOp_mono (fun a' w' h' => ⟨hS _ h'.1, wpAnyH_weaken hS fuel _ a' w' h'.2⟩) (h.2 i hi)⟩

theorem findTake_spec {L : List LO} {listed : List Bool} : ∀ {l : List Nat} {i : Nat}, findTake L listed l = some i → i ∈ l ∧ ∃ x, L[i]? = some x ∧ freeL x i 0 L listed = true
  | j :: l, i, h => by
    simp only [findTake] at h
    split at h
    · rename_i x hx
      cases hq : x.q with
      | false => rw [hq] at h; simp at h; obtain ⟨h1, h2⟩ := findTake_spec h; exact ⟨by simp [h1], h2⟩
      | true =>
        rw [hq] at h
        simp only [cond_true] at h
        cases hc : freeL x j 0 L listed with
        | true => rw [hc] at h; simp at h; subst h; exact ⟨by simp, x, hx, hc⟩
        | false => rw [hc] at h; simp at h; obtain ⟨h1, h2⟩ := findTake_spec h; exact ⟨by simp [h1], h2⟩
    · obtain ⟨h1, h2⟩ := findTake_spec h; exact ⟨by simp [h1], h2⟩

theorem drW_sound {m : Md} {P : Program} (ok : Okay P) {n : Nat} {ops : List Oper} (hsel : Region.noSelect ops.toArray = true) {L : List Nat} (hL : ∀ t, t ∈ opsDst ops → t ∈ L) {a₀ : Act} {K : Exit → Env → World → Prop} :
    ∀ (fl : List Oper) (listed : List Bool) (S : World → Prop) (ρ : Env) (a : Act) (w : World), listed.length = ops.length → SameBut L a₀ a → Agrees n ρ a → S w →
      drW m P n ops (lightOf P ops ops) (K .normal) fl listed S ρ w → wpAnyH P .any ops.toArray (QW n L a₀ K) S fl.length listed.toArray a w
  | [], listed, S, ρ, a, w, hl, hs, ha, hS, h => by
    have hr0 := ready_eq (P := P) hl
    unfold drW at h
    split at h
    · rename_i hr; exact ⟨hr0.trans hr, hs, ρ, ha, h⟩
    · exact h.elim
  | _ :: fl, listed, S, ρ, a, w, hl, hs, ha, hS, h => by
    have hr0 := ready_eq (P := P) hl
    have hmem : ∀ {i : Nat} {o : Oper}, ops[i]? = some o → o ∈ ops := fun {i o} hi => List.mem_of_getElem? hi
    have hput : ∀ {i : Nat} {o : Oper} (_ : ops[i]? = some o) v, SameBut L a₀ (a.put o.dst v) := fun hi v => hs.trans ((put_same (hmem hi) a v).mono hL)
    unfold drW at h
    split at h
    · rename_i hr
      exact wpAnyH_done (hr0.trans hr) ⟨hs, ρ, ha, h⟩ _
    · rename_i i0 more hr
      have hrr := hr0.trans hr
      split at h
      · rename_i i hf
        obtain ⟨hi, x, hx, hfx⟩ := findTake_spec hf
        split at h
        · rename_i o ho
          have hfree := freeL_free hl ho hx hfx
          have ho' : ops.toArray[i]? = some o := by simpa using ho
          split at h
          · rename_i hg
            obtain ⟨v, hy, hv⟩ := quietS_yields ha.ev h
            obtain ⟨ρ', ha', hk⟩ := putS_elim hv ha
            have hw := gd_wanted hg ha
            refine wpAnyH_take ho' hsel hfree (by rw [hrr]; simpa using hi) (fun _ _ _ q => q.elim) (.inl ⟨hw, hy⟩) hS ?_
            rw [← markL_eq]
            exact drW_sound ok hsel hL fl _ S ρ' _ w (by rw [markL_length]; exact hl) (hput ho v) ha' hS hk
          · rename_i hg
            have hw := gd_wanted hg ha
            refine wpAnyH_take ho' hsel hfree (by rw [hrr]; simpa using hi) (fun _ _ _ q => q.elim) (.inr ⟨hw, rfl⟩) hS ?_
            rw [← markL_eq]
            exact drW_sound ok hsel hL fl _ S _ _ w (by rw [markL_length]; exact hl) (hput ho _) (skip_agrees ha) hS h
          · exact h.elim
        · exact h.elim
      · refine wpAnyH_all hrr (by simp) fun i hi => ?_
        have h := allL_elim h i hi
        unfold wpOp
        split at h
        · rename_i o ho
          have ho' : ops.toArray[i]? = some o := by simpa using ho
          rw [ho']
          simp only
          split at h
          · rename_i hg
            have hw := gd_wanted hg ha
            rw [hw]
            simp only [if_true]
            refine .inl (Oper.wp_mono ?_ (opX_does ok ha.ev h).wp)
            rintro a' w' ⟨v, rfl, hv⟩
            obtain ⟨ρ', ha', S', hSS, hS', hk⟩ := putS_elim hv ha
            rw [← markL_eq]
            exact ⟨hSS _ hS', wpAnyH_weaken hSS _ _ _ _ (drW_sound ok hsel hL fl _ S' ρ' _ w' (by rw [markL_length]; exact hl) (hput ho v) ha' hS' hk)⟩
          · rename_i hg
            have hw := gd_wanted hg ha
            rw [hw]
            simp only [Bool.false_eq_true, if_false]
            rw [← markL_eq]
            exact ⟨hS, drW_sound ok hsel hL fl _ S _ _ w (by rw [markL_length]; exact hl) (hput ho _) (skip_agrees ha) hS h⟩
          · exact h.elim
        · exact h.elim

/-! ## regions whose order is drawn, a reading's condition asked as long as it may still be due -/
def waitsOn (md : Region.Mode) (o : Oper) (q : Nat) : Bool := o.after.any fun e => Region.binds md e && e.on == q
def keepAt (md : Region.Mode) (ops : Array Oper) (i : Nat) (T : List (Nat × (World → Prop))) : List (Nat × (World → Prop)) :=
  match ops[i]? with
  | some o => T.filter fun p => !waitsOn md o p.1
  | none => T
def wpAnyT (P : Program) (md : Region.Mode) (ops : Array Oper) (Q : Exit → Act → World → Prop) : List (Nat × (World → Prop)) → Nat → Array Bool → Act → World → Prop
  | _, 0, listed, a, w => Region.ready md ops listed = [] ∧ Q .normal a w
  | T, fuel + 1, listed, a, w => (Region.ready md ops listed = [] → Q .normal a w) ∧
      ∀ i ∈ Region.ready md ops listed, wpOp P ops Q i (fun a' w' => (∀ p ∈ keepAt md ops i T, p.2 w') ∧ wpAnyT P md ops Q (keepAt md ops i T) fuel (listed.setIfInBounds i true) a' w') a w
theorem wpAny_of_T {P : Program} {md : Region.Mode} {ops : Array Oper} {Q : Exit → Act → World → Prop} : ∀ (fuel : Nat) (T : List (Nat × (World → Prop))) (listed : Array Bool) (a : Act) (w : World), wpAnyT P md ops Q T fuel listed a w → wpAny P md ops Q fuel listed a w
  | 0, _, _, _, _, h => h
  | fuel + 1, _, _, _, _, h => ⟨h.1, fun i hi => wpOp_mono (fun a' w' h' => wpAny_of_T fuel _ _ a' w' h'.2) (h.2 i hi)⟩
theorem keepAt_sub {md : Region.Mode} {ops : Array Oper} {i : Nat} {T T' : List (Nat × (World → Prop))} (h : ∀ p ∈ T', p ∈ T ∨ ∀ w, p.2 w) : ∀ p ∈ keepAt md ops i T', p ∈ keepAt md ops i T ∨ ∀ w, p.2 w := by
  unfold keepAt
  split
  · intro p hp
    obtain ⟨hp, hw⟩ := List.mem_filter.1 hp
    exact (h p hp).imp (fun hm => List.mem_filter.2 ⟨hm, hw⟩) id
  · exact h
theorem wpAnyT_sub {P : Program} {md : Region.Mode} {ops : Array Oper} {Q : Exit → Act → World → Prop} : ∀ (fuel : Nat) (T T' : List (Nat × (World → Prop))) (listed : Array Bool) (a : Act) (w : World), (∀ p ∈ T', p ∈ T ∨ ∀ w, p.2 w) → wpAnyT P md ops Q T fuel listed a w → wpAnyT P md ops Q T' fuel listed a w
  | 0, _, _, _, _, _, _, h => h
  | fuel + 1, T, T', _, _, _, hT, h => ⟨h.1, fun i hi => wpOp_mono (fun a' w' h' => ⟨fun p hp => (keepAt_sub hT p hp).elim (h'.1 p) (fun hw => hw w'), wpAnyT_sub fuel _ _ _ a' w' (keepAt_sub hT) h'.2⟩) (h.2 i hi)⟩
theorem keepAt_mem {md : Region.Mode} {ops : Array Oper} {i : Nat} {T : List (Nat × (World → Prop))} {p : Nat × (World → Prop)} (h : p ∈ keepAt md ops i T) : p ∈ T := by
  unfold keepAt at h
  split at h
  · exact (List.mem_filter.1 h).1
  · exact h
theorem wpAnyT_first {P : Program} {md : Region.Mode} {ops : Array Oper} {Q : Exit → Act → World → Prop} {i : Nat} {oi : Oper} {v : Value} {S : World → Prop} (hi : ops[i]? = some oi) (hsel : ∀ (j : Nat) (o : Oper) cs b, ops[j]? = some o → o.op ≠ .select cs b)
    (hQ : ∀ c a w, Q (.panic c) (a.put oi.dst v) w → Q (.panic c) a w) :
    ∀ (fuel : Nat) (T : List (Nat × (World → Prop))) (listed : Array Bool) (a : Act) (w : World),
      (∀ j oj, ops[j]? = some oj → j ≠ i → listed.getD j true = false → (∀ e ∈ oj.after, Region.binds md e = true → e.on ≠ i) → oi.apart ops oj = true) →
      i ∈ Region.ready md ops listed → YieldsIf P ops S oi v a → S w → (∀ p ∈ T, p.2 w) →
      wpAnyT P md ops Q ((i, S) :: T) fuel (listed.setIfInBounds i true) (a.put oi.dst v) w → wpAnyT P md ops Q T (fuel + 1) listed a w := by
  have base : ∀ (fuel : Nat) (T : List (Nat × (World → Prop))) (listed : Array Bool) (a : Act) (w : World), YieldsIf P ops S oi v a → S w → (∀ p ∈ T, p.2 w) → wpAnyT P md ops Q ((i, S) :: T) fuel (listed.setIfInBounds i true) (a.put oi.dst v) w →
      wpOp P ops Q i (fun a' w' => (∀ p ∈ keepAt md ops i T, p.2 w') ∧ wpAnyT P md ops Q (keepAt md ops i T) fuel (listed.setIfInBounds i true) a' w') a w := by
    intro fuel T listed a w hy hS hT H
    refine hy.wpOp hi hS ⟨fun p hp => hT p (keepAt_mem hp), wpAnyT_sub _ _ _ _ _ _ (fun p hp => .inl (List.mem_cons.2 (.inr (keepAt_mem hp)))) H⟩
  intro fuel
  induction fuel with
  | zero =>
    intro T listed a w _ hr hy hS hT H
    refine ⟨fun h => (by rw [h] at hr; cases hr), fun j hj => ?_⟩
    by_cases hji : j = i
    · subst hji; exact base 0 T listed a w hy hS hT H
    · have := ready_mono hj hji
      rw [H.1] at this
      cases this
  | succ fuel ih =>
    intro T listed a w hfree hr hy hS hT H
    refine ⟨fun h => (by rw [h] at hr; cases hr), fun j hj => ?_⟩
    by_cases hji : j = i
    · subst hji; exact base _ T listed a w hy hS hT H
    · have h1 := H.2 j (ready_mono hj hji)
      obtain ⟨hjun, oj, hoj, hall⟩ := mem_ready.1 hj
      have hnot : ∀ e ∈ oj.after, Region.binds md e = true → e.on ≠ i := fun e he hb heq => by
        have h1 := hall e he hb
        have h0 := (mem_ready.1 hr).1
        rw [heq] at h1
        rcases Nat.lt_or_ge i listed.size with h' | h'
        · simp [h'] at h0 h1; rw [h0] at h1; cases h1
        · simp [Array.getElem?_eq_none h'] at h1
      have hkeep : keepAt md ops j ((i, S) :: T) = (i, S) :: keepAt md ops j T := by
        unfold keepAt
        rw [hoj]
        dsimp only
        rw [List.filter_cons_of_pos]
        have : waitsOn md oj i = false := by
          unfold waitsOn
          rw [Array.any_eq_false]
          intro k hk
          have := hnot oj.after[k] (by simp) 
          simp only [Bool.and_eq_true, beq_iff_eq, not_and]
          exact this
        simp [this]
      rw [hkeep] at h1
      have h2 := wpOp_putIf hoj (hfree j oj hoj hji hjun hnot) (fun cs b => hsel i oi cs b hi) (fun cs b => hsel j oj cs b hoj) hQ hy h1
      have hfree' : ∀ k ok, ops[k]? = some ok → k ≠ i → (listed.setIfInBounds j true).getD k true = false →
          (∀ e ∈ ok.after, Region.binds md e = true → e.on ≠ i) → oi.apart ops ok = true := fun k ok hk hki hun hno => by
        refine hfree k ok hk hki ?_ hno
        by_cases hjk : j = k
        · subst hjk; exact hjun
        · rw [getD_set_ne true hjk] at hun; exact hun
      refine wpOp_mono (fun a' w' h3 => ⟨fun p hp => h3.2.1 p (List.mem_cons.2 (.inr hp)), ih (keepAt md ops j T) (listed.setIfInBounds j true) a' w' hfree' (ready_mono hr (Ne.symm hji)) h3.1 (h3.2.1 _ (List.mem_cons.2 (.inl rfl))) (fun p hp => h3.2.1 p (List.mem_cons.2 (.inr hp))) ?_⟩) h2
      rw [Array.setIfInBounds_comm _ _ hji]
      exact h3.2.2

def waitsL : List Edge → Nat → Bool
  | [], _ => false
  | e :: l, q => bif bindsE e then (bif Nat.beq e.on q then true else waitsL l q) else waitsL l q
theorem waitsL_eq (o : Oper) (q : Nat) : waitsL o.after.toList q = waitsOn .any o q := by
  have h : ∀ l : List Edge, waitsL l q = l.any fun e => Region.binds .any e && e.on == q := by
    intro l
    induction l with
    | nil => rfl
    | cons e l ih =>
      rw [waitsL, List.any_cons, bindsE_eq, ih]
      cases bindsE e
      · rfl
      · simp only [cond_true, Bool.true_and]
        by_cases he : e.on = q
        · simp [he]
        · have : Nat.beq e.on q = false := by
            cases hb : Nat.beq e.on q with
            | false => rfl
            | true => exact absurd (Nat.eq_of_beq_eq_true hb) he
          simp [this, he]
  rw [h, waitsOn, ← Array.any_toList]
abbrev Grp := List Nat × (World → Prop)
def filtQ (l : List Edge) : List Nat → List Nat
  | [] => []
  | q :: r => bif waitsL l q then filtQ l r else q :: filtQ l r
def keepG (l : List Edge) : List Grp → List Grp
  | [] => []
  | (qs, S) :: T => match filtQ l qs with | [] => keepG l T | q :: r => (q :: r, S) :: keepG l T
def allS : List Grp → World → Prop → Prop
  | [], _, k => k
  | (_, S) :: T, w, k => S w ∧ allS T w k
theorem allS_elim : ∀ {T : List Grp} {w : World} {k : Prop}, allS T w k → (∀ g ∈ T, g.2 w) ∧ k
  | [], _, _, h => ⟨fun _ h => (by cases h), h⟩
  | (qs, S) :: T, w, k, h => ⟨fun g hg => by
      rcases List.mem_cons.1 hg with rfl | hg
      · exact h.1
      · exact (allS_elim h.2).1 g hg, (allS_elim h.2).2⟩
def addC : Option Grp → List Grp → List Grp
  | none, T => T
  | some g, T => g :: T
def expd : List Grp → List (Nat × (World → Prop))
  | [] => []
  | (qs, S) :: T => qs.map (fun q => (q, S)) ++ expd T
theorem expd_mem : ∀ {T : List Grp} {p : Nat × (World → Prop)}, p ∈ expd T → ∃ g ∈ T, g.2 = p.2
  | (qs, S) :: T, p, h => by
    rcases List.mem_append.1 h with h | h
    · obtain ⟨q, _, rfl⟩ := List.mem_map.1 h
      exact ⟨_, List.mem_cons.2 (.inl rfl), rfl⟩
    · obtain ⟨g, hg, e⟩ := expd_mem h
      exact ⟨g, List.mem_cons.2 (.inr hg), e⟩
theorem filtQ_eq (l : List Edge) : ∀ qs : List Nat, filtQ l qs = qs.filter fun q => !waitsL l q
  | [] => rfl
  | q :: r => by rw [filtQ, filtQ_eq l r, List.filter_cons]; cases waitsL l q <;> simp
theorem expd_keep (o : Oper) : ∀ T : List Grp, expd (keepG o.after.toList T) = (expd T).filter fun p => !waitsOn .any o p.1
  | [] => rfl
  | (qs, S) :: T => by
    rw [expd, List.filter_append, ← expd_keep o T]
    have h1 : (qs.map (fun q => (q, S))).filter (fun p => !waitsOn .any o p.1) = (filtQ o.after.toList qs).map (fun q => (q, S)) := by
      rw [filtQ_eq, List.filter_map]
      congr 1
      apply List.filter_congr
      intro q _
      simp [waitsL_eq]
    rw [h1, keepG]
    split
    · rename_i h; rw [h]; rfl
    · rename_i q r h; rw [h]; rfl
def needS (P : Program) (o : Oper) : Bool := match o.op with
  | .load _ _ => true
  | .convert s d _ => isSlc (und P s) && isStr (und P d)
  | _ => false
def drT (sep : Bool) (m : Md) (P : Program) (n : Nat) (ops : List Oper) (L : List LO) (K : Env → World → Prop) : List Oper → List Bool → Option Grp → List Grp → Env → World → Prop
  | [], listed, c, T, ρ, w => (match readyL listed 0 L listed with | [] => K ρ w | _ => False)
  | _ :: fuel, listed, c, T, ρ, w =>
    match readyL listed 0 L listed with
    | [] => K ρ w
    | i0 :: more =>
      match findTake L listed (i0 :: more) with
      | some i => (match ops[i]? with
        | some o => (match gd ops o ρ with
          | some true => (match needS P o with
            | true => (match c with
              | some (qs, S) => bif sep then (∃ S' : World → Prop, S' w ∧ quietS P ρ o S' fun v => putS n ops i o v ρ fun ρ' => drT sep m P n ops L K fuel (markL i listed) (some ([i], S')) ((qs, S) :: T) ρ' w)
                else quietS P ρ o S fun v => putS n ops i o v ρ fun ρ' => drT sep m P n ops L K fuel (markL i listed) (some (i :: qs, S)) T ρ' w
              | none => ∃ S : World → Prop, S w ∧ quietS P ρ o S fun v => putS n ops i o v ρ fun ρ' => drT sep m P n ops L K fuel (markL i listed) (some ([i], S)) T ρ' w)
            | false => pureS P ρ o.op fun v => putS n ops i o v ρ fun ρ' => drT sep m P n ops L K fuel (markL i listed) c T ρ' w)
          | some false => drT sep m P n ops L K fuel (markL i listed) c T (skipEnv n o ρ) w
          | none => False)
        | none => False)
      | none => allL (i0 :: more) fun i => (match ops[i]? with
        | some o => (match gd ops o ρ with
          | some true => opX m P ρ o w fun v w' => putS n ops i o v ρ fun ρ' => allS (keepG o.after.toList (addC c T)) w' (drT sep m P n ops L K fuel (markL i listed) none (keepG o.after.toList (addC c T)) ρ' w')
          | some false => drT sep m P n ops L K fuel (markL i listed) none (keepG o.after.toList (addC c T)) (skipEnv n o ρ) w
          | none => False)
        | none => False)
theorem drT_sound {sep : Bool} {m : Md} {P : Program} (ok : Okay P) {n : Nat} {ops : List Oper} (hsel : Region.noSelect ops.toArray = true) {L : List Nat} (hL : ∀ t, t ∈ opsDst ops → t ∈ L) {a₀ : Act} {K : Exit → Env → World → Prop} :
    ∀ (fl : List Oper) (listed : List Bool) (c : Option Grp) (T : List Grp) (ρ : Env) (a : Act) (w : World), listed.length = ops.length → SameBut L a₀ a → Agrees n ρ a → (∀ g ∈ addC c T, g.2 w) →
      drT sep m P n ops (lightOf P ops ops) (K .normal) fl listed c T ρ w → wpAnyT P .any ops.toArray (QW n L a₀ K) (expd (addC c T)) fl.length listed.toArray a w
  | [], listed, c, T, ρ, a, w, hl, hs, ha, hT, h => by
    have hr0 := ready_eq (P := P) hl
    unfold drT at h
    split at h
    · rename_i hr; exact ⟨hr0.trans hr, hs, ρ, ha, h⟩
    · exact h.elim
  | _ :: fl, listed, c, T, ρ, a, w, hl, hs, ha, hT, h => by
    have hr0 := ready_eq (P := P) hl
    have hmem : ∀ {i : Nat} {o : Oper}, ops[i]? = some o → o ∈ ops := fun {i o} hi => List.mem_of_getElem? hi
    have hput : ∀ {i : Nat} {o : Oper} (_ : ops[i]? = some o) v, SameBut L a₀ (a.put o.dst v) := fun hi v => hs.trans ((put_same (hmem hi) a v).mono hL)
    have hTe : ∀ p ∈ expd (addC c T), p.2 w := fun p hp => by
      obtain ⟨g, hg, e⟩ := expd_mem hp
      rw [← e]; exact hT g hg
    unfold drT at h
    split at h
    · rename_i hr
      exact ⟨fun _ => ⟨hs, ρ, ha, h⟩, by rw [hr0, hr]; simp⟩
    · rename_i i0 more hr
      have hrr := hr0.trans hr
      split at h
      · rename_i i hf
        obtain ⟨hi, x, hx, hfx⟩ := findTake_spec hf
        split at h
        · rename_i o ho
          have hfree := freeL_free hl ho hx hfx
          have ho' : ops.toArray[i]? = some o := by simpa using ho
          have hri : i ∈ Region.ready .any ops.toArray listed.toArray := by rw [hrr]; exact hi
          have take : ∀ {v : Value} {S : World → Prop}, YieldsIf P ops.toArray S o v a → S w → wpAnyT P .any ops.toArray (QW n L a₀ K) ((i, S) :: expd (addC c T)) fl.length (markL i listed).toArray (a.put o.dst v) w → wpAnyT P .any ops.toArray (QW n L a₀ K) (expd (addC c T)) (fl.length + 1) listed.toArray a w := by
            intro v S hy hS hk
            rw [markL_eq] at hk
            exact wpAnyT_first ho' (Region.noSelect_spec hsel) (fun _ _ _ q => q.elim) _ _ _ _ _ (Region.free_spec ho' hfree) hri hy hS hTe hk
          split at h
          · rename_i hg
            have hw := gd_wanted hg ha
            split at h
            · split at h
              · rename_i qs S
                cases hsep : sep with
                | true =>
                  rw [hsep] at h
                  obtain ⟨S', hS', h⟩ := h
                  obtain ⟨v, hy, hv⟩ := quietS_yields ha.ev h
                  obtain ⟨ρ', ha', hk⟩ := putS_elim hv ha
                  rw [← hsep] at hk
                  exact take (.inl ⟨hw, hy⟩) hS' (drT_sound ok hsel hL fl _ (some ([i], S')) ((qs, S) :: T) ρ' _ w (by rw [markL_length]; exact hl) (hput ho v) ha' (fun g hg => by
                    rcases List.mem_cons.1 hg with rfl | hg
                    · exact hS'
                    · exact hT g hg) hk)
                | false =>
                rw [hsep] at h
                have h : quietS P ρ o S fun v => putS n ops i o v ρ fun ρ' => drT false m P n ops (lightOf P ops ops) (K .normal) fl (markL i listed) (some (i :: qs, S)) T ρ' w := h
                rw [← hsep] at h
                obtain ⟨v, hy, hv⟩ := quietS_yields ha.ev h
                obtain ⟨ρ', ha', hk⟩ := putS_elim hv ha
                exact take (.inl ⟨hw, hy⟩) (hT _ (List.mem_cons.2 (.inl rfl))) (drT_sound ok hsel hL fl _ (some (i :: qs, S)) T ρ' _ w (by rw [markL_length]; exact hl) (hput ho v) ha' (fun g hg => by
                  rcases List.mem_cons.1 hg with rfl | hg
                  · exact hT (qs, S) (List.mem_cons.2 (.inl rfl))
                  · exact hT g (List.mem_cons.2 (.inr hg))) hk)
              · obtain ⟨S, hS, h⟩ := h
                obtain ⟨v, hy, hv⟩ := quietS_yields ha.ev h
                obtain ⟨ρ', ha', hk⟩ := putS_elim hv ha
                exact take (.inl ⟨hw, hy⟩) hS (drT_sound ok hsel hL fl _ (some ([i], S)) T ρ' _ w (by rw [markL_length]; exact hl) (hput ho v) ha' (fun g hg => by
                  rcases List.mem_cons.1 hg with rfl | hg
                  · exact hS
                  · exact hT g hg) hk)
            · obtain ⟨v, hy, hv⟩ := pureS_gives ha.ev h
              obtain ⟨ρ', ha', hk⟩ := putS_elim hv ha
              refine take (S := fun _ => True) (.inl ⟨hw, fun w _ => hy w⟩) trivial (wpAnyT_sub _ _ _ _ _ _ (fun p hp => ?_) (drT_sound ok hsel hL fl _ c T ρ' _ w (by rw [markL_length]; exact hl) (hput ho v) ha' hT hk))
              rcases List.mem_cons.1 hp with rfl | hp
              · exact .inr fun _ => trivial
              · exact .inl hp
          · rename_i hg
            have hw := gd_wanted hg ha
            refine take (S := fun _ => True) (.inr ⟨hw, rfl⟩) trivial (wpAnyT_sub _ _ _ _ _ _ (fun p hp => ?_) (drT_sound ok hsel hL fl _ c T _ _ w (by rw [markL_length]; exact hl) (hput ho _) (skip_agrees ha) hT h))
            rcases List.mem_cons.1 hp with rfl | hp
            · exact .inr fun _ => trivial
            · exact .inl hp
          · exact h.elim
        · exact h.elim
      · refine ⟨fun h0 => (by rw [hrr] at h0; cases h0), fun i hi => ?_⟩
        rw [hrr] at hi
        have h := allL_elim h i hi
        unfold wpOp
        split at h
        · rename_i o ho
          have ho' : ops.toArray[i]? = some o := by simpa using ho
          have hke : keepAt .any ops.toArray i (expd (addC c T)) = expd (keepG o.after.toList (addC c T)) := by
            unfold keepAt; rw [ho', expd_keep]
          rw [ho', hke]
          simp only
          split at h
          · rename_i hg
            have hw := gd_wanted hg ha
            rw [hw]
            simp only [if_true]
            refine .inl (Oper.wp_mono ?_ (opX_does ok ha.ev h).wp)
            rintro a' w' ⟨v, rfl, hv⟩
            obtain ⟨ρ', ha', hk⟩ := putS_elim hv ha
            obtain ⟨hall, hk⟩ := allS_elim hk
            rw [← markL_eq]
            refine ⟨fun p hp => ?_, drT_sound ok hsel hL fl _ none _ ρ' _ w' (by rw [markL_length]; exact hl) (hput ho v) ha' hall hk⟩
            obtain ⟨g, hg, e⟩ := expd_mem hp
            rw [← e]; exact hall g hg
          · rename_i hg
            have hw := gd_wanted hg ha
            rw [hw]
            simp only [Bool.false_eq_true, if_false]
            rw [← markL_eq]
            have hall : ∀ g ∈ keepG o.after.toList (addC c T), g.2 w := fun g hg => by
              have : ∀ T : List Grp, (∀ g ∈ T, g.2 w) → ∀ g ∈ keepG o.after.toList T, g.2 w := by
                intro T
                induction T with
                | nil => intro _ g hg; cases hg
                | cons t T ih =>
                  obtain ⟨qs, S⟩ := t
                  intro ht g hg
                  rw [keepG] at hg
                  split at hg
                  · exact ih (fun g hg => ht g (List.mem_cons.2 (.inr hg))) g hg
                  · rcases List.mem_cons.1 hg with rfl | hg
                    · exact ht (qs, S) (List.mem_cons.2 (.inl rfl))
                    · exact ih (fun g hg => ht g (List.mem_cons.2 (.inr hg))) g hg
              exact this _ hT g hg
            refine ⟨fun p hp => ?_, drT_sound ok hsel hL fl _ none _ _ _ w (by rw [markL_length]; exact hl) (hput ho _) (skip_agrees ha) hall h⟩
            obtain ⟨g, hg, e⟩ := expd_mem hp
            rw [← e]; exact hall g hg
          · exact h.elim
        · exact h.elim

/-! ## the same, each reading under a condition of its own; whatever is ahead of what is done, is done -/
def predsL (ops : List Oper) : List Edge → List Edge
  | [] => []
  | e :: l => bif bindsE e then (match ops[e.on]? with | some o => o.after.toList ++ predsL ops l | none => predsL ops l) else predsL ops l
def aheadL (ops : List Oper) : Nat → List Edge → List Edge
  | 0, l => l
  | n + 1, l => aheadL ops n (l ++ predsL ops l)
def DoneL (listed : Array Bool) (l : List Edge) : Prop := ∀ e ∈ l, Region.binds .any e = true → listed.getD e.on false = true
def Closed (ops : Array Oper) (listed : Array Bool) : Prop := ∀ k o, ops[k]? = some o → listed.getD k false = true → DoneL listed o.after.toList
theorem done_preds {ops : List Oper} {listed : Array Bool} (hc : Closed ops.toArray listed) : ∀ l, DoneL listed l → DoneL listed (predsL ops l)
  | [], _ => fun e he => by cases he
  | e :: l, h => by
    have ih := done_preds hc l (fun e' he' => h e' (List.mem_cons.2 (.inr he')))
    unfold predsL
    cases hb : bindsE e with
    | false => exact ih
    | true =>
      have hd := h e (List.mem_cons.2 (.inl rfl)) (by rw [bindsE_eq]; exact hb)
      simp only [cond_true]
      cases ho : ops[e.on]? with
      | none => exact ih
      | some o =>
        intro e' he' hb'
        rcases List.mem_append.1 he' with he' | he'
        · exact hc e.on o (by simpa using ho) hd e' he' hb'
        · exact ih e' he' hb'
theorem done_ahead {ops : List Oper} {listed : Array Bool} (hc : Closed ops.toArray listed) : ∀ n l, DoneL listed l → DoneL listed (aheadL ops n l)
  | 0, _, h => h
  | n + 1, l, h => done_ahead hc n _ fun e he hb => (List.mem_append.1 he).elim (fun he => h e he hb) fun he => done_preds hc l h e he hb
theorem closed_set {ops : Array Oper} {listed : Array Bool} {j : Nat} (hc : Closed ops listed) (hj : j ∈ Region.ready .any ops listed) : Closed ops (listed.setIfInBounds j true) := by
  obtain ⟨hun, oj, hoj, hall⟩ := mem_ready.1 hj
  have hlt : j < listed.size := by
    rcases Nat.lt_or_ge j listed.size with h | h
    · exact h
    · simp [Array.getElem?_eq_none h] at hun
  have up : ∀ q, listed.getD q false = true → (listed.setIfInBounds j true).getD q false = true := fun q hq => by
    by_cases h : j = q
    · subst h; simp [hlt]
    · rw [getD_set_ne false h]; exact hq
  intro k o ho hk e he hb
  by_cases hkj : j = k
  · subst hkj
    rw [hoj] at ho
    obtain rfl := Option.some.inj ho
    exact up _ (hall e (by simpa using he) hb)
  · rw [getD_set_ne false hkj] at hk
    exact up _ (hc k o ho hk e he hb)
theorem closed_falses (ops : List Oper) : Closed ops.toArray (falses ops).toArray := by
  intro k o ho hk
  have : falses ops = List.replicate ops.length false := by
    clear ho hk
    induction ops with
    | nil => rfl
    | cons _ _ ih => simp [falses, ih, List.replicate_succ]
  rw [this] at hk
  have h2 : (List.replicate ops.length false).toArray.getD k false = false := by
    simp only [List.toArray_replicate, Array.getD_eq_getD_getElem?, Array.getElem?_replicate]
    split <;> rfl
  rw [h2] at hk
  cases hk
theorem waitsL_mem : ∀ {l : List Edge} {q : Nat}, waitsL l q = true → ∃ e ∈ l, Region.binds .any e = true ∧ e.on = q
  | e :: l, q, h => by
    rw [waitsL] at h
    cases hb : bindsE e with
    | false =>
      rw [hb] at h
      obtain ⟨e', he, h'⟩ := waitsL_mem (l := l) h
      exact ⟨e', List.mem_cons.2 (.inr he), h'⟩
    | true =>
      rw [hb] at h
      cases hq : Nat.beq e.on q with
      | true => exact ⟨e, List.mem_cons.2 (.inl rfl), by rw [bindsE_eq]; exact hb, Nat.eq_of_beq_eq_true hq⟩
      | false =>
        rw [hq] at h
        obtain ⟨e', he, h'⟩ := waitsL_mem (l := l) h
        exact ⟨e', List.mem_cons.2 (.inr he), h'⟩
theorem expd_keepL (l : List Edge) : ∀ T : List Grp, expd (keepG l T) = (expd T).filter fun p => !waitsL l p.1
  | [] => rfl
  | (qs, S) :: T => by
    rw [expd, List.filter_append, ← expd_keepL l T]
    have h1 : (qs.map (fun q => (q, S))).filter (fun p => !waitsL l p.1) = (filtQ l qs).map (fun q => (q, S)) := by
      rw [filtQ_eq, List.filter_map]
      rfl
    rw [h1, keepG]
    split
    · rename_i h; rw [h]; rfl
    · rename_i q r h; rw [h]; rfl
def keepA2 (ops : List Oper) (i : Nat) (T : List (Nat × (World → Prop))) : List (Nat × (World → Prop)) :=
  match ops[i]? with
  | some o => T.filter fun p => !waitsL (aheadL ops 2 o.after.toList) p.1
  | none => T
def wpAnyT2 (P : Program) (ops : List Oper) (Q : Exit → Act → World → Prop) : List (Nat × (World → Prop)) → Nat → Array Bool → Act → World → Prop
  | _, 0, listed, a, w => Region.ready .any ops.toArray listed = [] ∧ Q .normal a w
  | T, fuel + 1, listed, a, w => (Region.ready .any ops.toArray listed = [] → Q .normal a w) ∧
      ∀ i ∈ Region.ready .any ops.toArray listed, wpOp P ops.toArray Q i (fun a' w' => (∀ p ∈ keepA2 ops i T, p.2 w') ∧ wpAnyT2 P ops Q (keepA2 ops i T) fuel (listed.setIfInBounds i true) a' w') a w
theorem wpAny_of_T2 {P : Program} {ops : List Oper} {Q : Exit → Act → World → Prop} : ∀ (fuel : Nat) (T : List (Nat × (World → Prop))) (listed : Array Bool) (a : Act) (w : World), wpAnyT2 P ops Q T fuel listed a w → wpAny P .any ops.toArray Q fuel listed a w
  | 0, _, _, _, _, h => h
  | fuel + 1, _, _, _, _, h => ⟨h.1, fun i hi => wpOp_mono (fun a' w' h' => wpAny_of_T2 fuel _ _ a' w' h'.2) (h.2 i hi)⟩
theorem keepA2_sub {ops : List Oper} {i : Nat} {T T' : List (Nat × (World → Prop))} (h : ∀ p ∈ T', p ∈ T ∨ ∀ w, p.2 w) : ∀ p ∈ keepA2 ops i T', p ∈ keepA2 ops i T ∨ ∀ w, p.2 w := by
  unfold keepA2
  split
  · intro p hp
    obtain ⟨hp, hw⟩ := List.mem_filter.1 hp
    exact (h p hp).imp (fun hm => List.mem_filter.2 ⟨hm, hw⟩) id
  · exact h
theorem wpAnyT2_sub {P : Program} {ops : List Oper} {Q : Exit → Act → World → Prop} : ∀ (fuel : Nat) (T T' : List (Nat × (World → Prop))) (listed : Array Bool) (a : Act) (w : World), (∀ p ∈ T', p ∈ T ∨ ∀ w, p.2 w) → wpAnyT2 P ops Q T fuel listed a w → wpAnyT2 P ops Q T' fuel listed a w
  | 0, _, _, _, _, _, _, h => h
  | fuel + 1, T, T', _, _, _, hT, h => ⟨h.1, fun i hi => wpOp_mono (fun a' w' h' => ⟨fun p hp => (keepA2_sub hT p hp).elim (h'.1 p) (fun hw => hw w'), wpAnyT2_sub fuel _ _ _ a' w' (keepA2_sub hT) h'.2⟩) (h.2 i hi)⟩
theorem keepA2_mem {ops : List Oper} {i : Nat} {T : List (Nat × (World → Prop))} {p : Nat × (World → Prop)} (h : p ∈ keepA2 ops i T) : p ∈ T := by
  unfold keepA2 at h
  split at h
  · exact (List.mem_filter.1 h).1
  · exact h
theorem wpAnyT2_first {P : Program} {ops : List Oper} {Q : Exit → Act → World → Prop} {i : Nat} {oi : Oper} {v : Value} {S : World → Prop} (hi : ops[i]? = some oi) (hsel : ∀ (j : Nat) (o : Oper) cs b, ops.toArray[j]? = some o → o.op ≠ .select cs b)
    (hQ : ∀ c a w, Q (.panic c) (a.put oi.dst v) w → Q (.panic c) a w) :
    ∀ (fuel : Nat) (T : List (Nat × (World → Prop))) (listed : Array Bool) (a : Act) (w : World),
      Closed ops.toArray listed → (∀ j oj, ops.toArray[j]? = some oj → j ≠ i → listed.getD j true = false → (∀ e ∈ oj.after, Region.binds .any e = true → e.on ≠ i) → oi.apart ops.toArray oj = true) →
      i ∈ Region.ready .any ops.toArray listed → YieldsIf P ops.toArray S oi v a → S w → (∀ p ∈ T, p.2 w) →
      wpAnyT2 P ops Q ((i, S) :: T) fuel (listed.setIfInBounds i true) (a.put oi.dst v) w → wpAnyT2 P ops Q T (fuel + 1) listed a w := by
  have base : ∀ (fuel : Nat) (T : List (Nat × (World → Prop))) (listed : Array Bool) (a : Act) (w : World), YieldsIf P ops.toArray S oi v a → S w → (∀ p ∈ T, p.2 w) → wpAnyT2 P ops Q ((i, S) :: T) fuel (listed.setIfInBounds i true) (a.put oi.dst v) w →
      wpOp P ops.toArray Q i (fun a' w' => (∀ p ∈ keepA2 ops i T, p.2 w') ∧ wpAnyT2 P ops Q (keepA2 ops i T) fuel (listed.setIfInBounds i true) a' w') a w := by
    intro fuel T listed a w hy hS hT H
    refine hy.wpOp (by simpa using hi) hS ⟨fun p hp => hT p (keepA2_mem hp), wpAnyT2_sub _ _ _ _ _ _ (fun p hp => .inl (List.mem_cons.2 (.inr (keepA2_mem hp)))) H⟩
  intro fuel
  induction fuel with
  | zero =>
    intro T listed a w _ _ hr hy hS hT H
    refine ⟨fun h => (by rw [h] at hr; cases hr), fun j hj => ?_⟩
    by_cases hji : j = i
    · subst hji; exact base 0 T listed a w hy hS hT H
    · have := ready_mono hj hji
      rw [H.1] at this
      cases this
  | succ fuel ih =>
    intro T listed a w hcl hfree hr hy hS hT H
    refine ⟨fun h => (by rw [h] at hr; cases hr), fun j hj => ?_⟩
    by_cases hji : j = i
    · subst hji; exact base _ T listed a w hy hS hT H
    · have h1 := H.2 j (ready_mono hj hji)
      obtain ⟨hjun, oj, hoj', hall⟩ := mem_ready.1 hj
      have hoj : ops[j]? = some oj := by simpa using hoj'
      have hnot : ∀ e ∈ oj.after, Region.binds .any e = true → e.on ≠ i := fun e he hb heq => by
        have h1 := hall e he hb
        have h0 := (mem_ready.1 hr).1
        rw [heq] at h1
        rcases Nat.lt_or_ge i listed.size with h' | h'
        · simp [h'] at h0 h1; rw [h0] at h1; cases h1
        · simp [Array.getElem?_eq_none h'] at h1
      have hkeep : keepA2 ops j ((i, S) :: T) = (i, S) :: keepA2 ops j T := by
        unfold keepA2
        rw [hoj]
        dsimp only
        rw [List.filter_cons_of_pos]
        have : waitsL (aheadL ops 2 oj.after.toList) i = false := by
          cases hwt : waitsL (aheadL ops 2 oj.after.toList) i with
          | false => rfl
          | true =>
            obtain ⟨e, he, hb, hon⟩ := waitsL_mem hwt
            have h1 := done_ahead hcl 2 _ (fun e he hb => hall e (by simpa using he) hb) e he hb
            have h0 := (mem_ready.1 hr).1
            rw [hon] at h1
            rcases Nat.lt_or_ge i listed.size with h' | h'
            · simp [h'] at h0 h1; rw [h0] at h1; cases h1
            · simp [Array.getElem?_eq_none h'] at h1
        simp [this]
      rw [hkeep] at h1
      have h2 := wpOp_putIf hoj' (hfree j oj hoj' hji hjun hnot) (fun cs b => hsel i oi cs b (by simpa using hi)) (fun cs b => hsel j oj cs b hoj') hQ hy h1
      have hfree' : ∀ k ok, ops.toArray[k]? = some ok → k ≠ i → (listed.setIfInBounds j true).getD k true = false →
          (∀ e ∈ ok.after, Region.binds .any e = true → e.on ≠ i) → oi.apart ops.toArray ok = true := fun k ok hk hki hun hno => by
        refine hfree k ok hk hki ?_ hno
        by_cases hjk : j = k
        · subst hjk; exact hjun
        · rw [getD_set_ne true hjk] at hun; exact hun
      refine wpOp_mono (fun a' w' h3 => ⟨fun p hp => h3.2.1 p (List.mem_cons.2 (.inr hp)), ih (keepA2 ops j T) (listed.setIfInBounds j true) a' w' (closed_set hcl hj) hfree' (ready_mono hr (Ne.symm hji)) h3.1 (h3.2.1 _ (List.mem_cons.2 (.inl rfl))) (fun p hp => h3.2.1 p (List.mem_cons.2 (.inr hp))) ?_⟩) h2
      rw [Array.setIfInBounds_comm _ _ hji]
      exact h3.2.2

def drT2 (m : Md) (P : Program) (n : Nat) (ops : List Oper) (L : List LO) (K : Env → World → Prop) : List Oper → List Bool → Option Grp → List Grp → Env → World → Prop
  | [], listed, c, T, ρ, w => (match readyL listed 0 L listed with | [] => K ρ w | _ => False)
  | _ :: fuel, listed, c, T, ρ, w =>
    match readyL listed 0 L listed with
    | [] => K ρ w
    | i0 :: more =>
      match findTake L listed (i0 :: more) with
      | some i => (match ops[i]? with
        | some o => (match gd ops o ρ with
          | some true => (match needS P o with
            | true => (match c with
              | some (qs, S) => (∃ S' : World → Prop, S' w ∧ quietS P ρ o S' fun v => putS n ops i o v ρ fun ρ' => drT2 m P n ops L K fuel (markL i listed) (some ([i], S')) ((qs, S) :: T) ρ' w)
              | none => ∃ S : World → Prop, S w ∧ quietS P ρ o S fun v => putS n ops i o v ρ fun ρ' => drT2 m P n ops L K fuel (markL i listed) (some ([i], S)) T ρ' w)
            | false => pureS P ρ o.op fun v => putS n ops i o v ρ fun ρ' => drT2 m P n ops L K fuel (markL i listed) c T ρ' w)
          | some false => drT2 m P n ops L K fuel (markL i listed) c T (skipEnv n o ρ) w
          | none => False)
        | none => False)
      | none => allL (i0 :: more) fun i => (match ops[i]? with
        | some o => (match gd ops o ρ with
          | some true => opX m P ρ o w fun v w' => putS n ops i o v ρ fun ρ' => allS (keepG (aheadL ops 2 o.after.toList) (addC c T)) w' (drT2 m P n ops L K fuel (markL i listed) none (keepG (aheadL ops 2 o.after.toList) (addC c T)) ρ' w')
          | some false => drT2 m P n ops L K fuel (markL i listed) none (keepG (aheadL ops 2 o.after.toList) (addC c T)) (skipEnv n o ρ) w
          | none => False)
        | none => False)
theorem drT2_sound {m : Md} {P : Program} (ok : Okay P) {n : Nat} {ops : List Oper} (hsel : Region.noSelect ops.toArray = true) {L : List Nat} (hL : ∀ t, t ∈ opsDst ops → t ∈ L) {a₀ : Act} {K : Exit → Env → World → Prop} :
    ∀ (fl : List Oper) (listed : List Bool) (c : Option Grp) (T : List Grp) (ρ : Env) (a : Act) (w : World), listed.length = ops.length → Closed ops.toArray listed.toArray → SameBut L a₀ a → Agrees n ρ a → (∀ g ∈ addC c T, g.2 w) →
      drT2 m P n ops (lightOf P ops ops) (K .normal) fl listed c T ρ w → wpAnyT2 P ops (QW n L a₀ K) (expd (addC c T)) fl.length listed.toArray a w
  | [], listed, c, T, ρ, a, w, hl, hcl, hs, ha, hT, h => by
    have hr0 := ready_eq (P := P) hl
    unfold drT2 at h
    split at h
    · rename_i hr; exact ⟨hr0.trans hr, hs, ρ, ha, h⟩
    · exact h.elim
  | _ :: fl, listed, c, T, ρ, a, w, hl, hcl, hs, ha, hT, h => by
    have hr0 := ready_eq (P := P) hl
    have hmem : ∀ {i : Nat} {o : Oper}, ops[i]? = some o → o ∈ ops := fun {i o} hi => List.mem_of_getElem? hi
    have hput : ∀ {i : Nat} {o : Oper} (_ : ops[i]? = some o) v, SameBut L a₀ (a.put o.dst v) := fun hi v => hs.trans ((put_same (hmem hi) a v).mono hL)
    have hTe : ∀ p ∈ expd (addC c T), p.2 w := fun p hp => by
      obtain ⟨g, hg, e⟩ := expd_mem hp
      rw [← e]; exact hT g hg
    unfold drT2 at h
    split at h
    · rename_i hr
      exact ⟨fun _ => ⟨hs, ρ, ha, h⟩, by rw [hr0, hr]; simp⟩
    · rename_i i0 more hr
      have hrr := hr0.trans hr
      split at h
      · rename_i i hf
        obtain ⟨hi, x, hx, hfx⟩ := findTake_spec hf
        split at h
        · rename_i o ho
          have hfree := freeL_free hl ho hx hfx
          have ho' : ops.toArray[i]? = some o := by simpa using ho
          have hri : i ∈ Region.ready .any ops.toArray listed.toArray := by rw [hrr]; exact hi
          have take : ∀ {v : Value} {S : World → Prop}, YieldsIf P ops.toArray S o v a → S w → wpAnyT2 P ops (QW n L a₀ K) ((i, S) :: expd (addC c T)) fl.length (markL i listed).toArray (a.put o.dst v) w → wpAnyT2 P ops (QW n L a₀ K) (expd (addC c T)) (fl.length + 1) listed.toArray a w := by
            intro v S hy hS hk
            rw [markL_eq] at hk
            exact wpAnyT2_first ho (Region.noSelect_spec hsel) (fun _ _ _ q => q.elim) _ _ _ _ _ hcl (Region.free_spec ho' hfree) hri hy hS hTe hk
          split at h
          · rename_i hg
            have hw := gd_wanted hg ha
            split at h
            · split at h
              · rename_i qs S
                obtain ⟨S', hS', h⟩ := h
                obtain ⟨v, hy, hv⟩ := quietS_yields ha.ev h
                obtain ⟨ρ', ha', hk⟩ := putS_elim hv ha
                exact take (.inl ⟨hw, hy⟩) hS' (drT2_sound ok hsel hL fl _ (some ([i], S')) ((qs, S) :: T) ρ' _ w (by rw [markL_length]; exact hl) (by rw [markL_eq]; exact closed_set hcl hri) (hput ho v) ha' (fun g hg => by
                  rcases List.mem_cons.1 hg with rfl | hg
                  · exact hS'
                  · exact hT g hg) hk)
              · obtain ⟨S, hS, h⟩ := h
                obtain ⟨v, hy, hv⟩ := quietS_yields ha.ev h
                obtain ⟨ρ', ha', hk⟩ := putS_elim hv ha
                exact take (.inl ⟨hw, hy⟩) hS (drT2_sound ok hsel hL fl _ (some ([i], S)) T ρ' _ w (by rw [markL_length]; exact hl) (by rw [markL_eq]; exact closed_set hcl hri) (hput ho v) ha' (fun g hg => by
                  rcases List.mem_cons.1 hg with rfl | hg
                  · exact hS
                  · exact hT g hg) hk)
            · obtain ⟨v, hy, hv⟩ := pureS_gives ha.ev h
              obtain ⟨ρ', ha', hk⟩ := putS_elim hv ha
              refine take (S := fun _ => True) (.inl ⟨hw, fun w _ => hy w⟩) trivial (wpAnyT2_sub _ _ _ _ _ _ (fun p hp => ?_) (drT2_sound ok hsel hL fl _ c T ρ' _ w (by rw [markL_length]; exact hl) (by rw [markL_eq]; exact closed_set hcl hri) (hput ho v) ha' hT hk))
              rcases List.mem_cons.1 hp with rfl | hp
              · exact .inr fun _ => trivial
              · exact .inl hp
          · rename_i hg
            have hw := gd_wanted hg ha
            refine take (S := fun _ => True) (.inr ⟨hw, rfl⟩) trivial (wpAnyT2_sub _ _ _ _ _ _ (fun p hp => ?_) (drT2_sound ok hsel hL fl _ c T _ _ w (by rw [markL_length]; exact hl) (by rw [markL_eq]; exact closed_set hcl hri) (hput ho _) (skip_agrees ha) hT h))
            rcases List.mem_cons.1 hp with rfl | hp
            · exact .inr fun _ => trivial
            · exact .inl hp
          · exact h.elim
        · exact h.elim
      · refine ⟨fun h0 => (by rw [hrr] at h0; cases h0), fun i hri => ?_⟩
        have hi := hri
        rw [hrr] at hi
        have h := allL_elim h i hi
        unfold wpOp
        split at h
        · rename_i o ho
          have ho' : ops.toArray[i]? = some o := by simpa using ho
          have hke : keepA2 ops i (expd (addC c T)) = expd (keepG (aheadL ops 2 o.after.toList) (addC c T)) := by
            unfold keepA2; rw [ho, expd_keepL]
          rw [ho', hke]
          simp only
          split at h
          · rename_i hg
            have hw := gd_wanted hg ha
            rw [hw]
            simp only [if_true]
            refine .inl (Oper.wp_mono ?_ (opX_does ok ha.ev h).wp)
            rintro a' w' ⟨v, rfl, hv⟩
            obtain ⟨ρ', ha', hk⟩ := putS_elim hv ha
            obtain ⟨hall, hk⟩ := allS_elim hk
            rw [← markL_eq]
            refine ⟨fun p hp => ?_, drT2_sound ok hsel hL fl _ none _ ρ' _ w' (by rw [markL_length]; exact hl) (by rw [markL_eq]; exact closed_set hcl hri) (hput ho v) ha' hall hk⟩
            obtain ⟨g, hg, e⟩ := expd_mem hp
            rw [← e]; exact hall g hg
          · rename_i hg
            have hw := gd_wanted hg ha
            rw [hw]
            simp only [Bool.false_eq_true, if_false]
            rw [← markL_eq]
            have hall : ∀ g ∈ keepG (aheadL ops 2 o.after.toList) (addC c T), g.2 w := fun g hg => by
              have : ∀ T : List Grp, (∀ g ∈ T, g.2 w) → ∀ g ∈ keepG (aheadL ops 2 o.after.toList) T, g.2 w := by
                intro T
                induction T with
                | nil => intro _ g hg; cases hg
                | cons t T ih =>
                  obtain ⟨qs, S⟩ := t
                  intro ht g hg
                  rw [keepG] at hg
                  split at hg
                  · exact ih (fun g hg => ht g (List.mem_cons.2 (.inr hg))) g hg
                  · rcases List.mem_cons.1 hg with rfl | hg
                    · exact ht (qs, S) (List.mem_cons.2 (.inl rfl))
                    · exact ih (fun g hg => ht g (List.mem_cons.2 (.inr hg))) g hg
              exact this _ hT g hg
            refine ⟨fun p hp => ?_, drT2_sound ok hsel hL fl _ none _ _ _ w (by rw [markL_length]; exact hl) (by rw [markL_eq]; exact closed_set hcl hri) (hput ho _) (skip_agrees ha) hall h⟩
            obtain ⟨g, hg, e⟩ := expd_mem hp
            rw [← e]; exact hall g hg
          · exact h.elim
        · exact h.elim

/-! ## regions whose order is drawn, with many effects: one condition on what is done -/
def effL : Nat → List LO → List Bool → List Nat
  | i, x :: xs, b :: bs => bif b then effL (i + 1) xs bs else bif x.q then effL (i + 1) xs bs else i :: effL (i + 1) xs bs
  | _, _, _ => []
def subN (l : List Nat) : List Nat → Bool
  | [] => true
  | i :: r => bif memNat i l then subN l r else false
def behE (E : List Nat) : Nat → List LO → List Bool → Bool
  | i, x :: xs, b :: bs => bif b then behE E (i + 1) xs bs else bif memNat i E then behE E (i + 1) xs bs else bif subN x.aft E then behE E (i + 1) xs bs else false
  | _, _, _ => true
def markAll : List Nat → List Bool → List Bool
  | [], l => l
  | i :: E, l => markAll E (markL i l)
def aftOk (E : List Nat) (listed : List Bool) (i : Nat) : List Nat → Bool
  | [] => true
  | j :: r => bif nthB listed j false then aftOk E listed i r else bif memNat j E then (bif Nat.blt j i then aftOk E listed i r else false) else false
def outE (L : List LO) : List Nat → List Nat
  | [] => []
  | i :: E => match L[i]? with | some x => (match x.dst with | some d => d :: outE L E | none => outE L E) | none => outE L E
def prodE (L : List LO) (E : List Nat) (t : Nat) : List Nat → Bool
  | [] => false
  | j :: r => bif memNat j E then (match L[j]? with | some y => (bif eqO y.dst t then true else prodE L E t r) | none => prodE L E t r) else prodE L E t r
def meet (l : List Nat) : List Nat → List Nat
  | [] => []
  | t :: r => bif memNat t l then t :: meet l r else meet l r
def prodAll (L : List LO) (E aft : List Nat) : List Nat → Bool
  | [] => true
  | t :: r => bif prodE L E t aft then prodAll L E aft r else false
def eachE (n : Nat) (ops : List Oper) (L : List LO) (E : List Nat) (listed : List Bool) : List Nat → Bool
  | [] => true
  | i :: r => match ops[i]?, L[i]? with
    | some o, some x => (match o.guard with
      | none => bif aftOk E listed i x.aft then (bif prodAll L E x.aft (meet (outE L E) (tmpsL (operL o.op))) then (match o.dst with | some d => (bif Nat.blt d n then eachE n ops L E listed r else false) | none => eachE n ops L E listed r) else false) else false
      | some _ => false)
    | _, _ => false
def findTy : List (Nat × Ty) → Nat → Option Ty
  | [], _ => none
  | (u, ty) :: vs, t => bif Nat.beq u t then some ty else findTy vs t
def nuT (vs : List (Nat × Ty)) (t : Nat) (v : Value) (k : Value → Prop) : Prop := match findTy vs t with | some ty => exT ty fun u => v = u ∧ k u | none => k v
theorem nuT_elim {vs : List (Nat × Ty)} {t : Nat} {v : Value} {k : Value → Prop} (h : nuT vs t v k) : k v := by
  unfold nuT at h
  split at h
  · obtain ⟨u, rfl, h⟩ := exT_elim h; exact h
  · exact h
def setNu (vs : List (Nat × Ty)) (ν : Nat → Value) : List Nat → Env → (Env → Prop) → Prop
  | [], ρ, k => k ρ
  | t :: l, ρ, k => nuT vs t (ν t) fun u => setNu vs ν l (ρ.set t (some u)) k
def allD (D : Nat → Bool) : List Nat → Prop → Prop
  | [], k => k
  | j :: l, k => D j = true → allD D l k
def setD (D : Nat → Bool) (i : Nat) : Nat → Bool := fun j => bif Nat.beq j i then true else D j
def setNuV (ν : Nat → Value) : Option Nat → Value → Nat → Value
  | none, _ => ν
  | some d, v => fun t => bif Nat.beq t d then v else ν t
abbrev GD := (Nat → Bool) → (Nat → Value) → World → Prop
def oblG (m : Md) (P : Program) (ops : List Oper) (L : List LO) (E outs : List Nat) (vs : List (Nat × Ty)) (G : GD) (ρ : Env) (i : Nat) : Prop :=
  match ops[i]?, L[i]? with
  | some o, some x => ∀ (D : Nat → Bool) (ν : Nat → Value) (w : World), G D ν w → D i = false → allD D (meet E x.aft)
      (setNu vs ν (meet outs (tmpsL (operL o.op))) ρ fun ρ' => opX m P ρ' o w fun v w' => G (setD D i) (setNuV ν o.dst v) w')
  | _, _ => False
def keysN : List (Nat × Ty) → List Nat
  | [] => []
  | (t, _) :: l => t :: keysN l
def dropL : List Nat → List Oper → List Oper
  | [], l => l
  | _ :: E, [] => []
  | _ :: E, _ :: l => dropL E l
def lenLe : List Nat → List Oper → Bool
  | [], _ => true
  | _ :: _, [] => false
  | _ :: E, _ :: l => lenLe E l
def grpS : List Grp → (World → Prop)
  | [] => fun _ => True
  | [(_, S)] => S
  | (_, S) :: T => fun w => S w ∧ grpS T w
theorem grpS_elim : ∀ {T : List Grp} {w : World}, grpS T w → ∀ g ∈ T, g.2 w
  | [(qs, S)], w, h, g, hg => by simp at hg; subst hg; exact h
  | (qs, S) :: t :: T, w, h, g, hg => by
    rcases List.mem_cons.1 hg with rfl | hg
    · exact h.1
    · exact grpS_elim h.2 g hg
def gT (m : Md) (P : Program) (n : Nat) (ops : List Oper) (L : List LO) (K : Env → World → Prop) (vs : List (Nat × Ty)) (fl : List Oper) (listed : List Bool) (T : List Grp) (ρ : Env) (w : World) (E outs : List Nat) : Prop :=
  cond (lenLe E fl && (behE E 0 L listed && (eachE n ops L E listed E && subN outs (keysN vs))))
    (∃ G : GD, (∀ ν, G (fun _ => false) ν w) ∧ (∀ D ν w, G D ν w → grpS T w) ∧ allL E (oblG m P ops L E outs vs G (ρ.forget outs)) ∧
      (∀ D ν w, allD D E (G D ν w → setNu vs ν (keysN vs) (ρ.forget outs) fun ρ' => drT false m P n ops L K (dropL E fl) (markAll E listed) none T ρ' w)))
    False
def drG (m : Md) (P : Program) (n : Nat) (ops : List Oper) (L : List LO) (K : Env → World → Prop) (vs : List (Nat × Ty)) : List Oper → List Bool → Option Grp → List Grp → Env → World → Prop
  | [], listed, c, T, ρ, w => (match readyL listed 0 L listed with | [] => K ρ w | _ => False)
  | f :: fuel, listed, c, T, ρ, w =>
    match readyL listed 0 L listed with
    | [] => K ρ w
    | i0 :: more =>
      match findTake L listed (i0 :: more) with
      | some i => (match ops[i]? with
        | some o => (match gd ops o ρ with
          | some true => (match needS P o with
            | true => (match c with
              | some (qs, S) => quietS P ρ o S fun v => putS n ops i o v ρ fun ρ' => drG m P n ops L K vs fuel (markL i listed) (some (i :: qs, S)) T ρ' w
              | none => ∃ S : World → Prop, S w ∧ quietS P ρ o S fun v => putS n ops i o v ρ fun ρ' => drG m P n ops L K vs fuel (markL i listed) (some ([i], S)) T ρ' w)
            | false => pureS P ρ o.op fun v => putS n ops i o v ρ fun ρ' => drG m P n ops L K vs fuel (markL i listed) c T ρ' w)
          | some false => drG m P n ops L K vs fuel (markL i listed) c T (skipEnv n o ρ) w
          | none => False)
        | none => False)
      | none => gT m P n ops L K vs (f :: fuel) listed (addC c T) ρ w (effL 0 L listed) (outE L (effL 0 L listed))

theorem subN_mem {l : List Nat} : ∀ {r : List Nat}, subN l r = true → ∀ i ∈ r, i ∈ l
  | i :: r, h, j, hj => by
    unfold subN at h
    cases hm : memNat i l with
    | false => rw [hm] at h; simp at h
    | true =>
      rw [hm] at h
      rcases List.mem_cons.1 hj with rfl | hj
      · exact memNat_iff.1 hm
      · exact subN_mem (by simpa using h) j hj
theorem behE_spec {E : List Nat} : ∀ (xs : List LO) (bs : List Bool) (i0 : Nat), behE E i0 xs bs = true → ∀ j x, xs[j]? = some x → bs[j]? = some false → i0 + j ∉ E → ∀ e ∈ E, e ∈ x.aft
  | [], bs, i0, h, j, x, hx => by simp at hx
  | y :: xs, [], i0, h, j, x, hx => by simp
  | y :: xs, b :: bs, i0, h, j, x, hx => by
    intro hb hE
    unfold behE at h
    cases j with
    | zero =>
      simp at hx hb hE; subst hx; subst hb
      have hm : memNat i0 E = false := by cases hq : memNat i0 E with | true => exact absurd (memNat_iff.1 hq) hE | false => rfl
      rw [hm] at h
      simp only [cond_false] at h
      cases hs : subN y.aft E with
      | true => exact subN_mem hs
      | false => rw [hs] at h; simp at h
    | succ j =>
      simp at hx hb
      have h' : behE E (i0 + 1) xs bs = true := by
        cases b with
        | true => simpa using h
        | false =>
          simp only [cond_false] at h
          cases hm : memNat i0 E with
          | true => rw [hm] at h; simpa using h
          | false =>
            rw [hm] at h; simp only [cond_false] at h
            cases hs : subN y.aft E with | true => rw [hs] at h; simpa using h | false => rw [hs] at h; simp at h
      exact behE_spec xs bs (i0 + 1) h' j x hx hb (by rw [show i0 + 1 + j = i0 + (j + 1) by omega]; exact hE)
theorem aftOk_spec {E : List Nat} {listed : List Bool} {i : Nat} : ∀ {l : List Nat}, aftOk E listed i l = true → ∀ j ∈ l, nthB listed j false = true ∨ (j ∈ E ∧ j < i)
  | j :: r, h, k, hk => by
    unfold aftOk at h
    have tail : aftOk E listed i r = true → k ∈ r → nthB listed k false = true ∨ (k ∈ E ∧ k < i) := fun h hk => aftOk_spec h k hk
    cases h1 : nthB listed j false with
    | true =>
      rw [h1] at h
      rcases List.mem_cons.1 hk with rfl | hk
      · exact .inl h1
      · exact tail (by simpa using h) hk
    | false =>
      rw [h1] at h
      simp only [cond_false] at h
      cases h2 : memNat j E with
      | false => rw [h2] at h; simp at h
      | true =>
        rw [h2] at h
        simp only [cond_true] at h
        cases h3 : Nat.blt j i with
        | false => rw [h3] at h; simp at h
        | true =>
          rw [h3] at h
          rcases List.mem_cons.1 hk with rfl | hk
          · exact .inr ⟨memNat_iff.1 h2, by simpa [Nat.blt_eq] using h3⟩
          · exact tail (by simpa using h) hk
theorem prodE_spec {L : List LO} {E : List Nat} {t : Nat} : ∀ {l : List Nat}, prodE L E t l = true → ∃ j ∈ l, j ∈ E ∧ ∃ y, L[j]? = some y ∧ y.dst = some t
  | j :: r, h => by
    unfold prodE at h
    have tail : prodE L E t r = true → ∃ k ∈ j :: r, k ∈ E ∧ ∃ y, L[k]? = some y ∧ y.dst = some t := fun h => by
      obtain ⟨k, hk, h⟩ := prodE_spec h; exact ⟨k, by simp [hk], h⟩
    cases h1 : memNat j E with
    | false => rw [h1] at h; exact tail (by simpa using h)
    | true =>
      rw [h1] at h
      simp only [cond_true] at h
      split at h
      · rename_i y hy
        cases h2 : eqO y.dst t with
        | false => rw [h2] at h; exact tail (by simpa using h)
        | true =>
          refine ⟨j, by simp, memNat_iff.1 h1, y, hy, ?_⟩
          cases hd : y.dst with
          | none => rw [hd] at h2; simp [eqO] at h2
          | some d => rw [hd] at h2; rw [Nat.eq_of_beq_eq_true (show Nat.beq d t = true from h2)]
      · exact tail h
theorem meet_mem {l : List Nat} : ∀ {r : List Nat} {t : Nat}, t ∈ meet l r ↔ t ∈ l ∧ t ∈ r
  | [], t => by simp [meet]
  | x :: r, t => by
    unfold meet
    cases h : memNat x l with
    | true =>
      simp only [cond_true, List.mem_cons, meet_mem (r := r)]
      constructor
      · rintro (rfl | ⟨h1, h2⟩)
        · exact ⟨memNat_iff.1 h, .inl rfl⟩
        · exact ⟨h1, .inr h2⟩
      · rintro ⟨h1, rfl | h2⟩
        · exact .inl rfl
        · exact .inr ⟨h1, h2⟩
    | false =>
      simp only [cond_false, meet_mem (r := r), List.mem_cons]
      constructor
      · rintro ⟨h1, h2⟩; exact ⟨h1, .inr h2⟩
      · rintro ⟨h1, rfl | h2⟩
        · rw [memNat_iff.2 h1] at h; cases h
        · exact ⟨h1, h2⟩
theorem prodAll_spec {L : List LO} {E aft : List Nat} : ∀ {l : List Nat}, prodAll L E aft l = true → ∀ t ∈ l, ∃ j ∈ aft, j ∈ E ∧ ∃ y, L[j]? = some y ∧ y.dst = some t
  | t :: r, h, u, hu => by
    unfold prodAll at h
    cases h1 : prodE L E t aft with
    | false => rw [h1] at h; simp at h
    | true =>
      rw [h1] at h
      rcases List.mem_cons.1 hu with rfl | hu
      · exact prodE_spec h1
      · exact prodAll_spec (by simpa using h) u hu
theorem eachE_spec {n : Nat} {ops : List Oper} {L : List LO} {E : List Nat} {listed : List Bool} : ∀ {l : List Nat}, eachE n ops L E listed l = true → ∀ i ∈ l, ∃ o x, ops[i]? = some o ∧ L[i]? = some x ∧ o.guard = none ∧
    (∀ j ∈ x.aft, nthB listed j false = true ∨ (j ∈ E ∧ j < i)) ∧ (∀ t ∈ meet (outE L E) (tmpsL (operL o.op)), ∃ j ∈ x.aft, j ∈ E ∧ ∃ y, L[j]? = some y ∧ y.dst = some t) ∧ ∀ d, o.dst = some d → d < n
  | i :: r, h, k, hk => by
    unfold eachE at h
    split at h
    · rename_i o x ho hx
      split at h
      · rename_i hg
        cases h1 : aftOk E listed i x.aft with
        | false => rw [h1] at h; simp at h
        | true =>
          rw [h1] at h
          simp only [cond_true] at h
          cases h2 : prodAll L E x.aft (meet (outE L E) (tmpsL (operL o.op))) with
          | false => rw [h2] at h; simp at h
          | true =>
            rw [h2] at h
            simp only [cond_true] at h
            have h3 : eachE n ops L E listed r = true ∧ ∀ d, o.dst = some d → d < n := by
              split at h
              · rename_i d hd
                cases h4 : Nat.blt d n with
                | false => rw [h4] at h; simp at h
                | true => rw [h4] at h; exact ⟨by simpa using h, fun e he => by rw [hd] at he; cases he; simpa [Nat.blt_eq] using h4⟩
              · rename_i hd; exact ⟨h, fun e he => by rw [hd] at he; cases he⟩
            rcases List.mem_cons.1 hk with rfl | hk
            · exact ⟨o, x, ho, hx, hg, aftOk_spec h1, prodAll_spec h2, h3.2⟩
            · exact eachE_spec h3.1 k hk
      · cases h
    · cases h
theorem outE_mem {L : List LO} {t : Nat} : ∀ {E : List Nat} {i : Nat} {x : LO}, i ∈ E → L[i]? = some x → x.dst = some t → t ∈ outE L E
  | j :: E, i, x, hi, hx, hd => by
    rcases List.mem_cons.1 hi with rfl | hi
    · simp [outE, hx, hd]
    · have := outE_mem hi hx hd
      unfold outE
      split
      · split
        · simp [this]
        · exact this
      · exact this
theorem outE_from {L : List LO} {t : Nat} : ∀ {E : List Nat}, t ∈ outE L E → ∃ i ∈ E, ∃ x, L[i]? = some x ∧ x.dst = some t
  | j :: E, h => by
    have tail : t ∈ outE L E → ∃ i ∈ j :: E, ∃ x, L[i]? = some x ∧ x.dst = some t := fun h => by
      obtain ⟨i, hi, h⟩ := outE_from h; exact ⟨i, by simp [hi], h⟩
    unfold outE at h
    split at h
    · rename_i x hx
      split at h
      · rename_i d hd
        rcases List.mem_cons.1 h with rfl | h
        · exact ⟨j, by simp, x, hx, hd⟩
        · exact tail h
      · exact tail h
    · exact tail h
theorem allD_elim {D : Nat → Bool} : ∀ {l : List Nat} {k : Prop}, allD D l k → (∀ j ∈ l, D j = true) → k
  | [], _, h, _ => h
  | j :: l, k, h, hD => allD_elim (h (hD j (by simp))) fun i hi => hD i (by simp [hi])
theorem setNu_elim {n : Nat} {vs : List (Nat × Ty)} {ν : Nat → Value} {a : Act} : ∀ {l : List Nat} {ρ : Env} {k : Env → Prop}, (∀ t ∈ l, a.tmps[t]? = some (ν t)) → Agrees n ρ a → setNu vs ν l ρ k → ∃ ρ', Agrees n ρ' a ∧ k ρ'
  | [], ρ, k, _, ha, h => ⟨ρ, ha, h⟩
  | t :: l, ρ, k, hl, ha, h => by
    have h := nuT_elim h
    refine setNu_elim (l := l) (fun u hu => hl u (by simp [hu])) ⟨ha.defers, ha.size, fun u v hu => ?_⟩ h
    simp only [Env.set] at hu
    cases hb : Nat.beq u t with
    | true => have := Nat.eq_of_beq_eq_true hb; subst this; simp [hb] at hu; subst hu; exact hl u (by simp)
    | false => simp [hb] at hu; exact ha.at_ u v hu
theorem markAll_length : ∀ (E : List Nat) (l : List Bool), (markAll E l).length = l.length
  | [], l => rfl
  | i :: E, l => by rw [markAll, markAll_length E, markL_length]
theorem markL_get : ∀ (i : Nat) (l : List Bool) (j : Nat), (markL i l)[j]? = if j = i then l[j]?.map fun _ => true else l[j]?
  | i, [], j => by cases i <;> simp [markL]
  | 0, b :: l, 0 => by simp [markL]
  | 0, b :: l, j + 1 => by simp [markL]
  | i + 1, b :: l, 0 => by simp [markL]
  | i + 1, b :: l, j + 1 => by simp [markL, markL_get i l j]
theorem markAll_get : ∀ (E : List Nat) (l : List Bool) (j : Nat), (markAll E l)[j]? = if j ∈ E then l[j]?.map fun _ => true else l[j]?
  | [], l, j => by simp [markAll]
  | i :: E, l, j => by
    rw [markAll, markAll_get E, markL_get]
    by_cases h1 : j = i <;> by_cases h2 : j ∈ E <;> simp [h1, h2] <;> (try subst h1) <;> simp_all
theorem lenLe_spec : ∀ {E : List Nat} {l : List Oper}, lenLe E l = true → l.length = E.length + (dropL E l).length
  | [], l, _ => by simp [dropL]
  | _ :: _, [], h => by simp [lenLe] at h
  | _ :: E, _ :: l, h => by have := lenLe_spec (E := E) (l := l) h; simp only [List.length_cons, dropL]; omega
theorem effL_spec : ∀ (xs : List LO) (bs : List Bool) (i0 : Nat), (∀ j ∈ effL i0 xs bs, i0 ≤ j ∧ bs[j - i0]? = some false) ∧ (effL i0 xs bs).Nodup
  | [], bs, i0 => by cases bs <;> simp [effL]
  | x :: xs, [], i0 => by simp [effL]
  | x :: xs, b :: bs, i0 => by
    have ih := effL_spec xs bs (i0 + 1)
    have up : ∀ j ∈ effL (i0 + 1) xs bs, i0 ≤ j ∧ (b :: bs)[j - i0]? = some false := fun j hj => by
      obtain ⟨h1, h2⟩ := ih.1 j hj
      refine ⟨by omega, ?_⟩
      rw [show j - i0 = (j - (i0 + 1)) + 1 by omega]; simpa using h2
    unfold effL
    cases b with
    | true => exact ⟨up, ih.2⟩
    | false =>
      cases x.q with
      | true => exact ⟨up, ih.2⟩
      | false =>
        refine ⟨fun j hj => ?_, ?_⟩
        · rcases List.mem_cons.1 hj with rfl | hj
          · simp
          · exact up j hj
        · refine List.nodup_cons.2 ⟨fun hm => ?_, ih.2⟩
          have := (ih.1 _ hm).1; omega
def undone (D : Nat → Bool) : List Nat → Nat
  | [] => 0
  | i :: E => bif D i then undone D E else undone D E + 1
theorem undone_zero {D : Nat → Bool} : ∀ {E : List Nat}, undone D E = 0 → ∀ i ∈ E, D i = true
  | j :: E, h, i, hi => by
    unfold undone at h
    cases hd : D j with
    | false => rw [hd] at h; simp at h
    | true =>
      rw [hd] at h
      rcases List.mem_cons.1 hi with rfl | hi
      · exact hd
      · exact undone_zero (by simpa using h) i hi
theorem undone_pos {D : Nat → Bool} : ∀ {E : List Nat} {k : Nat}, undone D E = k + 1 → ∃ i ∈ E, D i = false
  | [], k, h => by simp [undone] at h
  | j :: E, k, h => by
    unfold undone at h
    cases hd : D j with
    | false => exact ⟨j, by simp, hd⟩
    | true => rw [hd] at h; obtain ⟨i, hi, h'⟩ := undone_pos (E := E) (by simpa using h); exact ⟨i, by simp [hi], h'⟩
theorem undone_set {D : Nat → Bool} {i : Nat} : ∀ {E : List Nat}, E.Nodup → i ∈ E → D i = false → undone D E = undone (setD D i) E + 1
  | j :: E, hn, hi, hd => by
    obtain ⟨h1, h2⟩ := List.nodup_cons.1 hn
    by_cases hj : j = i
    · subst hj
      have same : ∀ E : List Nat, j ∉ E → undone (setD D j) E = undone D E := by
        intro E
        induction E with
        | nil => intro _; rfl
        | cons k E ih =>
          intro hk
          have hkj : Nat.beq k j = false := by cases hb : Nat.beq k j with | false => rfl | true => exact absurd (Nat.eq_of_beq_eq_true hb) (fun e => hk (by simp [e]))
          unfold undone
          rw [ih (fun h => hk (by simp [h]))]
          simp only [setD, hkj, cond_false]
      unfold undone
      rw [same E h1, hd]
      have : setD D j j = true := by simp [setD]
      rw [this]; rfl
    · have hi' : i ∈ E := by
        rcases List.mem_cons.1 hi with h | h
        · exact absurd h.symm hj
        · exact h
      have ih := undone_set (E := E) h2 hi' hd
      have hb : Nat.beq j i = false := by cases hb : Nat.beq j i with | false => rfl | true => exact absurd (Nat.eq_of_beq_eq_true hb) hj
      have e : setD D i j = D j := by simp [setD, hb]
      unfold undone
      rw [e, ih]
      cases D j <;> simp
theorem least {D : Nat → Bool} {E : List Nat} : ∀ (n i : Nat), i ≤ n → i ∈ E → D i = false → ∃ i ∈ E, D i = false ∧ ∀ j ∈ E, j < i → D j = true
  | n, i, hin, hi, hd => by
    by_cases h : ∃ j ∈ E, j < i ∧ D j = false
    · obtain ⟨j, hj, hlt, hdj⟩ := h
      match n with
      | 0 => omega
      | n + 1 => exact least n j (by omega) hj hdj
    · refine ⟨i, hi, hd, fun j hj hlt => ?_⟩
      cases hq : D j with
      | true => rfl
      | false => exact absurd ⟨j, hj, hlt, hq⟩ h

theorem gT_sound {m : Md} {P : Program} (ok : Okay P) {n : Nat} {ops : List Oper} (hsel : Region.noSelect ops.toArray = true) {L : List Nat} (hL : ∀ t, t ∈ opsDst ops → t ∈ L) {a₀ : Act} {K : Exit → Env → World → Prop}
    {vs : List (Nat × Ty)} {fl : List Oper} {listed : List Bool} {T : List Grp} {ρ : Env} {E : List Nat} {G : GD} (hl : listed.length = ops.length) (hnd : E.Nodup) (hEf : ∀ j ∈ E, listed[j]? = some false)
    (hbeh : ∀ j x, (lightOf P ops ops)[j]? = some x → listed[j]? = some false → j ∉ E → ∀ e ∈ E, e ∈ x.aft)
    (heach : ∀ i ∈ E, ∃ o x, ops[i]? = some o ∧ (lightOf P ops ops)[i]? = some x ∧ o.guard = none ∧ (∀ j ∈ x.aft, nthB listed j false = true ∨ (j ∈ E ∧ j < i)) ∧
      (∀ t ∈ meet (outE (lightOf P ops ops) E) (tmpsL (operL o.op)), ∃ j ∈ x.aft, j ∈ E ∧ ∃ y, (lightOf P ops ops)[j]? = some y ∧ y.dst = some t) ∧ ∀ d, o.dst = some d → d < n)
    (hkeys : ∀ t ∈ keysN vs, t ∈ outE (lightOf P ops ops) E)
    (hGT : ∀ D ν w, G D ν w → grpS T w) (hobl : ∀ i ∈ E, oblG m P ops (lightOf P ops ops) E (outE (lightOf P ops ops) E) vs G (ρ.forget (outE (lightOf P ops ops) E)) i)
    (hfin : ∀ D ν w, allD D E (G D ν w → setNu vs ν (keysN vs) (ρ.forget (outE (lightOf P ops ops) E)) fun ρ' => drT false m P n ops (lightOf P ops ops) (K .normal) (dropL E fl) (markAll E listed) none T ρ' w)) :
    ∀ (u : Nat) (D : Nat → Bool) (ν : Nat → Value) (listed' : List Bool) (a : Act) (w : World), undone D E = u → (∀ j, listed'[j]? = if j ∈ E then listed[j]?.map (fun _ => D j) else listed[j]?) →
      SameBut L a₀ a → Agrees n (ρ.forget (outE (lightOf P ops ops) E)) a → (∀ j ∈ E, D j = true → ∀ x t, (lightOf P ops ops)[j]? = some x → x.dst = some t → a.tmps[t]? = some (ν t)) → G D ν w →
      wpAnyT P .any ops.toArray (QW n L a₀ K) (expd T) (u + (dropL E fl).length) listed'.toArray a w := by
  have mem : ∀ {l : List Bool} {j : Nat}, l.toArray.getD j true = false ↔ l[j]? = some false := fun {l j} => by
    rw [Array.getD_eq_getD_getElem?, List.getElem?_toArray]
    cases l[j]? with | none => simp | some b => simp
  have memF : ∀ {l : List Bool} {j : Nat}, l.toArray.getD j false = true ↔ l[j]? = some true := fun {l j} => by
    rw [Array.getD_eq_getD_getElem?, List.getElem?_toArray]
    cases l[j]? with | none => simp | some b => simp
  have nthT : ∀ {l : List Bool} {j : Nat}, nthB l j false = true ↔ l[j]? = some true := fun {l j} => by
    rw [nthB_eq]; exact memF
  have aftE : ∀ {i : Nat} {o : Oper} {x : LO}, ops[i]? = some o → (lightOf P ops ops)[i]? = some x → x.aft = aftL o.after.toList := fun {i o x} ho hx => by
    rw [lightOf_get, ho] at hx; simp at hx; rw [← hx]
  have dstE : ∀ {i : Nat} {o : Oper} {x : LO}, ops[i]? = some o → (lightOf P ops ops)[i]? = some x → x.dst = o.dst := fun {i o x} ho hx => by
    rw [lightOf_get, ho] at hx; simp at hx; rw [← hx]
  have aftIn : ∀ {es : List Edge} {j : Nat}, (∃ e ∈ es, Region.binds .any e = true ∧ e.on = j) → j ∈ aftL es := by
    intro es j
    induction es with
    | nil => rintro ⟨e, he, _⟩; cases he
    | cons e es ih =>
      rintro ⟨e', he', hb, hj⟩
      unfold aftL
      rcases List.mem_cons.1 he' with rfl | he'
      · rw [bindsE_eq] at hb; rw [hb]; simp [hj]
      · have := ih ⟨e', he', hb, hj⟩
        cases bindsE e <;> simp [this]
  intro u
  induction u with
  | zero =>
    intro D ν listed' a w hu hls hs ha hν hG
    have hD := undone_zero hu
    have hfin := allD_elim (hfin D ν w) hD hG
    have e : listed' = markAll E listed := by
      apply List.ext_getElem?
      intro j
      rw [hls, markAll_get]
      by_cases hj : j ∈ E
      · simp [hj, hD j hj]
      · simp [hj]
    have hk : ∀ t ∈ keysN vs, a.tmps[t]? = some (ν t) := fun t ht => by
      obtain ⟨i, hi, x, hx, hd⟩ := outE_from (hkeys t ht)
      exact hν i hi (hD i hi) x t hx hd
    obtain ⟨ρ', ha', h⟩ := setNu_elim hk ha hfin
    subst e
    have := drT_sound ok hsel hL (dropL E fl) (markAll E listed) none T ρ' a w (by rw [markAll_length]; exact hl) hs ha' (fun g hg => grpS_elim (hGT D ν w hG) g hg) h
    rw [Nat.zero_add]
    exact this
  | succ u ih =>
    intro D ν listed' a w hu hls hs ha hν hG
    have hne := undone_pos hu
    have hready : ∀ i, i ∈ Region.ready .any ops.toArray listed'.toArray ↔ listed'[i]? = some false ∧ ∃ o, ops[i]? = some o ∧ ∀ j ∈ aftL o.after.toList, listed'[j]? = some true := by
      intro i
      rw [mem_ready, mem]
      constructor
      · rintro ⟨h0, o, ho, hall⟩
        refine ⟨h0, o, by simpa using ho, fun j hj => ?_⟩
        obtain ⟨e, he, hb, rfl⟩ := mem_aftL hj
        exact memF.1 (hall e (by simpa using he) hb)
      · rintro ⟨h0, o, ho, hall⟩
        refine ⟨h0, o, by simpa using ho, fun e he hb => memF.2 (hall e.on (aftIn ⟨e, by simpa using he, hb, rfl⟩))⟩
    rw [show u + 1 + (dropL E fl).length = (u + (dropL E fl).length) + 1 by omega]
    refine ⟨fun h0 => ?_, fun i hi => ?_⟩
    · -- something is ready
      exfalso
      obtain ⟨i0, hi0, hd0⟩ := hne
      obtain ⟨i, hi, hd, hmin⟩ := least i0 i0 (Nat.le_refl _) hi0 hd0
      obtain ⟨o, x, ho, hx, _, haft, _⟩ := heach i hi
      have : i ∈ Region.ready .any ops.toArray listed'.toArray := by
        rw [hready]
        refine ⟨by rw [hls, if_pos hi, hEf i hi]; simp [hd], o, ho, fun j hj => ?_⟩
        rw [← aftE ho hx] at hj
        rw [hls]
        rcases haft j hj with h | ⟨hj, hlt⟩
        · have := nthT.1 h
          by_cases hjE : j ∈ E
          · rw [hEf j hjE] at this; cases this
          · rw [if_neg hjE]; exact this
        · rw [if_pos hj, hEf j hj]; simp [hmin j hj hlt]
      rw [h0] at this; cases this
    · obtain ⟨hun, o, ho, hall⟩ := (hready i).1 hi
      by_cases hiE : i ∈ E
      · obtain ⟨o', x, ho', hx, hgd, haft, hprod, hdn⟩ := heach i hiE
        rw [ho] at ho'; cases ho'
        have hdi : D i = false := by rw [hls, if_pos hiE, hEf i hiE] at hun; simpa using hun
        have hDa : ∀ j ∈ x.aft, j ∈ E → D j = true := fun j hj hjE => by
          have := hall j (by rw [← aftE ho hx]; exact hj)
          rw [hls, if_pos hjE, hEf j hjE] at this; simpa using this
        have hob := hobl i hiE
        unfold oblG at hob
        rw [ho, hx] at hob
        have hob := allD_elim (hob D ν w hG hdi) (fun j hj => hDa j (meet_mem.1 hj).2 (meet_mem.1 hj).1)
        have hvals : ∀ t ∈ meet (outE (lightOf P ops ops) E) (tmpsL (operL o.op)), a.tmps[t]? = some (ν t) := fun t ht => by
          obtain ⟨j, hj, hjE, y, hy, hd⟩ := hprod t ht
          exact hν j hjE (hDa j hj hjE) y t hy hd
        obtain ⟨ρ', ha', hop⟩ := setNu_elim hvals ha hob
        have hmo : o ∈ ops := List.mem_of_getElem? ho
        have ho2 : ops.toArray[i]? = some o := by simpa using ho
        unfold wpOp
        rw [ho2]
        simp only
        have hw : Region.wanted o (yielded ops.toArray a.tmps) = true := by unfold Region.wanted; rw [hgd]
        rw [hw]
        simp only [if_true]
        refine .inl (Oper.wp_mono ?_ (opX_does ok ha'.ev hop).wp)
        rintro a' w' ⟨v, rfl, hv⟩
        have hst := hGT _ _ _ hv
        refine ⟨fun p hp => ?_, ?_⟩
        · obtain ⟨g, hg, e⟩ := expd_mem (keepAt_mem hp)
          rw [← e]; exact grpS_elim hst g hg
        · refine wpAnyT_sub _ _ _ _ _ _ (fun p hp => .inl (keepAt_mem hp)) ?_
          rw [← markL_eq]
          have hu' := undone_set hnd hiE hdi
          refine ih (setD D i) (setNuV ν o.dst v) (markL i listed') _ w' (by omega) (fun j => ?_) (hs.trans ((put_same hmo a v).mono hL)) ?_ ?_ hv
          · rw [markL_get]
            by_cases hj : j = i
            · subst hj
              rw [if_pos rfl, if_pos hiE, hun, hEf j hiE]
              simp [setD]
            · rw [if_neg hj, hls]
              have hb : Nat.beq j i = false := by cases hb : Nat.beq j i with | false => rfl | true => exact absurd (Nat.eq_of_beq_eq_true hb) hj
              by_cases hjE : j ∈ E
              · simp [hjE, setD, hb]
              · simp [hjE]
          · cases hd : o.dst with
            | none => exact ha.put0 v
            | some d =>
              have hput := ha.put (hdn d hd) v
              refine ⟨hput.defers, hput.size, fun t x' ht => hput.at_ t x' ?_⟩
              have hdo : memNat d (outE (lightOf P ops ops) E) = true := memNat_iff.2 (outE_mem hiE hx (by rw [dstE ho hx]; exact hd))
              simp only [Env.set]
              cases hb : Nat.beq t d with
              | true =>
                have := Nat.eq_of_beq_eq_true hb; subst this
                simp [Env.forget, hdo] at ht
              | false => simpa using ht
          · intro j hjE hDj y t hy hdt
            cases hd : o.dst with
            | none =>
              have hji : j ≠ i := fun e => by
                subst e; rw [hx] at hy; cases hy; rw [dstE ho hx, hd] at hdt; cases hdt
              have hb : Nat.beq j i = false := by cases hb : Nat.beq j i with | false => rfl | true => exact absurd (Nat.eq_of_beq_eq_true hb) hji
              simp only [setD, hb, cond_false] at hDj
              exact hν j hjE hDj y t hy hdt
            | some d =>
              simp only [setNuV, Act.put]
              cases hb : Nat.beq t d with
              | true =>
                have := Nat.eq_of_beq_eq_true hb; subst this
                have := ha.size
                have := hdn t hd
                simp [*]
              | false =>
                have hne := Nat.ne_of_beq_eq_false hb
                have hji : j ≠ i := fun e => by
                  subst e; rw [hx] at hy; cases hy; rw [dstE ho hx, hd] at hdt; cases hdt; exact hne rfl
                have hbj : Nat.beq j i = false := by cases hb : Nat.beq j i with | false => rfl | true => exact absurd (Nat.eq_of_beq_eq_true hb) hji
                simp only [setD, hbj, cond_false] at hDj
                simp only [cond_false]
                rw [Array.getElem?_setIfInBounds_ne (fun e => hne e.symm)]
                exact hν j hjE hDj y t hy hdt
      · exfalso
        obtain ⟨e, heE, hde⟩ := hne
        rw [hls, if_neg hiE] at hun
        have hx : (lightOf P ops ops)[i]? = some { dst := o.dst, looks := tmpsL (operL o.op) ++ (match o.guard with | some (g, _) => (match ops[g]? with | some x => x.dst.toList | none => []) | none => []), aft := aftL o.after.toList, q := quietK P o } := by rw [lightOf_get, ho]; rfl
        have := hall e (hbeh i _ hx hun hiE e heE)
        rw [hls, if_pos heE, hEf e heE, hde] at this
        simp at this

theorem drG_sound {m : Md} {P : Program} (ok : Okay P) {n : Nat} {ops : List Oper} (hsel : Region.noSelect ops.toArray = true) {L : List Nat} (hL : ∀ t, t ∈ opsDst ops → t ∈ L) {a₀ : Act} {K : Exit → Env → World → Prop} {vs : List (Nat × Ty)} :
    ∀ (fl : List Oper) (listed : List Bool) (c : Option Grp) (T : List Grp) (ρ : Env) (a : Act) (w : World), listed.length = ops.length → SameBut L a₀ a → Agrees n ρ a → (∀ g ∈ addC c T, g.2 w) →
      drG m P n ops (lightOf P ops ops) (K .normal) vs fl listed c T ρ w → wpAnyT P .any ops.toArray (QW n L a₀ K) (expd (addC c T)) fl.length listed.toArray a w
  | [], listed, c, T, ρ, a, w, hl, hs, ha, hT, h => by
    have hr0 := ready_eq (P := P) hl
    unfold drG at h
    split at h
    · rename_i hr; exact ⟨hr0.trans hr, hs, ρ, ha, h⟩
    · exact h.elim
  | f :: fl, listed, c, T, ρ, a, w, hl, hs, ha, hT, h => by
    have hr0 := ready_eq (P := P) hl
    have hmem : ∀ {i : Nat} {o : Oper}, ops[i]? = some o → o ∈ ops := fun {i o} hi => List.mem_of_getElem? hi
    have hput : ∀ {i : Nat} {o : Oper} (_ : ops[i]? = some o) v, SameBut L a₀ (a.put o.dst v) := fun hi v => hs.trans ((put_same (hmem hi) a v).mono hL)
    have hTe : ∀ p ∈ expd (addC c T), p.2 w := fun p hp => by
      obtain ⟨g, hg, e⟩ := expd_mem hp
      rw [← e]; exact hT g hg
    unfold drG at h
    split at h
    · rename_i hr
      exact ⟨fun _ => ⟨hs, ρ, ha, h⟩, by rw [hr0, hr]; simp⟩
    · rename_i i0 more hr
      have hrr := hr0.trans hr
      split at h
      · rename_i i hf
        obtain ⟨hi, x, hx, hfx⟩ := findTake_spec hf
        split at h
        · rename_i o ho
          have hfree := freeL_free hl ho hx hfx
          have ho' : ops.toArray[i]? = some o := by simpa using ho
          have hri : i ∈ Region.ready .any ops.toArray listed.toArray := by rw [hrr]; exact hi
          have take : ∀ {v : Value} {S : World → Prop}, YieldsIf P ops.toArray S o v a → S w → wpAnyT P .any ops.toArray (QW n L a₀ K) ((i, S) :: expd (addC c T)) fl.length (markL i listed).toArray (a.put o.dst v) w → wpAnyT P .any ops.toArray (QW n L a₀ K) (expd (addC c T)) (fl.length + 1) listed.toArray a w := by
            intro v S hy hS hk
            rw [markL_eq] at hk
            exact wpAnyT_first ho' (Region.noSelect_spec hsel) (fun _ _ _ q => q.elim) _ _ _ _ _ (Region.free_spec ho' hfree) hri hy hS hTe hk
          split at h
          · rename_i hg
            have hw := gd_wanted hg ha
            split at h
            · split at h
              · rename_i qs S
                obtain ⟨v, hy, hv⟩ := quietS_yields ha.ev h
                obtain ⟨ρ', ha', hk⟩ := putS_elim hv ha
                exact take (.inl ⟨hw, hy⟩) (hT _ (List.mem_cons.2 (.inl rfl))) (drG_sound ok hsel hL fl _ (some (i :: qs, S)) T ρ' _ w (by rw [markL_length]; exact hl) (hput ho v) ha' (fun g hg => by
                  rcases List.mem_cons.1 hg with rfl | hg
                  · exact hT (qs, S) (List.mem_cons.2 (.inl rfl))
                  · exact hT g (List.mem_cons.2 (.inr hg))) hk)
              · obtain ⟨S, hS, h⟩ := h
                obtain ⟨v, hy, hv⟩ := quietS_yields ha.ev h
                obtain ⟨ρ', ha', hk⟩ := putS_elim hv ha
                exact take (.inl ⟨hw, hy⟩) hS (drG_sound ok hsel hL fl _ (some ([i], S)) T ρ' _ w (by rw [markL_length]; exact hl) (hput ho v) ha' (fun g hg => by
                  rcases List.mem_cons.1 hg with rfl | hg
                  · exact hS
                  · exact hT g hg) hk)
            · obtain ⟨v, hy, hv⟩ := pureS_gives ha.ev h
              obtain ⟨ρ', ha', hk⟩ := putS_elim hv ha
              refine take (S := fun _ => True) (.inl ⟨hw, fun w _ => hy w⟩) trivial (wpAnyT_sub _ _ _ _ _ _ (fun p hp => ?_) (drG_sound ok hsel hL fl _ c T ρ' _ w (by rw [markL_length]; exact hl) (hput ho v) ha' hT hk))
              rcases List.mem_cons.1 hp with rfl | hp
              · exact .inr fun _ => trivial
              · exact .inl hp
          · rename_i hg
            have hw := gd_wanted hg ha
            refine take (S := fun _ => True) (.inr ⟨hw, rfl⟩) trivial (wpAnyT_sub _ _ _ _ _ _ (fun p hp => ?_) (drG_sound ok hsel hL fl _ c T _ _ w (by rw [markL_length]; exact hl) (hput ho _) (skip_agrees ha) hT h))
            rcases List.mem_cons.1 hp with rfl | hp
            · exact .inr fun _ => trivial
            · exact .inl hp
          · exact h.elim
        · exact h.elim
      · unfold gT at h
        cases hc : (lenLe (effL 0 (lightOf P ops ops) listed) (f :: fl) && (behE (effL 0 (lightOf P ops ops) listed) 0 (lightOf P ops ops) listed && (eachE n ops (lightOf P ops ops) (effL 0 (lightOf P ops ops) listed) listed (effL 0 (lightOf P ops ops) listed) && subN (outE (lightOf P ops ops) (effL 0 (lightOf P ops ops) listed)) (keysN vs)))) with
        | false => rw [hc] at h; exact h.elim
        | true =>
          rw [hc] at h
          simp only [Bool.and_eq_true] at hc
          obtain ⟨G, hG0, hGT, hobl, hfin⟩ := h
          have hE := effL_spec (lightOf P ops ops) listed 0
          have hEf : ∀ j ∈ effL 0 (lightOf P ops ops) listed, listed[j]? = some false := fun j hj => by simpa using (hE.1 j hj).2
          have hlen := lenLe_spec hc.1
          have hund : ∀ E : List Nat, undone (fun _ => false) E = E.length := fun E => by induction E with | nil => rfl | cons _ _ ih => simp [undone, ih]
          have := gT_sound ok hsel hL (K := K) (vs := vs) (fl := f :: fl) (T := addC c T) (ρ := ρ) (G := G) hl hE.2 hEf
            (fun j x hx hj hjE => behE_spec _ _ 0 hc.2.1 j x hx hj (by simpa using hjE)) (eachE_spec hc.2.2.1) (fun t ht => subN_mem hc.2.2.2 t ht) hGT (allL_elim hobl) hfin
            _ (fun _ => false) (fun t => a.tmps.getD t undef) listed a w rfl (fun j => by
              by_cases hj : j ∈ effL 0 (lightOf P ops ops) listed
              · rw [if_pos hj, hEf j hj]; rfl
              · rw [if_neg hj]) hs (ha.forget (.refl _ _) ha.defers ha.size) (fun j _ hd => by cases hd) (hG0 _)
          rw [hund] at this
          rw [hlen]
          exact this

def drX (m : Md) (P : Program) (n : Nat) (ops : List Oper) (K : Env → World → Prop) (ρ : Env) (w : World) : Prop :=
  match m with
  | .old => ∃ S : World → Prop, S w.drew ∧ drW .old P n ops (lightOf P ops ops) K ops (falses ops) S ρ w.drew
  | .named => drT false .named P n ops (lightOf P ops ops) K ops (falses ops) none [] ρ w.drew
  | .wild => drT false .wild P n ops (lightOf P ops ops) K ops (falses ops) none [] ρ w.drew

def drSX (m : Md) (P : Program) (n : Nat) (ops : List Oper) (K : Env → World → Prop) (ρ : Env) (w : World) : Prop :=
  drT2 m P n ops (lightOf P ops ops) K ops (falses ops) none [] ρ w.drew
def drGX (m : Md) (P : Program) (n : Nat) (vs : List (Nat × Ty)) (ops : List Oper) (K : Env → World → Prop) (ρ : Env) (w : World) : Prop :=
  drG m P n ops (lightOf P ops ops) K vs ops (falses ops) none [] ρ w.drew

/-! ## control flow -/
inductive Ann where
  | auto
  | seq (a b : Ann)
  | cond (a b : Ann)
  | block (a : Ann)
  | loop (vars : List (Nat × Ty)) (a : Ann)
  | join (vars : List (Nat × Ty)) (a b : Ann)
  | scope (l : Nat) (vars : List (Nat × Ty)) (a b : Ann)
  | named (a : Ann)

def wr : Code → List Nat
  | .region _ ops _ => opsDst ops.toList
  | .seq a b => wr a ++ wr b
  | .cond _ a b => wr a ++ wr b
  | .block _ a => wr a
  | .loop a => wr a
  | .scope a => wr a
  | _ => []

def nxt (K : Exit → Env → World → Prop) (f : Env → World → Prop) : Exit → Env → World → Prop
  | .normal, ρ, w => f ρ w
  | e, ρ, w => K e ρ w
def inBlk (id : Nat) (K : Exit → Env → World → Prop) : Exit → Env → World → Prop
  | .exit j, ρ, w => cond (Nat.beq j id) (K .normal ρ w) (K (.exit j) ρ w)
  | e, ρ, w => K e ρ w
def projS (vs : List (Nat × Ty)) (ρ : Env) (k : List AV → Prop) : Prop := match projVars vs ρ with | some l => k l | none => False

def isLabel (l : Nat) : Code → Bool
  | .label m => Nat.beq m l
  | _ => false
def onSpine (l : Nat) : Code → Bool
  | .label m => Nat.beq m l
  | .seq a b => cond (onSpine l a) true (onSpine l b)
  | _ => false
def jumpTo (l : Nat) (f : Env → World → Prop) (K : Exit → Env → World → Prop) : Exit → Env → World → Prop
  | .goto m, ρ, w => cond (Nat.beq m l) (f ρ w) False
  | e, ρ, w => K e ρ w
def cWf (m : Md) (P : Program) (n : Nat) : Option Nat → Ann → Code → (Exit → Env → World → Prop) → Env → World → Prop
  | some l, an, .seq x y, K, ρ, w => cond (isLabel l x) (cWf m P n none an y K ρ w) (cond (onSpine l x) False (cWf m P n (some l) an y K ρ w))
  | some _, _, _, _, _, _ => False
  | none, _, .skip, K, ρ, w => K .normal ρ w
  | none, _, .region id ops false, K, ρ, w => regW m P n ops.toList 0 ops.toList (K .normal) ρ w
  | none, .loop vs _, .region id ops true, K, ρ, w => cond (noSel ops.toList) (drGX m P n vs ops.toList (K .normal) ρ w) False
  | none, .block _, .region id ops true, K, ρ, w => cond (noSel ops.toList) (drSX m P n ops.toList (K .normal) ρ w) False
  | none, _, .region id ops true, K, ρ, w => cond (noSel ops.toList) (drX m P n ops.toList (K .normal) ρ w) False
  | none, .seq a b, .seq x y, K, ρ, w => cWf m P n none a x (nxt K fun ρ w => cWf m P n none b y K ρ w) ρ w
  | none, .join vs a b, .seq x y, K, ρ, w => ∃ J : Cur Prop (varsAts vs), allA (varsAts vs) (fun l => ∀ w, app False (varsAts vs) J l w → cWf m P n none b y K (setVars vs l (ρ.forget (wr x))) w) ∧
      cWf m P n none a x (nxt K fun ρ' w' => projS vs ρ' fun l => app False (varsAts vs) J l w') ρ w
  | none, _, .seq x y, K, ρ, w => cWf m P n none .auto x (nxt K fun ρ w => cWf m P n none .auto y K ρ w) ρ w
  | none, .cond a b, .cond c x y, K, ρ, w => (match ev ρ c with | some (.bool t) => cond t (cWf m P n none a x K ρ w) (cWf m P n none b y K ρ w) | _ => False)
  | none, _, .cond c x y, K, ρ, w => (match ev ρ c with | some (.bool t) => cond t (cWf m P n none .auto x K ρ w) (cWf m P n none .auto y K ρ w) | _ => False)
  | none, .block a, .block id x, K, ρ, w => cWf m P n none a x (inBlk id K) ρ w
  | none, _, .block id x, K, ρ, w => cWf m P n none .auto x (inBlk id K) ρ w
  | none, .loop vs a, .loop x, K, ρ, w => projS vs ρ fun l₀ => ∃ (I : Cur Prop (varsAts vs)) (μ : Cur Nat (varsAts vs)), app False (varsAts vs) I l₀ w ∧
      allA (varsAts vs) fun l => ∀ w, app False (varsAts vs) I l w →
        cWf m P n none a x (nxt K fun ρ' w' => projS vs ρ' fun l' => app False (varsAts vs) I l' w' ∧ app 0 (varsAts vs) μ l' w' < app 0 (varsAts vs) μ l w) (setVars vs l (ρ.forget (wr x))) w
  | none, .scope l vs a b, .scope x, K, ρ, w => cond (onSpine l x) (∃ (I : Cur Prop (varsAts vs)) (μ : Cur Nat (varsAts vs)), cWf m P n none a x (jumpTo l (fun ρ' w' => projS vs ρ' fun l' => app False (varsAts vs) I l' w') K) ρ w ∧
      allA (varsAts vs) fun v => ∀ w, app False (varsAts vs) I v w →
        cWf m P n (some l) b x (jumpTo l (fun ρ' w' => projS vs ρ' fun l' => app False (varsAts vs) I l' w' ∧ app 0 (varsAts vs) μ l' w' < app 0 (varsAts vs) μ v w) K) (setVars vs v (ρ.forget (wr x))) w) False
  | none, _, .label _, K, ρ, w => K .normal ρ w
  | none, _, .goto l, K, ρ, w => K (.goto l) ρ w
  | none, _, .exit id, K, ρ, w => K (.exit id) ρ w
  | none, _, .ret, K, ρ, w => K .ret ρ w
  | none, _, _, _, _, _ => False

abbrev cW (m : Md) (P : Program) (n : Nat) : Ann → Code → (Exit → Env → World → Prop) → Env → World → Prop := cWf m P n none

theorem then_QW {P : Program} {n : Nat} {L : List Nat} {a₀ : Act} {K : Exit → Env → World → Prop} {y : Code} {f : Env → World → Prop}
    (hy : ∀ ρ a w, SameBut L a₀ a → Agrees n ρ a → f ρ w → y.wp P (QW n L a₀ K) a w) :
    ∀ e a w, QW n L a₀ (nxt K f) e a w → Exit.then (y.wp P (QW n L a₀ K)) (QW n L a₀ K) e a w := by
  intro e a w h
  cases e with
  | normal => obtain ⟨hs, ρ, ha, hf⟩ := h; exact hy ρ a w hs ha hf
  | exit id => exact h
  | goto l => exact h
  | ret => exact h
  | panic c => exact h
  | outgrown => exact h

theorem QW_mono {n : Nat} {L L' : List Nat} {a₀ a₁ : Act} {K : Exit → Env → World → Prop} (hs : ∀ a, SameBut L a₀ a → SameBut L' a₁ a) {e : Exit} {a : Act} {w : World} (h : QW n L a₀ K e a w) : QW n L' a₁ K e a w := by
  cases e <;> first | exact h | exact ⟨hs _ h.1, h.2⟩

theorem findLabel_none {l : Nat} : ∀ {c : Code}, onSpine l c = false → findLabel c l = none := by
  intro c
  induction c with
  | seq a b iha ihb =>
    intro h
    cases ha : onSpine l a with
    | true => simp [onSpine, ha] at h
    | false => simp [onSpine, ha] at h; simp [findLabel, iha ha, ihb h]
  | label m => intro h; have h2 := Nat.ne_of_beq_eq_false (show Nat.beq m l = false from h); simp [findLabel, h2]
  | _ => intro _; rfl
theorem findLabel_some {l : Nat} : ∀ {c : Code}, onSpine l c = true → ∃ r, findLabel c l = some r := by
  intro c
  induction c with
  | seq a b iha ihb =>
    intro h
    cases ha : onSpine l a with
    | true => obtain ⟨r, hr⟩ := iha ha; exact ⟨.seq r b, by simp [findLabel, hr]⟩
    | false => simp [onSpine, ha] at h; obtain ⟨r, hr⟩ := ihb h; exact ⟨r, by simp [findLabel, findLabel_none ha, hr]⟩
  | label m => intro h; simp [onSpine] at h; exact ⟨.skip, by simp [findLabel, h]⟩
  | _ => intro h; simp [onSpine] at h

theorem cWf_sound {m : Md} {P : Program} (ok : Okay P) {n : Nat} {a₀ : Act} : ∀ (c : Code), (∀ (an : Ann) (L : List Nat) (K : Exit → Env → World → Prop) (ρ : Env) (a : Act) (w : World),
    (∀ t, t ∈ wr c → t ∈ L) → SameBut L a₀ a → Agrees n ρ a → cWf m P n none an c K ρ w → c.wp P (QW n L a₀ K) a w) ∧
    (∀ (l : Nat) (an : Ann) (L : List Nat) (K : Exit → Env → World → Prop) (ρ : Env) (a : Act) (w : World),
    (∀ t, t ∈ wr c → t ∈ L) → SameBut L a₀ a → Agrees n ρ a → cWf m P n (some l) an c K ρ w → ∃ rest, findLabel c l = some rest ∧ rest.wp P (QW n L a₀ K) a w) := by
  intro c
  induction c generalizing a₀ with
  | skip =>
    refine ⟨?_, (fun l an L K ρ a w _ _ _ h => h.elim)⟩
    intro an L K ρ a w _ hs ha h; exact wp_skip ⟨hs, ρ, ha, by cases an <;> exact h⟩
  | region id ops draw =>
    refine ⟨?_, (fun l an L K ρ a w _ _ _ h => h.elim)⟩
    intro an L K ρ a w hL hs ha h
    cases draw with
    | false =>
      have h' : regW m P n ops.toList 0 ops.toList (K .normal) ρ w := by cases an <;> exact h
      have := regW_sound ok (L := L) (fun t ht => hL t (by simpa [wr] using ht)) (a₀ := a₀) (K := K) ops.toList 0 ρ a w (fun _ h => h) hs ha h'
      exact wp_region_list (by simpa using this)
    | true =>
      have h0 : (∃ vs, cond (noSel ops.toList) (drGX m P n vs ops.toList (K .normal) ρ w) False) ∨ cond (noSel ops.toList) (drSX m P n ops.toList (K .normal) ρ w) False ∨ cond (noSel ops.toList) (drX m P n ops.toList (K .normal) ρ w) False := by
        cases an <;> first | exact .inr (.inr h) | exact .inl ⟨_, h⟩ | exact .inr (.inl h)
      cases hsel : noSel ops.toList with
      | false => rw [hsel] at h0; rcases h0 with ⟨_, h'⟩ | h' | h' <;> exact h'.elim
      | true =>
        rw [hsel] at h0
        have hf : ∀ l : List Oper, (falses l).length = l.length := fun l => by induction l with | nil => rfl | cons _ _ ih => simp [falses, ih]
        have hfa : ∀ l : List Oper, (falses l).toArray = Array.replicate l.length false := fun l => by
          have : falses l = List.replicate l.length false := by induction l with | nil => rfl | cons _ _ ih => simp [falses, ih, List.replicate_succ]
          rw [this]; simp
        rcases h0 with ⟨vs, h'⟩ | h' | h'
        rotate_left
        · have := drT2_sound ok (noSel_eq hsel) (L := L) (fun t ht => hL t (by simpa [wr] using ht)) (a₀ := a₀) (K := K) ops.toList _ none [] ρ a _ (hf _) (closed_falses _) hs ha (fun _ h => by cases h) h'
          rw [hfa] at this
          simp only [Array.toArray_toList, Array.length_toList] at this
          exact wp_region_any ok.mixed (wpAny_of_T2 _ _ _ _ _ this)
        rotate_left
        · have := drG_sound ok (noSel_eq hsel) (L := L) (fun t ht => hL t (by simpa [wr] using ht)) (a₀ := a₀) (K := K) (vs := vs) ops.toList _ none [] ρ a _ (hf _) hs ha (fun _ h => by cases h) h'
          rw [hfa] at this
          simp only [Array.toArray_toList, Array.length_toList] at this
          exact wp_region_any ok.mixed (wpAny_of_T _ _ _ _ _ this)
        cases m with
        | named =>
          have := drT_sound ok (noSel_eq hsel) (L := L) (fun t ht => hL t (by simpa [wr] using ht)) (a₀ := a₀) (K := K) ops.toList _ none [] ρ a _ (hf _) hs ha (fun _ h => by cases h) h'
          rw [hfa] at this
          simp only [Array.toArray_toList, Array.length_toList] at this
          exact wp_region_any ok.mixed (wpAny_of_T _ _ _ _ _ this)
        | wild =>
          have := drT_sound ok (noSel_eq hsel) (L := L) (fun t ht => hL t (by simpa [wr] using ht)) (a₀ := a₀) (K := K) ops.toList _ none [] ρ a _ (hf _) hs ha (fun _ h => by cases h) h'
          rw [hfa] at this
          simp only [Array.toArray_toList, Array.length_toList] at this
          exact wp_region_any ok.mixed (wpAny_of_T _ _ _ _ _ this)
        | old =>
          obtain ⟨S, hS, hd⟩ := h'
          have := drW_sound ok (noSel_eq hsel) (L := L) (fun t ht => hL t (by simpa [wr] using ht)) (a₀ := a₀) (K := K) ops.toList _ S ρ a _ (hf _) hs ha hS hd
          rw [hfa] at this
          simp only [Array.toArray_toList, Array.length_toList] at this
          exact wp_region_held ok.mixed this
  | seq x y ihx ihy =>
    refine ⟨?_, ?_⟩
    · intro an L K ρ a w hL hs ha h
      have hx : ∀ t, t ∈ wr x → t ∈ L := fun t ht => hL t (by simp [wr, ht])
      have hy : ∀ t, t ∈ wr y → t ∈ L := fun t ht => hL t (by simp [wr, ht])
      have plain : ∀ (a1 b1 : Ann), cW m P n a1 x (nxt K fun ρ w => cW m P n b1 y K ρ w) ρ w → (Code.seq x y).wp P (QW n L a₀ K) a w := fun a1 b1 h =>
        wp_seq (Code.wp_mono (then_QW fun ρ' a' w' hs' ha' hf => ihy.1 b1 L K ρ' a' w' hy hs' ha' hf) (ihx.1 a1 L _ ρ a w hx hs ha h))
      cases an with
      | seq a1 b1 => exact plain a1 b1 h
      | join vs a1 b1 =>
        obtain ⟨J, hrest, hfirst⟩ := h
        have h1 := (ihx (a₀ := a)).1 a1 (wr x) _ ρ a w (fun _ h => h) (.refl _ _) ha hfirst
        refine wp_seq (Code.wp_mono ?_ h1)
        intro e a' w' hq
        cases e with
        | normal =>
          obtain ⟨hs', ρ', ha', hp⟩ := hq
          simp only [nxt, projS] at hp
          split at hp
          · rename_i l hl
            have hcw := allA_elim (projVars_typed hl) hrest w' hp
            refine ihy.1 b1 L K _ a' w' hy (hs.trans (hs'.mono hx)) (setVars_agrees hl ha' (ha.forget hs' ha'.defers ha'.size)) hcw
          · exact hp.elim
        | exit id => exact QW_mono (fun b hb => hs.trans (hb.mono hx)) hq
        | goto l => exact QW_mono (fun b hb => hs.trans (hb.mono hx)) hq
        | ret => exact QW_mono (fun b hb => hs.trans (hb.mono hx)) hq
        | panic c => exact hq
        | outgrown => exact hq
      | auto => exact plain _ _ h
      | cond _ _ => exact plain _ _ h
      | block _ => exact plain _ _ h
      | loop _ _ => exact plain _ _ h
      | scope _ _ _ _ => exact plain _ _ h
      | named _ => exact plain _ _ h
    · intro l an L K ρ a w hL hs ha h
      have hy : ∀ t, t ∈ wr y → t ∈ L := fun t ht => hL t (by simp [wr, ht])
      have h' : cond (isLabel l x) (cWf m P n none an y K ρ w) (cond (onSpine l x) False (cWf m P n (some l) an y K ρ w)) := h
      cases hl : isLabel l x with
      | true =>
        rw [hl] at h'
        have hx : x = .label l := by
          cases x <;> simp [isLabel] at hl
          rw [hl]
        subst hx
        exact ⟨.seq .skip y, by simp [findLabel], wp_seq (wp_skip (ihy.1 an L K ρ a w hy hs ha h'))⟩
      | false =>
        rw [hl] at h'
        cases hsp : onSpine l x with
        | true => rw [hsp] at h'; exact h'.elim
        | false =>
          rw [hsp] at h'
          obtain ⟨rest, hr, hw⟩ := ihy.2 l an L K ρ a w hy hs ha h'
          exact ⟨rest, by simp [findLabel, findLabel_none hsp, hr], hw⟩
  | cond c x y ihx ihy =>
    refine ⟨?_, (fun l an L K ρ a w _ _ _ h => h.elim)⟩
    intro an L K ρ a w hL hs ha h
    have hx : ∀ t, t ∈ wr x → t ∈ L := fun t ht => hL t (by simp [wr, ht])
    have hy : ∀ t, t ∈ wr y → t ∈ L := fun t ht => hL t (by simp [wr, ht])
    have plain : ∀ (a1 b1 : Ann), (match ev ρ c with | some (.bool t) => cond t (cW m P n a1 x K ρ w) (cW m P n b1 y K ρ w) | _ => False) → (Code.cond c x y).wp P (QW n L a₀ K) a w := by
      intro a1 b1 h
      split at h
      · rename_i t ht
        refine wp_cond_split (ha.ev c _ ht) (fun e => ?_) (fun e => ?_)
        · subst e; exact ihx.1 a1 L K ρ a w hx hs ha h
        · subst e; exact ihy.1 b1 L K ρ a w hy hs ha h
      · exact h.elim
    cases an with
    | cond a1 b1 => exact plain a1 b1 h
    | auto => exact plain _ _ h
    | seq _ _ => exact plain _ _ h
    | block _ => exact plain _ _ h
    | loop _ _ => exact plain _ _ h
    | join _ _ _ => exact plain _ _ h
    | scope _ _ _ _ => exact plain _ _ h
    | named _ => exact plain _ _ h
  | block id x ih =>
    refine ⟨?_, (fun l an L K ρ a w _ _ _ h => h.elim)⟩
    intro an L K ρ a w hL hs ha h
    have plain : ∀ a1, cW m P n a1 x (inBlk id K) ρ w → (Code.block id x).wp P (QW n L a₀ K) a w := by
      intro a1 h
      refine wp_block (Code.wp_mono ?_ (ih.1 a1 L _ ρ a w hL hs ha h))
      intro e a' w' hq
      cases e with
      | exit j =>
        obtain ⟨hs', ρ', ha', hk⟩ := hq
        simp only [inBlk] at hk
        simp only [Exit.inBlock]
        cases hj : Nat.beq j id with
        | true => have := Nat.eq_of_beq_eq_true hj; subst this; rw [hj] at hk; rw [if_pos rfl]; exact ⟨hs', ρ', ha', hk⟩
        | false => have := Nat.ne_of_beq_eq_false hj; rw [hj] at hk; rw [if_neg this]; exact ⟨hs', ρ', ha', hk⟩
      | normal => exact hq
      | goto l => exact hq
      | ret => exact hq
      | panic c => exact hq
      | outgrown => exact hq
    cases an with
    | block a1 => exact plain a1 h
    | auto => exact plain _ h
    | seq _ _ => exact plain _ h
    | cond _ _ => exact plain _ h
    | loop _ _ => exact plain _ h
    | join _ _ _ => exact plain _ h
    | scope _ _ _ _ => exact plain _ h
    | named _ => exact plain _ h
  | loop x ih =>
    refine ⟨?_, (fun l an L K ρ a w _ _ _ h => h.elim)⟩
    intro an L K ρ a w hL hs ha h
    cases an with
    | loop vs a1 =>
      have h' : projS vs ρ fun l₀ => ∃ (I : Cur Prop (varsAts vs)) (μ : Cur Nat (varsAts vs)), app False (varsAts vs) I l₀ w ∧
        allA (varsAts vs) fun l => ∀ w, app False (varsAts vs) I l w →
        cW m P n a1 x (nxt K fun ρ' w' => projS vs ρ' fun l' => app False (varsAts vs) I l' w' ∧ app 0 (varsAts vs) μ l' w' < app 0 (varsAts vs) μ l w) (setVars vs l (ρ.forget (wr x))) w := h
      unfold projS at h'
      split at h'
      · rename_i l₀ hl₀
        obtain ⟨I, μ, h0, hround⟩ := h'
        -- the invariant on acts
        let val (a' : Act) (l : List AV) : Prop := SameBut (wr x) a a' ∧ ∃ ρ', Agrees n ρ' a' ∧ projVars vs ρ' = some l
        have uniq : ∀ a' l l', val a' l → val a' l' → l = l' := by
          rintro a' l l' ⟨_, ρ1, ha1, hp1⟩ ⟨_, ρ2, ha2, hp2⟩
          have : ∀ (vs : List (Nat × Ty)) l l', projVars vs ρ1 = some l → projVars vs ρ2 = some l' → l = l' := by
            intro vs
            induction vs with
            | nil => intro l l' h1 h2; exact (Option.some.inj h1).symm.trans (Option.some.inj h2)
            | cons p vs ihv =>
              intro l l' h1 h2
              obtain ⟨t, ty⟩ := p
              simp only [projVars] at h1 h2
              cases e1 : ρ1 t with
              | none => simp [e1] at h1
              | some v1 =>
                cases e2 : ρ2 t with
                | none => simp [e2] at h2
                | some v2 =>
                  have hv : v1 = v2 := by have := ha1.at_ t v1 e1; rw [ha2.at_ t v2 e2] at this; simpa using this.symm
                  subst hv
                  cases q : ty.proj v1 with
                  | none => simp [e1, q] at h1
                  | some x1 =>
                    cases r1 : projVars vs ρ1 with
                    | none => simp [e1, q, r1] at h1
                    | some y1 =>
                      cases r2 : projVars vs ρ2 with
                      | none => simp [e2, q, r2] at h2
                      | some y2 =>
                        simp [e1, e2, q, r1, r2] at h1 h2
                        rw [← h1, ← h2, ihv y1 y2 r1 r2]
          exact this vs l l' hp1 hp2
        refine wp_loop (fun a' w' => ∃ l, val a' l ∧ app False (varsAts vs) I l w')
          (fun a' w' => open Classical in if h : ∃ l, val a' l then app 0 (varsAts vs) μ h.choose w' else 0) ⟨l₀, ⟨.refl _ _, ρ, ha, hl₀⟩, h0⟩ ?_
        rintro a' w' ⟨l, hval, hI⟩
        obtain ⟨hs', ρ', ha', hl⟩ := id hval
        have hμ : ∀ a'' l'' w'', val a'' l'' → (open Classical in if h : ∃ l, val a'' l then app 0 (varsAts vs) μ h.choose w'' else 0) = app 0 (varsAts vs) μ l'' w'' := by
          intro a'' l'' w'' hv
          have hex : ∃ l, val a'' l := ⟨l'', hv⟩
          rw [dif_pos hex, uniq a'' _ _ hex.choose_spec hv]
        have hcw := allA_elim (projVars_typed hl) hround w' hI
        have hag : Agrees n (setVars vs l (ρ.forget (wr x))) a' := setVars_agrees hl ha' (ha.forget hs' ha'.defers ha'.size)
        have hb := (ih (a₀ := a')).1 a1 (wr x) _ _ a' w' (fun _ h => h) (.refl _ _) hag hcw
        refine Code.wp_mono ?_ hb
        intro e a2 w2 hq
        cases e with
        | normal =>
          obtain ⟨hs2, ρ2, ha2, hp⟩ := hq
          simp only [nxt, projS] at hp
          split at hp
          · rename_i l2 hl2
            have hv2 : val a2 l2 := ⟨hs'.trans hs2, ρ2, ha2, hl2⟩
            refine ⟨⟨l2, hv2, hp.1⟩, ?_⟩
            rw [hμ a2 l2 w2 hv2, hμ a' l w' hval]
            exact hp.2
          · exact hp.elim
        | exit id => exact QW_mono (fun b hb => hs.trans ((hs'.trans hb).mono hL)) hq
        | goto l => exact QW_mono (fun b hb => hs.trans ((hs'.trans hb).mono hL)) hq
        | ret => exact QW_mono (fun b hb => hs.trans ((hs'.trans hb).mono hL)) hq
        | panic c => exact hq
        | outgrown => exact hq
      · exact h'.elim
    | auto => exact False.elim h
    | seq _ _ => exact False.elim h
    | cond _ _ => exact False.elim h
    | block _ => exact False.elim h
    | join _ _ _ => exact False.elim h
    | scope _ _ _ _ => exact False.elim h
    | named _ => exact False.elim h
  | exit id =>
    refine ⟨?_, (fun l an L K ρ a w _ _ _ h => h.elim)⟩
    intro an L K ρ a w _ hs ha h; exact wp_exit ⟨hs, ρ, ha, by cases an <;> exact h⟩
  | ret =>
    refine ⟨?_, (fun l an L K ρ a w _ _ _ h => h.elim)⟩
    intro an L K ρ a w _ hs ha h; exact wp_ret ⟨hs, ρ, ha, by cases an <;> exact h⟩
  | rangeFunc f ps as b _ _ =>
    refine ⟨?_, (fun l an L K ρ a w _ _ _ h => h.elim)⟩
    intro an L K ρ a w _ hs ha h; cases an <;> exact False.elim h
  | scope x ih =>
    refine ⟨?_, (fun l an L K ρ a w _ _ _ h => h.elim)⟩
    intro an L K ρ a w hL hs ha h
    cases an with
    | scope lab vs a1 b1 =>
      have h' : cond (onSpine lab x) (∃ (I : Cur Prop (varsAts vs)) (μ : Cur Nat (varsAts vs)), cWf m P n none a1 x (jumpTo lab (fun ρ' w' => projS vs ρ' fun l' => app False (varsAts vs) I l' w') K) ρ w ∧
        allA (varsAts vs) fun v => ∀ w, app False (varsAts vs) I v w →
          cWf m P n (some lab) b1 x (jumpTo lab (fun ρ' w' => projS vs ρ' fun l' => app False (varsAts vs) I l' w' ∧ app 0 (varsAts vs) μ l' w' < app 0 (varsAts vs) μ v w) K) (setVars vs v (ρ.forget (wr x))) w) False := h
      cases hsp : onSpine lab x with
      | false => rw [hsp] at h'; exact h'.elim
      | true =>
        rw [hsp] at h'
        obtain ⟨I, μ, hfirst, hround⟩ := h'
        obtain ⟨rest, hrest⟩ := findLabel_some hsp
        -- the invariant on acts
        let val (a' : Act) (l : List AV) : Prop := SameBut (wr x) a a' ∧ ∃ ρ', Agrees n ρ' a' ∧ projVars vs ρ' = some l
        have uniq : ∀ a' l l', val a' l → val a' l' → l = l' := by
          rintro a' l l' ⟨_, ρ1, ha1, hp1⟩ ⟨_, ρ2, ha2, hp2⟩
          have : ∀ (vs : List (Nat × Ty)) l l', projVars vs ρ1 = some l → projVars vs ρ2 = some l' → l = l' := by
            intro vs
            induction vs with
            | nil => intro l l' h1 h2; exact (Option.some.inj h1).symm.trans (Option.some.inj h2)
            | cons p vs ihv =>
              intro l l' h1 h2
              obtain ⟨t, ty⟩ := p
              simp only [projVars] at h1 h2
              cases e1 : ρ1 t with
              | none => simp [e1] at h1
              | some v1 =>
                cases e2 : ρ2 t with
                | none => simp [e2] at h2
                | some v2 =>
                  have hv : v1 = v2 := by have := ha1.at_ t v1 e1; rw [ha2.at_ t v2 e2] at this; simpa using this.symm
                  subst hv
                  cases q : ty.proj v1 with
                  | none => simp [e1, q] at h1
                  | some x1 =>
                    cases r1 : projVars vs ρ1 with
                    | none => simp [e1, q, r1] at h1
                    | some y1 =>
                      cases r2 : projVars vs ρ2 with
                      | none => simp [e2, q, r2] at h2
                      | some y2 =>
                        simp [e1, e2, q, r1, r2] at h1 h2
                        rw [← h1, ← h2, ihv y1 y2 r1 r2]
          exact this vs l l' hp1 hp2
        have hμ : ∀ a'' l'' w'', val a'' l'' → (open Classical in if h : ∃ l, val a'' l then app 0 (varsAts vs) μ h.choose w'' else 0) = app 0 (varsAts vs) μ l'' w'' := by
          intro a'' l'' w'' hv
          have hex : ∃ l, val a'' l := ⟨l'', hv⟩
          rw [dif_pos hex, uniq a'' _ _ hex.choose_spec hv]
        refine wp_scope_jumps lab (fun a' w' => ∃ l, val a' l ∧ app False (varsAts vs) I l w')
          (fun a' w' => open Classical in if h : ∃ l, val a' l then app 0 (varsAts vs) μ h.choose w' else 0) hrest ?_ ?_
        · refine Code.wp_mono ?_ ((ih (a₀ := a)).1 a1 (wr x) _ ρ a w (fun _ h => h) (.refl _ _) ha hfirst)
          intro e a' w' hq
          cases e with
          | goto m =>
            obtain ⟨hs', ρ', ha', hp⟩ := hq
            simp only [jumpTo] at hp
            cases hm : Nat.beq m lab with
            | false => rw [hm] at hp; exact hp.elim
            | true =>
              rw [hm] at hp
              simp only [cond_true, projS] at hp
              split at hp
              · rename_i l hl
                exact ⟨Nat.eq_of_beq_eq_true hm, l, ⟨hs', ρ', ha', hl⟩, hp⟩
              · exact hp.elim
          | normal => exact QW_mono (fun b hb => hs.trans (hb.mono hL)) hq
          | exit id => exact QW_mono (fun b hb => hs.trans (hb.mono hL)) hq
          | ret => exact QW_mono (fun b hb => hs.trans (hb.mono hL)) hq
          | panic c => exact hq
          | outgrown => exact hq
        · rintro a' w' ⟨l, hval, hI⟩
          obtain ⟨hs', ρ', ha', hl⟩ := id hval
          have hcw := allA_elim (projVars_typed hl) hround w' hI
          have hag : Agrees n (setVars vs l (ρ.forget (wr x))) a' := setVars_agrees hl ha' (ha.forget hs' ha'.defers ha'.size)
          obtain ⟨rest', hr', hb⟩ := (ih (a₀ := a')).2 lab b1 (wr x) _ _ a' w' (fun _ h => h) (.refl _ _) hag hcw
          rw [hrest] at hr'
          cases hr'
          refine Code.wp_mono ?_ hb
          intro e a'' w'' hq
          cases e with
          | goto m =>
            obtain ⟨hs'', ρ'', ha'', hp⟩ := hq
            simp only [jumpTo] at hp
            cases hm : Nat.beq m lab with
            | false => rw [hm] at hp; exact hp.elim
            | true =>
              rw [hm] at hp
              simp only [cond_true, projS] at hp
              split at hp
              · rename_i l2 hl2
                have hv2 : val a'' l2 := ⟨hs'.trans hs'', ρ'', ha'', hl2⟩
                refine ⟨Nat.eq_of_beq_eq_true hm, ⟨l2, hv2, hp.1⟩, ?_⟩
                rw [hμ a'' l2 w'' hv2, hμ a' l w' hval]
                exact hp.2
              · exact hp.elim
          | normal => exact QW_mono (fun b hb => hs.trans ((hs'.trans hb).mono hL)) hq
          | exit id => exact QW_mono (fun b hb => hs.trans ((hs'.trans hb).mono hL)) hq
          | ret => exact QW_mono (fun b hb => hs.trans ((hs'.trans hb).mono hL)) hq
          | panic c => exact hq
          | outgrown => exact hq
    | auto => exact False.elim h
    | seq _ _ => exact False.elim h
    | cond _ _ => exact False.elim h
    | block _ => exact False.elim h
    | loop _ _ => exact False.elim h
    | join _ _ _ => exact False.elim h
    | named _ => exact False.elim h
  | label l =>
    refine ⟨?_, (fun l an L K ρ a w _ _ _ h => h.elim)⟩
    intro an L K ρ a w _ hs ha h; exact wp_label ⟨hs, ρ, ha, by cases an <;> exact h⟩
  | goto l =>
    refine ⟨?_, (fun l an L K ρ a w _ _ _ h => h.elim)⟩
    intro an L K ρ a w _ hs ha h; exact wp_goto ⟨hs, ρ, ha, by cases an <;> exact h⟩
  | refuse s =>
    refine ⟨?_, (fun l an L K ρ a w _ _ _ h => h.elim)⟩
    intro an L K ρ a w _ hs ha h; cases an <;> exact False.elim h

theorem cW_sound {m : Md} {P : Program} (ok : Okay P) {n : Nat} {a₀ : Act} (c : Code) (an : Ann) (L : List Nat) (K : Exit → Env → World → Prop) (ρ : Env) (a : Act) (w : World)
    (hL : ∀ t, t ∈ wr c → t ∈ L) (hs : SameBut L a₀ a) (ha : Agrees n ρ a) (h : cW m P n an c K ρ w) : c.wp P (QW n L a₀ K) a w := (cWf_sound ok c).1 an L K ρ a w hL hs ha h

/-! ## functions -/
def argEnv : Nat → List Value → Env
  | _, [], _ => none
  | i, v :: vs, t => bif Nat.beq t i then some v else argEnv (i + 1) vs t
def resS (P : Program) (ρ : Env) (w : World) : List ResultVar → (List Value → Prop) → Prop
  | [], k => k []
  | .tmp t :: l, k => (match ρ t with | some v => resS P ρ w l fun vs => k (v :: vs) | none => False)
  | .cell a t :: l, k => (match ρ a with
    | some (.pointer (some ad)) => readT P t (fun ad v => w.cell? ad = some v) ad fun v => resS P ρ w l fun vs => k (v :: vs)
    | _ => False)
def one : List Value → Value
  | [v] => v
  | l => .tuple l.toArray
def fnK (P : Program) (res : List ResultVar) (K : Value → World → Prop) : Exit → Env → World → Prop
  | .normal, ρ, w => resS P ρ w res fun vs => K (one vs) w
  | .ret, ρ, w => resS P ρ w res fun vs => K (one vs) w
  | _, _, _ => False
def nmd : Ann → Md | .named (.named _) => .wild | .named _ => .named | _ => .old
def bare : Ann → Ann | .named (.named a) => a | .named a => a | a => a
def fnW (P : Program) (fn : Func) (an : Ann) (args : List Value) (w : World) (K : Value → World → Prop) : Prop :=
  match fn.body with
  | some c => cond (Nat.ble args.length fn.ntmps) (cW (nmd an) P fn.ntmps (bare an) c (fnK P fn.results.toList K) (argEnv 0 args) w) False
  | none => False

theorem argEnv_get : ∀ (vs : List Value) (i t : Nat) (v : Value), argEnv i vs t = some v → i ≤ t ∧ vs[t - i]? = some v
  | [], i, t, v, h => by simp [argEnv] at h
  | x :: vs, i, t, v, h => by
    simp only [argEnv] at h
    cases hb : Nat.beq t i with
    | true => have := Nat.eq_of_beq_eq_true hb; subst this; simp [hb] at h; subst h; simp
    | false =>
      have hne := Nat.ne_of_beq_eq_false hb
      simp [hb] at h
      obtain ⟨h1, h2⟩ := argEnv_get vs (i + 1) t v h
      refine ⟨by omega, ?_⟩
      rw [show t - i = (t - (i + 1)) + 1 by omega]
      simpa using h2

def resF (a : Act) : ResultVar → Sem Value
  | .tmp t => pure (a.tmps.getD t undef)
  | .cell ad t => do loadVar t (← asAddr (a.tmps.getD ad undef))
theorem resS_run {P : Program} {n : Nat} {ρ : Env} {a : Act} (ha : Agrees n ρ a) {w : World} : ∀ {l : List ResultVar} {k : List Value → Prop}, resS P ρ w l k →
    ∃ vs, (l.mapM (resF a)).run P w = .ok vs w ∧ k vs
  | [], k, h => ⟨[], rfl, h⟩
  | .tmp t :: l, k, h => by
    simp only [resS] at h
    split at h
    · rename_i v hv
      obtain ⟨vs, hr, hk⟩ := resS_run ha h
      refine ⟨v :: vs, ?_, hk⟩
      have h1 := ha.at_ t v hv
      have e : (resF a (.tmp t)).run P w = .ok v w := by simp [resF, Array.getD_eq_getD_getElem?, h1]
      simp only [List.mapM_cons, Sem.run_bind, e, Sem.run_pure, Result.andThen_ok, hr]
    · exact h.elim
  | .cell ad t :: l, k, h => by
    simp only [resS] at h
    split at h
    · rename_i p hp
      obtain ⟨v, hv, h⟩ := readT_elim h
      obtain ⟨vs, hr, hk⟩ := resS_run ha h
      refine ⟨v :: vs, ?_, hk⟩
      have h1 := ha.at_ ad _ hp
      have hl := hv w (fun _ _ h => h)
      have e : (resF a (.cell ad t)).run P w = .ok v w := by simp [resF, Array.getD_eq_getD_getElem?, h1, asAddr, hl]
      simp only [List.mapM_cons, Sem.run_bind, e, Sem.run_pure, Result.andThen_ok, hr]
    · exact h.elim

theorem fnW_calls {P : Program} (ok : Okay P) {f : FuncId} {fn : Func} (hf : P.funcs[f]? = some fn) {an : Ann} {args : List Value} {w : World} {K : Value → World → Prop}
    (h : fnW P fn an args w K) : CallsV P f args.toArray w K := by
  unfold fnW at h
  split at h
  · rename_i c hc
    cases hle : Nat.ble args.length fn.ntmps with
    | false => rw [hle] at h; exact h.elim
    | true =>
      rw [hle] at h
      have hle' := Nat.le_of_ble_eq_true hle
      refine calls_of_wp hf hc ?_
      have ha : Agrees fn.ntmps (argEnv 0 args) { tmps := args.toArray ++ Array.replicate (fn.ntmps - args.toArray.size) undef, defers := [] } := by
        refine ⟨rfl, by simp; omega, fun t v hv => ?_⟩
        obtain ⟨_, h2⟩ := argEnv_get args 0 t v hv
        have hlt : t < args.length := by
          rcases Nat.lt_or_ge t args.length with h | h
          · exact h
          · rw [List.getElem?_eq_none (by simpa using h)] at h2; cases h2
        rw [Array.getElem?_append_left (by simpa using hlt)]
        simpa using h2
      refine Code.wp_mono ?_ (cW_sound ok (a₀ := _) c (bare an) (wr c) _ _ _ w (fun _ h => h) (.refl _ _) ha h)
      have fin : ∀ (a' : Act) (w' : World), (∃ ρ, Agrees fn.ntmps ρ a' ∧ resS P ρ w' fn.results.toList fun vs => K (one vs) w') →
          a'.defers = [] ∧ ∃ v, (results fn a'.tmps).run P w' = .ok v w' ∧ ∃ u, Ending.returned v = Ending.returned u ∧ K u w' := by
        rintro a' w' ⟨ρ, ha', hr⟩
        obtain ⟨vs, hrun, hK⟩ := resS_run ha' hr
        refine ⟨ha'.defers, one vs, ?_, _, rfl, hK⟩
        have hm : (fn.results.mapM (resF a')).run P w' = .ok vs.toArray w' := by
          rw [Array.mapM_eq_mapM_toList]; simp only [Sem.run_map, hrun, Result.andThen_ok]
        have e : results fn a'.tmps = (do let vs ← fn.results.mapM (resF a'); pure (if h : vs.size = 1 then vs[0] else .tuple vs)) := by
          unfold results; congr 1
        rw [e]
        simp only [Sem.run_bind, hm, Result.andThen_ok, Sem.run_pure]
        congr 1
        match vs with
        | [] => rfl
        | [v] => rfl
        | _ :: _ :: _ => simp [one]
      intro e a' w' hq
      cases e with
      | normal => exact fin a' w' ⟨_, hq.2.choose_spec⟩
      | ret => exact fin a' w' ⟨_, hq.2.choose_spec⟩
      | exit id => obtain ⟨_, ρ, _, h⟩ := hq; exact h.elim
      | goto l => obtain ⟨_, ρ, _, h⟩ := hq; exact h.elim
      | panic c => exact hq.elim
      | outgrown => exact hq.elim
  · exact h.elim

end Go.Sx
set_option linter.unusedVariables false
set_option linter.unusedSimpArgs false
namespace Go.Sx
open Go.RowKit (Below)

/-! ## what stays -/
structure Fr (S : Nat → Prop) (w w' : World) : Prop where
  os : w'.os = w.os
  tape : w'.tape = w.tape
  output : w'.output = w.output
  size : w.heap.size ≤ w'.heap.size
  block : ∀ k, k < w.heap.size → ¬ S k → w'.heap[k]? = w.heap[k]?
def NoB : Nat → Prop := fun _ => False
abbrev Ext (w w' : World) : Prop := Fr NoB w w'
def ownB (A : Option Addr) : Nat → Prop := fun k => ∃ ad, A = some ad ∧ ad.block = k
theorem ownB_none (k : Nat) : ¬ ownB none k := fun ⟨_, h, _⟩ => by cases h
theorem ownB_some (b o : Nat) (s : Option Nat) (k : Nat) : ownB (some ⟨b, o, s⟩) k ↔ b = k := ⟨fun ⟨_, h, e⟩ => by cases h; exact e, fun h => ⟨_, rfl, h⟩⟩

theorem Fr.refl (S : Nat → Prop) (w : World) : Fr S w w := ⟨rfl, rfl, rfl, Nat.le_refl _, fun _ _ _ => rfl⟩
theorem Fr.trans {S S' S'' : Nat → Prop} {a b c : World} (h : Fr S a b) (h' : Fr S' b c) (h1 : ∀ k, k < a.heap.size → S k → S'' k) (h2 : ∀ k, k < a.heap.size → S' k → S'' k) : Fr S'' a c :=
  ⟨h'.os.trans h.os, h'.tape.trans h.tape, h'.output.trans h.output, Nat.le_trans h.size h'.size, fun k hk hn =>
    (h'.block k (Nat.lt_of_lt_of_le hk h.size) (fun hs => hn (h2 k hk hs))).trans (h.block k hk (fun hs => hn (h1 k hk hs)))⟩
theorem Fr.ext {S : Nat → Prop} {a b c : World} (h : Fr S a b) (h' : Fr S b c) : Fr S a c := h.trans h' (fun _ _ h => h) (fun _ _ h => h)
theorem Fr.mono {S S' : Nat → Prop} {a b : World} (h : Fr S a b) (h1 : ∀ k, k < a.heap.size → S k → S' k) : Fr S' a b := ⟨h.os, h.tape, h.output, h.size, fun k hk hn => h.block k hk (fun hs => hn (h1 k hk hs))⟩
theorem Ext.fr {S : Nat → Prop} {a b : World} (h : Ext a b) : Fr S a b := h.mono (fun _ _ h => h.elim)
theorem Fr.drew (S : Nat → Prop) (w : World) : Fr S w w.drew := ⟨rfl, rfl, rfl, Nat.le_refl _, fun _ _ _ => rfl⟩
theorem Fr.alloc (S : Nat → Prop) (w : World) (o : Obj) : Fr S w (w.alloc o) :=
  ⟨rfl, rfl, rfl, by simp [World.alloc, -World.alloc_eq], fun k hk _ => Go.RowKit.Below.heap_alloc w o k hk⟩
theorem Fr.cell {S : Nat → Prop} {w w' : World} (h : Fr S w w') {a : Addr} (ha : ¬ S a.block) {v : Value} (hv : w.cell? a = some v) : w'.cell? a = some v :=
  (World.cell?_of_block (h.block _ (World.block_lt_of_cell? w a hv) ha)).trans hv
theorem Fr.setCell {w : World} (S : Nat → Prop) {a : Addr} (v : Value) (ha : w.heap.size ≤ a.block ∨ S a.block) : Fr S w (w.setCell a v) := by
  refine ⟨rfl, rfl, rfl, by simp [World.setCell], fun k hk hn => ?_⟩
  simp only [World.setCell, Array.getElem?_modify]
  rw [if_neg]
  rintro rfl
  rcases ha with h | h
  · omega
  · exact hn h

/-! ## addresses -/
theorem add_add (a : Addr) (i j : Nat) : (a.add i).add j = a.add (i + j) := by
  unfold Addr.add
  by_cases hi : i = 0
  · subst hi; simp
  · by_cases hj : j = 0
    · subst hj; simp [hi]
    · have hij : i + j ≠ 0 := by omega
      simp [hi, hj, hij, Nat.add_assoc]
theorem add_block (a : Addr) (i : Nat) : (a.add i).block = a.block := by unfold Addr.add; split <;> rfl
theorem add_zero' (a : Addr) : a.add 0 = a := rfl
theorem add_new (b o i : Nat) : (⟨b, o, none⟩ : Addr).add i = ⟨b, o + i, none⟩ := by unfold Addr.add; split <;> simp_all

/-! ## kinds of data -/
structure Step (Ω : Nat → Prop) (w : World) (Ω' : Nat → Prop) (w' : World) : Prop where
  size : w.heap.size ≤ w'.heap.size
  block : ∀ k, k < w.heap.size → ¬ Ω k → w'.heap[k]? = w.heap[k]?
  sub : ∀ k, k < w.heap.size → Ω' k → Ω k
theorem Step.refl (Ω : Nat → Prop) (w : World) : Step Ω w Ω w := ⟨Nat.le_refl _, fun _ _ _ => rfl, fun _ _ h => h⟩
theorem Fr.step {S Ω Ω' : Nat → Prop} {w w' : World} (h : Fr S w w') (h1 : ∀ k, k < w.heap.size → S k → Ω k) (h2 : ∀ k, k < w.heap.size → Ω' k → Ω k) : Step Ω w Ω' w' :=
  ⟨h.size, fun k hk hn => h.block k hk (fun hs => hn (h1 k hk hs)), h2⟩
theorem Ext.step {w w' : World} (h : Ext w w') (Ω : Nat → Prop) : Step Ω w Ω w' := Fr.step h (fun _ _ h => h.elim) (fun _ _ h => h)
theorem Step.cell {Ω Ω' : Nat → Prop} {w w' : World} (h : Step Ω w Ω' w') {a : Addr} (ha : ¬ Ω a.block) {v : Value} (hv : w.cell? a = some v) : w'.cell? a = some v :=
  (World.cell?_of_block (h.block _ (World.block_lt_of_cell? w a hv) ha)).trans hv
theorem Step.out {Ω Ω' : Nat → Prop} {w w' : World} (h : Step Ω w Ω' w') {k : Nat} (hk : k < w.heap.size) (hn : ¬ Ω k) : ¬ Ω' k := fun h' => hn (h.sub k hk h')

structure Kd (α : Type) where
  size : Nat
  rep : (Nat → Prop) → World → α → List Value → Prop
  len : ∀ {Ω w a cs}, rep Ω w a cs → cs.length = size
  keep : ∀ {Ω w a cs Ω' w'}, rep Ω w a cs → Step Ω w Ω' w' → rep Ω' w' a cs

def u8 (b : UInt8) : Value := .int .u8 (b.toNat : Int)
def Kd.u8 : Kd UInt8 := ⟨1, fun _ _ a cs => cs = [Sx.u8 a], fun h => by simp [h], fun h _ => h⟩
def Kd.int (k : IntKind) : Kd Int := ⟨1, fun _ _ a cs => cs = [.int k a], fun h => by simp [h], fun h _ => h⟩
def Kd.str : Kd ByteArray := ⟨1, fun _ _ a cs => cs = [.string a], fun h => by simp [h], fun h _ => h⟩
def Kd.bool : Kd Bool := ⟨1, fun _ _ a cs => cs = [.bool a], fun h => by simp [h], fun h _ => h⟩

def Imm {α : Type} (K : Kd α) (Ω : Nat → Prop) (w : World) (A : Option Addr) (l : List α) : Prop :=
  ∀ i a, l[i]? = some a → ∃ ad, A = some ad ∧ ¬ Ω ad.block ∧ ∃ cs, K.rep Ω w a cs ∧ ∀ j v, cs[j]? = some v → w.cell? (ad.add (i * K.size + j)) = some v

theorem Imm.keep {α : Type} {K : Kd α} {Ω Ω' : Nat → Prop} {w w' : World} {A : Option Addr} {l : List α} (hz : 0 < K.size) (h : Imm K Ω w A l) (st : Step Ω w Ω' w') : Imm K Ω' w' A l := by
  intro i a ha
  obtain ⟨ad, hA, hn, cs, hr, hc⟩ := h i a ha
  have hlt : ad.block < w.heap.size := by
    have h0 : 0 < cs.length := by rw [K.len hr]; exact hz
    obtain ⟨v, hv⟩ : ∃ v, cs[0]? = some v := ⟨cs[0], by simp [h0]⟩
    have := World.block_lt_of_cell? w _ (hc 0 v hv)
    rwa [add_block] at this
  exact ⟨ad, hA, st.out hlt hn, cs, K.keep hr st, fun j v hj => st.cell (by rw [add_block]; exact hn) (hc j v hj)⟩
theorem Imm.nil {α : Type} (K : Kd α) (Ω : Nat → Prop) (w : World) (A : Option Addr) : Imm K Ω w A [] := fun i a h => by simp at h
theorem Imm.cut {α : Type} {K : Kd α} {Ω : Nat → Prop} {w : World} {A : Option Addr} {l : List α} (h : Imm K Ω w A l) {lo hi m : Nat} (h1 : hi ≤ m) : Imm K Ω w (cutAt A m lo K.size) ((l.take hi).drop lo) := by
  intro i a ha
  rw [List.getElem?_drop, List.getElem?_take] at ha
  split at ha
  · rename_i hlt
    obtain ⟨ad, hA, hn, cs, hr, hc⟩ := h (lo + i) a ha
    have hne : ¬ m = lo := by omega
    refine ⟨ad.add (lo * K.size), by simp [cutAt, hne, hA], by rw [add_block]; exact hn, cs, hr, fun j v hj => ?_⟩
    rw [add_add, show lo * K.size + (i * K.size + j) = (lo + i) * K.size + j by rw [Nat.add_mul]; omega]
    exact hc j v hj
  · cases ha
theorem Imm.get1 {α : Type} {K : Kd α} {Ω : Nat → Prop} {w : World} {A : Option Addr} {l : List α} (h : Imm K Ω w A l) {i : Nat} (hi : i < l.length) :
    ∃ ad, A = some ad ∧ ∃ cs, K.rep Ω w l[i] cs ∧ ∀ j v, cs[j]? = some v → w.cell? (ad.add (i * K.size + j)) = some v := by
  obtain ⟨ad, hA, _, cs, hr, hc⟩ := h i l[i] (by simp [hi])
  exact ⟨ad, hA, cs, hr, hc⟩

def Kd.slice {α : Type} (K : Kd α) (hz : 0 < K.size) : Kd (List α) :=
  ⟨1, fun Ω w l cs => ∃ A c, cs = [.slice A l.length c] ∧ l.length ≤ c ∧ Imm K Ω w A l, fun ⟨_, _, h, _⟩ => by simp [h], fun ⟨A, c, h, hc, hi⟩ st => ⟨A, c, h, hc, hi.keep hz st⟩⟩
abbrev KB : Kd UInt8 := Kd.u8
theorem KB_pos : 0 < KB.size := by decide
/-! ## bytes -/
theorem Imm.byte {Ω : Nat → Prop} {w : World} {A : Option Addr} {l : List UInt8} (h : Imm KB Ω w A l) {i : Nat} (hi : i < l.length) :
    ∃ ad, A = some ad ∧ w.cell? (ad.add (i * 1)) = some (.int .u8 (l[i].toNat : Int)) := by
  obtain ⟨ad, hA, cs, hr, hc⟩ := h.get1 hi
  cases hr
  exact ⟨ad, hA, hc 0 _ rfl⟩

/-! ## owned memory -/
def Own (w : World) (sz : Nat) (A : Option Addr) (n c : Nat) (xs : List Value) : Prop :=
  xs.length = n * sz ∧ c ≤ maxLen ∧ ((A = none ∧ n = 0 ∧ c = 0) ∨
   ∃ g cur e lo hi, A = some ⟨g, 0, none⟩ ∧ w.heap[g]? = some (.cells cur e (lo, hi)) ∧ n ≤ c ∧ cur.size = c * sz ∧ cur.toList.take (n * sz) = xs ∧ (cur.size ≤ lo ∨ hi ≤ lo))

theorem Own.nil (w : World) (sz : Nat) : Own w sz none 0 0 [] := ⟨by simp, by simp [maxLen], .inl ⟨rfl, rfl, rfl⟩⟩
theorem Own.lt {w : World} {sz : Nat} {A : Option Addr} {n c : Nat} {xs : List Value} (h : Own w sz A n c xs) : ∀ k, ownB A k → k < w.heap.size := by
  rintro k ⟨ad, rfl, rfl⟩
  rcases h.2.2 with ⟨h, _⟩ | ⟨g, cur, e, lo, hi, h, hg, _⟩
  · cases h
  · cases h; exact (Array.getElem?_eq_some_iff.1 hg).1
theorem Own.le {w : World} {sz : Nat} {A : Option Addr} {n c : Nat} {xs : List Value} (h : Own w sz A n c xs) : n ≤ c := by
  rcases h.2.2 with ⟨_, h1, h2⟩ | ⟨_, _, _, _, _, _, _, h, _⟩
  · omega
  · exact h
theorem Own.len {w : World} {sz : Nat} {A : Option Addr} {n c : Nat} {xs : List Value} (h : Own w sz A n c xs) : xs.length = n * sz := h.1
theorem Own.cells {w : World} {sz : Nat} {A : Option Addr} {n c : Nat} {xs : List Value} (h : Own w sz A n c xs) {j : Nat} {v : Value} (hj : xs[j]? = some v) : ∃ g, A = some ⟨g, 0, none⟩ ∧ w.cell? ⟨g, j, none⟩ = some v := by
  rcases h.2.2 with ⟨_, h1, _⟩ | ⟨g, cur, e, lo, hi, hA, hg, _, _, ht, _⟩
  · have := h.1; rw [h1, Nat.zero_mul] at this; rw [List.eq_nil_of_length_eq_zero this] at hj; simp at hj
  · refine ⟨g, hA, ?_⟩
    rw [← ht, List.getElem?_take] at hj
    split at hj
    · rw [cell_of_row w g j cur e _ hg]; simpa using hj
    · cases hj
theorem Own.keep {w w' : World} {S : Nat → Prop} {sz : Nat} {A : Option Addr} {n c : Nat} {xs : List Value} (h : Own w sz A n c xs) (hf : Fr S w w') (hn : ∀ k, ownB A k → ¬ S k) : Own w' sz A n c xs := by
  refine ⟨h.1, h.2.1, ?_⟩
  rcases h.2.2 with hn' | ⟨g, cur, e, lo, hi, hA, hg, rest⟩
  · exact .inl hn'
  · refine .inr ⟨g, cur, e, lo, hi, hA, ?_, rest⟩
    subst hA
    rw [hf.block g (Array.getElem?_eq_some_iff.1 hg).1 (hn g ⟨_, rfl, rfl⟩)]
    exact hg
theorem Own.take {w : World} {sz : Nat} {A : Option Addr} {n c : Nat} {xs : List Value} (h : Own w sz A n c xs) {k : Nat} (hk : k ≤ n) : Own w sz A k c (xs.take (k * sz)) := by
  refine ⟨by rw [List.length_take, h.1]; exact Nat.min_eq_left (Nat.mul_le_mul_right _ hk), h.2.1, ?_⟩
  rcases h.2.2 with ⟨h1, h2, h3⟩ | ⟨g, cur, e, lo, hi, hA, hg, hc, hs, ht, hf⟩
  · exact .inl ⟨h1, by omega, h3⟩
  · refine .inr ⟨g, cur, e, lo, hi, hA, hg, by omega, hs, ?_, hf⟩
    rw [← ht, List.take_take, Nat.min_eq_left (Nat.mul_le_mul_right _ hk)]
theorem Own.imm {α : Type} {K : Kd α} (hz0 : 0 < K.size) {Ω : Nat → Prop} {w : World} {A : Option Addr} {n c : Nat} {xs : List Value} (h : Own w K.size A n c xs) (hΩ : ∀ k, ownB A k → ¬ Ω k) {l : List α}
    (hl : ∀ i a, l[i]? = some a → K.rep Ω w a ((xs.drop (i * K.size)).take K.size)) : Imm K Ω w A l := by
  intro i a ha
  have hr := hl i a ha
  rcases h.2.2 with ⟨hA, h1, _⟩ | ⟨g, cur, e, lo, hi, hA, hg, _, _, ht, _⟩
  · -- no cells: only where the elements have no size
    have h0 := h.1
    rw [h1, Nat.zero_mul] at h0
    have hx := List.eq_nil_of_length_eq_zero h0
    have hz := K.len hr
    rw [hx] at hz
    simp at hz
    omega
  · refine ⟨_, hA, hΩ g ⟨_, hA, rfl⟩, _, hr, fun j v hj => ?_⟩
    rw [List.getElem?_take] at hj
    split at hj
    · rw [List.getElem?_drop] at hj
      obtain ⟨g', hA', hc⟩ := h.cells hj
      rw [hA] at hA'
      cases hA'
      rw [add_new, Nat.zero_add]
      exact hc
    · cases hj
end Go.Sx
set_option linter.unusedVariables false
set_option linter.unusedSimpArgs false
namespace Go.Sx
section
variable {P : Program}

structure SlT (P : Program) (t e sz by_ : Nat) (z : List Value) : Prop where
  ht : und P t = some (.slice e)
  hi : ∃ i, inf P e = some i ∧ i.size = sz ∧ i.bytes = by_ ∧ ∃ zv, i.zero = some zv ∧ cellsL zv = z
  hz : z.length = sz
  pos : 0 < sz

theorem not_frozen {w : World} {g j lo hi : Nat} {cur : Array Value} {e : TypeId} (hg : w.heap[g]? = some (.cells cur e (lo, hi))) (hj : j < cur.size) (hf : cur.size ≤ lo ∨ hi ≤ lo) : w.frozen? ⟨g, j, none⟩ = false := by
  simp only [World.frozen?, hg]
  rcases hf with h | h
  · simp; omega
  · simp; omega

theorem run_storeCells_own (g o : Nat) (e : TypeId) (lo hi : Nat) : ∀ (vs : List Value) (i : Nat) (cur : Array Value) (w : World), w.heap[g]? = some (.cells cur e (lo, hi)) → (cur.size ≤ lo ∨ hi ≤ lo) → o + i + vs.length ≤ cur.size → (∀ v ∈ vs, v.oneCell' = true) →
    (storeCells ⟨g, o, none⟩ vs i).run P w = .ok () (w.setRow g (cur.toList.take (o + i) ++ vs ++ cur.toList.drop (o + i + vs.length)).toArray)
  | [], i, cur, w, hg, _, _, _ => by
    simp only [storeCells, List.append_nil, List.length_nil, Nat.add_zero, List.take_append_drop, Array.toArray_toList]
    rw [setRow_self w g cur e (lo, hi) hg]
    rfl
  | v :: rest, i, cur, w, hg, hf, hl, h1 => by
    have hi' : o + i < cur.size := by simp at hl; omega
    have hcell : w.cell? ⟨g, o + i, none⟩ = some cur[o + i] := by simp [World.cell?, hg, hi']
    have hfro := not_frozen hg hi' hf
    have hst : (store ((⟨g, o, none⟩ : Addr).add i) v).run P w = .ok () (w.setRow g (cur.setIfInBounds (o + i) v)) := by
      rw [add_new, run_store P w _ v _ (h1 v (by simp)), hcell]
      simp [hfro, setCell_eq_setRow w g (o + i) cur e (lo, hi) v hg]
    have ih := run_storeCells_own g o e lo hi rest (i + 1) (cur.setIfInBounds (o + i) v) (w.setRow g (cur.setIfInBounds (o + i) v)) (setRow_heap w g cur _ e _ hg) (by simpa using hf) (by simp at hl ⊢; omega) (fun x hx => h1 x (by simp [hx]))
    simp only [storeCells, Sem.run_bind, hst, Result.andThen_ok, ih, setRow_setRow]
    congr 3
    have e := list_seg_step cur.toList (o + i) v rest (by simp at hl ⊢; omega)
    simpa [Array.toList_setIfInBounds, Nat.add_assoc] using e

def Src (P : Program) (w : World) (sz : Nat) (x : Value) (m : Nat) (ys : List Value) : Prop :=
  (∀ w' : World, w'.heap = w.heap → (Builtin.firstCells sz m x).run P w' = .ok ys.toArray w') ∧ (∀ w', (Builtin.lenOf x).run P w' = .ok m w') ∧ ys.length = m * sz ∧ ∀ v ∈ ys, v.oneCell' = true

theorem Src.cells {w : World} {sz m c : Nat} {B : Option Addr} {ys : List Value} (hl : ys.length = m * sz) (h : ∀ j v, ys[j]? = some v → ∃ ad, B = some ad ∧ w.cell? (ad.add j) = some v) (h1 : ∀ v ∈ ys, v.oneCell' = true) : Src P w sz (.slice B m c) m ys := by
  refine ⟨fun w' hw => ?_, fun w' => rfl, hl, h1⟩
  have hc : ∀ a : Addr, w'.cell? a = w.cell? a := fun a => by simp [World.cell?, hw]
  cases B with
  | none =>
    have : ys = [] := by
      cases ys with
      | nil => rfl
      | cons v vs => obtain ⟨ad, h, _⟩ := h 0 v rfl; cases h
    subst this
    simp [Builtin.firstCells]
  | some ad =>
    exact run_firstCells_some (P := P) w' sz m ad m c ys hl (fun j v hj => by obtain ⟨ad', hA, hv⟩ := h j v hj; cases hA; rw [hc]; exact hv)
theorem Src.str {w : World} (s : ByteArray) : Src P w 1 (.string s) s.size (Lib.strCells s) :=
  ⟨fun w' _ => Lib.run_firstCells_string (P := P) w' 1 s, fun _ => rfl, by rw [Lib.strCells_length, Nat.mul_one], Lib.strCells_oneCell s⟩
theorem Src.own {w : World} {sz : Nat} {A : Option Addr} {n c : Nat} {xs : List Value} (h : Own w sz A n c xs) (h1 : ∀ v ∈ xs, v.oneCell' = true) : Src P w sz (.slice A n c) n xs :=
  .cells h.1 (fun j v hj => by obtain ⟨g, hA, hc⟩ := h.cells hj; exact ⟨_, hA, by rw [add_new, Nat.zero_add]; exact hc⟩) h1
theorem alloc_cell (w : World) (cs : Array Value) (e : TypeId) (fr : Nat × Nat) (j : Nat) : (w.alloc (.cells cs e fr)).cell? ⟨w.heap.size, j, none⟩ = cs[j]? := by
  simp [World.cell?, World.alloc, -World.alloc_eq]
theorem Src.new {w : World} {sz m c : Nat} {cs : List Value} (e : TypeId) (hl : cs.length = m * sz) (h1 : ∀ v ∈ cs, v.oneCell' = true) : Src P (w.alloc (.cells cs.toArray e)) sz (.slice (some ⟨w.heap.size, 0, none⟩) m c) m cs :=
  .cells hl (fun j v hj => ⟨_, rfl, by rw [add_new, Nat.zero_add, alloc_cell]; simpa using hj⟩) h1
theorem Src.imm {α : Type} {K : Kd α} {Ω : Nat → Prop} {w : World} {A : Option Addr} {l : List α} {c : Nat} (h : Imm K Ω w A l) {ys : List Value} (hl : ys.length = l.length * K.size)
    (hys : ∀ i a cs, l[i]? = some a → K.rep Ω w a cs → (∀ ad, A = some ad → ∀ j v, cs[j]? = some v → w.cell? (ad.add (i * K.size + j)) = some v) → ∀ j v, cs[j]? = some v → ys[i * K.size + j]? = some v) (h1 : ∀ v ∈ ys, v.oneCell' = true) : Src P w K.size (.slice A l.length c) l.length ys := by
  refine .cells hl (fun j v hj => ?_) h1
  have hlt : j < l.length * K.size := by rw [← hl]; exact (List.getElem?_eq_some_iff.1 hj).1
  have hz : 0 < K.size := by
    rcases Nat.eq_zero_or_pos K.size with h | h
    · rw [h] at hlt; simp at hlt
    · exact h
  have hi : j / K.size < l.length := Nat.div_lt_of_lt_mul (by rwa [Nat.mul_comm] at hlt)
  obtain ⟨ad, hA, _, cs, hr, hc⟩ := h (j / K.size) l[j / K.size] (by simp [hi])
  have hm : j % K.size < cs.length := by rw [K.len hr]; exact Nat.mod_lt _ hz
  have hdm : j / K.size * K.size + j % K.size = j := by rw [Nat.mul_comm]; exact Nat.div_add_mod j K.size
  have e1 := hys (j / K.size) l[j / K.size] cs (by simp [hi]) hr (fun ad' hA' j v hj => by rw [hA] at hA'; cases hA'; exact hc j v hj) (j % K.size) cs[j % K.size] (by simp [hm])
  have e2 := hc (j % K.size) cs[j % K.size] (by simp [hm])
  rw [hdm] at e1 e2
  rw [hj] at e1
  cases e1
  exact ⟨ad, hA, e2⟩
theorem u8_cells_one (l : List UInt8) : ∀ v ∈ l.map u8, v.oneCell' = true := by intro v hv; obtain ⟨b, _, rfl⟩ := List.mem_map.1 hv; rfl
theorem Src.bytes {Ω : Nat → Prop} {w : World} {A : Option Addr} {l : List UInt8} {c : Nat} (h : Imm KB Ω w A l) : Src P w 1 (.slice A l.length c) l.length (l.map u8) :=
  .cells (by simp) (fun j v hj => by
    rw [List.getElem?_map] at hj
    cases hl : l[j]? with
    | none => simp [hl] at hj
    | some b =>
      simp [hl] at hj; subst hj
      obtain ⟨ad, hA, _, cs, hr, hc⟩ := h j b hl
      cases hr
      exact ⟨ad, hA, by have h2 := hc 0 _ rfl; rw [show j * KB.size + 0 = j from Nat.mul_one j] at h2; exact h2⟩) (u8_cells_one l)

theorem append_own {t e sz by_ : Nat} {z : List Value} (T : SlT P t e sz by_ z) {t2 ty : TypeId} (ht2 : ∃ d, und P t2 = some d ∧ ∀ k, d ≠ .int k) {w : World} {A : Option Addr} {n c : Nat} {xs : List Value} (h : Own w sz A n c xs)
    {x : Value} {m : Nat} {ys : List Value} (hx : Src P w sz x m ys) (h1 : n + m ≤ maxLen) (h2 : (n + m) * by_ ≤ 140737488355328) :
    ∃ A' c' w', RunsTo P (Builtin.append_ #[t, t2] ty #[.slice A n c, x]) w (.slice A' (n + m) c') w' ∧ Own w' sz A' (n + m) c' (xs ++ ys) ∧ Fr (ownB A) w w' ∧
      (∀ k, ownB A' k → ownB A k ∨ w.heap.size ≤ k) ∧ (m = 0 → A' = A) := by
  obtain ⟨i, hi, hsz, hby, zv, hzv, hzl⟩ := T.hi
  subst hsz; subst hby
  obtain ⟨d2, hd2, hnint⟩ := ht2
  obtain ⟨hfc, hlen, hyl, hy1⟩ := hx
  have hzz : (match d2 with | .int _ => true | _ => false) = false := by cases d2 <;> first | rfl | exact absurd rfl (hnint _)
  have hpos := T.pos
  have hzsz : z.length = i.size := T.hz
  have hl63 : ¬ (((n + m : Nat) : Int) > IntKind.i64.max) := by simp [maxLen] at h1; simp [IntKind.max, IntKind.signed, IntKind.bits]; omega
  -- the arm that grows
  have grow : c < n + m → (Builtin.firstCells i.size n (.slice A n c)).run P w.drew = .ok xs.toArray w.drew →
      (Builtin.append_ #[t, t2] ty #[.slice A n c, x]).run P w = .ok (.slice (some ⟨w.heap.size, 0, none⟩) (n + m) (grownCap w (n + m) c e))
        (w.drew.alloc (.cells (xs.toArray ++ ys.toArray ++ Builtin.zeroCells z.toArray (grownCap w (n + m) c e - (n + m))) e)) := by
    intro hc hold
    have hcap : ¬ (n + m ≤ c) := by omega
    have h48 : ¬ (Builtin.nextslicecap (n + m) c * i.bytes > 2 ^ 48) := by
      have := growslice_fits hc h2
      omega
    have hfd := hfc w.drew rfl
    have hzc : zv.cells = z.toArray := by rw [← hzl, cellsL_eq, Array.toArray_toList]
    simp only [Builtin.append_, List.getElem?_toArray, List.getElem?_cons_zero, List.getElem?_cons_succ, Sem.run_bind, run_und T.ht, Result.andThen_ok, run_size hi, run_und hd2, Sem.run_pure, hzz, Bool.false_eq_true, if_false, hlen, if_neg hcap, run_inf hi, hl63, false_and, if_neg h48, run_choose, Question.forced, World.drew_eq, run_askRoom, hold, hfd, zeroValue, hzv, hzc, newRow, run_newObj, Bool.not_false, if_true]
    rfl
  have grown : ∀ old, c < n + m → Own (w.drew.alloc (.cells (xs.toArray ++ ys.toArray ++ Builtin.zeroCells z.toArray (grownCap w (n + m) old e - (n + m))) e)) i.size (some ⟨w.heap.size, 0, none⟩) (n + m) (grownCap w (n + m) old e) (xs ++ ys) := by
    intro old hc
    have hge := grownCap_ge w (n + m) old e
    refine ⟨by rw [List.length_append, h.1, hyl, Nat.add_mul], grownCap_le_maxLen w (n + m) old e h1, .inr ⟨w.heap.size, _, e, 0, 0, rfl, Go.heap_alloc_new w.drew _, hge, ?_, ?_, .inr (Nat.le_refl _)⟩⟩
    · simp only [Array.size_append, List.size_toArray, size_zeroCells, hzsz, h.1, hyl, ← Nat.add_mul]
      congr 1; omega
    · simp only [Array.toList_append, List.append_assoc]
      rw [← List.append_assoc, show (n + m) * i.size = (xs ++ ys).length by rw [List.length_append, h.1, hyl, Nat.add_mul]]
      exact List.take_left
  have fresh : ∀ o, Fr (ownB A) w (w.drew.alloc o) := fun o => (Fr.drew _ w).ext (Fr.alloc _ _ o)
  rcases h.2.2 with ⟨rfl, rfl, rfl⟩ | ⟨g, cur, e', lo, hi', rfl, hg, hnc, hcs, htake, hfz⟩
  · have hx0 : xs = [] := List.eq_nil_of_length_eq_zero (by simpa using h.1)
    subst hx0
    by_cases hm : m = 0
    · subst hm
      have hy0 : ys = [] := List.eq_nil_of_length_eq_zero (by simpa using hyl)
      subst hy0
      refine ⟨none, 0, w, ?_, Own.nil w _, .refl _ _, fun k hk => (ownB_none k hk).elim, fun _ => rfl⟩
      have hfd := hfc w rfl
      simp only [RunsTo, Builtin.append_, List.getElem?_toArray, List.getElem?_cons_zero, List.getElem?_cons_succ, Sem.run_bind, run_und T.ht, Result.andThen_ok, run_size hi, run_und hd2, Sem.run_pure, hzz, Bool.false_eq_true, if_false, hlen, Nat.add_zero, Nat.le_refl, if_true, Bool.not_false, hfd]
    · exact ⟨_, _, _, grow (by omega) (by simp [Builtin.firstCells]), grown 0 (by omega), fresh _, fun k hk => .inr (by rw [ownB_some] at hk; omega), fun h => absurd h hm⟩
  · by_cases hroom : n + m ≤ c
    · have hfit : n * i.size + ys.length ≤ cur.size := by rw [hyl, hcs, ← Nat.add_mul]; exact Nat.mul_le_mul_right _ hroom
      have hst := run_storeCells_own (P := P) g (n * i.size) e' lo hi' ys 0 cur w hg hfz (by simpa using hfit) hy1
      simp only [Nat.add_zero] at hst
      have hfd := hfc w rfl
      refine ⟨some ⟨g, 0, none⟩, c, w.setRow g (cur.toList.take (n * i.size) ++ ys ++ cur.toList.drop (n * i.size + ys.length)).toArray, ?_, ⟨by rw [List.length_append, h.1, hyl, Nat.add_mul], h.2.1, .inr ⟨g, _, e', lo, hi', rfl, setRow_heap w g cur _ e' _ hg, hroom, ?_, ?_, ?_⟩⟩,
        ⟨rfl, rfl, rfl, by simp, fun k _ hk => setRow_other w g k _ (fun e => hk (by rw [ownB_some]; exact e.symm))⟩, fun k hk => .inl hk, fun _ => rfl⟩
      · simp only [RunsTo, Builtin.append_, List.getElem?_toArray, List.getElem?_cons_zero, List.getElem?_cons_succ, Sem.run_bind, run_und T.ht, Result.andThen_ok, run_size hi, run_und hd2, Sem.run_pure, hzz, Bool.false_eq_true, if_false, hlen, if_pos hroom, Bool.not_false, if_true, hfd, add_new, Nat.zero_add, hst]
      · simp only [List.size_toArray, List.length_append, List.length_take, List.length_drop, Array.length_toList]
        omega
      · rw [htake]
        rw [show (n + m) * i.size = (xs ++ ys).length by rw [List.length_append, h.1, hyl, Nat.add_mul]]
        exact List.take_left
      · simp only [List.size_toArray, List.length_append, List.length_take, List.length_drop, Array.length_toList]
        omega
    · have hold : (Builtin.firstCells i.size n (.slice (some ⟨g, 0, none⟩) n c)).run P w.drew = .ok xs.toArray w.drew :=
        run_firstCells_some (P := P) w.drew i.size n _ n c xs h.1 (fun j v hj => by
          obtain ⟨g', hA, hc⟩ := h.cells hj
          cases hA
          rw [add_new, Nat.zero_add]
          exact hc)
      have hm : m ≠ 0 := by omega
      exact ⟨_, _, _, grow (by omega) hold, grown c (by omega), fresh _, fun k hk => .inr (by rw [ownB_some] at hk; omega), fun h => absurd h hm⟩

theorem append_one {t e sz by_ : Nat} {z : List Value} (T : SlT P t e sz by_ z) {ty : TypeId} {w : World} {A : Option Addr} {n c : Nat} {xs : List Value} (h : Own w sz A n c xs)
    {cs : List Value} (hl : cs.length = sz) (hc1 : ∀ v ∈ cs, v.oneCell' = true) {e' : TypeId} (h1 : n + 1 ≤ maxLen) (h2 : (n + 1) * by_ ≤ 140737488355328) :
    ∃ A' c' w', RunsTo P (Builtin.append_ #[t, t] ty #[.slice A n c, .slice (some ⟨w.heap.size, 0, none⟩) 1 1]) (w.alloc (.cells cs.toArray e')) (.slice A' (n + 1) c') w' ∧ Own w' sz A' (n + 1) c' (xs ++ cs) ∧ Fr (ownB A) w w' ∧
      (∀ k, ownB A' k → ownB A k ∨ w.heap.size ≤ k) ∧ A' ≠ none := by
  have ho : Own (w.alloc (.cells cs.toArray e')) sz A n c xs := h.keep (Fr.alloc NoB w _) (fun _ _ h => h)
  obtain ⟨A', c', w', hr, ho', hf, hb, _⟩ := append_own T (ty := ty) (t2 := t) ⟨_, T.ht, fun _ h => by cases h⟩ ho (Src.new (P := P) (m := 1) (c := 1) e' (by simpa using hl) hc1) h1 h2
  refine ⟨A', c', w', hr, ho', (Fr.alloc _ w _).ext hf, fun k hk => ?_, ?_⟩
  · rcases hb k hk with h | h
    · exact .inl h
    · right; simp [World.alloc, -World.alloc_eq] at h; omega
  · rintro rfl
    rcases ho'.2.2 with ⟨_, h, _⟩ | ⟨_, _, _, _, _, h, _⟩
    · omega
    · cases h
end
end Go.Sx
set_option linter.unusedVariables false
set_option linter.unusedSimpArgs false
namespace Go.Sx
theorem br {b : Bool} {A B : Prop} (h1 : b = true → A) (h2 : b = false → B) : cond b A B := by cases b with | true => exact h1 rfl | false => exact h2 rfl
theorem brd {p : Prop} [Decidable p] {A B : Prop} (h1 : p → A) (h2 : ¬ p → B) : cond (decide p) A B := br (fun h => h1 (of_decide_eq_true h)) (fun h => h2 (of_decide_eq_false h))
theorem brn {p : Prop} [Decidable p] {A B : Prop} (h1 : ¬ p → A) (h2 : p → B) : cond (!decide p) A B := by
  by_cases h : p <;> simp only [h, decide_true, decide_false, Bool.not_true, Bool.not_false, cond_true, cond_false]
  · exact h2 h
  · exact h1 h
theorem wi (x : Int) (h1 : -9223372036854775808 ≤ x) (h2 : x ≤ 9223372036854775807) : IntKind.i64.wrap x = x := by rw [IntKind.wrap_i64]; omega
theorem w8 (x : Int) (h1 : 0 ≤ x) (h2 : x < 256) : IntKind.u8.wrap x = x := by rw [IntKind.wrap_u8]; omega
theorem wu (x : Int) (h1 : 0 ≤ x) (h2 : x < 18446744073709551616) : IntKind.u64.wrap x = x := by
  have e : IntKind.u64.wrap x = x % 18446744073709551616 := by simp [IntKind.wrap, IntKind.signed, IntKind.bits]
  rw [e]; omega
theorem wu_mod (x : Int) : IntKind.u64.wrap x = x % 18446744073709551616 := by simp [IntKind.wrap, IntKind.signed, IntKind.bits]
theorem CallsV.same {P : Program} {f : FuncId} {args : Array Value} {w : World} {u : Value} {K : Value → World → Prop} (h : CallsV P f args w fun v w' => v = u ∧ w' = w) (hk : K u w) : CallsV P f args w K :=
  h.mono fun v w' ⟨h1, h2⟩ => by subst h1; subst h2; exact hk
structure Grew (A A' : Option Addr) (w w' : World) : Prop where
  fr : Fr (ownB A) w w'
  sub : ∀ k, ownB A' k → ownB A k ∨ w.heap.size ≤ k
theorem Grew.refl (A : Option Addr) (w : World) : Grew A A w w := ⟨.refl _ _, fun _ h => .inl h⟩
theorem Grew.trans {A B C : Option Addr} {a b c : World} (h : Grew A B a b) (h' : Grew B C b c) : Grew A C a c :=
  ⟨h.fr.trans h'.fr (fun _ _ h => h) (fun k hk hb => (h.sub k hb).elim id (fun h => absurd hk (by omega))), fun k hk => (h'.sub k hk).elim (fun h1 => h.sub k h1) (fun h1 => .inr (Nat.le_trans h.fr.size h1))⟩
def OwnB (w : World) (A : Option Addr) (c : Nat) (l : List UInt8) : Prop := Own w 1 A l.length c (l.map u8)
theorem OwnB.nil (w : World) : OwnB w none 0 [] := Own.nil w 1
theorem OwnB.keep {w w' : World} {S : Nat → Prop} {A : Option Addr} {c : Nat} {l : List UInt8} (h : OwnB w A c l) (hf : Fr S w w') (hn : ∀ k, ownB A k → ¬ S k) : OwnB w' A c l := Own.keep h hf hn
theorem OwnB.imm {w : World} {A : Option Addr} {c : Nat} {l : List UInt8} (h : OwnB w A c l) {Ω : Nat → Prop} (hΩ : ∀ k, ownB A k → ¬ Ω k) : Imm KB Ω w A l :=
  Own.imm (K := KB) KB_pos h hΩ fun i a ha => by
    show ((l.map u8).drop (i * 1)).take 1 = [u8 a]
    have hlt : i < l.length := (List.getElem?_eq_some_iff.1 ha).1
    have e : l[i] = a := (List.getElem?_eq_some_iff.1 ha).2
    rw [Nat.mul_one, List.drop_eq_getElem_cons (by simpa using hlt)]
    simp [e]
theorem u8_toNat (b : UInt8) : u8 b = .int .u8 (b.toNat : Int) := rfl
theorem toUInt8_int {n : Nat} (h : n < 256) : Value.int .u8 (n : Int) = u8 n.toUInt8 := by
  rw [u8_toNat]; congr 2; simp [Nat.toUInt8]; omega
end Go.Sx
set_option linter.unusedVariables false
set_option linter.unusedSimpArgs false
namespace Go.Sx
section
variable {P : Program}
structure BT (P : Program) (t e s : TypeId) : Prop where
  ht : und P t = some (.slice e)
  he : und P e = some (.int .u8)
  hs : und P s = some .string

def sb (s : ByteArray) : List UInt8 := s.data.toList
theorem sb_length (s : ByteArray) : (sb s).length = s.size := Array.length_toList
def New (w : World) (A : Option Addr) : Prop := ∀ k, ownB A k → w.heap.size ≤ k
theorem New.none (w : World) : New w Option.none := fun k h => (ownB_none k h).elim
theorem New.self (w : World) (i : Nat) (s : Option Nat) : New w (some ⟨w.heap.size, i, s⟩) := fun k h => by rw [ownB_some] at h; omega
theorem New.ext {w w' : World} {A : Option Addr} {S : Nat → Prop} (h : New w' A) (hf : Fr S w w') : New w A := fun k hk => Nat.le_trans hf.size (h k hk)
theorem Grew.ext {A A' : Option Addr} {w w1 w2 : World} (g : Grew A A' w1 w2) (h : Ext w w1) (hn : New w A) : Ext w w2 :=
  h.trans g.fr (fun _ _ h => h) (fun k hk ho => absurd hk (Nat.not_lt.2 (hn k ho)))
theorem Grew.new {A A' : Option Addr} {w w1 w2 : World} (g : Grew A A' w1 w2) (h : Ext w w1) (hn : New w A) : New w A' :=
  fun k hk => (g.sub k hk).elim (hn k) (fun h' => Nat.le_trans h.size h')
theorem Ext.step' {w w' : World} (e : Ext w w') {Ω : Nat → Prop} (h : ∀ k, k < w.heap.size → ¬ Ω k) : Step NoB w Ω w' := Fr.step e (fun _ _ h => h) (fun k hk ho => (h k hk ho).elim)
theorem Ext.trans' {a b c : World} (h : Ext a b) (h' : Ext b c) : Ext a c := Fr.ext h h'
theorem Imm.ext {α : Type} {K : Kd α} {Ω : Nat → Prop} {w w' : World} {A : Option Addr} {l : List α} (h : Imm K Ω w A l) (hz : 0 < K.size) (e : Ext w w') : Imm K Ω w' A l := h.keep hz (e.step Ω)
theorem Imm.grew {α : Type} {K : Kd α} {w w' : World} {A B B' : Option Addr} {l : List α} (h : Imm K (ownB B) w A l) (hz : 0 < K.size) (g : Grew B B' w w') : Imm K (ownB B') w' A l :=
  h.keep hz (g.fr.step (fun _ _ h => h) (fun k hk h => (g.sub k h).elim id (fun h' => absurd hk (Nat.not_lt.2 h'))))
theorem Imm.sub {α : Type} {K : Kd α} {Ω Ω' : Nat → Prop} {w : World} {A : Option Addr} {l : List α} (h : Imm K Ω w A l) (hz : 0 < K.size) (hs : ∀ k, k < w.heap.size → Ω' k → Ω k) : Imm K Ω' w A l :=
  h.keep hz ⟨Nat.le_refl _, fun _ _ _ => rfl, hs⟩
theorem Imm.new {α : Type} {K : Kd α} {Ω : Nat → Prop} {w : World} {A B : Option Addr} {l : List α} (h : Imm K Ω w A l) (hz : 0 < K.size) (hn : New w B) : Imm K (ownB B) w A l :=
  h.sub hz fun k hk ho => absurd hk (Nat.not_lt.2 (hn k ho))
theorem OwnB.ext {w w' : World} {A : Option Addr} {c : Nat} {l : List UInt8} (h : OwnB w A c l) (e : Ext w w') : OwnB w' A c l := h.keep e fun _ _ h => h
theorem OwnB.le {w : World} {A : Option Addr} {c : Nat} {l : List UInt8} (h : OwnB w A c l) : l.length ≤ c := Own.le h

theorem own_block {w : World} {g : Nat} {cs : List Value} {e : TypeId} {fr : Nat × Nat} (h : w.heap[g]? = some (.cells cs.toArray e fr)) {sz n : Nat} (hl : cs.length = n * sz) (hn : n ≤ maxLen) (hf : cs.length ≤ fr.1 ∨ fr.2 ≤ fr.1) :
    Own w sz (some ⟨g, 0, none⟩) n n cs :=
  ⟨hl, hn, .inr ⟨g, cs.toArray, e, fr.1, fr.2, rfl, h, Nat.le_refl _, by simpa using hl, by rw [← hl]; simp, by simpa using hf⟩⟩
theorem own_lit {w : World} {cs : List Value} {e : TypeId} {sz n : Nat} (hl : cs.length = n * sz) (hn : n ≤ maxLen) : Own (w.alloc (.cells cs.toArray e)) sz (some ⟨w.heap.size, 0, none⟩) n n cs :=
  own_block (Go.heap_alloc_new w _) hl hn (.inr (Nat.le_refl _))
theorem ownB_lit {w : World} {l : List UInt8} {e : TypeId} (hn : l.length ≤ maxLen) : OwnB (w.alloc (.cells (l.map u8).toArray e)) (some ⟨w.heap.size, 0, none⟩) l.length l :=
  own_lit (by simp) hn

theorem freeze_heap (w : World) (g n m : Nat) (cs : Array Value) (e : TypeId) (h : w.heap[g]? = some (.cells cs e (0, 0))) (hm : m ≠ 0) : (w.freeze ⟨g, n, none⟩ m).heap[g]? = some (.cells cs e (n, n + m)) := by
  simp [World.freeze, hm, Array.getElem?_modify, h]
theorem freeze_other (w : World) (g n m k : Nat) (h : k ≠ g) : (w.freeze ⟨g, n, none⟩ m).heap[k]? = w.heap[k]? := by
  unfold World.freeze
  split
  · rfl
  · simp only [Array.getElem?_modify]; rw [if_neg (fun e => h e.symm)]
theorem freeze_size (w : World) (a : Addr) (m : Nat) : (w.freeze a m).heap.size = w.heap.size := by unfold World.freeze; split <;> simp
theorem freeze_os (w : World) (a : Addr) (m : Nat) : (w.freeze a m).os = w.os := by unfold World.freeze; split <;> rfl
theorem freeze_tape (w : World) (a : Addr) (m : Nat) : (w.freeze a m).tape = w.tape := by unfold World.freeze; split <;> rfl
theorem freeze_output (w : World) (a : Addr) (m : Nat) : (w.freeze a m).output = w.output := by unfold World.freeze; split <;> rfl
theorem freeze_new_fr (S : Nat → Prop) (w u : World) (hu : Fr S w u) (n m : Nat) : Fr S w (u.freeze ⟨w.heap.size, n, none⟩ m) :=
  ⟨(freeze_os _ _ _).trans hu.os, (freeze_tape _ _ _).trans hu.tape, (freeze_output _ _ _).trans hu.output, by rw [freeze_size]; exact hu.size, fun k hk hn => (freeze_other _ _ _ _ _ (by omega)).trans (hu.block k hk hn)⟩

theorem to_bytes {t e s : TypeId} (T : BT P t e s) (w : World) (x : ByteArray) (hx : x.size ≤ maxLen) :
    ∃ A c w', RunsTo P (convert s t (.string x)) w (.slice A (sb x).length c) w' ∧ OwnB w' A c (sb x) ∧ Ext w w' ∧ New w A ∧ A ≠ none := by
  refine ⟨_, _, _, by rw [sb_length]; exact Lib.run_convert_string_bytes w s t e x (und_underlying T.hs) (und_underlying T.ht) (und_underlying T.he), ?_, ?_, New.self w 0 none, by simp⟩
  · have hge := grownCap_ge w x.size 0 e
    have hcs : (Lib.bytesCells w e x).size = grownCap w x.size 0 e := by
      simp only [Lib.bytesCells, Array.size_append, Array.size_map, Array.size_replicate]
      have : x.data.size = x.size := rfl
      omega
    refine ⟨by simp, grownCap_le_maxLen w _ 0 e hx, .inr ⟨w.heap.size, Lib.bytesCells w e x, e, (Lib.bytesCells w e x).size, (Lib.bytesCells w e x).size + 1, rfl, ?_, by rw [sb_length]; exact hge, by rw [hcs, Nat.mul_one], ?_, .inl (Nat.le_refl _)⟩⟩
    · exact freeze_heap _ _ _ _ _ _ (Go.heap_alloc_new w.drew _) (by decide)
    · have e1 : (Lib.bytesCells w e x).toList = (sb x).map u8 ++ List.replicate (grownCap w x.size 0 e - x.size) (.int .u8 0) := by
        simp [Lib.bytesCells, sb, u8]
      rw [e1, Nat.mul_one]
      have : (sb x).length = ((sb x).map u8).length := by simp
      rw [this]; exact List.take_left
  · exact freeze_new_fr NoB w _ ((Fr.drew _ w).ext (Fr.alloc _ _ _)) _ _

theorem to_str {t e s : TypeId} (T : BT P t e s) {w : World} {Ω : Nat → Prop} {A : Option Addr} {l : List UInt8} (h : Imm KB Ω w A l) (c : Nat) :
    RunsTo P (convert t s (.slice A l.length c)) w (.string ⟨l.toArray⟩) w := by
  unfold RunsTo
  rw [run_convert_bytes_string w t s e _ _ c (und_underlying T.ht) (und_underlying T.he) (und_underlying T.hs)]
  cases A with
  | none =>
    have : l = [] := by
      cases l with
      | nil => rfl
      | cons b r => obtain ⟨ad, h, _⟩ := h 0 b rfl; cases h
    subst this
    simp [Conv.bytesToString]
    rfl
  | some ad =>
    have hl := run_loadCells_list (P := P) w ad (l.map u8) (fun j v hj => by
      rw [List.getElem?_map] at hj
      cases hb : l[j]? with
      | none => simp [hb] at hj
      | some b =>
        simp [hb] at hj; subst hj
        obtain ⟨ad', hA, _, cs, hr, hc⟩ := h j b hb
        cases hA; cases hr
        have h2 := hc 0 _ rfl
        rw [show j * KB.size + 0 = j from Nat.mul_one j] at h2
        exact h2)
    rw [List.length_map] at hl
    rw [run_bytesToString w ad l.length c (l.map fun b => (b.toNat : Int)) (by rw [hl]; simp [u8]), foldl_push_bytes]
    have e2 : (l.map (fun b => (b.toNat : Int))).map (fun n => UInt8.ofNat n.toNat) = l := by
      rw [List.map_map]; conv => rhs; rw [← List.map_id l]
      apply List.map_congr_left; intro b _; simp
    rw [e2]
    simp [ByteArray.empty, ByteArray.emptyWithCapacity]
    rfl
theorem eq_str (l l' : List UInt8) : (ByteArray.toList ⟨l.toArray⟩ == ByteArray.toList ⟨l'.toArray⟩) = decide (l = l') := by
  have e : ∀ m : List UInt8, ByteArray.toList ⟨m.toArray⟩ = m := fun m => by
    rw [ByteArray.toList_eq]
  rw [e, e]
  by_cases h : l = l' <;> simp [h]

end
end Go.Sx
set_option linter.unusedVariables false
set_option linter.unusedSimpArgs false
namespace Go.Sx
section
variable {P : Program} {α : Type}
def OwnK (K : Kd α) (w : World) (A : Option Addr) (c : Nat) (l : List α) : Prop :=
  ∃ xs, Own w K.size A l.length c xs ∧ ∀ i a, l[i]? = some a → K.rep (ownB A) w a ((xs.drop (i * K.size)).take K.size)
theorem OwnK.nil (K : Kd α) (w : World) : OwnK K w none 0 [] := ⟨[], Own.nil w _, fun i a h => by simp at h⟩
theorem OwnK.ext {K : Kd α} {w w' : World} {A : Option Addr} {c : Nat} {l : List α} (h : OwnK K w A c l) (e : Ext w w') : OwnK K w' A c l := by
  obtain ⟨xs, ho, hr⟩ := h
  exact ⟨xs, ho.keep e (fun _ _ h => h), fun i a ha => K.keep (hr i a ha) (e.step _)⟩
theorem OwnK.le {K : Kd α} {w : World} {A : Option Addr} {c : Nat} {l : List α} (h : OwnK K w A c l) : l.length ≤ c := by
  obtain ⟨xs, ho, _⟩ := h
  exact ho.le
theorem OwnK.imm {K : Kd α} {w : World} {A : Option Addr} {c : Nat} {l : List α} (h : OwnK K w A c l) (hz : 0 < K.size) : Imm K NoB w A l := by
  obtain ⟨xs, ho, hr⟩ := h
  exact ho.imm hz (fun _ _ h => h) fun i a ha => K.keep (hr i a ha) ⟨Nat.le_refl _, fun _ _ _ => rfl, fun _ _ h => h.elim⟩
theorem Grew.step {A A' : Option Addr} {w w' : World} (g : Grew A A' w w') : Step (ownB A) w (ownB A') w' :=
  g.fr.step (fun _ _ h => h) (fun k hk h => (g.sub k h).elim id (fun h' => absurd hk (Nat.not_lt.2 h')))
theorem OwnK.push {K : Kd α} {t e by_ : Nat} {z : List Value} (T : SlT P t e K.size by_ z) {ty : TypeId} {w : World} {A : Option Addr} {c : Nat} {l : List α} (h : OwnK K w A c l) {a : α} {cs : List Value} (ha : K.rep (ownB A) w a cs)
    (h1 : ∀ v ∈ cs, v.oneCell' = true) {e' : TypeId} (hb : l.length + 1 ≤ maxLen) (hb2 : (l.length + 1) * by_ ≤ 140737488355328) :
    ∃ A' c' w', RunsTo P (Builtin.append_ #[t, t] ty #[.slice A l.length c, .slice (some ⟨w.heap.size, 0, none⟩) 1 1]) (w.alloc (.cells cs.toArray e')) (.slice A' (l ++ [a]).length c') w' ∧ OwnK K w' A' c' (l ++ [a]) ∧ Grew A A' w w' := by
  obtain ⟨xs, ho, hr⟩ := h
  obtain ⟨A', c', w', hrun, ho', hf, hs, _⟩ := append_one (ty := ty) T ho (cs := cs) (K.len ha) h1 (e' := e') hb hb2
  have g : Grew A A' w w' := ⟨hf, hs⟩
  refine ⟨A', c', w', by simpa using hrun, ⟨xs ++ cs, by simpa using ho', fun i b hi => ?_⟩, g⟩
  have hlen := ho.len
  rcases Nat.lt_or_ge i l.length with hlt | hge
  · rw [List.getElem?_append_left hlt] at hi
    have hle : (i + 1) * K.size ≤ xs.length := by rw [hlen]; exact Nat.mul_le_mul_right _ hlt
    rw [Nat.add_mul, Nat.one_mul] at hle
    rw [List.drop_append_of_le_length (by omega), List.take_append_of_le_length (by simp; omega)]
    exact K.keep (hr i b hi) g.step
  · rw [List.getElem?_append_right hge] at hi
    have hi0 : i - l.length = 0 := by
      have := (List.getElem?_eq_some_iff.1 hi).1
      simp at this; omega
    rw [hi0] at hi
    have : i = l.length := by omega
    subst this
    cases hi
    rw [← hlen, List.drop_left, List.take_of_length_le (by rw [K.len ha]; exact Nat.le_refl _)]
    exact K.keep ha g.step
theorem ownK_lit {K : Kd α} {w : World} {cs : List Value} {e : TypeId} {l : List α} (hl : cs.length = l.length * K.size) (hn : l.length ≤ maxLen)
    (hr : ∀ i a, l[i]? = some a → K.rep NoB w a ((cs.drop (i * K.size)).take K.size)) : OwnK K (w.alloc (.cells cs.toArray e)) (some ⟨w.heap.size, 0, none⟩) l.length l :=
  ⟨cs, own_lit hl hn, fun i a ha => K.keep (hr i a ha) ((Fr.alloc NoB w _).step (fun _ _ h => h.elim) (fun k hk h => by rw [ownB_some] at h; omega))⟩
theorem Imm.cellsOf {K : Kd α} {Ω : Nat → Prop} {w : World} {B : Option Addr} {m : List α} (h : Imm K Ω w B m) (h1 : ∀ a cs, K.rep Ω w a cs → ∀ v ∈ cs, v.oneCell' = true) : ∀ k, k ≤ m.length →
    ∃ ys : List Value, ys.length = k * K.size ∧ (∀ i a, i < k → m[i]? = some a → K.rep Ω w a ((ys.drop (i * K.size)).take K.size)) ∧ (∀ j v, ys[j]? = some v → ∃ ad, B = some ad ∧ w.cell? (ad.add j) = some v) ∧ ∀ v ∈ ys, v.oneCell' = true
  | 0, _ => ⟨[], by simp, fun i a hi => by omega, fun j v hj => by simp at hj, fun v hv => by simp at hv⟩
  | k + 1, hk => by
    obtain ⟨ys, hl, hr, hc, ho⟩ := Imm.cellsOf h h1 k (by omega)
    obtain ⟨ad, hA, _, cs, hrep, hcell⟩ := h k m[k] (by simp)
    have hcl := K.len hrep
    refine ⟨ys ++ cs, by rw [List.length_append, hl, hcl, Nat.add_mul, Nat.one_mul], fun i a hi hia => ?_, fun j v hj => ?_, fun v hv => ?_⟩
    · rcases Nat.lt_or_ge i k with hlt | hge
      · have hle : (i + 1) * K.size ≤ ys.length := by rw [hl]; exact Nat.mul_le_mul_right _ hlt
        rw [Nat.add_mul, Nat.one_mul] at hle
        rw [List.drop_append_of_le_length (by omega), List.take_append_of_le_length (by simp; omega)]
        exact hr i a hlt hia
      · have : i = k := by omega
        subst this
        rw [List.getElem?_eq_getElem (by omega)] at hia
        cases hia
        rw [← hl, List.drop_left, List.take_of_length_le (by omega)]
        exact hrep
    · rcases Nat.lt_or_ge j ys.length with hlt | hge
      · rw [List.getElem?_append_left hlt] at hj
        exact hc j v hj
      · rw [List.getElem?_append_right hge] at hj
        refine ⟨ad, hA, ?_⟩
        have := hcell _ _ hj
        rwa [show k * K.size + (j - ys.length) = j by omega] at this
    · rcases List.mem_append.1 hv with hv | hv
      · exact ho v hv
      · exact h1 _ _ hrep v hv
theorem OwnK.append {K : Kd α} {t e by_ : Nat} {z : List Value} (T : SlT P t e K.size by_ z) {ty : TypeId} {w : World} {A B : Option Addr} {c cb : Nat} {l m : List α} (h : OwnK K w A c l) (hB : Imm K (ownB A) w B m)
    (h1 : ∀ a cs, K.rep (ownB A) w a cs → ∀ v ∈ cs, v.oneCell' = true) (hb : l.length + m.length ≤ maxLen) (hb2 : (l.length + m.length) * by_ ≤ 140737488355328) :
    ∃ A' c' w', RunsTo P (Builtin.append_ #[t, t] ty #[.slice A l.length c, .slice B m.length cb]) w (.slice A' (l ++ m).length c') w' ∧ OwnK K w' A' c' (l ++ m) ∧ Grew A A' w w' := by
  obtain ⟨xs, ho, hr⟩ := h
  obtain ⟨ys, hyl, hyr, hyc, hy1⟩ := hB.cellsOf h1 m.length (Nat.le_refl _)
  obtain ⟨A', c', w', hrun, ho', hf, hs, _⟩ := append_own (ty := ty) (t2 := t) T ⟨_, T.ht, fun _ h => by cases h⟩ ho (Src.cells (P := P) (c := cb) hyl hyc hy1) hb hb2
  have g : Grew A A' w w' := ⟨hf, hs⟩
  refine ⟨A', c', w', by rw [List.length_append]; exact hrun, ⟨xs ++ ys, by rw [List.length_append]; exact ho', fun i b hi => ?_⟩, g⟩
  have hlen := ho.len
  rcases Nat.lt_or_ge i l.length with hlt | hge
  · rw [List.getElem?_append_left hlt] at hi
    have hle : (i + 1) * K.size ≤ xs.length := by rw [hlen]; exact Nat.mul_le_mul_right _ hlt
    rw [Nat.add_mul, Nat.one_mul] at hle
    rw [List.drop_append_of_le_length (by omega), List.take_append_of_le_length (by simp; omega)]
    exact K.keep (hr i b hi) g.step
  · rw [List.getElem?_append_right hge] at hi
    have hil : i - l.length < m.length := (List.getElem?_eq_some_iff.1 hi).1
    have e1 : i * K.size = xs.length + (i - l.length) * K.size := by rw [hlen, ← Nat.add_mul]; congr 1; omega
    rw [e1, List.drop_append, List.drop_of_length_le (by omega), List.nil_append, Nat.add_sub_cancel_left]
    exact K.keep (hyr _ b hil hi) g.step
def Kd.at (w0 : World) (K : Kd α) : Kd α := ⟨K.size, fun _ _ a cs => K.rep NoB w0 a cs, fun h => K.len h, fun h _ => h⟩
theorem Ext.stepTo {w w' : World} (e : Ext w w') {Ω : Nat → Prop} (h : ∀ k, k < w.heap.size → ¬ Ω k) : Step NoB w Ω w' := e.step' h
def Wr (base g0 : Nat) (w : World) (A : Option Addr) (n : Nat) : Prop :=
  n = 0 ∨ ∃ g cur e fr, A = some ⟨g, 0, none⟩ ∧ base ≤ g ∧ g ≠ g0 ∧ w.heap[g]? = some (.cells cur e fr) ∧ n ≤ cur.size ∧ (cur.size ≤ fr.1 ∨ fr.2 ≤ fr.1)
theorem Wr.set {base g0 : Nat} {w : World} {A : Option Addr} {n : Nat} (h : Wr base g0 w A n) (g o : Nat) (v : Value) : Wr base g0 (w.setCell ⟨g, o, none⟩ v) A n := by
  rcases h with h | ⟨g', cur, e, fr, rfl, hb, hne, hg, hn, hf⟩
  · exact .inl h
  · by_cases hgg : g' = g
    · subst hgg
      refine .inr ⟨g', cur.setIfInBounds o v, e, fr, rfl, hb, hne, ?_, by simpa using hn, by simpa using hf⟩
      obtain ⟨lo, hi⟩ := fr
      simp [World.setCell, Array.getElem?_modify, hg]
    · refine .inr ⟨g', cur, e, fr, rfl, hb, hne, ?_, hn, hf⟩
      simp only [World.setCell, Array.getElem?_modify]
      rw [if_neg (fun h => hgg h.symm)]
      exact hg
theorem Wr.of {base g0 : Nat} {w : World} {A : Option Addr} {c : Nat} {l : List UInt8} (h : OwnB w A c l) (hk : ∀ k, ownB A k → k ≠ g0 ∧ base ≤ k) : Wr base g0 w A l.length := by
  rcases h.2.2 with ⟨_, h1, _⟩ | ⟨g, cur, e, lo, hi, hA, hg, hn, hs, _, hf⟩
  · exact .inl h1
  · exact .inr ⟨g, cur, e, (lo, hi), hA, (hk g ⟨_, hA, rfl⟩).2, (hk g ⟨_, hA, rfl⟩).1, hg, by omega, hf⟩
theorem Wr.at {base g0 : Nat} {w : World} {A : Option Addr} {n : Nat} (h : Wr base g0 w A n) {j : Nat} (hj : j < n) : ∃ g, A = some ⟨g, 0, none⟩ ∧ base ≤ g ∧ g ≠ g0 ∧ (w.cell? ⟨g, j, none⟩).isSome = true ∧ w.frozen? ⟨g, j, none⟩ = false := by
  rcases h with h | ⟨g, cur, e, fr, hA, hb, hne, hg, hn, hf⟩
  · omega
  · refine ⟨g, hA, hb, hne, ?_, ?_⟩
    · rw [cell_of_row w g j cur e fr hg]
      simp; omega
    · exact not_frozen hg (by omega) hf
end
end Go.Sx
set_option linter.unusedVariables false
set_option linter.unusedSimpArgs false
namespace Go.Sx
def Blk (w : World) (g : Nat) (cur : List Value) : Prop := ∃ e, w.heap[g]? = some (.cells cur.toArray e (0, 0))
theorem Blk.alloc (w : World) (cs : List Value) (e : TypeId) : Blk (w.alloc (.cells cs.toArray e)) w.heap.size cs := ⟨e, Go.heap_alloc_new w _⟩
theorem Blk.lt {w : World} {g : Nat} {cur : List Value} (h : Blk w g cur) : g < w.heap.size := by obtain ⟨e, h⟩ := h; exact (Array.getElem?_eq_some_iff.1 h).1
theorem Blk.keep {w w' : World} {g : Nat} {cur : List Value} {S : Nat → Prop} (h : Blk w g cur) (hf : Fr S w w') (hn : ¬ S g) : Blk w' g cur := by
  have hl := h.lt
  obtain ⟨e, h⟩ := h; exact ⟨e, (hf.block g hl hn).trans h⟩
theorem Blk.ext {w w' : World} {g : Nat} {cur : List Value} (h : Blk w g cur) (e : Ext w w') : Blk w' g cur := h.keep e (fun h => h)
theorem Blk.cell0 {w : World} {g : Nat} {cur : List Value} (h : Blk w g cur) {o : Nat} {v : Value} (hv : cur[o]? = some v) : w.cell? ⟨g, o, none⟩ = some v := by
  obtain ⟨e, h⟩ := h
  rw [cell_of_row w g o _ e _ h]; simpa using hv
theorem Blk.cell {w : World} {g : Nat} {cur : List Value} (h : Blk w g cur) {o i : Nat} {v : Value} (hv : cur[o + i]? = some v) : w.cell? ((⟨g, o, none⟩ : Addr).add i) = some v := by rw [add_new]; exact h.cell0 hv
theorem Blk.cell' {w : World} {g : Nat} {cur : List Value} (h : Blk w g cur) {o i j : Nat} {v : Value} (hv : cur[o + i + j]? = some v) : w.cell? (((⟨g, o, none⟩ : Addr).add i).add j) = some v := by rw [add_new, add_new]; exact h.cell0 hv
theorem Blk.unfrozen {w : World} {g : Nat} {cur : List Value} (h : Blk w g cur) (o i : Nat) : w.frozen? ((⟨g, o, none⟩ : Addr).add i) = false := by
  obtain ⟨e, h⟩ := h
  rw [add_new]
  simp [World.frozen?, h]
theorem Blk.set0 {w : World} {g : Nat} {cur : List Value} (h : Blk w g cur) (o : Nat) (v : Value) : Blk (w.setCell ⟨g, o, none⟩ v) g (cur.set o v) := by
  obtain ⟨e, h⟩ := h
  refine ⟨e, ?_⟩
  simp [World.setCell, Array.getElem?_modify, h]
theorem Blk.set {w : World} {g : Nat} {cur : List Value} (h : Blk w g cur) (o i : Nat) (v : Value) : Blk (w.setCell ((⟨g, o, none⟩ : Addr).add i) v) g (cur.set (o + i) v) := by rw [add_new]; exact h.set0 _ _
theorem Ext.setNew {w w1 : World} (h : Ext w w1) {a : Addr} (ha : w.heap.size ≤ a.block) (v : Value) : Ext w (w1.setCell a v) :=
  h.trans (Fr.setCell (fun k => k = a.block) v (.inr rfl)) (fun _ _ h => h) (fun k hk e => absurd hk (by omega))
theorem Ext.setNewAdd {w w1 : World} (h : Ext w w1) {g o i : Nat} (ha : w.heap.size ≤ g) (v : Value) : Ext w (w1.setCell ((⟨g, o, none⟩ : Addr).add i) v) := h.setNew (by rw [add_block]; exact ha) v
theorem Ext.alloc {w w1 : World} (h : Ext w w1) (o : Obj) : Ext w (w1.alloc o) := h.trans' (Fr.alloc NoB w1 o)
theorem Ext.drew {w w1 : World} (h : Ext w w1) : Ext w w1.drew := h.trans' (Fr.drew NoB w1)
theorem Ext.drew0 {w w1 : World} (h : Ext w.drew w1) : Ext w w1 := (Fr.drew NoB w).ext h
theorem brnb {b : Bool} {A B : Prop} (h1 : b = false → A) (h2 : b = true → B) : cond (!b) A B := by cases b with | true => exact h2 rfl | false => exact h1 rfl
/-! ## worlds by name -/
theorem Fresh.blk {w w' : World} {g : Nat} {cs : List Value} {e : TypeId} (h : Fresh w g w' cs e) : Blk w' g cs := by obtain ⟨rfl, rfl⟩ := h; exact Blk.alloc _ _ _
theorem Fresh.ext {w w' : World} {g : Nat} {cs : List Value} {e : TypeId} (h : Fresh w g w' cs e) : Ext w w' := by obtain ⟨rfl, rfl⟩ := h; exact Fr.alloc NoB w _
theorem Fresh.ge {w w' : World} {g : Nat} {cs : List Value} {e : TypeId} (h : Fresh w g w' cs e) : w.heap.size ≤ g := Nat.le_of_eq h.hg.symm
theorem Fresh.lt {w w' : World} {g : Nat} {cs : List Value} {e : TypeId} (h : Fresh w g w' cs e) : g < w'.heap.size := h.blk.lt
theorem Blk.stOK {w : World} {g o : Nat} {cur : List Value} (h : Blk w g cur) : ∀ (vs : List Value) (i : Nat), o + i + vs.length ≤ cur.length → Go.Sx.stOK ⟨g, o, none⟩ i vs w
  | [], _, _ => trivial
  | [v], i, hl => by
    have hlt : o + i < cur.length := by simp at hl; omega
    exact ⟨by rw [h.cell (v := cur[o + i]) (by simp [hlt])]; rfl, h.unfrozen _ _⟩
  | v :: x :: vs, i, hl => by
    have hlt : o + i < cur.length := by simp at hl; omega
    exact ⟨⟨by rw [h.cell (v := cur[o + i]) (by simp [hlt])]; rfl, h.unfrozen _ _⟩, Blk.stOK h (x :: vs) (i + 1) (by simp at hl ⊢; omega)⟩
def setL : List Value → Nat → List Value → List Value
  | cur, _, [] => cur
  | cur, o, v :: vs => setL (cur.set o v) (o + 1) vs
theorem Blk.setAll {g o : Nat} : ∀ (vs : List Value) (i : Nat) {w : World} {cur : List Value}, Blk w g cur → Blk (Go.Sx.setAll ⟨g, o, none⟩ i vs w) g (setL cur (o + i) vs)
  | [], _, _, _, h => h
  | v :: vs, i, w, cur, h => by
    have := Blk.setAll (o := o) vs (i + 1) (h.set o i v)
    rwa [← Nat.add_assoc] at this
theorem Fr.setAll {g o : Nat} : ∀ (vs : List Value) (i : Nat) (w : World), Fr (fun k => k = g) w (Go.Sx.setAll ⟨g, o, none⟩ i vs w)
  | [], _, w => .refl _ _
  | v :: vs, i, w => (Fr.setCell (fun k => k = g) v (.inr (by rw [add_block]))).trans (Fr.setAll vs (i + 1) _) (fun _ _ h => h) (fun _ _ h => h)
theorem Ext.setAll {w w1 : World} (h : Ext w w1) {g o : Nat} (hg : w.heap.size ≤ g) (vs : List Value) (i : Nat) : Ext w (Go.Sx.setAll ⟨g, o, none⟩ i vs w1) :=
  h.trans (Fr.setAll vs i w1) (fun _ _ h => h) (fun k hk e => absurd hk (by omega))
end Go.Sx
set_option linter.unusedVariables false
set_option linter.unusedSimpArgs false
namespace Go.Sx
section
variable {P : Program}
theorem Own.at_ {w : World} {sz : Nat} {A : Option Addr} {n c : Nat} {xs : List Value} (h : Own w sz A n c xs) {j : Nat} (hj : j < n * sz) :
    ∃ g, A = some ⟨g, 0, none⟩ ∧ (w.cell? ⟨g, j, none⟩).isSome = true ∧ w.frozen? ⟨g, j, none⟩ = false ∧ ∀ v, Own (w.setCell ⟨g, j, none⟩ v) sz A n c (xs.set j v) ∧ Fr (ownB A) w (w.setCell ⟨g, j, none⟩ v) := by
  rcases h.2.2 with ⟨_, rfl, _⟩ | ⟨g, cur, e, lo, hi, rfl, hg, hnc, hcs, htake, hfz⟩
  · simp at hj
  · have hjc : j < cur.size := by rw [hcs]; exact Nat.lt_of_lt_of_le hj (Nat.mul_le_mul_right _ hnc)
    refine ⟨g, rfl, by rw [cell_of_row w g j cur e _ hg]; simp [hjc], not_frozen hg hjc hfz, fun v => ⟨⟨by rw [List.length_set]; exact h.1, h.2.1, .inr ⟨g, cur.setIfInBounds j v, e, lo, hi, rfl, ?_, hnc, by simpa using hcs, ?_, by simpa using hfz⟩⟩, ?_⟩⟩
    · simp [World.setCell, Array.getElem?_modify, hg]
    · rw [Array.toList_setIfInBounds, ← htake, List.take_set]
    · exact Fr.setCell (ownB (some ⟨g, 0, none⟩)) v (.inr (by rw [ownB_some]))
end
end Go.Sx
set_option linter.unusedVariables false
set_option linter.unusedSectionVars false
set_option linter.unusedSimpArgs false
namespace Go.Sx
open Go.MapKept
section
variable {P : Program} {α : Type} [DecidableEq α]
def getM : List (α × Value) → α → Option Value
  | [], _ => none
  | (x, u) :: l, a => if a = x then some u else getM l a
def setM : List (α × Value) → α → Value → List (α × Value)
  | [], a, v => [(a, v)]
  | (x, u) :: l, a, v => if a = x then (a, v) :: l else (x, u) :: setM l a v
def findM : List (α × Value) → α → Nat → Option (Nat × Value)
  | [], _, _ => none
  | (x, u) :: l, a, i => if a = x then some (i, u) else findM l a (i + 1)
theorem findM_get (a : α) : ∀ (l : List (α × Value)) (i : Nat), (findM l a i).map (·.2) = getM l a
  | [], _ => rfl
  | (x, u) :: l, i => by
    rw [findM, getM]
    split
    · rfl
    · exact findM_get a l (i + 1)
theorem findM_none (a : α) (v : Value) : ∀ (l : List (α × Value)) (i : Nat), findM l a i = none → setM l a v = l ++ [(a, v)]
  | [], _, _ => rfl
  | (x, u) :: l, i, h => by
    rw [findM] at h
    split at h
    · cases h
    · rename_i hne
      rw [setM, if_neg hne, findM_none a v l (i + 1) h]; rfl
theorem findM_some (a : α) (v : Value) : ∀ (l : List (α × Value)) (i j : Nat) (u : Value), findM l a i = some (j, u) → ∃ n, j = i + n ∧ l[n]? = some (a, u) ∧ setM l a v = l.set n (a, v)
  | [], _, _, _, h => by cases h
  | (x, u) :: l, i, j, u', h => by
    rw [findM] at h
    split at h
    · rename_i he
      subst he
      cases h
      exact ⟨0, rfl, rfl, by rw [setM, if_pos rfl]; rfl⟩
    · rename_i hne
      obtain ⟨n, h1, h2, h3⟩ := findM_some a v l (i + 1) j u' h
      exact ⟨n + 1, by omega, by simpa using h2, by rw [setM, if_neg hne, h3]; rfl⟩
structure KeyF (P : Program) (kt : TypeId) (d : TypeDesc) (f : α → Value) : Prop where
  und : und P kt = some d
  key : ∀ a, IsKey d (f a)
  inj : ∀ a b, f a = f b → a = b
def MapK (f : α → Value) (w : World) (b : Nat) (l : List (α × Value)) : Prop := ∃ es clock, w.heap[b]? = some (.map es clock) ∧ es.toList.map (fun e => (e.key, e.val)) = l.map (fun p => (f p.1, p.2))
theorem MapK.lt {f : α → Value} {w : World} {b : Nat} {l : List (α × Value)} (h : MapK f w b l) : b < w.heap.size := by
  obtain ⟨es, c, h, _⟩ := h; exact (Array.getElem?_eq_some_iff.1 h).1
theorem MapK.keep {f : α → Value} {w w' : World} {b : Nat} {l : List (α × Value)} {S : Nat → Prop} (h : MapK f w b l) (hf : Fr S w w') (hn : ¬ S b) : MapK f w' b l := by
  have hl := h.lt
  obtain ⟨es, c, h, he⟩ := h; exact ⟨es, c, (hf.block b hl hn).trans h, he⟩
theorem MapK.ext {f : α → Value} {w w' : World} {b : Nat} {l : List (α × Value)} (h : MapK f w b l) (e : Ext w w') : MapK f w' b l := h.keep e (fun h => h)
theorem MapK.new (f : α → Value) (w : World) : MapK f (w.alloc (.map #[] 0)) w.heap.size [] := ⟨#[], 0, (MapKept.heap_alloc w _).1, rfl⟩
theorem makeMap_run (t : TypeId) (w : World) : RunsTo P (Instr.makeMap t none) w (.map (some w.heap.size)) (w.alloc (.map #[] 0)) := by
  unfold RunsTo; simp [Instr.makeMap]
theorem findNow_M {kt : TypeId} {d : TypeDesc} {f : α → Value} (F : KeyF P kt d f) (a : α) : ∀ (es : List MapEntry) (l : List (α × Value)) (i : Nat), es.map (fun e => (e.key, e.val)) = l.map (fun p => (f p.1, p.2)) → Instr.findNow d (f a) es i = some (findM l a i)
  | [], [], _, _ => rfl
  | [], _ :: _, _, h => by cases h
  | _ :: _, [], _, h => by cases h
  | e :: es, (x, u) :: l, i, h => by
    simp only [List.map_cons, List.cons.injEq, Prod.mk.injEq] at h
    obtain ⟨⟨h1, h2⟩, h3⟩ := h
    obtain ⟨r, hr, hiff⟩ := sameNow_of_keys (F.key a) (F.key x)
    rw [Instr.findNow, h1, hr, findM]
    by_cases hax : a = x
    · subst hax
      rw [if_pos rfl, hiff.2 rfl]
      simp [h2]
    · rw [if_neg hax]
      cases r with
      | true => exact absurd (F.inj _ _ (hiff.1 rfl)) hax
      | false => exact findNow_M F a es l (i + 1) h3
theorem MapK.look {kt et t : TypeId} {d : TypeDesc} {f : α → Value} (F : KeyF P kt d f) (ht : Go.Sx.und P t = some (.map kt et)) {w : World} {b : Nat} {l : List (α × Value)} (h : MapK f w b l) (a : α) {z : Value} (hz : ∀ w, (zeroValue et).run P w = .ok z w) :
    RunsTo P (Instr.lookup t (.map (some b)) (f a) true) w (.tuple #[(getM l a).getD z, .bool (getM l a).isSome]) w ∧ RunsTo P (Instr.lookup t (.map (some b)) (f a) false) w ((getM l a).getD z) w := by
  obtain ⟨es, clock, hb, he⟩ := h
  have hf := findNow_M F a es.toList l 0 he
  have hg := findM_get a l 0
  have hc : (Instr.checkKey es.isEmpty 10000 kt (f a)).run P w = .ok () w := MapKept.run_checkKey (und_underlying F.und) (F.key a) _ 9999
  rw [← hg]
  cases hr : findM l a 0 with
  | none =>
    rw [hr] at hf
    constructor <;> simp [RunsTo, Instr.lookup, run_und ht, MapKept.run_getObj_map hb, hc, MapKept.run_findKey (und_underlying F.und) hf, Result.andThen, hz]
  | some p =>
    obtain ⟨j, u⟩ := p
    rw [hr] at hf
    constructor <;> simp [RunsTo, Instr.lookup, run_und ht, MapKept.run_getObj_map hb, hc, MapKept.run_findKey (und_underlying F.und) hf, Result.andThen]
theorem MapK.update {kt et t : TypeId} {d : TypeDesc} {f : α → Value} (F : KeyF P kt d f) (ht : Go.Sx.und P t = some (.map kt et)) {w : World} {b : Nat} {l : List (α × Value)} (h : MapK f w b l) (a : α) (v : Value) :
    ∃ w', RunsTo P (Instr.mapUpdate t (.map (some b)) (f a) v) w () w' ∧ MapK f w' b (setM l a v) ∧ Fr (fun k => k = b) w w' := by
  obtain ⟨es, clock, hb, he⟩ := h
  have hf := findNow_M F a es.toList l 0 he
  have hc : (Instr.checkKey false 10000 kt (f a)).run P w = .ok () w := MapKept.run_checkKey (und_underlying F.und) (F.key a) _ 9999
  have frame : ∀ o : Obj, Fr (fun k => k = b) w { w with heap := w.heap.setIfInBounds b o } := fun o => ⟨rfl, rfl, rfl, by simp, fun k _ hn => (MapKept.heap_set hb (o' := o)).2 k hn⟩
  cases hr : findM l a 0 with
  | none =>
    rw [hr] at hf
    refine ⟨{ w with heap := w.heap.setIfInBounds b (.map (es.push { key := f a, val := v, born := clock }) (clock + 1)) }, ?_, ⟨_, _, (MapKept.heap_set hb).1, ?_⟩, frame _⟩
    · simp [RunsTo, Instr.mapUpdate, run_und ht, MapKept.run_getObj_map hb, hc, MapKept.run_findKey (und_underlying F.und) hf, MapKept.run_setObj_map _ hb, Result.andThen]
    · rw [findM_none a v l 0 hr]; simp [he]
  | some p =>
    obtain ⟨j, u⟩ := p
    rw [hr] at hf
    obtain ⟨n, hj, hn, hs⟩ := findM_some a v l 0 j u hr
    rw [Nat.zero_add] at hj
    obtain rfl : j = n := hj
    have hk : ∃ e, es[j]? = some e ∧ e.key = f a := by
      have := congrArg (fun q => q[j]?) he
      simp only [List.getElem?_map, hn, Option.map_some] at this
      cases h' : es.toList[j]? with
      | none => rw [h'] at this; cases this
      | some e => rw [h'] at this; simp at this; exact ⟨e, by simpa using h', this.1⟩
    obtain ⟨e, hen, hek⟩ := hk
    have hst : (Instr.keyThatStays (((es[j]?).map (·.key)).getD (f a)) (f a)).run P w = .ok (f a) w := by
      rw [hen]; simp only [Option.map_some, Option.getD_some, hek]
      exact MapKept.run_keyThatStays (F.key a)
    refine ⟨{ w with heap := w.heap.setIfInBounds b (.map (es.modify j fun e => { e with key := f a, val := v }) clock) }, ?_, ⟨_, _, (MapKept.heap_set hb).1, ?_⟩, frame _⟩
    · simp [RunsTo, Instr.mapUpdate, run_und ht, MapKept.run_getObj_map hb, hc, MapKept.run_findKey (und_underlying F.und) hf, MapKept.run_setObj_map _ hb, Result.andThen, hst]
    · rw [hs, Array.toList_modify]
      apply List.ext_getElem?
      intro i
      have hi := congrArg (fun q => q[i]?) he
      simp only [List.getElem?_map] at hi
      simp only [List.getElem?_map, List.getElem?_modify, List.getElem?_set]
      by_cases hni : j = i
      · subst hni
        have hl : j < l.length := (List.getElem?_eq_some_iff.1 hn).1
        have : es.toList[j]? = some e := by simpa using hen
        simp [this, hl]
      · simp only [hni, if_false]
        cases h' : es.toList[i]? with
        | none => rw [h'] at hi; simpa using hi
        | some q => rw [h'] at hi; simpa using hi
end
theorem keyInt {P : Program} {kt : TypeId} {q : IntKind} (h : und P kt = some (.int q)) : KeyF P kt (.int q) (fun a : Int => Value.int q a) := ⟨h, fun a => by simp [IsKey], fun a b e => by cases e; rfl⟩
end Go.Sx
set_option linter.unusedVariables false
set_option linter.unusedSimpArgs false
namespace Go.Sx
section
variable {P : Program} {α : Type}
def Kd.out (G : Nat → Prop) (K : Kd α) : Kd α := ⟨K.size, fun Ω w a cs => K.rep (fun k => Ω k ∨ G k) w a cs, fun h => K.len h, fun h st => K.keep h ⟨st.size, fun k hk hn => st.block k hk (fun h => hn (.inl h)), fun k hk h => h.imp (st.sub k hk) id⟩⟩
theorem OwnK.lt {K : Kd α} {w : World} {A : Option Addr} {c : Nat} {l : List α} (h : OwnK K w A c l) : ∀ k, ownB A k → k < w.heap.size := by
  obtain ⟨xs, ho, _⟩ := h; exact ho.lt
theorem OwnK.fr {K : Kd α} {w w' : World} {S : Nat → Prop} {A : Option Addr} {c : Nat} {l : List α} (h : OwnK K w A c l) (hf : Fr S w w') (hn : ∀ k, ownB A k → ¬ S k) (hr : ∀ a cs, a ∈ l → K.rep (ownB A) w a cs → K.rep (ownB A) w' a cs) : OwnK K w' A c l := by
  obtain ⟨xs, ho, hx⟩ := h
  exact ⟨xs, ho.keep hf hn, fun i a ha => hr a _ (List.mem_of_getElem? ha) (hx i a ha)⟩
theorem OwnK.take {K : Kd α} {w : World} {A : Option Addr} {c : Nat} {l : List α} (h : OwnK K w A c l) (k : Nat) (hk : k ≤ l.length) : OwnK K w A c (l.take k) := by
  obtain ⟨xs, ho, hx⟩ := h
  refine ⟨xs.take (k * K.size), by rw [List.length_take, Nat.min_eq_left hk]; exact ho.take hk, fun i a ha => ?_⟩
  rw [List.getElem?_take] at ha
  split at ha
  · rename_i hlt
    have := hx i a ha
    have e : ((xs.take (k * K.size)).drop (i * K.size)).take K.size = (xs.drop (i * K.size)).take K.size := by
      rw [List.drop_take, List.take_take, Nat.min_eq_left]
      have : (i + 1) * K.size ≤ k * K.size := Nat.mul_le_mul_right _ hlt
      rw [Nat.add_mul, Nat.one_mul] at this; omega
    rw [e]; exact this
  · cases ha
theorem OwnK.blk {K : Kd α} {w : World} {A : Option Addr} {c : Nat} {l : List α} (h : OwnK K w A c l) (hz : 0 < K.size) {i : Nat} (hi : i < l.length) : ∃ g, A = some ⟨g, 0, none⟩ ∧ ∀ j, j < K.size → (w.cell? ⟨g, i * K.size + j, none⟩).isSome = true ∧ w.frozen? ⟨g, i * K.size + j, none⟩ = false := by
  obtain ⟨xs, ho, hx⟩ := h
  have hle : (i + 1) * K.size ≤ l.length * K.size := Nat.mul_le_mul_right _ hi
  rw [Nat.add_mul, Nat.one_mul] at hle
  obtain ⟨g, hA, _⟩ := ho.at_ (j := i * K.size) (by omega)
  refine ⟨g, hA, fun j hj => ?_⟩
  obtain ⟨g', hA', h1, h2, _⟩ := ho.at_ (j := i * K.size + j) (by omega)
  rw [hA] at hA'; cases hA'
  exact ⟨h1, h2⟩
theorem setAll_own {sz n c o g : Nat} : ∀ (vs : List Value) (i : Nat) {w : World} {xs : List Value}, Own w sz (some ⟨g, 0, none⟩) n c xs → o + i + vs.length ≤ n * sz →
    Own (setAll ⟨g, o, none⟩ i vs w) sz (some ⟨g, 0, none⟩) n c (setL xs (o + i) vs)
  | [], _, _, _, h, _ => h
  | v :: vs, i, w, xs, h, hl => by
    obtain ⟨g', hA, _, _, hs⟩ := h.at_ (j := o + i) (by simp at hl; omega)
    cases hA
    have := setAll_own vs (i + 1) (hs v).1 (o := o) (by simp at hl; omega)
    show Own (setAll ⟨g, o, none⟩ (i + 1) vs (w.setCell ((⟨g, o, none⟩ : Addr).add i) v)) _ _ _ _ _
    rw [add_new]
    exact this
theorem setL_get : ∀ (vs : List Value) (o : Nat) (xs : List Value) (j : Nat), j < xs.length → (setL xs o vs)[j]? = if o ≤ j ∧ j < o + vs.length then vs[j - o]? else xs[j]?
  | [], o, xs, j, h => by
    have : ¬ (o ≤ j ∧ j < o + ([] : List Value).length) := by rw [List.length_nil]; omega
    rw [setL, if_neg this]
  | v :: vs, o, xs, j, h => by
    rw [setL, setL_get vs (o + 1) (xs.set o v) j (by simpa using h), List.getElem?_set]
    by_cases hj : o = j
    · subst hj
      rw [if_neg (by omega), if_pos rfl, if_pos (by simpa using h), if_pos (by simp)]
      simp
    · rw [if_neg hj]
      by_cases hr : o + 1 ≤ j ∧ j < o + 1 + vs.length
      · rw [if_pos hr, if_pos (by simp; omega), show j - o = (j - (o + 1)) + 1 by omega]; rfl
      · rw [if_neg hr, if_neg (by simp; omega)]
theorem OwnK.set {K : Kd α} {w : World} {A : Option Addr} {c : Nat} {l : List α} (h : OwnK K w A c l) (hfix : ∀ w' a cs, K.rep (ownB A) w a cs → K.rep (ownB A) w' a cs) {i : Nat} (hi : i < l.length) {a : α} {cs : List Value} (ha : K.rep (ownB A) w a cs) {g : Nat} (hA : A = some ⟨g, 0, none⟩) :
    OwnK K (setAll ⟨g, i * K.size, none⟩ 0 cs w) A c (l.set i a) := by
  subst hA
  obtain ⟨xs, ho, hx⟩ := h
  have hcl := K.len ha
  have hle : (i + 1) * K.size ≤ l.length * K.size := Nat.mul_le_mul_right _ hi
  rw [Nat.add_mul, Nat.one_mul] at hle
  have ho' := setAll_own (o := i * K.size) cs 0 ho (by omega)
  refine ⟨setL xs (i * K.size + 0) cs, by rw [List.length_set]; exact ho', fun j b hj => ?_⟩
  have hlen := ho.len
  have hjl : j < l.length := by have := (List.getElem?_eq_some_iff.1 hj).1; simpa using this
  have hje : (j + 1) * K.size ≤ l.length * K.size := Nat.mul_le_mul_right _ hjl
  rw [Nat.add_mul, Nat.one_mul] at hje
  have ext : ∀ (ys : List Value), ys.length = K.size → (∀ q, q < K.size → (setL xs (i * K.size + 0) cs)[j * K.size + q]? = ys[q]?) → ((setL xs (i * K.size + 0) cs).drop (j * K.size)).take K.size = ys := by
    intro ys hy hq
    apply List.ext_getElem?
    intro q
    rw [List.getElem?_take]
    split
    · rename_i hlt; rw [List.getElem?_drop]; exact hq q hlt
    · rw [List.getElem?_eq_none (by omega)]
  by_cases hij : i = j
  · subst hij
    rw [List.getElem?_set_self hi] at hj
    cases hj
    rw [ext cs hcl (fun q hq => by
      rw [setL_get _ _ _ _ (by omega), if_pos (by omega)]; congr 1; omega)]
    exact hfix _ _ _ ha
  · rw [List.getElem?_set_ne hij] at hj
    have hb := hx j b hj
    rw [ext ((xs.drop (j * K.size)).take K.size) (K.len hb) (fun q hq => by
      have hd : ¬ (i * K.size + 0 ≤ j * K.size + q ∧ j * K.size + q < i * K.size + 0 + cs.length) := by
        rcases Nat.lt_or_ge i j with h | h
        · have : (i + 1) * K.size ≤ j * K.size := Nat.mul_le_mul_right _ h
          rw [Nat.add_mul, Nat.one_mul] at this; omega
        · have : (j + 1) * K.size ≤ i * K.size := Nat.mul_le_mul_right _ (by omega)
          rw [Nat.add_mul, Nat.one_mul] at this; omega
      rw [setL_get _ _ _ _ (by omega), if_neg hd, List.getElem?_take_of_lt hq, List.getElem?_drop])]
    exact hfix _ _ _ hb
end
end Go.Sx
set_option linter.unusedVariables false
set_option linter.unusedSimpArgs false
namespace Go.Sx
open Go.Sort
abbrev eI : Int → Value := Value.int .i64
end Go.Sx
set_option linter.unusedVariables false
set_option linter.unusedSimpArgs false
namespace Go.Sx
section
variable {P : Program} {α : Type}
theorem Fresh.imm {K : Kd α} {w w' : World} {g : Nat} {cs : List Value} {e : TypeId} (f : Fresh w g w' cs e) {Ω : Nat → Prop} (hΩ : ¬ Ω g) {l : List α} (hz : 0 < K.size) (hl : cs.length = l.length * K.size) (hn : l.length ≤ maxLen)
    (hr : ∀ i a, l[i]? = some a → K.rep Ω w' a ((cs.drop (i * K.size)).take K.size)) : Imm K Ω w' (some ⟨g, 0, none⟩) l := by
  obtain ⟨rfl, rfl⟩ := f
  exact (own_lit (w := w) (cs := cs) (e := e) hl hn).imm hz (fun k hk => by rw [ownB_some] at hk; subst hk; exact hΩ) hr
theorem set0 {w w' : World} {g : Nat} {cur cs : List Value} (b : Blk w g cur) (h : w' = setAll ⟨g, 0, none⟩ 0 cs w) (hl : cs.length = cur.length) : Blk w' g cs ∧ Fr (fun k => k = g) w w' := by
  have e : ∀ (cs pre suf : List Value), suf.length = cs.length → setL (pre ++ suf) pre.length cs = pre ++ cs := by
    intro cs
    induction cs with
    | nil => intro pre suf hs; simp at hs; subst hs; simp [setL]
    | cons v vs ih =>
      intro pre suf hs
      cases suf with
      | nil => simp at hs
      | cons y ys =>
        rw [setL]
        have h1 : (pre ++ y :: ys).set pre.length v = (pre ++ [v]) ++ ys := by simp
        have h2 : pre.length + 1 = (pre ++ [v]).length := by simp
        rw [h1, h2, ih (pre ++ [v]) ys (by simpa using hs)]
        simp
  subst h
  refine ⟨?_, Fr.setAll _ _ _⟩
  have := Blk.setAll (o := 0) cs 0 b
  have h3 := e cs [] cur hl.symm
  simp only [List.nil_append, List.length_nil] at h3
  rw [Nat.add_zero, h3] at this
  exact this
theorem brf {b : Bool} {A B : Prop} (h : b = false) (hB : B) : cond b A B := by rw [h]; exact hB
end
end Go.Sx
set_option linter.unusedVariables false
set_option linter.unusedSimpArgs false
namespace Go.Sx
open Go.ChangeShapes Go.WideShapes Go.ChangeAt Go.RowKit
theorem Ext.below {w w' : World} (h : Ext w w') : Below w.heap.size w w' := ⟨h.os, h.tape, h.output, h.size, fun k hk => h.block k hk (fun h => h)⟩
section
variable {H : Type} {enc : TypeId × Value → H} {P : Program}
theorem trodAll_stays (hl : laidOutB P = true) {w w' : World} {sp : Nat → Bool} (hb : Below w.heap.size w w') : ∀ {ts : List TypeId} {vs : List Value} {ds : List (DataW H)} {ps : List MemPlace},
    (∀ t ∈ ts, P.readableRec t = true ∧ t < P.types.size) → DataW.TrodAll enc P w 0 (fun _ => true) true ts vs ds ps → (∀ p ∈ ps, p.block < w.heap.size) → (∀ p ∈ ps, sp p.block = true) → DataW.TrodAll enc P w' 0 sp true ts vs ds ps
  | [], [], [], _, _, h, _, _ => h
  | _ :: _, _ :: _, _ :: _, _, hT, ⟨p, q, h1, h2, e⟩, hlt, hs =>
    ⟨p, q, WideElems.Trod_stays hl (hT _ (List.mem_cons.2 (.inl rfl))).1 (hT _ (List.mem_cons.2 (.inl rfl))).2 h1 (fun x hx => hb.same (hlt x (by rw [e]; exact List.mem_append_left _ hx))) (fun x hx => hs x (by rw [e]; exact List.mem_append_left _ hx)),
      trodAll_stays hl hb (fun t ht => hT t (List.mem_cons.2 (.inr ht))) h2 (fun x hx => hlt x (by rw [e]; exact List.mem_append_right _ hx)) (fun x hx => hs x (by rw [e]; exact List.mem_append_right _ hx)), e⟩

theorem post_law {f : Func} {s : ChangeSpec} {apart fresh handsOn again : Bool} {W W' : World} {args : Array Value} {ds gs : List (DataW H)} {before : List MemPlace}
    (hW : DataW.Whole enc P f.params.toList s.vars apart W args.toList ds gs before) (hv : s.vars = []) (hfn : s.fn H (ds ++ gs) = { results := [.lit (.bool true)], args := ds })
    (hl : laidOutB P = true) (hT : ∀ t ∈ f.params.toList, P.readableRec t = true ∧ t < P.types.size) {tb : TypeId} (hres : f.resultTypes = #[tb]) (htb : P.underlying tb = some .bool) (e : Ext W W') :
    s.post enc P f apart fresh handsOn again W args (.bool true) W' := by
  have hW' := hW
  obtain ⟨p, q, hA, hV, hb, hz, hn⟩ := hW
  rw [hv] at hV
  obtain ⟨rfl, rfl⟩ := trodVars_none hV
  rw [List.append_nil] at hb
  subst hb
  have hlt : ∀ x ∈ before, x.block < W.heap.size := fun x hx => by simpa using hW'.lt x hx
  have hargs : ∀ sp : Nat → Bool, (∀ x ∈ before, sp x.block = true) → DataW.TrodAll enc P W' 0 sp true f.params.toList args.toList (s.fn H (ds ++ [])).args before := by
    intro sp hsp
    rw [hfn]
    exact trodAll_stays hl e.below hT hA hlt hsp
  have hr : ∀ (b : Nat) (sp : Nat → Bool) (hd : Bool), DataW.TrodAll enc P W' b sp hd f.resultTypes.toList ((Value.bool true).resultList f.resultTypes.size) (s.fn H (ds ++ [])).results [] := by
    intro b sp hd
    rw [hfn, hres]
    exact trodAll_cons_mk (shut_bool htb _) trodAll_mk0
  have hvars : ∀ sp : Nat → Bool, DataW.TrodVars enc P W' sp s.vars (s.fn H (ds ++ [])).vars [] := by
    intro sp
    rw [hfn, hv]
    exact rfl
  have hold : ∀ x ∈ before, (fun b => decide (b < W.heap.size)) x.block = true := fun x hx => by simpa using hlt x hx
  refine ⟨ds, [], before, [], before, [], by simpa using hW', hr _ _ _, hargs _ hold, hvars _, World.keptBut_mono (fun x hx => ⟨hx, .inr (.inl hx)⟩) (e.below.frame _), fun _ => ⟨?_, _, _, ([] ++ before) ++ [], ⟨[] ++ before, [], trodAll_append (hargs _ (fun _ _ => rfl)) (hr _ _ _), hvars _, rfl, ?_, ?_⟩, ?_⟩⟩
  · exact ok_one (by rw [hres]) rfl (okWide_bool_mk htb _)
  · intro b off hp
    have hp' : MemPlace.cell b off ∈ before := by simpa using hp
    rw [e.below.frozen (p := ⟨b, off, none⟩) (hlt _ hp')]
    exact hz b off (by simpa using hp')
  · intro ha
    have := hn ha
    simpa using this
  · intro x hx _
    simpa using hx
end
end Go.Sx
set_option linter.unusedVariables false
set_option linter.unusedSimpArgs false
namespace Go.Sx
open Go.ChangeShapes Go.WideShapes Go.ChangeAt Go.RowKit
def Opens {α : Type} (P : Program) (t : TypeId) (K : Kd α) (good : α → Prop) : Prop :=
  ∀ {H : Type} (enc : TypeId × Value → H) (w : World) (fuel : Nat) (cs : List Value) (x : DataW H × List MemPlace), DataW.trod enc P w 0 (fun _ => true) true fuel t cs = some x → ∃ a, K.rep NoB w a cs ∧ good a
section
variable {P : Program}
theorem opens_u8 {t : TypeId} (h : P.underlying t = some (.int .u8)) : Opens P t Kd.u8 (fun _ => True) := by
  intro H enc w fuel cs x hx
  obtain ⟨n, rfl, _, hw⟩ := DataW.trod_int h hx
  have hb : 0 ≤ n ∧ n ≤ 255 := by simpa [Lit.wf, IntKind.min, IntKind.max, IntKind.signed, IntKind.bits] using hw
  refine ⟨n.toNat.toUInt8, ?_, trivial⟩
  show [Value.int .u8 n] = [u8 n.toNat.toUInt8]
  rw [← toUInt8_int (by omega), Int.toNat_of_nonneg hb.1]
theorem opens_int {t : TypeId} {k : IntKind} (h : P.underlying t = some (.int k)) : Opens P t (Kd.int k) (fun n => (Lit.int k n).wf = true) := by
  intro H enc w fuel cs x hx
  obtain ⟨n, rfl, _, hw⟩ := DataW.trod_int h hx
  exact ⟨n, rfl, hw⟩
theorem opens_str {t : TypeId} (h : P.underlying t = some .string) : Opens P t Kd.str (fun s => s.size ≤ maxLen) := by
  intro H enc w fuel cs x hx
  obtain ⟨s, rfl, _, hs⟩ := DataW.trod_string h hx
  exact ⟨s, rfl, hs⟩
theorem opens_slice {α : Type} {K : Kd α} {t e : TypeId} {good : α → Prop} (ht : P.underlying t = some (.slice e)) (hc : P.cellsOf e = K.size) (hz : 0 < K.size) (he : Opens P e K good) :
    Opens P t (Kd.slice K hz) (fun l => l.length ≤ maxLen ∧ ∀ a ∈ l, good a) := by
  intro H enc w fuel cs x hx
  rcases Go.Deep.open_slice ht hx with ⟨rfl, _⟩ | ⟨a, len, cap, m, n, D, Pl, rfl, _, hl, hm, hmm, _, hel⟩
  · exact ⟨[], ⟨none, 0, rfl, Nat.le_refl _, Imm.nil K _ _ _⟩, by simp, by simp⟩
  · rw [if_pos rfl] at hmm
    subst hmm
    have hex : ∀ i : Fin len, ∃ b, ∃ cs', w.cells? 0 (a.add (i.val * K.size)) K.size = some cs' ∧ K.rep NoB w b cs' ∧ good b := fun i => by
      obtain ⟨cs', h1, h2⟩ := hel i.val (Nat.lt_of_lt_of_le i.isLt hl)
      obtain ⟨b, hb, hg⟩ := he enc w n cs' _ h2
      rw [hc] at h1
      exact ⟨b, cs', h1, hb, hg⟩
    let f : Fin len → α := fun i => Classical.choose (hex i)
    have hf : ∀ i, ∃ cs', w.cells? 0 (a.add (i.val * K.size)) K.size = some cs' ∧ K.rep NoB w (f i) cs' ∧ good (f i) := fun i => Classical.choose_spec (hex i)
    refine ⟨List.ofFn f, ⟨some a, m, by rw [List.length_ofFn], by rw [List.length_ofFn]; exact hl, ?_⟩, by rw [List.length_ofFn]; omega, ?_⟩
    · intro i b hi
      have hlt : i < len := by have := (List.getElem?_eq_some_iff.1 hi).1; rwa [List.length_ofFn] at this
      have hb : f ⟨i, hlt⟩ = b := by simpa [List.getElem?_ofFn, hlt] using hi
      obtain ⟨cs', h1, h2, _⟩ := hf ⟨i, hlt⟩
      rw [hb] at h2
      refine ⟨a, rfl, fun h => h, cs', h2, fun j v hj => ?_⟩
      obtain ⟨_, hlen, hcell⟩ := World.cells?_some h1
      have hjl : j < K.size := by rw [← hlen]; exact (List.getElem?_eq_some_iff.1 hj).1
      rw [← add_add, hcell j hjl]
      exact hj
    · intro b hb
      obtain ⟨i, rfl⟩ := List.mem_ofFn.1 hb
      obtain ⟨_, _, _, hg⟩ := hf i
      exact hg

theorem arg_slice {α : Type} {K : Kd α} {H : Type} {enc : TypeId × Value → H} {W : World} {r : Reach} {base : Nat} {t e : TypeId} {good : α → Prop} {v : Value} {d : DataW H} {ps : List MemPlace} (ht : P.underlying t = some (.slice e)) (hc : P.cellsOf e = K.size) (hz : 0 < K.size) (he : Opens P e K good)
    (hval : Value.okWide P W r base t v) (h : DataW.Trod enc P W 0 (fun _ => true) true t v d ps) : ∃ A c l, v = .slice A l.length c ∧ l.length ≤ c ∧ l.length ≤ maxLen ∧ Imm K NoB W A l ∧ ∀ a ∈ l, good a := by
  obtain ⟨A, n, c, rfl⟩ := okWide_slice ht hval
  obtain ⟨fuel, hf⟩ := h
  obtain ⟨l, ⟨A', c', he', hl, hi⟩, hm, hg⟩ := opens_slice ht hc hz he enc W fuel _ _ hf
  have : Value.slice A n c = .slice A' l.length c' := by simpa [Value.cells] using he'
  cases this
  exact ⟨A, c, l, rfl, hl, hm, hi, hg⟩
theorem i64_range {x : Int} (h : (Lit.int .i64 x).wf = true) : -9223372036854775808 ≤ x ∧ x ≤ 9223372036854775807 := by
  simpa [Lit.wf, IntKind.min, IntKind.max, IntKind.signed, IntKind.bits] using h
theorem u8_nat {x : Int} (h : (Lit.int .u8 x).wf = true) : ∃ n : Nat, x = (n : Int) ∧ n < 256 := by
  have hx : 0 ≤ x ∧ x ≤ 255 := by simpa [Lit.wf, IntKind.min, IntKind.max, IntKind.signed, IntKind.bits] using h
  exact ⟨x.toNat, by omega, by omega⟩
theorem opens_bool {t : TypeId} (h : P.underlying t = some .bool) : Opens P t Kd.bool (fun _ => True) := by
  intro H enc w fuel cs x hx
  obtain ⟨b, rfl, _⟩ := DataW.trod_bool h hx
  exact ⟨b, rfl, trivial⟩
def sfs (P : Program) (t : TypeId) : Array Field := match P.underlying t with | some (.struct fs) => fs | _ => #[]
theorem opens_fields {t : TypeId} (ht : P.underlying t = some (.struct (sfs P t))) {H : Type} {enc : TypeId × Value → H} {w : World} {fuel : Nat} {cs : List Value} {x : DataW H × List MemPlace} (h : DataW.trod enc P w 0 (fun _ => true) true fuel t cs = some x) :
    cs.length = P.cellsOf t ∧ ∀ {α : Type} (i : Nat) {ft : TypeId} {off : Nat} {K : Kd α} {good : α → Prop}, ((sfs P t)[i]?).map (fun f => (f.type, f.offset)) = some (ft, off) → P.cellsOf ft = K.size → Opens P ft K good → ∃ a, K.rep NoB w a ((cs.drop off).take K.size) ∧ good a := by
  obtain ⟨xs, n, _, rfl, hl, hlen, hf⟩ := DataW.trod_struct ht h
  refine ⟨hl, fun {α} i {ft off K good} hi hc ho => ?_⟩
  cases hg : (sfs P t)[i]? with
  | none => simp [hg] at hi
  | some f =>
    simp [hg] at hi
    obtain ⟨rfl, rfl⟩ := hi
    have h1 := hf i f hg
    have hlt : i < xs.length := by rw [hlen]; exact (Array.getElem?_eq_some_iff.1 hg).1
    rw [List.getElem?_eq_getElem hlt] at h1
    rw [hc] at h1
    exact ho enc w n _ _ h1
end
end Go.Sx
