/- The operations of a region, as preconditions over known values; each proved against the model's own run. -/
import Derived.Laws.StructEq
import Derived.Lib.Builder
import Derived.Test.YtakmlaliglmnmaaSxCore
set_option linter.unusedVariables false
set_option linter.unusedSimpArgs false
namespace Go.Sx

/-! ## tables -/
def inf (P : Program) (t : TypeId) : Option TypeInfo := P.types.toList[t]?
theorem inf_info {P : Program} {t : TypeId} {i : TypeInfo} (h : inf P t = some i) : P.info? t = some i := by
  unfold inf at h
  have h' : P.types[t]? = some i := by simpa using h
  have hlt : t < P.types.size := (Array.getElem?_eq_some_iff.1 h').1
  unfold Tables.info?
  rw [if_pos hlt]
  exact h'
def und (P : Program) (t : TypeId) : Option TypeDesc :=
  match inf P t with
  | some i => match i.desc with
    | .named _ u => match inf P u with | some j => some j.desc | none => none
    | d => some d
  | none => none
theorem und_underlying {P : Program} {t : TypeId} {d : TypeDesc} (h : und P t = some d) : P.underlying t = some d := by
  unfold und at h
  cases hi : inf P t with
  | none => simp [hi] at h
  | some i =>
    rw [hi] at h
    have h1 := inf_info hi
    unfold Program.underlying
    rw [h1]
    obtain ⟨desc, str, size, bytes, hp, al, fa, zero, cmp, ms⟩ := i
    cases desc <;> simp only at h ⊢ <;> try exact h
    rename_i nm u
    cases hj : inf P u with
    | none => simp [hj] at h
    | some j => rw [hj] at h; rw [inf_info hj]; simpa using h
theorem run_und {P : Program} {t : TypeId} {d : TypeDesc} (h : und P t = some d) (w : World) : (underlying t).run P w = .ok d w := run_underlying (und_underlying h) w
theorem run_inf {P : Program} {t : TypeId} {i : TypeInfo} (h : inf P t = some i) (w : World) : (typeInfo t).run P w = .ok i w := by
  simp [typeInfo, inf_info h]
theorem run_size {P : Program} {t : TypeId} {i : TypeInfo} (h : inf P t = some i) (w : World) : (sizeOf t).run P w = .ok i.size w := by
  simp [sizeOf, run_inf h]

/-- The cells of a type, as far as the engine knows them. -/
def cellTys (P : Program) : Nat → TypeId → Option (List CT)
  | 0, _ => none
  | f + 1, t =>
    match und P t with
    | some .bool => some [.bool]
    | some (.int k) => some [.int k]
    | some .string => some [.str]
    | some (.slice _) => some [.slc]
    | some (.pointer _) => some [.ptr]
    | some (.map _ _) => some [.map]
    | some (.func _ _ _) => some [.val]
    | some (.interface _) => some [.val]
    | some (.struct fs) => fs.toList.foldr (fun x acc => match cellTys P f x.type, acc with | some a, some b => some (a ++ b) | _, _ => none) (some [])
    | some (.array n e) => match cellTys P f e with | some l => some (List.replicate n l).flatten | none => none
    | _ => none
def tyOf (P : Program) (t : TypeId) : Option Ty :=
  match und P t with
  | some (.struct _) | some (.array _ _) => (match cellTys P 12 t with | some l => some (.agg l) | none => none)
  | _ => (match cellTys P 12 t with | some [c] => some (.one c) | _ => none)

/-! ## calls and runs -/
def CallsV (P : Program) (f : FuncId) (args : Array Value) (w : World) (K : Value → World → Prop) : Prop :=
  Calls P f args w fun e w' => ∃ v, e = .returned v ∧ K v w'
theorem CallsV.mono {P : Program} {f : FuncId} {args : Array Value} {w : World} {K K' : Value → World → Prop} (h : CallsV P f args w K) (hk : ∀ v w', K v w' → K' v w') : CallsV P f args w K' :=
  Calls.mono h fun _ _ ⟨v, e, k⟩ => ⟨v, e, hk _ _ k⟩
def RunsTo {α : Type} (P : Program) (s : Sem α) (w : World) (v : α) (w' : World) : Prop := s.run P w = .ok v w'

/-- What an operation does, its operands known. -/
def Does (P : Program) (σ : Operand → Value) (o : Oper) (w : World) (K : Value → World → Prop) : Prop :=
  (∃ v w', (execOp σ o).run P w = .ok (.value v) w' ∧ K v w') ∨ (∃ w', (execOp σ o).run P w = .ok .skip w' ∧ K undef w') ∨
  (∃ f args, (execOp σ o).run P w = .ok (.enter f args) w ∧ CallsV P f args w K)
theorem Does.wp {P : Program} {a : Act} {o : Oper} {w : World} {K : Value → World → Prop} {Q : Exit → Act → World → Prop} (h : Does P a.eval o w K) :
    o.wp P a w (fun a' w' => ∃ v, a' = a.put o.dst v ∧ K v w') Q := by
  unfold Oper.wp
  rcases h with ⟨v, w', hr, hk⟩ | ⟨w', hr, hk⟩ | ⟨f, args, hr, hc⟩
  · rw [hr]; exact ⟨v, rfl, hk⟩
  · rw [hr]; exact ⟨_, rfl, hk⟩
  · rw [hr, Oper.upon_enter]
    exact Calls.mono hc fun e w'' ⟨v, he, hk⟩ => by subst he; exact ⟨v, rfl, hk⟩
theorem Does.mono {P : Program} {σ : Operand → Value} {o : Oper} {w : World} {K K' : Value → World → Prop} (h : Does P σ o w K) (hk : ∀ v w', K v w' → K' v w') : Does P σ o w K' := by
  rcases h with ⟨v, w', hr, h⟩ | ⟨w', hr, h⟩ | ⟨f, args, hr, hc⟩
  · exact .inl ⟨v, w', hr, hk _ _ h⟩
  · exact .inr (.inl ⟨w', hr, hk _ _ h⟩)
  · exact .inr (.inr ⟨f, args, hr, hc.mono hk⟩)

/-- What an operation yields in whatever world. -/
def Gives (P : Program) (σ : Operand → Value) (o : Oper) (K : Value → Prop) : Prop :=
  ∃ v, (∀ w, (execOp σ o).run P w = .ok (.value v) w) ∧ K v
theorem Gives.does {P : Program} {σ : Operand → Value} {o : Oper} {K : Value → World → Prop} {w : World} (h : Gives P σ o (fun v => K v w)) : Does P σ o w K :=
  let ⟨v, hr, hk⟩ := h; .inl ⟨v, w, hr w, hk⟩

def Knows (ρ : Env) (σ : Operand → Value) : Prop := ∀ x v, ev ρ x = some v → σ x = v
theorem Knows.list {ρ : Env} {σ : Operand → Value} (h : Knows ρ σ) : ∀ {l : List Operand} {vs : List Value}, evs ρ l = some vs → l.map σ = vs
  | [], vs, he => by simp [evs] at he; simp [he]
  | x :: l, vs, he => by
    simp only [evs] at he
    cases h1 : ev ρ x with
    | none => simp [h1] at he
    | some v =>
      cases h2 : evs ρ l with
      | none => simp [h1, h2] at he
      | some r => simp [h1, h2] at he; subst he; simp [h x v h1, h.list h2]

/-! ## operations that look at no world -/
def wrapK (k : IntKind) (x : Int) : Int := k.wrap x
def intBin (op : BinOp) (k : IntKind) (a b : Int) (K : Value → Prop) : Prop :=
  match op with
  | .add => K (.int k (k.wrap (a + b)))
  | .sub => K (.int k (k.wrap (a - b)))
  | .mul => K (.int k (k.wrap (a * b)))
  | .quo => b ≠ 0 ∧ K (.int k (k.wrap (a.tdiv b)))
  | .rem => b ≠ 0 ∧ K (.int k (a.tmod b))
  | .and => K (.int k (k.wrap ((BitVec.ofInt k.bits a &&& BitVec.ofInt k.bits b).toNat : Int)))
  | .or => K (.int k (k.wrap ((BitVec.ofInt k.bits a ||| BitVec.ofInt k.bits b).toNat : Int)))
  | .xor => K (.int k (k.wrap ((BitVec.ofInt k.bits a ^^^ BitVec.ofInt k.bits b).toNat : Int)))
  | .andNot => K (.int k (k.wrap ((BitVec.ofInt k.bits a &&& ~~~ BitVec.ofInt k.bits b).toNat : Int)))
  | .eql => K (.bool (decide (a = b)))
  | .neq => K (.bool (!decide (a = b)))
  | .lss => K (.bool (decide (a < b)))
  | .leq => K (.bool (decide (a ≤ b)))
  | .gtr => K (.bool (decide (b < a)))
  | .geq => K (.bool (decide (b ≤ a)))
  | .shl => 0 ≤ b ∧ K (.int k (k.wrap (a * 2 ^ (min b.toNat k.bits))))
  | .shr => 0 ≤ b ∧ K (.int k (a.fdiv (2 ^ (min b.toNat k.bits))))
def isShift : BinOp → Bool | .shl | .shr => true | _ => false
def strBin (op : BinOp) (a b : ByteArray) (K : Value → Prop) : Prop :=
  match op with
  | .add => a.size + b.size ≤ 9223372036854775807 ∧ K (.string (a ++ b))
  | .eql => K (.bool (a.toList == b.toList))
  | .neq => K (.bool (!(a.toList == b.toList)))
  | .lss => K (.bool (Op.bytesLess a.toList b.toList))
  | .leq => K (.bool (Op.bytesLess a.toList b.toList || a.toList == b.toList))
  | .gtr => K (.bool (!(Op.bytesLess a.toList b.toList || a.toList == b.toList)))
  | .geq => K (.bool (!Op.bytesLess a.toList b.toList))
  | _ => False
/-- equality of the cells of two aggregates of numbers, bools and strings -/
def cellsEq : List CT → List Value → List Value → Option Bool
  | [], [], [] => some true
  | .bool :: cs, .bool a :: x, .bool b :: y => match cellsEq cs x y with | some r => some (decide (a = b) && r) | none => none
  | .int k :: cs, .int k1 a :: x, .int k2 b :: y => if k1 = k then if k2 = k then (match cellsEq cs x y with | some r => some (decide (a = b) && r) | none => none) else none else none
  | .str :: cs, .string a :: x, .string b :: y => match cellsEq cs x y with | some r => some (a.toList == b.toList && r) | none => none
  | _, _, _ => none
def eqNil (t : Option TypeDesc) (x y : Value) : Option Bool :=
  match t, x, y with
  | some .bool, .bool a, .bool b => some (decide (a = b))
  | some (.pointer _), .pointer a, .pointer none => some a.isNone
  | some (.pointer _), .pointer none, .pointer b => some b.isNone
  | some (.slice _), .slice a _ _, .slice none _ _ => some a.isNone
  | some (.slice _), .slice none _ _, .slice b _ _ => some b.isNone
  | some (.map _ _), .map a, .map none => some a.isNone
  | some (.map _ _), .map none, .map b => some b.isNone
  | some (.func _ _ _), .func _ _ _, .nilFunc => some false
  | some (.func _ _ _), .nilFunc, .nilFunc => some true
  | _, _, _ => none
def binS (P : Program) (op : BinOp) (t : TypeId) (a b : Value) (K : Value → Prop) : Prop :=
  match a, b with
  | .int k x, .int k' y => if isShift op then intBin op k x y K else (if k = k' then intBin op k x y K else False)
  | .string x, .string y => strBin op x y K
  | x, y => match op, eqNil (und P t) x y with
    | .eql, some r => K (.bool r)
    | .neq, some r => K (.bool (!r))
    | _, _ => False
def isPtrT : Option TypeDesc → Bool | some (.pointer _) => true | _ => false
def constO : Operand → Bool | .const _ => true | _ => false
/-- a pointer beside itself -/
def ptrS (P : Program) (op : BinOp) (t : TypeId) (a b : Value) (K : Value → Prop) : Prop :=
  match a, b, und P t with
  | .pointer a, .pointer b, some (.pointer e) => (match inf P e, op with
    | some _, .eql => ∃ ad : Addr, (a = some ad ∧ b = some ad) ∧ K (.bool true)
    | some _, .neq => ∃ ad : Addr, (a = some ad ∧ b = some ad) ∧ K (.bool false)
    | _, _ => False)
  | _, _, _ => False
theorem ptrS_run {P : Program} {op : BinOp} {t : TypeId} {a b : Value} {K : Value → Prop} (h : ptrS P op t a b K) :
    ∃ v, (∀ w, (binOp op t a b).run P w = .ok v w) ∧ (∀ x y w, (eqGuard op t x y a b).run P w = .ok () w) ∧ K v := by
  unfold ptrS at h
  split at h
  · rename_i e hd
    split at h
    · rename_i i hi
      obtain ⟨ad, ⟨rfl, rfl⟩, hK⟩ := h
      exact ⟨_, fun w => run_eql_ptr_same w ad (und_underlying hd) (inf_info hi), fun x y w => by simp [eqGuard], hK⟩
    · rename_i i hi
      obtain ⟨ad, ⟨rfl, rfl⟩, hK⟩ := h
      exact ⟨_, fun w => Go.Lib.run_neq_ptr_same w ad (und_underlying hd) (inf_info hi), fun x y w => by simp [eqGuard], hK⟩
    · exact h.elim
  · exact h.elim
def unS (op : UnOp) (a : Value) (K : Value → Prop) : Prop :=
  match op, a with
  | .neg, .int k n => K (.int k (k.wrap (0 - n)))
  | .xor, .int k n => K (.int k (k.wrap ((BitVec.ofInt k.bits (if k.signed then -1 else k.max) ^^^ BitVec.ofInt k.bits n).toNat : Int)))
  | .not, .bool b => K (.bool (!b))
  | _, _ => False
/-- equality of two structs of numbers, bools and strings -/
def flatEq (P : Program) : List Field → List Value → List Value → Option Bool
  | [], _, _ => some true
  | f :: fs, xs, ys => match und P f.type, xs[f.offset]?, ys[f.offset]?, flatEq P fs xs ys with
    | some (.int _), some (.int k a), some (.int k' b), some r => if k = k' then some (decide (a = b) && r) else none
    | some .string, some (.string a), some (.string b), some r => some (a.toList == b.toList && r)
    | some .bool, some (.bool a), some (.bool b), some r => some (decide (a = b) && r)
    | _, _, _, _ => none
def aggS (P : Program) (op : BinOp) (t : TypeId) (xs ys : Array Value) (K : Value → Prop) : Prop :=
  match und P t with
  | some (.struct fs) => cond (P.stoodInHeld t || P.eqGuardType P.depth t || fs.toList.any fun f => f.name == "_") False (match flatEq P fs.toList xs.toList ys.toList with
    | some r => (match op with | .eql => K (.bool r) | .neq => K (.bool (!r)) | _ => False)
    | none => False)
  | _ => False
def fieldsOf (P : Program) (t : TypeId) : Option (List Field) := match und P t with | some (.struct fs) => some fs.toList | _ => none
def isAggT (P : Program) (t : TypeId) : Option Bool := match und P t with | some (.struct _) | some (.array _ _) => some true | some _ => some false | none => none
def takeCells (n : Nat) (l : List Value) : List Value := l.take n
/-- a part of an aggregate's cells -/
def partS (P : Program) (t : TypeId) (cs : List Value) (off : Nat) (K : Value → Prop) : Prop :=
  match isAggT P t, inf P t with
  | some true, some i => K (.agg ((cs.drop off).take i.size).toArray)
  | some false, _ => (match cs[off]? with | some v => K v | none => False)
  | _, _ => False
def optB (ρ : Env) : Option Operand → Option (Option Value)
  | none => some none
  | some x => match ev ρ x with | some v => some (some v) | none => none
/-- slice bounds: 'hi' at most 'cap', 'lo' at most 'hi', 'max' at most cap -/
def bndS (v : Value) (most : Nat) (K : Nat → Prop) : Prop := match v with | .int _ n => (0 ≤ n ∧ n ≤ (most : Int)) ∧ K n.toNat | _ => False
def boundsS (len cap : Nat) (lo hi mx : Option Value) (K : Nat → Nat → Nat → Prop) : Prop :=
  match hi, mx with
  | some h, some m => bndS m cap fun m => bndS h m fun h => (match lo with | some l => bndS l h fun l => K l h m | none => K 0 h m)
  | some h, none => bndS h cap fun h => (match lo with | some l => bndS l h fun l => K l h cap | none => K 0 h cap)
  | none, none => (match lo with | some l => bndS l len fun l => K l len cap | none => K 0 len cap)
  | none, some _ => False
/-- the address at which a cut slice begins -/
def cutAt (a : Option Addr) (m l size : Nat) : Option Addr := if m = l then a else a.map (·.add (l * size))
def allEv (ρ : Env) : List (Nat × Operand) → Option (List (Nat × Value))
  | [] => some []
  | (i, x) :: l => match ev ρ x, allEv ρ l with | some v, some r => some ((i, v) :: r) | _, _ => none
def setAt (off : Nat) (vs cs : List Value) : List Value := cs.take off ++ vs ++ cs.drop (off + vs.length)
/-- a value's cells, as a list -/
def cellsL : Value → List Value | .agg cs => cs.toList | v => [v]
def fillL (place : Nat → Option (Nat × Nat)) (cells : List Value) : List (Nat × Value) → Option (List Value)
  | [] => some cells
  | (i, v) :: rest => match place i with
    | none => none
    | some (off, size) => if (cellsL v).length = size then if off + (cellsL v).length ≤ cells.length then fillL place (setAt off (cellsL v) cells) rest else none else none
def placesL (P : Program) : List Field → Option (List (Nat × Nat))
  | [] => some []
  | f :: l => match inf P f.type, placesL P l with | some i, some r => some ((f.offset, i.size) :: r) | _, _ => none
def buildS (P : Program) (t : TypeId) (parts : List (Nat × Value)) (K : Value → Prop) : Prop :=
  match inf P t, und P t with
  | some i, some (.struct fs) => (match i.zero, placesL P fs.toList with
    | some z, some pl => (match fillL (fun j => pl[j]?) (cellsL z) parts with | some cs => K (.agg cs.toArray) | none => False)
    | _, _ => False)
  | some i, some (.array _ e) => (match i.zero, inf P e with
    | some z, some j => (match fillL (fun q => some (q * j.size, j.size)) (cellsL z) parts with | some cs => K (.agg cs.toArray) | none => False)
    | _, _ => False)
  | _, _ => False

/-- one of n places, by its index -/
def idxS : Nat → Nat → Int → (Nat → Prop) → Prop
  | 0, _, _, _ => False
  | n + 1, i, j, K => cond (decide (j = (i : Int))) (K i) (idxS n (i + 1) j K)
theorem idxS_at {K : Nat → Prop} {j : Int} : ∀ {n i : Nat}, idxS n i j K → ∃ k : Nat, j = (k : Int) ∧ K k
  | 0, _, h => h.elim
  | n + 1, i, h => by
    unfold idxS at h
    by_cases hj : j = (i : Int)
    · rw [decide_eq_true hj] at h; exact ⟨i, hj, h⟩
    · rw [decide_eq_false hj] at h; exact idxS_at h

def pureS (P : Program) (ρ : Env) (op : Op) (K : Value → Prop) : Prop :=
  match op with
  | .move x | .assign x => (match ev ρ x with | some v => K v | none => False)
  | .pick c a b => (match ev ρ c with
    | some (.bool c) => cond c (match ev ρ a with | some v => K v | none => False) (match ev ρ b with | some v => K v | none => False)
    | _ => False)
  | .binOp op t x y _ => (match ev ρ x, ev ρ y with | some (.agg a), some (.agg b) => aggS P op t a b K | some a, some b => cond (isPtrT (und P t) && !(constO x || constO y)) (ptrS P op t a b K) (binS P op t a b K) | _, _ => False)
  | .unOp op _ x => (match ev ρ x with | some v => unS op v K | none => False)
  | .convert s d x => (match und P d, ev ρ x with
    | some (.int k), some (.int _ n) => (match und P s with | some _ => K (.int k (k.wrap n)) | none => False)
    | some .string, some (.string b) => (match und P s with | some _ => K (.string b) | none => False)
    | _, _ => False)
  | .extract x i => (match ev ρ x with | some (.tuple vs) => (match vs.toList[i]? with | some v => K v | none => False) | _ => False)
  | .field t x f => (match fieldsOf P t, ev ρ x with
    | some fs, some (.agg cs) => (match fs[f]? with | some fd => partS P fd.type cs.toList fd.offset K | none => False)
    | _, _ => False)
  | .fieldAddr t x f => (match fieldsOf P t, ev ρ x with
    | some fs, some (.pointer (some a)) => (match fs[f]? with
      | some fd => (match inf P fd.type with | some i => (if i.size = 0 then False else K (.pointer (some (a.add fd.offset)))) | none => False)
      | none => False)
    | _, _ => False)
  | .indexAddr t x i => (match und P t, ev ρ x, ev ρ i with
    | some (.slice e), some (.slice A n _), some (.int _ j) => (match inf P e with
      | some q => ∃ ad, A = some ad ∧ (0 ≤ j ∧ j < (n : Int)) ∧ K (.pointer (some (ad.add (j.toNat * q.size))))
      | none => False)
    | some (.array n e), some (.pointer (some ad)), some (.int _ j) => (match inf P e with
      | some q => (0 ≤ j ∧ j < (n : Int)) ∧ K (.pointer (some (ad.add (j.toNat * q.size))))
      | none => False)
    | _, _, _ => False)
  | .index t x i => (match und P t, ev ρ x, ev ρ i with
    | some .string, some (.string s), some (.int _ j) => ∃ b, (0 ≤ j ∧ s[j.toNat]? = some b) ∧ K (.int .u8 b.toNat)
    | some (.array n e), some (.agg cs), some (.int _ j) => (match inf P e with
      | some q => (0 ≤ j ∧ j < (n : Int)) ∧ idxS n 0 j fun k => partS P e cs.toList (k * q.size) K
      | none => False)
    | _, _, _ => False)
  | .slice t x lo hi mx => (match und P t, ev ρ x, optB ρ lo, optB ρ hi, optB ρ mx with
    | some .string, some (.string s), some lo, some hi, some none => boundsS s.size s.size lo hi none fun l h _ => K (.string (s.extract l h))
    | some (.slice e), some (.slice A n c), some lo, some hi, some mx => (match inf P e with
      | some q => boundsS n c lo hi mx fun l h m => K (.slice (cutAt A m l q.size) (h - l) (m - l))
      | none => False)
    | some (.array n e), some (.pointer (some ad)), some lo, some hi, some mx => (match inf P e with
      | some q => boundsS n n lo hi mx fun l h m => K (.slice (cutAt (some ad) m l q.size) (h - l) (m - l))
      | none => False)
    | _, _, _, _, _ => False)
  | .build t parts => (match allEv ρ parts.toList with | some ps => buildS P t ps K | none => False)
  | .makeFunc fn first captured => (match evs ρ first.toList, evs ρ captured.toList with | some a, some b => K (.func fn a.toArray b.toArray) | _, _ => False)
  | .makeInterface t x => (match und P t, ev ρ x with
    | some (.interface _), _ => False
    | some _, some v => K (.iface t v)
    | _, _ => False)
  | .nilCheck x => (match ev ρ x with
    | some (.pointer p) => ∃ a, p = some a ∧ K (.pointer (some a))
    | some (.func (.func f) first captured) => K (.func (.func f) first captured)
    | _ => False)
  | .call c => (match c.callee, c.argTypes.toList, evs ρ c.args.toList with
    | .builtin .len, t :: _, some (v :: _) => (match und P t, v with
      | some .string, .string s => K (.int .i64 s.size)
      | some (.slice _), .slice _ n _ => K (.int .i64 n)
      | some (.array n _), _ => K (.int .i64 n)
      | some (.map _ _), .map none => K (.int .i64 0)
      | _, _ => False)
    | .builtin .min, _, some [.int k x, .int k' y] => if k = k' then K (.int k (if y < x then y else x)) else False
    | .builtin .max, _, some [.int k x, .int k' y] => if k = k' then K (.int k (if y > x then y else x)) else False
    | .builtin .min, _, some [.int k x, .int k' y, .int k'' z] => if k = k' then if k = k'' then K (.int k (if z < (if y < x then y else x) then z else (if y < x then y else x))) else False else False
    | .builtin .max, _, some [.int k x, .int k' y, .int k'' z] => if k = k' then if k = k'' then K (.int k (if z > (if y > x then y else x) then z else (if y > x then y else x))) else False else False
    | .builtin .cap, t :: _, some (v :: _) => (match und P t, v with | some (.slice _), .slice _ _ c => K (.int .i64 c) | _, _ => False)
    | _, _, _ => False)
  | _ => False

/-! ## soundness of the pure ones -/
section
variable {P : Program} {ρ : Env} {σ : Operand → Value}

theorem decide_beq_int (a b : Int) : (a == b) = decide (a = b) := by
  by_cases h : a = b <;> simp [h]

theorem run_binOp_int {k : IntKind} {a b : Int} {op : BinOp} (hs : isShift op = false) (t : TypeId) (w : World) : (binOp op t (.int k a) (.int k b)).run P w =
    (match op with
    | .add | .sub | .mul => Op.intArith op k a b
    | .quo | .rem => Op.intDiv op k a b
    | .and | .or | .xor | .andNot => Op.intBits op k a b
    | _ => Op.intCmp op a b).run P w := by
  cases op <;> simp [isShift] at hs <;> simp [binOp]

theorem run_intBin {k : IntKind} {a b : Int} {op : BinOp} {K : Value → Prop} (hs : isShift op = false) (h : intBin op k a b K) (t : TypeId) : ∃ v, (∀ w, (binOp op t (.int k a) (.int k b)).run P w = .ok v w) ∧ K v := by
  have e := fun w => run_binOp_int (P := P) (k := k) (a := a) (b := b) hs t w
  cases op <;> simp only [intBin] at h <;> simp only [] at e
  case add | sub | mul => exact ⟨_, fun w => (e w).trans rfl, h⟩
  case and | or | xor | andNot => exact ⟨_, fun w => (e w).trans rfl, h⟩
  case quo => exact ⟨_, fun w => (e w).trans (by simp [Op.intDiv, h.1]), h.2⟩
  case rem => exact ⟨_, fun w => (e w).trans (by simp [Op.intDiv, h.1]), h.2⟩
  case lss | leq | gtr | geq => exact ⟨_, fun w => (e w).trans rfl, h⟩
  case eql => exact ⟨_, fun w => (e w).trans (by simp [Op.intCmp, decide_beq_int]), h⟩
  case neq => exact ⟨_, fun w => (e w).trans (by simp [Op.intCmp, decide_beq_int, bne]), h⟩
  case shl | shr => simp [isShift] at hs

theorem run_shift {k k' : IntKind} {a b : Int} {op : BinOp} {K : Value → Prop} (hs : isShift op = true) (h : intBin op k a b K) (t : TypeId) : ∃ v, (∀ w, (binOp op t (.int k a) (.int k' b)).run P w = .ok v w) ∧ K v := by
  cases op <;> simp [isShift] at hs <;> simp only [intBin] at h <;> obtain ⟨h1, h2⟩ := h <;> have h3 : ¬ b < 0 := by omega
  · exact ⟨_, fun w => by simp only [binOp, Op.shift, if_neg h3]; rfl, h2⟩
  · exact ⟨_, fun w => by simp only [binOp, Op.shift, if_neg h3]; rfl, h2⟩

theorem run_strBin {a b : ByteArray} {op : BinOp} {K : Value → Prop} (h : strBin op a b K) (t : TypeId) : ∃ v, (∀ w, (binOp op t (.string a) (.string b)).run P w = .ok v w) ∧ K v := by
  cases op <;> simp only [strBin] at h
  case add =>
    have h1 : ¬ (((a.size + b.size : Nat) : Int) > IntKind.i64.max) := by have := h.1; simp [IntKind.max, IntKind.signed, IntKind.bits]; omega
    exact ⟨_, fun w => by simp only [binOp, Op.stringOp, if_neg h1]; rfl, h.2⟩
  case eql | neq | lss | leq | gtr | geq => exact ⟨_, fun w => by simp only [binOp, Op.stringOp]; rfl, h⟩

theorem run_eqNil' {t : TypeId} {x y : Value} {r : Bool} (h : eqNil (und P t) x y = some r) (w : World) (d : Nat) : (Op.equalIn (d + 1) t x y).run P w = .ok r w := by
  cases hd : und P t with
  | none => rw [hd] at h; simp [eqNil] at h
  | some d =>
    rw [hd] at h
    unfold eqNil at h
    split at h <;> simp only [Option.some.injEq, reduceCtorEq, TypeDesc.pointer.injEq, TypeDesc.slice.injEq, TypeDesc.map.injEq, TypeDesc.func.injEq] at * <;> subst_vars <;>
      simp only [Op.equalIn, Sem.run_bind, run_und hd, Result.andThen_ok, Sem.run_pure, Option.isNone_none] <;> (try rfl) <;> (try (simp; done))
    all_goals (try (rename_i a _; cases a <;> rfl))
    all_goals (try (rename_i a; cases a <;> rfl))
    all_goals (rename_i a _ _ _ _; cases a <;> rfl)
theorem run_eqNil {t : TypeId} {x y : Value} {r : Bool} (h : eqNil (und P t) x y = some r) (w : World) : (Op.equal t x y).run P w = .ok r w := run_eqNil' h w 9999

theorem binS_run {op : BinOp} {t : TypeId} {a b : Value} {K : Value → Prop} (h : binS P op t a b K) :
    ∃ v, (∀ w, (binOp op t a b).run P w = .ok v w) ∧ K v := by
  unfold binS at h
  split at h
  · rename_i k x k' y
    cases hs : isShift op with
    | true => simp only [hs, if_true] at h; exact run_shift hs h t
    | false =>
      simp only [hs, Bool.false_eq_true, if_false] at h
      split at h
      · rename_i hk; subst hk; exact run_intBin hs h t
      · exact h.elim
  · exact run_strBin h t
  · rename_i x y hn1 hn2
    split at h
    · rename_i r hr
      refine ⟨_, fun w => ?_, h⟩
      have e := run_eqNil hr w
      unfold eqNil at hr
      split at hr <;> first | (simp at hr; done) | (simp only [binOp, Sem.run_bind, e, Result.andThen_ok, Sem.run_pure])
    · rename_i r hr
      refine ⟨_, fun w => ?_, h⟩
      have e := run_eqNil hr w
      unfold eqNil at hr
      split at hr <;> first | (simp at hr; done) | (simp only [binOp, Sem.run_bind, e, Result.andThen_ok, Sem.run_pure])
    · exact h.elim

theorem unS_run {op : UnOp} {a : Value} {K : Value → Prop} (h : unS op a K) : ∃ v, (∀ w, (Op.unary op a).run P w = .ok v w) ∧ K v := by
  unfold unS at h
  split at h
  · exact ⟨_, fun w => rfl, h⟩
  · exact ⟨_, fun w => rfl, h⟩
  · exact ⟨_, fun w => rfl, h⟩
  · exact h.elim

theorem run_eqGuard {op : BinOp} {t : TypeId} {x y : Operand} {a b : Value} {K : Value → Prop} (h : binS P op t a b K) (w : World) : (eqGuard op t x y a b).run P w = .ok () w := by
  unfold binS at h
  unfold eqGuard
  split at h
  · split <;> simp
  · split <;> simp
  · split at h
    · rename_i r hr
      unfold eqNil at hr
      split at hr <;> first | (simp at hr; done) | simp
    · rename_i r hr
      unfold eqNil at hr
      split at hr <;> first | (simp at hr; done) | simp
    · exact h.elim

theorem run_isAgg {t : TypeId} {b : Bool} (h : isAggT P t = some b) (w : World) : (isAgg t).run P w = .ok b w := by
  unfold isAggT at h
  unfold isAgg
  cases hd : und P t with
  | none => rw [hd] at h; simp at h
  | some d => rw [hd] at h; cases d <;> simp at h <;> subst h <;> simp [run_und hd]

theorem partS_run {t : TypeId} {cs : Array Value} {off : Nat} {K : Value → Prop} (h : partS P t cs.toList off K) : ∃ v, (∀ w, (part t cs off).run P w = .ok v w) ∧ K v := by
  unfold partS at h
  split at h
  · rename_i i ha hi
    refine ⟨_, fun w => ?_, h⟩
    simp only [part, Sem.run_bind, run_isAgg ha, Result.andThen_ok, if_true, run_size hi, Sem.run_pure]
    congr 2
    rw [← Array.toList_inj]
    simp [Array.toList_extract, List.extract]
  · rename_i ha
    split at h
    · rename_i v hv
      refine ⟨v, fun w => ?_, h⟩
      have hv' : cs[off]? = some v := by simpa using hv
      simp only [part, Sem.run_bind, run_isAgg ha, Result.andThen_ok, Bool.false_eq_true, if_false, hv', Sem.run_pure]
    · exact h.elim
  · exact h.elim

theorem flatEq_run {xs ys : Array Value} (w : World) (d : Nat) : ∀ {fs : List Field} {r : Bool}, flatEq P fs xs.toList ys.toList = some r → (fs.any fun f => f.name == "_") = false → (Op.eqFields (d + 1) xs ys fs).run P w = .ok r w
  | [], r, h, _ => by simp [flatEq] at h; subst h; simp [Op.eqFields]
  | f :: fs, r, h, hn => by
    simp only [List.any_cons, Bool.or_eq_false_iff] at hn
    have hne : f.name ≠ "_" := by simpa using hn.1
    have go : ∀ (a b : Value) (s r' : Bool), xs.toList[f.offset]? = some a → ys.toList[f.offset]? = some b → isAggT P f.type = some false → (Op.equalIn (d + 1) f.type a b).run P w = .ok s w → flatEq P fs xs.toList ys.toList = some r' → r = (s && r') → (Op.eqFields (d + 1) xs ys (f :: fs)).run P w = .ok r w := by
      intro a b s r' ha hb hag he hr hrr
      have ha' : xs[f.offset]? = some a := by simpa using ha
      have hb' : ys[f.offset]? = some b := by simpa using hb
      have pa : (part f.type xs f.offset).run P w = .ok a w := by simp only [part, Sem.run_bind, run_isAgg hag, Result.andThen_ok, Bool.false_eq_true, if_false, ha', Sem.run_pure]
      have pb : (part f.type ys f.offset).run P w = .ok b w := by simp only [part, Sem.run_bind, run_isAgg hag, Result.andThen_ok, Bool.false_eq_true, if_false, hb', Sem.run_pure]
      have ih := flatEq_run w d hr hn.2
      rw [Op.eqFields, if_pos hne]
      simp only [Sem.run_bind, pa, pb, he, Result.andThen_ok]
      cases s with
      | false => simp [hrr]
      | true => simp [hrr, ih]
    simp only [flatEq] at h
    split at h
    · rename_i k0 k a k' b r' hu ha hb hr
      split at h
      · rename_i hk; subst hk
        refine go _ _ (a == b) r' ha hb (by simp [isAggT, hu]) (run_equalIn_int w d f.type k k0 a b (und_underlying hu)) hr ?_
        simp at h; rw [← h]; by_cases e : a = b <;> simp [e]
      · cases h
    · rename_i a b r' hu ha hb hr
      refine go _ _ (a.toList == b.toList) r' ha hb (by simp [isAggT, hu]) (run_equalIn_string w d f.type a b (und_underlying hu)) hr ?_
      simp at h; rw [← h]
    · rename_i a b r' hu ha hb hr
      refine go _ _ (a == b) r' ha hb (by simp [isAggT, hu]) (run_equalIn_bool' w d f.type a b (und_underlying hu)) hr ?_
      simp at h; rw [← h]; cases a <;> cases b <;> rfl
    · cases h
theorem aggS_run {op : BinOp} {t : TypeId} {xs ys : Array Value} {K : Value → Prop} (h : aggS P op t xs ys K) :
    ∃ v, (∀ w, (binOp op t (.agg xs) (.agg ys)).run P w = .ok v w) ∧ (∀ w x y, (eqGuard op t x y (.agg xs) (.agg ys)).run P w = .ok () w) ∧ K v := by
  unfold aggS at h
  split at h
  · rename_i fs hu
    cases hg : (P.stoodInHeld t || P.eqGuardType P.depth t || fs.toList.any fun f => f.name == "_") with
    | true => rw [hg] at h; exact h.elim
    | false =>
      rw [hg] at h
      simp only [Bool.or_eq_false_iff] at hg
      simp only [cond_false] at h
      split at h
      · rename_i r hr
        have hf : P.fieldsOf t = fs := by simp [Program.fieldsOf, und_underlying hu]
        have he : ∀ w, (Op.equalIn 10000 t (.agg xs) (.agg ys)).run P w = .ok r w := fun w => by
          rw [run_equalIn_struct w 9999 t xs ys (by rw [hf]; exact und_underlying hu) hg.1.1, hf]
          exact flatEq_run w 9998 hr hg.2
        split at h
        · exact ⟨_, fun w => by rw [run_eql_struct, he]; rfl, fun w x y => run_eqGuard_agg w _ t x y xs ys hg.1.2, h⟩
        · exact ⟨_, fun w => by rw [run_neq_struct, he]; rfl, fun w x y => run_eqGuard_agg w _ t x y xs ys hg.1.2, h⟩
        · exact h.elim
      · exact h.elim
  · exact h.elim

end

end Go.Sx
