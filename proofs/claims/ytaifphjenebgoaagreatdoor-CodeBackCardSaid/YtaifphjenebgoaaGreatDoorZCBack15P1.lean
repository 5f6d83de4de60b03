/- Part 1 of the texts of this claim: the engine, contracts, plain laws. -/
import Derived.WalkKit
import Derived.OrdersHeld
import Derived.KernelRfl
import Derived.Laws.StructEq
import Derived.Lib.Builder
set_option linter.unusedVariables false
set_option linter.unusedSimpArgs false
namespace Go.Sx

/-! ## values by kind -/
inductive At where | bool | int | str | addr | nat | mp | val
  deriving DecidableEq
inductive AV where
  | b (x : Bool) | i (x : Int) | s (x : ByteArray) | a (x : Option Addr) | n (x : Nat) | m (x : Option Nat) | v (x : Value)
inductive CT where | bool | int (k : IntKind) | str | slc | ptr | map | val
inductive Ty where | one (c : CT) | agg (cs : List CT)

def CT.ats : CT → List At
  | .bool => [.bool] | .int _ => [.int] | .str => [.str] | .slc => [.addr, .nat, .nat] | .ptr => [.addr] | .map => [.mp] | .val => [.val]
def Ty.ats : Ty → List At
  | .one c => c.ats
  | .agg cs => cs.flatMap CT.ats
def CT.proj : CT → Value → Option (List AV)
  | .bool, .bool x => some [.b x]
  | .int k, .int k' x => if k = k' then some [.i x] else none
  | .str, .string x => some [.s x]
  | .slc, .slice a n c => some [.a a, .n n, .n c]
  | .ptr, .pointer a => some [.a a]
  | .map, .map r => some [.m r]
  | .val, v => some [.v v]
  | _, _ => none
def projCells : List CT → List Value → Option (List AV)
  | [], [] => some []
  | c :: cs, v :: vs => match c.proj v, projCells cs vs with | some l, some r => some (l ++ r) | _, _ => none
  | _, _ => none
def Ty.proj : Ty → Value → Option (List AV)
  | .one c, v => c.proj v
  | .agg cs, .agg vs => projCells cs vs.toList
  | _, _ => none
def CT.inj : CT → List AV → Option (Value × List AV)
  | .bool, .b x :: r => some (.bool x, r)
  | .int k, .i x :: r => some (.int k x, r)
  | .str, .s x :: r => some (.string x, r)
  | .slc, .a a :: .n n :: .n c :: r => some (.slice a n c, r)
  | .ptr, .a a :: r => some (.pointer a, r)
  | .map, .m x :: r => some (.map x, r)
  | .val, .v x :: r => some (x, r)
  | _, _ => none
def injCells : List CT → List AV → Option (List Value × List AV)
  | [], r => some ([], r)
  | c :: cs, l => match c.inj l with
    | some (v, r) => match injCells cs r with | some (vs, r') => some (v :: vs, r') | none => none
    | none => none
def Ty.inj : Ty → List AV → Option (Value × List AV)
  | .one c, l => c.inj l
  | .agg cs, l => match injCells cs l with | some (vs, r) => some (.agg vs.toArray, r) | none => none

inductive Typed : List At → List AV → Prop
  | nil : Typed [] []
  | bool {as l x} : Typed as l → Typed (.bool :: as) (.b x :: l)
  | int {as l x} : Typed as l → Typed (.int :: as) (.i x :: l)
  | str {as l x} : Typed as l → Typed (.str :: as) (.s x :: l)
  | addr {as l x} : Typed as l → Typed (.addr :: as) (.a x :: l)
  | nat {as l x} : Typed as l → Typed (.nat :: as) (.n x :: l)
  | mp {as l x} : Typed as l → Typed (.mp :: as) (.m x :: l)
  | val {as l x} : Typed as l → Typed (.val :: as) (.v x :: l)

theorem Typed.append {as bs : List At} {l r : List AV} (h : Typed as l) (h' : Typed bs r) : Typed (as ++ bs) (l ++ r) := by
  induction h with
  | nil => exact h'
  | bool _ ih => exact .bool ih
  | int _ ih => exact .int ih
  | str _ ih => exact .str ih
  | addr _ ih => exact .addr ih
  | nat _ ih => exact .nat ih
  | mp _ ih => exact .mp ih
  | val _ ih => exact .val ih

theorem CT.proj_typed {c : CT} {v : Value} {l : List AV} (h : c.proj v = some l) : Typed c.ats l := by
  cases c <;> cases v <;> simp [CT.proj] at h <;> (try obtain ⟨_, rfl⟩ := h) <;> (try subst h) <;>
    simp only [CT.ats] <;> repeat (first | exact .nil | constructor)

theorem CT.inj_proj {c : CT} {v : Value} {l : List AV} (h : c.proj v = some l) (r : List AV) : c.inj (l ++ r) = some (v, r) := by
  cases c <;> cases v <;> simp [CT.proj] at h <;> (try obtain ⟨rfl, rfl⟩ := h) <;> (try subst h) <;> rfl

theorem projCells_typed : ∀ {cs : List CT} {vs : List Value} {l : List AV}, projCells cs vs = some l → Typed (cs.flatMap CT.ats) l
  | [], [], l, h => by simp [projCells] at h; subst h; exact .nil
  | [], _ :: _, l, h => by simp [projCells] at h
  | _ :: _, [], l, h => by simp [projCells] at h
  | c :: cs, v :: vs, l, h => by
    simp only [projCells] at h
    cases h1 : c.proj v with
    | none => simp [h1] at h
    | some l1 =>
      cases h2 : projCells cs vs with
      | none => simp [h1, h2] at h
      | some l2 =>
        simp [h1, h2] at h; subst h
        simp only [List.flatMap_cons]
        exact (CT.proj_typed h1).append (projCells_typed h2)

theorem injCells_proj : ∀ {cs : List CT} {vs : List Value} {l : List AV}, projCells cs vs = some l → ∀ r, injCells cs (l ++ r) = some (vs, r)
  | [], [], l, h, r => by simp [projCells] at h; subst h; rfl
  | [], _ :: _, l, h, r => by simp [projCells] at h
  | _ :: _, [], l, h, r => by simp [projCells] at h
  | c :: cs, v :: vs, l, h, r => by
    simp only [projCells] at h
    cases h1 : c.proj v with
    | none => simp [h1] at h
    | some l1 =>
      cases h2 : projCells cs vs with
      | none => simp [h1, h2] at h
      | some l2 =>
        simp [h1, h2] at h; subst h
        simp only [injCells, List.append_assoc, CT.inj_proj h1, injCells_proj h2]

theorem Ty.proj_typed {t : Ty} {v : Value} {l : List AV} (h : t.proj v = some l) : Typed t.ats l := by
  cases t with
  | one c => exact CT.proj_typed h
  | agg cs => cases v <;> simp [Ty.proj] at h; exact projCells_typed h

theorem Ty.inj_proj {t : Ty} {v : Value} {l : List AV} (h : t.proj v = some l) (r : List AV) : t.inj (l ++ r) = some (v, r) := by
  cases t with
  | one c => exact CT.inj_proj h r
  | agg cs => cases v <;> simp [Ty.proj] at h; simp [Ty.inj, injCells_proj h]

/-! ## quantifiers over atoms -/
def exA : List At → (List AV → Prop) → Prop
  | [], p => p []
  | .bool :: as, p => ∃ x : Bool, exA as fun l => p (.b x :: l)
  | .int :: as, p => ∃ x : Int, exA as fun l => p (.i x :: l)
  | .str :: as, p => ∃ x : ByteArray, exA as fun l => p (.s x :: l)
  | .addr :: as, p => ∃ x : Option Addr, exA as fun l => p (.a x :: l)
  | .nat :: as, p => ∃ x : Nat, exA as fun l => p (.n x :: l)
  | .mp :: as, p => ∃ x : Option Nat, exA as fun l => p (.m x :: l)
  | .val :: as, p => ∃ x : Value, exA as fun l => p (.v x :: l)
def allA : List At → (List AV → Prop) → Prop
  | [], p => p []
  | .bool :: as, p => ∀ x : Bool, allA as fun l => p (.b x :: l)
  | .int :: as, p => ∀ x : Int, allA as fun l => p (.i x :: l)
  | .str :: as, p => ∀ x : ByteArray, allA as fun l => p (.s x :: l)
  | .addr :: as, p => ∀ x : Option Addr, allA as fun l => p (.a x :: l)
  | .nat :: as, p => ∀ x : Nat, allA as fun l => p (.n x :: l)
  | .mp :: as, p => ∀ x : Option Nat, allA as fun l => p (.m x :: l)
  | .val :: as, p => ∀ x : Value, allA as fun l => p (.v x :: l)
theorem exA_elim : ∀ {as : List At} {p : List AV → Prop}, exA as p → ∃ l, Typed as l ∧ p l
  | [], p, h => ⟨[], .nil, h⟩
  | .bool :: as, p, ⟨x, h⟩ => let ⟨l, t, q⟩ := exA_elim h; ⟨_, .bool t, q⟩
  | .int :: as, p, ⟨x, h⟩ => let ⟨l, t, q⟩ := exA_elim h; ⟨_, .int t, q⟩
  | .str :: as, p, ⟨x, h⟩ => let ⟨l, t, q⟩ := exA_elim h; ⟨_, .str t, q⟩
  | .addr :: as, p, ⟨x, h⟩ => let ⟨l, t, q⟩ := exA_elim h; ⟨_, .addr t, q⟩
  | .nat :: as, p, ⟨x, h⟩ => let ⟨l, t, q⟩ := exA_elim h; ⟨_, .nat t, q⟩
  | .mp :: as, p, ⟨x, h⟩ => let ⟨l, t, q⟩ := exA_elim h; ⟨_, .mp t, q⟩
  | .val :: as, p, ⟨x, h⟩ => let ⟨l, t, q⟩ := exA_elim h; ⟨_, .val t, q⟩
theorem allA_elim {as : List At} {l : List AV} (t : Typed as l) : ∀ {p : List AV → Prop}, allA as p → p l := by
  induction t with
  | nil => exact fun h => h
  | bool _ ih => exact fun h => ih (h _)
  | int _ ih => exact fun h => ih (h _)
  | str _ ih => exact fun h => ih (h _)
  | addr _ ih => exact fun h => ih (h _)
  | nat _ ih => exact fun h => ih (h _)
  | mp _ ih => exact fun h => ih (h _)
  | val _ ih => exact fun h => ih (h _)

def Cur (r : Type) : List At → Type
  | [] => World → r
  | .bool :: as => Bool → Cur r as
  | .int :: as => Int → Cur r as
  | .str :: as => ByteArray → Cur r as
  | .addr :: as => Option Addr → Cur r as
  | .nat :: as => Nat → Cur r as
  | .mp :: as => Option Nat → Cur r as
  | .val :: as => Value → Cur r as
def app {r : Type} (d : r) : (as : List At) → Cur r as → List AV → World → r
  | [], f, [], w => f w
  | .bool :: as, f, .b x :: l, w => app d as (f x) l w
  | .int :: as, f, .i x :: l, w => app d as (f x) l w
  | .str :: as, f, .s x :: l, w => app d as (f x) l w
  | .addr :: as, f, .a x :: l, w => app d as (f x) l w
  | .nat :: as, f, .n x :: l, w => app d as (f x) l w
  | .mp :: as, f, .m x :: l, w => app d as (f x) l w
  | .val :: as, f, .v x :: l, w => app d as (f x) l w
  | _, _, _, _ => d

/-! ## what is known of the temporaries -/
abbrev Env := Nat → Option Value
def Env.set (ρ : Env) (t : Nat) (v : Option Value) : Env := fun u => bif Nat.beq u t then v else ρ u
def memNat (t : Nat) : List Nat → Bool
  | [] => false
  | x :: l => bif Nat.beq t x then true else memNat t l
def Env.forget (ρ : Env) (l : List Nat) : Env := fun u => bif memNat u l then none else ρ u
def ev (ρ : Env) : Operand → Option Value
  | .tmp t => ρ t
  | .const v => some v
  | .global g => some (.pointer (some ⟨g, 0, none⟩))
  | .func f => some (.func (.func f) #[] #[])
def evs (ρ : Env) : List Operand → Option (List Value)
  | [] => some []
  | x :: l => match ev ρ x, evs ρ l with | some v, some vs => some (v :: vs) | _, _ => none

structure Agrees (n : Nat) (ρ : Env) (a : Act) : Prop where
  defers : a.defers = []
  size : a.tmps.size = n
  at_ : ∀ t v, ρ t = some v → a.tmps[t]? = some v

theorem Agrees.ev {n : Nat} {ρ : Env} {a : Act} (h : Agrees n ρ a) (x : Operand) (v : Value) (hx : ev ρ x = some v) : a.eval x = v := by
  cases x with
  | tmp t => have := h.at_ t v hx; simp [Act.eval, Array.getD_eq_getD_getElem?, this]
  | const u => simpa [Sx.ev, Act.eval] using hx
  | global g => simpa [Sx.ev, Act.eval] using hx
  | func f => simpa [Sx.ev, Act.eval] using hx

theorem memNat_iff {t : Nat} : ∀ {l : List Nat}, memNat t l = true ↔ t ∈ l
  | [] => by simp [memNat]
  | x :: l => by
    simp only [memNat, List.mem_cons]
    cases h : Nat.beq t x with
    | true => simp [Nat.eq_of_beq_eq_true h]
    | false => simp [memNat_iff (l := l), Nat.ne_of_beq_eq_false h]

structure SameBut (l : List Nat) (a a' : Act) : Prop where
  at_ : ∀ t, t ∉ l → a'.tmps[t]? = a.tmps[t]?
theorem SameBut.refl (l : List Nat) (a : Act) : SameBut l a a := ⟨fun _ _ => rfl⟩
theorem SameBut.trans {l : List Nat} {a b c : Act} (h : SameBut l a b) (h' : SameBut l b c) : SameBut l a c := ⟨fun t ht => (h'.at_ t ht).trans (h.at_ t ht)⟩
theorem SameBut.mono {l l' : List Nat} {a b : Act} (h : SameBut l a b) (hl : ∀ t, t ∈ l → t ∈ l') : SameBut l' a b := ⟨fun t ht => h.at_ t (fun hm => ht (hl t hm))⟩
theorem SameBut.put {l : List Nat} (a : Act) {d : Option Nat} (hd : ∀ t, d = some t → t ∈ l) (v : Value) : SameBut l a (a.put d v) := by
  refine ⟨fun t ht => ?_⟩
  cases d with
  | none => rfl
  | some d =>
    show (a.tmps.setIfInBounds d v)[t]? = _
    rw [Array.getElem?_setIfInBounds_ne (fun e => ht (by rw [← e]; exact hd d rfl))]

theorem Agrees.put {n : Nat} {ρ : Env} {a : Act} (h : Agrees n ρ a) {d : Nat} (hd : d < n) (v : Value) : Agrees n (ρ.set d (some v)) (a.put (some d) v) := by
  refine ⟨h.defers, by simp [Act.put, h.size], fun t u hu => ?_⟩
  simp only [Env.set] at hu
  cases hb : Nat.beq t d with
  | true =>
    have := Nat.eq_of_beq_eq_true hb
    subst this
    simp [hb] at hu
    subst hu
    have := h.size
    simp [Act.put, this, hd]
  | false =>
    have hne := Nat.ne_of_beq_eq_false hb
    simp [hb] at hu
    have h3 := h.at_ t u hu
    show (a.tmps.setIfInBounds d v)[t]? = some u
    rw [Array.getElem?_setIfInBounds_ne (fun e => hne e.symm)]
    exact h3
theorem Agrees.putNone {n : Nat} {ρ : Env} {a : Act} (h : Agrees n ρ a) (d : Nat) (v : Value) : Agrees n (ρ.set d none) (a.put (some d) v) := by
  refine ⟨h.defers, by simp [Act.put, h.size], fun t u hu => ?_⟩
  simp only [Env.set] at hu
  cases hb : Nat.beq t d with
  | true => simp [hb] at hu
  | false =>
    have hne := Nat.ne_of_beq_eq_false hb
    simp [hb] at hu
    have h3 := h.at_ t u hu
    show (a.tmps.setIfInBounds d v)[t]? = some u
    rw [Array.getElem?_setIfInBounds_ne (fun e => hne e.symm)]
    exact h3
theorem Agrees.put0 {n : Nat} {ρ : Env} {a : Act} (h : Agrees n ρ a) (v : Value) : Agrees n ρ (a.put none v) := h

/-! ## the variables of a loop or of a join -/
def setVars : List (Nat × Ty) → List AV → Env → Env
  | [], _, ρ => ρ
  | (t, ty) :: vs, l, ρ => match ty.inj l with | some (v, r) => setVars vs r (ρ.set t (some v)) | none => ρ
def projVars : List (Nat × Ty) → Env → Option (List AV)
  | [], _ => some []
  | (t, ty) :: vs, ρ => match ρ t with
    | some v => (match ty.proj v, projVars vs ρ with | some a, some b => some (a ++ b) | _, _ => none)
    | none => none
def varsAts : List (Nat × Ty) → List At
  | [] => []
  | (_, ty) :: vs => ty.ats ++ varsAts vs
theorem projVars_typed : ∀ {vs : List (Nat × Ty)} {ρ : Env} {l : List AV}, projVars vs ρ = some l → Typed (varsAts vs) l
  | [], ρ, l, h => by simp [projVars] at h; subst h; exact .nil
  | (t, ty) :: vs, ρ, l, h => by
    simp only [projVars] at h
    cases h0 : ρ t with
    | none => simp [h0] at h
    | some v =>
      cases h1 : ty.proj v with
      | none => simp [h0, h1] at h
      | some a =>
        cases h2 : projVars vs ρ with
        | none => simp [h0, h1, h2] at h
        | some b => simp [h0, h1, h2] at h; subst h; exact (Ty.proj_typed h1).append (projVars_typed h2)
theorem setVars_agrees {n : Nat} : ∀ {vs : List (Nat × Ty)} {ρ' ρb : Env} {l : List AV} {a : Act}, projVars vs ρ' = some l → Agrees n ρ' a → Agrees n ρb a → Agrees n (setVars vs l ρb) a
  | [], ρ', ρb, l, a, h, h1, h2 => h2
  | (t, ty) :: vs, ρ', ρb, l, a, h, h1, h2 => by
    simp only [projVars] at h
    cases h0 : ρ' t with
    | none => simp [h0] at h
    | some v =>
      cases hp : ty.proj v with
      | none => simp [h0, hp] at h
      | some x =>
        cases hq : projVars vs ρ' with
        | none => simp [h0, hp, hq] at h
        | some y =>
          simp [h0, hp, hq] at h; subst h
          simp only [setVars, Ty.inj_proj hp]
          refine setVars_agrees hq h1 ⟨h2.defers, h2.size, fun u x hu => ?_⟩
          simp only [Env.set] at hu
          cases hb : Nat.beq u t with
          | true => have := Nat.eq_of_beq_eq_true hb; subst this; simp [hb] at hu; subst hu; exact h1.at_ _ _ h0
          | false => simp [hb] at hu; exact h2.at_ u x hu
theorem Agrees.forget {n : Nat} {ρ : Env} {a a' : Act} (h : Agrees n ρ a) {l : List Nat} (hs : SameBut l a a') (hd : a'.defers = []) (hz : a'.tmps.size = n) : Agrees n (ρ.forget l) a' := by
  refine ⟨hd, hz, fun t v hv => ?_⟩
  simp only [Env.forget] at hv
  cases hm : memNat t l with
  | true => simp [hm] at hv
  | false =>
    simp [hm] at hv
    rw [hs.at_ t (fun hmem => by rw [memNat_iff.2 hmem] at hm; cases hm)]
    exact h.at_ t v hv

end Go.Sx
set_option linter.unusedVariables false
set_option linter.unusedSimpArgs false
namespace Go.Sx

/-! ## tables -/
def inf (P : Program) (t : TypeId) : Option TypeInfo := P.types.toList[t]?
theorem inf_info {P : Program} {t : TypeId} {i : TypeInfo} (h : inf P t = some i) : P.info? t = some i := by
  unfold inf at h
  have h' : P.types[t]? = some i := by simpa using h
  have hlt : t < P.types.size := (Array.getElem?_eq_some_iff.1 h').1
  unfold Tables.info?
  rw [if_pos hlt]
  exact h'
def und (P : Program) (t : TypeId) : Option TypeDesc :=
  match inf P t with
  | some i => match i.desc with
    | .named _ u => match inf P u with | some j => some j.desc | none => none
    | d => some d
  | none => none
theorem und_underlying {P : Program} {t : TypeId} {d : TypeDesc} (h : und P t = some d) : P.underlying t = some d := by
  unfold und at h
  cases hi : inf P t with
  | none => simp [hi] at h
  | some i =>
    rw [hi] at h
    have h1 := inf_info hi
    unfold Program.underlying
    rw [h1]
    obtain ⟨desc, str, size, bytes, hp, al, fa, zero, cmp, ms⟩ := i
    cases desc <;> simp only at h ⊢ <;> try exact h
    rename_i nm u
    cases hj : inf P u with
    | none => simp [hj] at h
    | some j => rw [hj] at h; rw [inf_info hj]; simpa using h
theorem run_und {P : Program} {t : TypeId} {d : TypeDesc} (h : und P t = some d) (w : World) : (underlying t).run P w = .ok d w := run_underlying (und_underlying h) w
theorem run_inf {P : Program} {t : TypeId} {i : TypeInfo} (h : inf P t = some i) (w : World) : (typeInfo t).run P w = .ok i w := by
  simp [typeInfo, inf_info h]
theorem run_size {P : Program} {t : TypeId} {i : TypeInfo} (h : inf P t = some i) (w : World) : (sizeOf t).run P w = .ok i.size w := by
  simp [sizeOf, run_inf h]

def cellTys (P : Program) : Nat → TypeId → Option (List CT)
  | 0, _ => none
  | f + 1, t =>
    match und P t with
    | some .bool => some [.bool]
    | some (.int k) => some [.int k]
    | some .string => some [.str]
    | some (.slice _) => some [.slc]
    | some (.pointer _) => some [.ptr]
    | some (.map _ _) => some [.map]
    | some (.func _ _ _) => some [.val]
    | some (.interface _) => some [.val]
    | some (.struct fs) => fs.toList.foldr (fun x acc => match cellTys P f x.type, acc with | some a, some b => some (a ++ b) | _, _ => none) (some [])
    | some (.array n e) => match cellTys P f e with | some l => some (List.replicate n l).flatten | none => none
    | _ => none
def bigT (P : Program) (t : TypeId) : Option Nat :=
  match und P t with
  | some (.array n e) => (match und P e, inf P e, inf P t with
    | some .bool, some q, some i => cond (Nat.ble 64 n && (Nat.beq q.size 1 && Nat.beq i.size n)) (some n) none
    | _, _, _ => none)
  | _ => none
theorem bigT_of {P : Program} {t : TypeId} {n : Nat} (h : bigT P t = some n) : ∃ e q i, und P t = some (.array n e) ∧ und P e = some .bool ∧ inf P e = some q ∧ q.size = 1 ∧ inf P t = some i ∧ i.size = n := by
  unfold bigT at h
  split at h
  · rename_i m e hd
    split at h
    · rename_i q i h1 h2 h3
      cases hb : (Nat.ble 64 m && (Nat.beq q.size 1 && Nat.beq i.size m)) with
      | false => rw [hb] at h; cases h
      | true =>
        rw [hb] at h
        obtain rfl : m = n := Option.some.inj h
        simp only [Bool.and_eq_true] at hb
        exact ⟨e, q, i, hd, h1, h2, Nat.eq_of_beq_eq_true hb.2.1, h3, Nat.eq_of_beq_eq_true hb.2.2⟩
    · cases h
  · cases h
def boolsV (l : List Bool) : Value := .agg (l.map Value.bool).toArray
def tyOf (P : Program) (t : TypeId) : Option Ty :=
  match bigT P t with
  | some _ => some (.one .val)
  | none => match und P t with
    | some (.struct _) | some (.array _ _) => (match cellTys P 12 t with | some l => some (.agg l) | none => none)
    | _ => (match cellTys P 12 t with | some [c] => some (.one c) | _ => none)

/-! ## calls and runs -/
def CallsV (P : Program) (f : FuncId) (args : Array Value) (w : World) (K : Value → World → Prop) : Prop :=
  Calls P f args w fun e w' => ∃ v, e = .returned v ∧ K v w'
theorem CallsV.mono {P : Program} {f : FuncId} {args : Array Value} {w : World} {K K' : Value → World → Prop} (h : CallsV P f args w K) (hk : ∀ v w', K v w' → K' v w') : CallsV P f args w K' :=
  Calls.mono h fun _ _ ⟨v, e, k⟩ => ⟨v, e, hk _ _ k⟩
def RunsTo {α : Type} (P : Program) (s : Sem α) (w : World) (v : α) (w' : World) : Prop := s.run P w = .ok v w'

def Does (P : Program) (σ : Operand → Value) (o : Oper) (w : World) (K : Value → World → Prop) : Prop :=
  (∃ v w', (execOp σ o).run P w = .ok (.value v) w' ∧ K v w') ∨ (∃ w', (execOp σ o).run P w = .ok .skip w' ∧ K undef w') ∨
  (∃ f args, (execOp σ o).run P w = .ok (.enter f args) w ∧ CallsV P f args w K)
theorem Does.wp {P : Program} {a : Act} {o : Oper} {w : World} {K : Value → World → Prop} {Q : Exit → Act → World → Prop} (h : Does P a.eval o w K) :
    o.wp P a w (fun a' w' => ∃ v, a' = a.put o.dst v ∧ K v w') Q := by
  unfold Oper.wp
  rcases h with ⟨v, w', hr, hk⟩ | ⟨w', hr, hk⟩ | ⟨f, args, hr, hc⟩
  · rw [hr]; exact ⟨v, rfl, hk⟩
  · rw [hr]; exact ⟨_, rfl, hk⟩
  · rw [hr, Oper.upon_enter]
    exact Calls.mono hc fun e w'' ⟨v, he, hk⟩ => by subst he; exact ⟨v, rfl, hk⟩
theorem Does.mono {P : Program} {σ : Operand → Value} {o : Oper} {w : World} {K K' : Value → World → Prop} (h : Does P σ o w K) (hk : ∀ v w', K v w' → K' v w') : Does P σ o w K' := by
  rcases h with ⟨v, w', hr, h⟩ | ⟨w', hr, h⟩ | ⟨f, args, hr, hc⟩
  · exact .inl ⟨v, w', hr, hk _ _ h⟩
  · exact .inr (.inl ⟨w', hr, hk _ _ h⟩)
  · exact .inr (.inr ⟨f, args, hr, hc.mono hk⟩)

def Gives (P : Program) (σ : Operand → Value) (o : Oper) (K : Value → Prop) : Prop :=
  ∃ v, (∀ w, (execOp σ o).run P w = .ok (.value v) w) ∧ K v
theorem Gives.does {P : Program} {σ : Operand → Value} {o : Oper} {K : Value → World → Prop} {w : World} (h : Gives P σ o (fun v => K v w)) : Does P σ o w K :=
  let ⟨v, hr, hk⟩ := h; .inl ⟨v, w, hr w, hk⟩

def Knows (ρ : Env) (σ : Operand → Value) : Prop := ∀ x v, ev ρ x = some v → σ x = v
theorem Knows.list {ρ : Env} {σ : Operand → Value} (h : Knows ρ σ) : ∀ {l : List Operand} {vs : List Value}, evs ρ l = some vs → l.map σ = vs
  | [], vs, he => by simp [evs] at he; simp [he]
  | x :: l, vs, he => by
    simp only [evs] at he
    cases h1 : ev ρ x with
    | none => simp [h1] at he
    | some v =>
      cases h2 : evs ρ l with
      | none => simp [h1, h2] at he
      | some r => simp [h1, h2] at he; subst he; simp [h x v h1, h.list h2]

/-! ## operations that look at no world -/
def intBin (op : BinOp) (k : IntKind) (a b : Int) (K : Value → Prop) : Prop :=
  match op with
  | .add => K (.int k (k.wrap (a + b)))
  | .sub => K (.int k (k.wrap (a - b)))
  | .mul => K (.int k (k.wrap (a * b)))
  | .quo => b ≠ 0 ∧ K (.int k (k.wrap (a.tdiv b)))
  | .rem => b ≠ 0 ∧ K (.int k (a.tmod b))
  | .and => K (.int k (k.wrap ((BitVec.ofInt k.bits a &&& BitVec.ofInt k.bits b).toNat : Int)))
  | .or => K (.int k (k.wrap ((BitVec.ofInt k.bits a ||| BitVec.ofInt k.bits b).toNat : Int)))
  | .xor => K (.int k (k.wrap ((BitVec.ofInt k.bits a ^^^ BitVec.ofInt k.bits b).toNat : Int)))
  | .andNot => K (.int k (k.wrap ((BitVec.ofInt k.bits a &&& ~~~ BitVec.ofInt k.bits b).toNat : Int)))
  | .eql => K (.bool (decide (a = b)))
  | .neq => K (.bool (!decide (a = b)))
  | .lss => K (.bool (decide (a < b)))
  | .leq => K (.bool (decide (a ≤ b)))
  | .gtr => K (.bool (decide (b < a)))
  | .geq => K (.bool (decide (b ≤ a)))
  | .shl => 0 ≤ b ∧ K (.int k (k.wrap (a * 2 ^ (min b.toNat k.bits))))
  | .shr => 0 ≤ b ∧ K (.int k (a.fdiv (2 ^ (min b.toNat k.bits))))
def isShift : BinOp → Bool | .shl | .shr => true | _ => false
def strBin (op : BinOp) (a b : ByteArray) (K : Value → Prop) : Prop :=
  match op with
  | .add => a.size + b.size ≤ 9223372036854775807 ∧ K (.string (a ++ b))
  | .eql => K (.bool (a.toList == b.toList))
  | .neq => K (.bool (!(a.toList == b.toList)))
  | .lss => K (.bool (Op.bytesLess a.toList b.toList))
  | .leq => K (.bool (Op.bytesLess a.toList b.toList || a.toList == b.toList))
  | .gtr => K (.bool (!(Op.bytesLess a.toList b.toList || a.toList == b.toList)))
  | .geq => K (.bool (!Op.bytesLess a.toList b.toList))
  | _ => False
def eqNil (t : Option TypeDesc) (x y : Value) : Option Bool :=
  match t, x, y with
  | some .bool, .bool a, .bool b => some (decide (a = b))
  | some (.pointer _), .pointer a, .pointer none => some a.isNone
  | some (.pointer _), .pointer none, .pointer b => some b.isNone
  | some (.slice _), .slice a _ _, .slice none _ _ => some a.isNone
  | some (.slice _), .slice none _ _, .slice b _ _ => some b.isNone
  | some (.map _ _), .map a, .map none => some a.isNone
  | some (.map _ _), .map none, .map b => some b.isNone
  | some (.func _ _ _), .func _ _ _, .nilFunc => some false
  | some (.func _ _ _), .nilFunc, .nilFunc => some true
  | _, _, _ => none
def binS (P : Program) (op : BinOp) (t : TypeId) (a b : Value) (K : Value → Prop) : Prop :=
  match a, b with
  | .int k x, .int k' y => if isShift op then intBin op k x y K else (if k = k' then intBin op k x y K else False)
  | .string x, .string y => strBin op x y K
  | x, y => match op, eqNil (und P t) x y with
    | .eql, some r => K (.bool r)
    | .neq, some r => K (.bool (!r))
    | _, _ => False
def isPtrT : Option TypeDesc → Bool | some (.pointer _) => true | _ => false
def constO : Operand → Bool | .const _ => true | _ => false
def ptrS (P : Program) (op : BinOp) (t : TypeId) (a b : Value) (K : Value → Prop) : Prop :=
  match a, b, und P t with
  | .pointer a, .pointer b, some (.pointer e) => (match inf P e, op with
    | some _, .eql => ∃ ad : Addr, (a = some ad ∧ b = some ad) ∧ K (.bool true)
    | some _, .neq => ∃ ad : Addr, (a = some ad ∧ b = some ad) ∧ K (.bool false)
    | _, _ => False)
  | _, _, _ => False
theorem ptrS_run {P : Program} {op : BinOp} {t : TypeId} {a b : Value} {K : Value → Prop} (h : ptrS P op t a b K) :
    ∃ v, (∀ w, (binOp op t a b).run P w = .ok v w) ∧ (∀ x y w, (eqGuard op t x y a b).run P w = .ok () w) ∧ K v := by
  unfold ptrS at h
  split at h
  · rename_i e hd
    split at h
    · rename_i i hi
      obtain ⟨ad, ⟨rfl, rfl⟩, hK⟩ := h
      exact ⟨_, fun w => run_eql_ptr_same w ad (und_underlying hd) (inf_info hi), fun x y w => by simp [eqGuard], hK⟩
    · rename_i i hi
      obtain ⟨ad, ⟨rfl, rfl⟩, hK⟩ := h
      exact ⟨_, fun w => Go.Lib.run_neq_ptr_same w ad (und_underlying hd) (inf_info hi), fun x y w => by simp [eqGuard], hK⟩
    · exact h.elim
  · exact h.elim
def unS (op : UnOp) (a : Value) (K : Value → Prop) : Prop :=
  match op, a with
  | .neg, .int k n => K (.int k (k.wrap (0 - n)))
  | .xor, .int k n => K (.int k (k.wrap ((BitVec.ofInt k.bits (if k.signed then -1 else k.max) ^^^ BitVec.ofInt k.bits n).toNat : Int)))
  | .not, .bool b => K (.bool (!b))
  | _, _ => False
def flatEq (P : Program) : List Field → List Value → List Value → Option Bool
  | [], _, _ => some true
  | f :: fs, xs, ys => match und P f.type, xs[f.offset]?, ys[f.offset]?, flatEq P fs xs ys with
    | some (.int _), some (.int k a), some (.int k' b), some r => if k = k' then some (decide (a = b) && r) else none
    | some .string, some (.string a), some (.string b), some r => some (a.toList == b.toList && r)
    | some .bool, some (.bool a), some (.bool b), some r => some (decide (a = b) && r)
    | _, _, _, _ => none
def aggS (P : Program) (op : BinOp) (t : TypeId) (xs ys : Array Value) (K : Value → Prop) : Prop :=
  match und P t with
  | some (.struct fs) => cond (P.stoodInHeld t || P.eqGuardType P.depth t || fs.toList.any fun f => f.name == "_") False (match flatEq P fs.toList xs.toList ys.toList with
    | some r => (match op with | .eql => K (.bool r) | .neq => K (.bool (!r)) | _ => False)
    | none => False)
  | _ => False
def fieldsOf (P : Program) (t : TypeId) : Option (List Field) := match und P t with | some (.struct fs) => some fs.toList | _ => none
def isAggT (P : Program) (t : TypeId) : Option Bool := match und P t with | some (.struct _) | some (.array _ _) => some true | some _ => some false | none => none
def partS (P : Program) (t : TypeId) (cs : List Value) (off : Nat) (K : Value → Prop) : Prop :=
  match isAggT P t, inf P t with
  | some true, some i => K (.agg ((cs.drop off).take i.size).toArray)
  | some false, _ => (match cs[off]? with | some v => K v | none => False)
  | _, _ => False
def optB (ρ : Env) : Option Operand → Option (Option Value)
  | none => some none
  | some x => match ev ρ x with | some v => some (some v) | none => none
def bndS (v : Value) (most : Nat) (K : Nat → Prop) : Prop := match v with | .int _ n => (0 ≤ n ∧ n ≤ (most : Int)) ∧ K n.toNat | _ => False
def boundsS (len cap : Nat) (lo hi mx : Option Value) (K : Nat → Nat → Nat → Prop) : Prop :=
  match hi, mx with
  | some h, some m => bndS m cap fun m => bndS h m fun h => (match lo with | some l => bndS l h fun l => K l h m | none => K 0 h m)
  | some h, none => bndS h cap fun h => (match lo with | some l => bndS l h fun l => K l h cap | none => K 0 h cap)
  | none, none => (match lo with | some l => bndS l len fun l => K l len cap | none => K 0 len cap)
  | none, some _ => False
def cutAt (a : Option Addr) (m l size : Nat) : Option Addr := if m = l then a else a.map (·.add (l * size))
def allEv (ρ : Env) : List (Nat × Operand) → Option (List (Nat × Value))
  | [] => some []
  | (i, x) :: l => match ev ρ x, allEv ρ l with | some v, some r => some ((i, v) :: r) | _, _ => none
def setAt (off : Nat) (vs cs : List Value) : List Value := cs.take off ++ vs ++ cs.drop (off + vs.length)
def cellsL : Value → List Value | .agg cs => cs.toList | v => [v]
def fillL (place : Nat → Option (Nat × Nat)) (cells : List Value) : List (Nat × Value) → Option (List Value)
  | [] => some cells
  | (i, v) :: rest => match place i with
    | none => none
    | some (off, size) => if (cellsL v).length = size then if off + (cellsL v).length ≤ cells.length then fillL place (setAt off (cellsL v) cells) rest else none else none
def placesL (P : Program) : List Field → Option (List (Nat × Nat))
  | [] => some []
  | f :: l => match inf P f.type, placesL P l with | some i, some r => some ((f.offset, i.size) :: r) | _, _ => none
def buildS (P : Program) (t : TypeId) (parts : List (Nat × Value)) (K : Value → Prop) : Prop :=
  match inf P t, und P t with
  | some i, some (.struct fs) => (match i.zero, placesL P fs.toList with
    | some z, some pl => (match fillL (fun j => pl[j]?) (cellsL z) parts with | some cs => K (.agg cs.toArray) | none => False)
    | _, _ => False)
  | some i, some (.array _ e) => (match i.zero, inf P e with
    | some z, some j => (match fillL (fun q => some (q * j.size, j.size)) (cellsL z) parts with | some cs => K (.agg cs.toArray) | none => False)
    | _, _ => False)
  | _, _ => False

def idxS : Nat → Nat → Int → (Nat → Prop) → Prop
  | 0, _, _, _ => False
  | n + 1, i, j, K => cond (decide (j = (i : Int))) (K i) (idxS n (i + 1) j K)
theorem idxS_at {K : Nat → Prop} {j : Int} : ∀ {n i : Nat}, idxS n i j K → ∃ k : Nat, j = (k : Int) ∧ K k
  | 0, _, h => h.elim
  | n + 1, i, h => by
    unfold idxS at h
    by_cases hj : j = (i : Int)
    · rw [decide_eq_true hj] at h; exact ⟨i, hj, h⟩
    · rw [decide_eq_false hj] at h; exact idxS_at h

def idxB (n : Nat) (x i : Option Value) (K : Value → Prop) : Prop :=
  match x, i with
  | some v, some (.int _ j) => ∃ l : List Bool, (v = boolsV l ∧ l.length = n) ∧ (0 ≤ j ∧ j < (n : Int)) ∧ K (.bool (l.getD j.toNat false))
  | _, _ => False
def pureS (P : Program) (ρ : Env) (op : Op) (K : Value → Prop) : Prop :=
  match op with
  | .move x | .assign x => (match ev ρ x with | some v => K v | none => False)
  | .pick c a b => (match ev ρ c with
    | some (.bool c) => cond c (match ev ρ a with | some v => K v | none => False) (match ev ρ b with | some v => K v | none => False)
    | _ => False)
  | .binOp op t x y _ => (match ev ρ x, ev ρ y with | some (.agg a), some (.agg b) => aggS P op t a b K | some a, some b => cond (isPtrT (und P t) && !(constO x || constO y)) (ptrS P op t a b K) (binS P op t a b K) | _, _ => False)
  | .unOp op _ x => (match ev ρ x with | some v => unS op v K | none => False)
  | .convert s d x => (match und P d, ev ρ x with
    | some (.int k), some (.int _ n) => (match und P s with | some _ => K (.int k (k.wrap n)) | none => False)
    | some .string, some (.string b) => (match und P s with | some _ => K (.string b) | none => False)
    | _, _ => False)
  | .extract x i => (match ev ρ x with | some (.tuple vs) => (match vs.toList[i]? with | some v => K v | none => False) | _ => False)
  | .field t x f => (match fieldsOf P t, ev ρ x with
    | some fs, some (.agg cs) => (match fs[f]? with | some fd => partS P fd.type cs.toList fd.offset K | none => False)
    | _, _ => False)
  | .fieldAddr t x f => (match fieldsOf P t, ev ρ x with
    | some fs, some (.pointer (some a)) => (match fs[f]? with
      | some fd => (match inf P fd.type with | some i => (if i.size = 0 then False else K (.pointer (some (a.add fd.offset)))) | none => False)
      | none => False)
    | _, _ => False)
  | .indexAddr t x i => (match und P t, ev ρ x, ev ρ i with
    | some (.slice e), some (.slice A n _), some (.int _ j) => (match inf P e with
      | some q => ∃ ad, A = some ad ∧ (0 ≤ j ∧ j < (n : Int)) ∧ K (.pointer (some (ad.add (j.toNat * q.size))))
      | none => False)
    | some (.array n e), some (.pointer (some ad)), some (.int _ j) => (match inf P e with
      | some q => (0 ≤ j ∧ j < (n : Int)) ∧ K (.pointer (some (ad.add (j.toNat * q.size))))
      | none => False)
    | _, _, _ => False)
  | .index t x i => (match bigT P t with
    | some n => idxB n (ev ρ x) (ev ρ i) K
    | none => match und P t, ev ρ x, ev ρ i with
    | some .string, some (.string s), some (.int _ j) => ∃ b, (0 ≤ j ∧ s[j.toNat]? = some b) ∧ K (.int .u8 b.toNat)
    | some (.array n e), some (.agg cs), some (.int _ j) => (match inf P e with
      | some q => (0 ≤ j ∧ j < (n : Int)) ∧ idxS n 0 j fun k => partS P e cs.toList (k * q.size) K
      | none => False)
    | _, _, _ => False)
  | .slice t x lo hi mx => (match und P t, ev ρ x, optB ρ lo, optB ρ hi, optB ρ mx with
    | some .string, some (.string s), some lo, some hi, some none => boundsS s.size s.size lo hi none fun l h _ => K (.string (s.extract l h))
    | some (.slice e), some (.slice A n c), some lo, some hi, some mx => (match inf P e with
      | some q => boundsS n c lo hi mx fun l h m => K (.slice (cutAt A m l q.size) (h - l) (m - l))
      | none => False)
    | some (.array n e), some (.pointer (some ad)), some lo, some hi, some mx => (match inf P e with
      | some q => boundsS n n lo hi mx fun l h m => K (.slice (cutAt (some ad) m l q.size) (h - l) (m - l))
      | none => False)
    | _, _, _, _, _ => False)
  | .build t parts => (match allEv ρ parts.toList with | some ps => buildS P t ps K | none => False)
  | .makeFunc fn first captured => (match evs ρ first.toList, evs ρ captured.toList with | some a, some b => K (.func fn a.toArray b.toArray) | _, _ => False)
  | .makeInterface t x => (match und P t, ev ρ x with
    | some (.interface _), _ => False
    | some _, some v => K (.iface t v)
    | _, _ => False)
  | .nilCheck x => (match ev ρ x with
    | some (.pointer p) => ∃ a, p = some a ∧ K (.pointer (some a))
    | some (.func (.func f) first captured) => K (.func (.func f) first captured)
    | _ => False)
  | .call c => (match c.callee, c.argTypes.toList, evs ρ c.args.toList with
    | .builtin .len, t :: _, some (v :: _) => (match und P t, v with
      | some .string, .string s => K (.int .i64 s.size)
      | some (.slice _), .slice _ n _ => K (.int .i64 n)
      | some (.array n _), _ => K (.int .i64 n)
      | some (.map _ _), .map none => K (.int .i64 0)
      | _, _ => False)
    | .builtin .min, _, some [.int k x, .int k' y] => if k = k' then K (.int k (if y < x then y else x)) else False
    | .builtin .max, _, some [.int k x, .int k' y] => if k = k' then K (.int k (if y > x then y else x)) else False
    | .builtin .min, _, some [.int k x, .int k' y, .int k'' z] => if k = k' then if k = k'' then K (.int k (if z < (if y < x then y else x) then z else (if y < x then y else x))) else False else False
    | .builtin .max, _, some [.int k x, .int k' y, .int k'' z] => if k = k' then if k = k'' then K (.int k (if z > (if y > x then y else x) then z else (if y > x then y else x))) else False else False
    | .builtin .cap, t :: _, some (v :: _) => (match und P t, v with | some (.slice _), .slice _ _ c => K (.int .i64 c) | _, _ => False)
    | _, _, _ => False)
  | _ => False

/-! ## soundness of the pure ones -/
section
variable {P : Program} {ρ : Env} {σ : Operand → Value}

theorem decide_beq_int (a b : Int) : (a == b) = decide (a = b) := by
  by_cases h : a = b <;> simp [h]

theorem run_binOp_int {k : IntKind} {a b : Int} {op : BinOp} (hs : isShift op = false) (t : TypeId) (w : World) : (binOp op t (.int k a) (.int k b)).run P w =
    (match op with
    | .add | .sub | .mul => Op.intArith op k a b
    | .quo | .rem => Op.intDiv op k a b
    | .and | .or | .xor | .andNot => Op.intBits op k a b
    | _ => Op.intCmp op a b).run P w := by
  cases op <;> simp [isShift] at hs <;> simp [binOp]

theorem run_intBin {k : IntKind} {a b : Int} {op : BinOp} {K : Value → Prop} (hs : isShift op = false) (h : intBin op k a b K) (t : TypeId) : ∃ v, (∀ w, (binOp op t (.int k a) (.int k b)).run P w = .ok v w) ∧ K v := by
  have e := fun w => run_binOp_int (P := P) (k := k) (a := a) (b := b) hs t w
  cases op <;> simp only [intBin] at h <;> simp only [] at e
  case add | sub | mul => exact ⟨_, fun w => (e w).trans rfl, h⟩
  case and | or | xor | andNot => exact ⟨_, fun w => (e w).trans rfl, h⟩
  case quo => exact ⟨_, fun w => (e w).trans (by simp [Op.intDiv, h.1]), h.2⟩
  case rem => exact ⟨_, fun w => (e w).trans (by simp [Op.intDiv, h.1]), h.2⟩
  case lss | leq | gtr | geq => exact ⟨_, fun w => (e w).trans rfl, h⟩
  case eql => exact ⟨_, fun w => (e w).trans (by simp [Op.intCmp, decide_beq_int]), h⟩
  case neq => exact ⟨_, fun w => (e w).trans (by simp [Op.intCmp, decide_beq_int, bne]), h⟩
  case shl | shr => simp [isShift] at hs

theorem run_shift {k k' : IntKind} {a b : Int} {op : BinOp} {K : Value → Prop} (hs : isShift op = true) (h : intBin op k a b K) (t : TypeId) : ∃ v, (∀ w, (binOp op t (.int k a) (.int k' b)).run P w = .ok v w) ∧ K v := by
  cases op <;> simp [isShift] at hs <;> simp only [intBin] at h <;> obtain ⟨h1, h2⟩ := h <;> have h3 : ¬ b < 0 := by omega
  · exact ⟨_, fun w => by simp only [binOp, Op.shift, if_neg h3]; rfl, h2⟩
  · exact ⟨_, fun w => by simp only [binOp, Op.shift, if_neg h3]; rfl, h2⟩

theorem run_strBin {a b : ByteArray} {op : BinOp} {K : Value → Prop} (h : strBin op a b K) (t : TypeId) : ∃ v, (∀ w, (binOp op t (.string a) (.string b)).run P w = .ok v w) ∧ K v := by
  cases op <;> simp only [strBin] at h
  case add =>
    have h1 : ¬ (((a.size + b.size : Nat) : Int) > IntKind.i64.max) := by have := h.1; simp [IntKind.max, IntKind.signed, IntKind.bits]; omega
    exact ⟨_, fun w => by simp only [binOp, Op.stringOp, if_neg h1]; rfl, h.2⟩
  case eql | neq | lss | leq | gtr | geq => exact ⟨_, fun w => by simp only [binOp, Op.stringOp]; rfl, h⟩

theorem run_eqNil' {t : TypeId} {x y : Value} {r : Bool} (h : eqNil (und P t) x y = some r) (w : World) (d : Nat) : (Op.equalIn (d + 1) t x y).run P w = .ok r w := by
  cases hd : und P t with
  | none => rw [hd] at h; simp [eqNil] at h
  | some d =>
    rw [hd] at h
    unfold eqNil at h
    split at h <;> simp only [Option.some.injEq, reduceCtorEq, TypeDesc.pointer.injEq, TypeDesc.slice.injEq, TypeDesc.map.injEq, TypeDesc.func.injEq] at * <;> subst_vars <;>
      simp only [Op.equalIn, Sem.run_bind, run_und hd, Result.andThen_ok, Sem.run_pure, Option.isNone_none] <;> (try rfl) <;> (try (simp; done))
    all_goals (try (rename_i a _; cases a <;> rfl))
    all_goals (try (rename_i a; cases a <;> rfl))
    all_goals (rename_i a _ _ _ _; cases a <;> rfl)
theorem run_eqNil {t : TypeId} {x y : Value} {r : Bool} (h : eqNil (und P t) x y = some r) (w : World) : (Op.equal t x y).run P w = .ok r w := run_eqNil' h w 9999

theorem binS_run {op : BinOp} {t : TypeId} {a b : Value} {K : Value → Prop} (h : binS P op t a b K) :
    ∃ v, (∀ w, (binOp op t a b).run P w = .ok v w) ∧ K v := by
  unfold binS at h
  split at h
  · rename_i k x k' y
    cases hs : isShift op with
    | true => simp only [hs, if_true] at h; exact run_shift hs h t
    | false =>
      simp only [hs, Bool.false_eq_true, if_false] at h
      split at h
      · rename_i hk; subst hk; exact run_intBin hs h t
      · exact h.elim
  · exact run_strBin h t
  · rename_i x y hn1 hn2
    split at h
    · rename_i r hr
      refine ⟨_, fun w => ?_, h⟩
      have e := run_eqNil hr w
      unfold eqNil at hr
      split at hr <;> first | (simp at hr; done) | (simp only [binOp, Sem.run_bind, e, Result.andThen_ok, Sem.run_pure])
    · rename_i r hr
      refine ⟨_, fun w => ?_, h⟩
      have e := run_eqNil hr w
      unfold eqNil at hr
      split at hr <;> first | (simp at hr; done) | (simp only [binOp, Sem.run_bind, e, Result.andThen_ok, Sem.run_pure])
    · exact h.elim

theorem unS_run {op : UnOp} {a : Value} {K : Value → Prop} (h : unS op a K) : ∃ v, (∀ w, (Op.unary op a).run P w = .ok v w) ∧ K v := by
  unfold unS at h
  split at h
  · exact ⟨_, fun w => rfl, h⟩
  · exact ⟨_, fun w => rfl, h⟩
  · exact ⟨_, fun w => rfl, h⟩
  · exact h.elim

theorem run_eqGuard {op : BinOp} {t : TypeId} {x y : Operand} {a b : Value} {K : Value → Prop} (h : binS P op t a b K) (w : World) : (eqGuard op t x y a b).run P w = .ok () w := by
  unfold binS at h
  unfold eqGuard
  split at h
  · split <;> simp
  · split <;> simp
  · split at h
    · rename_i r hr
      unfold eqNil at hr
      split at hr <;> first | (simp at hr; done) | simp
    · rename_i r hr
      unfold eqNil at hr
      split at hr <;> first | (simp at hr; done) | simp
    · exact h.elim

theorem run_isAgg {t : TypeId} {b : Bool} (h : isAggT P t = some b) (w : World) : (isAgg t).run P w = .ok b w := by
  unfold isAggT at h
  unfold isAgg
  cases hd : und P t with
  | none => rw [hd] at h; simp at h
  | some d => rw [hd] at h; cases d <;> simp at h <;> subst h <;> simp [run_und hd]

theorem partS_run {t : TypeId} {cs : Array Value} {off : Nat} {K : Value → Prop} (h : partS P t cs.toList off K) : ∃ v, (∀ w, (part t cs off).run P w = .ok v w) ∧ K v := by
  unfold partS at h
  split at h
  · rename_i i ha hi
    refine ⟨_, fun w => ?_, h⟩
    simp only [part, Sem.run_bind, run_isAgg ha, Result.andThen_ok, if_true, run_size hi, Sem.run_pure]
    congr 2
    rw [← Array.toList_inj]
    simp [Array.toList_extract, List.extract]
  · rename_i ha
    split at h
    · rename_i v hv
      refine ⟨v, fun w => ?_, h⟩
      have hv' : cs[off]? = some v := by simpa using hv
      simp only [part, Sem.run_bind, run_isAgg ha, Result.andThen_ok, Bool.false_eq_true, if_false, hv', Sem.run_pure]
    · exact h.elim
  · exact h.elim

theorem flatEq_run {xs ys : Array Value} (w : World) (d : Nat) : ∀ {fs : List Field} {r : Bool}, flatEq P fs xs.toList ys.toList = some r → (fs.any fun f => f.name == "_") = false → (Op.eqFields (d + 1) xs ys fs).run P w = .ok r w
  | [], r, h, _ => by simp [flatEq] at h; subst h; simp [Op.eqFields]
  | f :: fs, r, h, hn => by
    simp only [List.any_cons, Bool.or_eq_false_iff] at hn
    have hne : f.name ≠ "_" := by simpa using hn.1
    have go : ∀ (a b : Value) (s r' : Bool), xs.toList[f.offset]? = some a → ys.toList[f.offset]? = some b → isAggT P f.type = some false → (Op.equalIn (d + 1) f.type a b).run P w = .ok s w → flatEq P fs xs.toList ys.toList = some r' → r = (s && r') → (Op.eqFields (d + 1) xs ys (f :: fs)).run P w = .ok r w := by
      intro a b s r' ha hb hag he hr hrr
      have ha' : xs[f.offset]? = some a := by simpa using ha
      have hb' : ys[f.offset]? = some b := by simpa using hb
      have pa : (part f.type xs f.offset).run P w = .ok a w := by simp only [part, Sem.run_bind, run_isAgg hag, Result.andThen_ok, Bool.false_eq_true, if_false, ha', Sem.run_pure]
      have pb : (part f.type ys f.offset).run P w = .ok b w := by simp only [part, Sem.run_bind, run_isAgg hag, Result.andThen_ok, Bool.false_eq_true, if_false, hb', Sem.run_pure]
      have ih := flatEq_run w d hr hn.2
      rw [Op.eqFields, if_pos hne]
      simp only [Sem.run_bind, pa, pb, he, Result.andThen_ok]
      cases s with
      | false => simp [hrr]
      | true => simp [hrr, ih]
    simp only [flatEq] at h
    split at h
    · rename_i k0 k a k' b r' hu ha hb hr
      split at h
      · rename_i hk; subst hk
        refine go _ _ (a == b) r' ha hb (by simp [isAggT, hu]) (run_equalIn_int w d f.type k k0 a b (und_underlying hu)) hr ?_
        simp at h; rw [← h]; by_cases e : a = b <;> simp [e]
      · cases h
    · rename_i a b r' hu ha hb hr
      refine go _ _ (a.toList == b.toList) r' ha hb (by simp [isAggT, hu]) (run_equalIn_string w d f.type a b (und_underlying hu)) hr ?_
      simp at h; rw [← h]
    · rename_i a b r' hu ha hb hr
      refine go _ _ (a == b) r' ha hb (by simp [isAggT, hu]) (run_equalIn_bool' w d f.type a b (und_underlying hu)) hr ?_
      simp at h; rw [← h]; cases a <;> cases b <;> rfl
    · cases h
theorem aggS_run {op : BinOp} {t : TypeId} {xs ys : Array Value} {K : Value → Prop} (h : aggS P op t xs ys K) :
    ∃ v, (∀ w, (binOp op t (.agg xs) (.agg ys)).run P w = .ok v w) ∧ (∀ w x y, (eqGuard op t x y (.agg xs) (.agg ys)).run P w = .ok () w) ∧ K v := by
  unfold aggS at h
  split at h
  · rename_i fs hu
    cases hg : (P.stoodInHeld t || P.eqGuardType P.depth t || fs.toList.any fun f => f.name == "_") with
    | true => rw [hg] at h; exact h.elim
    | false =>
      rw [hg] at h
      simp only [Bool.or_eq_false_iff] at hg
      simp only [cond_false] at h
      split at h
      · rename_i r hr
        have hf : P.fieldsOf t = fs := by simp [Program.fieldsOf, und_underlying hu]
        have he : ∀ w, (Op.equalIn 10000 t (.agg xs) (.agg ys)).run P w = .ok r w := fun w => by
          rw [run_equalIn_struct w 9999 t xs ys (by rw [hf]; exact und_underlying hu) hg.1.1, hf]
          exact flatEq_run w 9998 hr hg.2
        split at h
        · exact ⟨_, fun w => by rw [run_eql_struct, he]; rfl, fun w x y => run_eqGuard_agg w _ t x y xs ys hg.1.2, h⟩
        · exact ⟨_, fun w => by rw [run_neq_struct, he]; rfl, fun w x y => run_eqGuard_agg w _ t x y xs ys hg.1.2, h⟩
        · exact h.elim
      · exact h.elim
  · exact h.elim

end

end Go.Sx
set_option linter.unusedVariables false
set_option linter.unusedSimpArgs false
namespace Go.Sx
section
variable {P : Program} {ρ : Env} {σ : Operand → Value}

theorem cellsL_eq (v : Value) : cellsL v = v.cells.toList := by cases v <;> rfl

theorem setAt_eq (off : Nat) : ∀ (vs cs : List Value), off + vs.length ≤ cs.length →
    (vs.zipIdx.foldl (fun (acc : List Value) (x : Value × Nat) => acc.set (off + x.2) x.1) cs) = setAt off vs cs := by
  suffices H : ∀ (vs : List Value) (k : Nat) (cs : List Value), off + k + vs.length ≤ cs.length →
      ((vs.zipIdx k).foldl (fun (acc : List Value) (x : Value × Nat) => acc.set (off + x.2) x.1) cs) = setAt (off + k) vs cs by
    intro vs cs h; simpa using H vs 0 cs (by simpa using h)
  intro vs
  induction vs with
  | nil => intro k cs h; simp [setAt]
  | cons v vs ih =>
    intro k cs h
    simp only [List.zipIdx_cons, List.foldl_cons, List.length_cons] at h ⊢
    rw [ih (k + 1) _ (by simp; omega)]
    unfold setAt
    apply List.ext_getElem?
    intro i
    simp only [List.append_assoc, List.getElem?_append, List.getElem?_take, List.length_take, List.length_set, List.length_cons, List.getElem?_drop, List.getElem?_set, List.getElem?_cons]
    grind

theorem foldl_set_arr (off : Nat) : ∀ (l : List (Value × Nat)) (cs : Array Value),
    (l.foldl (fun (cs : Array Value) (x : Value × Nat) => cs.setIfInBounds (off + x.2) x.1) cs).toList = l.foldl (fun (acc : List Value) (x : Value × Nat) => acc.set (off + x.2) x.1) cs.toList := by
  intro l
  induction l with
  | nil => intro cs; rfl
  | cons x l ih => intro cs; simp only [List.foldl_cons]; rw [ih]; simp

theorem fill_eq (place : Nat → Option (Nat × Nat)) : ∀ (parts : List (Nat × Value)) (cells : List Value) (out : List Value),
    fillL place cells parts = some out → Instr.fill place cells.toArray parts = some out.toArray
  | [], cells, out, h => by simp [fillL] at h; simp [Instr.fill, h]
  | (i, v) :: rest, cells, out, h => by
    simp only [fillL] at h
    simp only [Instr.fill]
    cases hp : place i with
    | none => simp [hp] at h
    | some q =>
      obtain ⟨off, size⟩ := q
      simp only [hp] at h ⊢
      split at h
      · rename_i h1
        split at h
        · rename_i h2
          have ih := fill_eq place rest _ out h
          have e1 : v.cells.size = size := by rw [← h1, cellsL_eq]; simp
          have e2 : ¬ (off + v.cells.size > cells.toArray.size) := by have := h2; rw [cellsL_eq] at this; simp at this ⊢; omega
          rw [if_neg (by simp only [ne_eq, e1, not_true_eq_false, Bool.or_eq_true, decide_eq_true_eq, false_or]; simpa [e1] using e2)]
          have e3 : (Array.foldl (fun (cs : Array Value) (x : Value × Nat) => cs.setIfInBounds (off + x.2) x.1) cells.toArray v.cells.zipIdx) = (setAt off (cellsL v) cells).toArray := by
            rw [← Array.toList_inj, ← Array.foldl_toList, foldl_set_arr, Array.toList_zipIdx, ← cellsL_eq]
            exact setAt_eq off (cellsL v) cells (by omega)
          rw [← ih]
          congr 1
        · cases h
      · cases h

theorem bndS_run {v : Value} {y : Nat} {K : Nat → Prop} (code : BoundsCode) (h : bndS v y K) : ∃ n, (∀ w, (Instr.sliceBound v y code).run P w = .ok n w) ∧ K n := by
  unfold bndS at h
  split at h
  · rename_i k n
    refine ⟨n.toNat, fun w => ?_, h.2⟩
    simp only [Instr.sliceBound, asIntOf, Sem.run_bind, Sem.run_pure, Result.andThen_ok]
    rw [if_pos h.1]; rfl
  · exact h.elim

theorem boundsS_run {b : Bool} {len cap : Nat} {lo hi mx : Option Value} {K : Nat → Nat → Nat → Prop} (h : boundsS len cap lo hi mx K) :
    ∃ l h' m, (∀ w, (Instr.sliceBounds b len cap lo hi mx).run P w = .ok (l, h', m) w) ∧ K l h' m := by
  unfold boundsS at h
  split at h
  · rename_i hv mv
    obtain ⟨m, hm, h⟩ := bndS_run (P := P) (if b then BoundsCode.slice3Acap else BoundsCode.slice3Alen) h
    obtain ⟨h', hh, h⟩ := bndS_run (P := P) .slice3B h
    cases lo with
    | none => exact ⟨0, h', m, fun w => by simp [Instr.sliceBounds, hm, hh], h⟩
    | some lv =>
      obtain ⟨l, hl, h⟩ := bndS_run (P := P) .slice3C h
      exact ⟨l, h', m, fun w => by simp [Instr.sliceBounds, hm, hh, hl], h⟩
  · rename_i hv
    obtain ⟨h', hh, h⟩ := bndS_run (P := P) (if b then BoundsCode.sliceAcap else BoundsCode.sliceAlen) h
    cases lo with
    | none => exact ⟨0, h', cap, fun w => by simp [Instr.sliceBounds, hh], h⟩
    | some lv =>
      obtain ⟨l, hl, h⟩ := bndS_run (P := P) .sliceB h
      exact ⟨l, h', cap, fun w => by simp [Instr.sliceBounds, hh, hl], h⟩
  · cases lo with
    | none => exact ⟨0, len, cap, fun w => by simp [Instr.sliceBounds], h⟩
    | some lv =>
      obtain ⟨l, hl, h⟩ := bndS_run (P := P) .sliceB h
      exact ⟨l, len, cap, fun w => by simp [Instr.sliceBounds, hl], h⟩
  · exact h.elim

theorem optB_knows (hk : Knows ρ σ) {x : Option Operand} {v : Option Value} (h : optB ρ x = some v) : x.map σ = v := by
  cases x with
  | none => simp [optB] at h; simp [← h]
  | some x =>
    simp only [optB] at h
    cases he : ev ρ x with
    | none => simp [he] at h
    | some u => simp [he] at h; simp [← h, hk x u he]

theorem allEv_knows (hk : Knows ρ σ) : ∀ {l : List (Nat × Operand)} {vs : List (Nat × Value)}, allEv ρ l = some vs → l.map (fun p => (p.1, σ p.2)) = vs
  | [], vs, h => by simp [allEv] at h; simp [h]
  | (i, x) :: l, vs, h => by
    simp only [allEv] at h
    cases h1 : ev ρ x with
    | none => simp [h1] at h
    | some v =>
      cases h2 : allEv ρ l with
      | none => simp [h1, h2] at h
      | some r => simp [h1, h2] at h; subst h; simp [hk x v h1, allEv_knows hk h2]

theorem placesL_run : ∀ {fs : List Field} {pl : List (Nat × Nat)}, placesL P fs = some pl → ∀ w, (fs.mapM (fun f => (do pure (f.offset, ← sizeOf f.type) : Sem (Nat × Nat)))).run P w = .ok pl w
  | [], pl, h, w => by simp [placesL] at h; subst h; simp
  | f :: fs, pl, h, w => by
    simp only [placesL] at h
    cases h1 : inf P f.type with
    | none => simp [h1] at h
    | some i =>
      cases h2 : placesL P fs with
      | none => simp [h1, h2] at h
      | some r =>
        simp [h1, h2] at h; subst h
        have ih := placesL_run h2 w
        simp only [List.mapM_cons, Sem.run_bind, run_size h1, Result.andThen_ok, Sem.run_pure, ih]

theorem buildS_run {t : TypeId} {parts : List (Nat × Value)} {K : Value → Prop} (h : buildS P t parts K) : ∃ v, (∀ w, (Instr.build t parts.toArray).run P w = .ok v w) ∧ K v := by
  unfold buildS at h
  split at h
  · rename_i i fs hi hu
    split at h
    · rename_i z pl hz hpl
      split at h
      · rename_i cs hcs
        refine ⟨_, fun w => ?_, h⟩
        have hz' : (zeroValue t).run P w = .ok z w := by simp [zeroValue, run_inf hi, hz]
        have hm := placesL_run (P := P) hpl w
        have hf := fill_eq _ parts (cellsL z) cs hcs
        rw [cellsL_eq, Array.toArray_toList] at hf
        have hm' : (fs.mapM fun f => (do pure (f.offset, ← sizeOf f.type) : Sem (Nat × Nat))).run P w = .ok pl.toArray w := by
          rw [Array.mapM_eq_mapM_toList]
          simp only [Sem.run_map]
          rw [hm]; rfl
        have hg : (fun (x : Nat) => pl.toArray[x]?) = (fun (j : Nat) => pl[j]?) := by funext j; simp
        simp only [Instr.build, Sem.run_bind, hz', Result.andThen_ok, run_und hu, hm', hg, hf, Sem.run_pure]
      · exact h.elim
    · exact h.elim
  · rename_i i n e hi hu
    split at h
    · rename_i z j hz hj
      split at h
      · rename_i cs hcs
        refine ⟨_, fun w => ?_, h⟩
        have hz' : (zeroValue t).run P w = .ok z w := by simp [zeroValue, run_inf hi, hz]
        have hf := fill_eq _ parts (cellsL z) cs hcs
        rw [cellsL_eq, Array.toArray_toList] at hf
        simp only [Instr.build, Sem.run_bind, hz', Result.andThen_ok, run_und hu, run_size hj, hf, Sem.run_pure]
      · exact h.elim
    · exact h.elim
  · exact h.elim

theorem pureS_gives (hk : Knows ρ σ) {o : Oper} {K : Value → Prop} (h : pureS P ρ o.op K) : Gives P σ o K := by
  obtain ⟨dst, op, type, pos, after, guard⟩ := o
  simp only at h
  cases op <;> simp only [pureS] at h <;> try exact h.elim
  case move x =>
    split at h
    · rename_i v hv; exact ⟨v, fun w => by simp [execOp, hk x v hv], h⟩
    · exact h.elim
  case assign x =>
    split at h
    · rename_i v hv; exact ⟨v, fun w => by simp [execOp, hk x v hv], h⟩
    · exact h.elim
  case pick c a b =>
    split at h
    · rename_i cv hc
      cases cv with
      | true =>
        simp only [cond_true] at h
        split at h
        · rename_i v hv; exact ⟨v, fun w => by simp [execOp, hk c _ hc, hk a v hv, asBool], h⟩
        · exact h.elim
      | false =>
        simp only [cond_false] at h
        split at h
        · rename_i v hv; exact ⟨v, fun w => by simp [execOp, hk c _ hc, hk b v hv, asBool], h⟩
        · exact h.elim
    · exact h.elim
  case build t parts =>
    split at h
    · rename_i ps hps
      obtain ⟨v, hr, hv⟩ := buildS_run h
      refine ⟨v, fun w => ?_, hv⟩
      have e : parts.map (fun p => (p.1, σ p.2)) = ps.toArray := by rw [← Array.toList_inj, Array.toList_map, allEv_knows hk hps]
      simp only [execOp, Sem.run_bind]
      rw [show (parts.map fun (i, x) => (i, σ x)) = ps.toArray from e, hr]; rfl
    · exact h.elim
  case nilCheck x =>
    split at h
    · rename_i p hp
      obtain ⟨a, rfl, hK⟩ := h
      exact ⟨_, fun w => by simp [execOp, hk x _ hp], hK⟩
    · rename_i f first captured hp
      exact ⟨_, fun w => by simp [execOp, hk x _ hp], h⟩
    · exact h.elim
  case binOp op t x y yt =>
    split at h
    · rename_i a b ha hb
      obtain ⟨v, hr, hg, hv⟩ := aggS_run h
      exact ⟨v, fun w => by simp only [execOp, hk x _ ha, hk y _ hb, Sem.run_bind, hg, Result.andThen_ok, hr, Sem.run_pure], hv⟩
    · rename_i a b _ ha hb
      cases hp : (isPtrT (und P t) && !(constO x || constO y)) with
      | true =>
        rw [hp] at h
        obtain ⟨v, hr, hg, hv⟩ := ptrS_run h
        exact ⟨v, fun w => by simp only [execOp, hk x _ ha, hk y _ hb, Sem.run_bind, hg, Result.andThen_ok, hr, Sem.run_pure], hv⟩
      | false =>
        rw [hp] at h
        have h : binS P op t a b K := h
        obtain ⟨v, hr, hv⟩ := binS_run h
        exact ⟨v, fun w => by simp only [execOp, hk x _ ha, hk y _ hb, Sem.run_bind, run_eqGuard h, Result.andThen_ok, hr, Sem.run_pure], hv⟩
    · exact h.elim
  case unOp op t x =>
    split at h
    · rename_i a ha
      obtain ⟨v, hr, hv⟩ := unS_run (P := P) h
      exact ⟨v, fun w => by simp only [execOp, hk x _ ha, Sem.run_bind, Result.andThen_ok, hr, Sem.run_pure], hv⟩
    · exact h.elim
  case convert s d x =>
    split at h
    · rename_i k k' n hd hx
      split at h
      · rename_i ds hs
        refine ⟨_, fun w => ?_, h⟩
        simp only [execOp, hk x _ hx, Sem.run_bind, convert, run_und hs, run_und hd, Result.andThen_ok, Conv.intToInt, Sem.run_pure]
      · exact h.elim
    · rename_i b hd hx
      split at h
      · rename_i ds hs
        refine ⟨_, fun w => ?_, h⟩
        simp only [execOp, hk x _ hx, Sem.run_bind, convert, run_und hs, run_und hd, Result.andThen_ok, Sem.run_pure]
      · exact h.elim
    · exact h.elim
  case makeInterface t x =>
    split at h
    · exact h.elim
    · rename_i d v hn hd hx
      refine ⟨_, fun w => ?_, h⟩
      simp only [execOp, hk x _ hx, Sem.run_bind, Instr.makeInterface, run_und hd, Result.andThen_ok]
      cases d <;> first | rfl | exact absurd rfl (hn _ · )
    · exact h.elim
  case makeFunc fn first captured =>
    split at h
    · rename_i a b ha hb
      refine ⟨_, fun w => ?_, h⟩
      have e1 : first.map σ = a.toArray := by rw [← Array.toList_inj, Array.toList_map, hk.list ha]
      have e2 : captured.map σ = b.toArray := by rw [← Array.toList_inj, Array.toList_map, hk.list hb]
      simp only [execOp, Sem.run_bind, Instr.makeFunc, e1, e2, Sem.run_pure, Result.andThen_ok]
    · exact h.elim
  case slice t x lo hi mx =>
    split at h
    · rename_i s lo' hi' hd hx hlo hhi hmx
      obtain ⟨l, h', m, hr, hK⟩ := boundsS_run (P := P) (b := false) h
      refine ⟨_, fun w => ?_, hK⟩
      have := hr w
      simp only [execOp, hk x _ hx, optB_knows hk hlo, optB_knows hk hhi, optB_knows hk hmx, Sem.run_bind, Instr.sliceAt, Instr.slice, run_und hd, Result.andThen_ok, Option.isSome_none, Bool.false_eq_true, if_false, this, Sem.run_pure]
    · rename_i e A n c lo' hi' mx' hd hx hlo hhi hmx
      split at h
      · rename_i q hq
        obtain ⟨l, h', m, hr, hK⟩ := boundsS_run (P := P) (b := true) h
        refine ⟨_, fun w => ?_, hK⟩
        have := hr w
        simp only [execOp, hk x _ hx, optB_knows hk hlo, optB_knows hk hhi, optB_knows hk hmx, Sem.run_bind, Instr.sliceAt, Instr.slice, run_und hd, Result.andThen_ok, this, run_size hq, Sem.run_pure, cutAt]
      · exact h.elim
    · rename_i n e ad lo' hi' mx' hd hx hlo hhi hmx
      split at h
      · rename_i q hq
        obtain ⟨l, h', m, hr, hK⟩ := boundsS_run (P := P) (b := false) h
        refine ⟨_, fun w => ?_, hK⟩
        have := hr w
        simp only [execOp, hk x _ hx, optB_knows hk hlo, optB_knows hk hhi, optB_knows hk hmx, Sem.run_bind, Instr.sliceAt, Instr.slice, run_und hd, Result.andThen_ok, Instr.sureAddr, this, run_size hq, Sem.run_pure, cutAt]
        split <;> rfl
      · exact h.elim
    · exact h.elim
  case fieldAddr t x f =>
    split at h
    · rename_i fs a hfs hx
      split at h
      · rename_i fd hfd
        split at h
        · rename_i i hi
          split at h
          · exact h.elim
          · rename_i hz
            refine ⟨_, fun w => ?_, h⟩
            unfold fieldsOf at hfs
            split at hfs
            · rename_i fa hu
              simp only [Option.some.injEq] at hfs
              subst hfs
              have hfd' : fa[f]? = some fd := by simpa using hfd
              simp only [execOp, hk x _ hx, Sem.run_bind, Instr.fieldAt, run_und hu, Result.andThen_ok, hfd', Instr.sureAddr, Sem.run_pure, fieldPlace, run_size hi, if_neg hz]
            · cases hfs
        · exact h.elim
      · exact h.elim
    · exact h.elim
  case field t x f =>
    split at h
    · rename_i fs cs hfs hx
      split at h
      · rename_i fd hfd
        unfold fieldsOf at hfs
        split at hfs
        · rename_i fa hu
          simp only [Option.some.injEq] at hfs
          subst hfs
          have hfd' : fa[f]? = some fd := by simpa using hfd
          obtain ⟨v, hr, hv⟩ := partS_run h
          refine ⟨v, fun w => ?_, hv⟩
          simp only [execOp, hk x _ hx, Sem.run_bind, Instr.field, run_und hu, Result.andThen_ok, hfd', asAgg, Sem.run_pure, hr]
        · cases hfs
      · exact h.elim
    · exact h.elim
  case indexAddr t x i =>
    split at h
    · rename_i e A n c k j hd hx hi
      split at h
      · rename_i q hq
        obtain ⟨ad, rfl, hb, hK⟩ := h
        refine ⟨_, fun w => ?_, hK⟩
        simp only [execOp, hk x _ hx, hk i _ hi, Sem.run_bind, Instr.indexAt, asIntOf, Sem.run_pure, Result.andThen_ok, run_und hd, if_pos hb, run_size hq]
      · exact h.elim
    · rename_i n e ad k j hd hx hi
      split at h
      · rename_i q hq
        obtain ⟨hb, hK⟩ := h
        refine ⟨_, fun w => ?_, hK⟩
        simp only [execOp, hk x _ hx, hk i _ hi, Sem.run_bind, Instr.indexAt, asIntOf, Sem.run_pure, Result.andThen_ok, run_und hd, Instr.sureAddr, if_pos hb, run_size hq]
      · exact h.elim
    · exact h.elim
  case index t x i =>
    split at h
    · rename_i n hbig
      unfold idxB at h
      split at h
      · rename_i v k j hx hi
        obtain ⟨l, ⟨rfl, hl⟩, hb, hK⟩ := h
        obtain ⟨e, q, _, hd, he, hq, hq1, _, _⟩ := bigT_of hbig
        refine ⟨_, fun w => ?_, hK⟩
        have hj : j.toNat < l.length := by omega
        have hp : partS P e (l.map Value.bool).toArray.toList (j.toNat * 1) fun v => v = .bool (l.getD j.toNat false) := by
          unfold partS
          have ha : isAggT P e = some false := by unfold isAggT; rw [he]
          rw [ha]
          simp [hj]
        obtain ⟨v, hr, hv⟩ := partS_run hp
        subst hv
        simp only [boolsV, execOp, hk x _ hx, hk i _ hi, Sem.run_bind, Instr.index, asIntOf, Sem.run_pure, Result.andThen_ok, run_und hd, if_pos hb, run_size hq, hq1, hr]
      · exact h.elim
    rename_i hbig
    split at h
    · rename_i s k j hd hx hi
      obtain ⟨b, ⟨h0, hb⟩, hK⟩ := h
      refine ⟨_, fun w => ?_, hK⟩
      simp only [execOp, hk x _ hx, hk i _ hi, Sem.run_bind, Instr.index, asIntOf, Sem.run_pure, Result.andThen_ok, run_und hd, if_pos h0, hb]
    · rename_i n e cs k j hd hx hi
      split at h
      · rename_i q hq
        obtain ⟨hb, hp⟩ := h
        obtain ⟨m, hm, hp⟩ := idxS_at hp
        obtain ⟨v, hr, hv⟩ := partS_run hp
        refine ⟨v, fun w => ?_, hv⟩
        have hjm : j.toNat = m := by omega
        rw [← hjm] at hr
        simp only [execOp, hk x _ hx, hk i _ hi, Sem.run_bind, Instr.index, asIntOf, Sem.run_pure, Result.andThen_ok, run_und hd, if_pos hb, run_size hq, hr]
      · exact h.elim
    · exact h.elim
  case extract x i =>
    split at h
    · rename_i vs hx
      split at h
      · rename_i v hv
        have hv' : vs[i]? = some v := by simpa using hv
        exact ⟨v, fun w => by simp only [execOp, hk x _ hx, Sem.run_bind, Instr.extract, hv', Sem.run_pure, Result.andThen_ok], h⟩
      · exact h.elim
    · exact h.elim
  case call c =>
    obtain ⟨callee, args, argTypes⟩ := c
    simp only at h
    have hargs : ∀ vs, evs ρ args.toList = some vs → args.map σ = vs.toArray := fun vs he => by rw [← Array.toList_inj, Array.toList_map, hk.list he]
    split at h
    · rename_i t ts v vs ht he
      have h0 : argTypes[0]? = some t := by rw [← Array.getElem?_toList, ht]; rfl
      have h1 := hargs _ he
      split at h
      · rename_i s hd
        exact ⟨_, fun w => by simp [execOp, resolve, invoke, builtin, h1, Builtin.len_, h0, run_und hd, goInt], h⟩
      · rename_i e A n c hd
        exact ⟨_, fun w => by simp [execOp, resolve, invoke, builtin, h1, Builtin.len_, h0, run_und hd, goInt], h⟩
      · rename_i n e hd
        exact ⟨_, fun w => by simp [execOp, resolve, invoke, builtin, h1, Builtin.len_, h0, run_und hd, goInt], h⟩
      · rename_i k e hd
        exact ⟨_, fun w => by simp [execOp, resolve, invoke, builtin, h1, Builtin.len_, h0, run_und hd, goInt], h⟩
      · exact h.elim
    · rename_i k x k' y he
      split at h
      · rename_i hkk; subst hkk
        exact ⟨_, fun w => by simp [execOp, resolve, invoke, builtin, hargs _ he, Builtin.min_, Builtin.min2], h⟩
      · exact h.elim
    · rename_i k x k' y he
      split at h
      · rename_i hkk; subst hkk
        exact ⟨_, fun w => by simp [execOp, resolve, invoke, builtin, hargs _ he, Builtin.max_, Builtin.max2], h⟩
      · exact h.elim
    · rename_i k x k' y k'' z he
      split at h
      · rename_i hkk; subst hkk
        split at h
        · rename_i hkk; subst hkk
          exact ⟨_, fun w => by simp [execOp, resolve, invoke, builtin, hargs _ he, Builtin.min_, Builtin.min2], h⟩
        · exact h.elim
      · exact h.elim
    · rename_i k x k' y k'' z he
      split at h
      · rename_i hkk; subst hkk
        split at h
        · rename_i hkk; subst hkk
          exact ⟨_, fun w => by simp [execOp, resolve, invoke, builtin, hargs _ he, Builtin.max_, Builtin.max2], h⟩
        · exact h.elim
      · exact h.elim
    · rename_i t ts v vs ht he
      have h0 : argTypes[0]? = some t := by rw [← Array.getElem?_toList, ht]; rfl
      have h1 := hargs _ he
      split at h
      · rename_i e A n c hd
        exact ⟨_, fun w => by simp [execOp, resolve, invoke, builtin, h1, Builtin.cap_, h0, run_und hd, goInt], h⟩
      · exact h.elim
    · exact h.elim
end
end Go.Sx
set_option linter.unusedVariables false
set_option linter.unusedSimpArgs false
namespace Go.Sx

def exT (t : Ty) (p : Value → Prop) : Prop := exA t.ats fun l => match t.inj l with | some (v, _) => p v | none => False
def exTs : List Ty → (List Value → Prop) → Prop
  | [], p => p []
  | t :: ts, p => exT t fun v => exTs ts fun vs => p (v :: vs)
theorem exT_elim {t : Ty} {p : Value → Prop} (h : exT t p) : ∃ v, p v := by
  obtain ⟨l, _, h⟩ := exA_elim h
  split at h
  · exact ⟨_, h⟩
  · exact h.elim
theorem exTs_elim : ∀ {ts : List Ty} {p : List Value → Prop}, exTs ts p → ∃ v, p v
  | [], p, h => ⟨[], h⟩
  | t :: ts, p, h => let ⟨v, h⟩ := exT_elim h; let ⟨vs, h⟩ := exTs_elim h; ⟨_, h⟩
def tysOf (P : Program) : List TypeId → Option (List Ty)
  | [] => some []
  | t :: ts => match tyOf P t, tysOf P ts with | some a, some b => some (a :: b) | _, _ => none
def exRes (P : Program) (t : TypeId) (p : Value → Prop) : Prop :=
  match und P t with
  | some (.tuple ts) => (match tysOf P ts.toList with | some tys => exTs tys fun vs => p (.tuple vs.toArray) | none => False)
  | _ => (match tyOf P t with | some ty => exT ty p | none => ∃ v, p v)
theorem exRes_elim {P : Program} {t : TypeId} {p : Value → Prop} (h : exRes P t p) : ∃ v, p v := by
  unfold exRes at h
  split at h
  · split at h
    · obtain ⟨vs, h⟩ := exTs_elim h; exact ⟨_, h⟩
    · exact h.elim
  · split at h
    · exact exT_elim h
    · exact h
def retS (P : Program) (ts : List TypeId) (v : Value) (k : Value → Prop) : Prop :=
  match ts with
  | [] => v = .tuple #[] ∧ k (.tuple #[])
  | [t] => (match tyOf P t with | some ty => exT ty fun u => v = u ∧ k u | none => k v)
  | ts => (match tysOf P ts with | some tys => exTs tys fun us => v = .tuple us.toArray ∧ k (.tuple us.toArray) | none => False)
theorem retS_elim {P : Program} {ts : List TypeId} {v : Value} {k : Value → Prop} (h : retS P ts v k) : k v := by
  unfold retS at h
  split at h
  · obtain ⟨rfl, h⟩ := h; exact h
  · split at h
    · obtain ⟨u, rfl, h⟩ := exT_elim h; exact h
    · exact h
  · split at h
    · obtain ⟨u, h1, h2⟩ := exTs_elim h; subst h1; exact h2
    · exact h.elim

def readCells (C : Addr → Value → Prop) (a : Addr) : Nat → List CT → (List Value → Prop) → Prop
  | _, [], K => K []
  | i, c :: cs, K => exA c.ats fun l => match c.inj l with | some (v, _) => C (a.add i) v ∧ readCells C a (i + 1) cs (fun vs => K (v :: vs)) | none => False
def allC (C : Addr → Value → Prop) (a : Addr) (l : List Bool) : Prop := ∀ j b, l[j]? = some b → C (a.add j) (.bool b)
def readT (P : Program) (t : TypeId) (C : Addr → Value → Prop) (a : Addr) (K : Value → Prop) : Prop :=
  match bigT P t with
  | some n => ∃ l : List Bool, l.length = n ∧ allC C a l ∧ K (boolsV l)
  | none => match tyOf P t, isAggT P t, inf P t with
  | some (.one c), some false, _ => exA c.ats fun l => match c.inj l with | some (v, _) => C a v ∧ K v | none => False
  | some (.agg cs), some true, some i => if i.size = cs.length then readCells C a 0 cs fun vs => K (.agg vs.toArray) else False
  | _, _, _ => False
theorem readCells_elim {C : Addr → Value → Prop} {a : Addr} : ∀ {cs : List CT} {i : Nat} {K : List Value → Prop}, readCells C a i cs K →
    ∃ vs, vs.length = cs.length ∧ (∀ j v, vs[j]? = some v → C (a.add (i + j)) v) ∧ K vs
  | [], i, K, h => ⟨[], rfl, by simp, h⟩
  | c :: cs, i, K, h => by
    obtain ⟨l, _, h⟩ := exA_elim h
    split at h
    · rename_i v _ _
      obtain ⟨hc, h⟩ := h
      obtain ⟨vs, hl, hv, hK⟩ := readCells_elim h
      refine ⟨v :: vs, by simp [hl], fun j u hu => ?_, hK⟩
      cases j with
      | zero => simp at hu; subst hu; simpa using hc
      | succ j => simp at hu; have := hv j u hu; rwa [show i + (j + 1) = i + 1 + j by omega]
    · exact h.elim
theorem readT_elim {P : Program} {t : TypeId} {C : Addr → Value → Prop} {a : Addr} {K : Value → Prop} (h : readT P t C a K) :
    ∃ v, (∀ w, (∀ ad u, C ad u → w.cell? ad = some u) → (loadVar t a).run P w = .ok v w) ∧ K v := by
  unfold readT at h
  split at h
  · rename_i n hbig
    obtain ⟨l, hl, hc, hK⟩ := h
    obtain ⟨e, _, i, hd, _, _, _, hi, hn⟩ := bigT_of hbig
    refine ⟨_, fun w hw => ?_, hK⟩
    have hag : isAggT P t = some true := by unfold isAggT; rw [hd]
    have hr := run_loadCells_list (P := P) (w := w) a (l.map Value.bool) (fun j v hj => by
      rw [List.getElem?_map] at hj
      cases hb : l[j]? with
      | none => rw [hb] at hj; cases hj
      | some b => rw [hb] at hj; cases hj; exact hw _ _ (hc j b hb))
    rw [List.length_map, hl] at hr
    simp only [boolsV, loadVar, Sem.run_bind, run_isAgg hag, Result.andThen_ok, if_true, run_size hi, hn, hr, Sem.run_pure]
  rename_i hbig
  split at h
  · rename_i c hty hag
    obtain ⟨l, _, h⟩ := exA_elim h
    split at h
    · rename_i v _ _
      refine ⟨v, fun w hw => ?_, h.2⟩
      have := hw _ _ h.1
      simp [loadVar, run_isAgg hag, this]
    · exact h.elim
  · rename_i cs i hty hag hi
    split at h
    · rename_i hsz
      obtain ⟨vs, hl, hv, hK⟩ := readCells_elim h
      refine ⟨_, fun w hw => ?_, hK⟩
      have hr := run_loadCells_list (P := P) (w := w) a vs (fun j v hj => by have := hv j v hj; rw [Nat.zero_add] at this; exact hw _ _ this)
      simp only [loadVar, Sem.run_bind, run_isAgg hag, Result.andThen_ok, if_true, run_size hi, hsz, ← hl, hr, Sem.run_pure]
    · exact h.elim
  · exact h.elim

def storeS (a : Addr) : Nat → List Value → World → (World → Prop) → Prop
  | _, [], w, K => K w
  | i, v :: vs, w, K => cond v.oneCell' (((w.cell? (a.add i)).isSome = true ∧ w.frozen? (a.add i) = false) ∧ storeS a (i + 1) vs (w.setCell (a.add i) v) K) False
theorem storeS_run {P : Program} {a : Addr} : ∀ {vs : List Value} {i : Nat} {w : World} {K : World → Prop}, storeS a i vs w K → ∃ w', (storeCells a vs i).run P w = .ok () w' ∧ K w'
  | [], i, w, K, h => ⟨w, rfl, h⟩
  | v :: vs, i, w, K, h => by
    unfold storeS at h
    cases hv : v.oneCell' with
    | false => rw [hv] at h; exact h.elim
    | true =>
      rw [hv] at h
      obtain ⟨⟨hs, hf⟩, h⟩ := h
      obtain ⟨w', hr, hK⟩ := storeS_run (P := P) h
      obtain ⟨old, ho⟩ := Option.isSome_iff_exists.1 hs
      refine ⟨w', ?_, hK⟩
      simp only [storeCells, Sem.run_bind, run_store _ _ _ _ _ hv, ho, hf, Bool.false_eq_true, if_false, Result.andThen_ok, hr]

def runV (P : Program) (t : TypeId) (s : Sem Value) (w : World) (K : Value → World → Prop) : Prop :=
  exRes P t fun v => ∃ w', RunsTo P s w v w' ∧ K v w'
def runU (P : Program) (s : Sem Unit) (w : World) (K : Value → World → Prop) : Prop := ∃ w', RunsTo P s w () w' ∧ K undef w'
def callS (P : Program) (fid : FuncId) (args : List Value) (w : World) (K : Value → World → Prop) : Prop :=
  match P.funcs.toList[fid]? with
  | some fn => (match fn.body with
    | some _ => CallsV P fid args.toArray w fun v w' => retS P fn.resultTypes.toList v fun u => K u w'
    | none => (match fn.resultTypes.toList with
      | [t] => exRes P t fun v => ∃ w', RunsTo P (callFunc fid args.toArray) w (Next.value v) w' ∧ K v w'
      | [] => ∃ w', RunsTo P (callFunc fid args.toArray) w (Next.value (.tuple #[])) w' ∧ K (.tuple #[]) w'
      | _ => False))
  | none => False
def bodied (P : Program) (fid : FuncId) : Bool := match P.funcs.toList[fid]? with | some fn => fn.body.isSome | none => false
def callU (P : Program) (v : Value) (as : List Value) (t : TypeId) (w : World) (K : Value → World → Prop) : Prop :=
  ∃ (fid : FuncId) (first captured : Array Value), v = .func (.func fid) first captured ∧ bodied P fid = true ∧
    CallsV P fid (first.toList ++ (as ++ captured.toList)).toArray w fun r w' => retS P (match und P t with | some (.tuple ts) => ts.toList | _ => [t]) r fun u => K u w'
def zerosL (z : List Value) : Nat → List Value
  | 0 => []
  | n + 1 => z ++ zerosL z n

def isSlc : Option TypeDesc → Bool | some (.slice _) => true | _ => false
def isUns : Option TypeDesc → Bool | some .unsafePointer => true | _ => false
def isStr : Option TypeDesc → Bool | some .string => true | _ => false
def isMapT : Option TypeDesc → Bool | some (.map _ _) => true | _ => false
def effB (P : Program) (b : Builtin) (argTypes : List TypeId) : Bool :=
  match b with
  | .append | .copy | .delete | .clear | .unsafeString | .unsafeSliceData | .unsafeStringData | .unsafeSlice => true
  | .len => (match argTypes with | t :: _ => isMapT (und P t) | [] => false)
  | _ => false

def opS (P : Program) (ρ : Env) (o : Oper) (w : World) (K : Value → World → Prop) : Prop :=
  match o.op with
  | .load t x => (match ev ρ x with | some (.pointer (some a)) => readT P t (fun ad v => w.cell? ad = some v) a fun v => K v w | _ => False)
  | .store t x y => (match ev ρ x, ev ρ y, inf P t with
    | some (.pointer (some a)), some v, some i => if (cellsL v).length = i.size then storeS a 0 (cellsL v) w fun w' => K undef w' else False
    | _, _, _ => False)
  | .alloc t => (match inf P t with
    | some i => (match i.zero with | some z => K (.pointer (some ⟨w.heap.size, 0, none⟩)) (w.alloc (.cells (cellsL z).toArray t)) | none => False)
    | none => False)
  | .box t x => (match ev ρ x with | some v => K (.pointer (some ⟨w.heap.size, 0, none⟩)) (w.alloc (.cells (cellsL v).toArray t)) | none => False)
  | .buildSlice t len parts => (match und P t, allEv ρ parts.toList with
    | some (.slice e), some ps => (match inf P e with
      | some i => (match i.zero with
        | some z => if (cellsL z).length = i.size then if len * i.size ≤ 16777216 then
            (match fillL (fun q => some (q * i.size, i.size)) (zerosL (cellsL z) len) ps with
            | some cs => K (.slice (some ⟨w.heap.size, 0, none⟩) len len) (w.alloc (.cells cs.toArray e))
            | none => False) else False else False
        | none => False)
      | none => False)
    | _, _ => False)
  | .convert s d x => (if isSlc (und P s) || isSlc (und P d) || isUns (und P s) || isUns (und P d)
      then (match ev ρ x with | some v => runV P d (convert s d v) w K | none => False)
      else pureS P ρ o.op fun v => K v w)
  | .makeSlice t l c => (match ev ρ l, ev ρ c with | some a, some b => runV P t (Instr.makeSlice t a b) w K | _, _ => False)
  | .makeMap t r => (match optB ρ r with | some r => runV P t (Instr.makeMap t r) w K | none => False)
  | .lookup t x i ok => (match ev ρ x, ev ρ i with | some a, some b => runV P o.type (Instr.lookup t a b ok) w K | _, _ => False)
  | .mapUpdate t m k x => (match ev ρ m, ev ρ k, ev ρ x with | some a, some b, some c => runU P (Instr.mapUpdate t a b c) w K | _, _, _ => False)
  | .insert t m k x => (match ev ρ m, ev ρ k, ev ρ x with | some a, some b, some c => runU P (Instr.mapUpdate t a b c) w K | _, _, _ => False)
  | .call c => (match c.callee with
    | .value f => (match ev ρ f, evs ρ c.args.toList with
      | some (.func (.func fid) first captured), some as => callS P fid (first.toList ++ (as ++ captured.toList)) w K
      | _, _ => False)
    | .builtin b => (if effB P b c.argTypes.toList
      then (match evs ρ c.args.toList, b with
        | some as, .append => runV P o.type (Builtin.append_ c.argTypes o.type as.toArray) w K
        | some as, .copy => runV P o.type (Builtin.copy_ c.argTypes o.type as.toArray) w K
        | some as, .delete => runV P o.type (Builtin.delete_ c.argTypes o.type as.toArray) w K
        | some as, .len => runV P o.type (Builtin.len_ c.argTypes o.type as.toArray) w K
        | some as, .unsafeString => runV P o.type (Builtin.unsafeString_ c.argTypes o.type as.toArray) w K
        | some as, .unsafeSliceData => runV P o.type (Builtin.unsafeSliceData_ c.argTypes o.type as.toArray) w K
        | some as, .clear => ∃ w', RunsTo P (Builtin.clear_ c.argTypes o.type as.toArray) w (.tuple #[]) w' ∧ K (.tuple #[]) w'
        | _, _ => False)
      else pureS P ρ o.op fun v => K v w)
    | .invoke _ _ => False)
  | _ => pureS P ρ o.op fun v => K v w

/-! ## the same, each new block and each new world by a name of its own -/
structure Fresh (w : World) (g : Nat) (w' : World) (cs : List Value) (e : TypeId) : Prop where
  hg : g = w.heap.size
  hw : w' = w.alloc (.cells cs.toArray e)
def stOK (a : Addr) : Nat → List Value → World → Prop
  | _, [], _ => True
  | i, [_], w => (w.cell? (a.add i)).isSome = true ∧ w.frozen? (a.add i) = false
  | i, _ :: vs, w => ((w.cell? (a.add i)).isSome = true ∧ w.frozen? (a.add i) = false) ∧ stOK a (i + 1) vs w
def setAll (a : Addr) : Nat → List Value → World → World
  | _, [], w => w
  | i, v :: vs, w => setAll a (i + 1) vs (w.setCell (a.add i) v)
def allOne : List Value → Bool
  | [] => true
  | v :: vs => bif v.oneCell' then allOne vs else false
theorem setCell_some (w : World) (a b : Addr) (v : Value) (h : (w.cell? b).isSome = true) : ((w.setCell a v).cell? b).isSome = true := by
  by_cases e : b = a
  · subst e; rw [World.cell?_setCell_same' w b v h]; rfl
  · rw [World.cell?_setCell_other]
    · exact h
    · first | exact e | exact fun h => e h.symm
theorem setCell_frozen (w : World) (a b : Addr) (v : Value) : (w.setCell a v).frozen? b = w.frozen? b := World.frozen?_setCell _ _ _ _
theorem stOK_mono {a : Addr} : ∀ {vs : List Value} {i : Nat} {w w' : World}, (∀ b, (w.cell? b).isSome = true → (w'.cell? b).isSome = true) → (∀ b, w'.frozen? b = w.frozen? b) → stOK a i vs w → stOK a i vs w'
  | [], _, _, _, _, _, _ => trivial
  | [_], _, _, _, h1, h2, h => ⟨h1 _ h.1, (h2 _).trans h.2⟩
  | _ :: x :: vs, _, _, _, h1, h2, h => ⟨⟨h1 _ h.1.1, (h2 _).trans h.1.2⟩, stOK_mono h1 h2 h.2⟩
theorem storeS_of {a : Addr} : ∀ {vs : List Value} {i : Nat} {w : World} {K : World → Prop}, allOne vs = true → stOK a i vs w → K (setAll a i vs w) → storeS a i vs w K
  | [], _, _, _, _, _, hk => hk
  | [v], i, w, K, h1, h, hk => by
    have hv : v.oneCell' = true := by cases hv : v.oneCell' with | true => rfl | false => simp [allOne, hv] at h1
    unfold storeS; rw [hv]; exact ⟨h, hk⟩
  | v :: x :: vs, i, w, K, h1, h, hk => by
    have hv : v.oneCell' = true := by cases hv : v.oneCell' with | true => rfl | false => simp [allOne, hv] at h1
    have h1' : allOne (x :: vs) = true := by unfold allOne at h1; rw [hv] at h1; exact h1
    unfold storeS; rw [hv]
    exact ⟨h.1, storeS_of h1' (stOK_mono (fun b hb => setCell_some w _ b v hb) (fun b => setCell_frozen w _ b v) h.2) hk⟩
def withL : List Value → (List Value → Prop) → Prop
  | [], k => k []
  | v :: r, k => withL r fun r' => k (v :: r')
theorem withL_iff : ∀ {l : List Value} {k : List Value → Prop}, withL l k → k l
  | [], _, h => h
  | v :: r, k, h => withL_iff (l := r) (k := fun r' => k (v :: r')) h
def zeroB : Nat → List Value → Bool
  | 0, [] => true
  | n + 1, .bool false :: r => zeroB n r
  | _, _ => false
theorem zeroB_of : ∀ {n : Nat} {l : List Value}, zeroB n l = true → l = (List.replicate n false).map Value.bool
  | 0, [], _ => rfl
  | n + 1, .bool false :: r, h => by rw [zeroB_of (n := n) (l := r) h]; rfl
def boxB (n : Nat) (t : TypeId) (x : Option Value) (w : World) (K : Value → World → Prop) : Prop :=
  match x with
  | some v => ∃ l : List Bool, (v = boolsV l ∧ l.length = n) ∧ ∀ g w', Fresh w g w' (l.map Value.bool) t → K (.pointer (some ⟨g, 0, none⟩)) w'
  | none => False
def storeB (n : Nat) (x y : Option Value) (w : World) (K : Value → World → Prop) : Prop :=
  match x, y with
  | some (.pointer (some a)), some v => ∃ l : List Bool, (v = boolsV l ∧ l.length = n) ∧ stOK a 0 (l.map Value.bool) w ∧ ∀ w', w' = setAll a 0 (l.map Value.bool) w → K undef w'
  | _, _ => False
theorem cellsL_bools (l : List Bool) : cellsL (boolsV l) = l.map Value.bool := by simp [boolsV, cellsL]
theorem allOne_bools : ∀ l : List Bool, allOne (l.map Value.bool) = true
  | [] => rfl
  | _ :: l => allOne_bools l
def opN (P : Program) (ρ : Env) (o : Oper) (w : World) (K : Value → World → Prop) : Prop :=
  match o.op with
  | .store t x y => (match bigT P t with
    | some n => storeB n (ev ρ x) (ev ρ y) w K
    | none => (match ev ρ x, ev ρ y, inf P t with
    | some (.pointer (some a)), some v, some i => if (cellsL v).length = i.size then withL (cellsL v) fun cs => cond (allOne cs) (stOK a 0 cs w ∧ ∀ w', w' = setAll a 0 cs w → K undef w') False else False
    | _, _, _ => False))
  | .alloc t => (match bigT P t with
    | some n => (match inf P t with
      | some i => (match i.zero with | some z => cond (zeroB n (cellsL z)) (∀ g w', Fresh w g w' ((List.replicate n false).map Value.bool) t → K (.pointer (some ⟨g, 0, none⟩)) w') False | none => False)
      | none => False)
    | none => (match inf P t with
    | some i => (match i.zero with | some z => withL (cellsL z) fun cs => ∀ g w', Fresh w g w' cs t → K (.pointer (some ⟨g, 0, none⟩)) w' | none => False)
    | none => False))
  | .box t x => (match bigT P t with
    | some n => boxB n t (ev ρ x) w K
    | none => (match ev ρ x with | some v => withL (cellsL v) fun cs => ∀ g w', Fresh w g w' cs t → K (.pointer (some ⟨g, 0, none⟩)) w' | none => False))
  | .buildSlice t len parts => (match und P t, allEv ρ parts.toList with
    | some (.slice e), some ps => (match inf P e with
      | some i => (match i.zero with
        | some z => if (cellsL z).length = i.size then if len * i.size ≤ 16777216 then
            (match fillL (fun q => some (q * i.size, i.size)) (zerosL (cellsL z) len) ps with
            | some cs => withL cs fun cs => ∀ g w', Fresh w g w' cs e → K (.slice (some ⟨g, 0, none⟩) len len) w'
            | none => False) else False else False
        | none => False)
      | none => False)
    | _, _ => False)
  | _ => opS P ρ o w K
theorem opN_opS {P : Program} {ρ : Env} {o : Oper} {w : World} {K : Value → World → Prop} (h : opN P ρ o w K) : opS P ρ o w K := by
  unfold opN at h
  split at h
  · rename_i t x y ho
    unfold opS; rw [ho]; dsimp only
    split at h
    · rename_i n hbig
      obtain ⟨e, _, i, hd, _, _, _, hi, hn⟩ := bigT_of hbig
      unfold storeB at h
      split at h
      · rename_i a v hx hy
        obtain ⟨l, ⟨rfl, hl⟩, h1, h2⟩ := h
        rw [hx, hy, hi]
        dsimp only
        rw [cellsL_bools, if_pos (by rw [List.length_map, hl, hn])]
        exact storeS_of (allOne_bools l) h1 (h2 _ rfl)
      · exact h.elim
    split at h
    · split at h
      · rename_i hl
        rw [if_pos hl]
        have h := withL_iff h
        cases hc : allOne (cellsL _) with
        | false => rw [hc] at h; exact h.elim
        | true =>
          rw [hc] at h
          exact storeS_of hc h.1 (h.2 _ rfl)
      · exact h.elim
    · exact h.elim
  · rename_i t ho
    unfold opS; rw [ho]; dsimp only
    split at h
    · rename_i n hbig
      split at h
      · rename_i i hi
        split at h
        · rename_i z hz
          cases hc : zeroB n (cellsL z) with
          | false => rw [hc] at h; exact h.elim
          | true =>
            rw [hc] at h
            rw [zeroB_of hc]
            exact h _ _ ⟨rfl, rfl⟩
        · exact h.elim
      · exact h.elim
    split at h
    · split at h
      · exact withL_iff h _ _ ⟨rfl, rfl⟩
      · exact h.elim
    · exact h.elim
  · rename_i t x ho
    unfold opS; rw [ho]; dsimp only
    split at h
    · rename_i n hbig
      unfold boxB at h
      split at h
      · rename_i v hx
        obtain ⟨l, ⟨rfl, hl⟩, h⟩ := h
        rw [cellsL_bools]
        exact h _ _ ⟨rfl, rfl⟩
      · exact h.elim
    split at h
    · exact withL_iff h _ _ ⟨rfl, rfl⟩
    · exact h.elim
  · rename_i t len parts ho
    unfold opS; rw [ho]; dsimp only
    split at h
    · split at h
      · split at h
        · split at h
          · rename_i hl
            rw [if_pos hl]
            split at h
            · rename_i hm
              rw [if_pos hm]
              split at h
              · exact withL_iff h _ _ ⟨rfl, rfl⟩
              · exact h.elim
            · exact h.elim
          · exact h.elim
        · exact h.elim
      · exact h.elim
    · exact h.elim
  · exact h
inductive Md where | old | named | wild
def isFnT : Option TypeDesc → Bool | some (.func _ _ _) => true | some (.interface _) => true | _ => false
def boxU (v : Value) (t : TypeId) (w : World) (K : Value → World → Prop) : Prop :=
  cellsL v = [v] ∧ ∀ g w', Fresh w g w' [v] t → K (.pointer (some ⟨g, 0, none⟩)) w'
def storeU (a : Addr) (v : Value) (w : World) (K : World → Prop) : Prop :=
  cellsL v = [v] ∧ v.oneCell' = true ∧ stOK a 0 [v] w ∧ ∀ w', w' = setAll a 0 [v] w → K w'
def opU (P : Program) (ρ : Env) (o : Oper) (w : World) (K : Value → World → Prop) : Prop :=
  match o.op with
  | .box t x => cond (isFnT (und P t)) (match ev ρ x with | some v => boxU v t w K | none => False) (opN P ρ o w K)
  | .store t x y => cond (isFnT (und P t)) (match ev ρ x, ev ρ y, inf P t with
    | some (.pointer (some a)), some v, some i => cond (Nat.beq i.size 1) (storeU a v w fun w' => K undef w') False
    | _, _, _ => False) (opN P ρ o w K)
  | .call c => (match c.callee with
    | .value (.tmp t) => (match ev ρ (.tmp t), evs ρ c.args.toList with
      | some v, some as => callU P v as o.type w K
      | _, _ => False)
    | _ => opN P ρ o w K)
  | _ => opN P ρ o w K
def opX (m : Md) (P : Program) (ρ : Env) (o : Oper) (w : World) (K : Value → World → Prop) : Prop := match m with | .named => opN P ρ o w K | .old => opS P ρ o w K | .wild => opU P ρ o w K

structure Okay (P : Program) : Prop where
  mixed : P.follows .mixedOrders = true
  names : (P.funcs.toList.all fun fn => !(fn.name == "runtime.NumGoroutine")) = true

section
variable {P : Program} {ρ : Env} {σ : Operand → Value}

theorem zerosL_length (z : List Value) (n : Nat) : (zerosL z n).length = n * z.length := by
  induction n with
  | zero => simp [zerosL]
  | succ n ih => simp [zerosL, ih, Nat.add_mul]; omega
theorem zerosL_get (z : List Value) : ∀ (n i : Nat), i < n * z.length → (zerosL z n)[i]? = z[i % z.length]?
  | 0, i, h => by simp at h
  | n + 1, i, h => by
    rw [zerosL]
    rcases Nat.lt_or_ge i z.length with hi | hi
    · rw [List.getElem?_append_left hi, Nat.mod_eq_of_lt hi]
    · rw [List.getElem?_append_right hi, zerosL_get z n _ (by rw [Nat.add_mul] at h; omega)]
      congr 1
      rw [Nat.mod_eq_sub_mod hi]
theorem zeros_eq (z : Array Value) (size n : Nat) (hz : z.toList.length = size) :
    ((Array.range (n * size)).map (z[· % z.size]!)).toList = zerosL z.toList n := by
  apply List.ext_getElem?
  intro i
  have hs : z.size = size := by simpa using hz
  simp only [Array.toList_map, Array.toList_range, List.getElem?_map]
  rcases Nat.lt_or_ge i (n * size) with h | h
  · rw [List.getElem?_range h, zerosL_get z.toList n i (by rw [hz]; exact h), hz]
    have hpos : 0 < size := by
      rcases Nat.eq_zero_or_pos size with h0 | h0
      · subst h0; simp at h
      · exact h0
    have hlt : i % size < z.size := by rw [hs]; exact Nat.mod_lt _ hpos
    have e : z[i % size]? = some z[i % size] := Array.getElem?_eq_getElem hlt
    simp only [hs, Array.getElem?_toList, e, Option.map_some]
    rw [getElem!_pos z _ hlt]
  · rw [List.getElem?_eq_none (by simpa using h), List.getElem?_eq_none (by rw [zerosL_length, hz]; exact h)]
    rfl

theorem runV_does {t : TypeId} {s : Sem Value} {w : World} {K : Value → World → Prop} {o : Oper} (h : runV P t s w K)
    (he : ∀ v w', s.run P w = .ok v w' → (execOp σ o).run P w = .ok (.value v) w') : Does P σ o w K := by
  obtain ⟨v, w', hr, hK⟩ := exRes_elim h
  exact .inl ⟨v, w', he v w' hr, hK⟩
theorem runU_does {s : Sem Unit} {w : World} {K : Value → World → Prop} {o : Oper} (h : runU P s w K)
    (he : ∀ w', s.run P w = .ok () w' → (execOp σ o).run P w = .ok .skip w') : Does P σ o w K := by
  obtain ⟨w', hr, hK⟩ := h
  exact .inr (.inl ⟨w', he w' hr, hK⟩)

theorem opS_does (ok : Okay P) (hk : Knows ρ σ) {o : Oper} {w : World} {K : Value → World → Prop} (h : opS P ρ o w K) : Does P σ o w K := by
  have hp : pureS P ρ o.op (fun v => K v w) → Does P σ o w K := fun h => (pureS_gives hk h).does
  obtain ⟨dst, op, type, pos, after, guard⟩ := o
  unfold opS at h
  simp only at h
  split at h
  · -- load
    rename_i t x
    split at h
    · rename_i a ha
      obtain ⟨v, hr, hK⟩ := readT_elim h
      refine .inl ⟨v, w, ?_, hK⟩
      have := hr w (fun _ _ h => h)
      simp only [execOp, hk x _ ha, Sem.run_bind, Instr.loadAt, Instr.sureAddr, Sem.run_pure, Result.andThen_ok, this]
    · exact h.elim
  · -- store
    rename_i t x y
    split at h
    · rename_i a v i ha hv hi
      split at h
      · rename_i hsz
        obtain ⟨w', hr, hK⟩ := storeS_run (P := P) h
        refine .inr (.inl ⟨w', ?_, hK⟩)
        have e : v.cells.size = i.size := by rw [← hsz, cellsL_eq]; simp
        rw [cellsL_eq] at hr
        simp only [execOp, hk x _ ha, hk y _ hv, Sem.run_bind, Instr.storeAt, Instr.sureAddr, Sem.run_pure, Result.andThen_ok, storeVar, run_size hi, e, ne_eq, not_true_eq_false, if_false, hr]
      · exact h.elim
    · exact h.elim
  · -- alloc
    rename_i t
    split at h
    · rename_i i hi
      split at h
      · rename_i z hz
        refine .inl ⟨_, _, ?_, h⟩
        simp only [execOp, Sem.run_bind, Instr.alloc, zeroValue, run_inf hi, Result.andThen_ok, hz, Sem.run_pure, newVar, newRow, run_newObj, World.alloc, cellsL_eq, Array.toArray_toList]
      · exact h.elim
    · exact h.elim
  · -- box
    rename_i t x
    split at h
    · rename_i v hv
      refine .inl ⟨_, _, ?_, h⟩
      simp only [execOp, hk x _ hv, Sem.run_bind, Instr.box, newVar, newRow, run_newObj, Result.andThen_ok, Sem.run_pure, World.alloc, cellsL_eq, Array.toArray_toList]
    · exact h.elim
  · -- buildSlice
    rename_i t len parts
    split at h
    · rename_i e ps hd hps
      split at h
      · rename_i i hi
        split at h
        · rename_i z hz
          split at h
          · rename_i hzl
            split at h
            · rename_i hsm
              split at h
              · rename_i cs hcs
                refine .inl ⟨_, _, ?_, h⟩
                have ep : (parts.map fun (i, x) => (i, σ x)) = ps.toArray := by
                  rw [← Array.toList_inj, Array.toList_map]; exact allEv_knows hk hps
                have hf := fill_eq _ ps _ cs hcs
                have hzc : z.cells.toList.length = i.size := by rw [← cellsL_eq]; exact hzl
                have hsm' : ¬ len * i.size > 2 ^ 24 := by omega
                have key : ∀ zz : Array Value, (len * i.size = 0 → zz = #[]) → (len * i.size ≠ 0 → zz = z.cells) →
                    ((Array.range (len * i.size)).map (zz[· % zz.size]!)) = (zerosL (cellsL z) len).toArray := by
                  intro zz h0 h1
                  by_cases hz0 : len * i.size = 0
                  · rw [hz0]
                    have hnil : zerosL (cellsL z) len = [] := List.eq_nil_of_length_eq_zero (by rw [zerosL_length, hzl]; exact hz0)
                    simp [hnil]
                  · rw [h1 hz0, ← Array.toList_inj, zeros_eq z.cells i.size len hzc, cellsL_eq]
                simp only [execOp, Sem.run_bind, Instr.buildSlice, run_und hd, Result.andThen_ok, run_size hi, if_neg hsm', ep]
                by_cases hz0 : len * i.size = 0
                · rw [if_pos hz0]
                  simp only [Sem.run_bind, Sem.run_pure, Result.andThen_ok]
                  rw [key #[] (fun _ => rfl) (fun h => absurd hz0 h)]
                  simp only [hf, newRow, Sem.run_bind, run_newObj, Result.andThen_ok, Sem.run_pure, World.alloc]
                · rw [if_neg hz0]
                  simp only [Sem.run_bind, zeroValue, run_inf hi, Result.andThen_ok, hz, Sem.run_pure]
                  rw [key z.cells (fun h => absurd h hz0) (fun _ => rfl)]
                  simp only [hf, newRow, Sem.run_bind, run_newObj, Result.andThen_ok, Sem.run_pure, World.alloc]
              · exact h.elim
            · exact h.elim
          · exact h.elim
        · exact h.elim
      · exact h.elim
    · exact h.elim
  · -- convert
    rename_i s d x
    split at h
    · split at h
      · rename_i v hv
        exact runV_does h fun u w' hr => by simp only [execOp, hk x _ hv, Sem.run_bind, hr, Result.andThen_ok, Sem.run_pure]
      · exact h.elim
    · exact hp h
  · -- makeSlice
    rename_i t l c
    split at h
    · rename_i a b ha hb
      exact runV_does h fun u w' hr => by simp only [execOp, hk l _ ha, hk c _ hb, Sem.run_bind, hr, Result.andThen_ok, Sem.run_pure]
    · exact h.elim
  · -- makeMap
    rename_i t r
    split at h
    · rename_i v hv
      exact runV_does h fun u w' hr => by simp only [execOp, optB_knows hk hv, Sem.run_bind, hr, Result.andThen_ok, Sem.run_pure]
    · exact h.elim
  · -- lookup
    rename_i t x i okb
    split at h
    · rename_i a b ha hb
      exact runV_does h fun u w' hr => by simp only [execOp, hk x _ ha, hk i _ hb, Sem.run_bind, hr, Result.andThen_ok, Sem.run_pure]
    · exact h.elim
  · rename_i t m k x
    split at h
    · rename_i a b c ha hb hc
      exact runU_does h fun w' hr => by simp only [execOp, hk m _ ha, hk k _ hb, hk x _ hc, Sem.run_bind, hr, Result.andThen_ok, Sem.run_pure]
    · exact h.elim
  · rename_i t m k x
    split at h
    · rename_i a b c ha hb hc
      exact runU_does h fun w' hr => by simp only [execOp, hk m _ ha, hk k _ hb, hk x _ hc, Sem.run_bind, hr, Result.andThen_ok, Sem.run_pure]
    · exact h.elim
  · -- call
    rename_i c
    obtain ⟨callee, args, argTypes⟩ := c
    simp only at h
    have hargs : ∀ vs, evs ρ args.toList = some vs → args.map σ = vs.toArray := fun vs he => by rw [← Array.toList_inj, Array.toList_map, hk.list he]
    split at h
    · rename_i f
      split at h
      · rename_i fid first captured as hf has
        unfold callS at h
        split at h
        · rename_i fn hfn
          have hfn' : P.funcs[fid]? = some fn := by simpa using hfn
          have hname : (fn.name == "runtime.NumGoroutine") = false := by
            have := List.all_eq_true.1 ok.names fn (List.mem_of_getElem? hfn)
            simpa using this
          have e0 : first ++ as.toArray ++ captured = (first.toList ++ (as ++ captured.toList)).toArray := by
            rw [← Array.toList_inj]; simp
          split at h
          · rename_i body hb
            refine .inr (.inr ⟨fid, (first.toList ++ (as ++ captured.toList)).toArray, ?_, h.mono fun v w' hv => retS_elim hv⟩)
            simp only [execOp, hk f _ hf, Sem.run_bind, resolve, Deferred.ofValue, hargs _ has, Sem.run_pure, Result.andThen_ok, invoke, callFunc, run_program, hfn', hname, hb, Option.isNone_some, Bool.false_eq_true, if_false, e0]
          · rename_i hb
            split at h
            · obtain ⟨v, w', hr, hK⟩ := exRes_elim h
              refine .inl ⟨v, w', ?_, hK⟩
              simp only [execOp, hk f _ hf, Sem.run_bind, resolve, Deferred.ofValue, hargs _ has, Sem.run_pure, Result.andThen_ok, invoke, e0]
              exact hr
            · obtain ⟨w', hr, hK⟩ := h
              refine .inl ⟨_, w', ?_, hK⟩
              simp only [execOp, hk f _ hf, Sem.run_bind, resolve, Deferred.ofValue, hargs _ has, Sem.run_pure, Result.andThen_ok, invoke, e0]
              exact hr
            · exact h.elim
        · exact h.elim
      · exact h.elim
    · rename_i b
      split at h
      · split at h
        · rename_i as has hbe
          exact runV_does h fun u w' hr => by simp only [execOp, resolve, hargs _ has, Sem.run_pure, Sem.run_bind, Result.andThen_ok, invoke, builtin, hr]
        · rename_i as has hbe
          exact runV_does h fun u w' hr => by simp only [execOp, resolve, hargs _ has, Sem.run_pure, Sem.run_bind, Result.andThen_ok, invoke, builtin, hr]
        · rename_i as has hbe
          exact runV_does h fun u w' hr => by simp only [execOp, resolve, hargs _ has, Sem.run_pure, Sem.run_bind, Result.andThen_ok, invoke, builtin, hr]
        · rename_i as has hbe
          exact runV_does h fun u w' hr => by simp only [execOp, resolve, hargs _ has, Sem.run_pure, Sem.run_bind, Result.andThen_ok, invoke, builtin, hr]
        · rename_i as has hbe
          exact runV_does h fun u w' hr => by simp only [execOp, resolve, hargs _ has, Sem.run_pure, Sem.run_bind, Result.andThen_ok, invoke, builtin, hr]
        · rename_i as has hbe
          exact runV_does h fun u w' hr => by simp only [execOp, resolve, hargs _ has, Sem.run_pure, Sem.run_bind, Result.andThen_ok, invoke, builtin, hr]
        · rename_i as has hbe
          obtain ⟨w', hr, hK⟩ := h
          unfold RunsTo at hr
          exact .inl ⟨_, w', by simp only [execOp, resolve, hargs _ has, Sem.run_pure, Sem.run_bind, Result.andThen_ok, invoke, builtin, hr], hK⟩
        · exact h.elim
      · exact hp h
    · exact h.elim
  · exact hp h
theorem bigT_fn {P : Program} {t : TypeId} (h : isFnT (und P t) = true) : bigT P t = none := by
  unfold bigT
  split
  · rename_i n e hd; rw [hd] at h; cases h
  · rfl
theorem opU_does {P : Program} (ok : Okay P) {ρ : Env} {σ : Operand → Value} (hk : Knows ρ σ) {o : Oper} {w : World} {K : Value → World → Prop} (h : opU P ρ o w K) : Does P σ o w K := by
  obtain ⟨dst, op, type, pos, after, guard⟩ := o
  unfold opU at h
  simp only at h
  split at h
  · rename_i t x
    cases hf : isFnT (und P t) with
    | false => rw [hf] at h; exact opS_does ok hk (opN_opS h)
    | true =>
      rw [hf] at h
      simp only [cond_true] at h
      split at h
      · rename_i v hv
        obtain ⟨hc, h⟩ := h
        refine opS_does ok hk (opN_opS ?_)
        unfold opN
        dsimp only
        rw [bigT_fn hf, hv]
        dsimp only
        rw [hc]
        exact h
      · exact h.elim
  · rename_i t x y
    cases hf : isFnT (und P t) with
    | false => rw [hf] at h; exact opS_does ok hk (opN_opS h)
    | true =>
      rw [hf] at h
      simp only [cond_true] at h
      split at h
      · rename_i a v i hx hv hi
        cases hs : Nat.beq i.size 1 with
        | false => rw [hs] at h; exact h.elim
        | true =>
          rw [hs] at h
          obtain ⟨hc, h1, h2, h3⟩ := h
          refine opS_does ok hk (opN_opS ?_)
          unfold opN
          dsimp only
          rw [bigT_fn hf, hx, hv, hi]
          dsimp only
          rw [hc, if_pos (by rw [Nat.eq_of_beq_eq_true hs]; rfl)]
          show cond (allOne [v]) _ False
          have : allOne [v] = true := by simp [allOne, h1]
          rw [this]
          exact ⟨h2, h3⟩
      · exact h.elim
  · rename_i c
    obtain ⟨callee, args, argTypes⟩ := c
    simp only at h
    split at h
    · rename_i t
      have hargs : ∀ vs, evs ρ args.toList = some vs → args.map σ = vs.toArray := fun vs he => by rw [← Array.toList_inj, Array.toList_map, hk.list he]
      split at h
      · rename_i v as hf has
        obtain ⟨fid, first, captured, rfl, hb, h⟩ := h
        unfold bodied at hb
        split at hb
        · rename_i fn hfn
          have hfn' : P.funcs[fid]? = some fn := by simpa using hfn
          have hname : (fn.name == "runtime.NumGoroutine") = false := by
            have := List.all_eq_true.1 ok.names fn (List.mem_of_getElem? hfn)
            simpa using this
          have e0 : first ++ as.toArray ++ captured = (first.toList ++ (as ++ captured.toList)).toArray := by
            rw [← Array.toList_inj]; simp
          have hb' : fn.body.isNone = false := by cases hq : fn.body with | none => rw [hq] at hb; cases hb | some _ => rfl
          refine .inr (.inr ⟨fid, (first.toList ++ (as ++ captured.toList)).toArray, ?_, h.mono fun v w' hv => retS_elim hv⟩)
          simp only [execOp, hk (.tmp t) _ hf, Sem.run_bind, resolve, Deferred.ofValue, hargs _ has, Sem.run_pure, Result.andThen_ok, invoke, callFunc, run_program, hfn', hname, hb', Bool.false_eq_true, if_false, e0]
        · cases hb
      · exact h.elim
    · exact opS_does ok hk (opN_opS h)
  · exact opS_does ok hk (opN_opS h)
theorem opX_does {m : Md} {P : Program} (ok : Okay P) {ρ : Env} {σ : Operand → Value} (hk : Knows ρ σ) {o : Oper} {w : World} {K : Value → World → Prop} (h : opX m P ρ o w K) : Does P σ o w K := by
  cases m with
  | old => exact opS_does ok hk h
  | named => exact opS_does ok hk (opN_opS h)
  | wild => exact opU_does ok hk h
end
end Go.Sx
