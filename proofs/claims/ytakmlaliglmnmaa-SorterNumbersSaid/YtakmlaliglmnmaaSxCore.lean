/- The engine's core: a weakest precondition of a function's Code in which no temporaries occur. -/
import Derived.WalkKit
import Derived.OrdersHeld
import Derived.KernelRfl
set_option linter.unusedVariables false
set_option linter.unusedSimpArgs false
namespace Go.Sx

/-! ## values by kind -/
inductive At where | bool | int | str | addr | nat | mp | val
  deriving DecidableEq
inductive AV where
  | b (x : Bool) | i (x : Int) | s (x : ByteArray) | a (x : Option Addr) | n (x : Nat) | m (x : Option Nat) | v (x : Value)
inductive CT where | bool | int (k : IntKind) | str | slc | ptr | map | val
inductive Ty where | one (c : CT) | agg (cs : List CT)

def CT.ats : CT → List At
  | .bool => [.bool] | .int _ => [.int] | .str => [.str] | .slc => [.addr, .nat, .nat] | .ptr => [.addr] | .map => [.mp] | .val => [.val]
def Ty.ats : Ty → List At
  | .one c => c.ats
  | .agg cs => cs.flatMap CT.ats
def tysAts (l : List Ty) : List At := l.flatMap Ty.ats

def CT.proj : CT → Value → Option (List AV)
  | .bool, .bool x => some [.b x]
  | .int k, .int k' x => if k = k' then some [.i x] else none
  | .str, .string x => some [.s x]
  | .slc, .slice a n c => some [.a a, .n n, .n c]
  | .ptr, .pointer a => some [.a a]
  | .map, .map r => some [.m r]
  | .val, v => some [.v v]
  | _, _ => none
def projCells : List CT → List Value → Option (List AV)
  | [], [] => some []
  | c :: cs, v :: vs => match c.proj v, projCells cs vs with | some l, some r => some (l ++ r) | _, _ => none
  | _, _ => none
def Ty.proj : Ty → Value → Option (List AV)
  | .one c, v => c.proj v
  | .agg cs, .agg vs => projCells cs vs.toList
  | _, _ => none
def CT.inj : CT → List AV → Option (Value × List AV)
  | .bool, .b x :: r => some (.bool x, r)
  | .int k, .i x :: r => some (.int k x, r)
  | .str, .s x :: r => some (.string x, r)
  | .slc, .a a :: .n n :: .n c :: r => some (.slice a n c, r)
  | .ptr, .a a :: r => some (.pointer a, r)
  | .map, .m x :: r => some (.map x, r)
  | .val, .v x :: r => some (x, r)
  | _, _ => none
def injCells : List CT → List AV → Option (List Value × List AV)
  | [], r => some ([], r)
  | c :: cs, l => match c.inj l with
    | some (v, r) => match injCells cs r with | some (vs, r') => some (v :: vs, r') | none => none
    | none => none
def Ty.inj : Ty → List AV → Option (Value × List AV)
  | .one c, l => c.inj l
  | .agg cs, l => match injCells cs l with | some (vs, r) => some (.agg vs.toArray, r) | none => none

inductive Typed : List At → List AV → Prop
  | nil : Typed [] []
  | bool {as l x} : Typed as l → Typed (.bool :: as) (.b x :: l)
  | int {as l x} : Typed as l → Typed (.int :: as) (.i x :: l)
  | str {as l x} : Typed as l → Typed (.str :: as) (.s x :: l)
  | addr {as l x} : Typed as l → Typed (.addr :: as) (.a x :: l)
  | nat {as l x} : Typed as l → Typed (.nat :: as) (.n x :: l)
  | mp {as l x} : Typed as l → Typed (.mp :: as) (.m x :: l)
  | val {as l x} : Typed as l → Typed (.val :: as) (.v x :: l)

theorem Typed.append {as bs : List At} {l r : List AV} (h : Typed as l) (h' : Typed bs r) : Typed (as ++ bs) (l ++ r) := by
  induction h with
  | nil => exact h'
  | bool _ ih => exact .bool ih
  | int _ ih => exact .int ih
  | str _ ih => exact .str ih
  | addr _ ih => exact .addr ih
  | nat _ ih => exact .nat ih
  | mp _ ih => exact .mp ih
  | val _ ih => exact .val ih

theorem CT.proj_typed {c : CT} {v : Value} {l : List AV} (h : c.proj v = some l) : Typed c.ats l := by
  cases c <;> cases v <;> simp [CT.proj] at h <;> (try obtain ⟨_, rfl⟩ := h) <;> (try subst h) <;>
    simp only [CT.ats] <;> repeat (first | exact .nil | constructor)

theorem CT.inj_proj {c : CT} {v : Value} {l : List AV} (h : c.proj v = some l) (r : List AV) : c.inj (l ++ r) = some (v, r) := by
  cases c <;> cases v <;> simp [CT.proj] at h <;> (try obtain ⟨rfl, rfl⟩ := h) <;> (try subst h) <;> rfl

theorem projCells_typed : ∀ {cs : List CT} {vs : List Value} {l : List AV}, projCells cs vs = some l → Typed (cs.flatMap CT.ats) l
  | [], [], l, h => by simp [projCells] at h; subst h; exact .nil
  | [], _ :: _, l, h => by simp [projCells] at h
  | _ :: _, [], l, h => by simp [projCells] at h
  | c :: cs, v :: vs, l, h => by
    simp only [projCells] at h
    cases h1 : c.proj v with
    | none => simp [h1] at h
    | some l1 =>
      cases h2 : projCells cs vs with
      | none => simp [h1, h2] at h
      | some l2 =>
        simp [h1, h2] at h; subst h
        simp only [List.flatMap_cons]
        exact (CT.proj_typed h1).append (projCells_typed h2)

theorem injCells_proj : ∀ {cs : List CT} {vs : List Value} {l : List AV}, projCells cs vs = some l → ∀ r, injCells cs (l ++ r) = some (vs, r)
  | [], [], l, h, r => by simp [projCells] at h; subst h; rfl
  | [], _ :: _, l, h, r => by simp [projCells] at h
  | _ :: _, [], l, h, r => by simp [projCells] at h
  | c :: cs, v :: vs, l, h, r => by
    simp only [projCells] at h
    cases h1 : c.proj v with
    | none => simp [h1] at h
    | some l1 =>
      cases h2 : projCells cs vs with
      | none => simp [h1, h2] at h
      | some l2 =>
        simp [h1, h2] at h; subst h
        simp only [injCells, List.append_assoc, CT.inj_proj h1, injCells_proj h2]

theorem Ty.proj_typed {t : Ty} {v : Value} {l : List AV} (h : t.proj v = some l) : Typed t.ats l := by
  cases t with
  | one c => exact CT.proj_typed h
  | agg cs => cases v <;> simp [Ty.proj] at h; exact projCells_typed h

theorem Ty.inj_proj {t : Ty} {v : Value} {l : List AV} (h : t.proj v = some l) (r : List AV) : t.inj (l ++ r) = some (v, r) := by
  cases t with
  | one c => exact CT.inj_proj h r
  | agg cs => cases v <;> simp [Ty.proj] at h; simp [Ty.inj, injCells_proj h]

/-! ## quantifiers over atoms -/
def exA : List At → (List AV → Prop) → Prop
  | [], p => p []
  | .bool :: as, p => ∃ x : Bool, exA as fun l => p (.b x :: l)
  | .int :: as, p => ∃ x : Int, exA as fun l => p (.i x :: l)
  | .str :: as, p => ∃ x : ByteArray, exA as fun l => p (.s x :: l)
  | .addr :: as, p => ∃ x : Option Addr, exA as fun l => p (.a x :: l)
  | .nat :: as, p => ∃ x : Nat, exA as fun l => p (.n x :: l)
  | .mp :: as, p => ∃ x : Option Nat, exA as fun l => p (.m x :: l)
  | .val :: as, p => ∃ x : Value, exA as fun l => p (.v x :: l)
def allA : List At → (List AV → Prop) → Prop
  | [], p => p []
  | .bool :: as, p => ∀ x : Bool, allA as fun l => p (.b x :: l)
  | .int :: as, p => ∀ x : Int, allA as fun l => p (.i x :: l)
  | .str :: as, p => ∀ x : ByteArray, allA as fun l => p (.s x :: l)
  | .addr :: as, p => ∀ x : Option Addr, allA as fun l => p (.a x :: l)
  | .nat :: as, p => ∀ x : Nat, allA as fun l => p (.n x :: l)
  | .mp :: as, p => ∀ x : Option Nat, allA as fun l => p (.m x :: l)
  | .val :: as, p => ∀ x : Value, allA as fun l => p (.v x :: l)
theorem exA_elim : ∀ {as : List At} {p : List AV → Prop}, exA as p → ∃ l, Typed as l ∧ p l
  | [], p, h => ⟨[], .nil, h⟩
  | .bool :: as, p, ⟨x, h⟩ => let ⟨l, t, q⟩ := exA_elim h; ⟨_, .bool t, q⟩
  | .int :: as, p, ⟨x, h⟩ => let ⟨l, t, q⟩ := exA_elim h; ⟨_, .int t, q⟩
  | .str :: as, p, ⟨x, h⟩ => let ⟨l, t, q⟩ := exA_elim h; ⟨_, .str t, q⟩
  | .addr :: as, p, ⟨x, h⟩ => let ⟨l, t, q⟩ := exA_elim h; ⟨_, .addr t, q⟩
  | .nat :: as, p, ⟨x, h⟩ => let ⟨l, t, q⟩ := exA_elim h; ⟨_, .nat t, q⟩
  | .mp :: as, p, ⟨x, h⟩ => let ⟨l, t, q⟩ := exA_elim h; ⟨_, .mp t, q⟩
  | .val :: as, p, ⟨x, h⟩ => let ⟨l, t, q⟩ := exA_elim h; ⟨_, .val t, q⟩
theorem allA_elim {as : List At} {l : List AV} (t : Typed as l) : ∀ {p : List AV → Prop}, allA as p → p l := by
  induction t with
  | nil => exact fun h => h
  | bool _ ih => exact fun h => ih (h _)
  | int _ ih => exact fun h => ih (h _)
  | str _ ih => exact fun h => ih (h _)
  | addr _ ih => exact fun h => ih (h _)
  | nat _ ih => exact fun h => ih (h _)
  | mp _ ih => exact fun h => ih (h _)
  | val _ ih => exact fun h => ih (h _)

def Cur (r : Type) : List At → Type
  | [] => World → r
  | .bool :: as => Bool → Cur r as
  | .int :: as => Int → Cur r as
  | .str :: as => ByteArray → Cur r as
  | .addr :: as => Option Addr → Cur r as
  | .nat :: as => Nat → Cur r as
  | .mp :: as => Option Nat → Cur r as
  | .val :: as => Value → Cur r as
def app {r : Type} (d : r) : (as : List At) → Cur r as → List AV → World → r
  | [], f, [], w => f w
  | .bool :: as, f, .b x :: l, w => app d as (f x) l w
  | .int :: as, f, .i x :: l, w => app d as (f x) l w
  | .str :: as, f, .s x :: l, w => app d as (f x) l w
  | .addr :: as, f, .a x :: l, w => app d as (f x) l w
  | .nat :: as, f, .n x :: l, w => app d as (f x) l w
  | .mp :: as, f, .m x :: l, w => app d as (f x) l w
  | .val :: as, f, .v x :: l, w => app d as (f x) l w
  | _, _, _, _ => d

/-! ## what is known of the temporaries -/
abbrev Env := Nat → Option Value
def Env.set (ρ : Env) (t : Nat) (v : Option Value) : Env := fun u => bif Nat.beq u t then v else ρ u
def memNat (t : Nat) : List Nat → Bool
  | [] => false
  | x :: l => bif Nat.beq t x then true else memNat t l
def Env.forget (ρ : Env) (l : List Nat) : Env := fun u => bif memNat u l then none else ρ u
def ev (ρ : Env) : Operand → Option Value
  | .tmp t => ρ t
  | .const v => some v
  | .global g => some (.pointer (some ⟨g, 0, none⟩))
  | .func f => some (.func (.func f) #[] #[])
def evs (ρ : Env) : List Operand → Option (List Value)
  | [] => some []
  | x :: l => match ev ρ x, evs ρ l with | some v, some vs => some (v :: vs) | _, _ => none

/-- The act's temporaries are as the environment knows them. -/
structure Agrees (n : Nat) (ρ : Env) (a : Act) : Prop where
  defers : a.defers = []
  size : a.tmps.size = n
  at_ : ∀ t v, ρ t = some v → a.tmps[t]? = some v

theorem Agrees.ev {n : Nat} {ρ : Env} {a : Act} (h : Agrees n ρ a) (x : Operand) (v : Value) (hx : ev ρ x = some v) : a.eval x = v := by
  cases x with
  | tmp t => have := h.at_ t v hx; simp [Act.eval, Array.getD_eq_getD_getElem?, this]
  | const u => simpa [Sx.ev, Act.eval] using hx
  | global g => simpa [Sx.ev, Act.eval] using hx
  | func f => simpa [Sx.ev, Act.eval] using hx

theorem memNat_iff {t : Nat} : ∀ {l : List Nat}, memNat t l = true ↔ t ∈ l
  | [] => by simp [memNat]
  | x :: l => by
    simp only [memNat, List.mem_cons]
    cases h : Nat.beq t x with
    | true => simp [Nat.eq_of_beq_eq_true h]
    | false => simp [memNat_iff (l := l), Nat.ne_of_beq_eq_false h]

/-- Only the temporaries of the list may differ. -/
structure SameBut (l : List Nat) (a a' : Act) : Prop where
  at_ : ∀ t, t ∉ l → a'.tmps[t]? = a.tmps[t]?
theorem SameBut.refl (l : List Nat) (a : Act) : SameBut l a a := ⟨fun _ _ => rfl⟩
theorem SameBut.trans {l : List Nat} {a b c : Act} (h : SameBut l a b) (h' : SameBut l b c) : SameBut l a c := ⟨fun t ht => (h'.at_ t ht).trans (h.at_ t ht)⟩
theorem SameBut.mono {l l' : List Nat} {a b : Act} (h : SameBut l a b) (hl : ∀ t, t ∈ l → t ∈ l') : SameBut l' a b := ⟨fun t ht => h.at_ t (fun hm => ht (hl t hm))⟩
theorem SameBut.put {l : List Nat} (a : Act) {d : Option Nat} (hd : ∀ t, d = some t → t ∈ l) (v : Value) : SameBut l a (a.put d v) := by
  refine ⟨fun t ht => ?_⟩
  cases d with
  | none => rfl
  | some d =>
    show (a.tmps.setIfInBounds d v)[t]? = _
    rw [Array.getElem?_setIfInBounds_ne (fun e => ht (by rw [← e]; exact hd d rfl))]

theorem Agrees.put {n : Nat} {ρ : Env} {a : Act} (h : Agrees n ρ a) {d : Nat} (hd : d < n) (v : Value) : Agrees n (ρ.set d (some v)) (a.put (some d) v) := by
  refine ⟨h.defers, by simp [Act.put, h.size], fun t u hu => ?_⟩
  simp only [Env.set] at hu
  cases hb : Nat.beq t d with
  | true =>
    have := Nat.eq_of_beq_eq_true hb
    subst this
    simp [hb] at hu
    subst hu
    have := h.size
    simp [Act.put, this, hd]
  | false =>
    have hne := Nat.ne_of_beq_eq_false hb
    simp [hb] at hu
    have h3 := h.at_ t u hu
    show (a.tmps.setIfInBounds d v)[t]? = some u
    rw [Array.getElem?_setIfInBounds_ne (fun e => hne e.symm)]
    exact h3
theorem Agrees.putNone {n : Nat} {ρ : Env} {a : Act} (h : Agrees n ρ a) (d : Nat) (v : Value) : Agrees n (ρ.set d none) (a.put (some d) v) := by
  refine ⟨h.defers, by simp [Act.put, h.size], fun t u hu => ?_⟩
  simp only [Env.set] at hu
  cases hb : Nat.beq t d with
  | true => simp [hb] at hu
  | false =>
    have hne := Nat.ne_of_beq_eq_false hb
    simp [hb] at hu
    have h3 := h.at_ t u hu
    show (a.tmps.setIfInBounds d v)[t]? = some u
    rw [Array.getElem?_setIfInBounds_ne (fun e => hne e.symm)]
    exact h3
theorem Agrees.put0 {n : Nat} {ρ : Env} {a : Act} (h : Agrees n ρ a) (v : Value) : Agrees n ρ (a.put none v) := h

/-! ## the variables of a loop or of a join -/
def setVars : List (Nat × Ty) → List AV → Env → Env
  | [], _, ρ => ρ
  | (t, ty) :: vs, l, ρ => match ty.inj l with | some (v, r) => setVars vs r (ρ.set t (some v)) | none => ρ
def projVars : List (Nat × Ty) → Env → Option (List AV)
  | [], _ => some []
  | (t, ty) :: vs, ρ => match ρ t with
    | some v => (match ty.proj v, projVars vs ρ with | some a, some b => some (a ++ b) | _, _ => none)
    | none => none
def varsAts : List (Nat × Ty) → List At
  | [] => []
  | (_, ty) :: vs => ty.ats ++ varsAts vs
theorem projVars_typed : ∀ {vs : List (Nat × Ty)} {ρ : Env} {l : List AV}, projVars vs ρ = some l → Typed (varsAts vs) l
  | [], ρ, l, h => by simp [projVars] at h; subst h; exact .nil
  | (t, ty) :: vs, ρ, l, h => by
    simp only [projVars] at h
    cases h0 : ρ t with
    | none => simp [h0] at h
    | some v =>
      cases h1 : ty.proj v with
      | none => simp [h0, h1] at h
      | some a =>
        cases h2 : projVars vs ρ with
        | none => simp [h0, h1, h2] at h
        | some b => simp [h0, h1, h2] at h; subst h; exact (Ty.proj_typed h1).append (projVars_typed h2)
theorem setVars_agrees {n : Nat} : ∀ {vs : List (Nat × Ty)} {ρ' ρb : Env} {l : List AV} {a : Act}, projVars vs ρ' = some l → Agrees n ρ' a → Agrees n ρb a → Agrees n (setVars vs l ρb) a
  | [], ρ', ρb, l, a, h, h1, h2 => h2
  | (t, ty) :: vs, ρ', ρb, l, a, h, h1, h2 => by
    simp only [projVars] at h
    cases h0 : ρ' t with
    | none => simp [h0] at h
    | some v =>
      cases hp : ty.proj v with
      | none => simp [h0, hp] at h
      | some x =>
        cases hq : projVars vs ρ' with
        | none => simp [h0, hp, hq] at h
        | some y =>
          simp [h0, hp, hq] at h; subst h
          simp only [setVars, Ty.inj_proj hp]
          refine setVars_agrees hq h1 ⟨h2.defers, h2.size, fun u x hu => ?_⟩
          simp only [Env.set] at hu
          cases hb : Nat.beq u t with
          | true => have := Nat.eq_of_beq_eq_true hb; subst this; simp [hb] at hu; subst hu; exact h1.at_ _ _ h0
          | false => simp [hb] at hu; exact h2.at_ u x hu
theorem Agrees.forget {n : Nat} {ρ : Env} {a a' : Act} (h : Agrees n ρ a) {l : List Nat} (hs : SameBut l a a') (hd : a'.defers = []) (hz : a'.tmps.size = n) : Agrees n (ρ.forget l) a' := by
  refine ⟨hd, hz, fun t v hv => ?_⟩
  simp only [Env.forget] at hv
  cases hm : memNat t l with
  | true => simp [hm] at hv
  | false =>
    simp [hm] at hv
    rw [hs.at_ t (fun hmem => by rw [memNat_iff.2 hmem] at hm; cases hm)]
    exact h.at_ t v hv

end Go.Sx
