/- Part 1 of the texts of this claim: the engine, contracts, plain laws. -/
import Derived.WalkKit
import Derived.OrdersHeld
import Derived.KernelRfl
import Derived.Laws.StructEq
import Derived.Lib.Builder
import Derived.ScopeJumps
import Derived.Lib.ConvBytes
import Derived.Lib.AppendStr
import Derived.Laws.MakeOwn
import Derived.Laws.BytesArg
set_option linter.unusedVariables false
set_option linter.unusedSimpArgs false
namespace Go.Sx
/-! ## values by kind -/
inductive At where|bool|int|str|addr|nat|mp|val
  deriving DecidableEq
inductive AV where
  | b (x:Bool)|i (x:Int)|s (x:ByteArray)|a (x:Option Addr)|n (x:Nat)|m (x:Option Nat)|v (x:Value)
inductive CT where|bool|int (k:IntKind)|str|slc|ptr|map|val
inductive Ty where|one (c:CT)|agg (cs:List CT)
def CT.ats:CT->List At
  | .bool=>[.bool] | .int _=>[.int] | .str=>[.str] | .slc=>[.addr,.nat,.nat] | .ptr=>[.addr] | .map=>[.mp] | .val=>[.val]
def Ty.ats:Ty->List At
  | .one c=>c.ats
  | .agg cs=>cs.flatMap CT.ats
def CT.proj:CT->Value->Option (List AV)
  | .bool,.bool x=>some [.b x]
  | .int k,.int k' x=>if k=k' then some [.i x] else none
  | .str,.string x=>some [.s x]
  | .slc,.slice a n c=>some [.a a,.n n,.n c]
  | .ptr,.pointer a=>some [.a a]
  | .map,.map r=>some [.m r]
  | .val,v=>some [.v v]
  | _,_=>none
def projCells:List CT->List Value->Option (List AV)
  | [],[]=>some []
  | c::cs,v::vs=>match c.proj v,projCells cs vs with|some l,some r=>some (l++r)|_,_=>none
  | _,_=>none
def Ty.proj:Ty->Value->Option (List AV)
  | .one c,v=>c.proj v
  | .agg cs,.agg vs=>projCells cs vs.toList
  | _,_=>none
def CT.inj:CT->List AV->Option (Value×List AV)
  | .bool,.b x::r=>some (.bool x,r)
  | .int k,.i x::r=>some (.int k x,r)
  | .str,.s x::r=>some (.string x,r)
  | .slc,.a a::.n n::.n c::r=>some (.slice a n c,r)
  | .ptr,.a a::r=>some (.pointer a,r)
  | .map,.m x::r=>some (.map x,r)
  | .val,.v x::r=>some (x,r)
  | _,_=>none
def injCells:List CT->List AV->Option (List Value×List AV)
  | [],r=>some ([],r)
  | c::cs,l=>match c.inj l with
    | some (v,r)=>match injCells cs r with|some (vs,r')=>some (v::vs,r')|none=>none
    | none=>none
def Ty.inj:Ty->List AV->Option (Value×List AV)
  | .one c,l=>c.inj l
  | .agg cs,l=>match injCells cs l with|some (vs,r)=>some (.agg vs.toArray,r)|none=>none
inductive Typed:List At->List AV->Prop
  | nil:Typed [] []
  | bool {as l x}:Typed as l->Typed (.bool::as) (.b x::l)
  | int {as l x}:Typed as l->Typed (.int::as) (.i x::l)
  | str {as l x}:Typed as l->Typed (.str::as) (.s x::l)
  | addr {as l x}:Typed as l->Typed (.addr::as) (.a x::l)
  | nat {as l x}:Typed as l->Typed (.nat::as) (.n x::l)
  | mp {as l x}:Typed as l->Typed (.mp::as) (.m x::l)
  | val {as l x}:Typed as l->Typed (.val::as) (.v x::l)
theorem Typed.append {as bs:List At} {l r:List AV} (h:Typed as l) (h':Typed bs r):Typed (as++bs) (l++r):=by
  induction h with
  | nil=>exact h'
  | bool _ ih=>exact .bool ih
  | int _ ih=>exact .int ih
  | str _ ih=>exact .str ih
  | addr _ ih=>exact .addr ih
  | nat _ ih=>exact .nat ih
  | mp _ ih=>exact .mp ih
  | val _ ih=>exact .val ih
theorem CT.proj_typed {c:CT} {v:Value} {l:List AV} (h:c.proj v=some l):Typed c.ats l:=by
  cases c<;>cases v<;>simp [CT.proj] at h<;>(try obtain ⟨_,rfl⟩:=h)<;>(try subst h) <;>
    simp only [CT.ats]<;>repeat (first|exact .nil|constructor)
theorem CT.inj_proj {c:CT} {v:Value} {l:List AV} (h:c.proj v=some l) (r:List AV):c.inj (l++r)=some (v,r):=by
  cases c<;>cases v<;>simp [CT.proj] at h<;>(try obtain ⟨rfl,rfl⟩:=h)<;>(try subst h)<;>rfl
theorem projCells_typed:∀ {cs:List CT} {vs:List Value} {l:List AV},projCells cs vs=some l->Typed (cs.flatMap CT.ats) l
  | [],[],l,h=>by simp [projCells] at h;subst h;exact .nil
  | [],_::_,l,h=>by simp [projCells] at h
  | _::_,[],l,h=>by simp [projCells] at h
  | c::cs,v::vs,l,h=>by
    simp only [projCells] at h
    cases h1:c.proj v with
    | none=>simp [h1] at h
    | some l1 =>
      cases h2:projCells cs vs with
      | none=>simp [h1,h2] at h
      | some l2 =>
        simp [h1,h2] at h;subst h
        simp only [List.flatMap_cons]
        exact (CT.proj_typed h1).append (projCells_typed h2)
theorem injCells_proj:∀ {cs:List CT} {vs:List Value} {l:List AV},projCells cs vs=some l->∀ r,injCells cs (l++r)=some (vs,r)
  | [],[],l,h,r=>by simp [projCells] at h;subst h;rfl
  | [],_::_,l,h,r=>by simp [projCells] at h
  | _::_,[],l,h,r=>by simp [projCells] at h
  | c::cs,v::vs,l,h,r=>by
    simp only [projCells] at h
    cases h1:c.proj v with
    | none=>simp [h1] at h
    | some l1 =>
      cases h2:projCells cs vs with
      | none=>simp [h1,h2] at h
      | some l2 =>
        simp [h1,h2] at h;subst h
        simp only [injCells,List.append_assoc,CT.inj_proj h1,injCells_proj h2]
theorem Ty.proj_typed {t:Ty} {v:Value} {l:List AV} (h:t.proj v=some l):Typed t.ats l:=by
  cases t with
  | one c=>exact CT.proj_typed h
  | agg cs=>cases v<;>simp [Ty.proj] at h;exact projCells_typed h
theorem Ty.inj_proj {t:Ty} {v:Value} {l:List AV} (h:t.proj v=some l) (r:List AV):t.inj (l++r)=some (v,r):=by
  cases t with
  | one c=>exact CT.inj_proj h r
  | agg cs=>cases v<;>simp [Ty.proj] at h;simp [Ty.inj,injCells_proj h]
/-! ## quantifiers over atoms -/
def exA:List At->(List AV->Prop)->Prop
  | [],p=>p []
  | .bool::as,p=>∃ x:Bool,exA as fun l=>p (.b x::l)
  | .int::as,p=>∃ x:Int,exA as fun l=>p (.i x::l)
  | .str::as,p=>∃ x:ByteArray,exA as fun l=>p (.s x::l)
  | .addr::as,p=>∃ x:Option Addr,exA as fun l=>p (.a x::l)
  | .nat::as,p=>∃ x:Nat,exA as fun l=>p (.n x::l)
  | .mp::as,p=>∃ x:Option Nat,exA as fun l=>p (.m x::l)
  | .val::as,p=>∃ x:Value,exA as fun l=>p (.v x::l)
def allA:List At->(List AV->Prop)->Prop
  | [],p=>p []
  | .bool::as,p=>∀ x:Bool,allA as fun l=>p (.b x::l)
  | .int::as,p=>∀ x:Int,allA as fun l=>p (.i x::l)
  | .str::as,p=>∀ x:ByteArray,allA as fun l=>p (.s x::l)
  | .addr::as,p=>∀ x:Option Addr,allA as fun l=>p (.a x::l)
  | .nat::as,p=>∀ x:Nat,allA as fun l=>p (.n x::l)
  | .mp::as,p=>∀ x:Option Nat,allA as fun l=>p (.m x::l)
  | .val::as,p=>∀ x:Value,allA as fun l=>p (.v x::l)
theorem exA_elim:∀ {as:List At} {p:List AV->Prop},exA as p->∃ l,Typed as l/\p l
  | [],p,h=>⟨[],.nil,h⟩
  | .bool::as,p,⟨x,h⟩=>let ⟨l,t,q⟩:=exA_elim h;⟨_,.bool t,q⟩
  | .int::as,p,⟨x,h⟩=>let ⟨l,t,q⟩:=exA_elim h;⟨_,.int t,q⟩
  | .str::as,p,⟨x,h⟩=>let ⟨l,t,q⟩:=exA_elim h;⟨_,.str t,q⟩
  | .addr::as,p,⟨x,h⟩=>let ⟨l,t,q⟩:=exA_elim h;⟨_,.addr t,q⟩
  | .nat::as,p,⟨x,h⟩=>let ⟨l,t,q⟩:=exA_elim h;⟨_,.nat t,q⟩
  | .mp::as,p,⟨x,h⟩=>let ⟨l,t,q⟩:=exA_elim h;⟨_,.mp t,q⟩
  | .val::as,p,⟨x,h⟩=>let ⟨l,t,q⟩:=exA_elim h;⟨_,.val t,q⟩
theorem allA_elim {as:List At} {l:List AV} (t:Typed as l):∀ {p:List AV->Prop},allA as p->p l:=by
  induction t with
  | nil=>exact fun h=>h
  | bool _ ih=>exact fun h=>ih (h _)
  | int _ ih=>exact fun h=>ih (h _)
  | str _ ih=>exact fun h=>ih (h _)
  | addr _ ih=>exact fun h=>ih (h _)
  | nat _ ih=>exact fun h=>ih (h _)
  | mp _ ih=>exact fun h=>ih (h _)
  | val _ ih=>exact fun h=>ih (h _)
def Cur (r:Type):List At->Type
  | []=>World->r
  | .bool::as=>Bool->Cur r as
  | .int::as=>Int->Cur r as
  | .str::as=>ByteArray->Cur r as
  | .addr::as=>Option Addr->Cur r as
  | .nat::as=>Nat->Cur r as
  | .mp::as=>Option Nat->Cur r as
  | .val::as=>Value->Cur r as
def app {r:Type} (d:r):(as:List At)->Cur r as->List AV->World->r
  | [],f,[],w=>f w
  | .bool::as,f,.b x::l,w=>app d as (f x) l w
  | .int::as,f,.i x::l,w=>app d as (f x) l w
  | .str::as,f,.s x::l,w=>app d as (f x) l w
  | .addr::as,f,.a x::l,w=>app d as (f x) l w
  | .nat::as,f,.n x::l,w=>app d as (f x) l w
  | .mp::as,f,.m x::l,w=>app d as (f x) l w
  | .val::as,f,.v x::l,w=>app d as (f x) l w
  | _,_,_,_=>d
/-! ## what is known of the temporaries -/
abbrev Env:=Nat->Option Value
def Env.set (ρ:Env) (t:Nat) (v:Option Value):Env:=fun u=>bif Nat.beq u t then v else ρ u
def memNat (t:Nat):List Nat->Bool
  | []=>false
  | x::l=>bif Nat.beq t x then true else memNat t l
def Env.forget (ρ:Env) (l:List Nat):Env:=fun u=>bif memNat u l then none else ρ u
def ev (ρ:Env):Operand->Option Value
  | .tmp t=>ρ t
  | .const v=>some v
  | .global g=>some (.pointer (some ⟨g,0,none⟩))
  | .func f=>some (.func (.func f) #[] #[])
def evs (ρ:Env):List Operand->Option (List Value)
  | []=>some []
  | x::l=>match ev ρ x,evs ρ l with|some v,some vs=>some (v::vs)|_,_=>none
structure Agrees (n:Nat) (ρ:Env) (a:Act):Prop where
  defers:a.defers=[]
  size:a.tmps.size=n
  at_:∀ t v,ρ t=some v->a.tmps[t]?=some v
theorem Agrees.ev {n:Nat} {ρ:Env} {a:Act} (h:Agrees n ρ a) (x:Operand) (v:Value) (hx:ev ρ x=some v):a.eval x=v:=by
  cases x with
  | tmp t=>have:=h.at_ t v hx;simp [Act.eval,Array.getD_eq_getD_getElem?,this]
  | const u=>simpa [Sx.ev,Act.eval] using hx
  | global g=>simpa [Sx.ev,Act.eval] using hx
  | func f=>simpa [Sx.ev,Act.eval] using hx
theorem memNat_iff {t:Nat}:∀ {l:List Nat},memNat t l=true<->t∈l
  | []=>by simp [memNat]
  | x::l=>by
    simp only [memNat,List.mem_cons]
    cases h:Nat.beq t x with
    | true=>simp [Nat.eq_of_beq_eq_true h]
    | false=>simp [memNat_iff (l:=l),Nat.ne_of_beq_eq_false h]
structure SameBut (l:List Nat) (a a':Act):Prop where
  at_:∀ t,t∉l->a'.tmps[t]?=a.tmps[t]?
theorem SameBut.refl (l:List Nat) (a:Act):SameBut l a a:=⟨fun _ _=>rfl⟩
theorem SameBut.trans {l:List Nat} {a b c:Act} (h:SameBut l a b) (h':SameBut l b c):SameBut l a c:=⟨fun t ht=>(h'.at_ t ht).trans (h.at_ t ht)⟩
theorem SameBut.mono {l l':List Nat} {a b:Act} (h:SameBut l a b) (hl:∀ t,t∈l->t∈l'):SameBut l' a b:=⟨fun t ht=>h.at_ t (fun hm=>ht (hl t hm))⟩
theorem SameBut.put {l:List Nat} (a:Act) {d:Option Nat} (hd:∀ t,d=some t->t∈l) (v:Value):SameBut l a (a.put d v):=by
  refine ⟨fun t ht=>?_⟩
  cases d with
  | none=>rfl
  | some d =>
    show (a.tmps.setIfInBounds d v)[t]?=_
    rw [Array.getElem?_setIfInBounds_ne (fun e=>ht (by rw [<- e];exact hd d rfl))]
theorem Agrees.put {n:Nat} {ρ:Env} {a:Act} (h:Agrees n ρ a) {d:Nat} (hd:d<n) (v:Value):Agrees n (ρ.set d (some v)) (a.put (some d) v):=by
  refine ⟨h.defers,by simp [Act.put,h.size],fun t u hu=>?_⟩
  simp only [Env.set] at hu
  cases hb:Nat.beq t d with
  | true =>
    have:=Nat.eq_of_beq_eq_true hb
    subst this
    simp [hb] at hu
    subst hu
    have:=h.size
    simp [Act.put,this,hd]
  | false =>
    have hne:=Nat.ne_of_beq_eq_false hb
    simp [hb] at hu
    have h3:=h.at_ t u hu
    show (a.tmps.setIfInBounds d v)[t]?=some u
    rw [Array.getElem?_setIfInBounds_ne (fun e=>hne e.symm)]
    exact h3
theorem Agrees.putNone {n:Nat} {ρ:Env} {a:Act} (h:Agrees n ρ a) (d:Nat) (v:Value):Agrees n (ρ.set d none) (a.put (some d) v):=by
  refine ⟨h.defers,by simp [Act.put,h.size],fun t u hu=>?_⟩
  simp only [Env.set] at hu
  cases hb:Nat.beq t d with
  | true=>simp [hb] at hu
  | false =>
    have hne:=Nat.ne_of_beq_eq_false hb
    simp [hb] at hu
    have h3:=h.at_ t u hu
    show (a.tmps.setIfInBounds d v)[t]?=some u
    rw [Array.getElem?_setIfInBounds_ne (fun e=>hne e.symm)]
    exact h3
theorem Agrees.put0 {n:Nat} {ρ:Env} {a:Act} (h:Agrees n ρ a) (v:Value):Agrees n ρ (a.put none v):=h
/-! ## the variables of a loop or of a join -/
def setVars:List (Nat×Ty)->List AV->Env->Env
  | [],_,ρ=>ρ
  | (t,ty)::vs,l,ρ=>match ty.inj l with|some (v,r)=>setVars vs r (ρ.set t (some v))|none=>ρ
def projVars:List (Nat×Ty)->Env->Option (List AV)
  | [],_=>some []
  | (t,ty)::vs,ρ=>match ρ t with
    | some v=>(match ty.proj v,projVars vs ρ with|some a,some b=>some (a++b)|_,_=>none)
    | none=>none
def varsAts:List (Nat×Ty)->List At
  | []=>[]
  | (_,ty)::vs=>ty.ats++varsAts vs
theorem projVars_typed:∀ {vs:List (Nat×Ty)} {ρ:Env} {l:List AV},projVars vs ρ=some l->Typed (varsAts vs) l
  | [],ρ,l,h=>by simp [projVars] at h;subst h;exact .nil
  | (t,ty)::vs,ρ,l,h=>by
    simp only [projVars] at h
    cases h0 : ρ t with
    | none=>simp [h0] at h
    | some v =>
      cases h1:ty.proj v with
      | none=>simp [h0,h1] at h
      | some a =>
        cases h2:projVars vs ρ with
        | none=>simp [h0,h1,h2] at h
        | some b=>simp [h0,h1,h2] at h;subst h;exact (Ty.proj_typed h1).append (projVars_typed h2)
theorem setVars_agrees {n:Nat}:∀ {vs:List (Nat×Ty)} {ρ' ρb:Env} {l:List AV} {a:Act},projVars vs ρ'=some l->Agrees n ρ' a->Agrees n ρb a->Agrees n (setVars vs l ρb) a
  | [],ρ',ρb,l,a,h,h1,h2=>h2
  | (t,ty)::vs,ρ',ρb,l,a,h,h1,h2=>by
    simp only [projVars] at h
    cases h0 : ρ' t with
    | none=>simp [h0] at h
    | some v =>
      cases hp:ty.proj v with
      | none=>simp [h0,hp] at h
      | some x =>
        cases hq:projVars vs ρ' with
        | none=>simp [h0,hp,hq] at h
        | some y =>
          simp [h0,hp,hq] at h;subst h
          simp only [setVars,Ty.inj_proj hp]
          refine setVars_agrees hq h1 ⟨h2.defers,h2.size,fun u x hu=>?_⟩
          simp only [Env.set] at hu
          cases hb:Nat.beq u t with
          | true=>have:=Nat.eq_of_beq_eq_true hb;subst this;simp [hb] at hu;subst hu;exact h1.at_ _ _ h0
          | false=>simp [hb] at hu;exact h2.at_ u x hu
theorem Agrees.forget {n:Nat} {ρ:Env} {a a':Act} (h:Agrees n ρ a) {l:List Nat} (hs:SameBut l a a') (hd:a'.defers=[]) (hz:a'.tmps.size=n):Agrees n (ρ.forget l) a':=by
  refine ⟨hd,hz,fun t v hv=>?_⟩
  simp only [Env.forget] at hv
  cases hm:memNat t l with
  | true=>simp [hm] at hv
  | false =>
    simp [hm] at hv
    rw [hs.at_ t (fun hmem=>by rw [memNat_iff.2 hmem] at hm;cases hm)]
    exact h.at_ t v hv
end Go.Sx
set_option linter.unusedVariables false
set_option linter.unusedSimpArgs false
namespace Go.Sx
/-! ## tables -/
def inf (P:Program) (t:TypeId):Option TypeInfo:=P.types.toList[t]?
theorem inf_info {P:Program} {t:TypeId} {i:TypeInfo} (h:inf P t=some i):P.info? t=some i:=by
  unfold inf at h
  have h':P.types[t]?=some i:=by simpa using h
  have hlt:t<P.types.size:=(Array.getElem?_eq_some_iff.1 h').1
  unfold Tables.info?
  rw [if_pos hlt]
  exact h'
def und (P:Program) (t:TypeId):Option TypeDesc :=
  match inf P t with
  | some i=>match i.desc with
    | .named _ u=>match inf P u with|some j=>some j.desc|none=>none
    | d=>some d
  | none=>none
theorem und_underlying {P:Program} {t:TypeId} {d:TypeDesc} (h:und P t=some d):P.underlying t=some d:=by
  unfold und at h
  cases hi:inf P t with
  | none=>simp [hi] at h
  | some i =>
    rw [hi] at h
    have h1:=inf_info hi
    unfold Program.underlying
    rw [h1]
    obtain ⟨desc,str,size,bytes,hp,al,fa,zero,cmp,ms⟩:=i
    cases desc<;>simp only at h ⊢<;>try exact h
    rename_i nm u
    cases hj:inf P u with
    | none=>simp [hj] at h
    | some j=>rw [hj] at h;rw [inf_info hj];simpa using h
theorem run_und {P:Program} {t:TypeId} {d:TypeDesc} (h:und P t=some d) (w:World):(underlying t).run P w=.ok d w:=run_underlying (und_underlying h) w
theorem run_inf {P:Program} {t:TypeId} {i:TypeInfo} (h:inf P t=some i) (w:World):(typeInfo t).run P w=.ok i w:=by
  simp [typeInfo,inf_info h]
theorem run_size {P:Program} {t:TypeId} {i:TypeInfo} (h:inf P t=some i) (w:World):(sizeOf t).run P w=.ok i.size w:=by
  simp [sizeOf,run_inf h]
def cellTys (P:Program):Nat->TypeId->Option (List CT)
  | 0,_=>none
  | f+1,t =>
    match und P t with
    | some .bool=>some [.bool]
    | some (.int k)=>some [.int k]
    | some .string=>some [.str]
    | some (.slice _)=>some [.slc]
    | some (.pointer _)=>some [.ptr]
    | some (.map _ _)=>some [.map]
    | some (.func _ _ _)=>some [.val]
    | some (.interface _)=>some [.val]
    | some (.struct fs)=>fs.toList.foldr (fun x acc=>match cellTys P f x.type,acc with|some a,some b=>some (a++b)|_,_=>none) (some [])
    | some (.array n e)=>match cellTys P f e with|some l=>some (List.replicate n l).flatten|none=>none
    | _=>none
def bigT (P:Program) (t:TypeId):Option Nat :=
  match und P t with
  | some (.array n e)=>(match und P e,inf P e,inf P t with
    | some .bool,some q,some i=>cond (Nat.ble 64 n && (Nat.beq q.size 1 && Nat.beq i.size n)) (some n) none
    | _,_,_=>none)
  | _=>none
theorem bigT_of {P:Program} {t:TypeId} {n:Nat} (h:bigT P t=some n):∃ e q i,und P t=some (.array n e)/\und P e=some .bool/\inf P e=some q/\q.size=1/\inf P t=some i/\i.size=n:=by
  unfold bigT at h
  split at h
  · rename_i m e hd
    split at h
    · rename_i q i h1 h2 h3
      cases hb:(Nat.ble 64 m && (Nat.beq q.size 1 && Nat.beq i.size m)) with
      | false=>rw [hb] at h;cases h
      | true =>
        rw [hb] at h
        obtain rfl:m=n:=Option.some.inj h
        simp only [Bool.and_eq_true] at hb
        exact ⟨e,q,i,hd,h1,h2,Nat.eq_of_beq_eq_true hb.2.1,h3,Nat.eq_of_beq_eq_true hb.2.2⟩
    · cases h
  · cases h
def boolsV (l:List Bool):Value:=.agg (l.map Value.bool).toArray
def tyOf (P:Program) (t:TypeId):Option Ty :=
  match bigT P t with
  | some _=>some (.one .val)
  | none=>match und P t with
    | some (.struct _)|some (.array _ _)=>(match cellTys P 12 t with|some l=>some (.agg l)|none=>none)
    | _=>(match cellTys P 12 t with|some [c]=>some (.one c)|_=>none)
/-! ## calls and runs -/
def CallsV (P:Program) (f:FuncId) (args:Array Value) (w:World) (K:Value->World->Prop):Prop :=
  Calls P f args w fun e w'=>∃ v,e=.returned v/\K v w'
theorem CallsV.mono {P:Program} {f:FuncId} {args:Array Value} {w:World} {K K':Value->World->Prop} (h:CallsV P f args w K) (hk:∀ v w',K v w'->K' v w'):CallsV P f args w K' :=
  Calls.mono h fun _ _ ⟨v,e,k⟩=>⟨v,e,hk _ _ k⟩
def RunsTo {α:Type} (P:Program) (s:Sem α) (w:World) (v : α) (w':World):Prop:=s.run P w=.ok v w'
def Does (P:Program) (σ:Operand->Value) (o:Oper) (w:World) (K:Value->World->Prop):Prop :=
  (∃ v w',(execOp σ o).run P w=.ok (.value v) w'/\K v w')\/(∃ w',(execOp σ o).run P w=.ok .skip w'/\K undef w') \/
  (∃ f args,(execOp σ o).run P w=.ok (.enter f args) w/\CallsV P f args w K)
theorem Does.wp {P:Program} {a:Act} {o:Oper} {w:World} {K:Value->World->Prop} {Q:Exit->Act->World->Prop} (h:Does P a.eval o w K) :
    o.wp P a w (fun a' w'=>∃ v,a'=a.put o.dst v/\K v w') Q:=by
  unfold Oper.wp
  rcases h with ⟨v,w',hr,hk⟩|⟨w',hr,hk⟩|⟨f,args,hr,hc⟩
  · rw [hr];exact ⟨v,rfl,hk⟩
  · rw [hr];exact ⟨_,rfl,hk⟩
  · rw [hr,Oper.upon_enter]
    exact Calls.mono hc fun e w'' ⟨v,he,hk⟩=>by subst he;exact ⟨v,rfl,hk⟩
theorem Does.mono {P:Program} {σ:Operand->Value} {o:Oper} {w:World} {K K':Value->World->Prop} (h:Does P σ o w K) (hk:∀ v w',K v w'->K' v w'):Does P σ o w K':=by
  rcases h with ⟨v,w',hr,h⟩|⟨w',hr,h⟩|⟨f,args,hr,hc⟩
  · exact .inl ⟨v,w',hr,hk _ _ h⟩
  · exact .inr (.inl ⟨w',hr,hk _ _ h⟩)
  · exact .inr (.inr ⟨f,args,hr,hc.mono hk⟩)
def Gives (P:Program) (σ:Operand->Value) (o:Oper) (K:Value->Prop):Prop :=
  ∃ v,(∀ w,(execOp σ o).run P w=.ok (.value v) w)/\K v
theorem Gives.does {P:Program} {σ:Operand->Value} {o:Oper} {K:Value->World->Prop} {w:World} (h:Gives P σ o (fun v=>K v w)):Does P σ o w K :=
  let ⟨v,hr,hk⟩:=h;.inl ⟨v,w,hr w,hk⟩
def Knows (ρ:Env) (σ:Operand->Value):Prop:=∀ x v,ev ρ x=some v->σ x=v
theorem Knows.list {ρ:Env} {σ:Operand->Value} (h:Knows ρ σ):∀ {l:List Operand} {vs:List Value},evs ρ l=some vs->l.map σ=vs
  | [],vs,he=>by simp [evs] at he;simp [he]
  | x::l,vs,he=>by
    simp only [evs] at he
    cases h1:ev ρ x with
    | none=>simp [h1] at he
    | some v =>
      cases h2:evs ρ l with
      | none=>simp [h1,h2] at he
      | some r=>simp [h1,h2] at he;subst he;simp [h x v h1,h.list h2]
/-! ## operations that look at no world -/
def intBin (op:BinOp) (k:IntKind) (a b:Int) (K:Value->Prop):Prop :=
  match op with
  | .add=>K (.int k (k.wrap (a+b)))
  | .sub=>K (.int k (k.wrap (a-b)))
  | .mul=>K (.int k (k.wrap (a*b)))
  | .quo=>b≠0/\K (.int k (k.wrap (a.tdiv b)))
  | .rem=>b≠0/\K (.int k (a.tmod b))
  | .and=>K (.int k (k.wrap ((BitVec.ofInt k.bits a &&& BitVec.ofInt k.bits b).toNat:Int)))
  | .or=>K (.int k (k.wrap ((BitVec.ofInt k.bits a ||| BitVec.ofInt k.bits b).toNat:Int)))
  | .xor=>K (.int k (k.wrap ((BitVec.ofInt k.bits a ^^^ BitVec.ofInt k.bits b).toNat:Int)))
  | .andNot=>K (.int k (k.wrap ((BitVec.ofInt k.bits a &&& ~~~ BitVec.ofInt k.bits b).toNat:Int)))
  | .eql=>K (.bool (decide (a=b)))
  | .neq=>K (.bool (!decide (a=b)))
  | .lss=>K (.bool (decide (a<b)))
  | .leq=>K (.bool (decide (a<=b)))
  | .gtr=>K (.bool (decide (b<a)))
  | .geq=>K (.bool (decide (b<=a)))
  | .shl=>0<=b/\K (.int k (k.wrap (a*2 ^ (min b.toNat k.bits))))
  | .shr=>0<=b/\K (.int k (a.fdiv (2 ^ (min b.toNat k.bits))))
def isShift:BinOp->Bool | .shl | .shr=>true|_=>false
def strBin (op:BinOp) (a b:ByteArray) (K:Value->Prop):Prop :=
  match op with
  | .add=>a.size+b.size<=9223372036854775807/\K (.string (a++b))
  | .eql=>K (.bool (a.toList == b.toList))
  | .neq=>K (.bool (!(a.toList == b.toList)))
  | .lss=>K (.bool (Op.bytesLess a.toList b.toList))
  | .leq=>K (.bool (Op.bytesLess a.toList b.toList || a.toList == b.toList))
  | .gtr=>K (.bool (!(Op.bytesLess a.toList b.toList || a.toList == b.toList)))
  | .geq=>K (.bool (!Op.bytesLess a.toList b.toList))
  | _=>False
def eqNil (t:Option TypeDesc) (x y:Value):Option Bool :=
  match t,x,y with
  | some .bool,.bool a,.bool b=>some (decide (a=b))
  | some (.pointer _),.pointer a,.pointer none=>some a.isNone
  | some (.pointer _),.pointer none,.pointer b=>some b.isNone
  | some (.slice _),.slice a _ _,.slice none _ _=>some a.isNone
  | some (.slice _),.slice none _ _,.slice b _ _=>some b.isNone
  | some (.map _ _),.map a,.map none=>some a.isNone
  | some (.map _ _),.map none,.map b=>some b.isNone
  | some (.func _ _ _),.func _ _ _,.nilFunc=>some false
  | some (.func _ _ _),.nilFunc,.nilFunc=>some true
  | _,_,_=>none
def binS (P:Program) (op:BinOp) (t:TypeId) (a b:Value) (K:Value->Prop):Prop :=
  match a,b with
  | .int k x,.int k' y=>if isShift op then intBin op k x y K else (if k=k' then intBin op k x y K else False)
  | .string x,.string y=>strBin op x y K
  | x,y=>match op,eqNil (und P t) x y with
    | .eql,some r=>K (.bool r)
    | .neq,some r=>K (.bool (!r))
    | _,_=>False
def isPtrT:Option TypeDesc->Bool|some (.pointer _)=>true|_=>false
def constO:Operand->Bool | .const _=>true|_=>false
def ptrS (P:Program) (op:BinOp) (t:TypeId) (a b:Value) (K:Value->Prop):Prop :=
  match a,b,und P t with
  | .pointer a,.pointer b,some (.pointer e)=>(match inf P e,op with
    | some _,.eql=>∃ ad:Addr,(a=some ad/\b=some ad)/\K (.bool true)
    | some _,.neq=>∃ ad:Addr,(a=some ad/\b=some ad)/\K (.bool false)
    | _,_=>False)
  | _,_,_=>False
theorem ptrS_run {P:Program} {op:BinOp} {t:TypeId} {a b:Value} {K:Value->Prop} (h:ptrS P op t a b K) :
    ∃ v,(∀ w,(binOp op t a b).run P w=.ok v w)/\(∀ x y w,(eqGuard op t x y a b).run P w=.ok () w)/\K v:=by
  unfold ptrS at h
  split at h
  · rename_i e hd
    split at h
    · rename_i i hi
      obtain ⟨ad,⟨rfl,rfl⟩,hK⟩:=h
      exact ⟨_,fun w=>run_eql_ptr_same w ad (und_underlying hd) (inf_info hi),fun x y w=>by simp [eqGuard],hK⟩
    · rename_i i hi
      obtain ⟨ad,⟨rfl,rfl⟩,hK⟩:=h
      exact ⟨_,fun w=>Go.Lib.run_neq_ptr_same w ad (und_underlying hd) (inf_info hi),fun x y w=>by simp [eqGuard],hK⟩
    · exact h.elim
  · exact h.elim
def unS (op:UnOp) (a:Value) (K:Value->Prop):Prop :=
  match op,a with
  | .neg,.int k n=>K (.int k (k.wrap (0-n)))
  | .xor,.int k n=>K (.int k (k.wrap ((BitVec.ofInt k.bits (if k.signed then -1 else k.max) ^^^ BitVec.ofInt k.bits n).toNat:Int)))
  | .not,.bool b=>K (.bool (!b))
  | _,_=>False
def flatEq (P:Program):List Field->List Value->List Value->Option Bool
  | [],_,_=>some true
  | f::fs,xs,ys=>match und P f.type,xs[f.offset]?,ys[f.offset]?,flatEq P fs xs ys with
    | some (.int _),some (.int k a),some (.int k' b),some r=>if k=k' then some (decide (a=b) && r) else none
    | some .string,some (.string a),some (.string b),some r=>some (a.toList == b.toList && r)
    | some .bool,some (.bool a),some (.bool b),some r=>some (decide (a=b) && r)
    | _,_,_,_=>none
def aggS (P:Program) (op:BinOp) (t:TypeId) (xs ys:Array Value) (K:Value->Prop):Prop :=
  match und P t with
  | some (.struct fs) => cond (P.stoodInHeld t || P.eqGuardType P.depth t || fs.toList.any fun f => f.name == "_") False (match flatEq P fs.toList xs.toList ys.toList with
    | some r=>(match op with | .eql=>K (.bool r) | .neq=>K (.bool (!r))|_=>False)
    | none=>False)
  | _=>False
def fieldsOf (P:Program) (t:TypeId):Option (List Field):=match und P t with|some (.struct fs)=>some fs.toList|_=>none
def isAggT (P:Program) (t:TypeId):Option Bool:=match und P t with|some (.struct _)|some (.array _ _)=>some true|some _=>some false|none=>none
def partS (P:Program) (t:TypeId) (cs:List Value) (off:Nat) (K:Value->Prop):Prop :=
  match isAggT P t,inf P t with
  | some true,some i=>K (.agg ((cs.drop off).take i.size).toArray)
  | some false,_=>(match cs[off]? with|some v=>K v|none=>False)
  | _,_=>False
def optB (ρ:Env):Option Operand->Option (Option Value)
  | none=>some none
  | some x=>match ev ρ x with|some v=>some (some v)|none=>none
def bndS (v:Value) (most:Nat) (K:Nat->Prop):Prop:=match v with | .int _ n=>(0<=n/\n<=(most:Int))/\K n.toNat|_=>False
def boundsS (len cap:Nat) (lo hi mx:Option Value) (K:Nat->Nat->Nat->Prop):Prop :=
  match hi,mx with
  | some h,some m=>bndS m cap fun m=>bndS h m fun h=>(match lo with|some l=>bndS l h fun l=>K l h m|none=>K 0 h m)
  | some h,none=>bndS h cap fun h=>(match lo with|some l=>bndS l h fun l=>K l h cap|none=>K 0 h cap)
  | none,none=>(match lo with|some l=>bndS l len fun l=>K l len cap|none=>K 0 len cap)
  | none,some _=>False
def cutAt (a:Option Addr) (m l size:Nat):Option Addr:=if m=l then a else a.map (·.add (l*size))
def allEv (ρ:Env):List (Nat×Operand)->Option (List (Nat×Value))
  | []=>some []
  | (i,x)::l=>match ev ρ x,allEv ρ l with|some v,some r=>some ((i,v)::r)|_,_=>none
def setAt (off:Nat) (vs cs:List Value):List Value:=cs.take off++vs++cs.drop (off+vs.length)
def cellsL:Value->List Value | .agg cs=>cs.toList|v=>[v]
def fillL (place:Nat->Option (Nat×Nat)) (cells:List Value):List (Nat×Value)->Option (List Value)
  | []=>some cells
  | (i,v)::rest=>match place i with
    | none=>none
    | some (off,size)=>if (cellsL v).length=size then if off+(cellsL v).length<=cells.length then fillL place (setAt off (cellsL v) cells) rest else none else none
def placesL (P:Program):List Field->Option (List (Nat×Nat))
  | []=>some []
  | f::l=>match inf P f.type,placesL P l with|some i,some r=>some ((f.offset,i.size)::r)|_,_=>none
def buildS (P:Program) (t:TypeId) (parts:List (Nat×Value)) (K:Value->Prop):Prop :=
  match inf P t,und P t with
  | some i,some (.struct fs)=>(match i.zero,placesL P fs.toList with
    | some z,some pl=>(match fillL (fun j=>pl[j]?) (cellsL z) parts with|some cs=>K (.agg cs.toArray)|none=>False)
    | _,_=>False)
  | some i,some (.array _ e)=>(match i.zero,inf P e with
    | some z,some j=>(match fillL (fun q=>some (q*j.size,j.size)) (cellsL z) parts with|some cs=>K (.agg cs.toArray)|none=>False)
    | _,_=>False)
  | _,_=>False
def idxS:Nat->Nat->Int->(Nat->Prop)->Prop
  | 0,_,_,_=>False
  | n+1,i,j,K=>cond (decide (j=(i:Int))) (K i) (idxS n (i+1) j K)
theorem idxS_at {K:Nat->Prop} {j:Int}:∀ {n i:Nat},idxS n i j K->∃ k:Nat,j=(k:Int)/\K k
  | 0,_,h=>h.elim
  | n+1,i,h=>by
    unfold idxS at h
    by_cases hj:j=(i:Int)
    · rw [decide_eq_true hj] at h;exact ⟨i,hj,h⟩
    · rw [decide_eq_false hj] at h;exact idxS_at h
def idxB (n:Nat) (x i:Option Value) (K:Value->Prop):Prop :=
  match x,i with
  | some v,some (.int _ j)=>∃ l:List Bool,(v=boolsV l/\l.length=n)/\(0<=j/\j<(n:Int))/\K (.bool (l.getD j.toNat false))
  | _,_=>False
def pureS (P:Program) (ρ:Env) (op:Op) (K:Value->Prop):Prop :=
  match op with
  | .move x | .assign x=>(match ev ρ x with|some v=>K v|none=>False)
  | .pick c a b=>(match ev ρ c with
    | some (.bool c)=>cond c (match ev ρ a with|some v=>K v|none=>False) (match ev ρ b with|some v=>K v|none=>False)
    | _=>False)
  | .binOp op t x y _=>(match ev ρ x,ev ρ y with|some (.agg a),some (.agg b)=>aggS P op t a b K|some a,some b=>cond (isPtrT (und P t) && !(constO x || constO y)) (ptrS P op t a b K) (binS P op t a b K)|_,_=>False)
  | .unOp op _ x=>(match ev ρ x with|some v=>unS op v K|none=>False)
  | .convert s d x=>(match und P d,ev ρ x with
    | some (.int k),some (.int _ n)=>(match und P s with|some _=>K (.int k (k.wrap n))|none=>False)
    | some .string,some (.string b)=>(match und P s with|some _=>K (.string b)|none=>False)
    | _,_=>False)
  | .extract x i=>(match ev ρ x with|some (.tuple vs)=>(match vs.toList[i]? with|some v=>K v|none=>False)|_=>False)
  | .field t x f=>(match fieldsOf P t,ev ρ x with
    | some fs,some (.agg cs)=>(match fs[f]? with|some fd=>partS P fd.type cs.toList fd.offset K|none=>False)
    | _,_=>False)
  | .fieldAddr t x f=>(match fieldsOf P t,ev ρ x with
    | some fs,some (.pointer (some a))=>(match fs[f]? with
      | some fd=>(match inf P fd.type with|some i=>(if i.size=0 then False else K (.pointer (some (a.add fd.offset))))|none=>False)
      | none=>False)
    | _,_=>False)
  | .indexAddr t x i=>(match und P t,ev ρ x,ev ρ i with
    | some (.slice e),some (.slice A n _),some (.int _ j)=>(match inf P e with
      | some q=>∃ ad,A=some ad/\(0<=j/\j<(n:Int))/\K (.pointer (some (ad.add (j.toNat*q.size))))
      | none=>False)
    | some (.array n e),some (.pointer (some ad)),some (.int _ j)=>(match inf P e with
      | some q=>(0<=j/\j<(n:Int))/\K (.pointer (some (ad.add (j.toNat*q.size))))
      | none=>False)
    | _,_,_=>False)
  | .index t x i=>(match bigT P t with
    | some n=>idxB n (ev ρ x) (ev ρ i) K
    | none=>match und P t,ev ρ x,ev ρ i with
    | some .string,some (.string s),some (.int _ j)=>∃ b,(0<=j/\s[j.toNat]?=some b)/\K (.int .u8 b.toNat)
    | some (.array n e),some (.agg cs),some (.int _ j)=>(match inf P e with
      | some q=>(0<=j/\j<(n:Int))/\idxS n 0 j fun k=>partS P e cs.toList (k*q.size) K
      | none=>False)
    | _,_,_=>False)
  | .slice t x lo hi mx=>(match und P t,ev ρ x,optB ρ lo,optB ρ hi,optB ρ mx with
    | some .string,some (.string s),some lo,some hi,some none=>boundsS s.size s.size lo hi none fun l h _=>K (.string (s.extract l h))
    | some (.slice e),some (.slice A n c),some lo,some hi,some mx=>(match inf P e with
      | some q=>boundsS n c lo hi mx fun l h m=>K (.slice (cutAt A m l q.size) (h-l) (m-l))
      | none=>False)
    | some (.array n e),some (.pointer (some ad)),some lo,some hi,some mx=>(match inf P e with
      | some q=>boundsS n n lo hi mx fun l h m=>K (.slice (cutAt (some ad) m l q.size) (h-l) (m-l))
      | none=>False)
    | _,_,_,_,_=>False)
  | .build t parts=>(match allEv ρ parts.toList with|some ps=>buildS P t ps K|none=>False)
  | .makeFunc fn first captured=>(match evs ρ first.toList,evs ρ captured.toList with|some a,some b=>K (.func fn a.toArray b.toArray)|_,_=>False)
  | .makeInterface t x=>(match und P t,ev ρ x with
    | some (.interface _),_=>False
    | some _,some v=>K (.iface t v)
    | _,_=>False)
  | .nilCheck x=>(match ev ρ x with
    | some (.pointer p)=>∃ a,p=some a/\K (.pointer (some a))
    | some (.func (.func f) first captured)=>K (.func (.func f) first captured)
    | _=>False)
  | .call c=>(match c.callee,c.argTypes.toList,evs ρ c.args.toList with
    | .builtin .len,t::_,some (v::_)=>(match und P t,v with
      | some .string,.string s=>K (.int .i64 s.size)
      | some (.slice _),.slice _ n _=>K (.int .i64 n)
      | some (.array n _),_=>K (.int .i64 n)
      | some (.map _ _),.map none=>K (.int .i64 0)
      | _,_=>False)
    | .builtin .min,_,some [.int k x,.int k' y]=>if k=k' then K (.int k (if y<x then y else x)) else False
    | .builtin .max,_,some [.int k x,.int k' y]=>if k=k' then K (.int k (if y > x then y else x)) else False
    | .builtin .min,_,some [.int k x,.int k' y,.int k'' z]=>if k=k' then if k=k'' then K (.int k (if z<(if y<x then y else x) then z else (if y<x then y else x))) else False else False
    | .builtin .max,_,some [.int k x,.int k' y,.int k'' z]=>if k=k' then if k=k'' then K (.int k (if z > (if y > x then y else x) then z else (if y > x then y else x))) else False else False
    | .builtin .cap,t::_,some (v::_)=>(match und P t,v with|some (.slice _),.slice _ _ c=>K (.int .i64 c)|_,_=>False)
    | _,_,_=>False)
  | _=>False
/-! ## soundness of the pure ones -/
section
variable {P:Program} {ρ:Env} {σ:Operand->Value}
theorem decide_beq_int (a b:Int):(a == b)=decide (a=b):=by
  by_cases h:a=b<;>simp [h]
theorem run_binOp_int {k:IntKind} {a b:Int} {op:BinOp} (hs:isShift op=false) (t:TypeId) (w:World):(binOp op t (.int k a) (.int k b)).run P w =
    (match op with
    | .add | .sub | .mul=>Op.intArith op k a b
    | .quo | .rem=>Op.intDiv op k a b
    | .and | .or | .xor | .andNot=>Op.intBits op k a b
    | _=>Op.intCmp op a b).run P w:=by
  cases op<;>simp [isShift] at hs<;>simp [binOp]
theorem run_intBin {k:IntKind} {a b:Int} {op:BinOp} {K:Value->Prop} (hs:isShift op=false) (h:intBin op k a b K) (t:TypeId):∃ v,(∀ w,(binOp op t (.int k a) (.int k b)).run P w=.ok v w)/\K v:=by
  have e:=fun w=>run_binOp_int (P:=P) (k:=k) (a:=a) (b:=b) hs t w
  cases op<;>simp only [intBin] at h<;>simp only [] at e
  case add|sub|mul=>exact ⟨_,fun w=>(e w).trans rfl,h⟩
  case and|or|xor|andNot=>exact ⟨_,fun w=>(e w).trans rfl,h⟩
  case quo=>exact ⟨_,fun w=>(e w).trans (by simp [Op.intDiv,h.1]),h.2⟩
  case rem=>exact ⟨_,fun w=>(e w).trans (by simp [Op.intDiv,h.1]),h.2⟩
  case lss|leq|gtr|geq=>exact ⟨_,fun w=>(e w).trans rfl,h⟩
  case eql=>exact ⟨_,fun w=>(e w).trans (by simp [Op.intCmp,decide_beq_int]),h⟩
  case neq=>exact ⟨_,fun w=>(e w).trans (by simp [Op.intCmp,decide_beq_int,bne]),h⟩
  case shl|shr=>simp [isShift] at hs
theorem run_shift {k k':IntKind} {a b:Int} {op:BinOp} {K:Value->Prop} (hs:isShift op=true) (h:intBin op k a b K) (t:TypeId):∃ v,(∀ w,(binOp op t (.int k a) (.int k' b)).run P w=.ok v w)/\K v:=by
  cases op<;>simp [isShift] at hs<;>simp only [intBin] at h<;>obtain ⟨h1,h2⟩:=h<;>have h3 : ¬ b<0:=by omega
  · exact ⟨_,fun w=>by simp only [binOp,Op.shift,if_neg h3];rfl,h2⟩
  · exact ⟨_,fun w=>by simp only [binOp,Op.shift,if_neg h3];rfl,h2⟩
theorem run_strBin {a b:ByteArray} {op:BinOp} {K:Value->Prop} (h:strBin op a b K) (t:TypeId):∃ v,(∀ w,(binOp op t (.string a) (.string b)).run P w=.ok v w)/\K v:=by
  cases op<;>simp only [strBin] at h
  case add =>
    have h1 : ¬ (((a.size+b.size:Nat):Int) > IntKind.i64.max):=by have:=h.1;simp [IntKind.max,IntKind.signed,IntKind.bits];omega
    exact ⟨_,fun w=>by simp only [binOp,Op.stringOp,if_neg h1];rfl,h.2⟩
  case eql|neq|lss|leq|gtr|geq=>exact ⟨_,fun w=>by simp only [binOp,Op.stringOp];rfl,h⟩
theorem run_eqNil' {t:TypeId} {x y:Value} {r:Bool} (h:eqNil (und P t) x y=some r) (w:World) (d:Nat):(Op.equalIn (d+1) t x y).run P w=.ok r w:=by
  cases hd:und P t with
  | none=>rw [hd] at h;simp [eqNil] at h
  | some d =>
    rw [hd] at h
    unfold eqNil at h
    split at h<;>simp only [Option.some.injEq,reduceCtorEq,TypeDesc.pointer.injEq,TypeDesc.slice.injEq,TypeDesc.map.injEq,TypeDesc.func.injEq] at*<;> subst_vars <;>
      simp only [Op.equalIn,Sem.run_bind,run_und hd,Result.andThen_ok,Sem.run_pure,Option.isNone_none]<;>(try rfl)<;>(try (simp;done))
    all_goals (try (rename_i a _;cases a<;>rfl))
    all_goals (try (rename_i a;cases a<;>rfl))
    all_goals (rename_i a _ _ _ _;cases a<;>rfl)
theorem run_eqNil {t:TypeId} {x y:Value} {r:Bool} (h:eqNil (und P t) x y=some r) (w:World):(Op.equal t x y).run P w=.ok r w:=run_eqNil' h w 9999
theorem binS_run {op:BinOp} {t:TypeId} {a b:Value} {K:Value->Prop} (h:binS P op t a b K) :
    ∃ v,(∀ w,(binOp op t a b).run P w=.ok v w)/\K v:=by
  unfold binS at h
  split at h
  · rename_i k x k' y
    cases hs:isShift op with
    | true=>simp only [hs,if_true] at h;exact run_shift hs h t
    | false =>
      simp only [hs,Bool.false_eq_true,if_false] at h
      split at h
      · rename_i hk;subst hk;exact run_intBin hs h t
      · exact h.elim
  · exact run_strBin h t
  · rename_i x y hn1 hn2
    split at h
    · rename_i r hr
      refine ⟨_,fun w=>?_,h⟩
      have e:=run_eqNil hr w
      unfold eqNil at hr
      split at hr<;>first|(simp at hr;done)|(simp only [binOp,Sem.run_bind,e,Result.andThen_ok,Sem.run_pure])
    · rename_i r hr
      refine ⟨_,fun w=>?_,h⟩
      have e:=run_eqNil hr w
      unfold eqNil at hr
      split at hr<;>first|(simp at hr;done)|(simp only [binOp,Sem.run_bind,e,Result.andThen_ok,Sem.run_pure])
    · exact h.elim
theorem unS_run {op:UnOp} {a:Value} {K:Value->Prop} (h:unS op a K):∃ v,(∀ w,(Op.unary op a).run P w=.ok v w)/\K v:=by
  unfold unS at h
  split at h
  · exact ⟨_,fun w=>rfl,h⟩
  · exact ⟨_,fun w=>rfl,h⟩
  · exact ⟨_,fun w=>rfl,h⟩
  · exact h.elim
theorem run_eqGuard {op:BinOp} {t:TypeId} {x y:Operand} {a b:Value} {K:Value->Prop} (h:binS P op t a b K) (w:World):(eqGuard op t x y a b).run P w=.ok () w:=by
  unfold binS at h
  unfold eqGuard
  split at h
  · split<;>simp
  · split<;>simp
  · split at h
    · rename_i r hr
      unfold eqNil at hr
      split at hr<;>first|(simp at hr;done)|simp
    · rename_i r hr
      unfold eqNil at hr
      split at hr<;>first|(simp at hr;done)|simp
    · exact h.elim
theorem run_isAgg {t:TypeId} {b:Bool} (h:isAggT P t=some b) (w:World):(isAgg t).run P w=.ok b w:=by
  unfold isAggT at h
  unfold isAgg
  cases hd:und P t with
  | none=>rw [hd] at h;simp at h
  | some d=>rw [hd] at h;cases d<;>simp at h<;>subst h<;>simp [run_und hd]
theorem partS_run {t:TypeId} {cs:Array Value} {off:Nat} {K:Value->Prop} (h:partS P t cs.toList off K):∃ v,(∀ w,(part t cs off).run P w=.ok v w)/\K v:=by
  unfold partS at h
  split at h
  · rename_i i ha hi
    refine ⟨_,fun w=>?_,h⟩
    simp only [part,Sem.run_bind,run_isAgg ha,Result.andThen_ok,if_true,run_size hi,Sem.run_pure]
    congr 2
    rw [<- Array.toList_inj]
    simp [Array.toList_extract,List.extract]
  · rename_i ha
    split at h
    · rename_i v hv
      refine ⟨v,fun w=>?_,h⟩
      have hv':cs[off]?=some v:=by simpa using hv
      simp only [part,Sem.run_bind,run_isAgg ha,Result.andThen_ok,Bool.false_eq_true,if_false,hv',Sem.run_pure]
    · exact h.elim
  · exact h.elim
theorem flatEq_run {xs ys : Array Value} (w : World) (d : Nat) : ∀ {fs : List Field} {r : Bool}, flatEq P fs xs.toList ys.toList = some r → (fs.any fun f => f.name == "_") = false → (Op.eqFields (d + 1) xs ys fs).run P w = .ok r w
  | [],r,h,_=>by simp [flatEq] at h;subst h;simp [Op.eqFields]
  | f::fs,r,h,hn=>by
    simp only [List.any_cons,Bool.or_eq_false_iff] at hn
    have hne : f.name ≠ "_" := by simpa using hn.1
    have go:∀ (a b:Value) (s r':Bool),xs.toList[f.offset]?=some a->ys.toList[f.offset]?=some b->isAggT P f.type=some false->(Op.equalIn (d+1) f.type a b).run P w=.ok s w->flatEq P fs xs.toList ys.toList=some r'->r=(s && r')->(Op.eqFields (d+1) xs ys (f::fs)).run P w=.ok r w:=by
      intro a b s r' ha hb hag he hr hrr
      have ha':xs[f.offset]?=some a:=by simpa using ha
      have hb':ys[f.offset]?=some b:=by simpa using hb
      have pa:(part f.type xs f.offset).run P w=.ok a w:=by simp only [part,Sem.run_bind,run_isAgg hag,Result.andThen_ok,Bool.false_eq_true,if_false,ha',Sem.run_pure]
      have pb:(part f.type ys f.offset).run P w=.ok b w:=by simp only [part,Sem.run_bind,run_isAgg hag,Result.andThen_ok,Bool.false_eq_true,if_false,hb',Sem.run_pure]
      have ih:=flatEq_run w d hr hn.2
      rw [Op.eqFields,if_pos hne]
      simp only [Sem.run_bind,pa,pb,he,Result.andThen_ok]
      cases s with
      | false=>simp [hrr]
      | true=>simp [hrr,ih]
    simp only [flatEq] at h
    split at h
    · rename_i k0 k a k' b r' hu ha hb hr
      split at h
      · rename_i hk;subst hk
        refine go _ _ (a == b) r' ha hb (by simp [isAggT,hu]) (run_equalIn_int w d f.type k k0 a b (und_underlying hu)) hr ?_
        simp at h;rw [<- h];by_cases e:a=b<;>simp [e]
      · cases h
    · rename_i a b r' hu ha hb hr
      refine go _ _ (a.toList == b.toList) r' ha hb (by simp [isAggT,hu]) (run_equalIn_string w d f.type a b (und_underlying hu)) hr ?_
      simp at h;rw [<- h]
    · rename_i a b r' hu ha hb hr
      refine go _ _ (a == b) r' ha hb (by simp [isAggT,hu]) (run_equalIn_bool' w d f.type a b (und_underlying hu)) hr ?_
      simp at h;rw [<- h];cases a<;>cases b<;>rfl
    · cases h
theorem aggS_run {op:BinOp} {t:TypeId} {xs ys:Array Value} {K:Value->Prop} (h:aggS P op t xs ys K) :
    ∃ v,(∀ w,(binOp op t (.agg xs) (.agg ys)).run P w=.ok v w)/\(∀ w x y,(eqGuard op t x y (.agg xs) (.agg ys)).run P w=.ok () w)/\K v:=by
  unfold aggS at h
  split at h
  · rename_i fs hu
    cases hg : (P.stoodInHeld t || P.eqGuardType P.depth t || fs.toList.any fun f => f.name == "_") with
    | true=>rw [hg] at h;exact h.elim
    | false =>
      rw [hg] at h
      simp only [Bool.or_eq_false_iff] at hg
      simp only [cond_false] at h
      split at h
      · rename_i r hr
        have hf:P.fieldsOf t=fs:=by simp [Program.fieldsOf,und_underlying hu]
        have he:∀ w,(Op.equalIn 10000 t (.agg xs) (.agg ys)).run P w=.ok r w:=fun w=>by
          rw [run_equalIn_struct w 9999 t xs ys (by rw [hf];exact und_underlying hu) hg.1.1,hf]
          exact flatEq_run w 9998 hr hg.2
        split at h
        · exact ⟨_,fun w=>by rw [run_eql_struct,he];rfl,fun w x y=>run_eqGuard_agg w _ t x y xs ys hg.1.2,h⟩
        · exact ⟨_,fun w=>by rw [run_neq_struct,he];rfl,fun w x y=>run_eqGuard_agg w _ t x y xs ys hg.1.2,h⟩
        · exact h.elim
      · exact h.elim
  · exact h.elim
end
end Go.Sx
set_option linter.unusedVariables false
set_option linter.unusedSimpArgs false
namespace Go.Sx
section
variable {P:Program} {ρ:Env} {σ:Operand->Value}
theorem cellsL_eq (v:Value):cellsL v=v.cells.toList:=by cases v<;>rfl
theorem setAt_eq (off:Nat):∀ (vs cs:List Value),off+vs.length<=cs.length ->
    (vs.zipIdx.foldl (fun (acc:List Value) (x:Value×Nat)=>acc.set (off+x.2) x.1) cs)=setAt off vs cs:=by
  suffices H:∀ (vs:List Value) (k:Nat) (cs:List Value),off+k+vs.length<=cs.length ->
      ((vs.zipIdx k).foldl (fun (acc:List Value) (x:Value×Nat)=>acc.set (off+x.2) x.1) cs)=setAt (off+k) vs cs by
    intro vs cs h;simpa using H vs 0 cs (by simpa using h)
  intro vs
  induction vs with
  | nil=>intro k cs h;simp [setAt]
  | cons v vs ih =>
    intro k cs h
    simp only [List.zipIdx_cons,List.foldl_cons,List.length_cons] at h ⊢
    rw [ih (k+1) _ (by simp;omega)]
    unfold setAt
    apply List.ext_getElem?
    intro i
    simp only [List.append_assoc,List.getElem?_append,List.getElem?_take,List.length_take,List.length_set,List.length_cons,List.getElem?_drop,List.getElem?_set,List.getElem?_cons]
    grind
theorem foldl_set_arr (off:Nat):∀ (l:List (Value×Nat)) (cs:Array Value),
    (l.foldl (fun (cs:Array Value) (x:Value×Nat)=>cs.setIfInBounds (off+x.2) x.1) cs).toList=l.foldl (fun (acc:List Value) (x:Value×Nat)=>acc.set (off+x.2) x.1) cs.toList:=by
  intro l
  induction l with
  | nil=>intro cs;rfl
  | cons x l ih=>intro cs;simp only [List.foldl_cons];rw [ih];simp
theorem fill_eq (place:Nat->Option (Nat×Nat)):∀ (parts:List (Nat×Value)) (cells:List Value) (out:List Value),
    fillL place cells parts=some out->Instr.fill place cells.toArray parts=some out.toArray
  | [],cells,out,h=>by simp [fillL] at h;simp [Instr.fill,h]
  | (i,v)::rest,cells,out,h=>by
    simp only [fillL] at h
    simp only [Instr.fill]
    cases hp:place i with
    | none=>simp [hp] at h
    | some q =>
      obtain ⟨off,size⟩:=q
      simp only [hp] at h ⊢
      split at h
      · rename_i h1
        split at h
        · rename_i h2
          have ih:=fill_eq place rest _ out h
          have e1:v.cells.size=size:=by rw [<- h1,cellsL_eq];simp
          have e2 : ¬ (off+v.cells.size > cells.toArray.size):=by have:=h2;rw [cellsL_eq] at this;simp at this ⊢;omega
          rw [if_neg (by simp only [ne_eq,e1,not_true_eq_false,Bool.or_eq_true,decide_eq_true_eq,false_or];simpa [e1] using e2)]
          have e3:(Array.foldl (fun (cs:Array Value) (x:Value×Nat)=>cs.setIfInBounds (off+x.2) x.1) cells.toArray v.cells.zipIdx)=(setAt off (cellsL v) cells).toArray:=by
            rw [<- Array.toList_inj,<- Array.foldl_toList,foldl_set_arr,Array.toList_zipIdx,<- cellsL_eq]
            exact setAt_eq off (cellsL v) cells (by omega)
          rw [<- ih]
          congr 1
        · cases h
      · cases h
theorem bndS_run {v:Value} {y:Nat} {K:Nat->Prop} (code:BoundsCode) (h:bndS v y K):∃ n,(∀ w,(Instr.sliceBound v y code).run P w=.ok n w)/\K n:=by
  unfold bndS at h
  split at h
  · rename_i k n
    refine ⟨n.toNat,fun w=>?_,h.2⟩
    simp only [Instr.sliceBound,asIntOf,Sem.run_bind,Sem.run_pure,Result.andThen_ok]
    rw [if_pos h.1];rfl
  · exact h.elim
theorem boundsS_run {b:Bool} {len cap:Nat} {lo hi mx:Option Value} {K:Nat->Nat->Nat->Prop} (h:boundsS len cap lo hi mx K) :
    ∃ l h' m,(∀ w,(Instr.sliceBounds b len cap lo hi mx).run P w=.ok (l,h',m) w)/\K l h' m:=by
  unfold boundsS at h
  split at h
  · rename_i hv mv
    obtain ⟨m,hm,h⟩:=bndS_run (P:=P) (if b then BoundsCode.slice3Acap else BoundsCode.slice3Alen) h
    obtain ⟨h',hh,h⟩:=bndS_run (P:=P) .slice3B h
    cases lo with
    | none=>exact ⟨0,h',m,fun w=>by simp [Instr.sliceBounds,hm,hh],h⟩
    | some lv =>
      obtain ⟨l,hl,h⟩:=bndS_run (P:=P) .slice3C h
      exact ⟨l,h',m,fun w=>by simp [Instr.sliceBounds,hm,hh,hl],h⟩
  · rename_i hv
    obtain ⟨h',hh,h⟩:=bndS_run (P:=P) (if b then BoundsCode.sliceAcap else BoundsCode.sliceAlen) h
    cases lo with
    | none=>exact ⟨0,h',cap,fun w=>by simp [Instr.sliceBounds,hh],h⟩
    | some lv =>
      obtain ⟨l,hl,h⟩:=bndS_run (P:=P) .sliceB h
      exact ⟨l,h',cap,fun w=>by simp [Instr.sliceBounds,hh,hl],h⟩
  · cases lo with
    | none=>exact ⟨0,len,cap,fun w=>by simp [Instr.sliceBounds],h⟩
    | some lv =>
      obtain ⟨l,hl,h⟩:=bndS_run (P:=P) .sliceB h
      exact ⟨l,len,cap,fun w=>by simp [Instr.sliceBounds,hl],h⟩
  · exact h.elim
theorem optB_knows (hk:Knows ρ σ) {x:Option Operand} {v:Option Value} (h:optB ρ x=some v):x.map σ=v:=by
  cases x with
  | none=>simp [optB] at h;simp [<- h]
  | some x =>
    simp only [optB] at h
    cases he:ev ρ x with
    | none=>simp [he] at h
    | some u=>simp [he] at h;simp [<- h,hk x u he]
theorem allEv_knows (hk:Knows ρ σ):∀ {l:List (Nat×Operand)} {vs:List (Nat×Value)},allEv ρ l=some vs->l.map (fun p=>(p.1,σ p.2))=vs
  | [],vs,h=>by simp [allEv] at h;simp [h]
  | (i,x)::l,vs,h=>by
    simp only [allEv] at h
    cases h1:ev ρ x with
    | none=>simp [h1] at h
    | some v =>
      cases h2:allEv ρ l with
      | none=>simp [h1,h2] at h
      | some r=>simp [h1,h2] at h;subst h;simp [hk x v h1,allEv_knows hk h2]
theorem placesL_run:∀ {fs:List Field} {pl:List (Nat×Nat)},placesL P fs=some pl->∀ w,(fs.mapM (fun f=>(do pure (f.offset,<- sizeOf f.type):Sem (Nat×Nat)))).run P w=.ok pl w
  | [],pl,h,w=>by simp [placesL] at h;subst h;simp
  | f::fs,pl,h,w=>by
    simp only [placesL] at h
    cases h1:inf P f.type with
    | none=>simp [h1] at h
    | some i =>
      cases h2:placesL P fs with
      | none=>simp [h1,h2] at h
      | some r =>
        simp [h1,h2] at h;subst h
        have ih:=placesL_run h2 w
        simp only [List.mapM_cons,Sem.run_bind,run_size h1,Result.andThen_ok,Sem.run_pure,ih]
theorem buildS_run {t:TypeId} {parts:List (Nat×Value)} {K:Value->Prop} (h:buildS P t parts K):∃ v,(∀ w,(Instr.build t parts.toArray).run P w=.ok v w)/\K v:=by
  unfold buildS at h
  split at h
  · rename_i i fs hi hu
    split at h
    · rename_i z pl hz hpl
      split at h
      · rename_i cs hcs
        refine ⟨_,fun w=>?_,h⟩
        have hz':(zeroValue t).run P w=.ok z w:=by simp [zeroValue,run_inf hi,hz]
        have hm:=placesL_run (P:=P) hpl w
        have hf:=fill_eq _ parts (cellsL z) cs hcs
        rw [cellsL_eq,Array.toArray_toList] at hf
        have hm':(fs.mapM fun f=>(do pure (f.offset,<- sizeOf f.type):Sem (Nat×Nat))).run P w=.ok pl.toArray w:=by
          rw [Array.mapM_eq_mapM_toList]
          simp only [Sem.run_map]
          rw [hm];rfl
        have hg:(fun (x:Nat)=>pl.toArray[x]?)=(fun (j:Nat)=>pl[j]?):=by funext j;simp
        simp only [Instr.build,Sem.run_bind,hz',Result.andThen_ok,run_und hu,hm',hg,hf,Sem.run_pure]
      · exact h.elim
    · exact h.elim
  · rename_i i n e hi hu
    split at h
    · rename_i z j hz hj
      split at h
      · rename_i cs hcs
        refine ⟨_,fun w=>?_,h⟩
        have hz':(zeroValue t).run P w=.ok z w:=by simp [zeroValue,run_inf hi,hz]
        have hf:=fill_eq _ parts (cellsL z) cs hcs
        rw [cellsL_eq,Array.toArray_toList] at hf
        simp only [Instr.build,Sem.run_bind,hz',Result.andThen_ok,run_und hu,run_size hj,hf,Sem.run_pure]
      · exact h.elim
    · exact h.elim
  · exact h.elim
theorem pureS_gives (hk:Knows ρ σ) {o:Oper} {K:Value->Prop} (h:pureS P ρ o.op K):Gives P σ o K:=by
  obtain ⟨dst,op,type,pos,after,guard⟩:=o
  simp only at h
  cases op<;>simp only [pureS] at h<;>try exact h.elim
  case move x =>
    split at h
    · rename_i v hv;exact ⟨v,fun w=>by simp [execOp,hk x v hv],h⟩
    · exact h.elim
  case assign x =>
    split at h
    · rename_i v hv;exact ⟨v,fun w=>by simp [execOp,hk x v hv],h⟩
    · exact h.elim
  case pick c a b =>
    split at h
    · rename_i cv hc
      cases cv with
      | true =>
        simp only [cond_true] at h
        split at h
        · rename_i v hv;exact ⟨v,fun w=>by simp [execOp,hk c _ hc,hk a v hv,asBool],h⟩
        · exact h.elim
      | false =>
        simp only [cond_false] at h
        split at h
        · rename_i v hv;exact ⟨v,fun w=>by simp [execOp,hk c _ hc,hk b v hv,asBool],h⟩
        · exact h.elim
    · exact h.elim
  case build t parts =>
    split at h
    · rename_i ps hps
      obtain ⟨v,hr,hv⟩:=buildS_run h
      refine ⟨v,fun w=>?_,hv⟩
      have e:parts.map (fun p=>(p.1,σ p.2))=ps.toArray:=by rw [<- Array.toList_inj,Array.toList_map,allEv_knows hk hps]
      simp only [execOp,Sem.run_bind]
      rw [show (parts.map fun (i,x)=>(i,σ x))=ps.toArray from e,hr];rfl
    · exact h.elim
  case nilCheck x =>
    split at h
    · rename_i p hp
      obtain ⟨a,rfl,hK⟩:=h
      exact ⟨_,fun w=>by simp [execOp,hk x _ hp],hK⟩
    · rename_i f first captured hp
      exact ⟨_,fun w=>by simp [execOp,hk x _ hp],h⟩
    · exact h.elim
  case binOp op t x y yt =>
    split at h
    · rename_i a b ha hb
      obtain ⟨v,hr,hg,hv⟩:=aggS_run h
      exact ⟨v,fun w=>by simp only [execOp,hk x _ ha,hk y _ hb,Sem.run_bind,hg,Result.andThen_ok,hr,Sem.run_pure],hv⟩
    · rename_i a b _ ha hb
      cases hp:(isPtrT (und P t) && !(constO x || constO y)) with
      | true =>
        rw [hp] at h
        obtain ⟨v,hr,hg,hv⟩:=ptrS_run h
        exact ⟨v,fun w=>by simp only [execOp,hk x _ ha,hk y _ hb,Sem.run_bind,hg,Result.andThen_ok,hr,Sem.run_pure],hv⟩
      | false =>
        rw [hp] at h
        have h:binS P op t a b K:=h
        obtain ⟨v,hr,hv⟩:=binS_run h
        exact ⟨v,fun w=>by simp only [execOp,hk x _ ha,hk y _ hb,Sem.run_bind,run_eqGuard h,Result.andThen_ok,hr,Sem.run_pure],hv⟩
    · exact h.elim
  case unOp op t x =>
    split at h
    · rename_i a ha
      obtain ⟨v,hr,hv⟩:=unS_run (P:=P) h
      exact ⟨v,fun w=>by simp only [execOp,hk x _ ha,Sem.run_bind,Result.andThen_ok,hr,Sem.run_pure],hv⟩
    · exact h.elim
  case convert s d x =>
    split at h
    · rename_i k k' n hd hx
      split at h
      · rename_i ds hs
        refine ⟨_,fun w=>?_,h⟩
        simp only [execOp,hk x _ hx,Sem.run_bind,convert,run_und hs,run_und hd,Result.andThen_ok,Conv.intToInt,Sem.run_pure]
      · exact h.elim
    · rename_i b hd hx
      split at h
      · rename_i ds hs
        refine ⟨_,fun w=>?_,h⟩
        simp only [execOp,hk x _ hx,Sem.run_bind,convert,run_und hs,run_und hd,Result.andThen_ok,Sem.run_pure]
      · exact h.elim
    · exact h.elim
  case makeInterface t x =>
    split at h
    · exact h.elim
    · rename_i d v hn hd hx
      refine ⟨_,fun w=>?_,h⟩
      simp only [execOp,hk x _ hx,Sem.run_bind,Instr.makeInterface,run_und hd,Result.andThen_ok]
      cases d<;>first|rfl|exact absurd rfl (hn _ · )
    · exact h.elim
  case makeFunc fn first captured =>
    split at h
    · rename_i a b ha hb
      refine ⟨_,fun w=>?_,h⟩
      have e1:first.map σ=a.toArray:=by rw [<- Array.toList_inj,Array.toList_map,hk.list ha]
      have e2:captured.map σ=b.toArray:=by rw [<- Array.toList_inj,Array.toList_map,hk.list hb]
      simp only [execOp,Sem.run_bind,Instr.makeFunc,e1,e2,Sem.run_pure,Result.andThen_ok]
    · exact h.elim
  case slice t x lo hi mx =>
    split at h
    · rename_i s lo' hi' hd hx hlo hhi hmx
      obtain ⟨l,h',m,hr,hK⟩:=boundsS_run (P:=P) (b:=false) h
      refine ⟨_,fun w=>?_,hK⟩
      have:=hr w
      simp only [execOp,hk x _ hx,optB_knows hk hlo,optB_knows hk hhi,optB_knows hk hmx,Sem.run_bind,Instr.sliceAt,Instr.slice,run_und hd,Result.andThen_ok,Option.isSome_none,Bool.false_eq_true,if_false,this,Sem.run_pure]
    · rename_i e A n c lo' hi' mx' hd hx hlo hhi hmx
      split at h
      · rename_i q hq
        obtain ⟨l,h',m,hr,hK⟩:=boundsS_run (P:=P) (b:=true) h
        refine ⟨_,fun w=>?_,hK⟩
        have:=hr w
        simp only [execOp,hk x _ hx,optB_knows hk hlo,optB_knows hk hhi,optB_knows hk hmx,Sem.run_bind,Instr.sliceAt,Instr.slice,run_und hd,Result.andThen_ok,this,run_size hq,Sem.run_pure,cutAt]
      · exact h.elim
    · rename_i n e ad lo' hi' mx' hd hx hlo hhi hmx
      split at h
      · rename_i q hq
        obtain ⟨l,h',m,hr,hK⟩:=boundsS_run (P:=P) (b:=false) h
        refine ⟨_,fun w=>?_,hK⟩
        have:=hr w
        simp only [execOp,hk x _ hx,optB_knows hk hlo,optB_knows hk hhi,optB_knows hk hmx,Sem.run_bind,Instr.sliceAt,Instr.slice,run_und hd,Result.andThen_ok,Instr.sureAddr,this,run_size hq,Sem.run_pure,cutAt]
        split<;>rfl
      · exact h.elim
    · exact h.elim
  case fieldAddr t x f =>
    split at h
    · rename_i fs a hfs hx
      split at h
      · rename_i fd hfd
        split at h
        · rename_i i hi
          split at h
          · exact h.elim
          · rename_i hz
            refine ⟨_,fun w=>?_,h⟩
            unfold fieldsOf at hfs
            split at hfs
            · rename_i fa hu
              simp only [Option.some.injEq] at hfs
              subst hfs
              have hfd':fa[f]?=some fd:=by simpa using hfd
              simp only [execOp,hk x _ hx,Sem.run_bind,Instr.fieldAt,run_und hu,Result.andThen_ok,hfd',Instr.sureAddr,Sem.run_pure,fieldPlace,run_size hi,if_neg hz]
            · cases hfs
        · exact h.elim
      · exact h.elim
    · exact h.elim
  case field t x f =>
    split at h
    · rename_i fs cs hfs hx
      split at h
      · rename_i fd hfd
        unfold fieldsOf at hfs
        split at hfs
        · rename_i fa hu
          simp only [Option.some.injEq] at hfs
          subst hfs
          have hfd':fa[f]?=some fd:=by simpa using hfd
          obtain ⟨v,hr,hv⟩:=partS_run h
          refine ⟨v,fun w=>?_,hv⟩
          simp only [execOp,hk x _ hx,Sem.run_bind,Instr.field,run_und hu,Result.andThen_ok,hfd',asAgg,Sem.run_pure,hr]
        · cases hfs
      · exact h.elim
    · exact h.elim
  case indexAddr t x i =>
    split at h
    · rename_i e A n c k j hd hx hi
      split at h
      · rename_i q hq
        obtain ⟨ad,rfl,hb,hK⟩:=h
        refine ⟨_,fun w=>?_,hK⟩
        simp only [execOp,hk x _ hx,hk i _ hi,Sem.run_bind,Instr.indexAt,asIntOf,Sem.run_pure,Result.andThen_ok,run_und hd,if_pos hb,run_size hq]
      · exact h.elim
    · rename_i n e ad k j hd hx hi
      split at h
      · rename_i q hq
        obtain ⟨hb,hK⟩:=h
        refine ⟨_,fun w=>?_,hK⟩
        simp only [execOp,hk x _ hx,hk i _ hi,Sem.run_bind,Instr.indexAt,asIntOf,Sem.run_pure,Result.andThen_ok,run_und hd,Instr.sureAddr,if_pos hb,run_size hq]
      · exact h.elim
    · exact h.elim
  case index t x i =>
    split at h
    · rename_i n hbig
      unfold idxB at h
      split at h
      · rename_i v k j hx hi
        obtain ⟨l,⟨rfl,hl⟩,hb,hK⟩:=h
        obtain ⟨e,q,_,hd,he,hq,hq1,_,_⟩:=bigT_of hbig
        refine ⟨_,fun w=>?_,hK⟩
        have hj:j.toNat<l.length:=by omega
        have hp:partS P e (l.map Value.bool).toArray.toList (j.toNat*1) fun v=>v=.bool (l.getD j.toNat false):=by
          unfold partS
          have ha:isAggT P e=some false:=by unfold isAggT;rw [he]
          rw [ha]
          simp [hj]
        obtain ⟨v,hr,hv⟩:=partS_run hp
        subst hv
        simp only [boolsV,execOp,hk x _ hx,hk i _ hi,Sem.run_bind,Instr.index,asIntOf,Sem.run_pure,Result.andThen_ok,run_und hd,if_pos hb,run_size hq,hq1,hr]
      · exact h.elim
    rename_i hbig
    split at h
    · rename_i s k j hd hx hi
      obtain ⟨b,⟨h0,hb⟩,hK⟩:=h
      refine ⟨_,fun w=>?_,hK⟩
      simp only [execOp,hk x _ hx,hk i _ hi,Sem.run_bind,Instr.index,asIntOf,Sem.run_pure,Result.andThen_ok,run_und hd,if_pos h0,hb]
    · rename_i n e cs k j hd hx hi
      split at h
      · rename_i q hq
        obtain ⟨hb,hp⟩:=h
        obtain ⟨m,hm,hp⟩:=idxS_at hp
        obtain ⟨v,hr,hv⟩:=partS_run hp
        refine ⟨v,fun w=>?_,hv⟩
        have hjm:j.toNat=m:=by omega
        rw [<- hjm] at hr
        simp only [execOp,hk x _ hx,hk i _ hi,Sem.run_bind,Instr.index,asIntOf,Sem.run_pure,Result.andThen_ok,run_und hd,if_pos hb,run_size hq,hr]
      · exact h.elim
    · exact h.elim
  case extract x i =>
    split at h
    · rename_i vs hx
      split at h
      · rename_i v hv
        have hv':vs[i]?=some v:=by simpa using hv
        exact ⟨v,fun w=>by simp only [execOp,hk x _ hx,Sem.run_bind,Instr.extract,hv',Sem.run_pure,Result.andThen_ok],h⟩
      · exact h.elim
    · exact h.elim
  case call c =>
    obtain ⟨callee,args,argTypes⟩:=c
    simp only at h
    have hargs:∀ vs,evs ρ args.toList=some vs->args.map σ=vs.toArray:=fun vs he=>by rw [<- Array.toList_inj,Array.toList_map,hk.list he]
    split at h
    · rename_i t ts v vs ht he
      have h0:argTypes[0]?=some t:=by rw [<- Array.getElem?_toList,ht];rfl
      have h1:=hargs _ he
      split at h
      · rename_i s hd
        exact ⟨_,fun w=>by simp [execOp,resolve,invoke,builtin,h1,Builtin.len_,h0,run_und hd,goInt],h⟩
      · rename_i e A n c hd
        exact ⟨_,fun w=>by simp [execOp,resolve,invoke,builtin,h1,Builtin.len_,h0,run_und hd,goInt],h⟩
      · rename_i n e hd
        exact ⟨_,fun w=>by simp [execOp,resolve,invoke,builtin,h1,Builtin.len_,h0,run_und hd,goInt],h⟩
      · rename_i k e hd
        exact ⟨_,fun w=>by simp [execOp,resolve,invoke,builtin,h1,Builtin.len_,h0,run_und hd,goInt],h⟩
      · exact h.elim
    · rename_i k x k' y he
      split at h
      · rename_i hkk;subst hkk
        exact ⟨_,fun w=>by simp [execOp,resolve,invoke,builtin,hargs _ he,Builtin.min_,Builtin.min2],h⟩
      · exact h.elim
    · rename_i k x k' y he
      split at h
      · rename_i hkk;subst hkk
        exact ⟨_,fun w=>by simp [execOp,resolve,invoke,builtin,hargs _ he,Builtin.max_,Builtin.max2],h⟩
      · exact h.elim
    · rename_i k x k' y k'' z he
      split at h
      · rename_i hkk;subst hkk
        split at h
        · rename_i hkk;subst hkk
          exact ⟨_,fun w=>by simp [execOp,resolve,invoke,builtin,hargs _ he,Builtin.min_,Builtin.min2],h⟩
        · exact h.elim
      · exact h.elim
    · rename_i k x k' y k'' z he
      split at h
      · rename_i hkk;subst hkk
        split at h
        · rename_i hkk;subst hkk
          exact ⟨_,fun w=>by simp [execOp,resolve,invoke,builtin,hargs _ he,Builtin.max_,Builtin.max2],h⟩
        · exact h.elim
      · exact h.elim
    · rename_i t ts v vs ht he
      have h0:argTypes[0]?=some t:=by rw [<- Array.getElem?_toList,ht];rfl
      have h1:=hargs _ he
      split at h
      · rename_i e A n c hd
        exact ⟨_,fun w=>by simp [execOp,resolve,invoke,builtin,h1,Builtin.cap_,h0,run_und hd,goInt],h⟩
      · exact h.elim
    · exact h.elim
end
end Go.Sx
set_option linter.unusedVariables false
set_option linter.unusedSimpArgs false
namespace Go.Sx
def exT (t:Ty) (p:Value->Prop):Prop:=exA t.ats fun l=>match t.inj l with|some (v,_)=>p v|none=>False
def exTs:List Ty->(List Value->Prop)->Prop
  | [],p=>p []
  | t::ts,p=>exT t fun v=>exTs ts fun vs=>p (v::vs)
theorem exT_elim {t:Ty} {p:Value->Prop} (h:exT t p):∃ v,p v:=by
  obtain ⟨l,_,h⟩:=exA_elim h
  split at h
  · exact ⟨_,h⟩
  · exact h.elim
theorem exTs_elim:∀ {ts:List Ty} {p:List Value->Prop},exTs ts p->∃ v,p v
  | [],p,h=>⟨[],h⟩
  | t::ts,p,h=>let ⟨v,h⟩:=exT_elim h;let ⟨vs,h⟩:=exTs_elim h;⟨_,h⟩
def tysOf (P:Program):List TypeId->Option (List Ty)
  | []=>some []
  | t::ts=>match tyOf P t,tysOf P ts with|some a,some b=>some (a::b)|_,_=>none
def exRes (P:Program) (t:TypeId) (p:Value->Prop):Prop :=
  match und P t with
  | some (.tuple ts)=>(match tysOf P ts.toList with|some tys=>exTs tys fun vs=>p (.tuple vs.toArray)|none=>False)
  | _=>(match tyOf P t with|some ty=>exT ty p|none=>∃ v,p v)
theorem exRes_elim {P:Program} {t:TypeId} {p:Value->Prop} (h:exRes P t p):∃ v,p v:=by
  unfold exRes at h
  split at h
  · split at h
    · obtain ⟨vs,h⟩:=exTs_elim h;exact ⟨_,h⟩
    · exact h.elim
  · split at h
    · exact exT_elim h
    · exact h
def retS (P:Program) (ts:List TypeId) (v:Value) (k:Value->Prop):Prop :=
  match ts with
  | []=>v=.tuple #[]/\k (.tuple #[])
  | [t]=>(match tyOf P t with|some ty=>exT ty fun u=>v=u/\k u|none=>k v)
  | ts=>(match tysOf P ts with|some tys=>exTs tys fun us=>v=.tuple us.toArray/\k (.tuple us.toArray)|none=>False)
theorem retS_elim {P:Program} {ts:List TypeId} {v:Value} {k:Value->Prop} (h:retS P ts v k):k v:=by
  unfold retS at h
  split at h
  · obtain ⟨rfl,h⟩:=h;exact h
  · split at h
    · obtain ⟨u,rfl,h⟩:=exT_elim h;exact h
    · exact h
  · split at h
    · obtain ⟨u,h1,h2⟩:=exTs_elim h;subst h1;exact h2
    · exact h.elim
def readCells (C:Addr->Value->Prop) (a:Addr):Nat->List CT->(List Value->Prop)->Prop
  | _,[],K=>K []
  | i,c::cs,K=>exA c.ats fun l=>match c.inj l with|some (v,_)=>C (a.add i) v/\readCells C a (i+1) cs (fun vs=>K (v::vs))|none=>False
def allC (C:Addr->Value->Prop) (a:Addr) (l:List Bool):Prop:=∀ j b,l[j]?=some b->C (a.add j) (.bool b)
def readT (P:Program) (t:TypeId) (C:Addr->Value->Prop) (a:Addr) (K:Value->Prop):Prop :=
  match bigT P t with
  | some n=>∃ l:List Bool,l.length=n/\allC C a l/\K (boolsV l)
  | none=>match tyOf P t,isAggT P t,inf P t with
  | some (.one c),some false,_=>exA c.ats fun l=>match c.inj l with|some (v,_)=>C a v/\K v|none=>False
  | some (.agg cs),some true,some i=>if i.size=cs.length then readCells C a 0 cs fun vs=>K (.agg vs.toArray) else False
  | _,_,_=>False
theorem readCells_elim {C:Addr->Value->Prop} {a:Addr}:∀ {cs:List CT} {i:Nat} {K:List Value->Prop},readCells C a i cs K ->
    ∃ vs,vs.length=cs.length/\(∀ j v,vs[j]?=some v->C (a.add (i+j)) v)/\K vs
  | [],i,K,h=>⟨[],rfl,by simp,h⟩
  | c::cs,i,K,h=>by
    obtain ⟨l,_,h⟩:=exA_elim h
    split at h
    · rename_i v _ _
      obtain ⟨hc,h⟩:=h
      obtain ⟨vs,hl,hv,hK⟩:=readCells_elim h
      refine ⟨v::vs,by simp [hl],fun j u hu=>?_,hK⟩
      cases j with
      | zero=>simp at hu;subst hu;simpa using hc
      | succ j=>simp at hu;have:=hv j u hu;rwa [show i+(j+1)=i+1+j by omega]
    · exact h.elim
theorem readT_elim {P:Program} {t:TypeId} {C:Addr->Value->Prop} {a:Addr} {K:Value->Prop} (h:readT P t C a K) :
    ∃ v,(∀ w,(∀ ad u,C ad u->w.cell? ad=some u)->(loadVar t a).run P w=.ok v w)/\K v:=by
  unfold readT at h
  split at h
  · rename_i n hbig
    obtain ⟨l,hl,hc,hK⟩:=h
    obtain ⟨e,_,i,hd,_,_,_,hi,hn⟩:=bigT_of hbig
    refine ⟨_,fun w hw=>?_,hK⟩
    have hag:isAggT P t=some true:=by unfold isAggT;rw [hd]
    have hr:=run_loadCells_list (P:=P) (w:=w) a (l.map Value.bool) (fun j v hj=>by
      rw [List.getElem?_map] at hj
      cases hb:l[j]? with
      | none=>rw [hb] at hj;cases hj
      | some b=>rw [hb] at hj;cases hj;exact hw _ _ (hc j b hb))
    rw [List.length_map,hl] at hr
    simp only [boolsV,loadVar,Sem.run_bind,run_isAgg hag,Result.andThen_ok,if_true,run_size hi,hn,hr,Sem.run_pure]
  rename_i hbig
  split at h
  · rename_i c hty hag
    obtain ⟨l,_,h⟩:=exA_elim h
    split at h
    · rename_i v _ _
      refine ⟨v,fun w hw=>?_,h.2⟩
      have:=hw _ _ h.1
      simp [loadVar,run_isAgg hag,this]
    · exact h.elim
  · rename_i cs i hty hag hi
    split at h
    · rename_i hsz
      obtain ⟨vs,hl,hv,hK⟩:=readCells_elim h
      refine ⟨_,fun w hw=>?_,hK⟩
      have hr:=run_loadCells_list (P:=P) (w:=w) a vs (fun j v hj=>by have:=hv j v hj;rw [Nat.zero_add] at this;exact hw _ _ this)
      simp only [loadVar,Sem.run_bind,run_isAgg hag,Result.andThen_ok,if_true,run_size hi,hsz,<- hl,hr,Sem.run_pure]
    · exact h.elim
  · exact h.elim
def storeS (a:Addr):Nat->List Value->World->(World->Prop)->Prop
  | _,[],w,K=>K w
  | i,v::vs,w,K=>cond v.oneCell' (((w.cell? (a.add i)).isSome=true/\w.frozen? (a.add i)=false)/\storeS a (i+1) vs (w.setCell (a.add i) v) K) False
theorem storeS_run {P:Program} {a:Addr}:∀ {vs:List Value} {i:Nat} {w:World} {K:World->Prop},storeS a i vs w K->∃ w',(storeCells a vs i).run P w=.ok () w'/\K w'
  | [],i,w,K,h=>⟨w,rfl,h⟩
  | v::vs,i,w,K,h=>by
    unfold storeS at h
    cases hv:v.oneCell' with
    | false=>rw [hv] at h;exact h.elim
    | true =>
      rw [hv] at h
      obtain ⟨⟨hs,hf⟩,h⟩:=h
      obtain ⟨w',hr,hK⟩:=storeS_run (P:=P) h
      obtain ⟨old,ho⟩:=Option.isSome_iff_exists.1 hs
      refine ⟨w',?_,hK⟩
      simp only [storeCells,Sem.run_bind,run_store _ _ _ _ _ hv,ho,hf,Bool.false_eq_true,if_false,Result.andThen_ok,hr]
def runV (P:Program) (t:TypeId) (s:Sem Value) (w:World) (K:Value->World->Prop):Prop :=
  exRes P t fun v=>∃ w',RunsTo P s w v w'/\K v w'
def runU (P:Program) (s:Sem Unit) (w:World) (K:Value->World->Prop):Prop:=∃ w',RunsTo P s w () w'/\K undef w'
def callS (P:Program) (fid:FuncId) (args:List Value) (w:World) (K:Value->World->Prop):Prop :=
  match P.funcs.toList[fid]? with
  | some fn=>(match fn.body with
    | some _=>CallsV P fid args.toArray w fun v w'=>retS P fn.resultTypes.toList v fun u=>K u w'
    | none=>(match fn.resultTypes.toList with
      | [t]=>exRes P t fun v=>∃ w',RunsTo P (callFunc fid args.toArray) w (Next.value v) w'/\K v w'
      | []=>∃ w',RunsTo P (callFunc fid args.toArray) w (Next.value (.tuple #[])) w'/\K (.tuple #[]) w'
      | _=>False))
  | none=>False
def bodied (P:Program) (fid:FuncId):Bool:=match P.funcs.toList[fid]? with|some fn=>fn.body.isSome|none=>false
def callU (P:Program) (v:Value) (as:List Value) (t:TypeId) (w:World) (K:Value->World->Prop):Prop :=
  ∃ (fid:FuncId) (first captured:Array Value),v=.func (.func fid) first captured/\bodied P fid=true /\
    CallsV P fid (first.toList++(as++captured.toList)).toArray w fun r w'=>retS P (match und P t with|some (.tuple ts)=>ts.toList|_=>[t]) r fun u=>K u w'
def zerosL (z:List Value):Nat->List Value
  | 0=>[]
  | n+1=>z++zerosL z n
def isSlc:Option TypeDesc->Bool|some (.slice _)=>true|_=>false
def isUns:Option TypeDesc->Bool|some .unsafePointer=>true|_=>false
def isStr:Option TypeDesc->Bool|some .string=>true|_=>false
def isMapT:Option TypeDesc->Bool|some (.map _ _)=>true|_=>false
def effB (P:Program) (b:Builtin) (argTypes:List TypeId):Bool :=
  match b with
  | .append | .copy | .delete | .clear | .unsafeString | .unsafeSliceData | .unsafeStringData | .unsafeSlice=>true
  | .len=>(match argTypes with|t::_=>isMapT (und P t)|[]=>false)
  | _=>false
def opS (P:Program) (ρ:Env) (o:Oper) (w:World) (K:Value->World->Prop):Prop :=
  match o.op with
  | .load t x=>(match ev ρ x with|some (.pointer (some a))=>readT P t (fun ad v=>w.cell? ad=some v) a fun v=>K v w|_=>False)
  | .store t x y=>(match ev ρ x,ev ρ y,inf P t with
    | some (.pointer (some a)),some v,some i=>if (cellsL v).length=i.size then storeS a 0 (cellsL v) w fun w'=>K undef w' else False
    | _,_,_=>False)
  | .alloc t=>(match inf P t with
    | some i=>(match i.zero with|some z=>K (.pointer (some ⟨w.heap.size,0,none⟩)) (w.alloc (.cells (cellsL z).toArray t))|none=>False)
    | none=>False)
  | .box t x=>(match ev ρ x with|some v=>K (.pointer (some ⟨w.heap.size,0,none⟩)) (w.alloc (.cells (cellsL v).toArray t))|none=>False)
  | .buildSlice t len parts=>(match und P t,allEv ρ parts.toList with
    | some (.slice e),some ps=>(match inf P e with
      | some i=>(match i.zero with
        | some z=>if (cellsL z).length=i.size then if len*i.size<=16777216 then
            (match fillL (fun q=>some (q*i.size,i.size)) (zerosL (cellsL z) len) ps with
            | some cs=>K (.slice (some ⟨w.heap.size,0,none⟩) len len) (w.alloc (.cells cs.toArray e))
            | none=>False) else False else False
        | none=>False)
      | none=>False)
    | _,_=>False)
  | .convert s d x=>(if isSlc (und P s) || isSlc (und P d) || isUns (und P s) || isUns (und P d)
      then (match ev ρ x with|some v=>runV P d (convert s d v) w K|none=>False)
      else pureS P ρ o.op fun v=>K v w)
  | .makeSlice t l c=>(match ev ρ l,ev ρ c with|some a,some b=>runV P t (Instr.makeSlice t a b) w K|_,_=>False)
  | .makeMap t r=>(match optB ρ r with|some r=>runV P t (Instr.makeMap t r) w K|none=>False)
  | .lookup t x i ok=>(match ev ρ x,ev ρ i with|some a,some b=>runV P o.type (Instr.lookup t a b ok) w K|_,_=>False)
  | .mapUpdate t m k x=>(match ev ρ m,ev ρ k,ev ρ x with|some a,some b,some c=>runU P (Instr.mapUpdate t a b c) w K|_,_,_=>False)
  | .insert t m k x=>(match ev ρ m,ev ρ k,ev ρ x with|some a,some b,some c=>runU P (Instr.mapUpdate t a b c) w K|_,_,_=>False)
  | .call c=>(match c.callee with
    | .value f=>(match ev ρ f,evs ρ c.args.toList with
      | some (.func (.func fid) first captured),some as=>callS P fid (first.toList++(as++captured.toList)) w K
      | _,_=>False)
    | .builtin b=>(if effB P b c.argTypes.toList
      then (match evs ρ c.args.toList,b with
        | some as,.append=>runV P o.type (Builtin.append_ c.argTypes o.type as.toArray) w K
        | some as,.copy=>runV P o.type (Builtin.copy_ c.argTypes o.type as.toArray) w K
        | some as,.delete=>runV P o.type (Builtin.delete_ c.argTypes o.type as.toArray) w K
        | some as,.len=>runV P o.type (Builtin.len_ c.argTypes o.type as.toArray) w K
        | some as,.unsafeString=>runV P o.type (Builtin.unsafeString_ c.argTypes o.type as.toArray) w K
        | some as,.unsafeSliceData=>runV P o.type (Builtin.unsafeSliceData_ c.argTypes o.type as.toArray) w K
        | some as,.clear=>∃ w',RunsTo P (Builtin.clear_ c.argTypes o.type as.toArray) w (.tuple #[]) w'/\K (.tuple #[]) w'
        | _,_=>False)
      else pureS P ρ o.op fun v=>K v w)
    | .invoke _ _=>False)
  | _=>pureS P ρ o.op fun v=>K v w
/-! ## the same, each new block and each new world by a name of its own -/
structure Fresh (w:World) (g:Nat) (w':World) (cs:List Value) (e:TypeId):Prop where
  hg:g=w.heap.size
  hw:w'=w.alloc (.cells cs.toArray e)
def stOK (a:Addr):Nat->List Value->World->Prop
  | _,[],_=>True
  | i,[_],w=>(w.cell? (a.add i)).isSome=true/\w.frozen? (a.add i)=false
  | i,_::vs,w=>((w.cell? (a.add i)).isSome=true/\w.frozen? (a.add i)=false)/\stOK a (i+1) vs w
def setAll (a:Addr):Nat->List Value->World->World
  | _,[],w=>w
  | i,v::vs,w=>setAll a (i+1) vs (w.setCell (a.add i) v)
def allOne:List Value->Bool
  | []=>true
  | v::vs=>bif v.oneCell' then allOne vs else false
theorem setCell_some (w:World) (a b:Addr) (v:Value) (h:(w.cell? b).isSome=true):((w.setCell a v).cell? b).isSome=true:=by
  by_cases e:b=a
  · subst e;rw [World.cell?_setCell_same' w b v h];rfl
  · rw [World.cell?_setCell_other]
    · exact h
    · first|exact e|exact fun h=>e h.symm
theorem setCell_frozen (w:World) (a b:Addr) (v:Value):(w.setCell a v).frozen? b=w.frozen? b:=World.frozen?_setCell _ _ _ _
theorem stOK_mono {a:Addr}:∀ {vs:List Value} {i:Nat} {w w':World},(∀ b,(w.cell? b).isSome=true->(w'.cell? b).isSome=true)->(∀ b,w'.frozen? b=w.frozen? b)->stOK a i vs w->stOK a i vs w'
  | [],_,_,_,_,_,_=>trivial
  | [_],_,_,_,h1,h2,h=>⟨h1 _ h.1,(h2 _).trans h.2⟩
  | _::x::vs,_,_,_,h1,h2,h=>⟨⟨h1 _ h.1.1,(h2 _).trans h.1.2⟩,stOK_mono h1 h2 h.2⟩
theorem storeS_of {a:Addr}:∀ {vs:List Value} {i:Nat} {w:World} {K:World->Prop},allOne vs=true->stOK a i vs w->K (setAll a i vs w)->storeS a i vs w K
  | [],_,_,_,_,_,hk=>hk
  | [v],i,w,K,h1,h,hk=>by
    have hv:v.oneCell'=true:=by cases hv:v.oneCell' with|true=>rfl|false=>simp [allOne,hv] at h1
    unfold storeS;rw [hv];exact ⟨h,hk⟩
  | v::x::vs,i,w,K,h1,h,hk=>by
    have hv:v.oneCell'=true:=by cases hv:v.oneCell' with|true=>rfl|false=>simp [allOne,hv] at h1
    have h1':allOne (x::vs)=true:=by unfold allOne at h1;rw [hv] at h1;exact h1
    unfold storeS;rw [hv]
    exact ⟨h.1,storeS_of h1' (stOK_mono (fun b hb=>setCell_some w _ b v hb) (fun b=>setCell_frozen w _ b v) h.2) hk⟩
def withL:List Value->(List Value->Prop)->Prop
  | [],k=>k []
  | v::r,k=>withL r fun r'=>k (v::r')
theorem withL_iff:∀ {l:List Value} {k:List Value->Prop},withL l k->k l
  | [],_,h=>h
  | v::r,k,h=>withL_iff (l:=r) (k:=fun r'=>k (v::r')) h
def zeroB:Nat->List Value->Bool
  | 0,[]=>true
  | n+1,.bool false::r=>zeroB n r
  | _,_=>false
theorem zeroB_of:∀ {n:Nat} {l:List Value},zeroB n l=true->l=(List.replicate n false).map Value.bool
  | 0,[],_=>rfl
  | n+1,.bool false::r,h=>by rw [zeroB_of (n:=n) (l:=r) h];rfl
def boxB (n:Nat) (t:TypeId) (x:Option Value) (w:World) (K:Value->World->Prop):Prop :=
  match x with
  | some v=>∃ l:List Bool,(v=boolsV l/\l.length=n)/\∀ g w',Fresh w g w' (l.map Value.bool) t->K (.pointer (some ⟨g,0,none⟩)) w'
  | none=>False
def storeB (n:Nat) (x y:Option Value) (w:World) (K:Value->World->Prop):Prop :=
  match x,y with
  | some (.pointer (some a)),some v=>∃ l:List Bool,(v=boolsV l/\l.length=n)/\stOK a 0 (l.map Value.bool) w/\∀ w',w'=setAll a 0 (l.map Value.bool) w->K undef w'
  | _,_=>False
theorem cellsL_bools (l:List Bool):cellsL (boolsV l)=l.map Value.bool:=by simp [boolsV,cellsL]
theorem allOne_bools:∀ l:List Bool,allOne (l.map Value.bool)=true
  | []=>rfl
  | _::l=>allOne_bools l
def opN (P:Program) (ρ:Env) (o:Oper) (w:World) (K:Value->World->Prop):Prop :=
  match o.op with
  | .store t x y=>(match bigT P t with
    | some n=>storeB n (ev ρ x) (ev ρ y) w K
    | none=>(match ev ρ x,ev ρ y,inf P t with
    | some (.pointer (some a)),some v,some i=>if (cellsL v).length=i.size then withL (cellsL v) fun cs=>cond (allOne cs) (stOK a 0 cs w/\∀ w',w'=setAll a 0 cs w->K undef w') False else False
    | _,_,_=>False))
  | .alloc t=>(match bigT P t with
    | some n=>(match inf P t with
      | some i=>(match i.zero with|some z=>cond (zeroB n (cellsL z)) (∀ g w',Fresh w g w' ((List.replicate n false).map Value.bool) t->K (.pointer (some ⟨g,0,none⟩)) w') False|none=>False)
      | none=>False)
    | none=>(match inf P t with
    | some i=>(match i.zero with|some z=>withL (cellsL z) fun cs=>∀ g w',Fresh w g w' cs t->K (.pointer (some ⟨g,0,none⟩)) w'|none=>False)
    | none=>False))
  | .box t x=>(match bigT P t with
    | some n=>boxB n t (ev ρ x) w K
    | none=>(match ev ρ x with|some v=>withL (cellsL v) fun cs=>∀ g w',Fresh w g w' cs t->K (.pointer (some ⟨g,0,none⟩)) w'|none=>False))
  | .buildSlice t len parts=>(match und P t,allEv ρ parts.toList with
    | some (.slice e),some ps=>(match inf P e with
      | some i=>(match i.zero with
        | some z=>if (cellsL z).length=i.size then if len*i.size<=16777216 then
            (match fillL (fun q=>some (q*i.size,i.size)) (zerosL (cellsL z) len) ps with
            | some cs=>withL cs fun cs=>∀ g w',Fresh w g w' cs e->K (.slice (some ⟨g,0,none⟩) len len) w'
            | none=>False) else False else False
        | none=>False)
      | none=>False)
    | _,_=>False)
  | _=>opS P ρ o w K
theorem opN_opS {P:Program} {ρ:Env} {o:Oper} {w:World} {K:Value->World->Prop} (h:opN P ρ o w K):opS P ρ o w K:=by
  unfold opN at h
  split at h
  · rename_i t x y ho
    unfold opS;rw [ho];dsimp only
    split at h
    · rename_i n hbig
      obtain ⟨e,_,i,hd,_,_,_,hi,hn⟩:=bigT_of hbig
      unfold storeB at h
      split at h
      · rename_i a v hx hy
        obtain ⟨l,⟨rfl,hl⟩,h1,h2⟩:=h
        rw [hx,hy,hi]
        dsimp only
        rw [cellsL_bools,if_pos (by rw [List.length_map,hl,hn])]
        exact storeS_of (allOne_bools l) h1 (h2 _ rfl)
      · exact h.elim
    split at h
    · split at h
      · rename_i hl
        rw [if_pos hl]
        have h:=withL_iff h
        cases hc:allOne (cellsL _) with
        | false=>rw [hc] at h;exact h.elim
        | true =>
          rw [hc] at h
          exact storeS_of hc h.1 (h.2 _ rfl)
      · exact h.elim
    · exact h.elim
  · rename_i t ho
    unfold opS;rw [ho];dsimp only
    split at h
    · rename_i n hbig
      split at h
      · rename_i i hi
        split at h
        · rename_i z hz
          cases hc:zeroB n (cellsL z) with
          | false=>rw [hc] at h;exact h.elim
          | true =>
            rw [hc] at h
            rw [zeroB_of hc]
            exact h _ _ ⟨rfl,rfl⟩
        · exact h.elim
      · exact h.elim
    split at h
    · split at h
      · exact withL_iff h _ _ ⟨rfl,rfl⟩
      · exact h.elim
    · exact h.elim
  · rename_i t x ho
    unfold opS;rw [ho];dsimp only
    split at h
    · rename_i n hbig
      unfold boxB at h
      split at h
      · rename_i v hx
        obtain ⟨l,⟨rfl,hl⟩,h⟩:=h
        rw [cellsL_bools]
        exact h _ _ ⟨rfl,rfl⟩
      · exact h.elim
    split at h
    · exact withL_iff h _ _ ⟨rfl,rfl⟩
    · exact h.elim
  · rename_i t len parts ho
    unfold opS;rw [ho];dsimp only
    split at h
    · split at h
      · split at h
        · split at h
          · rename_i hl
            rw [if_pos hl]
            split at h
            · rename_i hm
              rw [if_pos hm]
              split at h
              · exact withL_iff h _ _ ⟨rfl,rfl⟩
              · exact h.elim
            · exact h.elim
          · exact h.elim
        · exact h.elim
      · exact h.elim
    · exact h.elim
  · exact h
inductive Md where|old|named|wild
def isFnT:Option TypeDesc->Bool|some (.func _ _ _)=>true|some (.interface _)=>true|_=>false
def boxU (v:Value) (t:TypeId) (w:World) (K:Value->World->Prop):Prop :=
  cellsL v=[v]/\∀ g w',Fresh w g w' [v] t->K (.pointer (some ⟨g,0,none⟩)) w'
def storeU (a:Addr) (v:Value) (w:World) (K:World->Prop):Prop :=
  cellsL v=[v]/\v.oneCell'=true/\stOK a 0 [v] w/\∀ w',w'=setAll a 0 [v] w->K w'
def opU (P:Program) (ρ:Env) (o:Oper) (w:World) (K:Value->World->Prop):Prop :=
  match o.op with
  | .box t x=>cond (isFnT (und P t)) (match ev ρ x with|some v=>boxU v t w K|none=>False) (opN P ρ o w K)
  | .store t x y=>cond (isFnT (und P t)) (match ev ρ x,ev ρ y,inf P t with
    | some (.pointer (some a)),some v,some i=>cond (Nat.beq i.size 1) (storeU a v w fun w'=>K undef w') False
    | _,_,_=>False) (opN P ρ o w K)
  | .call c=>(match c.callee with
    | .value (.tmp t)=>(match ev ρ (.tmp t),evs ρ c.args.toList with
      | some v,some as=>callU P v as o.type w K
      | _,_=>False)
    | _=>opN P ρ o w K)
  | _=>opN P ρ o w K
def opX (m:Md) (P:Program) (ρ:Env) (o:Oper) (w:World) (K:Value->World->Prop):Prop:=match m with | .named=>opN P ρ o w K | .old=>opS P ρ o w K | .wild=>opU P ρ o w K
structure Okay (P:Program):Prop where
  mixed:P.follows .mixedOrders=true
  names : (P.funcs.toList.all fun fn => !(fn.name == "runtime.NumGoroutine")) = true
section
variable {P:Program} {ρ:Env} {σ:Operand->Value}
theorem zerosL_length (z:List Value) (n:Nat):(zerosL z n).length=n*z.length:=by
  induction n with
  | zero=>simp [zerosL]
  | succ n ih=>simp [zerosL,ih,Nat.add_mul];omega
theorem zerosL_get (z:List Value):∀ (n i:Nat),i<n*z.length->(zerosL z n)[i]?=z[i % z.length]?
  | 0,i,h=>by simp at h
  | n+1,i,h=>by
    rw [zerosL]
    rcases Nat.lt_or_ge i z.length with hi|hi
    · rw [List.getElem?_append_left hi,Nat.mod_eq_of_lt hi]
    · rw [List.getElem?_append_right hi,zerosL_get z n _ (by rw [Nat.add_mul] at h;omega)]
      congr 1
      rw [Nat.mod_eq_sub_mod hi]
theorem zeros_eq (z:Array Value) (size n:Nat) (hz:z.toList.length=size) :
    ((Array.range (n*size)).map (z[· % z.size]!)).toList=zerosL z.toList n:=by
  apply List.ext_getElem?
  intro i
  have hs:z.size=size:=by simpa using hz
  simp only [Array.toList_map,Array.toList_range,List.getElem?_map]
  rcases Nat.lt_or_ge i (n*size) with h|h
  · rw [List.getElem?_range h,zerosL_get z.toList n i (by rw [hz];exact h),hz]
    have hpos : 0<size:=by
      rcases Nat.eq_zero_or_pos size with h0|h0
      · subst h0;simp at h
      · exact h0
    have hlt:i % size<z.size:=by rw [hs];exact Nat.mod_lt _ hpos
    have e:z[i % size]?=some z[i % size]:=Array.getElem?_eq_getElem hlt
    simp only [hs,Array.getElem?_toList,e,Option.map_some]
    rw [getElem!_pos z _ hlt]
  · rw [List.getElem?_eq_none (by simpa using h),List.getElem?_eq_none (by rw [zerosL_length,hz];exact h)]
    rfl
theorem runV_does {t:TypeId} {s:Sem Value} {w:World} {K:Value->World->Prop} {o:Oper} (h:runV P t s w K)
    (he:∀ v w',s.run P w=.ok v w'->(execOp σ o).run P w=.ok (.value v) w'):Does P σ o w K:=by
  obtain ⟨v,w',hr,hK⟩:=exRes_elim h
  exact .inl ⟨v,w',he v w' hr,hK⟩
theorem runU_does {s:Sem Unit} {w:World} {K:Value->World->Prop} {o:Oper} (h:runU P s w K)
    (he:∀ w',s.run P w=.ok () w'->(execOp σ o).run P w=.ok .skip w'):Does P σ o w K:=by
  obtain ⟨w',hr,hK⟩:=h
  exact .inr (.inl ⟨w',he w' hr,hK⟩)
theorem opS_does (ok:Okay P) (hk:Knows ρ σ) {o:Oper} {w:World} {K:Value->World->Prop} (h:opS P ρ o w K):Does P σ o w K:=by
  have hp:pureS P ρ o.op (fun v=>K v w)->Does P σ o w K:=fun h=>(pureS_gives hk h).does
  obtain ⟨dst,op,type,pos,after,guard⟩:=o
  unfold opS at h
  simp only at h
  split at h
  · -- load
    rename_i t x
    split at h
    · rename_i a ha
      obtain ⟨v,hr,hK⟩:=readT_elim h
      refine .inl ⟨v,w,?_,hK⟩
      have:=hr w (fun _ _ h=>h)
      simp only [execOp,hk x _ ha,Sem.run_bind,Instr.loadAt,Instr.sureAddr,Sem.run_pure,Result.andThen_ok,this]
    · exact h.elim
  · -- store
    rename_i t x y
    split at h
    · rename_i a v i ha hv hi
      split at h
      · rename_i hsz
        obtain ⟨w',hr,hK⟩:=storeS_run (P:=P) h
        refine .inr (.inl ⟨w',?_,hK⟩)
        have e:v.cells.size=i.size:=by rw [<- hsz,cellsL_eq];simp
        rw [cellsL_eq] at hr
        simp only [execOp,hk x _ ha,hk y _ hv,Sem.run_bind,Instr.storeAt,Instr.sureAddr,Sem.run_pure,Result.andThen_ok,storeVar,run_size hi,e,ne_eq,not_true_eq_false,if_false,hr]
      · exact h.elim
    · exact h.elim
  · -- alloc
    rename_i t
    split at h
    · rename_i i hi
      split at h
      · rename_i z hz
        refine .inl ⟨_,_,?_,h⟩
        simp only [execOp,Sem.run_bind,Instr.alloc,zeroValue,run_inf hi,Result.andThen_ok,hz,Sem.run_pure,newVar,newRow,run_newObj,World.alloc,cellsL_eq,Array.toArray_toList]
      · exact h.elim
    · exact h.elim
  · -- box
    rename_i t x
    split at h
    · rename_i v hv
      refine .inl ⟨_,_,?_,h⟩
      simp only [execOp,hk x _ hv,Sem.run_bind,Instr.box,newVar,newRow,run_newObj,Result.andThen_ok,Sem.run_pure,World.alloc,cellsL_eq,Array.toArray_toList]
    · exact h.elim
  · -- buildSlice
    rename_i t len parts
    split at h
    · rename_i e ps hd hps
      split at h
      · rename_i i hi
        split at h
        · rename_i z hz
          split at h
          · rename_i hzl
            split at h
            · rename_i hsm
              split at h
              · rename_i cs hcs
                refine .inl ⟨_,_,?_,h⟩
                have ep:(parts.map fun (i,x)=>(i,σ x))=ps.toArray:=by
                  rw [<- Array.toList_inj,Array.toList_map];exact allEv_knows hk hps
                have hf:=fill_eq _ ps _ cs hcs
                have hzc:z.cells.toList.length=i.size:=by rw [<- cellsL_eq];exact hzl
                have hsm' : ¬ len*i.size > 2 ^ 24:=by omega
                have key:∀ zz:Array Value,(len*i.size=0->zz=#[])->(len*i.size≠0->zz=z.cells) ->
                    ((Array.range (len*i.size)).map (zz[· % zz.size]!))=(zerosL (cellsL z) len).toArray:=by
                  intro zz h0 h1
                  by_cases hz0:len*i.size=0
                  · rw [hz0]
                    have hnil:zerosL (cellsL z) len=[]:=List.eq_nil_of_length_eq_zero (by rw [zerosL_length,hzl];exact hz0)
                    simp [hnil]
                  · rw [h1 hz0,<- Array.toList_inj,zeros_eq z.cells i.size len hzc,cellsL_eq]
                simp only [execOp,Sem.run_bind,Instr.buildSlice,run_und hd,Result.andThen_ok,run_size hi,if_neg hsm',ep]
                by_cases hz0:len*i.size=0
                · rw [if_pos hz0]
                  simp only [Sem.run_bind,Sem.run_pure,Result.andThen_ok]
                  rw [key #[] (fun _=>rfl) (fun h=>absurd hz0 h)]
                  simp only [hf,newRow,Sem.run_bind,run_newObj,Result.andThen_ok,Sem.run_pure,World.alloc]
                · rw [if_neg hz0]
                  simp only [Sem.run_bind,zeroValue,run_inf hi,Result.andThen_ok,hz,Sem.run_pure]
                  rw [key z.cells (fun h=>absurd h hz0) (fun _=>rfl)]
                  simp only [hf,newRow,Sem.run_bind,run_newObj,Result.andThen_ok,Sem.run_pure,World.alloc]
              · exact h.elim
            · exact h.elim
          · exact h.elim
        · exact h.elim
      · exact h.elim
    · exact h.elim
  · -- convert
    rename_i s d x
    split at h
    · split at h
      · rename_i v hv
        exact runV_does h fun u w' hr=>by simp only [execOp,hk x _ hv,Sem.run_bind,hr,Result.andThen_ok,Sem.run_pure]
      · exact h.elim
    · exact hp h
  · -- makeSlice
    rename_i t l c
    split at h
    · rename_i a b ha hb
      exact runV_does h fun u w' hr=>by simp only [execOp,hk l _ ha,hk c _ hb,Sem.run_bind,hr,Result.andThen_ok,Sem.run_pure]
    · exact h.elim
  · -- makeMap
    rename_i t r
    split at h
    · rename_i v hv
      exact runV_does h fun u w' hr=>by simp only [execOp,optB_knows hk hv,Sem.run_bind,hr,Result.andThen_ok,Sem.run_pure]
    · exact h.elim
  · -- lookup
    rename_i t x i okb
    split at h
    · rename_i a b ha hb
      exact runV_does h fun u w' hr=>by simp only [execOp,hk x _ ha,hk i _ hb,Sem.run_bind,hr,Result.andThen_ok,Sem.run_pure]
    · exact h.elim
  · rename_i t m k x
    split at h
    · rename_i a b c ha hb hc
      exact runU_does h fun w' hr=>by simp only [execOp,hk m _ ha,hk k _ hb,hk x _ hc,Sem.run_bind,hr,Result.andThen_ok,Sem.run_pure]
    · exact h.elim
  · rename_i t m k x
    split at h
    · rename_i a b c ha hb hc
      exact runU_does h fun w' hr=>by simp only [execOp,hk m _ ha,hk k _ hb,hk x _ hc,Sem.run_bind,hr,Result.andThen_ok,Sem.run_pure]
    · exact h.elim
  · -- call
    rename_i c
    obtain ⟨callee,args,argTypes⟩:=c
    simp only at h
    have hargs:∀ vs,evs ρ args.toList=some vs->args.map σ=vs.toArray:=fun vs he=>by rw [<- Array.toList_inj,Array.toList_map,hk.list he]
    split at h
    · rename_i f
      split at h
      · rename_i fid first captured as hf has
        unfold callS at h
        split at h
        · rename_i fn hfn
          have hfn':P.funcs[fid]?=some fn:=by simpa using hfn
          have hname : (fn.name == "runtime.NumGoroutine") = false := by
            have:=List.all_eq_true.1 ok.names fn (List.mem_of_getElem? hfn)
            simpa using this
          have e0:first++as.toArray++captured=(first.toList++(as++captured.toList)).toArray:=by
            rw [<- Array.toList_inj];simp
          split at h
          · rename_i body hb
            refine .inr (.inr ⟨fid,(first.toList++(as++captured.toList)).toArray,?_,h.mono fun v w' hv=>retS_elim hv⟩)
            simp only [execOp,hk f _ hf,Sem.run_bind,resolve,Deferred.ofValue,hargs _ has,Sem.run_pure,Result.andThen_ok,invoke,callFunc,run_program,hfn',hname,hb,Option.isNone_some,Bool.false_eq_true,if_false,e0]
          · rename_i hb
            split at h
            · obtain ⟨v,w',hr,hK⟩:=exRes_elim h
              refine .inl ⟨v,w',?_,hK⟩
              simp only [execOp,hk f _ hf,Sem.run_bind,resolve,Deferred.ofValue,hargs _ has,Sem.run_pure,Result.andThen_ok,invoke,e0]
              exact hr
            · obtain ⟨w',hr,hK⟩:=h
              refine .inl ⟨_,w',?_,hK⟩
              simp only [execOp,hk f _ hf,Sem.run_bind,resolve,Deferred.ofValue,hargs _ has,Sem.run_pure,Result.andThen_ok,invoke,e0]
              exact hr
            · exact h.elim
        · exact h.elim
      · exact h.elim
    · rename_i b
      split at h
      · split at h
        · rename_i as has hbe
          exact runV_does h fun u w' hr=>by simp only [execOp,resolve,hargs _ has,Sem.run_pure,Sem.run_bind,Result.andThen_ok,invoke,builtin,hr]
        · rename_i as has hbe
          exact runV_does h fun u w' hr=>by simp only [execOp,resolve,hargs _ has,Sem.run_pure,Sem.run_bind,Result.andThen_ok,invoke,builtin,hr]
        · rename_i as has hbe
          exact runV_does h fun u w' hr=>by simp only [execOp,resolve,hargs _ has,Sem.run_pure,Sem.run_bind,Result.andThen_ok,invoke,builtin,hr]
        · rename_i as has hbe
          exact runV_does h fun u w' hr=>by simp only [execOp,resolve,hargs _ has,Sem.run_pure,Sem.run_bind,Result.andThen_ok,invoke,builtin,hr]
        · rename_i as has hbe
          exact runV_does h fun u w' hr=>by simp only [execOp,resolve,hargs _ has,Sem.run_pure,Sem.run_bind,Result.andThen_ok,invoke,builtin,hr]
        · rename_i as has hbe
          exact runV_does h fun u w' hr=>by simp only [execOp,resolve,hargs _ has,Sem.run_pure,Sem.run_bind,Result.andThen_ok,invoke,builtin,hr]
        · rename_i as has hbe
          obtain ⟨w',hr,hK⟩:=h
          unfold RunsTo at hr
          exact .inl ⟨_,w',by simp only [execOp,resolve,hargs _ has,Sem.run_pure,Sem.run_bind,Result.andThen_ok,invoke,builtin,hr],hK⟩
        · exact h.elim
      · exact hp h
    · exact h.elim
  · exact hp h
theorem bigT_fn {P:Program} {t:TypeId} (h:isFnT (und P t)=true):bigT P t=none:=by
  unfold bigT
  split
  · rename_i n e hd;rw [hd] at h;cases h
  · rfl
theorem opU_does {P:Program} (ok:Okay P) {ρ:Env} {σ:Operand->Value} (hk:Knows ρ σ) {o:Oper} {w:World} {K:Value->World->Prop} (h:opU P ρ o w K):Does P σ o w K:=by
  obtain ⟨dst,op,type,pos,after,guard⟩:=o
  unfold opU at h
  simp only at h
  split at h
  · rename_i t x
    cases hf:isFnT (und P t) with
    | false=>rw [hf] at h;exact opS_does ok hk (opN_opS h)
    | true =>
      rw [hf] at h
      simp only [cond_true] at h
      split at h
      · rename_i v hv
        obtain ⟨hc,h⟩:=h
        refine opS_does ok hk (opN_opS ?_)
        unfold opN
        dsimp only
        rw [bigT_fn hf,hv]
        dsimp only
        rw [hc]
        exact h
      · exact h.elim
  · rename_i t x y
    cases hf:isFnT (und P t) with
    | false=>rw [hf] at h;exact opS_does ok hk (opN_opS h)
    | true =>
      rw [hf] at h
      simp only [cond_true] at h
      split at h
      · rename_i a v i hx hv hi
        cases hs:Nat.beq i.size 1 with
        | false=>rw [hs] at h;exact h.elim
        | true =>
          rw [hs] at h
          obtain ⟨hc,h1,h2,h3⟩:=h
          refine opS_does ok hk (opN_opS ?_)
          unfold opN
          dsimp only
          rw [bigT_fn hf,hx,hv,hi]
          dsimp only
          rw [hc,if_pos (by rw [Nat.eq_of_beq_eq_true hs];rfl)]
          show cond (allOne [v]) _ False
          have:allOne [v]=true:=by simp [allOne,h1]
          rw [this]
          exact ⟨h2,h3⟩
      · exact h.elim
  · rename_i c
    obtain ⟨callee,args,argTypes⟩:=c
    simp only at h
    split at h
    · rename_i t
      have hargs:∀ vs,evs ρ args.toList=some vs->args.map σ=vs.toArray:=fun vs he=>by rw [<- Array.toList_inj,Array.toList_map,hk.list he]
      split at h
      · rename_i v as hf has
        obtain ⟨fid,first,captured,rfl,hb,h⟩:=h
        unfold bodied at hb
        split at hb
        · rename_i fn hfn
          have hfn':P.funcs[fid]?=some fn:=by simpa using hfn
          have hname : (fn.name == "runtime.NumGoroutine") = false := by
            have:=List.all_eq_true.1 ok.names fn (List.mem_of_getElem? hfn)
            simpa using this
          have e0:first++as.toArray++captured=(first.toList++(as++captured.toList)).toArray:=by
            rw [<- Array.toList_inj];simp
          have hb':fn.body.isNone=false:=by cases hq:fn.body with|none=>rw [hq] at hb;cases hb|some _=>rfl
          refine .inr (.inr ⟨fid,(first.toList++(as++captured.toList)).toArray,?_,h.mono fun v w' hv=>retS_elim hv⟩)
          simp only [execOp,hk (.tmp t) _ hf,Sem.run_bind,resolve,Deferred.ofValue,hargs _ has,Sem.run_pure,Result.andThen_ok,invoke,callFunc,run_program,hfn',hname,hb',Bool.false_eq_true,if_false,e0]
        · cases hb
      · exact h.elim
    · exact opS_does ok hk (opN_opS h)
  · exact opS_does ok hk (opN_opS h)
theorem opX_does {m:Md} {P:Program} (ok:Okay P) {ρ:Env} {σ:Operand->Value} (hk:Knows ρ σ) {o:Oper} {w:World} {K:Value->World->Prop} (h:opX m P ρ o w K):Does P σ o w K:=by
  cases m with
  | old=>exact opS_does ok hk h
  | named=>exact opS_does ok hk (opN_opS h)
  | wild=>exact opU_does ok hk h
end
end Go.Sx
set_option linter.unusedVariables false
set_option linter.unusedSimpArgs false
namespace Go.Sx
/-! ## regions -/
def eqB:Bool->Bool->Bool|true,b=>b|false,b=>!b
def gd (all:List Oper) (o:Oper) (ρ:Env):Option Bool :=
  match o.guard with
  | none=>some true
  | some (j,want)=>match all[j]? with
    | some g=>(match g.dst with|some d=>(match ρ d with|some (.bool b)=>some (eqB b want)|some (.tuple _)=>some false|_=>none)|none=>none)
    | none=>none
def isGuard (i:Nat):List Oper->Bool
  | []=>false
  | o::l=>match o.guard with|some (j,_)=>(bif Nat.beq i j then true else isGuard i l)|none=>isGuard i l
def brB (b:Bool) (k:Bool->Prop):Prop:=cond b (k true) (k false)
theorem brB_elim {b:Bool} {k:Bool->Prop} (h:brB b k):k b:=by cases b<;>exact h
def putS (n:Nat) (all:List Oper) (i:Nat) (o:Oper) (v:Value) (ρ:Env) (k:Env->Prop):Prop :=
  match o.dst with
  | none=>k ρ
  | some d=>cond (Nat.blt d n) (cond (isGuard i all) (match v with | .bool b=>brB b fun b'=>k (ρ.set d (some (.bool b')))|_=>False) (k (ρ.set d (some v)))) False
def skipEnv (n:Nat) (o:Oper) (ρ:Env):Env:=match o.dst with|none=>ρ|some d=>ρ.set d (bif Nat.blt d n then some undef else none)
theorem putS_elim {n:Nat} {all:List Oper} {i:Nat} {o:Oper} {v:Value} {ρ:Env} {k:Env->Prop} {a:Act} (h:putS n all i o v ρ k) (ha:Agrees n ρ a) :
    ∃ ρ',Agrees n ρ' (a.put o.dst v)/\k ρ':=by
  unfold putS at h
  cases hd:o.dst with
  | none=>rw [hd] at h;exact ⟨ρ,ha.put0 v,h⟩
  | some d =>
    rw [hd] at h
    simp only at h
    cases hlt:Nat.blt d n with
    | false=>rw [hlt] at h;exact h.elim
    | true =>
      rw [hlt] at h
      have hlt':d<n:=by simpa [Nat.blt_eq] using hlt
      cases hg:isGuard i all with
      | false=>rw [hg] at h;exact ⟨_,ha.put hlt' v,h⟩
      | true =>
        rw [hg] at h
        simp only [cond_true] at h
        split at h
        · rename_i b;exact ⟨_,ha.put hlt' _,brB_elim h⟩
        · exact h.elim
theorem skip_agrees {n:Nat} {o:Oper} {ρ:Env} {a:Act} (ha:Agrees n ρ a):Agrees n (skipEnv n o ρ) (a.put o.dst undef):=by
  unfold skipEnv
  cases hd:o.dst with
  | none=>exact ha.put0 _
  | some d =>
    cases hlt:Nat.blt d n with
    | true=>simp only [hlt,cond_true];exact ha.put (by simpa [Nat.blt_eq] using hlt) _
    | false=>simp only [hlt,cond_false];exact ha.putNone d _
theorem gd_wanted {n:Nat} {all:List Oper} {o:Oper} {ρ:Env} {a:Act} {b:Bool} (h:gd all o ρ=some b) (ha:Agrees n ρ a):Region.wanted o (yielded all.toArray a.tmps)=b:=by
  unfold gd at h
  unfold Region.wanted
  split at h
  · rename_i hg;rw [hg];simp at h;simp [h]
  · rename_i j want hg
    rw [hg]
    simp only
    split at h
    · rename_i g hj
      split at h
      · rename_i d hd
        split at h
        · rename_i c hc
          simp only [Option.some.injEq] at h
          have h1:=ha.at_ d _ hc
          have h2:yielded all.toArray a.tmps j=some c:=by
            simp [yielded,hj,hd,h1]
          rw [h2,<- h]
          cases c<;>cases want<;>rfl
        · rename_i vs hc
          simp only [Option.some.injEq] at h
          have h1:=ha.at_ d _ hc
          have h2:yielded all.toArray a.tmps j=none:=by
            simp [yielded,hj,hd,h1]
          rw [h2,<- h]
          rfl
        · cases h
      · cases h
    · cases h
def regW (m:Md) (P:Program) (n:Nat) (all:List Oper):Nat->List Oper->(Env->World->Prop)->Env->World->Prop
  | _,[],K,ρ,w=>K ρ w
  | i,o::rest,K,ρ,w=>match gd all o ρ with
    | some true=>opX m P ρ o w fun v w'=>putS n all i o v ρ fun ρ'=>regW m P n all (i+1) rest K ρ' w'
    | some false=>regW m P n all (i+1) rest K (skipEnv n o ρ) w
    | none=>False
def opDst (o:Oper):List Nat:=match o.dst with|some d=>[d]|none=>[]
def opsDst:List Oper->List Nat
  | []=>[]
  | o::l=>opDst o++opsDst l
theorem mem_opsDst {o:Oper} {d:Nat} (hd:o.dst=some d):∀ {l:List Oper},o∈l->d∈opsDst l
  | x::l,h=>by
    rcases List.mem_cons.1 h with rfl|h
    · simp [opsDst,opDst,hd]
    · simp [opsDst,mem_opsDst hd h]
theorem put_same {o:Oper} {l:List Oper} (ho:o∈l) (a:Act) (v:Value):SameBut (opsDst l) a (a.put o.dst v) :=
  .put a (fun t ht=>mem_opsDst ht ho) v
def QW (n:Nat) (L:List Nat) (a₀:Act) (K:Exit->Env->World->Prop):Exit->Act->World->Prop
  | .panic _,_,_=>False
  | .outgrown,_,_=>False
  | e,a,w=>SameBut L a₀ a/\∃ ρ,Agrees n ρ a/\K e ρ w
theorem regW_sound {m:Md} {P:Program} (ok:Okay P) {n:Nat} {all:List Oper} {L:List Nat} (hL:∀ t,t∈opsDst all->t∈L) {a₀:Act} {K:Exit->Env->World->Prop} :
    ∀ (rest:List Oper) (i:Nat) (ρ:Env) (a:Act) (w:World),(∀ o∈rest,o∈all)->SameBut L a₀ a->Agrees n ρ a ->
      regW m P n all i rest (K .normal) ρ w->wpList P all.toArray (QW n L a₀ K) rest a w
  | [],i,ρ,a,w,_,hs,ha,h=>⟨hs,ρ,ha,h⟩
  | o::rest,i,ρ,a,w,hm,hs,ha,h=>by
    have hmo:o∈all:=hm o (by simp)
    have hmr:∀ x∈rest,x∈all:=fun x hx=>hm x (by simp [hx])
    have hput:∀ v,SameBut L a₀ (a.put o.dst v):=fun v=>hs.trans ((put_same hmo a v).mono hL)
    unfold regW at h
    unfold wpList
    split at h
    · rename_i hg
      rw [gd_wanted hg ha]
      simp only [if_true]
      refine .inl (Oper.wp_mono ?_ (opX_does ok ha.ev h).wp)
      rintro a' w' ⟨v,rfl,hv⟩
      obtain ⟨ρ',ha',hk⟩:=putS_elim hv ha
      exact regW_sound ok hL rest (i+1) ρ' _ w' hmr (hput v) ha' hk
    · rename_i hg
      rw [gd_wanted hg ha]
      simp only [Bool.false_eq_true,if_false]
      exact regW_sound ok hL rest (i+1) _ _ w hmr (hput _) (skip_agrees ha) h
    · exact h.elim
/-! ## regions whose order is drawn -/
def quietK (P:Program) (o:Oper):Bool :=
  match o.op with
  | .load _ _=>true
  | .store _ _ _ | .alloc _ | .box _ _ | .buildSlice _ _ _ | .makeSlice _ _ _ | .makeMap _ _ | .lookup _ _ _ _ | .mapUpdate _ _ _ _ | .insert _ _ _ _=>false
  | .convert s d _=>!(isSlc (und P d) || isUns (und P s) || isUns (und P d))
  | .call c=>(match c.callee with | .builtin b=>!effB P b c.argTypes.toList|_=>false)
  | _=>true
def quietS (P:Program) (ρ:Env) (o:Oper) (S:World->Prop) (K:Value->Prop):Prop :=
  match o.op with
  | .load t x=>(match ev ρ x with|some (.pointer (some a))=>readT P t (fun ad v=>∀ u,S u->u.cell? ad=some v) a K|_=>False)
  | .convert s d x=>(if isSlc (und P s) && isStr (und P d)
      then (match ev ρ x with|some v=>∃ r:ByteArray,(∀ u,S u->RunsTo P (convert s d v) u (.string r) u)/\K (.string r)|none=>False)
      else pureS P ρ o.op K)
  | _=>pureS P ρ o.op K
theorem quietS_yields {P:Program} {ρ:Env} {σ:Operand->Value} (hk:Knows ρ σ) {o:Oper} {S:World->Prop} {K:Value->Prop} (h:quietS P ρ o S K) :
    ∃ v,(∀ w,S w->(execOp σ o).run P w=.ok (.value v) w)/\K v:=by
  have hp:pureS P ρ o.op K->∃ v,(∀ w,S w->(execOp σ o).run P w=.ok (.value v) w)/\K v:=fun h =>
    let ⟨v,hr,hK⟩:=pureS_gives hk h;⟨v,fun w _=>hr w,hK⟩
  obtain ⟨dst,op,type,pos,after,guard⟩:=o
  unfold quietS at h
  simp only at h
  split at h
  · rename_i t x
    split at h
    · rename_i a ha
      obtain ⟨v,hr,hK⟩:=readT_elim h
      refine ⟨v,fun w hS=>?_,hK⟩
      have:=hr w (fun ad u hu=>hu w hS)
      simp only [execOp,hk x _ ha,Sem.run_bind,Instr.loadAt,Instr.sureAddr,Sem.run_pure,Result.andThen_ok,this]
    · exact h.elim
  · rename_i s d x
    split at h
    · split at h
      · rename_i v hv
        obtain ⟨r,hr,hK⟩:=h
        refine ⟨.string r,fun w hS=>?_,hK⟩
        have e:(convert s d v).run P w=.ok (.string r) w:=hr w hS
        simp only [execOp,hk x _ hv,Sem.run_bind,e,Result.andThen_ok,Sem.run_pure]
      · exact h.elim
    · exact hp h
  · exact hp h
structure LO where
  dst:Option Nat
  looks:List Nat
  aft:List Nat
  q:Bool
def tmpsL:List Operand->List Nat
  | []=>[]
  | .tmp t::l=>t::tmpsL l
  | _::l=>tmpsL l
def operL:Op->List Operand
  | .alloc _ | .ready _ | .waits _=>[]
  | .move x | .assign x | .box _ x | .load _ x | .nilCheck x | .unOp _ _ x | .convert _ _ x | .sliceToArrayPointer _ x | .makeInterface _ x
  | .makeChan _ x | .fieldAddr _ x _ | .field _ x _ | .range _ x | .next x _ | .entry x | .typeAssert x _ _ _ | .extract x _ | .panic x | .recv _ x _=>[x]
  | .pick c a b=>[c,a,b]
  | .build _ ps | .buildSlice _ _ ps=>ps.toList.map (·.2)
  | .store _ a v | .binOp _ _ a v _ | .makeSlice _ a v | .indexAddr _ a v | .index _ a v | .lookup _ a v _ | .mapEntry _ a v | .send a v=>[a,v]
  | .makeFunc _ first captured=>first.toList++captured.toList
  | .makeMap _ r=>r.toList
  | .slice _ x l h m=>x::(l.toList++(h.toList++m.toList))
  | .mapUpdate _ m k v | .entryStore _ m k v | .insert _ m k v=>[m,k,v]
  | .call c | .go c | .defer c=>(match c.callee with | .value f=>f::c.args.toList | .invoke r _=>r::c.args.toList | .builtin _=>c.args.toList)
  | .select cs _=>(cs.flatMap fun c=>#[c.chan]++c.send.toArray).toList
theorem operL_eq (o:Op):o.operands.toList=operL o:=by
  cases o<;>simp only [Op.operands,operL,Call.operands]<;>first|rfl|(simp;done)|(rename_i c;cases c.callee<;>simp)|skip
  all_goals (rename_i c;obtain ⟨callee,args,ts⟩:=c;cases callee<;>simp)
theorem tmpsL_eq:∀ l:List Operand,l.filterMap (fun | .tmp t=>some t|_=>none)=tmpsL l
  | []=>rfl
  | x::l=>by cases x<;>simp [tmpsL,tmpsL_eq l]
def bindsE (e:Edge):Bool:=match e.ground with | .textOnly _=>false | .gcOnly _=>false|_=>true
theorem bindsE_eq (e:Edge):Region.binds .any e=bindsE e:=by obtain ⟨on,g⟩:=e;cases g<;>rfl
def aftL:List Edge->List Nat
  | []=>[]
  | e::l=>bif bindsE e then e.on::aftL l else aftL l
def lightOf (P:Program) (all:List Oper):List Oper->List LO
  | []=>[]
  | o::l=>{ dst:=o.dst,looks:=tmpsL (operL o.op)++(match o.guard with|some (g,_)=>(match all[g]? with|some x=>x.dst.toList|none=>[])|none=>[]),aft:=aftL o.after.toList,q:=quietK P o }::lightOf P all l
def nthB:List Bool->Nat->Bool->Bool
  | [],_,d=>d
  | b::_,0,_=>b
  | _::l,n+1,d=>nthB l n d
def allOn (listed:List Bool):List Nat->Bool
  | []=>true
  | j::l=>bif nthB listed j false then allOn listed l else false
def readyL (listed:List Bool):Nat->List LO->List Bool->List Nat
  | _,[],_=>[]
  | _,_::_,[]=>[]
  | i,x::xs,b::bs=>bif b then readyL listed (i+1) xs bs else bif allOn listed x.aft then i::readyL listed (i+1) xs bs else readyL listed (i+1) xs bs
def eqO:Option Nat->Nat->Bool
  | none,_=>false
  | some x,d=>Nat.beq x d
def apartL (x y:LO):Bool :=
  (match x.dst with|some d=>bif memNat d y.looks then false else bif eqO y.dst d then false else true|none=>true) &&
  (match y.dst with|some d=>bif memNat d x.looks then false else true|none=>true)
def freeL (x:LO) (i:Nat):Nat->List LO->List Bool->Bool
  | _,[],_=>true
  | _,_::_,[]=>true
  | j,y::ys,b::bs=>bif b then freeL x i (j+1) ys bs else bif Nat.beq j i then freeL x i (j+1) ys bs else bif memNat i y.aft then freeL x i (j+1) ys bs else bif apartL x y then freeL x i (j+1) ys bs else false
def markL:Nat->List Bool->List Bool
  | _,[]=>[]
  | 0,_::l=>true::l
  | n+1,b::l=>b::markL n l
def findTake (L:List LO) (listed:List Bool):List Nat->Option Nat
  | []=>none
  | i::l=>match L[i]? with
    | some x=>bif x.q then (bif freeL x i 0 L listed then some i else findTake L listed l) else findTake L listed l
    | none=>findTake L listed l
def allL {α:Type}:List α->(α->Prop)->Prop
  | [],_=>True
  | [x],p=>p x
  | x::l,p=>p x/\allL l p
theorem allL_elim {α:Type}:∀ {l:List α} {p : α->Prop},allL l p->∀ x∈l,p x
  | [x],p,h,y,hy=>by simp at hy;subst hy;exact h
  | x::z::l,p,h,y,hy=>by
    rcases List.mem_cons.1 hy with rfl|hy
    · exact h.1
    · exact allL_elim h.2 y hy
theorem nthB_eq:∀ (l:List Bool) (n:Nat) (d:Bool),nthB l n d=l.toArray.getD n d
  | [],n,d=>by simp [nthB]
  | b::l,0,d=>by simp [nthB]
  | b::l,n+1,d=>by have:=nthB_eq l n d;simp [nthB,this]
theorem markL_eq:∀ (n:Nat) (l:List Bool),(markL n l).toArray=l.toArray.setIfInBounds n true
  | n,[]=>by cases n<;>simp [markL]
  | 0,b::l=>by simp [markL]
  | n+1,b::l=>by have:=markL_eq n l;simp [markL] at this ⊢;exact this
theorem markL_length:∀ (n:Nat) (l:List Bool),(markL n l).length=l.length
  | n,[]=>by cases n<;>rfl
  | 0,b::l=>rfl
  | n+1,b::l=>by simp [markL,markL_length n l]
theorem allOn_eq (listed:List Bool):∀ es:List Edge,allOn listed (aftL es)=es.all fun e=>!Region.binds .any e || listed.toArray.getD e.on false
  | []=>rfl
  | e::es=>by
    have ih:=allOn_eq listed es
    rw [List.all_cons,<- ih,bindsE_eq]
    have e0:aftL (e::es)=bif bindsE e then e.on::aftL es else aftL es:=rfl
    rw [e0]
    cases hb:bindsE e with
    | false=>simp only [cond_false,Bool.not_false,Bool.true_or,Bool.true_and]
    | true=>simp only [cond_true,allOn,nthB_eq,Bool.not_true,Bool.false_or];cases listed.toArray.getD e.on false<;>rfl
theorem lightOf_get {P:Program} {all:List Oper}:∀ (l:List Oper) (i:Nat),(lightOf P all l)[i]?=l[i]?.map fun o=>{ dst:=o.dst,looks:=tmpsL (operL o.op)++(match o.guard with|some (g,_)=>(match all[g]? with|some x=>x.dst.toList|none=>[])|none=>[]),aft:=aftL o.after.toList,q:=quietK P o }
  | [],i=>by simp [lightOf]
  | o::l,0=>by simp [lightOf]
  | o::l,i+1=>by simp [lightOf,lightOf_get l i]
theorem ready_eq {P:Program} {ops:List Oper} {listed:List Bool} (hl:listed.length=ops.length) :
    Region.ready .any ops.toArray listed.toArray=readyL listed 0 (lightOf P ops ops) listed:=by
  unfold Region.ready
  suffices H:∀ (l:List Oper) (bs:List Bool) (i:Nat),l.length=bs.length->(∀ j,ops[i+j]?=l[j]?)->(∀ j,listed[i+j]?=bs[j]?) ->
      (List.range' i l.length).filter (fun i=>!listed.toArray.getD i true && ((ops.toArray[i]?).map (·.after.all fun e=>!Region.binds .any e || listed.toArray.getD e.on false)).getD false)=readyL listed i (lightOf P ops l) bs by
    have:=H ops listed 0 hl.symm (by simp) (by simp)
    rw [<- this,List.range_eq_range']
    simp
  intro l
  induction l with
  | nil=>intro bs i h _ _;simp [lightOf,readyL]
  | cons o l ih =>
    intro bs i h ho hb
    cases bs with
    | nil=>simp at h
    | cons b bs =>
      have ih':=ih bs (i+1) (by simpa using h) (fun j=>by have:=ho (j+1);simpa [Nat.add_assoc,Nat.add_comm 1] using this) (fun j=>by have:=hb (j+1);simpa [Nat.add_assoc,Nat.add_comm 1] using this)
      have h0:ops[i]?=some o:=by simpa using ho 0
      have h1:listed.toArray.getD i true=b:=by have:=hb 0;simp at this;simp [Array.getD_eq_getD_getElem?,this]
      have h2:(o.after.all fun e=>!Region.binds .any e || listed.toArray.getD e.on false)=allOn listed (aftL o.after.toList):=by
        rw [allOn_eq,<- Array.all_toList]
      have h0':ops.toArray[i]?=some o:=by simpa using h0
      simp only [List.length_cons,List.range'_succ,List.filter_cons,lightOf,readyL,h1,h0',Option.map_some,Option.getD_some,h2]
      rw [ih']
      cases b<;>cases allOn listed (aftL o.after.toList)<;>simp
theorem apartL_apart {P:Program} {ops:List Oper} {x y:Oper} {i j:Nat} {lx ly:LO} (hx:ops[i]?=some x) (hy:ops[j]?=some y) (h1:(lightOf P ops ops)[i]?=some lx) (h2:(lightOf P ops ops)[j]?=some ly)
    (h:apartL lx ly=true):x.apart ops.toArray y=true:=by
  rw [lightOf_get,hx] at h1;rw [lightOf_get,hy] at h2
  simp only [Option.map_some,Option.some.injEq] at h1 h2
  subst h1;subst h2
  have looks:∀ z:Oper,z.looksAt ops.toArray=tmpsL (operL z.op)++(match z.guard with|some (g,_)=>(match ops[g]? with|some x=>x.dst.toList|none=>[])|none=>[]):=by
    intro z
    unfold Oper.looksAt
    rw [operL_eq]
    congr 1
    · exact tmpsL_eq _
    · cases z.guard with
      | none=>rfl
      | some p=>obtain ⟨g,b⟩:=p;simp only [List.getElem?_toArray];cases ops[g]?<;>simp
  unfold Oper.apart
  rw [looks x,looks y]
  unfold apartL at h
  simp only [Bool.and_eq_true] at h
  obtain ⟨ha,hb⟩:=h
  have mem:∀ (d:Nat) (l:List Nat),l.contains d=memNat d l:=fun d l=>by
    cases hm:memNat d l with
    | true=>simpa using memNat_iff.1 hm
    | false=>simp;intro hc;rw [memNat_iff.2 hc] at hm;cases hm
  simp only [Bool.and_eq_true]
  refine ⟨?_,?_⟩
  · cases hd:x.dst with
    | none=>rfl
    | some d =>
      simp only [hd] at ha
      simp only [mem]
      cases hm:memNat d (tmpsL (operL y.op)++(match y.guard with|some (g,_)=>(match ops[g]? with|some x=>x.dst.toList|none=>[])|none=>[])) with
      | true=>rw [hm] at ha;simp at ha
      | false =>
        rw [hm] at ha
        simp only [cond_false] at ha
        cases hy':y.dst with
        | none=>simp
        | some d' =>
          rw [hy'] at ha
          simp only [eqO] at ha
          cases hq:Nat.beq d' d with
          | true=>rw [hq] at ha;simp at ha
          | false=>have:=Nat.ne_of_beq_eq_false hq;simp [this]
  · cases hd:y.dst with
    | none=>rfl
    | some d =>
      simp only [hd] at hb
      simp only [mem]
      cases hm:memNat d (tmpsL (operL x.op)++(match x.guard with|some (g,_)=>(match ops[g]? with|some x=>x.dst.toList|none=>[])|none=>[])) with
      | true=>rw [hm] at hb;simp at hb
      | false=>rfl
theorem mem_aftL {i:Nat}:∀ {es:List Edge},i∈aftL es->∃ e∈es,Region.binds .any e=true/\e.on=i
  | e::es,h=>by
    unfold aftL at h
    cases hb:bindsE e with
    | true =>
      rw [hb] at h
      rcases List.mem_cons.1 h with h|h
      · exact ⟨e,by simp,by rw [bindsE_eq];exact hb,h.symm⟩
      · obtain ⟨e',he,hx⟩:=mem_aftL h;exact ⟨e',by simp [he],hx⟩
    | false=>rw [hb] at h;obtain ⟨e',he,hx⟩:=mem_aftL h;exact ⟨e',by simp [he],hx⟩
theorem freeL_free {P:Program} {ops:List Oper} {listed:List Bool} (hl:listed.length=ops.length) {i:Nat} {oi:Oper} {x:LO} (hi:ops[i]?=some oi) (hx:(lightOf P ops ops)[i]?=some x)
    (h:freeL x i 0 (lightOf P ops ops) listed=true):Region.free .any ops.toArray listed.toArray i=true:=by
  have H:∀ (ys:List LO) (bs:List Bool) (j0:Nat),freeL x i j0 ys bs=true->∀ j y,ys[j]?=some y->bs[j]?=some false->j0+j≠i->i∉y.aft->apartL x y=true:=by
    intro ys
    induction ys with
    | nil=>intro bs j0 _ j y hy;simp at hy
    | cons z ys ih =>
      intro bs j0 hf j y hy hb hne hna
      cases bs with
      | nil=>simp at hb
      | cons b bs =>
        unfold freeL at hf
        cases j with
        | zero =>
          simp at hy hb;subst hy;subst hb
          simp only [cond_false] at hf
          have:Nat.beq j0 i=false:=by cases hq:Nat.beq j0 i with|true=>exact absurd (Nat.eq_of_beq_eq_true hq) (by simpa using hne)|false=>rfl
          rw [this] at hf
          simp only [cond_false] at hf
          have hm:memNat i z.aft=false:=by cases hq:memNat i z.aft with|true=>exact absurd (memNat_iff.1 hq) hna|false=>rfl
          rw [hm] at hf
          simp only [cond_false] at hf
          cases ha:apartL x z with|true=>rfl|false=>rw [ha] at hf;simp at hf
        | succ j =>
          simp at hy hb
          have hf':freeL x i (j0+1) ys bs=true:=by
            cases b with
            | true=>simpa using hf
            | false =>
              simp only [cond_false] at hf
              cases h1:Nat.beq j0 i with
              | true=>rw [h1] at hf;simpa using hf
              | false =>
                rw [h1] at hf
                simp only [cond_false] at hf
                cases h2:memNat i z.aft with
                | true=>rw [h2] at hf;simpa using hf
                | false =>
                  rw [h2] at hf
                  simp only [cond_false] at hf
                  cases h3:apartL x z with|true=>rw [h3] at hf;simpa using hf|false=>rw [h3] at hf;simp at hf
          exact ih bs (j0+1) hf' j y hy hb (by omega) hna
  unfold Region.free
  simp only [List.getElem?_toArray,hi,List.all_eq_true,List.mem_range,List.size_toArray]
  intro j hj
  simp only [Bool.or_eq_true]
  by_cases hji:j=i
  · exact .inl (.inl (by simp [hji]))
  · have hjo:ops[j]?=some ops[j]:=by simp [hj]
    cases hb:listed.toArray.getD j true with
    | true=>exact .inl (.inr rfl)
    | false =>
      right
      rw [hjo]
      simp only [Bool.or_eq_true]
      by_cases hm:i∈aftL ops[j].after.toList
      · left
        obtain ⟨e,he,h1,h2⟩:=mem_aftL hm
        exact Array.any_eq_true'.2 ⟨e,by simpa using he,by simp [h1,h2]⟩
      · right
        have hly:(lightOf P ops ops)[j]?=some { dst:=ops[j].dst,looks:=tmpsL (operL ops[j].op)++(match ops[j].guard with|some (g,_)=>(match ops[g]? with|some x=>x.dst.toList|none=>[])|none=>[]),aft:=aftL ops[j].after.toList,q:=quietK P ops[j] }:=by rw [lightOf_get,hjo];rfl
        have hbj:listed[j]?=some false:=by
          have hlt:j<listed.length:=by omega
          rw [Array.getD_eq_getD_getElem?,List.getElem?_toArray] at hb
          simp [hlt] at hb ⊢;exact hb
        exact apartL_apart hi hjo hx hly (H _ _ 0 h j _ hly hbj (by omega) hm)
def noSel:List Oper->Bool
  | []=>true
  | o::l=>match o.op with | .select _ _=>false|_=>noSel l
theorem noSel_all:∀ {l:List Oper},noSel l=true->(l.all fun o=>match o.op with | .select ..=>false|_=>true)=true
  | [],_=>rfl
  | o::l,h=>by
    obtain ⟨dst,op,type,pos,after,guard⟩:=o
    simp only [List.all_cons,Bool.and_eq_true]
    cases op<;>simp only [noSel] at h<;>first|(cases h;done)|exact ⟨rfl,noSel_all h⟩
theorem noSel_eq {l:List Oper} (h:noSel l=true):Region.noSelect l.toArray=true:=by
  have:=noSel_all h
  unfold Region.noSelect
  rw [<- Array.all_toList]
  exact this
def falses:List Oper->List Bool
  | []=>[]
  | _::l=>false::falses l
def drW (m:Md) (P:Program) (n:Nat) (ops:List Oper) (L:List LO) (K:Env->World->Prop):List Oper->List Bool->(World->Prop)->Env->World->Prop
  | [],listed,S,ρ,w=>(match readyL listed 0 L listed with|[]=>K ρ w|_=>False)
  | _::fuel,listed,S,ρ,w =>
    match readyL listed 0 L listed with
    | []=>K ρ w
    | i0::more =>
      match findTake L listed (i0::more) with
      | some i=>(match ops[i]? with
        | some o=>(match gd ops o ρ with
          | some true=>quietS P ρ o S fun v=>putS n ops i o v ρ fun ρ'=>drW m P n ops L K fuel (markL i listed) S ρ' w
          | some false=>drW m P n ops L K fuel (markL i listed) S (skipEnv n o ρ) w
          | none=>False)
        | none=>False)
      | none=>allL (i0::more) fun i=>(match ops[i]? with
        | some o=>(match gd ops o ρ with
          | some true=>opX m P ρ o w fun v w'=>putS n ops i o v ρ fun ρ'=>∃ S':World->Prop,(∀ u,S' u->S u)/\S' w'/\drW m P n ops L K fuel (markL i listed) S' ρ' w'
          | some false=>drW m P n ops L K fuel (markL i listed) S (skipEnv n o ρ) w
          | none=>False)
        | none=>False)
theorem wpAnyH_weaken {P:Program} {md:Region.Mode} {ops:Array Oper} {Q:Exit->Act->World->Prop} {S S':World->Prop} (hS:∀ w,S' w->S w) :
    ∀ (fuel:Nat) (listed:Array Bool) (a:Act) (w:World),wpAnyH P md ops Q S' fuel listed a w->wpAnyH P md ops Q S fuel listed a w
  | 0,_,_,_,h=>h
  | fuel+1,listed,a,w,h=>⟨h.1,fun i hi=>wpOp_mono (fun a' w' h'=>⟨hS _ h'.1,wpAnyH_weaken hS fuel _ a' w' h'.2⟩) (h.2 i hi)⟩
theorem findTake_spec {L:List LO} {listed:List Bool}:∀ {l:List Nat} {i:Nat},findTake L listed l=some i->i∈l/\∃ x,L[i]?=some x/\freeL x i 0 L listed=true
  | j::l,i,h=>by
    simp only [findTake] at h
    split at h
    · rename_i x hx
      cases hq:x.q with
      | false=>rw [hq] at h;simp at h;obtain ⟨h1,h2⟩:=findTake_spec h;exact ⟨by simp [h1],h2⟩
      | true =>
        rw [hq] at h
        simp only [cond_true] at h
        cases hc:freeL x j 0 L listed with
        | true=>rw [hc] at h;simp at h;subst h;exact ⟨by simp,x,hx,hc⟩
        | false=>rw [hc] at h;simp at h;obtain ⟨h1,h2⟩:=findTake_spec h;exact ⟨by simp [h1],h2⟩
    · obtain ⟨h1,h2⟩:=findTake_spec h;exact ⟨by simp [h1],h2⟩
theorem drW_sound {m:Md} {P:Program} (ok:Okay P) {n:Nat} {ops:List Oper} (hsel:Region.noSelect ops.toArray=true) {L:List Nat} (hL:∀ t,t∈opsDst ops->t∈L) {a₀:Act} {K:Exit->Env->World->Prop} :
    ∀ (fl:List Oper) (listed:List Bool) (S:World->Prop) (ρ:Env) (a:Act) (w:World),listed.length=ops.length->SameBut L a₀ a->Agrees n ρ a->S w ->
      drW m P n ops (lightOf P ops ops) (K .normal) fl listed S ρ w->wpAnyH P .any ops.toArray (QW n L a₀ K) S fl.length listed.toArray a w
  | [],listed,S,ρ,a,w,hl,hs,ha,hS,h=>by
    have hr0:=ready_eq (P:=P) hl
    unfold drW at h
    split at h
    · rename_i hr;exact ⟨hr0.trans hr,hs,ρ,ha,h⟩
    · exact h.elim
  | _::fl,listed,S,ρ,a,w,hl,hs,ha,hS,h=>by
    have hr0:=ready_eq (P:=P) hl
    have hmem:∀ {i:Nat} {o:Oper},ops[i]?=some o->o∈ops:=fun {i o} hi=>List.mem_of_getElem? hi
    have hput:∀ {i:Nat} {o:Oper} (_:ops[i]?=some o) v,SameBut L a₀ (a.put o.dst v):=fun hi v=>hs.trans ((put_same (hmem hi) a v).mono hL)
    unfold drW at h
    split at h
    · rename_i hr
      exact wpAnyH_done (hr0.trans hr) ⟨hs,ρ,ha,h⟩ _
    · rename_i i0 more hr
      have hrr:=hr0.trans hr
      split at h
      · rename_i i hf
        obtain ⟨hi,x,hx,hfx⟩:=findTake_spec hf
        split at h
        · rename_i o ho
          have hfree:=freeL_free hl ho hx hfx
          have ho':ops.toArray[i]?=some o:=by simpa using ho
          split at h
          · rename_i hg
            obtain ⟨v,hy,hv⟩:=quietS_yields ha.ev h
            obtain ⟨ρ',ha',hk⟩:=putS_elim hv ha
            have hw:=gd_wanted hg ha
            refine wpAnyH_take ho' hsel hfree (by rw [hrr];simpa using hi) (fun _ _ _ q=>q.elim) (.inl ⟨hw,hy⟩) hS ?_
            rw [<- markL_eq]
            exact drW_sound ok hsel hL fl _ S ρ' _ w (by rw [markL_length];exact hl) (hput ho v) ha' hS hk
          · rename_i hg
            have hw:=gd_wanted hg ha
            refine wpAnyH_take ho' hsel hfree (by rw [hrr];simpa using hi) (fun _ _ _ q=>q.elim) (.inr ⟨hw,rfl⟩) hS ?_
            rw [<- markL_eq]
            exact drW_sound ok hsel hL fl _ S _ _ w (by rw [markL_length];exact hl) (hput ho _) (skip_agrees ha) hS h
          · exact h.elim
        · exact h.elim
      · refine wpAnyH_all hrr (by simp) fun i hi=>?_
        have h:=allL_elim h i hi
        unfold wpOp
        split at h
        · rename_i o ho
          have ho':ops.toArray[i]?=some o:=by simpa using ho
          rw [ho']
          simp only
          split at h
          · rename_i hg
            have hw:=gd_wanted hg ha
            rw [hw]
            simp only [if_true]
            refine .inl (Oper.wp_mono ?_ (opX_does ok ha.ev h).wp)
            rintro a' w' ⟨v,rfl,hv⟩
            obtain ⟨ρ',ha',S',hSS,hS',hk⟩:=putS_elim hv ha
            rw [<- markL_eq]
            exact ⟨hSS _ hS',wpAnyH_weaken hSS _ _ _ _ (drW_sound ok hsel hL fl _ S' ρ' _ w' (by rw [markL_length];exact hl) (hput ho v) ha' hS' hk)⟩
          · rename_i hg
            have hw:=gd_wanted hg ha
            rw [hw]
            simp only [Bool.false_eq_true,if_false]
            rw [<- markL_eq]
            exact ⟨hS,drW_sound ok hsel hL fl _ S _ _ w (by rw [markL_length];exact hl) (hput ho _) (skip_agrees ha) hS h⟩
          · exact h.elim
        · exact h.elim
/-! ## regions whose order is drawn, a reading's condition asked as long as it may still be due -/
def waitsOn (md:Region.Mode) (o:Oper) (q:Nat):Bool:=o.after.any fun e=>Region.binds md e && e.on == q
def keepAt (md:Region.Mode) (ops:Array Oper) (i:Nat) (T:List (Nat×(World->Prop))):List (Nat×(World->Prop)) :=
  match ops[i]? with
  | some o=>T.filter fun p=>!waitsOn md o p.1
  | none=>T
def wpAnyT (P:Program) (md:Region.Mode) (ops:Array Oper) (Q:Exit->Act->World->Prop):List (Nat×(World->Prop))->Nat->Array Bool->Act->World->Prop
  | _,0,listed,a,w=>Region.ready md ops listed=[]/\Q .normal a w
  | T,fuel+1,listed,a,w=>(Region.ready md ops listed=[]->Q .normal a w) /\
      ∀ i∈Region.ready md ops listed,wpOp P ops Q i (fun a' w'=>(∀ p∈keepAt md ops i T,p.2 w')/\wpAnyT P md ops Q (keepAt md ops i T) fuel (listed.setIfInBounds i true) a' w') a w
theorem wpAny_of_T {P:Program} {md:Region.Mode} {ops:Array Oper} {Q:Exit->Act->World->Prop}:∀ (fuel:Nat) (T:List (Nat×(World->Prop))) (listed:Array Bool) (a:Act) (w:World),wpAnyT P md ops Q T fuel listed a w->wpAny P md ops Q fuel listed a w
  | 0,_,_,_,_,h=>h
  | fuel+1,_,_,_,_,h=>⟨h.1,fun i hi=>wpOp_mono (fun a' w' h'=>wpAny_of_T fuel _ _ a' w' h'.2) (h.2 i hi)⟩
theorem keepAt_sub {md:Region.Mode} {ops:Array Oper} {i:Nat} {T T':List (Nat×(World->Prop))} (h:∀ p∈T',p∈T\/∀ w,p.2 w):∀ p∈keepAt md ops i T',p∈keepAt md ops i T\/∀ w,p.2 w:=by
  unfold keepAt
  split
  · intro p hp
    obtain ⟨hp,hw⟩:=List.mem_filter.1 hp
    exact (h p hp).imp (fun hm=>List.mem_filter.2 ⟨hm,hw⟩) id
  · exact h
theorem wpAnyT_sub {P:Program} {md:Region.Mode} {ops:Array Oper} {Q:Exit->Act->World->Prop}:∀ (fuel:Nat) (T T':List (Nat×(World->Prop))) (listed:Array Bool) (a:Act) (w:World),(∀ p∈T',p∈T\/∀ w,p.2 w)->wpAnyT P md ops Q T fuel listed a w->wpAnyT P md ops Q T' fuel listed a w
  | 0,_,_,_,_,_,_,h=>h
  | fuel+1,T,T',_,_,_,hT,h=>⟨h.1,fun i hi=>wpOp_mono (fun a' w' h'=>⟨fun p hp=>(keepAt_sub hT p hp).elim (h'.1 p) (fun hw=>hw w'),wpAnyT_sub fuel _ _ _ a' w' (keepAt_sub hT) h'.2⟩) (h.2 i hi)⟩
theorem keepAt_mem {md:Region.Mode} {ops:Array Oper} {i:Nat} {T:List (Nat×(World->Prop))} {p:Nat×(World->Prop)} (h:p∈keepAt md ops i T):p∈T:=by
  unfold keepAt at h
  split at h
  · exact (List.mem_filter.1 h).1
  · exact h
theorem wpAnyT_first {P:Program} {md:Region.Mode} {ops:Array Oper} {Q:Exit->Act->World->Prop} {i:Nat} {oi:Oper} {v:Value} {S:World->Prop} (hi:ops[i]?=some oi) (hsel:∀ (j:Nat) (o:Oper) cs b,ops[j]?=some o->o.op≠.select cs b)
    (hQ:∀ c a w,Q (.panic c) (a.put oi.dst v) w->Q (.panic c) a w) :
    ∀ (fuel:Nat) (T:List (Nat×(World->Prop))) (listed:Array Bool) (a:Act) (w:World),
      (∀ j oj,ops[j]?=some oj->j≠i->listed.getD j true=false->(∀ e∈oj.after,Region.binds md e=true->e.on≠i)->oi.apart ops oj=true) ->
      i∈Region.ready md ops listed->YieldsIf P ops S oi v a->S w->(∀ p∈T,p.2 w) ->
      wpAnyT P md ops Q ((i,S)::T) fuel (listed.setIfInBounds i true) (a.put oi.dst v) w->wpAnyT P md ops Q T (fuel+1) listed a w:=by
  have base:∀ (fuel:Nat) (T:List (Nat×(World->Prop))) (listed:Array Bool) (a:Act) (w:World),YieldsIf P ops S oi v a->S w->(∀ p∈T,p.2 w)->wpAnyT P md ops Q ((i,S)::T) fuel (listed.setIfInBounds i true) (a.put oi.dst v) w ->
      wpOp P ops Q i (fun a' w'=>(∀ p∈keepAt md ops i T,p.2 w')/\wpAnyT P md ops Q (keepAt md ops i T) fuel (listed.setIfInBounds i true) a' w') a w:=by
    intro fuel T listed a w hy hS hT H
    refine hy.wpOp hi hS ⟨fun p hp=>hT p (keepAt_mem hp),wpAnyT_sub _ _ _ _ _ _ (fun p hp=>.inl (List.mem_cons.2 (.inr (keepAt_mem hp)))) H⟩
  intro fuel
  induction fuel with
  | zero =>
    intro T listed a w _ hr hy hS hT H
    refine ⟨fun h=>(by rw [h] at hr;cases hr),fun j hj=>?_⟩
    by_cases hji:j=i
    · subst hji;exact base 0 T listed a w hy hS hT H
    · have:=ready_mono hj hji
      rw [H.1] at this
      cases this
  | succ fuel ih =>
    intro T listed a w hfree hr hy hS hT H
    refine ⟨fun h=>(by rw [h] at hr;cases hr),fun j hj=>?_⟩
    by_cases hji:j=i
    · subst hji;exact base _ T listed a w hy hS hT H
    · have h1:=H.2 j (ready_mono hj hji)
      obtain ⟨hjun,oj,hoj,hall⟩:=mem_ready.1 hj
      have hnot:∀ e∈oj.after,Region.binds md e=true->e.on≠i:=fun e he hb heq=>by
        have h1:=hall e he hb
        have h0:=(mem_ready.1 hr).1
        rw [heq] at h1
        rcases Nat.lt_or_ge i listed.size with h'|h'
        · simp [h'] at h0 h1;rw [h0] at h1;cases h1
        · simp [Array.getElem?_eq_none h'] at h1
      have hkeep:keepAt md ops j ((i,S)::T)=(i,S)::keepAt md ops j T:=by
        unfold keepAt
        rw [hoj]
        dsimp only
        rw [List.filter_cons_of_pos]
        have:waitsOn md oj i=false:=by
          unfold waitsOn
          rw [Array.any_eq_false]
          intro k hk
          have:=hnot oj.after[k] (by simp)
          simp only [Bool.and_eq_true,beq_iff_eq,not_and]
          exact this
        simp [this]
      rw [hkeep] at h1
      have h2:=wpOp_putIf hoj (hfree j oj hoj hji hjun hnot) (fun cs b=>hsel i oi cs b hi) (fun cs b=>hsel j oj cs b hoj) hQ hy h1
      have hfree':∀ k ok,ops[k]?=some ok->k≠i->(listed.setIfInBounds j true).getD k true=false ->
          (∀ e∈ok.after,Region.binds md e=true->e.on≠i)->oi.apart ops ok=true:=fun k ok hk hki hun hno=>by
        refine hfree k ok hk hki ?_ hno
        by_cases hjk:j=k
        · subst hjk;exact hjun
        · rw [getD_set_ne true hjk] at hun;exact hun
      refine wpOp_mono (fun a' w' h3=>⟨fun p hp=>h3.2.1 p (List.mem_cons.2 (.inr hp)),ih (keepAt md ops j T) (listed.setIfInBounds j true) a' w' hfree' (ready_mono hr (Ne.symm hji)) h3.1 (h3.2.1 _ (List.mem_cons.2 (.inl rfl))) (fun p hp=>h3.2.1 p (List.mem_cons.2 (.inr hp))) ?_⟩) h2
      rw [Array.setIfInBounds_comm _ _ hji]
      exact h3.2.2
def waitsL:List Edge->Nat->Bool
  | [],_=>false
  | e::l,q=>bif bindsE e then (bif Nat.beq e.on q then true else waitsL l q) else waitsL l q
theorem waitsL_eq (o:Oper) (q:Nat):waitsL o.after.toList q=waitsOn .any o q:=by
  have h:∀ l:List Edge,waitsL l q=l.any fun e=>Region.binds .any e && e.on == q:=by
    intro l
    induction l with
    | nil=>rfl
    | cons e l ih =>
      rw [waitsL,List.any_cons,bindsE_eq,ih]
      cases bindsE e
      · rfl
      · simp only [cond_true,Bool.true_and]
        by_cases he:e.on=q
        · simp [he]
        · have:Nat.beq e.on q=false:=by
            cases hb:Nat.beq e.on q with
            | false=>rfl
            | true=>exact absurd (Nat.eq_of_beq_eq_true hb) he
          simp [this,he]
  rw [h,waitsOn,<- Array.any_toList]
abbrev Grp:=List Nat×(World->Prop)
def filtQ (l:List Edge):List Nat->List Nat
  | []=>[]
  | q::r=>bif waitsL l q then filtQ l r else q::filtQ l r
def keepG (l:List Edge):List Grp->List Grp
  | []=>[]
  | (qs,S)::T=>match filtQ l qs with|[]=>keepG l T|q::r=>(q::r,S)::keepG l T
def allS:List Grp->World->Prop->Prop
  | [],_,k=>k
  | (_,S)::T,w,k=>S w/\allS T w k
theorem allS_elim:∀ {T:List Grp} {w:World} {k:Prop},allS T w k->(∀ g∈T,g.2 w)/\k
  | [],_,_,h=>⟨fun _ h=>(by cases h),h⟩
  | (qs,S)::T,w,k,h=>⟨fun g hg=>by
      rcases List.mem_cons.1 hg with rfl|hg
      · exact h.1
      · exact (allS_elim h.2).1 g hg,(allS_elim h.2).2⟩
def addC:Option Grp->List Grp->List Grp
  | none,T=>T
  | some g,T=>g::T
def expd:List Grp->List (Nat×(World->Prop))
  | []=>[]
  | (qs,S)::T=>qs.map (fun q=>(q,S))++expd T
theorem expd_mem:∀ {T:List Grp} {p:Nat×(World->Prop)},p∈expd T->∃ g∈T,g.2=p.2
  | (qs,S)::T,p,h=>by
    rcases List.mem_append.1 h with h|h
    · obtain ⟨q,_,rfl⟩:=List.mem_map.1 h
      exact ⟨_,List.mem_cons.2 (.inl rfl),rfl⟩
    · obtain ⟨g,hg,e⟩:=expd_mem h
      exact ⟨g,List.mem_cons.2 (.inr hg),e⟩
theorem filtQ_eq (l:List Edge):∀ qs:List Nat,filtQ l qs=qs.filter fun q=>!waitsL l q
  | []=>rfl
  | q::r=>by rw [filtQ,filtQ_eq l r,List.filter_cons];cases waitsL l q<;>simp
theorem expd_keep (o:Oper):∀ T:List Grp,expd (keepG o.after.toList T)=(expd T).filter fun p=>!waitsOn .any o p.1
  | []=>rfl
  | (qs,S)::T=>by
    rw [expd,List.filter_append,<- expd_keep o T]
    have h1:(qs.map (fun q=>(q,S))).filter (fun p=>!waitsOn .any o p.1)=(filtQ o.after.toList qs).map (fun q=>(q,S)):=by
      rw [filtQ_eq,List.filter_map]
      congr 1
      apply List.filter_congr
      intro q _
      simp [waitsL_eq]
    rw [h1,keepG]
    split
    · rename_i h;rw [h];rfl
    · rename_i q r h;rw [h];rfl
def needS (P:Program) (o:Oper):Bool:=match o.op with
  | .load _ _=>true
  | .convert s d _=>isSlc (und P s) && isStr (und P d)
  | _=>false
def drT (sep:Bool) (m:Md) (P:Program) (n:Nat) (ops:List Oper) (L:List LO) (K:Env->World->Prop):List Oper->List Bool->Option Grp->List Grp->Env->World->Prop
  | [],listed,c,T,ρ,w=>(match readyL listed 0 L listed with|[]=>K ρ w|_=>False)
  | _::fuel,listed,c,T,ρ,w =>
    match readyL listed 0 L listed with
    | []=>K ρ w
    | i0::more =>
      match findTake L listed (i0::more) with
      | some i=>(match ops[i]? with
        | some o=>(match gd ops o ρ with
          | some true=>(match needS P o with
            | true=>(match c with
              | some (qs,S)=>bif sep then (∃ S':World->Prop,S' w/\quietS P ρ o S' fun v=>putS n ops i o v ρ fun ρ'=>drT sep m P n ops L K fuel (markL i listed) (some ([i],S')) ((qs,S)::T) ρ' w)
                else quietS P ρ o S fun v=>putS n ops i o v ρ fun ρ'=>drT sep m P n ops L K fuel (markL i listed) (some (i::qs,S)) T ρ' w
              | none=>∃ S:World->Prop,S w/\quietS P ρ o S fun v=>putS n ops i o v ρ fun ρ'=>drT sep m P n ops L K fuel (markL i listed) (some ([i],S)) T ρ' w)
            | false=>pureS P ρ o.op fun v=>putS n ops i o v ρ fun ρ'=>drT sep m P n ops L K fuel (markL i listed) c T ρ' w)
          | some false=>drT sep m P n ops L K fuel (markL i listed) c T (skipEnv n o ρ) w
          | none=>False)
        | none=>False)
      | none=>allL (i0::more) fun i=>(match ops[i]? with
        | some o=>(match gd ops o ρ with
          | some true=>opX m P ρ o w fun v w'=>putS n ops i o v ρ fun ρ'=>allS (keepG o.after.toList (addC c T)) w' (drT sep m P n ops L K fuel (markL i listed) none (keepG o.after.toList (addC c T)) ρ' w')
          | some false=>drT sep m P n ops L K fuel (markL i listed) none (keepG o.after.toList (addC c T)) (skipEnv n o ρ) w
          | none=>False)
        | none=>False)
theorem drT_sound {sep:Bool} {m:Md} {P:Program} (ok:Okay P) {n:Nat} {ops:List Oper} (hsel:Region.noSelect ops.toArray=true) {L:List Nat} (hL:∀ t,t∈opsDst ops->t∈L) {a₀:Act} {K:Exit->Env->World->Prop} :
    ∀ (fl:List Oper) (listed:List Bool) (c:Option Grp) (T:List Grp) (ρ:Env) (a:Act) (w:World),listed.length=ops.length->SameBut L a₀ a->Agrees n ρ a->(∀ g∈addC c T,g.2 w) ->
      drT sep m P n ops (lightOf P ops ops) (K .normal) fl listed c T ρ w->wpAnyT P .any ops.toArray (QW n L a₀ K) (expd (addC c T)) fl.length listed.toArray a w
  | [],listed,c,T,ρ,a,w,hl,hs,ha,hT,h=>by
    have hr0:=ready_eq (P:=P) hl
    unfold drT at h
    split at h
    · rename_i hr;exact ⟨hr0.trans hr,hs,ρ,ha,h⟩
    · exact h.elim
  | _::fl,listed,c,T,ρ,a,w,hl,hs,ha,hT,h=>by
    have hr0:=ready_eq (P:=P) hl
    have hmem:∀ {i:Nat} {o:Oper},ops[i]?=some o->o∈ops:=fun {i o} hi=>List.mem_of_getElem? hi
    have hput:∀ {i:Nat} {o:Oper} (_:ops[i]?=some o) v,SameBut L a₀ (a.put o.dst v):=fun hi v=>hs.trans ((put_same (hmem hi) a v).mono hL)
    have hTe:∀ p∈expd (addC c T),p.2 w:=fun p hp=>by
      obtain ⟨g,hg,e⟩:=expd_mem hp
      rw [<- e];exact hT g hg
    unfold drT at h
    split at h
    · rename_i hr
      exact ⟨fun _=>⟨hs,ρ,ha,h⟩,by rw [hr0,hr];simp⟩
    · rename_i i0 more hr
      have hrr:=hr0.trans hr
      split at h
      · rename_i i hf
        obtain ⟨hi,x,hx,hfx⟩:=findTake_spec hf
        split at h
        · rename_i o ho
          have hfree:=freeL_free hl ho hx hfx
          have ho':ops.toArray[i]?=some o:=by simpa using ho
          have hri:i∈Region.ready .any ops.toArray listed.toArray:=by rw [hrr];exact hi
          have take:∀ {v:Value} {S:World->Prop},YieldsIf P ops.toArray S o v a->S w->wpAnyT P .any ops.toArray (QW n L a₀ K) ((i,S)::expd (addC c T)) fl.length (markL i listed).toArray (a.put o.dst v) w->wpAnyT P .any ops.toArray (QW n L a₀ K) (expd (addC c T)) (fl.length+1) listed.toArray a w:=by
            intro v S hy hS hk
            rw [markL_eq] at hk
            exact wpAnyT_first ho' (Region.noSelect_spec hsel) (fun _ _ _ q=>q.elim) _ _ _ _ _ (Region.free_spec ho' hfree) hri hy hS hTe hk
          split at h
          · rename_i hg
            have hw:=gd_wanted hg ha
            split at h
            · split at h
              · rename_i qs S
                cases hsep:sep with
                | true =>
                  rw [hsep] at h
                  obtain ⟨S',hS',h⟩:=h
                  obtain ⟨v,hy,hv⟩:=quietS_yields ha.ev h
                  obtain ⟨ρ',ha',hk⟩:=putS_elim hv ha
                  rw [<- hsep] at hk
                  exact take (.inl ⟨hw,hy⟩) hS' (drT_sound ok hsel hL fl _ (some ([i],S')) ((qs,S)::T) ρ' _ w (by rw [markL_length];exact hl) (hput ho v) ha' (fun g hg=>by
                    rcases List.mem_cons.1 hg with rfl|hg
                    · exact hS'
                    · exact hT g hg) hk)
                | false =>
                rw [hsep] at h
                have h:quietS P ρ o S fun v=>putS n ops i o v ρ fun ρ'=>drT false m P n ops (lightOf P ops ops) (K .normal) fl (markL i listed) (some (i::qs,S)) T ρ' w:=h
                rw [<- hsep] at h
                obtain ⟨v,hy,hv⟩:=quietS_yields ha.ev h
                obtain ⟨ρ',ha',hk⟩:=putS_elim hv ha
                exact take (.inl ⟨hw,hy⟩) (hT _ (List.mem_cons.2 (.inl rfl))) (drT_sound ok hsel hL fl _ (some (i::qs,S)) T ρ' _ w (by rw [markL_length];exact hl) (hput ho v) ha' (fun g hg=>by
                  rcases List.mem_cons.1 hg with rfl|hg
                  · exact hT (qs,S) (List.mem_cons.2 (.inl rfl))
                  · exact hT g (List.mem_cons.2 (.inr hg))) hk)
              · obtain ⟨S,hS,h⟩:=h
                obtain ⟨v,hy,hv⟩:=quietS_yields ha.ev h
                obtain ⟨ρ',ha',hk⟩:=putS_elim hv ha
                exact take (.inl ⟨hw,hy⟩) hS (drT_sound ok hsel hL fl _ (some ([i],S)) T ρ' _ w (by rw [markL_length];exact hl) (hput ho v) ha' (fun g hg=>by
                  rcases List.mem_cons.1 hg with rfl|hg
                  · exact hS
                  · exact hT g hg) hk)
            · obtain ⟨v,hy,hv⟩:=pureS_gives ha.ev h
              obtain ⟨ρ',ha',hk⟩:=putS_elim hv ha
              refine take (S:=fun _=>True) (.inl ⟨hw,fun w _=>hy w⟩) trivial (wpAnyT_sub _ _ _ _ _ _ (fun p hp=>?_) (drT_sound ok hsel hL fl _ c T ρ' _ w (by rw [markL_length];exact hl) (hput ho v) ha' hT hk))
              rcases List.mem_cons.1 hp with rfl|hp
              · exact .inr fun _=>trivial
              · exact .inl hp
          · rename_i hg
            have hw:=gd_wanted hg ha
            refine take (S:=fun _=>True) (.inr ⟨hw,rfl⟩) trivial (wpAnyT_sub _ _ _ _ _ _ (fun p hp=>?_) (drT_sound ok hsel hL fl _ c T _ _ w (by rw [markL_length];exact hl) (hput ho _) (skip_agrees ha) hT h))
            rcases List.mem_cons.1 hp with rfl|hp
            · exact .inr fun _=>trivial
            · exact .inl hp
          · exact h.elim
        · exact h.elim
      · refine ⟨fun h0=>(by rw [hrr] at h0;cases h0),fun i hi=>?_⟩
        rw [hrr] at hi
        have h:=allL_elim h i hi
        unfold wpOp
        split at h
        · rename_i o ho
          have ho':ops.toArray[i]?=some o:=by simpa using ho
          have hke:keepAt .any ops.toArray i (expd (addC c T))=expd (keepG o.after.toList (addC c T)):=by
            unfold keepAt;rw [ho',expd_keep]
          rw [ho',hke]
          simp only
          split at h
          · rename_i hg
            have hw:=gd_wanted hg ha
            rw [hw]
            simp only [if_true]
            refine .inl (Oper.wp_mono ?_ (opX_does ok ha.ev h).wp)
            rintro a' w' ⟨v,rfl,hv⟩
            obtain ⟨ρ',ha',hk⟩:=putS_elim hv ha
            obtain ⟨hall,hk⟩:=allS_elim hk
            rw [<- markL_eq]
            refine ⟨fun p hp=>?_,drT_sound ok hsel hL fl _ none _ ρ' _ w' (by rw [markL_length];exact hl) (hput ho v) ha' hall hk⟩
            obtain ⟨g,hg,e⟩:=expd_mem hp
            rw [<- e];exact hall g hg
          · rename_i hg
            have hw:=gd_wanted hg ha
            rw [hw]
            simp only [Bool.false_eq_true,if_false]
            rw [<- markL_eq]
            have hall:∀ g∈keepG o.after.toList (addC c T),g.2 w:=fun g hg=>by
              have:∀ T:List Grp,(∀ g∈T,g.2 w)->∀ g∈keepG o.after.toList T,g.2 w:=by
                intro T
                induction T with
                | nil=>intro _ g hg;cases hg
                | cons t T ih =>
                  obtain ⟨qs,S⟩:=t
                  intro ht g hg
                  rw [keepG] at hg
                  split at hg
                  · exact ih (fun g hg=>ht g (List.mem_cons.2 (.inr hg))) g hg
                  · rcases List.mem_cons.1 hg with rfl|hg
                    · exact ht (qs,S) (List.mem_cons.2 (.inl rfl))
                    · exact ih (fun g hg=>ht g (List.mem_cons.2 (.inr hg))) g hg
              exact this _ hT g hg
            refine ⟨fun p hp=>?_,drT_sound ok hsel hL fl _ none _ _ _ w (by rw [markL_length];exact hl) (hput ho _) (skip_agrees ha) hall h⟩
            obtain ⟨g,hg,e⟩:=expd_mem hp
            rw [<- e];exact hall g hg
          · exact h.elim
        · exact h.elim
/-! ## the same, each reading under a condition of its own; whatever is ahead of what is done, is done -/
def predsL (ops:List Oper):List Edge->List Edge
  | []=>[]
  | e::l=>bif bindsE e then (match ops[e.on]? with|some o=>o.after.toList++predsL ops l|none=>predsL ops l) else predsL ops l
def aheadL (ops:List Oper):Nat->List Edge->List Edge
  | 0,l=>l
  | n+1,l=>aheadL ops n (l++predsL ops l)
def DoneL (listed:Array Bool) (l:List Edge):Prop:=∀ e∈l,Region.binds .any e=true->listed.getD e.on false=true
def Closed (ops:Array Oper) (listed:Array Bool):Prop:=∀ k o,ops[k]?=some o->listed.getD k false=true->DoneL listed o.after.toList
theorem done_preds {ops:List Oper} {listed:Array Bool} (hc:Closed ops.toArray listed):∀ l,DoneL listed l->DoneL listed (predsL ops l)
  | [],_=>fun e he=>by cases he
  | e::l,h=>by
    have ih:=done_preds hc l (fun e' he'=>h e' (List.mem_cons.2 (.inr he')))
    unfold predsL
    cases hb:bindsE e with
    | false=>exact ih
    | true =>
      have hd:=h e (List.mem_cons.2 (.inl rfl)) (by rw [bindsE_eq];exact hb)
      simp only [cond_true]
      cases ho:ops[e.on]? with
      | none=>exact ih
      | some o =>
        intro e' he' hb'
        rcases List.mem_append.1 he' with he'|he'
        · exact hc e.on o (by simpa using ho) hd e' he' hb'
        · exact ih e' he' hb'
theorem done_ahead {ops:List Oper} {listed:Array Bool} (hc:Closed ops.toArray listed):∀ n l,DoneL listed l->DoneL listed (aheadL ops n l)
  | 0,_,h=>h
  | n+1,l,h=>done_ahead hc n _ fun e he hb=>(List.mem_append.1 he).elim (fun he=>h e he hb) fun he=>done_preds hc l h e he hb
theorem closed_set {ops:Array Oper} {listed:Array Bool} {j:Nat} (hc:Closed ops listed) (hj:j∈Region.ready .any ops listed):Closed ops (listed.setIfInBounds j true):=by
  obtain ⟨hun,oj,hoj,hall⟩:=mem_ready.1 hj
  have hlt:j<listed.size:=by
    rcases Nat.lt_or_ge j listed.size with h|h
    · exact h
    · simp [Array.getElem?_eq_none h] at hun
  have up:∀ q,listed.getD q false=true->(listed.setIfInBounds j true).getD q false=true:=fun q hq=>by
    by_cases h:j=q
    · subst h;simp [hlt]
    · rw [getD_set_ne false h];exact hq
  intro k o ho hk e he hb
  by_cases hkj:j=k
  · subst hkj
    rw [hoj] at ho
    obtain rfl:=Option.some.inj ho
    exact up _ (hall e (by simpa using he) hb)
  · rw [getD_set_ne false hkj] at hk
    exact up _ (hc k o ho hk e he hb)
theorem closed_falses (ops:List Oper):Closed ops.toArray (falses ops).toArray:=by
  intro k o ho hk
  have:falses ops=List.replicate ops.length false:=by
    clear ho hk
    induction ops with
    | nil=>rfl
    | cons _ _ ih=>simp [falses,ih,List.replicate_succ]
  rw [this] at hk
  have h2:(List.replicate ops.length false).toArray.getD k false=false:=by
    simp only [List.toArray_replicate,Array.getD_eq_getD_getElem?,Array.getElem?_replicate]
    split<;>rfl
  rw [h2] at hk
  cases hk
theorem waitsL_mem:∀ {l:List Edge} {q:Nat},waitsL l q=true->∃ e∈l,Region.binds .any e=true/\e.on=q
  | e::l,q,h=>by
    rw [waitsL] at h
    cases hb:bindsE e with
    | false =>
      rw [hb] at h
      obtain ⟨e',he,h'⟩:=waitsL_mem (l:=l) h
      exact ⟨e',List.mem_cons.2 (.inr he),h'⟩
    | true =>
      rw [hb] at h
      cases hq:Nat.beq e.on q with
      | true=>exact ⟨e,List.mem_cons.2 (.inl rfl),by rw [bindsE_eq];exact hb,Nat.eq_of_beq_eq_true hq⟩
      | false =>
        rw [hq] at h
        obtain ⟨e',he,h'⟩:=waitsL_mem (l:=l) h
        exact ⟨e',List.mem_cons.2 (.inr he),h'⟩
theorem expd_keepL (l:List Edge):∀ T:List Grp,expd (keepG l T)=(expd T).filter fun p=>!waitsL l p.1
  | []=>rfl
  | (qs,S)::T=>by
    rw [expd,List.filter_append,<- expd_keepL l T]
    have h1:(qs.map (fun q=>(q,S))).filter (fun p=>!waitsL l p.1)=(filtQ l qs).map (fun q=>(q,S)):=by
      rw [filtQ_eq,List.filter_map]
      rfl
    rw [h1,keepG]
    split
    · rename_i h;rw [h];rfl
    · rename_i q r h;rw [h];rfl
def keepA2 (ops:List Oper) (i:Nat) (T:List (Nat×(World->Prop))):List (Nat×(World->Prop)) :=
  match ops[i]? with
  | some o=>T.filter fun p=>!waitsL (aheadL ops 2 o.after.toList) p.1
  | none=>T
def wpAnyT2 (P:Program) (ops:List Oper) (Q:Exit->Act->World->Prop):List (Nat×(World->Prop))->Nat->Array Bool->Act->World->Prop
  | _,0,listed,a,w=>Region.ready .any ops.toArray listed=[]/\Q .normal a w
  | T,fuel+1,listed,a,w=>(Region.ready .any ops.toArray listed=[]->Q .normal a w) /\
      ∀ i∈Region.ready .any ops.toArray listed,wpOp P ops.toArray Q i (fun a' w'=>(∀ p∈keepA2 ops i T,p.2 w')/\wpAnyT2 P ops Q (keepA2 ops i T) fuel (listed.setIfInBounds i true) a' w') a w
theorem wpAny_of_T2 {P:Program} {ops:List Oper} {Q:Exit->Act->World->Prop}:∀ (fuel:Nat) (T:List (Nat×(World->Prop))) (listed:Array Bool) (a:Act) (w:World),wpAnyT2 P ops Q T fuel listed a w->wpAny P .any ops.toArray Q fuel listed a w
  | 0,_,_,_,_,h=>h
  | fuel+1,_,_,_,_,h=>⟨h.1,fun i hi=>wpOp_mono (fun a' w' h'=>wpAny_of_T2 fuel _ _ a' w' h'.2) (h.2 i hi)⟩
theorem keepA2_sub {ops:List Oper} {i:Nat} {T T':List (Nat×(World->Prop))} (h:∀ p∈T',p∈T\/∀ w,p.2 w):∀ p∈keepA2 ops i T',p∈keepA2 ops i T\/∀ w,p.2 w:=by
  unfold keepA2
  split
  · intro p hp
    obtain ⟨hp,hw⟩:=List.mem_filter.1 hp
    exact (h p hp).imp (fun hm=>List.mem_filter.2 ⟨hm,hw⟩) id
  · exact h
theorem wpAnyT2_sub {P:Program} {ops:List Oper} {Q:Exit->Act->World->Prop}:∀ (fuel:Nat) (T T':List (Nat×(World->Prop))) (listed:Array Bool) (a:Act) (w:World),(∀ p∈T',p∈T\/∀ w,p.2 w)->wpAnyT2 P ops Q T fuel listed a w->wpAnyT2 P ops Q T' fuel listed a w
  | 0,_,_,_,_,_,_,h=>h
  | fuel+1,T,T',_,_,_,hT,h=>⟨h.1,fun i hi=>wpOp_mono (fun a' w' h'=>⟨fun p hp=>(keepA2_sub hT p hp).elim (h'.1 p) (fun hw=>hw w'),wpAnyT2_sub fuel _ _ _ a' w' (keepA2_sub hT) h'.2⟩) (h.2 i hi)⟩
theorem keepA2_mem {ops:List Oper} {i:Nat} {T:List (Nat×(World->Prop))} {p:Nat×(World->Prop)} (h:p∈keepA2 ops i T):p∈T:=by
  unfold keepA2 at h
  split at h
  · exact (List.mem_filter.1 h).1
  · exact h
theorem wpAnyT2_first {P:Program} {ops:List Oper} {Q:Exit->Act->World->Prop} {i:Nat} {oi:Oper} {v:Value} {S:World->Prop} (hi:ops[i]?=some oi) (hsel:∀ (j:Nat) (o:Oper) cs b,ops.toArray[j]?=some o->o.op≠.select cs b)
    (hQ:∀ c a w,Q (.panic c) (a.put oi.dst v) w->Q (.panic c) a w) :
    ∀ (fuel:Nat) (T:List (Nat×(World->Prop))) (listed:Array Bool) (a:Act) (w:World),
      Closed ops.toArray listed->(∀ j oj,ops.toArray[j]?=some oj->j≠i->listed.getD j true=false->(∀ e∈oj.after,Region.binds .any e=true->e.on≠i)->oi.apart ops.toArray oj=true) ->
      i∈Region.ready .any ops.toArray listed->YieldsIf P ops.toArray S oi v a->S w->(∀ p∈T,p.2 w) ->
      wpAnyT2 P ops Q ((i,S)::T) fuel (listed.setIfInBounds i true) (a.put oi.dst v) w->wpAnyT2 P ops Q T (fuel+1) listed a w:=by
  have base:∀ (fuel:Nat) (T:List (Nat×(World->Prop))) (listed:Array Bool) (a:Act) (w:World),YieldsIf P ops.toArray S oi v a->S w->(∀ p∈T,p.2 w)->wpAnyT2 P ops Q ((i,S)::T) fuel (listed.setIfInBounds i true) (a.put oi.dst v) w ->
      wpOp P ops.toArray Q i (fun a' w'=>(∀ p∈keepA2 ops i T,p.2 w')/\wpAnyT2 P ops Q (keepA2 ops i T) fuel (listed.setIfInBounds i true) a' w') a w:=by
    intro fuel T listed a w hy hS hT H
    refine hy.wpOp (by simpa using hi) hS ⟨fun p hp=>hT p (keepA2_mem hp),wpAnyT2_sub _ _ _ _ _ _ (fun p hp=>.inl (List.mem_cons.2 (.inr (keepA2_mem hp)))) H⟩
  intro fuel
  induction fuel with
  | zero =>
    intro T listed a w _ _ hr hy hS hT H
    refine ⟨fun h=>(by rw [h] at hr;cases hr),fun j hj=>?_⟩
    by_cases hji:j=i
    · subst hji;exact base 0 T listed a w hy hS hT H
    · have:=ready_mono hj hji
      rw [H.1] at this
      cases this
  | succ fuel ih =>
    intro T listed a w hcl hfree hr hy hS hT H
    refine ⟨fun h=>(by rw [h] at hr;cases hr),fun j hj=>?_⟩
    by_cases hji:j=i
    · subst hji;exact base _ T listed a w hy hS hT H
    · have h1:=H.2 j (ready_mono hj hji)
      obtain ⟨hjun,oj,hoj',hall⟩:=mem_ready.1 hj
      have hoj:ops[j]?=some oj:=by simpa using hoj'
      have hnot:∀ e∈oj.after,Region.binds .any e=true->e.on≠i:=fun e he hb heq=>by
        have h1:=hall e he hb
        have h0:=(mem_ready.1 hr).1
        rw [heq] at h1
        rcases Nat.lt_or_ge i listed.size with h'|h'
        · simp [h'] at h0 h1;rw [h0] at h1;cases h1
        · simp [Array.getElem?_eq_none h'] at h1
      have hkeep:keepA2 ops j ((i,S)::T)=(i,S)::keepA2 ops j T:=by
        unfold keepA2
        rw [hoj]
        dsimp only
        rw [List.filter_cons_of_pos]
        have:waitsL (aheadL ops 2 oj.after.toList) i=false:=by
          cases hwt:waitsL (aheadL ops 2 oj.after.toList) i with
          | false=>rfl
          | true =>
            obtain ⟨e,he,hb,hon⟩:=waitsL_mem hwt
            have h1:=done_ahead hcl 2 _ (fun e he hb=>hall e (by simpa using he) hb) e he hb
            have h0:=(mem_ready.1 hr).1
            rw [hon] at h1
            rcases Nat.lt_or_ge i listed.size with h'|h'
            · simp [h'] at h0 h1;rw [h0] at h1;cases h1
            · simp [Array.getElem?_eq_none h'] at h1
        simp [this]
      rw [hkeep] at h1
      have h2:=wpOp_putIf hoj' (hfree j oj hoj' hji hjun hnot) (fun cs b=>hsel i oi cs b (by simpa using hi)) (fun cs b=>hsel j oj cs b hoj') hQ hy h1
      have hfree':∀ k ok,ops.toArray[k]?=some ok->k≠i->(listed.setIfInBounds j true).getD k true=false ->
          (∀ e∈ok.after,Region.binds .any e=true->e.on≠i)->oi.apart ops.toArray ok=true:=fun k ok hk hki hun hno=>by
        refine hfree k ok hk hki ?_ hno
        by_cases hjk:j=k
        · subst hjk;exact hjun
        · rw [getD_set_ne true hjk] at hun;exact hun
      refine wpOp_mono (fun a' w' h3=>⟨fun p hp=>h3.2.1 p (List.mem_cons.2 (.inr hp)),ih (keepA2 ops j T) (listed.setIfInBounds j true) a' w' (closed_set hcl hj) hfree' (ready_mono hr (Ne.symm hji)) h3.1 (h3.2.1 _ (List.mem_cons.2 (.inl rfl))) (fun p hp=>h3.2.1 p (List.mem_cons.2 (.inr hp))) ?_⟩) h2
      rw [Array.setIfInBounds_comm _ _ hji]
      exact h3.2.2
def drT2 (m:Md) (P:Program) (n:Nat) (ops:List Oper) (L:List LO) (K:Env->World->Prop):List Oper->List Bool->Option Grp->List Grp->Env->World->Prop
  | [],listed,c,T,ρ,w=>(match readyL listed 0 L listed with|[]=>K ρ w|_=>False)
  | _::fuel,listed,c,T,ρ,w =>
    match readyL listed 0 L listed with
    | []=>K ρ w
    | i0::more =>
      match findTake L listed (i0::more) with
      | some i=>(match ops[i]? with
        | some o=>(match gd ops o ρ with
          | some true=>(match needS P o with
            | true=>(match c with
              | some (qs,S)=>(∃ S':World->Prop,S' w/\quietS P ρ o S' fun v=>putS n ops i o v ρ fun ρ'=>drT2 m P n ops L K fuel (markL i listed) (some ([i],S')) ((qs,S)::T) ρ' w)
              | none=>∃ S:World->Prop,S w/\quietS P ρ o S fun v=>putS n ops i o v ρ fun ρ'=>drT2 m P n ops L K fuel (markL i listed) (some ([i],S)) T ρ' w)
            | false=>pureS P ρ o.op fun v=>putS n ops i o v ρ fun ρ'=>drT2 m P n ops L K fuel (markL i listed) c T ρ' w)
          | some false=>drT2 m P n ops L K fuel (markL i listed) c T (skipEnv n o ρ) w
          | none=>False)
        | none=>False)
      | none=>allL (i0::more) fun i=>(match ops[i]? with
        | some o=>(match gd ops o ρ with
          | some true=>opX m P ρ o w fun v w'=>putS n ops i o v ρ fun ρ'=>allS (keepG (aheadL ops 2 o.after.toList) (addC c T)) w' (drT2 m P n ops L K fuel (markL i listed) none (keepG (aheadL ops 2 o.after.toList) (addC c T)) ρ' w')
          | some false=>drT2 m P n ops L K fuel (markL i listed) none (keepG (aheadL ops 2 o.after.toList) (addC c T)) (skipEnv n o ρ) w
          | none=>False)
        | none=>False)
theorem drT2_sound {m:Md} {P:Program} (ok:Okay P) {n:Nat} {ops:List Oper} (hsel:Region.noSelect ops.toArray=true) {L:List Nat} (hL:∀ t,t∈opsDst ops->t∈L) {a₀:Act} {K:Exit->Env->World->Prop} :
    ∀ (fl:List Oper) (listed:List Bool) (c:Option Grp) (T:List Grp) (ρ:Env) (a:Act) (w:World),listed.length=ops.length->Closed ops.toArray listed.toArray->SameBut L a₀ a->Agrees n ρ a->(∀ g∈addC c T,g.2 w) ->
      drT2 m P n ops (lightOf P ops ops) (K .normal) fl listed c T ρ w->wpAnyT2 P ops (QW n L a₀ K) (expd (addC c T)) fl.length listed.toArray a w
  | [],listed,c,T,ρ,a,w,hl,hcl,hs,ha,hT,h=>by
    have hr0:=ready_eq (P:=P) hl
    unfold drT2 at h
    split at h
    · rename_i hr;exact ⟨hr0.trans hr,hs,ρ,ha,h⟩
    · exact h.elim
  | _::fl,listed,c,T,ρ,a,w,hl,hcl,hs,ha,hT,h=>by
    have hr0:=ready_eq (P:=P) hl
    have hmem:∀ {i:Nat} {o:Oper},ops[i]?=some o->o∈ops:=fun {i o} hi=>List.mem_of_getElem? hi
    have hput:∀ {i:Nat} {o:Oper} (_:ops[i]?=some o) v,SameBut L a₀ (a.put o.dst v):=fun hi v=>hs.trans ((put_same (hmem hi) a v).mono hL)
    have hTe:∀ p∈expd (addC c T),p.2 w:=fun p hp=>by
      obtain ⟨g,hg,e⟩:=expd_mem hp
      rw [<- e];exact hT g hg
    unfold drT2 at h
    split at h
    · rename_i hr
      exact ⟨fun _=>⟨hs,ρ,ha,h⟩,by rw [hr0,hr];simp⟩
    · rename_i i0 more hr
      have hrr:=hr0.trans hr
      split at h
      · rename_i i hf
        obtain ⟨hi,x,hx,hfx⟩:=findTake_spec hf
        split at h
        · rename_i o ho
          have hfree:=freeL_free hl ho hx hfx
          have ho':ops.toArray[i]?=some o:=by simpa using ho
          have hri:i∈Region.ready .any ops.toArray listed.toArray:=by rw [hrr];exact hi
          have take:∀ {v:Value} {S:World->Prop},YieldsIf P ops.toArray S o v a->S w->wpAnyT2 P ops (QW n L a₀ K) ((i,S)::expd (addC c T)) fl.length (markL i listed).toArray (a.put o.dst v) w->wpAnyT2 P ops (QW n L a₀ K) (expd (addC c T)) (fl.length+1) listed.toArray a w:=by
            intro v S hy hS hk
            rw [markL_eq] at hk
            exact wpAnyT2_first ho (Region.noSelect_spec hsel) (fun _ _ _ q=>q.elim) _ _ _ _ _ hcl (Region.free_spec ho' hfree) hri hy hS hTe hk
          split at h
          · rename_i hg
            have hw:=gd_wanted hg ha
            split at h
            · split at h
              · rename_i qs S
                obtain ⟨S',hS',h⟩:=h
                obtain ⟨v,hy,hv⟩:=quietS_yields ha.ev h
                obtain ⟨ρ',ha',hk⟩:=putS_elim hv ha
                exact take (.inl ⟨hw,hy⟩) hS' (drT2_sound ok hsel hL fl _ (some ([i],S')) ((qs,S)::T) ρ' _ w (by rw [markL_length];exact hl) (by rw [markL_eq];exact closed_set hcl hri) (hput ho v) ha' (fun g hg=>by
                  rcases List.mem_cons.1 hg with rfl|hg
                  · exact hS'
                  · exact hT g hg) hk)
              · obtain ⟨S,hS,h⟩:=h
                obtain ⟨v,hy,hv⟩:=quietS_yields ha.ev h
                obtain ⟨ρ',ha',hk⟩:=putS_elim hv ha
                exact take (.inl ⟨hw,hy⟩) hS (drT2_sound ok hsel hL fl _ (some ([i],S)) T ρ' _ w (by rw [markL_length];exact hl) (by rw [markL_eq];exact closed_set hcl hri) (hput ho v) ha' (fun g hg=>by
                  rcases List.mem_cons.1 hg with rfl|hg
                  · exact hS
                  · exact hT g hg) hk)
            · obtain ⟨v,hy,hv⟩:=pureS_gives ha.ev h
              obtain ⟨ρ',ha',hk⟩:=putS_elim hv ha
              refine take (S:=fun _=>True) (.inl ⟨hw,fun w _=>hy w⟩) trivial (wpAnyT2_sub _ _ _ _ _ _ (fun p hp=>?_) (drT2_sound ok hsel hL fl _ c T ρ' _ w (by rw [markL_length];exact hl) (by rw [markL_eq];exact closed_set hcl hri) (hput ho v) ha' hT hk))
              rcases List.mem_cons.1 hp with rfl|hp
              · exact .inr fun _=>trivial
              · exact .inl hp
          · rename_i hg
            have hw:=gd_wanted hg ha
            refine take (S:=fun _=>True) (.inr ⟨hw,rfl⟩) trivial (wpAnyT2_sub _ _ _ _ _ _ (fun p hp=>?_) (drT2_sound ok hsel hL fl _ c T _ _ w (by rw [markL_length];exact hl) (by rw [markL_eq];exact closed_set hcl hri) (hput ho _) (skip_agrees ha) hT h))
            rcases List.mem_cons.1 hp with rfl|hp
            · exact .inr fun _=>trivial
            · exact .inl hp
          · exact h.elim
        · exact h.elim
      · refine ⟨fun h0=>(by rw [hrr] at h0;cases h0),fun i hri=>?_⟩
        have hi:=hri
        rw [hrr] at hi
        have h:=allL_elim h i hi
        unfold wpOp
        split at h
        · rename_i o ho
          have ho':ops.toArray[i]?=some o:=by simpa using ho
          have hke:keepA2 ops i (expd (addC c T))=expd (keepG (aheadL ops 2 o.after.toList) (addC c T)):=by
            unfold keepA2;rw [ho,expd_keepL]
          rw [ho',hke]
          simp only
          split at h
          · rename_i hg
            have hw:=gd_wanted hg ha
            rw [hw]
            simp only [if_true]
            refine .inl (Oper.wp_mono ?_ (opX_does ok ha.ev h).wp)
            rintro a' w' ⟨v,rfl,hv⟩
            obtain ⟨ρ',ha',hk⟩:=putS_elim hv ha
            obtain ⟨hall,hk⟩:=allS_elim hk
            rw [<- markL_eq]
            refine ⟨fun p hp=>?_,drT2_sound ok hsel hL fl _ none _ ρ' _ w' (by rw [markL_length];exact hl) (by rw [markL_eq];exact closed_set hcl hri) (hput ho v) ha' hall hk⟩
            obtain ⟨g,hg,e⟩:=expd_mem hp
            rw [<- e];exact hall g hg
          · rename_i hg
            have hw:=gd_wanted hg ha
            rw [hw]
            simp only [Bool.false_eq_true,if_false]
            rw [<- markL_eq]
            have hall:∀ g∈keepG (aheadL ops 2 o.after.toList) (addC c T),g.2 w:=fun g hg=>by
              have:∀ T:List Grp,(∀ g∈T,g.2 w)->∀ g∈keepG (aheadL ops 2 o.after.toList) T,g.2 w:=by
                intro T
                induction T with
                | nil=>intro _ g hg;cases hg
                | cons t T ih =>
                  obtain ⟨qs,S⟩:=t
                  intro ht g hg
                  rw [keepG] at hg
                  split at hg
                  · exact ih (fun g hg=>ht g (List.mem_cons.2 (.inr hg))) g hg
                  · rcases List.mem_cons.1 hg with rfl|hg
                    · exact ht (qs,S) (List.mem_cons.2 (.inl rfl))
                    · exact ih (fun g hg=>ht g (List.mem_cons.2 (.inr hg))) g hg
              exact this _ hT g hg
            refine ⟨fun p hp=>?_,drT2_sound ok hsel hL fl _ none _ _ _ w (by rw [markL_length];exact hl) (by rw [markL_eq];exact closed_set hcl hri) (hput ho _) (skip_agrees ha) hall h⟩
            obtain ⟨g,hg,e⟩:=expd_mem hp
            rw [<- e];exact hall g hg
          · exact h.elim
        · exact h.elim
/-! ## regions whose order is drawn, with many effects: one condition on what is done -/
def effL:Nat->List LO->List Bool->List Nat
  | i,x::xs,b::bs=>bif b then effL (i+1) xs bs else bif x.q then effL (i+1) xs bs else i::effL (i+1) xs bs
  | _,_,_=>[]
def subN (l:List Nat):List Nat->Bool
  | []=>true
  | i::r=>bif memNat i l then subN l r else false
def behE (E:List Nat):Nat->List LO->List Bool->Bool
  | i,x::xs,b::bs=>bif b then behE E (i+1) xs bs else bif memNat i E then behE E (i+1) xs bs else bif subN x.aft E then behE E (i+1) xs bs else false
  | _,_,_=>true
def markAll:List Nat->List Bool->List Bool
  | [],l=>l
  | i::E,l=>markAll E (markL i l)
def aftOk (E:List Nat) (listed:List Bool) (i:Nat):List Nat->Bool
  | []=>true
  | j::r=>bif nthB listed j false then aftOk E listed i r else bif memNat j E then (bif Nat.blt j i then aftOk E listed i r else false) else false
def outE (L:List LO):List Nat->List Nat
  | []=>[]
  | i::E=>match L[i]? with|some x=>(match x.dst with|some d=>d::outE L E|none=>outE L E)|none=>outE L E
def prodE (L:List LO) (E:List Nat) (t:Nat):List Nat->Bool
  | []=>false
  | j::r=>bif memNat j E then (match L[j]? with|some y=>(bif eqO y.dst t then true else prodE L E t r)|none=>prodE L E t r) else prodE L E t r
def meet (l:List Nat):List Nat->List Nat
  | []=>[]
  | t::r=>bif memNat t l then t::meet l r else meet l r
def prodAll (L:List LO) (E aft:List Nat):List Nat->Bool
  | []=>true
  | t::r=>bif prodE L E t aft then prodAll L E aft r else false
def eachE (n:Nat) (ops:List Oper) (L:List LO) (E:List Nat) (listed:List Bool):List Nat->Bool
  | []=>true
  | i::r=>match ops[i]?,L[i]? with
    | some o,some x=>(match o.guard with
      | none=>bif aftOk E listed i x.aft then (bif prodAll L E x.aft (meet (outE L E) (tmpsL (operL o.op))) then (match o.dst with|some d=>(bif Nat.blt d n then eachE n ops L E listed r else false)|none=>eachE n ops L E listed r) else false) else false
      | some _=>false)
    | _,_=>false
def findTy:List (Nat×Ty)->Nat->Option Ty
  | [],_=>none
  | (u,ty)::vs,t=>bif Nat.beq u t then some ty else findTy vs t
def nuT (vs:List (Nat×Ty)) (t:Nat) (v:Value) (k:Value->Prop):Prop:=match findTy vs t with|some ty=>exT ty fun u=>v=u/\k u|none=>k v
theorem nuT_elim {vs:List (Nat×Ty)} {t:Nat} {v:Value} {k:Value->Prop} (h:nuT vs t v k):k v:=by
  unfold nuT at h
  split at h
  · obtain ⟨u,rfl,h⟩:=exT_elim h;exact h
  · exact h
def setNu (vs:List (Nat×Ty)) (ν:Nat->Value):List Nat->Env->(Env->Prop)->Prop
  | [],ρ,k=>k ρ
  | t::l,ρ,k=>nuT vs t (ν t) fun u=>setNu vs ν l (ρ.set t (some u)) k
def allD (D:Nat->Bool):List Nat->Prop->Prop
  | [],k=>k
  | j::l,k=>D j=true->allD D l k
def setD (D:Nat->Bool) (i:Nat):Nat->Bool:=fun j=>bif Nat.beq j i then true else D j
def setNuV (ν:Nat->Value):Option Nat->Value->Nat->Value
  | none,_=>ν
  | some d,v=>fun t=>bif Nat.beq t d then v else ν t
abbrev GD:=(Nat->Bool)->(Nat->Value)->World->Prop
def oblG (m:Md) (P:Program) (ops:List Oper) (L:List LO) (E outs:List Nat) (vs:List (Nat×Ty)) (G:GD) (ρ:Env) (i:Nat):Prop :=
  match ops[i]?,L[i]? with
  | some o,some x=>∀ (D:Nat->Bool) (ν:Nat->Value) (w:World),G D ν w->D i=false->allD D (meet E x.aft)
      (setNu vs ν (meet outs (tmpsL (operL o.op))) ρ fun ρ'=>opX m P ρ' o w fun v w'=>G (setD D i) (setNuV ν o.dst v) w')
  | _,_=>False
def keysN:List (Nat×Ty)->List Nat
  | []=>[]
  | (t,_)::l=>t::keysN l
def dropL:List Nat->List Oper->List Oper
  | [],l=>l
  | _::E,[]=>[]
  | _::E,_::l=>dropL E l
def lenLe:List Nat->List Oper->Bool
  | [],_=>true
  | _::_,[]=>false
  | _::E,_::l=>lenLe E l
def grpS:List Grp->(World->Prop)
  | []=>fun _=>True
  | [(_,S)]=>S
  | (_,S)::T=>fun w=>S w/\grpS T w
theorem grpS_elim:∀ {T:List Grp} {w:World},grpS T w->∀ g∈T,g.2 w
  | [(qs,S)],w,h,g,hg=>by simp at hg;subst hg;exact h
  | (qs,S)::t::T,w,h,g,hg=>by
    rcases List.mem_cons.1 hg with rfl|hg
    · exact h.1
    · exact grpS_elim h.2 g hg
def gT (m:Md) (P:Program) (n:Nat) (ops:List Oper) (L:List LO) (K:Env->World->Prop) (vs:List (Nat×Ty)) (fl:List Oper) (listed:List Bool) (T:List Grp) (ρ:Env) (w:World) (E outs:List Nat):Prop :=
  cond (lenLe E fl && (behE E 0 L listed && (eachE n ops L E listed E && subN outs (keysN vs))))
    (∃ G:GD,(∀ ν,G (fun _=>false) ν w)/\(∀ D ν w,G D ν w->grpS T w)/\allL E (oblG m P ops L E outs vs G (ρ.forget outs)) /\
      (∀ D ν w,allD D E (G D ν w->setNu vs ν (keysN vs) (ρ.forget outs) fun ρ'=>drT false m P n ops L K (dropL E fl) (markAll E listed) none T ρ' w)))
    False
def drG (m:Md) (P:Program) (n:Nat) (ops:List Oper) (L:List LO) (K:Env->World->Prop) (vs:List (Nat×Ty)):List Oper->List Bool->Option Grp->List Grp->Env->World->Prop
  | [],listed,c,T,ρ,w=>(match readyL listed 0 L listed with|[]=>K ρ w|_=>False)
  | f::fuel,listed,c,T,ρ,w =>
    match readyL listed 0 L listed with
    | []=>K ρ w
    | i0::more =>
      match findTake L listed (i0::more) with
      | some i=>(match ops[i]? with
        | some o=>(match gd ops o ρ with
          | some true=>(match needS P o with
            | true=>(match c with
              | some (qs,S)=>quietS P ρ o S fun v=>putS n ops i o v ρ fun ρ'=>drG m P n ops L K vs fuel (markL i listed) (some (i::qs,S)) T ρ' w
              | none=>∃ S:World->Prop,S w/\quietS P ρ o S fun v=>putS n ops i o v ρ fun ρ'=>drG m P n ops L K vs fuel (markL i listed) (some ([i],S)) T ρ' w)
            | false=>pureS P ρ o.op fun v=>putS n ops i o v ρ fun ρ'=>drG m P n ops L K vs fuel (markL i listed) c T ρ' w)
          | some false=>drG m P n ops L K vs fuel (markL i listed) c T (skipEnv n o ρ) w
          | none=>False)
        | none=>False)
      | none=>gT m P n ops L K vs (f::fuel) listed (addC c T) ρ w (effL 0 L listed) (outE L (effL 0 L listed))
theorem subN_mem {l:List Nat}:∀ {r:List Nat},subN l r=true->∀ i∈r,i∈l
  | i::r,h,j,hj=>by
    unfold subN at h
    cases hm:memNat i l with
    | false=>rw [hm] at h;simp at h
    | true =>
      rw [hm] at h
      rcases List.mem_cons.1 hj with rfl|hj
      · exact memNat_iff.1 hm
      · exact subN_mem (by simpa using h) j hj
theorem behE_spec {E:List Nat}:∀ (xs:List LO) (bs:List Bool) (i0:Nat),behE E i0 xs bs=true->∀ j x,xs[j]?=some x->bs[j]?=some false->i0+j∉E->∀ e∈E,e∈x.aft
  | [],bs,i0,h,j,x,hx=>by simp at hx
  | y::xs,[],i0,h,j,x,hx=>by simp
  | y::xs,b::bs,i0,h,j,x,hx=>by
    intro hb hE
    unfold behE at h
    cases j with
    | zero =>
      simp at hx hb hE;subst hx;subst hb
      have hm:memNat i0 E=false:=by cases hq:memNat i0 E with|true=>exact absurd (memNat_iff.1 hq) hE|false=>rfl
      rw [hm] at h
      simp only [cond_false] at h
      cases hs:subN y.aft E with
      | true=>exact subN_mem hs
      | false=>rw [hs] at h;simp at h
    | succ j =>
      simp at hx hb
      have h':behE E (i0+1) xs bs=true:=by
        cases b with
        | true=>simpa using h
        | false =>
          simp only [cond_false] at h
          cases hm:memNat i0 E with
          | true=>rw [hm] at h;simpa using h
          | false =>
            rw [hm] at h;simp only [cond_false] at h
            cases hs:subN y.aft E with|true=>rw [hs] at h;simpa using h|false=>rw [hs] at h;simp at h
      exact behE_spec xs bs (i0+1) h' j x hx hb (by rw [show i0+1+j=i0+(j+1) by omega];exact hE)
theorem aftOk_spec {E:List Nat} {listed:List Bool} {i:Nat}:∀ {l:List Nat},aftOk E listed i l=true->∀ j∈l,nthB listed j false=true\/(j∈E/\j<i)
  | j::r,h,k,hk=>by
    unfold aftOk at h
    have tail:aftOk E listed i r=true->k∈r->nthB listed k false=true\/(k∈E/\k<i):=fun h hk=>aftOk_spec h k hk
    cases h1:nthB listed j false with
    | true =>
      rw [h1] at h
      rcases List.mem_cons.1 hk with rfl|hk
      · exact .inl h1
      · exact tail (by simpa using h) hk
    | false =>
      rw [h1] at h
      simp only [cond_false] at h
      cases h2:memNat j E with
      | false=>rw [h2] at h;simp at h
      | true =>
        rw [h2] at h
        simp only [cond_true] at h
        cases h3:Nat.blt j i with
        | false=>rw [h3] at h;simp at h
        | true =>
          rw [h3] at h
          rcases List.mem_cons.1 hk with rfl|hk
          · exact .inr ⟨memNat_iff.1 h2,by simpa [Nat.blt_eq] using h3⟩
          · exact tail (by simpa using h) hk
theorem prodE_spec {L:List LO} {E:List Nat} {t:Nat}:∀ {l:List Nat},prodE L E t l=true->∃ j∈l,j∈E/\∃ y,L[j]?=some y/\y.dst=some t
  | j::r,h=>by
    unfold prodE at h
    have tail:prodE L E t r=true->∃ k∈j::r,k∈E/\∃ y,L[k]?=some y/\y.dst=some t:=fun h=>by
      obtain ⟨k,hk,h⟩:=prodE_spec h;exact ⟨k,by simp [hk],h⟩
    cases h1:memNat j E with
    | false=>rw [h1] at h;exact tail (by simpa using h)
    | true =>
      rw [h1] at h
      simp only [cond_true] at h
      split at h
      · rename_i y hy
        cases h2:eqO y.dst t with
        | false=>rw [h2] at h;exact tail (by simpa using h)
        | true =>
          refine ⟨j,by simp,memNat_iff.1 h1,y,hy,?_⟩
          cases hd:y.dst with
          | none=>rw [hd] at h2;simp [eqO] at h2
          | some d=>rw [hd] at h2;rw [Nat.eq_of_beq_eq_true (show Nat.beq d t=true from h2)]
      · exact tail h
theorem meet_mem {l:List Nat}:∀ {r:List Nat} {t:Nat},t∈meet l r<->t∈l/\t∈r
  | [],t=>by simp [meet]
  | x::r,t=>by
    unfold meet
    cases h:memNat x l with
    | true =>
      simp only [cond_true,List.mem_cons,meet_mem (r:=r)]
      constructor
      · rintro (rfl|⟨h1,h2⟩)
        · exact ⟨memNat_iff.1 h,.inl rfl⟩
        · exact ⟨h1,.inr h2⟩
      · rintro ⟨h1,rfl|h2⟩
        · exact .inl rfl
        · exact .inr ⟨h1,h2⟩
    | false =>
      simp only [cond_false,meet_mem (r:=r),List.mem_cons]
      constructor
      · rintro ⟨h1,h2⟩;exact ⟨h1,.inr h2⟩
      · rintro ⟨h1,rfl|h2⟩
        · rw [memNat_iff.2 h1] at h;cases h
        · exact ⟨h1,h2⟩
theorem prodAll_spec {L:List LO} {E aft:List Nat}:∀ {l:List Nat},prodAll L E aft l=true->∀ t∈l,∃ j∈aft,j∈E/\∃ y,L[j]?=some y/\y.dst=some t
  | t::r,h,u,hu=>by
    unfold prodAll at h
    cases h1:prodE L E t aft with
    | false=>rw [h1] at h;simp at h
    | true =>
      rw [h1] at h
      rcases List.mem_cons.1 hu with rfl|hu
      · exact prodE_spec h1
      · exact prodAll_spec (by simpa using h) u hu
theorem eachE_spec {n:Nat} {ops:List Oper} {L:List LO} {E:List Nat} {listed:List Bool}:∀ {l:List Nat},eachE n ops L E listed l=true->∀ i∈l,∃ o x,ops[i]?=some o/\L[i]?=some x/\o.guard=none /\
    (∀ j∈x.aft,nthB listed j false=true\/(j∈E/\j<i))/\(∀ t∈meet (outE L E) (tmpsL (operL o.op)),∃ j∈x.aft,j∈E/\∃ y,L[j]?=some y/\y.dst=some t)/\∀ d,o.dst=some d->d<n
  | i::r,h,k,hk=>by
    unfold eachE at h
    split at h
    · rename_i o x ho hx
      split at h
      · rename_i hg
        cases h1:aftOk E listed i x.aft with
        | false=>rw [h1] at h;simp at h
        | true =>
          rw [h1] at h
          simp only [cond_true] at h
          cases h2:prodAll L E x.aft (meet (outE L E) (tmpsL (operL o.op))) with
          | false=>rw [h2] at h;simp at h
          | true =>
            rw [h2] at h
            simp only [cond_true] at h
            have h3:eachE n ops L E listed r=true/\∀ d,o.dst=some d->d<n:=by
              split at h
              · rename_i d hd
                cases h4:Nat.blt d n with
                | false=>rw [h4] at h;simp at h
                | true=>rw [h4] at h;exact ⟨by simpa using h,fun e he=>by rw [hd] at he;cases he;simpa [Nat.blt_eq] using h4⟩
              · rename_i hd;exact ⟨h,fun e he=>by rw [hd] at he;cases he⟩
            rcases List.mem_cons.1 hk with rfl|hk
            · exact ⟨o,x,ho,hx,hg,aftOk_spec h1,prodAll_spec h2,h3.2⟩
            · exact eachE_spec h3.1 k hk
      · cases h
    · cases h
theorem outE_mem {L:List LO} {t:Nat}:∀ {E:List Nat} {i:Nat} {x:LO},i∈E->L[i]?=some x->x.dst=some t->t∈outE L E
  | j::E,i,x,hi,hx,hd=>by
    rcases List.mem_cons.1 hi with rfl|hi
    · simp [outE,hx,hd]
    · have:=outE_mem hi hx hd
      unfold outE
      split
      · split
        · simp [this]
        · exact this
      · exact this
theorem outE_from {L:List LO} {t:Nat}:∀ {E:List Nat},t∈outE L E->∃ i∈E,∃ x,L[i]?=some x/\x.dst=some t
  | j::E,h=>by
    have tail:t∈outE L E->∃ i∈j::E,∃ x,L[i]?=some x/\x.dst=some t:=fun h=>by
      obtain ⟨i,hi,h⟩:=outE_from h;exact ⟨i,by simp [hi],h⟩
    unfold outE at h
    split at h
    · rename_i x hx
      split at h
      · rename_i d hd
        rcases List.mem_cons.1 h with rfl|h
        · exact ⟨j,by simp,x,hx,hd⟩
        · exact tail h
      · exact tail h
    · exact tail h
theorem allD_elim {D:Nat->Bool}:∀ {l:List Nat} {k:Prop},allD D l k->(∀ j∈l,D j=true)->k
  | [],_,h,_=>h
  | j::l,k,h,hD=>allD_elim (h (hD j (by simp))) fun i hi=>hD i (by simp [hi])
theorem setNu_elim {n:Nat} {vs:List (Nat×Ty)} {ν:Nat->Value} {a:Act}:∀ {l:List Nat} {ρ:Env} {k:Env->Prop},(∀ t∈l,a.tmps[t]?=some (ν t))->Agrees n ρ a->setNu vs ν l ρ k->∃ ρ',Agrees n ρ' a/\k ρ'
  | [],ρ,k,_,ha,h=>⟨ρ,ha,h⟩
  | t::l,ρ,k,hl,ha,h=>by
    have h:=nuT_elim h
    refine setNu_elim (l:=l) (fun u hu=>hl u (by simp [hu])) ⟨ha.defers,ha.size,fun u v hu=>?_⟩ h
    simp only [Env.set] at hu
    cases hb:Nat.beq u t with
    | true=>have:=Nat.eq_of_beq_eq_true hb;subst this;simp [hb] at hu;subst hu;exact hl u (by simp)
    | false=>simp [hb] at hu;exact ha.at_ u v hu
theorem markAll_length:∀ (E:List Nat) (l:List Bool),(markAll E l).length=l.length
  | [],l=>rfl
  | i::E,l=>by rw [markAll,markAll_length E,markL_length]
theorem markL_get:∀ (i:Nat) (l:List Bool) (j:Nat),(markL i l)[j]?=if j=i then l[j]?.map fun _=>true else l[j]?
  | i,[],j=>by cases i<;>simp [markL]
  | 0,b::l,0=>by simp [markL]
  | 0,b::l,j+1=>by simp [markL]
  | i+1,b::l,0=>by simp [markL]
  | i+1,b::l,j+1=>by simp [markL,markL_get i l j]
theorem markAll_get:∀ (E:List Nat) (l:List Bool) (j:Nat),(markAll E l)[j]?=if j∈E then l[j]?.map fun _=>true else l[j]?
  | [],l,j=>by simp [markAll]
  | i::E,l,j=>by
    rw [markAll,markAll_get E,markL_get]
    by_cases h1:j=i<;>by_cases h2:j∈E<;>simp [h1,h2]<;>(try subst h1)<;>simp_all
theorem lenLe_spec:∀ {E:List Nat} {l:List Oper},lenLe E l=true->l.length=E.length+(dropL E l).length
  | [],l,_=>by simp [dropL]
  | _::_,[],h=>by simp [lenLe] at h
  | _::E,_::l,h=>by have:=lenLe_spec (E:=E) (l:=l) h;simp only [List.length_cons,dropL];omega
theorem effL_spec:∀ (xs:List LO) (bs:List Bool) (i0:Nat),(∀ j∈effL i0 xs bs,i0<=j/\bs[j-i0]?=some false)/\(effL i0 xs bs).Nodup
  | [],bs,i0=>by cases bs<;>simp [effL]
  | x::xs,[],i0=>by simp [effL]
  | x::xs,b::bs,i0=>by
    have ih:=effL_spec xs bs (i0+1)
    have up:∀ j∈effL (i0+1) xs bs,i0<=j/\(b::bs)[j-i0]?=some false:=fun j hj=>by
      obtain ⟨h1,h2⟩:=ih.1 j hj
      refine ⟨by omega,?_⟩
      rw [show j-i0=(j-(i0+1))+1 by omega];simpa using h2
    unfold effL
    cases b with
    | true=>exact ⟨up,ih.2⟩
    | false =>
      cases x.q with
      | true=>exact ⟨up,ih.2⟩
      | false =>
        refine ⟨fun j hj=>?_,?_⟩
        · rcases List.mem_cons.1 hj with rfl|hj
          · simp
          · exact up j hj
        · refine List.nodup_cons.2 ⟨fun hm=>?_,ih.2⟩
          have:=(ih.1 _ hm).1;omega
def undone (D:Nat->Bool):List Nat->Nat
  | []=>0
  | i::E=>bif D i then undone D E else undone D E+1
theorem undone_zero {D:Nat->Bool}:∀ {E:List Nat},undone D E=0->∀ i∈E,D i=true
  | j::E,h,i,hi=>by
    unfold undone at h
    cases hd:D j with
    | false=>rw [hd] at h;simp at h
    | true =>
      rw [hd] at h
      rcases List.mem_cons.1 hi with rfl|hi
      · exact hd
      · exact undone_zero (by simpa using h) i hi
theorem undone_pos {D:Nat->Bool}:∀ {E:List Nat} {k:Nat},undone D E=k+1->∃ i∈E,D i=false
  | [],k,h=>by simp [undone] at h
  | j::E,k,h=>by
    unfold undone at h
    cases hd:D j with
    | false=>exact ⟨j,by simp,hd⟩
    | true=>rw [hd] at h;obtain ⟨i,hi,h'⟩:=undone_pos (E:=E) (by simpa using h);exact ⟨i,by simp [hi],h'⟩
theorem undone_set {D:Nat->Bool} {i:Nat}:∀ {E:List Nat},E.Nodup->i∈E->D i=false->undone D E=undone (setD D i) E+1
  | j::E,hn,hi,hd=>by
    obtain ⟨h1,h2⟩:=List.nodup_cons.1 hn
    by_cases hj:j=i
    · subst hj
      have same:∀ E:List Nat,j∉E->undone (setD D j) E=undone D E:=by
        intro E
        induction E with
        | nil=>intro _;rfl
        | cons k E ih =>
          intro hk
          have hkj:Nat.beq k j=false:=by cases hb:Nat.beq k j with|false=>rfl|true=>exact absurd (Nat.eq_of_beq_eq_true hb) (fun e=>hk (by simp [e]))
          unfold undone
          rw [ih (fun h=>hk (by simp [h]))]
          simp only [setD,hkj,cond_false]
      unfold undone
      rw [same E h1,hd]
      have:setD D j j=true:=by simp [setD]
      rw [this];rfl
    · have hi':i∈E:=by
        rcases List.mem_cons.1 hi with h|h
        · exact absurd h.symm hj
        · exact h
      have ih:=undone_set (E:=E) h2 hi' hd
      have hb:Nat.beq j i=false:=by cases hb:Nat.beq j i with|false=>rfl|true=>exact absurd (Nat.eq_of_beq_eq_true hb) hj
      have e:setD D i j=D j:=by simp [setD,hb]
      unfold undone
      rw [e,ih]
      cases D j<;>simp
theorem least {D:Nat->Bool} {E:List Nat}:∀ (n i:Nat),i<=n->i∈E->D i=false->∃ i∈E,D i=false/\∀ j∈E,j<i->D j=true
  | n,i,hin,hi,hd=>by
    by_cases h:∃ j∈E,j<i/\D j=false
    · obtain ⟨j,hj,hlt,hdj⟩:=h
      match n with
      | 0=>omega
      | n+1=>exact least n j (by omega) hj hdj
    · refine ⟨i,hi,hd,fun j hj hlt=>?_⟩
      cases hq:D j with
      | true=>rfl
      | false=>exact absurd ⟨j,hj,hlt,hq⟩ h
theorem gT_sound {m:Md} {P:Program} (ok:Okay P) {n:Nat} {ops:List Oper} (hsel:Region.noSelect ops.toArray=true) {L:List Nat} (hL:∀ t,t∈opsDst ops->t∈L) {a₀:Act} {K:Exit->Env->World->Prop}
    {vs:List (Nat×Ty)} {fl:List Oper} {listed:List Bool} {T:List Grp} {ρ:Env} {E:List Nat} {G:GD} (hl:listed.length=ops.length) (hnd:E.Nodup) (hEf:∀ j∈E,listed[j]?=some false)
    (hbeh:∀ j x,(lightOf P ops ops)[j]?=some x->listed[j]?=some false->j∉E->∀ e∈E,e∈x.aft)
    (heach:∀ i∈E,∃ o x,ops[i]?=some o/\(lightOf P ops ops)[i]?=some x/\o.guard=none/\(∀ j∈x.aft,nthB listed j false=true\/(j∈E/\j<i)) /\
      (∀ t∈meet (outE (lightOf P ops ops) E) (tmpsL (operL o.op)),∃ j∈x.aft,j∈E/\∃ y,(lightOf P ops ops)[j]?=some y/\y.dst=some t)/\∀ d,o.dst=some d->d<n)
    (hkeys:∀ t∈keysN vs,t∈outE (lightOf P ops ops) E)
    (hGT:∀ D ν w,G D ν w->grpS T w) (hobl:∀ i∈E,oblG m P ops (lightOf P ops ops) E (outE (lightOf P ops ops) E) vs G (ρ.forget (outE (lightOf P ops ops) E)) i)
    (hfin:∀ D ν w,allD D E (G D ν w->setNu vs ν (keysN vs) (ρ.forget (outE (lightOf P ops ops) E)) fun ρ'=>drT false m P n ops (lightOf P ops ops) (K .normal) (dropL E fl) (markAll E listed) none T ρ' w)) :
    ∀ (u:Nat) (D:Nat->Bool) (ν:Nat->Value) (listed':List Bool) (a:Act) (w:World),undone D E=u->(∀ j,listed'[j]?=if j∈E then listed[j]?.map (fun _=>D j) else listed[j]?) ->
      SameBut L a₀ a->Agrees n (ρ.forget (outE (lightOf P ops ops) E)) a->(∀ j∈E,D j=true->∀ x t,(lightOf P ops ops)[j]?=some x->x.dst=some t->a.tmps[t]?=some (ν t))->G D ν w ->
      wpAnyT P .any ops.toArray (QW n L a₀ K) (expd T) (u+(dropL E fl).length) listed'.toArray a w:=by
  have mem:∀ {l:List Bool} {j:Nat},l.toArray.getD j true=false<->l[j]?=some false:=fun {l j}=>by
    rw [Array.getD_eq_getD_getElem?,List.getElem?_toArray]
    cases l[j]? with|none=>simp|some b=>simp
  have memF:∀ {l:List Bool} {j:Nat},l.toArray.getD j false=true<->l[j]?=some true:=fun {l j}=>by
    rw [Array.getD_eq_getD_getElem?,List.getElem?_toArray]
    cases l[j]? with|none=>simp|some b=>simp
  have nthT:∀ {l:List Bool} {j:Nat},nthB l j false=true<->l[j]?=some true:=fun {l j}=>by
    rw [nthB_eq];exact memF
  have aftE:∀ {i:Nat} {o:Oper} {x:LO},ops[i]?=some o->(lightOf P ops ops)[i]?=some x->x.aft=aftL o.after.toList:=fun {i o x} ho hx=>by
    rw [lightOf_get,ho] at hx;simp at hx;rw [<- hx]
  have dstE:∀ {i:Nat} {o:Oper} {x:LO},ops[i]?=some o->(lightOf P ops ops)[i]?=some x->x.dst=o.dst:=fun {i o x} ho hx=>by
    rw [lightOf_get,ho] at hx;simp at hx;rw [<- hx]
  have aftIn:∀ {es:List Edge} {j:Nat},(∃ e∈es,Region.binds .any e=true/\e.on=j)->j∈aftL es:=by
    intro es j
    induction es with
    | nil=>rintro ⟨e,he,_⟩;cases he
    | cons e es ih =>
      rintro ⟨e',he',hb,hj⟩
      unfold aftL
      rcases List.mem_cons.1 he' with rfl|he'
      · rw [bindsE_eq] at hb;rw [hb];simp [hj]
      · have:=ih ⟨e',he',hb,hj⟩
        cases bindsE e<;>simp [this]
  intro u
  induction u with
  | zero =>
    intro D ν listed' a w hu hls hs ha hν hG
    have hD:=undone_zero hu
    have hfin:=allD_elim (hfin D ν w) hD hG
    have e:listed'=markAll E listed:=by
      apply List.ext_getElem?
      intro j
      rw [hls,markAll_get]
      by_cases hj:j∈E
      · simp [hj,hD j hj]
      · simp [hj]
    have hk:∀ t∈keysN vs,a.tmps[t]?=some (ν t):=fun t ht=>by
      obtain ⟨i,hi,x,hx,hd⟩:=outE_from (hkeys t ht)
      exact hν i hi (hD i hi) x t hx hd
    obtain ⟨ρ',ha',h⟩:=setNu_elim hk ha hfin
    subst e
    have:=drT_sound ok hsel hL (dropL E fl) (markAll E listed) none T ρ' a w (by rw [markAll_length];exact hl) hs ha' (fun g hg=>grpS_elim (hGT D ν w hG) g hg) h
    rw [Nat.zero_add]
    exact this
  | succ u ih =>
    intro D ν listed' a w hu hls hs ha hν hG
    have hne:=undone_pos hu
    have hready:∀ i,i∈Region.ready .any ops.toArray listed'.toArray<->listed'[i]?=some false/\∃ o,ops[i]?=some o/\∀ j∈aftL o.after.toList,listed'[j]?=some true:=by
      intro i
      rw [mem_ready,mem]
      constructor
      · rintro ⟨h0,o,ho,hall⟩
        refine ⟨h0,o,by simpa using ho,fun j hj=>?_⟩
        obtain ⟨e,he,hb,rfl⟩:=mem_aftL hj
        exact memF.1 (hall e (by simpa using he) hb)
      · rintro ⟨h0,o,ho,hall⟩
        refine ⟨h0,o,by simpa using ho,fun e he hb=>memF.2 (hall e.on (aftIn ⟨e,by simpa using he,hb,rfl⟩))⟩
    rw [show u+1+(dropL E fl).length=(u+(dropL E fl).length)+1 by omega]
    refine ⟨fun h0=>?_,fun i hi=>?_⟩
    · -- something is ready
      exfalso
      obtain ⟨i0,hi0,hd0⟩:=hne
      obtain ⟨i,hi,hd,hmin⟩:=least i0 i0 (Nat.le_refl _) hi0 hd0
      obtain ⟨o,x,ho,hx,_,haft,_⟩:=heach i hi
      have:i∈Region.ready .any ops.toArray listed'.toArray:=by
        rw [hready]
        refine ⟨by rw [hls,if_pos hi,hEf i hi];simp [hd],o,ho,fun j hj=>?_⟩
        rw [<- aftE ho hx] at hj
        rw [hls]
        rcases haft j hj with h|⟨hj,hlt⟩
        · have:=nthT.1 h
          by_cases hjE:j∈E
          · rw [hEf j hjE] at this;cases this
          · rw [if_neg hjE];exact this
        · rw [if_pos hj,hEf j hj];simp [hmin j hj hlt]
      rw [h0] at this;cases this
    · obtain ⟨hun,o,ho,hall⟩:=(hready i).1 hi
      by_cases hiE:i∈E
      · obtain ⟨o',x,ho',hx,hgd,haft,hprod,hdn⟩:=heach i hiE
        rw [ho] at ho';cases ho'
        have hdi:D i=false:=by rw [hls,if_pos hiE,hEf i hiE] at hun;simpa using hun
        have hDa:∀ j∈x.aft,j∈E->D j=true:=fun j hj hjE=>by
          have:=hall j (by rw [<- aftE ho hx];exact hj)
          rw [hls,if_pos hjE,hEf j hjE] at this;simpa using this
        have hob:=hobl i hiE
        unfold oblG at hob
        rw [ho,hx] at hob
        have hob:=allD_elim (hob D ν w hG hdi) (fun j hj=>hDa j (meet_mem.1 hj).2 (meet_mem.1 hj).1)
        have hvals:∀ t∈meet (outE (lightOf P ops ops) E) (tmpsL (operL o.op)),a.tmps[t]?=some (ν t):=fun t ht=>by
          obtain ⟨j,hj,hjE,y,hy,hd⟩:=hprod t ht
          exact hν j hjE (hDa j hj hjE) y t hy hd
        obtain ⟨ρ',ha',hop⟩:=setNu_elim hvals ha hob
        have hmo:o∈ops:=List.mem_of_getElem? ho
        have ho2:ops.toArray[i]?=some o:=by simpa using ho
        unfold wpOp
        rw [ho2]
        simp only
        have hw:Region.wanted o (yielded ops.toArray a.tmps)=true:=by unfold Region.wanted;rw [hgd]
        rw [hw]
        simp only [if_true]
        refine .inl (Oper.wp_mono ?_ (opX_does ok ha'.ev hop).wp)
        rintro a' w' ⟨v,rfl,hv⟩
        have hst:=hGT _ _ _ hv
        refine ⟨fun p hp=>?_,?_⟩
        · obtain ⟨g,hg,e⟩:=expd_mem (keepAt_mem hp)
          rw [<- e];exact grpS_elim hst g hg
        · refine wpAnyT_sub _ _ _ _ _ _ (fun p hp=>.inl (keepAt_mem hp)) ?_
          rw [<- markL_eq]
          have hu':=undone_set hnd hiE hdi
          refine ih (setD D i) (setNuV ν o.dst v) (markL i listed') _ w' (by omega) (fun j=>?_) (hs.trans ((put_same hmo a v).mono hL)) ?_ ?_ hv
          · rw [markL_get]
            by_cases hj:j=i
            · subst hj
              rw [if_pos rfl,if_pos hiE,hun,hEf j hiE]
              simp [setD]
            · rw [if_neg hj,hls]
              have hb:Nat.beq j i=false:=by cases hb:Nat.beq j i with|false=>rfl|true=>exact absurd (Nat.eq_of_beq_eq_true hb) hj
              by_cases hjE:j∈E
              · simp [hjE,setD,hb]
              · simp [hjE]
          · cases hd:o.dst with
            | none=>exact ha.put0 v
            | some d =>
              have hput:=ha.put (hdn d hd) v
              refine ⟨hput.defers,hput.size,fun t x' ht=>hput.at_ t x' ?_⟩
              have hdo:memNat d (outE (lightOf P ops ops) E)=true:=memNat_iff.2 (outE_mem hiE hx (by rw [dstE ho hx];exact hd))
              simp only [Env.set]
              cases hb:Nat.beq t d with
              | true =>
                have:=Nat.eq_of_beq_eq_true hb;subst this
                simp [Env.forget,hdo] at ht
              | false=>simpa using ht
          · intro j hjE hDj y t hy hdt
            cases hd:o.dst with
            | none =>
              have hji:j≠i:=fun e=>by
                subst e;rw [hx] at hy;cases hy;rw [dstE ho hx,hd] at hdt;cases hdt
              have hb:Nat.beq j i=false:=by cases hb:Nat.beq j i with|false=>rfl|true=>exact absurd (Nat.eq_of_beq_eq_true hb) hji
              simp only [setD,hb,cond_false] at hDj
              exact hν j hjE hDj y t hy hdt
            | some d =>
              simp only [setNuV,Act.put]
              cases hb:Nat.beq t d with
              | true =>
                have:=Nat.eq_of_beq_eq_true hb;subst this
                have:=ha.size
                have:=hdn t hd
                simp [*]
              | false =>
                have hne:=Nat.ne_of_beq_eq_false hb
                have hji:j≠i:=fun e=>by
                  subst e;rw [hx] at hy;cases hy;rw [dstE ho hx,hd] at hdt;cases hdt;exact hne rfl
                have hbj:Nat.beq j i=false:=by cases hb:Nat.beq j i with|false=>rfl|true=>exact absurd (Nat.eq_of_beq_eq_true hb) hji
                simp only [setD,hbj,cond_false] at hDj
                simp only [cond_false]
                rw [Array.getElem?_setIfInBounds_ne (fun e=>hne e.symm)]
                exact hν j hjE hDj y t hy hdt
      · exfalso
        obtain ⟨e,heE,hde⟩:=hne
        rw [hls,if_neg hiE] at hun
        have hx:(lightOf P ops ops)[i]?=some { dst:=o.dst,looks:=tmpsL (operL o.op)++(match o.guard with|some (g,_)=>(match ops[g]? with|some x=>x.dst.toList|none=>[])|none=>[]),aft:=aftL o.after.toList,q:=quietK P o }:=by rw [lightOf_get,ho];rfl
        have:=hall e (hbeh i _ hx hun hiE e heE)
        rw [hls,if_pos heE,hEf e heE,hde] at this
        simp at this
theorem drG_sound {m:Md} {P:Program} (ok:Okay P) {n:Nat} {ops:List Oper} (hsel:Region.noSelect ops.toArray=true) {L:List Nat} (hL:∀ t,t∈opsDst ops->t∈L) {a₀:Act} {K:Exit->Env->World->Prop} {vs:List (Nat×Ty)} :
    ∀ (fl:List Oper) (listed:List Bool) (c:Option Grp) (T:List Grp) (ρ:Env) (a:Act) (w:World),listed.length=ops.length->SameBut L a₀ a->Agrees n ρ a->(∀ g∈addC c T,g.2 w) ->
      drG m P n ops (lightOf P ops ops) (K .normal) vs fl listed c T ρ w->wpAnyT P .any ops.toArray (QW n L a₀ K) (expd (addC c T)) fl.length listed.toArray a w
  | [],listed,c,T,ρ,a,w,hl,hs,ha,hT,h=>by
    have hr0:=ready_eq (P:=P) hl
    unfold drG at h
    split at h
    · rename_i hr;exact ⟨hr0.trans hr,hs,ρ,ha,h⟩
    · exact h.elim
  | f::fl,listed,c,T,ρ,a,w,hl,hs,ha,hT,h=>by
    have hr0:=ready_eq (P:=P) hl
    have hmem:∀ {i:Nat} {o:Oper},ops[i]?=some o->o∈ops:=fun {i o} hi=>List.mem_of_getElem? hi
    have hput:∀ {i:Nat} {o:Oper} (_:ops[i]?=some o) v,SameBut L a₀ (a.put o.dst v):=fun hi v=>hs.trans ((put_same (hmem hi) a v).mono hL)
    have hTe:∀ p∈expd (addC c T),p.2 w:=fun p hp=>by
      obtain ⟨g,hg,e⟩:=expd_mem hp
      rw [<- e];exact hT g hg
    unfold drG at h
    split at h
    · rename_i hr
      exact ⟨fun _=>⟨hs,ρ,ha,h⟩,by rw [hr0,hr];simp⟩
    · rename_i i0 more hr
      have hrr:=hr0.trans hr
      split at h
      · rename_i i hf
        obtain ⟨hi,x,hx,hfx⟩:=findTake_spec hf
        split at h
        · rename_i o ho
          have hfree:=freeL_free hl ho hx hfx
          have ho':ops.toArray[i]?=some o:=by simpa using ho
          have hri:i∈Region.ready .any ops.toArray listed.toArray:=by rw [hrr];exact hi
          have take:∀ {v:Value} {S:World->Prop},YieldsIf P ops.toArray S o v a->S w->wpAnyT P .any ops.toArray (QW n L a₀ K) ((i,S)::expd (addC c T)) fl.length (markL i listed).toArray (a.put o.dst v) w->wpAnyT P .any ops.toArray (QW n L a₀ K) (expd (addC c T)) (fl.length+1) listed.toArray a w:=by
            intro v S hy hS hk
            rw [markL_eq] at hk
            exact wpAnyT_first ho' (Region.noSelect_spec hsel) (fun _ _ _ q=>q.elim) _ _ _ _ _ (Region.free_spec ho' hfree) hri hy hS hTe hk
          split at h
          · rename_i hg
            have hw:=gd_wanted hg ha
            split at h
            · split at h
              · rename_i qs S
                obtain ⟨v,hy,hv⟩:=quietS_yields ha.ev h
                obtain ⟨ρ',ha',hk⟩:=putS_elim hv ha
                exact take (.inl ⟨hw,hy⟩) (hT _ (List.mem_cons.2 (.inl rfl))) (drG_sound ok hsel hL fl _ (some (i::qs,S)) T ρ' _ w (by rw [markL_length];exact hl) (hput ho v) ha' (fun g hg=>by
                  rcases List.mem_cons.1 hg with rfl|hg
                  · exact hT (qs,S) (List.mem_cons.2 (.inl rfl))
                  · exact hT g (List.mem_cons.2 (.inr hg))) hk)
              · obtain ⟨S,hS,h⟩:=h
                obtain ⟨v,hy,hv⟩:=quietS_yields ha.ev h
                obtain ⟨ρ',ha',hk⟩:=putS_elim hv ha
                exact take (.inl ⟨hw,hy⟩) hS (drG_sound ok hsel hL fl _ (some ([i],S)) T ρ' _ w (by rw [markL_length];exact hl) (hput ho v) ha' (fun g hg=>by
                  rcases List.mem_cons.1 hg with rfl|hg
                  · exact hS
                  · exact hT g hg) hk)
            · obtain ⟨v,hy,hv⟩:=pureS_gives ha.ev h
              obtain ⟨ρ',ha',hk⟩:=putS_elim hv ha
              refine take (S:=fun _=>True) (.inl ⟨hw,fun w _=>hy w⟩) trivial (wpAnyT_sub _ _ _ _ _ _ (fun p hp=>?_) (drG_sound ok hsel hL fl _ c T ρ' _ w (by rw [markL_length];exact hl) (hput ho v) ha' hT hk))
              rcases List.mem_cons.1 hp with rfl|hp
              · exact .inr fun _=>trivial
              · exact .inl hp
          · rename_i hg
            have hw:=gd_wanted hg ha
            refine take (S:=fun _=>True) (.inr ⟨hw,rfl⟩) trivial (wpAnyT_sub _ _ _ _ _ _ (fun p hp=>?_) (drG_sound ok hsel hL fl _ c T _ _ w (by rw [markL_length];exact hl) (hput ho _) (skip_agrees ha) hT h))
            rcases List.mem_cons.1 hp with rfl|hp
            · exact .inr fun _=>trivial
            · exact .inl hp
          · exact h.elim
        · exact h.elim
      · unfold gT at h
        cases hc:(lenLe (effL 0 (lightOf P ops ops) listed) (f::fl) && (behE (effL 0 (lightOf P ops ops) listed) 0 (lightOf P ops ops) listed && (eachE n ops (lightOf P ops ops) (effL 0 (lightOf P ops ops) listed) listed (effL 0 (lightOf P ops ops) listed) && subN (outE (lightOf P ops ops) (effL 0 (lightOf P ops ops) listed)) (keysN vs)))) with
        | false=>rw [hc] at h;exact h.elim
        | true =>
          rw [hc] at h
          simp only [Bool.and_eq_true] at hc
          obtain ⟨G,hG0,hGT,hobl,hfin⟩:=h
          have hE:=effL_spec (lightOf P ops ops) listed 0
          have hEf:∀ j∈effL 0 (lightOf P ops ops) listed,listed[j]?=some false:=fun j hj=>by simpa using (hE.1 j hj).2
          have hlen:=lenLe_spec hc.1
          have hund:∀ E:List Nat,undone (fun _=>false) E=E.length:=fun E=>by induction E with|nil=>rfl|cons _ _ ih=>simp [undone,ih]
          have:=gT_sound ok hsel hL (K:=K) (vs:=vs) (fl:=f::fl) (T:=addC c T) (ρ:=ρ) (G:=G) hl hE.2 hEf
            (fun j x hx hj hjE=>behE_spec _ _ 0 hc.2.1 j x hx hj (by simpa using hjE)) (eachE_spec hc.2.2.1) (fun t ht=>subN_mem hc.2.2.2 t ht) hGT (allL_elim hobl) hfin
            _ (fun _=>false) (fun t=>a.tmps.getD t undef) listed a w rfl (fun j=>by
              by_cases hj:j∈effL 0 (lightOf P ops ops) listed
              · rw [if_pos hj,hEf j hj];rfl
              · rw [if_neg hj]) hs (ha.forget (.refl _ _) ha.defers ha.size) (fun j _ hd=>by cases hd) (hG0 _)
          rw [hund] at this
          rw [hlen]
          exact this
def drX (m:Md) (P:Program) (n:Nat) (ops:List Oper) (K:Env->World->Prop) (ρ:Env) (w:World):Prop :=
  match m with
  | .old=>∃ S:World->Prop,S w.drew/\drW .old P n ops (lightOf P ops ops) K ops (falses ops) S ρ w.drew
  | .named=>drT false .named P n ops (lightOf P ops ops) K ops (falses ops) none [] ρ w.drew
  | .wild=>drT false .wild P n ops (lightOf P ops ops) K ops (falses ops) none [] ρ w.drew
def drSX (m:Md) (P:Program) (n:Nat) (ops:List Oper) (K:Env->World->Prop) (ρ:Env) (w:World):Prop :=
  drT2 m P n ops (lightOf P ops ops) K ops (falses ops) none [] ρ w.drew
def drGX (m:Md) (P:Program) (n:Nat) (vs:List (Nat×Ty)) (ops:List Oper) (K:Env->World->Prop) (ρ:Env) (w:World):Prop :=
  drG m P n ops (lightOf P ops ops) K vs ops (falses ops) none [] ρ w.drew
/-! ## control flow -/
inductive Ann where
  | auto
  | seq (a b:Ann)
  | cond (a b:Ann)
  | block (a:Ann)
  | loop (vars:List (Nat×Ty)) (a:Ann)
  | join (vars:List (Nat×Ty)) (a b:Ann)
  | scope (l:Nat) (vars:List (Nat×Ty)) (a b:Ann)
  | named (a:Ann)
def wr:Code->List Nat
  | .region _ ops _=>opsDst ops.toList
  | .seq a b=>wr a++wr b
  | .cond _ a b=>wr a++wr b
  | .block _ a=>wr a
  | .loop a=>wr a
  | .scope a=>wr a
  | _=>[]
def nxt (K:Exit->Env->World->Prop) (f:Env->World->Prop):Exit->Env->World->Prop
  | .normal,ρ,w=>f ρ w
  | e,ρ,w=>K e ρ w
def inBlk (id:Nat) (K:Exit->Env->World->Prop):Exit->Env->World->Prop
  | .exit j,ρ,w=>cond (Nat.beq j id) (K .normal ρ w) (K (.exit j) ρ w)
  | e,ρ,w=>K e ρ w
def projS (vs:List (Nat×Ty)) (ρ:Env) (k:List AV->Prop):Prop:=match projVars vs ρ with|some l=>k l|none=>False
def isLabel (l:Nat):Code->Bool
  | .label m=>Nat.beq m l
  | _=>false
def onSpine (l:Nat):Code->Bool
  | .label m=>Nat.beq m l
  | .seq a b=>cond (onSpine l a) true (onSpine l b)
  | _=>false
def jumpTo (l:Nat) (f:Env->World->Prop) (K:Exit->Env->World->Prop):Exit->Env->World->Prop
  | .goto m,ρ,w=>cond (Nat.beq m l) (f ρ w) False
  | e,ρ,w=>K e ρ w
def cWf (m:Md) (P:Program) (n:Nat):Option Nat->Ann->Code->(Exit->Env->World->Prop)->Env->World->Prop
  | some l,an,.seq x y,K,ρ,w=>cond (isLabel l x) (cWf m P n none an y K ρ w) (cond (onSpine l x) False (cWf m P n (some l) an y K ρ w))
  | some _,_,_,_,_,_=>False
  | none,_,.skip,K,ρ,w=>K .normal ρ w
  | none,_,.region id ops false,K,ρ,w=>regW m P n ops.toList 0 ops.toList (K .normal) ρ w
  | none,.loop vs _,.region id ops true,K,ρ,w=>cond (noSel ops.toList) (drGX m P n vs ops.toList (K .normal) ρ w) False
  | none,.block _,.region id ops true,K,ρ,w=>cond (noSel ops.toList) (drSX m P n ops.toList (K .normal) ρ w) False
  | none,_,.region id ops true,K,ρ,w=>cond (noSel ops.toList) (drX m P n ops.toList (K .normal) ρ w) False
  | none,.seq a b,.seq x y,K,ρ,w=>cWf m P n none a x (nxt K fun ρ w=>cWf m P n none b y K ρ w) ρ w
  | none,.join vs a b,.seq x y,K,ρ,w=>∃ J:Cur Prop (varsAts vs),allA (varsAts vs) (fun l=>∀ w,app False (varsAts vs) J l w->cWf m P n none b y K (setVars vs l (ρ.forget (wr x))) w) /\
      cWf m P n none a x (nxt K fun ρ' w'=>projS vs ρ' fun l=>app False (varsAts vs) J l w') ρ w
  | none,_,.seq x y,K,ρ,w=>cWf m P n none .auto x (nxt K fun ρ w=>cWf m P n none .auto y K ρ w) ρ w
  | none,.cond a b,.cond c x y,K,ρ,w=>(match ev ρ c with|some (.bool t)=>cond t (cWf m P n none a x K ρ w) (cWf m P n none b y K ρ w)|_=>False)
  | none,_,.cond c x y,K,ρ,w=>(match ev ρ c with|some (.bool t)=>cond t (cWf m P n none .auto x K ρ w) (cWf m P n none .auto y K ρ w)|_=>False)
  | none,.block a,.block id x,K,ρ,w=>cWf m P n none a x (inBlk id K) ρ w
  | none,_,.block id x,K,ρ,w=>cWf m P n none .auto x (inBlk id K) ρ w
  | none,.loop vs a,.loop x,K,ρ,w=>projS vs ρ fun l₀=>∃ (I:Cur Prop (varsAts vs)) (μ:Cur Nat (varsAts vs)),app False (varsAts vs) I l₀ w /\
      allA (varsAts vs) fun l=>∀ w,app False (varsAts vs) I l w ->
        cWf m P n none a x (nxt K fun ρ' w'=>projS vs ρ' fun l'=>app False (varsAts vs) I l' w'/\app 0 (varsAts vs) μ l' w'<app 0 (varsAts vs) μ l w) (setVars vs l (ρ.forget (wr x))) w
  | none,.scope l vs a b,.scope x,K,ρ,w=>cond (onSpine l x) (∃ (I:Cur Prop (varsAts vs)) (μ:Cur Nat (varsAts vs)),cWf m P n none a x (jumpTo l (fun ρ' w'=>projS vs ρ' fun l'=>app False (varsAts vs) I l' w') K) ρ w /\
      allA (varsAts vs) fun v=>∀ w,app False (varsAts vs) I v w ->
        cWf m P n (some l) b x (jumpTo l (fun ρ' w'=>projS vs ρ' fun l'=>app False (varsAts vs) I l' w'/\app 0 (varsAts vs) μ l' w'<app 0 (varsAts vs) μ v w) K) (setVars vs v (ρ.forget (wr x))) w) False
  | none,_,.label _,K,ρ,w=>K .normal ρ w
  | none,_,.goto l,K,ρ,w=>K (.goto l) ρ w
  | none,_,.exit id,K,ρ,w=>K (.exit id) ρ w
  | none,_,.ret,K,ρ,w=>K .ret ρ w
  | none,_,_,_,_,_=>False
abbrev cW (m:Md) (P:Program) (n:Nat):Ann->Code->(Exit->Env->World->Prop)->Env->World->Prop:=cWf m P n none
theorem then_QW {P:Program} {n:Nat} {L:List Nat} {a₀:Act} {K:Exit->Env->World->Prop} {y:Code} {f:Env->World->Prop}
    (hy:∀ ρ a w,SameBut L a₀ a->Agrees n ρ a->f ρ w->y.wp P (QW n L a₀ K) a w) :
    ∀ e a w,QW n L a₀ (nxt K f) e a w->Exit.then (y.wp P (QW n L a₀ K)) (QW n L a₀ K) e a w:=by
  intro e a w h
  cases e with
  | normal=>obtain ⟨hs,ρ,ha,hf⟩:=h;exact hy ρ a w hs ha hf
  | exit id=>exact h
  | goto l=>exact h
  | ret=>exact h
  | panic c=>exact h
  | outgrown=>exact h
theorem QW_mono {n:Nat} {L L':List Nat} {a₀ a₁:Act} {K:Exit->Env->World->Prop} (hs:∀ a,SameBut L a₀ a->SameBut L' a₁ a) {e:Exit} {a:Act} {w:World} (h:QW n L a₀ K e a w):QW n L' a₁ K e a w:=by
  cases e<;>first|exact h|exact ⟨hs _ h.1,h.2⟩
theorem findLabel_none {l:Nat}:∀ {c:Code},onSpine l c=false->findLabel c l=none:=by
  intro c
  induction c with
  | seq a b iha ihb =>
    intro h
    cases ha:onSpine l a with
    | true=>simp [onSpine,ha] at h
    | false=>simp [onSpine,ha] at h;simp [findLabel,iha ha,ihb h]
  | label m=>intro h;have h2:=Nat.ne_of_beq_eq_false (show Nat.beq m l=false from h);simp [findLabel,h2]
  | _=>intro _;rfl
theorem findLabel_some {l:Nat}:∀ {c:Code},onSpine l c=true->∃ r,findLabel c l=some r:=by
  intro c
  induction c with
  | seq a b iha ihb =>
    intro h
    cases ha:onSpine l a with
    | true=>obtain ⟨r,hr⟩:=iha ha;exact ⟨.seq r b,by simp [findLabel,hr]⟩
    | false=>simp [onSpine,ha] at h;obtain ⟨r,hr⟩:=ihb h;exact ⟨r,by simp [findLabel,findLabel_none ha,hr]⟩
  | label m=>intro h;simp [onSpine] at h;exact ⟨.skip,by simp [findLabel,h]⟩
  | _=>intro h;simp [onSpine] at h
theorem cWf_sound {m:Md} {P:Program} (ok:Okay P) {n:Nat} {a₀:Act}:∀ (c:Code),(∀ (an:Ann) (L:List Nat) (K:Exit->Env->World->Prop) (ρ:Env) (a:Act) (w:World),
    (∀ t,t∈wr c->t∈L)->SameBut L a₀ a->Agrees n ρ a->cWf m P n none an c K ρ w->c.wp P (QW n L a₀ K) a w) /\
    (∀ (l:Nat) (an:Ann) (L:List Nat) (K:Exit->Env->World->Prop) (ρ:Env) (a:Act) (w:World),
    (∀ t,t∈wr c->t∈L)->SameBut L a₀ a->Agrees n ρ a->cWf m P n (some l) an c K ρ w->∃ rest,findLabel c l=some rest/\rest.wp P (QW n L a₀ K) a w):=by
  intro c
  induction c generalizing a₀ with
  | skip =>
    refine ⟨?_,(fun l an L K ρ a w _ _ _ h=>h.elim)⟩
    intro an L K ρ a w _ hs ha h;exact wp_skip ⟨hs,ρ,ha,by cases an<;>exact h⟩
  | region id ops draw =>
    refine ⟨?_,(fun l an L K ρ a w _ _ _ h=>h.elim)⟩
    intro an L K ρ a w hL hs ha h
    cases draw with
    | false =>
      have h':regW m P n ops.toList 0 ops.toList (K .normal) ρ w:=by cases an<;>exact h
      have:=regW_sound ok (L:=L) (fun t ht=>hL t (by simpa [wr] using ht)) (a₀:=a₀) (K:=K) ops.toList 0 ρ a w (fun _ h=>h) hs ha h'
      exact wp_region_list (by simpa using this)
    | true =>
      have h0:(∃ vs,cond (noSel ops.toList) (drGX m P n vs ops.toList (K .normal) ρ w) False)\/cond (noSel ops.toList) (drSX m P n ops.toList (K .normal) ρ w) False\/cond (noSel ops.toList) (drX m P n ops.toList (K .normal) ρ w) False:=by
        cases an<;>first|exact .inr (.inr h)|exact .inl ⟨_,h⟩|exact .inr (.inl h)
      cases hsel:noSel ops.toList with
      | false=>rw [hsel] at h0;rcases h0 with ⟨_,h'⟩|h'|h'<;>exact h'.elim
      | true =>
        rw [hsel] at h0
        have hf:∀ l:List Oper,(falses l).length=l.length:=fun l=>by induction l with|nil=>rfl|cons _ _ ih=>simp [falses,ih]
        have hfa:∀ l:List Oper,(falses l).toArray=Array.replicate l.length false:=fun l=>by
          have:falses l=List.replicate l.length false:=by induction l with|nil=>rfl|cons _ _ ih=>simp [falses,ih,List.replicate_succ]
          rw [this];simp
        rcases h0 with ⟨vs,h'⟩|h'|h'
        rotate_left
        · have:=drT2_sound ok (noSel_eq hsel) (L:=L) (fun t ht=>hL t (by simpa [wr] using ht)) (a₀:=a₀) (K:=K) ops.toList _ none [] ρ a _ (hf _) (closed_falses _) hs ha (fun _ h=>by cases h) h'
          rw [hfa] at this
          simp only [Array.toArray_toList,Array.length_toList] at this
          exact wp_region_any ok.mixed (wpAny_of_T2 _ _ _ _ _ this)
        rotate_left
        · have:=drG_sound ok (noSel_eq hsel) (L:=L) (fun t ht=>hL t (by simpa [wr] using ht)) (a₀:=a₀) (K:=K) (vs:=vs) ops.toList _ none [] ρ a _ (hf _) hs ha (fun _ h=>by cases h) h'
          rw [hfa] at this
          simp only [Array.toArray_toList,Array.length_toList] at this
          exact wp_region_any ok.mixed (wpAny_of_T _ _ _ _ _ this)
        cases m with
        | named =>
          have:=drT_sound ok (noSel_eq hsel) (L:=L) (fun t ht=>hL t (by simpa [wr] using ht)) (a₀:=a₀) (K:=K) ops.toList _ none [] ρ a _ (hf _) hs ha (fun _ h=>by cases h) h'
          rw [hfa] at this
          simp only [Array.toArray_toList,Array.length_toList] at this
          exact wp_region_any ok.mixed (wpAny_of_T _ _ _ _ _ this)
        | wild =>
          have:=drT_sound ok (noSel_eq hsel) (L:=L) (fun t ht=>hL t (by simpa [wr] using ht)) (a₀:=a₀) (K:=K) ops.toList _ none [] ρ a _ (hf _) hs ha (fun _ h=>by cases h) h'
          rw [hfa] at this
          simp only [Array.toArray_toList,Array.length_toList] at this
          exact wp_region_any ok.mixed (wpAny_of_T _ _ _ _ _ this)
        | old =>
          obtain ⟨S,hS,hd⟩:=h'
          have:=drW_sound ok (noSel_eq hsel) (L:=L) (fun t ht=>hL t (by simpa [wr] using ht)) (a₀:=a₀) (K:=K) ops.toList _ S ρ a _ (hf _) hs ha hS hd
          rw [hfa] at this
          simp only [Array.toArray_toList,Array.length_toList] at this
          exact wp_region_held ok.mixed this
  | seq x y ihx ihy =>
    refine ⟨?_,?_⟩
    · intro an L K ρ a w hL hs ha h
      have hx:∀ t,t∈wr x->t∈L:=fun t ht=>hL t (by simp [wr,ht])
      have hy:∀ t,t∈wr y->t∈L:=fun t ht=>hL t (by simp [wr,ht])
      have plain:∀ (a1 b1:Ann),cW m P n a1 x (nxt K fun ρ w=>cW m P n b1 y K ρ w) ρ w->(Code.seq x y).wp P (QW n L a₀ K) a w:=fun a1 b1 h =>
        wp_seq (Code.wp_mono (then_QW fun ρ' a' w' hs' ha' hf=>ihy.1 b1 L K ρ' a' w' hy hs' ha' hf) (ihx.1 a1 L _ ρ a w hx hs ha h))
      cases an with
      | seq a1 b1=>exact plain a1 b1 h
      | join vs a1 b1 =>
        obtain ⟨J,hrest,hfirst⟩:=h
        have h1:=(ihx (a₀:=a)).1 a1 (wr x) _ ρ a w (fun _ h=>h) (.refl _ _) ha hfirst
        refine wp_seq (Code.wp_mono ?_ h1)
        intro e a' w' hq
        cases e with
        | normal =>
          obtain ⟨hs',ρ',ha',hp⟩:=hq
          simp only [nxt,projS] at hp
          split at hp
          · rename_i l hl
            have hcw:=allA_elim (projVars_typed hl) hrest w' hp
            refine ihy.1 b1 L K _ a' w' hy (hs.trans (hs'.mono hx)) (setVars_agrees hl ha' (ha.forget hs' ha'.defers ha'.size)) hcw
          · exact hp.elim
        | exit id=>exact QW_mono (fun b hb=>hs.trans (hb.mono hx)) hq
        | goto l=>exact QW_mono (fun b hb=>hs.trans (hb.mono hx)) hq
        | ret=>exact QW_mono (fun b hb=>hs.trans (hb.mono hx)) hq
        | panic c=>exact hq
        | outgrown=>exact hq
      | auto=>exact plain _ _ h
      | cond _ _=>exact plain _ _ h
      | block _=>exact plain _ _ h
      | loop _ _=>exact plain _ _ h
      | scope _ _ _ _=>exact plain _ _ h
      | named _=>exact plain _ _ h
    · intro l an L K ρ a w hL hs ha h
      have hy:∀ t,t∈wr y->t∈L:=fun t ht=>hL t (by simp [wr,ht])
      have h':cond (isLabel l x) (cWf m P n none an y K ρ w) (cond (onSpine l x) False (cWf m P n (some l) an y K ρ w)):=h
      cases hl:isLabel l x with
      | true =>
        rw [hl] at h'
        have hx:x=.label l:=by
          cases x<;>simp [isLabel] at hl
          rw [hl]
        subst hx
        exact ⟨.seq .skip y,by simp [findLabel],wp_seq (wp_skip (ihy.1 an L K ρ a w hy hs ha h'))⟩
      | false =>
        rw [hl] at h'
        cases hsp:onSpine l x with
        | true=>rw [hsp] at h';exact h'.elim
        | false =>
          rw [hsp] at h'
          obtain ⟨rest,hr,hw⟩:=ihy.2 l an L K ρ a w hy hs ha h'
          exact ⟨rest,by simp [findLabel,findLabel_none hsp,hr],hw⟩
  | cond c x y ihx ihy =>
    refine ⟨?_,(fun l an L K ρ a w _ _ _ h=>h.elim)⟩
    intro an L K ρ a w hL hs ha h
    have hx:∀ t,t∈wr x->t∈L:=fun t ht=>hL t (by simp [wr,ht])
    have hy:∀ t,t∈wr y->t∈L:=fun t ht=>hL t (by simp [wr,ht])
    have plain:∀ (a1 b1:Ann),(match ev ρ c with|some (.bool t)=>cond t (cW m P n a1 x K ρ w) (cW m P n b1 y K ρ w)|_=>False)->(Code.cond c x y).wp P (QW n L a₀ K) a w:=by
      intro a1 b1 h
      split at h
      · rename_i t ht
        refine wp_cond_split (ha.ev c _ ht) (fun e=>?_) (fun e=>?_)
        · subst e;exact ihx.1 a1 L K ρ a w hx hs ha h
        · subst e;exact ihy.1 b1 L K ρ a w hy hs ha h
      · exact h.elim
    cases an with
    | cond a1 b1=>exact plain a1 b1 h
    | auto=>exact plain _ _ h
    | seq _ _=>exact plain _ _ h
    | block _=>exact plain _ _ h
    | loop _ _=>exact plain _ _ h
    | join _ _ _=>exact plain _ _ h
    | scope _ _ _ _=>exact plain _ _ h
    | named _=>exact plain _ _ h
  | block id x ih =>
    refine ⟨?_,(fun l an L K ρ a w _ _ _ h=>h.elim)⟩
    intro an L K ρ a w hL hs ha h
    have plain:∀ a1,cW m P n a1 x (inBlk id K) ρ w->(Code.block id x).wp P (QW n L a₀ K) a w:=by
      intro a1 h
      refine wp_block (Code.wp_mono ?_ (ih.1 a1 L _ ρ a w hL hs ha h))
      intro e a' w' hq
      cases e with
      | exit j =>
        obtain ⟨hs',ρ',ha',hk⟩:=hq
        simp only [inBlk] at hk
        simp only [Exit.inBlock]
        cases hj:Nat.beq j id with
        | true=>have:=Nat.eq_of_beq_eq_true hj;subst this;rw [hj] at hk;rw [if_pos rfl];exact ⟨hs',ρ',ha',hk⟩
        | false=>have:=Nat.ne_of_beq_eq_false hj;rw [hj] at hk;rw [if_neg this];exact ⟨hs',ρ',ha',hk⟩
      | normal=>exact hq
      | goto l=>exact hq
      | ret=>exact hq
      | panic c=>exact hq
      | outgrown=>exact hq
    cases an with
    | block a1=>exact plain a1 h
    | auto=>exact plain _ h
    | seq _ _=>exact plain _ h
    | cond _ _=>exact plain _ h
    | loop _ _=>exact plain _ h
    | join _ _ _=>exact plain _ h
    | scope _ _ _ _=>exact plain _ h
    | named _=>exact plain _ h
  | loop x ih =>
    refine ⟨?_,(fun l an L K ρ a w _ _ _ h=>h.elim)⟩
    intro an L K ρ a w hL hs ha h
    cases an with
    | loop vs a1 =>
      have h':projS vs ρ fun l₀=>∃ (I:Cur Prop (varsAts vs)) (μ:Cur Nat (varsAts vs)),app False (varsAts vs) I l₀ w /\
        allA (varsAts vs) fun l=>∀ w,app False (varsAts vs) I l w ->
        cW m P n a1 x (nxt K fun ρ' w'=>projS vs ρ' fun l'=>app False (varsAts vs) I l' w'/\app 0 (varsAts vs) μ l' w'<app 0 (varsAts vs) μ l w) (setVars vs l (ρ.forget (wr x))) w:=h
      unfold projS at h'
      split at h'
      · rename_i l₀ hl₀
        obtain ⟨I,μ,h0,hround⟩:=h'
        -- the invariant on acts
        let val (a':Act) (l:List AV):Prop:=SameBut (wr x) a a'/\∃ ρ',Agrees n ρ' a'/\projVars vs ρ'=some l
        have uniq:∀ a' l l',val a' l->val a' l'->l=l':=by
          rintro a' l l' ⟨_,ρ1,ha1,hp1⟩ ⟨_,ρ2,ha2,hp2⟩
          have:∀ (vs:List (Nat×Ty)) l l',projVars vs ρ1=some l->projVars vs ρ2=some l'->l=l':=by
            intro vs
            induction vs with
            | nil=>intro l l' h1 h2;exact (Option.some.inj h1).symm.trans (Option.some.inj h2)
            | cons p vs ihv =>
              intro l l' h1 h2
              obtain ⟨t,ty⟩:=p
              simp only [projVars] at h1 h2
              cases e1 : ρ1 t with
              | none=>simp [e1] at h1
              | some v1 =>
                cases e2 : ρ2 t with
                | none=>simp [e2] at h2
                | some v2 =>
                  have hv:v1=v2:=by have:=ha1.at_ t v1 e1;rw [ha2.at_ t v2 e2] at this;simpa using this.symm
                  subst hv
                  cases q:ty.proj v1 with
                  | none=>simp [e1,q] at h1
                  | some x1 =>
                    cases r1:projVars vs ρ1 with
                    | none=>simp [e1,q,r1] at h1
                    | some y1 =>
                      cases r2:projVars vs ρ2 with
                      | none=>simp [e2,q,r2] at h2
                      | some y2 =>
                        simp [e1,e2,q,r1,r2] at h1 h2
                        rw [<- h1,<- h2,ihv y1 y2 r1 r2]
          exact this vs l l' hp1 hp2
        refine wp_loop (fun a' w'=>∃ l,val a' l/\app False (varsAts vs) I l w')
          (fun a' w'=>open Classical in if h:∃ l,val a' l then app 0 (varsAts vs) μ h.choose w' else 0) ⟨l₀,⟨.refl _ _,ρ,ha,hl₀⟩,h0⟩ ?_
        rintro a' w' ⟨l,hval,hI⟩
        obtain ⟨hs',ρ',ha',hl⟩:=id hval
        have hμ:∀ a'' l'' w'',val a'' l''->(open Classical in if h:∃ l,val a'' l then app 0 (varsAts vs) μ h.choose w'' else 0)=app 0 (varsAts vs) μ l'' w'':=by
          intro a'' l'' w'' hv
          have hex:∃ l,val a'' l:=⟨l'',hv⟩
          rw [dif_pos hex,uniq a'' _ _ hex.choose_spec hv]
        have hcw:=allA_elim (projVars_typed hl) hround w' hI
        have hag:Agrees n (setVars vs l (ρ.forget (wr x))) a':=setVars_agrees hl ha' (ha.forget hs' ha'.defers ha'.size)
        have hb:=(ih (a₀:=a')).1 a1 (wr x) _ _ a' w' (fun _ h=>h) (.refl _ _) hag hcw
        refine Code.wp_mono ?_ hb
        intro e a2 w2 hq
        cases e with
        | normal =>
          obtain ⟨hs2,ρ2,ha2,hp⟩:=hq
          simp only [nxt,projS] at hp
          split at hp
          · rename_i l2 hl2
            have hv2:val a2 l2:=⟨hs'.trans hs2,ρ2,ha2,hl2⟩
            refine ⟨⟨l2,hv2,hp.1⟩,?_⟩
            rw [hμ a2 l2 w2 hv2,hμ a' l w' hval]
            exact hp.2
          · exact hp.elim
        | exit id=>exact QW_mono (fun b hb=>hs.trans ((hs'.trans hb).mono hL)) hq
        | goto l=>exact QW_mono (fun b hb=>hs.trans ((hs'.trans hb).mono hL)) hq
        | ret=>exact QW_mono (fun b hb=>hs.trans ((hs'.trans hb).mono hL)) hq
        | panic c=>exact hq
        | outgrown=>exact hq
      · exact h'.elim
    | auto=>exact False.elim h
    | seq _ _=>exact False.elim h
    | cond _ _=>exact False.elim h
    | block _=>exact False.elim h
    | join _ _ _=>exact False.elim h
    | scope _ _ _ _=>exact False.elim h
    | named _=>exact False.elim h
  | exit id =>
    refine ⟨?_,(fun l an L K ρ a w _ _ _ h=>h.elim)⟩
    intro an L K ρ a w _ hs ha h;exact wp_exit ⟨hs,ρ,ha,by cases an<;>exact h⟩
  | ret =>
    refine ⟨?_,(fun l an L K ρ a w _ _ _ h=>h.elim)⟩
    intro an L K ρ a w _ hs ha h;exact wp_ret ⟨hs,ρ,ha,by cases an<;>exact h⟩
  | rangeFunc f ps as b _ _ =>
    refine ⟨?_,(fun l an L K ρ a w _ _ _ h=>h.elim)⟩
    intro an L K ρ a w _ hs ha h;cases an<;>exact False.elim h
  | scope x ih =>
    refine ⟨?_,(fun l an L K ρ a w _ _ _ h=>h.elim)⟩
    intro an L K ρ a w hL hs ha h
    cases an with
    | scope lab vs a1 b1 =>
      have h':cond (onSpine lab x) (∃ (I:Cur Prop (varsAts vs)) (μ:Cur Nat (varsAts vs)),cWf m P n none a1 x (jumpTo lab (fun ρ' w'=>projS vs ρ' fun l'=>app False (varsAts vs) I l' w') K) ρ w /\
        allA (varsAts vs) fun v=>∀ w,app False (varsAts vs) I v w ->
          cWf m P n (some lab) b1 x (jumpTo lab (fun ρ' w'=>projS vs ρ' fun l'=>app False (varsAts vs) I l' w'/\app 0 (varsAts vs) μ l' w'<app 0 (varsAts vs) μ v w) K) (setVars vs v (ρ.forget (wr x))) w) False:=h
      cases hsp:onSpine lab x with
      | false=>rw [hsp] at h';exact h'.elim
      | true =>
        rw [hsp] at h'
        obtain ⟨I,μ,hfirst,hround⟩:=h'
        obtain ⟨rest,hrest⟩:=findLabel_some hsp
        -- the invariant on acts
        let val (a':Act) (l:List AV):Prop:=SameBut (wr x) a a'/\∃ ρ',Agrees n ρ' a'/\projVars vs ρ'=some l
        have uniq:∀ a' l l',val a' l->val a' l'->l=l':=by
          rintro a' l l' ⟨_,ρ1,ha1,hp1⟩ ⟨_,ρ2,ha2,hp2⟩
          have:∀ (vs:List (Nat×Ty)) l l',projVars vs ρ1=some l->projVars vs ρ2=some l'->l=l':=by
            intro vs
            induction vs with
            | nil=>intro l l' h1 h2;exact (Option.some.inj h1).symm.trans (Option.some.inj h2)
            | cons p vs ihv =>
              intro l l' h1 h2
              obtain ⟨t,ty⟩:=p
              simp only [projVars] at h1 h2
              cases e1 : ρ1 t with
              | none=>simp [e1] at h1
              | some v1 =>
                cases e2 : ρ2 t with
                | none=>simp [e2] at h2
                | some v2 =>
                  have hv:v1=v2:=by have:=ha1.at_ t v1 e1;rw [ha2.at_ t v2 e2] at this;simpa using this.symm
                  subst hv
                  cases q:ty.proj v1 with
                  | none=>simp [e1,q] at h1
                  | some x1 =>
                    cases r1:projVars vs ρ1 with
                    | none=>simp [e1,q,r1] at h1
                    | some y1 =>
                      cases r2:projVars vs ρ2 with
                      | none=>simp [e2,q,r2] at h2
                      | some y2 =>
                        simp [e1,e2,q,r1,r2] at h1 h2
                        rw [<- h1,<- h2,ihv y1 y2 r1 r2]
          exact this vs l l' hp1 hp2
        have hμ:∀ a'' l'' w'',val a'' l''->(open Classical in if h:∃ l,val a'' l then app 0 (varsAts vs) μ h.choose w'' else 0)=app 0 (varsAts vs) μ l'' w'':=by
          intro a'' l'' w'' hv
          have hex:∃ l,val a'' l:=⟨l'',hv⟩
          rw [dif_pos hex,uniq a'' _ _ hex.choose_spec hv]
        refine wp_scope_jumps lab (fun a' w'=>∃ l,val a' l/\app False (varsAts vs) I l w')
          (fun a' w'=>open Classical in if h:∃ l,val a' l then app 0 (varsAts vs) μ h.choose w' else 0) hrest ?_ ?_
        · refine Code.wp_mono ?_ ((ih (a₀:=a)).1 a1 (wr x) _ ρ a w (fun _ h=>h) (.refl _ _) ha hfirst)
          intro e a' w' hq
          cases e with
          | goto m =>
            obtain ⟨hs',ρ',ha',hp⟩:=hq
            simp only [jumpTo] at hp
            cases hm:Nat.beq m lab with
            | false=>rw [hm] at hp;exact hp.elim
            | true =>
              rw [hm] at hp
              simp only [cond_true,projS] at hp
              split at hp
              · rename_i l hl
                exact ⟨Nat.eq_of_beq_eq_true hm,l,⟨hs',ρ',ha',hl⟩,hp⟩
              · exact hp.elim
          | normal=>exact QW_mono (fun b hb=>hs.trans (hb.mono hL)) hq
          | exit id=>exact QW_mono (fun b hb=>hs.trans (hb.mono hL)) hq
          | ret=>exact QW_mono (fun b hb=>hs.trans (hb.mono hL)) hq
          | panic c=>exact hq
          | outgrown=>exact hq
        · rintro a' w' ⟨l,hval,hI⟩
          obtain ⟨hs',ρ',ha',hl⟩:=id hval
          have hcw:=allA_elim (projVars_typed hl) hround w' hI
          have hag:Agrees n (setVars vs l (ρ.forget (wr x))) a':=setVars_agrees hl ha' (ha.forget hs' ha'.defers ha'.size)
          obtain ⟨rest',hr',hb⟩:=(ih (a₀:=a')).2 lab b1 (wr x) _ _ a' w' (fun _ h=>h) (.refl _ _) hag hcw
          rw [hrest] at hr'
          cases hr'
          refine Code.wp_mono ?_ hb
          intro e a'' w'' hq
          cases e with
          | goto m =>
            obtain ⟨hs'',ρ'',ha'',hp⟩:=hq
            simp only [jumpTo] at hp
            cases hm:Nat.beq m lab with
            | false=>rw [hm] at hp;exact hp.elim
            | true =>
              rw [hm] at hp
              simp only [cond_true,projS] at hp
              split at hp
              · rename_i l2 hl2
                have hv2:val a'' l2:=⟨hs'.trans hs'',ρ'',ha'',hl2⟩
                refine ⟨Nat.eq_of_beq_eq_true hm,⟨l2,hv2,hp.1⟩,?_⟩
                rw [hμ a'' l2 w'' hv2,hμ a' l w' hval]
                exact hp.2
              · exact hp.elim
          | normal=>exact QW_mono (fun b hb=>hs.trans ((hs'.trans hb).mono hL)) hq
          | exit id=>exact QW_mono (fun b hb=>hs.trans ((hs'.trans hb).mono hL)) hq
          | ret=>exact QW_mono (fun b hb=>hs.trans ((hs'.trans hb).mono hL)) hq
          | panic c=>exact hq
          | outgrown=>exact hq
    | auto=>exact False.elim h
    | seq _ _=>exact False.elim h
    | cond _ _=>exact False.elim h
    | block _=>exact False.elim h
    | loop _ _=>exact False.elim h
    | join _ _ _=>exact False.elim h
    | named _=>exact False.elim h
  | label l =>
    refine ⟨?_,(fun l an L K ρ a w _ _ _ h=>h.elim)⟩
    intro an L K ρ a w _ hs ha h;exact wp_label ⟨hs,ρ,ha,by cases an<;>exact h⟩
  | goto l =>
    refine ⟨?_,(fun l an L K ρ a w _ _ _ h=>h.elim)⟩
    intro an L K ρ a w _ hs ha h;exact wp_goto ⟨hs,ρ,ha,by cases an<;>exact h⟩
  | refuse s =>
    refine ⟨?_,(fun l an L K ρ a w _ _ _ h=>h.elim)⟩
    intro an L K ρ a w _ hs ha h;cases an<;>exact False.elim h
theorem cW_sound {m:Md} {P:Program} (ok:Okay P) {n:Nat} {a₀:Act} (c:Code) (an:Ann) (L:List Nat) (K:Exit->Env->World->Prop) (ρ:Env) (a:Act) (w:World)
    (hL:∀ t,t∈wr c->t∈L) (hs:SameBut L a₀ a) (ha:Agrees n ρ a) (h:cW m P n an c K ρ w):c.wp P (QW n L a₀ K) a w:=(cWf_sound ok c).1 an L K ρ a w hL hs ha h
/-! ## functions -/
def argEnv:Nat->List Value->Env
  | _,[],_=>none
  | i,v::vs,t=>bif Nat.beq t i then some v else argEnv (i+1) vs t
def resS (P:Program) (ρ:Env) (w:World):List ResultVar->(List Value->Prop)->Prop
  | [],k=>k []
  | .tmp t::l,k=>(match ρ t with|some v=>resS P ρ w l fun vs=>k (v::vs)|none=>False)
  | .cell a t::l,k=>(match ρ a with
    | some (.pointer (some ad))=>readT P t (fun ad v=>w.cell? ad=some v) ad fun v=>resS P ρ w l fun vs=>k (v::vs)
    | _=>False)
def one:List Value->Value
  | [v]=>v
  | l=>.tuple l.toArray
def fnK (P:Program) (res:List ResultVar) (K:Value->World->Prop):Exit->Env->World->Prop
  | .normal,ρ,w=>resS P ρ w res fun vs=>K (one vs) w
  | .ret,ρ,w=>resS P ρ w res fun vs=>K (one vs) w
  | _,_,_=>False
def nmd:Ann->Md | .named (.named _)=>.wild | .named _=>.named|_=>.old
def bare:Ann->Ann | .named (.named a)=>a | .named a=>a|a=>a
def fnW (P:Program) (fn:Func) (an:Ann) (args:List Value) (w:World) (K:Value->World->Prop):Prop :=
  match fn.body with
  | some c=>cond (Nat.ble args.length fn.ntmps) (cW (nmd an) P fn.ntmps (bare an) c (fnK P fn.results.toList K) (argEnv 0 args) w) False
  | none=>False
theorem argEnv_get:∀ (vs:List Value) (i t:Nat) (v:Value),argEnv i vs t=some v->i<=t/\vs[t-i]?=some v
  | [],i,t,v,h=>by simp [argEnv] at h
  | x::vs,i,t,v,h=>by
    simp only [argEnv] at h
    cases hb:Nat.beq t i with
    | true=>have:=Nat.eq_of_beq_eq_true hb;subst this;simp [hb] at h;subst h;simp
    | false =>
      have hne:=Nat.ne_of_beq_eq_false hb
      simp [hb] at h
      obtain ⟨h1,h2⟩:=argEnv_get vs (i+1) t v h
      refine ⟨by omega,?_⟩
      rw [show t-i=(t-(i+1))+1 by omega]
      simpa using h2
def resF (a:Act):ResultVar->Sem Value
  | .tmp t=>pure (a.tmps.getD t undef)
  | .cell ad t=>do loadVar t (<- asAddr (a.tmps.getD ad undef))
theorem resS_run {P:Program} {n:Nat} {ρ:Env} {a:Act} (ha:Agrees n ρ a) {w:World}:∀ {l:List ResultVar} {k:List Value->Prop},resS P ρ w l k ->
    ∃ vs,(l.mapM (resF a)).run P w=.ok vs w/\k vs
  | [],k,h=>⟨[],rfl,h⟩
  | .tmp t::l,k,h=>by
    simp only [resS] at h
    split at h
    · rename_i v hv
      obtain ⟨vs,hr,hk⟩:=resS_run ha h
      refine ⟨v::vs,?_,hk⟩
      have h1:=ha.at_ t v hv
      have e:(resF a (.tmp t)).run P w=.ok v w:=by simp [resF,Array.getD_eq_getD_getElem?,h1]
      simp only [List.mapM_cons,Sem.run_bind,e,Sem.run_pure,Result.andThen_ok,hr]
    · exact h.elim
  | .cell ad t::l,k,h=>by
    simp only [resS] at h
    split at h
    · rename_i p hp
      obtain ⟨v,hv,h⟩:=readT_elim h
      obtain ⟨vs,hr,hk⟩:=resS_run ha h
      refine ⟨v::vs,?_,hk⟩
      have h1:=ha.at_ ad _ hp
      have hl:=hv w (fun _ _ h=>h)
      have e:(resF a (.cell ad t)).run P w=.ok v w:=by simp [resF,Array.getD_eq_getD_getElem?,h1,asAddr,hl]
      simp only [List.mapM_cons,Sem.run_bind,e,Sem.run_pure,Result.andThen_ok,hr]
    · exact h.elim
theorem fnW_calls {P:Program} (ok:Okay P) {f:FuncId} {fn:Func} (hf:P.funcs[f]?=some fn) {an:Ann} {args:List Value} {w:World} {K:Value->World->Prop}
    (h:fnW P fn an args w K):CallsV P f args.toArray w K:=by
  unfold fnW at h
  split at h
  · rename_i c hc
    cases hle:Nat.ble args.length fn.ntmps with
    | false=>rw [hle] at h;exact h.elim
    | true =>
      rw [hle] at h
      have hle':=Nat.le_of_ble_eq_true hle
      refine calls_of_wp hf hc ?_
      have ha:Agrees fn.ntmps (argEnv 0 args) { tmps:=args.toArray++Array.replicate (fn.ntmps-args.toArray.size) undef,defers:=[] }:=by
        refine ⟨rfl,by simp;omega,fun t v hv=>?_⟩
        obtain ⟨_,h2⟩:=argEnv_get args 0 t v hv
        have hlt:t<args.length:=by
          rcases Nat.lt_or_ge t args.length with h|h
          · exact h
          · rw [List.getElem?_eq_none (by simpa using h)] at h2;cases h2
        rw [Array.getElem?_append_left (by simpa using hlt)]
        simpa using h2
      refine Code.wp_mono ?_ (cW_sound ok (a₀:=_) c (bare an) (wr c) _ _ _ w (fun _ h=>h) (.refl _ _) ha h)
      have fin:∀ (a':Act) (w':World),(∃ ρ,Agrees fn.ntmps ρ a'/\resS P ρ w' fn.results.toList fun vs=>K (one vs) w') ->
          a'.defers=[]/\∃ v,(results fn a'.tmps).run P w'=.ok v w'/\∃ u,Ending.returned v=Ending.returned u/\K u w':=by
        rintro a' w' ⟨ρ,ha',hr⟩
        obtain ⟨vs,hrun,hK⟩:=resS_run ha' hr
        refine ⟨ha'.defers,one vs,?_,_,rfl,hK⟩
        have hm:(fn.results.mapM (resF a')).run P w'=.ok vs.toArray w':=by
          rw [Array.mapM_eq_mapM_toList];simp only [Sem.run_map,hrun,Result.andThen_ok]
        have e:results fn a'.tmps=(do let vs <- fn.results.mapM (resF a');pure (if h:vs.size=1 then vs[0] else .tuple vs)):=by
          unfold results;congr 1
        rw [e]
        simp only [Sem.run_bind,hm,Result.andThen_ok,Sem.run_pure]
        congr 1
        match vs with
        | []=>rfl
        | [v]=>rfl
        | _::_::_=>simp [one]
      intro e a' w' hq
      cases e with
      | normal=>exact fin a' w' ⟨_,hq.2.choose_spec⟩
      | ret=>exact fin a' w' ⟨_,hq.2.choose_spec⟩
      | exit id=>obtain ⟨_,ρ,_,h⟩:=hq;exact h.elim
      | goto l=>obtain ⟨_,ρ,_,h⟩:=hq;exact h.elim
      | panic c=>exact hq.elim
      | outgrown=>exact hq.elim
  · exact h.elim
end Go.Sx
set_option linter.unusedVariables false
set_option linter.unusedSimpArgs false
namespace Go.Sx
open Go.RowKit (Below)
/-! ## what stays -/
structure Fr (S:Nat->Prop) (w w':World):Prop where
  os:w'.os=w.os
  tape:w'.tape=w.tape
  output:w'.output=w.output
  size:w.heap.size<=w'.heap.size
  block:∀ k,k<w.heap.size->¬ S k->w'.heap[k]?=w.heap[k]?
def NoB:Nat->Prop:=fun _=>False
abbrev Ext (w w':World):Prop:=Fr NoB w w'
def ownB (A:Option Addr):Nat->Prop:=fun k=>∃ ad,A=some ad/\ad.block=k
theorem ownB_none (k:Nat) : ¬ ownB none k:=fun ⟨_,h,_⟩=>by cases h
theorem ownB_some (b o:Nat) (s:Option Nat) (k:Nat):ownB (some ⟨b,o,s⟩) k<->b=k:=⟨fun ⟨_,h,e⟩=>by cases h;exact e,fun h=>⟨_,rfl,h⟩⟩
theorem Fr.refl (S:Nat->Prop) (w:World):Fr S w w:=⟨rfl,rfl,rfl,Nat.le_refl _,fun _ _ _=>rfl⟩
theorem Fr.trans {S S' S'':Nat->Prop} {a b c:World} (h:Fr S a b) (h':Fr S' b c) (h1:∀ k,k<a.heap.size->S k->S'' k) (h2:∀ k,k<a.heap.size->S' k->S'' k):Fr S'' a c :=
  ⟨h'.os.trans h.os,h'.tape.trans h.tape,h'.output.trans h.output,Nat.le_trans h.size h'.size,fun k hk hn =>
    (h'.block k (Nat.lt_of_lt_of_le hk h.size) (fun hs=>hn (h2 k hk hs))).trans (h.block k hk (fun hs=>hn (h1 k hk hs)))⟩
theorem Fr.ext {S:Nat->Prop} {a b c:World} (h:Fr S a b) (h':Fr S b c):Fr S a c:=h.trans h' (fun _ _ h=>h) (fun _ _ h=>h)
theorem Fr.mono {S S':Nat->Prop} {a b:World} (h:Fr S a b) (h1:∀ k,k<a.heap.size->S k->S' k):Fr S' a b:=⟨h.os,h.tape,h.output,h.size,fun k hk hn=>h.block k hk (fun hs=>hn (h1 k hk hs))⟩
theorem Ext.fr {S:Nat->Prop} {a b:World} (h:Ext a b):Fr S a b:=h.mono (fun _ _ h=>h.elim)
theorem Fr.drew (S:Nat->Prop) (w:World):Fr S w w.drew:=⟨rfl,rfl,rfl,Nat.le_refl _,fun _ _ _=>rfl⟩
theorem Fr.alloc (S:Nat->Prop) (w:World) (o:Obj):Fr S w (w.alloc o) :=
  ⟨rfl,rfl,rfl,by simp [World.alloc,-World.alloc_eq],fun k hk _=>Go.RowKit.Below.heap_alloc w o k hk⟩
theorem Fr.cell {S:Nat->Prop} {w w':World} (h:Fr S w w') {a:Addr} (ha : ¬ S a.block) {v:Value} (hv:w.cell? a=some v):w'.cell? a=some v :=
  (World.cell?_of_block (h.block _ (World.block_lt_of_cell? w a hv) ha)).trans hv
theorem Fr.setCell {w:World} (S:Nat->Prop) {a:Addr} (v:Value) (ha:w.heap.size<=a.block\/S a.block):Fr S w (w.setCell a v):=by
  refine ⟨rfl,rfl,rfl,by simp [World.setCell],fun k hk hn=>?_⟩
  simp only [World.setCell,Array.getElem?_modify]
  rw [if_neg]
  rintro rfl
  rcases ha with h|h
  · omega
  · exact hn h
/-! ## addresses -/
theorem add_add (a:Addr) (i j:Nat):(a.add i).add j=a.add (i+j):=by
  unfold Addr.add
  by_cases hi:i=0
  · subst hi;simp
  · by_cases hj:j=0
    · subst hj;simp [hi]
    · have hij:i+j≠0:=by omega
      simp [hi,hj,hij,Nat.add_assoc]
theorem add_block (a:Addr) (i:Nat):(a.add i).block=a.block:=by unfold Addr.add;split<;>rfl
theorem add_zero' (a:Addr):a.add 0=a:=rfl
theorem add_new (b o i:Nat):(⟨b,o,none⟩:Addr).add i=⟨b,o+i,none⟩:=by unfold Addr.add;split<;>simp_all
/-! ## kinds of data -/
structure Step (Ω:Nat->Prop) (w:World) (Ω':Nat->Prop) (w':World):Prop where
  size:w.heap.size<=w'.heap.size
  block:∀ k,k<w.heap.size->¬ Ω k->w'.heap[k]?=w.heap[k]?
  sub:∀ k,k<w.heap.size->Ω' k->Ω k
theorem Step.refl (Ω:Nat->Prop) (w:World):Step Ω w Ω w:=⟨Nat.le_refl _,fun _ _ _=>rfl,fun _ _ h=>h⟩
theorem Fr.step {S Ω Ω':Nat->Prop} {w w':World} (h:Fr S w w') (h1:∀ k,k<w.heap.size->S k->Ω k) (h2:∀ k,k<w.heap.size->Ω' k->Ω k):Step Ω w Ω' w' :=
  ⟨h.size,fun k hk hn=>h.block k hk (fun hs=>hn (h1 k hk hs)),h2⟩
theorem Ext.step {w w':World} (h:Ext w w') (Ω:Nat->Prop):Step Ω w Ω w':=Fr.step h (fun _ _ h=>h.elim) (fun _ _ h=>h)
theorem Step.cell {Ω Ω':Nat->Prop} {w w':World} (h:Step Ω w Ω' w') {a:Addr} (ha : ¬ Ω a.block) {v:Value} (hv:w.cell? a=some v):w'.cell? a=some v :=
  (World.cell?_of_block (h.block _ (World.block_lt_of_cell? w a hv) ha)).trans hv
theorem Step.out {Ω Ω':Nat->Prop} {w w':World} (h:Step Ω w Ω' w') {k:Nat} (hk:k<w.heap.size) (hn : ¬ Ω k) : ¬ Ω' k:=fun h'=>hn (h.sub k hk h')
structure Kd (α:Type) where
  size:Nat
  rep:(Nat->Prop)->World->α->List Value->Prop
  len:∀ {Ω w a cs},rep Ω w a cs->cs.length=size
  keep:∀ {Ω w a cs Ω' w'},rep Ω w a cs->Step Ω w Ω' w'->rep Ω' w' a cs
def u8 (b:UInt8):Value:=.int .u8 (b.toNat:Int)
def Kd.u8:Kd UInt8:=⟨1,fun _ _ a cs=>cs=[Sx.u8 a],fun h=>by simp [h],fun h _=>h⟩
def Kd.int (k:IntKind):Kd Int:=⟨1,fun _ _ a cs=>cs=[.int k a],fun h=>by simp [h],fun h _=>h⟩
def Kd.str:Kd ByteArray:=⟨1,fun _ _ a cs=>cs=[.string a],fun h=>by simp [h],fun h _=>h⟩
def Kd.bool:Kd Bool:=⟨1,fun _ _ a cs=>cs=[.bool a],fun h=>by simp [h],fun h _=>h⟩
def Imm {α:Type} (K:Kd α) (Ω:Nat->Prop) (w:World) (A:Option Addr) (l:List α):Prop :=
  ∀ i a,l[i]?=some a->∃ ad,A=some ad/\¬ Ω ad.block/\∃ cs,K.rep Ω w a cs/\∀ j v,cs[j]?=some v->w.cell? (ad.add (i*K.size+j))=some v
theorem Imm.keep {α:Type} {K:Kd α} {Ω Ω':Nat->Prop} {w w':World} {A:Option Addr} {l:List α} (hz : 0<K.size) (h:Imm K Ω w A l) (st:Step Ω w Ω' w'):Imm K Ω' w' A l:=by
  intro i a ha
  obtain ⟨ad,hA,hn,cs,hr,hc⟩:=h i a ha
  have hlt:ad.block<w.heap.size:=by
    have h0 : 0<cs.length:=by rw [K.len hr];exact hz
    obtain ⟨v,hv⟩:∃ v,cs[0]?=some v:=⟨cs[0],by simp [h0]⟩
    have:=World.block_lt_of_cell? w _ (hc 0 v hv)
    rwa [add_block] at this
  exact ⟨ad,hA,st.out hlt hn,cs,K.keep hr st,fun j v hj=>st.cell (by rw [add_block];exact hn) (hc j v hj)⟩
theorem Imm.nil {α:Type} (K:Kd α) (Ω:Nat->Prop) (w:World) (A:Option Addr):Imm K Ω w A []:=fun i a h=>by simp at h
theorem Imm.cut {α:Type} {K:Kd α} {Ω:Nat->Prop} {w:World} {A:Option Addr} {l:List α} (h:Imm K Ω w A l) {lo hi m:Nat} (h1:hi<=m):Imm K Ω w (cutAt A m lo K.size) ((l.take hi).drop lo):=by
  intro i a ha
  rw [List.getElem?_drop,List.getElem?_take] at ha
  split at ha
  · rename_i hlt
    obtain ⟨ad,hA,hn,cs,hr,hc⟩:=h (lo+i) a ha
    have hne : ¬ m=lo:=by omega
    refine ⟨ad.add (lo*K.size),by simp [cutAt,hne,hA],by rw [add_block];exact hn,cs,hr,fun j v hj=>?_⟩
    rw [add_add,show lo*K.size+(i*K.size+j)=(lo+i)*K.size+j by rw [Nat.add_mul];omega]
    exact hc j v hj
  · cases ha
theorem Imm.get1 {α:Type} {K:Kd α} {Ω:Nat->Prop} {w:World} {A:Option Addr} {l:List α} (h:Imm K Ω w A l) {i:Nat} (hi:i<l.length) :
    ∃ ad,A=some ad/\∃ cs,K.rep Ω w l[i] cs/\∀ j v,cs[j]?=some v->w.cell? (ad.add (i*K.size+j))=some v:=by
  obtain ⟨ad,hA,_,cs,hr,hc⟩:=h i l[i] (by simp [hi])
  exact ⟨ad,hA,cs,hr,hc⟩
def Kd.slice {α:Type} (K:Kd α) (hz : 0<K.size):Kd (List α) :=
  ⟨1,fun Ω w l cs=>∃ A c,cs=[.slice A l.length c]/\l.length<=c/\Imm K Ω w A l,fun ⟨_,_,h,_⟩=>by simp [h],fun ⟨A,c,h,hc,hi⟩ st=>⟨A,c,h,hc,hi.keep hz st⟩⟩
abbrev KB:Kd UInt8:=Kd.u8
theorem KB_pos : 0<KB.size:=by decide
/-! ## bytes -/
theorem Imm.byte {Ω:Nat->Prop} {w:World} {A:Option Addr} {l:List UInt8} (h:Imm KB Ω w A l) {i:Nat} (hi:i<l.length) :
    ∃ ad,A=some ad/\w.cell? (ad.add (i*1))=some (.int .u8 (l[i].toNat:Int)):=by
  obtain ⟨ad,hA,cs,hr,hc⟩:=h.get1 hi
  cases hr
  exact ⟨ad,hA,hc 0 _ rfl⟩
/-! ## owned memory -/
def Own (w:World) (sz:Nat) (A:Option Addr) (n c:Nat) (xs:List Value):Prop :=
  xs.length=n*sz/\c<=maxLen/\((A=none/\n=0/\c=0) \/
   ∃ g cur e lo hi,A=some ⟨g,0,none⟩/\w.heap[g]?=some (.cells cur e (lo,hi))/\n<=c/\cur.size=c*sz/\cur.toList.take (n*sz)=xs/\(cur.size<=lo\/hi<=lo))
theorem Own.nil (w:World) (sz:Nat):Own w sz none 0 0 []:=⟨by simp,by simp [maxLen],.inl ⟨rfl,rfl,rfl⟩⟩
theorem Own.lt {w:World} {sz:Nat} {A:Option Addr} {n c:Nat} {xs:List Value} (h:Own w sz A n c xs):∀ k,ownB A k->k<w.heap.size:=by
  rintro k ⟨ad,rfl,rfl⟩
  rcases h.2.2 with ⟨h,_⟩|⟨g,cur,e,lo,hi,h,hg,_⟩
  · cases h
  · cases h;exact (Array.getElem?_eq_some_iff.1 hg).1
theorem Own.le {w:World} {sz:Nat} {A:Option Addr} {n c:Nat} {xs:List Value} (h:Own w sz A n c xs):n<=c:=by
  rcases h.2.2 with ⟨_,h1,h2⟩|⟨_,_,_,_,_,_,_,h,_⟩
  · omega
  · exact h
theorem Own.len {w:World} {sz:Nat} {A:Option Addr} {n c:Nat} {xs:List Value} (h:Own w sz A n c xs):xs.length=n*sz:=h.1
theorem Own.cells {w:World} {sz:Nat} {A:Option Addr} {n c:Nat} {xs:List Value} (h:Own w sz A n c xs) {j:Nat} {v:Value} (hj:xs[j]?=some v):∃ g,A=some ⟨g,0,none⟩/\w.cell? ⟨g,j,none⟩=some v:=by
  rcases h.2.2 with ⟨_,h1,_⟩|⟨g,cur,e,lo,hi,hA,hg,_,_,ht,_⟩
  · have:=h.1;rw [h1,Nat.zero_mul] at this;rw [List.eq_nil_of_length_eq_zero this] at hj;simp at hj
  · refine ⟨g,hA,?_⟩
    rw [<- ht,List.getElem?_take] at hj
    split at hj
    · rw [cell_of_row w g j cur e _ hg];simpa using hj
    · cases hj
theorem Own.keep {w w':World} {S:Nat->Prop} {sz:Nat} {A:Option Addr} {n c:Nat} {xs:List Value} (h:Own w sz A n c xs) (hf:Fr S w w') (hn:∀ k,ownB A k->¬ S k):Own w' sz A n c xs:=by
  refine ⟨h.1,h.2.1,?_⟩
  rcases h.2.2 with hn'|⟨g,cur,e,lo,hi,hA,hg,rest⟩
  · exact .inl hn'
  · refine .inr ⟨g,cur,e,lo,hi,hA,?_,rest⟩
    subst hA
    rw [hf.block g (Array.getElem?_eq_some_iff.1 hg).1 (hn g ⟨_,rfl,rfl⟩)]
    exact hg
theorem Own.take {w:World} {sz:Nat} {A:Option Addr} {n c:Nat} {xs:List Value} (h:Own w sz A n c xs) {k:Nat} (hk:k<=n):Own w sz A k c (xs.take (k*sz)):=by
  refine ⟨by rw [List.length_take,h.1];exact Nat.min_eq_left (Nat.mul_le_mul_right _ hk),h.2.1,?_⟩
  rcases h.2.2 with ⟨h1,h2,h3⟩|⟨g,cur,e,lo,hi,hA,hg,hc,hs,ht,hf⟩
  · exact .inl ⟨h1,by omega,h3⟩
  · refine .inr ⟨g,cur,e,lo,hi,hA,hg,by omega,hs,?_,hf⟩
    rw [<- ht,List.take_take,Nat.min_eq_left (Nat.mul_le_mul_right _ hk)]
theorem Own.imm {α:Type} {K:Kd α} (hz0 : 0<K.size) {Ω:Nat->Prop} {w:World} {A:Option Addr} {n c:Nat} {xs:List Value} (h:Own w K.size A n c xs) (hΩ:∀ k,ownB A k->¬ Ω k) {l:List α}
    (hl:∀ i a,l[i]?=some a->K.rep Ω w a ((xs.drop (i*K.size)).take K.size)):Imm K Ω w A l:=by
  intro i a ha
  have hr:=hl i a ha
  rcases h.2.2 with ⟨hA,h1,_⟩|⟨g,cur,e,lo,hi,hA,hg,_,_,ht,_⟩
  · -- no cells: only where the elements have no size
    have h0:=h.1
    rw [h1,Nat.zero_mul] at h0
    have hx:=List.eq_nil_of_length_eq_zero h0
    have hz:=K.len hr
    rw [hx] at hz
    simp at hz
    omega
  · refine ⟨_,hA,hΩ g ⟨_,hA,rfl⟩,_,hr,fun j v hj=>?_⟩
    rw [List.getElem?_take] at hj
    split at hj
    · rw [List.getElem?_drop] at hj
      obtain ⟨g',hA',hc⟩:=h.cells hj
      rw [hA] at hA'
      cases hA'
      rw [add_new,Nat.zero_add]
      exact hc
    · cases hj
end Go.Sx
