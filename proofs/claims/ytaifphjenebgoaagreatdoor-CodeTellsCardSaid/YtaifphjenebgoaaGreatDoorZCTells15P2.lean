/- Part 2 of the texts of this claim: the engine, contracts, plain laws. -/
import Derived.Test.YtaifphjenebgoaaGreatDoorZCTells15P1
import Derived.MapKept
import Derived.Sort.Grow
import Derived.Lib.SlicesCompact
import Derived.WalkKit
import Derived.ProofKit
import Derived.OpenShut
import Derived.Carry
import Derived.Deep.Slices
import Derived.ChangeMaps5
set_option linter.unusedVariables false
set_option linter.unusedSimpArgs false
namespace Go.Sx
section
variable {P:Program}
structure SlT (P:Program) (t e sz by_:Nat) (z:List Value):Prop where
  ht:und P t=some (.slice e)
  hi:∃ i,inf P e=some i/\i.size=sz/\i.bytes=by_/\∃ zv,i.zero=some zv/\cellsL zv=z
  hz:z.length=sz
  pos : 0<sz
theorem not_frozen {w:World} {g j lo hi:Nat} {cur:Array Value} {e:TypeId} (hg:w.heap[g]?=some (.cells cur e (lo,hi))) (hj:j<cur.size) (hf:cur.size<=lo\/hi<=lo):w.frozen? ⟨g,j,none⟩=false:=by
  simp only [World.frozen?,hg]
  rcases hf with h|h
  · simp;omega
  · simp;omega
theorem run_storeCells_own (g o:Nat) (e:TypeId) (lo hi:Nat):∀ (vs:List Value) (i:Nat) (cur:Array Value) (w:World),w.heap[g]?=some (.cells cur e (lo,hi))->(cur.size<=lo\/hi<=lo)->o+i+vs.length<=cur.size->(∀ v∈vs,v.oneCell'=true) ->
    (storeCells ⟨g,o,none⟩ vs i).run P w=.ok () (w.setRow g (cur.toList.take (o+i)++vs++cur.toList.drop (o+i+vs.length)).toArray)
  | [],i,cur,w,hg,_,_,_=>by
    simp only [storeCells,List.append_nil,List.length_nil,Nat.add_zero,List.take_append_drop,Array.toArray_toList]
    rw [setRow_self w g cur e (lo,hi) hg]
    rfl
  | v::rest,i,cur,w,hg,hf,hl,h1=>by
    have hi':o+i<cur.size:=by simp at hl;omega
    have hcell:w.cell? ⟨g,o+i,none⟩=some cur[o+i]:=by simp [World.cell?,hg,hi']
    have hfro:=not_frozen hg hi' hf
    have hst:(store ((⟨g,o,none⟩:Addr).add i) v).run P w=.ok () (w.setRow g (cur.setIfInBounds (o+i) v)):=by
      rw [add_new,run_store P w _ v _ (h1 v (by simp)),hcell]
      simp [hfro,setCell_eq_setRow w g (o+i) cur e (lo,hi) v hg]
    have ih:=run_storeCells_own g o e lo hi rest (i+1) (cur.setIfInBounds (o+i) v) (w.setRow g (cur.setIfInBounds (o+i) v)) (setRow_heap w g cur _ e _ hg) (by simpa using hf) (by simp at hl ⊢;omega) (fun x hx=>h1 x (by simp [hx]))
    simp only [storeCells,Sem.run_bind,hst,Result.andThen_ok,ih,setRow_setRow]
    congr 3
    have e:=list_seg_step cur.toList (o+i) v rest (by simp at hl ⊢;omega)
    simpa [Array.toList_setIfInBounds,Nat.add_assoc] using e
def Src (P:Program) (w:World) (sz:Nat) (x:Value) (m:Nat) (ys:List Value):Prop :=
  (∀ w':World,w'.heap=w.heap->(Builtin.firstCells sz m x).run P w'=.ok ys.toArray w')/\(∀ w',(Builtin.lenOf x).run P w'=.ok m w')/\ys.length=m*sz/\∀ v∈ys,v.oneCell'=true
theorem Src.cells {w:World} {sz m c:Nat} {B:Option Addr} {ys:List Value} (hl:ys.length=m*sz) (h:∀ j v,ys[j]?=some v->∃ ad,B=some ad/\w.cell? (ad.add j)=some v) (h1:∀ v∈ys,v.oneCell'=true):Src P w sz (.slice B m c) m ys:=by
  refine ⟨fun w' hw=>?_,fun w'=>rfl,hl,h1⟩
  have hc:∀ a:Addr,w'.cell? a=w.cell? a:=fun a=>by simp [World.cell?,hw]
  cases B with
  | none =>
    have:ys=[]:=by
      cases ys with
      | nil=>rfl
      | cons v vs=>obtain ⟨ad,h,_⟩:=h 0 v rfl;cases h
    subst this
    simp [Builtin.firstCells]
  | some ad =>
    exact run_firstCells_some (P:=P) w' sz m ad m c ys hl (fun j v hj=>by obtain ⟨ad',hA,hv⟩:=h j v hj;cases hA;rw [hc];exact hv)
theorem Src.str {w:World} (s:ByteArray):Src P w 1 (.string s) s.size (Lib.strCells s) :=
  ⟨fun w' _=>Lib.run_firstCells_string (P:=P) w' 1 s,fun _=>rfl,by rw [Lib.strCells_length,Nat.mul_one],Lib.strCells_oneCell s⟩
theorem Src.own {w:World} {sz:Nat} {A:Option Addr} {n c:Nat} {xs:List Value} (h:Own w sz A n c xs) (h1:∀ v∈xs,v.oneCell'=true):Src P w sz (.slice A n c) n xs :=
  .cells h.1 (fun j v hj=>by obtain ⟨g,hA,hc⟩:=h.cells hj;exact ⟨_,hA,by rw [add_new,Nat.zero_add];exact hc⟩) h1
theorem alloc_cell (w:World) (cs:Array Value) (e:TypeId) (fr:Nat×Nat) (j:Nat):(w.alloc (.cells cs e fr)).cell? ⟨w.heap.size,j,none⟩=cs[j]?:=by
  simp [World.cell?,World.alloc,-World.alloc_eq]
theorem Src.new {w:World} {sz m c:Nat} {cs:List Value} (e:TypeId) (hl:cs.length=m*sz) (h1:∀ v∈cs,v.oneCell'=true):Src P (w.alloc (.cells cs.toArray e)) sz (.slice (some ⟨w.heap.size,0,none⟩) m c) m cs :=
  .cells hl (fun j v hj=>⟨_,rfl,by rw [add_new,Nat.zero_add,alloc_cell];simpa using hj⟩) h1
theorem Src.imm {α:Type} {K:Kd α} {Ω:Nat->Prop} {w:World} {A:Option Addr} {l:List α} {c:Nat} (h:Imm K Ω w A l) {ys:List Value} (hl:ys.length=l.length*K.size)
    (hys:∀ i a cs,l[i]?=some a->K.rep Ω w a cs->(∀ ad,A=some ad->∀ j v,cs[j]?=some v->w.cell? (ad.add (i*K.size+j))=some v)->∀ j v,cs[j]?=some v->ys[i*K.size+j]?=some v) (h1:∀ v∈ys,v.oneCell'=true):Src P w K.size (.slice A l.length c) l.length ys:=by
  refine .cells hl (fun j v hj=>?_) h1
  have hlt:j<l.length*K.size:=by rw [<- hl];exact (List.getElem?_eq_some_iff.1 hj).1
  have hz : 0<K.size:=by
    rcases Nat.eq_zero_or_pos K.size with h|h
    · rw [h] at hlt;simp at hlt
    · exact h
  have hi:j / K.size<l.length:=Nat.div_lt_of_lt_mul (by rwa [Nat.mul_comm] at hlt)
  obtain ⟨ad,hA,_,cs,hr,hc⟩:=h (j / K.size) l[j / K.size] (by simp [hi])
  have hm:j % K.size<cs.length:=by rw [K.len hr];exact Nat.mod_lt _ hz
  have hdm:j / K.size*K.size+j % K.size=j:=by rw [Nat.mul_comm];exact Nat.div_add_mod j K.size
  have e1:=hys (j / K.size) l[j / K.size] cs (by simp [hi]) hr (fun ad' hA' j v hj=>by rw [hA] at hA';cases hA';exact hc j v hj) (j % K.size) cs[j % K.size] (by simp [hm])
  have e2:=hc (j % K.size) cs[j % K.size] (by simp [hm])
  rw [hdm] at e1 e2
  rw [hj] at e1
  cases e1
  exact ⟨ad,hA,e2⟩
theorem u8_cells_one (l:List UInt8):∀ v∈l.map u8,v.oneCell'=true:=by intro v hv;obtain ⟨b,_,rfl⟩:=List.mem_map.1 hv;rfl
theorem Src.bytes {Ω:Nat->Prop} {w:World} {A:Option Addr} {l:List UInt8} {c:Nat} (h:Imm KB Ω w A l):Src P w 1 (.slice A l.length c) l.length (l.map u8) :=
  .cells (by simp) (fun j v hj=>by
    rw [List.getElem?_map] at hj
    cases hl:l[j]? with
    | none=>simp [hl] at hj
    | some b =>
      simp [hl] at hj;subst hj
      obtain ⟨ad,hA,_,cs,hr,hc⟩:=h j b hl
      cases hr
      exact ⟨ad,hA,by have h2:=hc 0 _ rfl;rw [show j*KB.size+0=j from Nat.mul_one j] at h2;exact h2⟩) (u8_cells_one l)
theorem append_own {t e sz by_:Nat} {z:List Value} (T:SlT P t e sz by_ z) {t2 ty:TypeId} (ht2:∃ d,und P t2=some d/\∀ k,d≠.int k) {w:World} {A:Option Addr} {n c:Nat} {xs:List Value} (h:Own w sz A n c xs)
    {x:Value} {m:Nat} {ys:List Value} (hx:Src P w sz x m ys) (h1:n+m<=maxLen) (h2:(n+m)*by_<=140737488355328) :
    ∃ A' c' w',RunsTo P (Builtin.append_ #[t,t2] ty #[.slice A n c,x]) w (.slice A' (n+m) c') w'/\Own w' sz A' (n+m) c' (xs++ys)/\Fr (ownB A) w w' /\
      (∀ k,ownB A' k->ownB A k\/w.heap.size<=k)/\(m=0->A'=A):=by
  obtain ⟨i,hi,hsz,hby,zv,hzv,hzl⟩:=T.hi
  subst hsz;subst hby
  obtain ⟨d2,hd2,hnint⟩:=ht2
  obtain ⟨hfc,hlen,hyl,hy1⟩:=hx
  have hzz:(match d2 with | .int _=>true|_=>false)=false:=by cases d2<;>first|rfl|exact absurd rfl (hnint _)
  have hpos:=T.pos
  have hzsz:z.length=i.size:=T.hz
  have hl63 : ¬ (((n+m:Nat):Int) > IntKind.i64.max):=by simp [maxLen] at h1;simp [IntKind.max,IntKind.signed,IntKind.bits];omega
  -- the arm that grows
  have grow:c<n+m->(Builtin.firstCells i.size n (.slice A n c)).run P w.drew=.ok xs.toArray w.drew ->
      (Builtin.append_ #[t,t2] ty #[.slice A n c,x]).run P w=.ok (.slice (some ⟨w.heap.size,0,none⟩) (n+m) (grownCap w (n+m) c e))
        (w.drew.alloc (.cells (xs.toArray++ys.toArray++Builtin.zeroCells z.toArray (grownCap w (n+m) c e-(n+m))) e)):=by
    intro hc hold
    have hcap : ¬ (n+m<=c):=by omega
    have h48 : ¬ (Builtin.nextslicecap (n+m) c*i.bytes > 2 ^ 48):=by
      have:=growslice_fits hc h2
      omega
    have hfd:=hfc w.drew rfl
    have hzc:zv.cells=z.toArray:=by rw [<- hzl,cellsL_eq,Array.toArray_toList]
    simp only [Builtin.append_,List.getElem?_toArray,List.getElem?_cons_zero,List.getElem?_cons_succ,Sem.run_bind,run_und T.ht,Result.andThen_ok,run_size hi,run_und hd2,Sem.run_pure,hzz,Bool.false_eq_true,if_false,hlen,if_neg hcap,run_inf hi,hl63,false_and,if_neg h48,run_choose,Question.forced,World.drew_eq,run_askRoom,hold,hfd,zeroValue,hzv,hzc,newRow,run_newObj,Bool.not_false,if_true]
    rfl
  have grown:∀ old,c<n+m->Own (w.drew.alloc (.cells (xs.toArray++ys.toArray++Builtin.zeroCells z.toArray (grownCap w (n+m) old e-(n+m))) e)) i.size (some ⟨w.heap.size,0,none⟩) (n+m) (grownCap w (n+m) old e) (xs++ys):=by
    intro old hc
    have hge:=grownCap_ge w (n+m) old e
    refine ⟨by rw [List.length_append,h.1,hyl,Nat.add_mul],grownCap_le_maxLen w (n+m) old e h1,.inr ⟨w.heap.size,_,e,0,0,rfl,Go.heap_alloc_new w.drew _,hge,?_,?_,.inr (Nat.le_refl _)⟩⟩
    · simp only [Array.size_append,List.size_toArray,size_zeroCells,hzsz,h.1,hyl,<- Nat.add_mul]
      congr 1;omega
    · simp only [Array.toList_append,List.append_assoc]
      rw [<- List.append_assoc,show (n+m)*i.size=(xs++ys).length by rw [List.length_append,h.1,hyl,Nat.add_mul]]
      exact List.take_left
  have fresh:∀ o,Fr (ownB A) w (w.drew.alloc o):=fun o=>(Fr.drew _ w).ext (Fr.alloc _ _ o)
  rcases h.2.2 with ⟨rfl,rfl,rfl⟩|⟨g,cur,e',lo,hi',rfl,hg,hnc,hcs,htake,hfz⟩
  · have hx0:xs=[]:=List.eq_nil_of_length_eq_zero (by simpa using h.1)
    subst hx0
    by_cases hm:m=0
    · subst hm
      have hy0:ys=[]:=List.eq_nil_of_length_eq_zero (by simpa using hyl)
      subst hy0
      refine ⟨none,0,w,?_,Own.nil w _,.refl _ _,fun k hk=>(ownB_none k hk).elim,fun _=>rfl⟩
      have hfd:=hfc w rfl
      simp only [RunsTo,Builtin.append_,List.getElem?_toArray,List.getElem?_cons_zero,List.getElem?_cons_succ,Sem.run_bind,run_und T.ht,Result.andThen_ok,run_size hi,run_und hd2,Sem.run_pure,hzz,Bool.false_eq_true,if_false,hlen,Nat.add_zero,Nat.le_refl,if_true,Bool.not_false,hfd]
    · exact ⟨_,_,_,grow (by omega) (by simp [Builtin.firstCells]),grown 0 (by omega),fresh _,fun k hk=>.inr (by rw [ownB_some] at hk;omega),fun h=>absurd h hm⟩
  · by_cases hroom:n+m<=c
    · have hfit:n*i.size+ys.length<=cur.size:=by rw [hyl,hcs,<- Nat.add_mul];exact Nat.mul_le_mul_right _ hroom
      have hst:=run_storeCells_own (P:=P) g (n*i.size) e' lo hi' ys 0 cur w hg hfz (by simpa using hfit) hy1
      simp only [Nat.add_zero] at hst
      have hfd:=hfc w rfl
      refine ⟨some ⟨g,0,none⟩,c,w.setRow g (cur.toList.take (n*i.size)++ys++cur.toList.drop (n*i.size+ys.length)).toArray,?_,⟨by rw [List.length_append,h.1,hyl,Nat.add_mul],h.2.1,.inr ⟨g,_,e',lo,hi',rfl,setRow_heap w g cur _ e' _ hg,hroom,?_,?_,?_⟩⟩,
        ⟨rfl,rfl,rfl,by simp,fun k _ hk=>setRow_other w g k _ (fun e=>hk (by rw [ownB_some];exact e.symm))⟩,fun k hk=>.inl hk,fun _=>rfl⟩
      · simp only [RunsTo,Builtin.append_,List.getElem?_toArray,List.getElem?_cons_zero,List.getElem?_cons_succ,Sem.run_bind,run_und T.ht,Result.andThen_ok,run_size hi,run_und hd2,Sem.run_pure,hzz,Bool.false_eq_true,if_false,hlen,if_pos hroom,Bool.not_false,if_true,hfd,add_new,Nat.zero_add,hst]
      · simp only [List.size_toArray,List.length_append,List.length_take,List.length_drop,Array.length_toList]
        omega
      · rw [htake]
        rw [show (n+m)*i.size=(xs++ys).length by rw [List.length_append,h.1,hyl,Nat.add_mul]]
        exact List.take_left
      · simp only [List.size_toArray,List.length_append,List.length_take,List.length_drop,Array.length_toList]
        omega
    · have hold:(Builtin.firstCells i.size n (.slice (some ⟨g,0,none⟩) n c)).run P w.drew=.ok xs.toArray w.drew :=
        run_firstCells_some (P:=P) w.drew i.size n _ n c xs h.1 (fun j v hj=>by
          obtain ⟨g',hA,hc⟩:=h.cells hj
          cases hA
          rw [add_new,Nat.zero_add]
          exact hc)
      have hm:m≠0:=by omega
      exact ⟨_,_,_,grow (by omega) hold,grown c (by omega),fresh _,fun k hk=>.inr (by rw [ownB_some] at hk;omega),fun h=>absurd h hm⟩
theorem append_one {t e sz by_:Nat} {z:List Value} (T:SlT P t e sz by_ z) {ty:TypeId} {w:World} {A:Option Addr} {n c:Nat} {xs:List Value} (h:Own w sz A n c xs)
    {cs:List Value} (hl:cs.length=sz) (hc1:∀ v∈cs,v.oneCell'=true) {e':TypeId} (h1:n+1<=maxLen) (h2:(n+1)*by_<=140737488355328) :
    ∃ A' c' w',RunsTo P (Builtin.append_ #[t,t] ty #[.slice A n c,.slice (some ⟨w.heap.size,0,none⟩) 1 1]) (w.alloc (.cells cs.toArray e')) (.slice A' (n+1) c') w'/\Own w' sz A' (n+1) c' (xs++cs)/\Fr (ownB A) w w' /\
      (∀ k,ownB A' k->ownB A k\/w.heap.size<=k)/\A'≠none:=by
  have ho:Own (w.alloc (.cells cs.toArray e')) sz A n c xs:=h.keep (Fr.alloc NoB w _) (fun _ _ h=>h)
  obtain ⟨A',c',w',hr,ho',hf,hb,_⟩:=append_own T (ty:=ty) (t2:=t) ⟨_,T.ht,fun _ h=>by cases h⟩ ho (Src.new (P:=P) (m:=1) (c:=1) e' (by simpa using hl) hc1) h1 h2
  refine ⟨A',c',w',hr,ho',(Fr.alloc _ w _).ext hf,fun k hk=>?_,?_⟩
  · rcases hb k hk with h|h
    · exact .inl h
    · right;simp [World.alloc,-World.alloc_eq] at h;omega
  · rintro rfl
    rcases ho'.2.2 with ⟨_,h,_⟩|⟨_,_,_,_,_,h,_⟩
    · omega
    · cases h
end
end Go.Sx
set_option linter.unusedVariables false
set_option linter.unusedSimpArgs false
namespace Go.Sx
theorem br {b:Bool} {A B:Prop} (h1:b=true->A) (h2:b=false->B):cond b A B:=by cases b with|true=>exact h1 rfl|false=>exact h2 rfl
theorem brd {p:Prop} [Decidable p] {A B:Prop} (h1:p->A) (h2 : ¬ p->B):cond (decide p) A B:=br (fun h=>h1 (of_decide_eq_true h)) (fun h=>h2 (of_decide_eq_false h))
theorem brn {p:Prop} [Decidable p] {A B:Prop} (h1 : ¬ p->A) (h2:p->B):cond (!decide p) A B:=by
  by_cases h:p<;>simp only [h,decide_true,decide_false,Bool.not_true,Bool.not_false,cond_true,cond_false]
  · exact h2 h
  · exact h1 h
theorem wi (x:Int) (h1 : -9223372036854775808<=x) (h2:x<=9223372036854775807):IntKind.i64.wrap x=x:=by rw [IntKind.wrap_i64];omega
theorem w8 (x:Int) (h1 : 0<=x) (h2:x<256):IntKind.u8.wrap x=x:=by rw [IntKind.wrap_u8];omega
theorem wu (x:Int) (h1 : 0<=x) (h2:x<18446744073709551616):IntKind.u64.wrap x=x:=by
  have e:IntKind.u64.wrap x=x % 18446744073709551616:=by simp [IntKind.wrap,IntKind.signed,IntKind.bits]
  rw [e];omega
theorem wu_mod (x:Int):IntKind.u64.wrap x=x % 18446744073709551616:=by simp [IntKind.wrap,IntKind.signed,IntKind.bits]
theorem CallsV.same {P:Program} {f:FuncId} {args:Array Value} {w:World} {u:Value} {K:Value->World->Prop} (h:CallsV P f args w fun v w'=>v=u/\w'=w) (hk:K u w):CallsV P f args w K :=
  h.mono fun v w' ⟨h1,h2⟩=>by subst h1;subst h2;exact hk
structure Grew (A A':Option Addr) (w w':World):Prop where
  fr:Fr (ownB A) w w'
  sub:∀ k,ownB A' k->ownB A k\/w.heap.size<=k
theorem Grew.refl (A:Option Addr) (w:World):Grew A A w w:=⟨.refl _ _,fun _ h=>.inl h⟩
theorem Grew.trans {A B C:Option Addr} {a b c:World} (h:Grew A B a b) (h':Grew B C b c):Grew A C a c :=
  ⟨h.fr.trans h'.fr (fun _ _ h=>h) (fun k hk hb=>(h.sub k hb).elim id (fun h=>absurd hk (by omega))),fun k hk=>(h'.sub k hk).elim (fun h1=>h.sub k h1) (fun h1=>.inr (Nat.le_trans h.fr.size h1))⟩
def OwnB (w:World) (A:Option Addr) (c:Nat) (l:List UInt8):Prop:=Own w 1 A l.length c (l.map u8)
theorem OwnB.nil (w:World):OwnB w none 0 []:=Own.nil w 1
theorem OwnB.keep {w w':World} {S:Nat->Prop} {A:Option Addr} {c:Nat} {l:List UInt8} (h:OwnB w A c l) (hf:Fr S w w') (hn:∀ k,ownB A k->¬ S k):OwnB w' A c l:=Own.keep h hf hn
theorem OwnB.imm {w:World} {A:Option Addr} {c:Nat} {l:List UInt8} (h:OwnB w A c l) {Ω:Nat->Prop} (hΩ:∀ k,ownB A k->¬ Ω k):Imm KB Ω w A l :=
  Own.imm (K:=KB) KB_pos h hΩ fun i a ha=>by
    show ((l.map u8).drop (i*1)).take 1=[u8 a]
    have hlt:i<l.length:=(List.getElem?_eq_some_iff.1 ha).1
    have e:l[i]=a:=(List.getElem?_eq_some_iff.1 ha).2
    rw [Nat.mul_one,List.drop_eq_getElem_cons (by simpa using hlt)]
    simp [e]
theorem u8_toNat (b:UInt8):u8 b=.int .u8 (b.toNat:Int):=rfl
theorem toUInt8_int {n:Nat} (h:n<256):Value.int .u8 (n:Int)=u8 n.toUInt8:=by
  rw [u8_toNat];congr 2;simp [Nat.toUInt8];omega
end Go.Sx
set_option linter.unusedVariables false
set_option linter.unusedSimpArgs false
namespace Go.Sx
section
variable {P:Program}
structure BT (P:Program) (t e s:TypeId):Prop where
  ht:und P t=some (.slice e)
  he:und P e=some (.int .u8)
  hs:und P s=some .string
def sb (s:ByteArray):List UInt8:=s.data.toList
theorem sb_length (s:ByteArray):(sb s).length=s.size:=Array.length_toList
def New (w:World) (A:Option Addr):Prop:=∀ k,ownB A k->w.heap.size<=k
theorem New.none (w:World):New w Option.none:=fun k h=>(ownB_none k h).elim
theorem New.self (w:World) (i:Nat) (s:Option Nat):New w (some ⟨w.heap.size,i,s⟩):=fun k h=>by rw [ownB_some] at h;omega
theorem New.ext {w w':World} {A:Option Addr} {S:Nat->Prop} (h:New w' A) (hf:Fr S w w'):New w A:=fun k hk=>Nat.le_trans hf.size (h k hk)
theorem Grew.ext {A A':Option Addr} {w w1 w2:World} (g:Grew A A' w1 w2) (h:Ext w w1) (hn:New w A):Ext w w2 :=
  h.trans g.fr (fun _ _ h=>h) (fun k hk ho=>absurd hk (Nat.not_lt.2 (hn k ho)))
theorem Grew.new {A A':Option Addr} {w w1 w2:World} (g:Grew A A' w1 w2) (h:Ext w w1) (hn:New w A):New w A' :=
  fun k hk=>(g.sub k hk).elim (hn k) (fun h'=>Nat.le_trans h.size h')
theorem Ext.step' {w w':World} (e:Ext w w') {Ω:Nat->Prop} (h:∀ k,k<w.heap.size->¬ Ω k):Step NoB w Ω w':=Fr.step e (fun _ _ h=>h) (fun k hk ho=>(h k hk ho).elim)
theorem Ext.trans' {a b c:World} (h:Ext a b) (h':Ext b c):Ext a c:=Fr.ext h h'
theorem Imm.ext {α:Type} {K:Kd α} {Ω:Nat->Prop} {w w':World} {A:Option Addr} {l:List α} (h:Imm K Ω w A l) (hz : 0<K.size) (e:Ext w w'):Imm K Ω w' A l:=h.keep hz (e.step Ω)
theorem Imm.grew {α:Type} {K:Kd α} {w w':World} {A B B':Option Addr} {l:List α} (h:Imm K (ownB B) w A l) (hz : 0<K.size) (g:Grew B B' w w'):Imm K (ownB B') w' A l :=
  h.keep hz (g.fr.step (fun _ _ h=>h) (fun k hk h=>(g.sub k h).elim id (fun h'=>absurd hk (Nat.not_lt.2 h'))))
theorem Imm.sub {α:Type} {K:Kd α} {Ω Ω':Nat->Prop} {w:World} {A:Option Addr} {l:List α} (h:Imm K Ω w A l) (hz : 0<K.size) (hs:∀ k,k<w.heap.size->Ω' k->Ω k):Imm K Ω' w A l :=
  h.keep hz ⟨Nat.le_refl _,fun _ _ _=>rfl,hs⟩
theorem Imm.new {α:Type} {K:Kd α} {Ω:Nat->Prop} {w:World} {A B:Option Addr} {l:List α} (h:Imm K Ω w A l) (hz : 0<K.size) (hn:New w B):Imm K (ownB B) w A l :=
  h.sub hz fun k hk ho=>absurd hk (Nat.not_lt.2 (hn k ho))
theorem OwnB.ext {w w':World} {A:Option Addr} {c:Nat} {l:List UInt8} (h:OwnB w A c l) (e:Ext w w'):OwnB w' A c l:=h.keep e fun _ _ h=>h
theorem OwnB.imm0 {w:World} {A:Option Addr} {c:Nat} {l:List UInt8} (h:OwnB w A c l):Imm KB NoB w A l:=h.imm fun _ _ h=>h
theorem OwnB.le {w:World} {A:Option Addr} {c:Nat} {l:List UInt8} (h:OwnB w A c l):l.length<=c:=Own.le h
theorem own_block {w:World} {g:Nat} {cs:List Value} {e:TypeId} {fr:Nat×Nat} (h:w.heap[g]?=some (.cells cs.toArray e fr)) {sz n:Nat} (hl:cs.length=n*sz) (hn:n<=maxLen) (hf:cs.length<=fr.1\/fr.2<=fr.1) :
    Own w sz (some ⟨g,0,none⟩) n n cs :=
  ⟨hl,hn,.inr ⟨g,cs.toArray,e,fr.1,fr.2,rfl,h,Nat.le_refl _,by simpa using hl,by rw [<- hl];simp,by simpa using hf⟩⟩
theorem own_lit {w:World} {cs:List Value} {e:TypeId} {sz n:Nat} (hl:cs.length=n*sz) (hn:n<=maxLen):Own (w.alloc (.cells cs.toArray e)) sz (some ⟨w.heap.size,0,none⟩) n n cs :=
  own_block (Go.heap_alloc_new w _) hl hn (.inr (Nat.le_refl _))
theorem ownB_lit {w:World} {l:List UInt8} {e:TypeId} (hn:l.length<=maxLen):OwnB (w.alloc (.cells (l.map u8).toArray e)) (some ⟨w.heap.size,0,none⟩) l.length l :=
  own_lit (by simp) hn
theorem freeze_heap (w:World) (g n m:Nat) (cs:Array Value) (e:TypeId) (h:w.heap[g]?=some (.cells cs e (0,0))) (hm:m≠0):(w.freeze ⟨g,n,none⟩ m).heap[g]?=some (.cells cs e (n,n+m)):=by
  simp [World.freeze,hm,Array.getElem?_modify,h]
theorem freeze_other (w:World) (g n m k:Nat) (h:k≠g):(w.freeze ⟨g,n,none⟩ m).heap[k]?=w.heap[k]?:=by
  unfold World.freeze
  split
  · rfl
  · simp only [Array.getElem?_modify];rw [if_neg (fun e=>h e.symm)]
theorem freeze_size (w:World) (a:Addr) (m:Nat):(w.freeze a m).heap.size=w.heap.size:=by unfold World.freeze;split<;>simp
theorem freeze_os (w:World) (a:Addr) (m:Nat):(w.freeze a m).os=w.os:=by unfold World.freeze;split<;>rfl
theorem freeze_tape (w:World) (a:Addr) (m:Nat):(w.freeze a m).tape=w.tape:=by unfold World.freeze;split<;>rfl
theorem freeze_output (w:World) (a:Addr) (m:Nat):(w.freeze a m).output=w.output:=by unfold World.freeze;split<;>rfl
theorem freeze_new_fr (S:Nat->Prop) (w u:World) (hu:Fr S w u) (n m:Nat):Fr S w (u.freeze ⟨w.heap.size,n,none⟩ m) :=
  ⟨(freeze_os _ _ _).trans hu.os,(freeze_tape _ _ _).trans hu.tape,(freeze_output _ _ _).trans hu.output,by rw [freeze_size];exact hu.size,fun k hk hn=>(freeze_other _ _ _ _ _ (by omega)).trans (hu.block k hk hn)⟩
theorem to_bytes {t e s:TypeId} (T:BT P t e s) (w:World) (x:ByteArray) (hx:x.size<=maxLen) :
    ∃ A c w',RunsTo P (convert s t (.string x)) w (.slice A (sb x).length c) w'/\OwnB w' A c (sb x)/\Ext w w'/\New w A/\A≠none:=by
  refine ⟨_,_,_,by rw [sb_length];exact Lib.run_convert_string_bytes w s t e x (und_underlying T.hs) (und_underlying T.ht) (und_underlying T.he),?_,?_,New.self w 0 none,by simp⟩
  · have hge:=grownCap_ge w x.size 0 e
    have hcs:(Lib.bytesCells w e x).size=grownCap w x.size 0 e:=by
      simp only [Lib.bytesCells,Array.size_append,Array.size_map,Array.size_replicate]
      have:x.data.size=x.size:=rfl
      omega
    refine ⟨by simp,grownCap_le_maxLen w _ 0 e hx,.inr ⟨w.heap.size,Lib.bytesCells w e x,e,(Lib.bytesCells w e x).size,(Lib.bytesCells w e x).size+1,rfl,?_,by rw [sb_length];exact hge,by rw [hcs,Nat.mul_one],?_,.inl (Nat.le_refl _)⟩⟩
    · exact freeze_heap _ _ _ _ _ _ (Go.heap_alloc_new w.drew _) (by decide)
    · have e1:(Lib.bytesCells w e x).toList=(sb x).map u8++List.replicate (grownCap w x.size 0 e-x.size) (.int .u8 0):=by
        simp [Lib.bytesCells,sb,u8]
      rw [e1,Nat.mul_one]
      have:(sb x).length=((sb x).map u8).length:=by simp
      rw [this];exact List.take_left
  · exact freeze_new_fr NoB w _ ((Fr.drew _ w).ext (Fr.alloc _ _ _)) _ _
theorem to_str {t e s:TypeId} (T:BT P t e s) {w:World} {Ω:Nat->Prop} {A:Option Addr} {l:List UInt8} (h:Imm KB Ω w A l) (c:Nat) :
    RunsTo P (convert t s (.slice A l.length c)) w (.string ⟨l.toArray⟩) w:=by
  unfold RunsTo
  rw [run_convert_bytes_string w t s e _ _ c (und_underlying T.ht) (und_underlying T.he) (und_underlying T.hs)]
  cases A with
  | none =>
    have:l=[]:=by
      cases l with
      | nil=>rfl
      | cons b r=>obtain ⟨ad,h,_⟩:=h 0 b rfl;cases h
    subst this
    simp [Conv.bytesToString]
    rfl
  | some ad =>
    have hl:=run_loadCells_list (P:=P) w ad (l.map u8) (fun j v hj=>by
      rw [List.getElem?_map] at hj
      cases hb:l[j]? with
      | none=>simp [hb] at hj
      | some b =>
        simp [hb] at hj;subst hj
        obtain ⟨ad',hA,_,cs,hr,hc⟩:=h j b hb
        cases hA;cases hr
        have h2:=hc 0 _ rfl
        rw [show j*KB.size+0=j from Nat.mul_one j] at h2
        exact h2)
    rw [List.length_map] at hl
    rw [run_bytesToString w ad l.length c (l.map fun b=>(b.toNat:Int)) (by rw [hl];simp [u8]),foldl_push_bytes]
    have e2:(l.map (fun b=>(b.toNat:Int))).map (fun n=>UInt8.ofNat n.toNat)=l:=by
      rw [List.map_map];conv=>rhs;rw [<- List.map_id l]
      apply List.map_congr_left;intro b _;simp
    rw [e2]
    simp [ByteArray.empty,ByteArray.emptyWithCapacity]
    rfl
theorem to_str_all {t e s:TypeId} (T:BT P t e s) {w:World} {Ω:Nat->Prop} {A:Option Addr} {l:List UInt8} (h:Imm KB Ω w A l) (c:Nat) :
    ∀ u,Ext w u->RunsTo P (convert t s (.slice A l.length c)) u (.string ⟨l.toArray⟩) u:=fun u hu=>to_str T (h.ext KB_pos hu) c
theorem eq_str (l l':List UInt8):(ByteArray.toList ⟨l.toArray⟩ == ByteArray.toList ⟨l'.toArray⟩)=decide (l=l'):=by
  have e:∀ m:List UInt8,ByteArray.toList ⟨m.toArray⟩=m:=fun m=>by
    rw [ByteArray.toList_eq]
  rw [e,e]
  by_cases h:l=l'<;>simp [h]
end
end Go.Sx
set_option linter.unusedVariables false
set_option linter.unusedSimpArgs false
namespace Go.Sx
section
variable {P:Program} {α:Type}
def OwnK (K:Kd α) (w:World) (A:Option Addr) (c:Nat) (l:List α):Prop :=
  ∃ xs,Own w K.size A l.length c xs/\∀ i a,l[i]?=some a->K.rep (ownB A) w a ((xs.drop (i*K.size)).take K.size)
theorem OwnK.nil (K:Kd α) (w:World):OwnK K w none 0 []:=⟨[],Own.nil w _,fun i a h=>by simp at h⟩
theorem OwnK.ext {K:Kd α} {w w':World} {A:Option Addr} {c:Nat} {l:List α} (h:OwnK K w A c l) (e:Ext w w'):OwnK K w' A c l:=by
  obtain ⟨xs,ho,hr⟩:=h
  exact ⟨xs,ho.keep e (fun _ _ h=>h),fun i a ha=>K.keep (hr i a ha) (e.step _)⟩
theorem OwnK.le {K:Kd α} {w:World} {A:Option Addr} {c:Nat} {l:List α} (h:OwnK K w A c l):l.length<=c:=by
  obtain ⟨xs,ho,_⟩:=h
  exact ho.le
theorem OwnK.imm {K:Kd α} {w:World} {A:Option Addr} {c:Nat} {l:List α} (h:OwnK K w A c l) (hz : 0<K.size):Imm K NoB w A l:=by
  obtain ⟨xs,ho,hr⟩:=h
  exact ho.imm hz (fun _ _ h=>h) fun i a ha=>K.keep (hr i a ha) ⟨Nat.le_refl _,fun _ _ _=>rfl,fun _ _ h=>h.elim⟩
theorem Grew.step {A A':Option Addr} {w w':World} (g:Grew A A' w w'):Step (ownB A) w (ownB A') w' :=
  g.fr.step (fun _ _ h=>h) (fun k hk h=>(g.sub k h).elim id (fun h'=>absurd hk (Nat.not_lt.2 h')))
theorem OwnK.push {K:Kd α} {t e by_:Nat} {z:List Value} (T:SlT P t e K.size by_ z) {ty:TypeId} {w:World} {A:Option Addr} {c:Nat} {l:List α} (h:OwnK K w A c l) {a : α} {cs:List Value} (ha:K.rep (ownB A) w a cs)
    (h1:∀ v∈cs,v.oneCell'=true) {e':TypeId} (hb:l.length+1<=maxLen) (hb2:(l.length+1)*by_<=140737488355328) :
    ∃ A' c' w',RunsTo P (Builtin.append_ #[t,t] ty #[.slice A l.length c,.slice (some ⟨w.heap.size,0,none⟩) 1 1]) (w.alloc (.cells cs.toArray e')) (.slice A' (l++[a]).length c') w'/\OwnK K w' A' c' (l++[a])/\Grew A A' w w':=by
  obtain ⟨xs,ho,hr⟩:=h
  obtain ⟨A',c',w',hrun,ho',hf,hs,_⟩:=append_one (ty:=ty) T ho (cs:=cs) (K.len ha) h1 (e':=e') hb hb2
  have g:Grew A A' w w':=⟨hf,hs⟩
  refine ⟨A',c',w',by simpa using hrun,⟨xs++cs,by simpa using ho',fun i b hi=>?_⟩,g⟩
  have hlen:=ho.len
  rcases Nat.lt_or_ge i l.length with hlt|hge
  · rw [List.getElem?_append_left hlt] at hi
    have hle:(i+1)*K.size<=xs.length:=by rw [hlen];exact Nat.mul_le_mul_right _ hlt
    rw [Nat.add_mul,Nat.one_mul] at hle
    rw [List.drop_append_of_le_length (by omega),List.take_append_of_le_length (by simp;omega)]
    exact K.keep (hr i b hi) g.step
  · rw [List.getElem?_append_right hge] at hi
    have hi0:i-l.length=0:=by
      have:=(List.getElem?_eq_some_iff.1 hi).1
      simp at this;omega
    rw [hi0] at hi
    have:i=l.length:=by omega
    subst this
    cases hi
    rw [<- hlen,List.drop_left,List.take_of_length_le (by rw [K.len ha];exact Nat.le_refl _)]
    exact K.keep ha g.step
theorem ownK_lit {K:Kd α} {w:World} {cs:List Value} {e:TypeId} {l:List α} (hl:cs.length=l.length*K.size) (hn:l.length<=maxLen)
    (hr:∀ i a,l[i]?=some a->K.rep NoB w a ((cs.drop (i*K.size)).take K.size)):OwnK K (w.alloc (.cells cs.toArray e)) (some ⟨w.heap.size,0,none⟩) l.length l :=
  ⟨cs,own_lit hl hn,fun i a ha=>K.keep (hr i a ha) ((Fr.alloc NoB w _).step (fun _ _ h=>h.elim) (fun k hk h=>by rw [ownB_some] at h;omega))⟩
theorem Imm.cellsOf {K:Kd α} {Ω:Nat->Prop} {w:World} {B:Option Addr} {m:List α} (h:Imm K Ω w B m) (h1:∀ a cs,K.rep Ω w a cs->∀ v∈cs,v.oneCell'=true):∀ k,k<=m.length ->
    ∃ ys:List Value,ys.length=k*K.size/\(∀ i a,i<k->m[i]?=some a->K.rep Ω w a ((ys.drop (i*K.size)).take K.size))/\(∀ j v,ys[j]?=some v->∃ ad,B=some ad/\w.cell? (ad.add j)=some v)/\∀ v∈ys,v.oneCell'=true
  | 0,_=>⟨[],by simp,fun i a hi=>by omega,fun j v hj=>by simp at hj,fun v hv=>by simp at hv⟩
  | k+1,hk=>by
    obtain ⟨ys,hl,hr,hc,ho⟩:=Imm.cellsOf h h1 k (by omega)
    obtain ⟨ad,hA,_,cs,hrep,hcell⟩:=h k m[k] (by simp)
    have hcl:=K.len hrep
    refine ⟨ys++cs,by rw [List.length_append,hl,hcl,Nat.add_mul,Nat.one_mul],fun i a hi hia=>?_,fun j v hj=>?_,fun v hv=>?_⟩
    · rcases Nat.lt_or_ge i k with hlt|hge
      · have hle:(i+1)*K.size<=ys.length:=by rw [hl];exact Nat.mul_le_mul_right _ hlt
        rw [Nat.add_mul,Nat.one_mul] at hle
        rw [List.drop_append_of_le_length (by omega),List.take_append_of_le_length (by simp;omega)]
        exact hr i a hlt hia
      · have:i=k:=by omega
        subst this
        rw [List.getElem?_eq_getElem (by omega)] at hia
        cases hia
        rw [<- hl,List.drop_left,List.take_of_length_le (by omega)]
        exact hrep
    · rcases Nat.lt_or_ge j ys.length with hlt|hge
      · rw [List.getElem?_append_left hlt] at hj
        exact hc j v hj
      · rw [List.getElem?_append_right hge] at hj
        refine ⟨ad,hA,?_⟩
        have:=hcell _ _ hj
        rwa [show k*K.size+(j-ys.length)=j by omega] at this
    · rcases List.mem_append.1 hv with hv|hv
      · exact ho v hv
      · exact h1 _ _ hrep v hv
theorem OwnK.append {K:Kd α} {t e by_:Nat} {z:List Value} (T:SlT P t e K.size by_ z) {ty:TypeId} {w:World} {A B:Option Addr} {c cb:Nat} {l m:List α} (h:OwnK K w A c l) (hB:Imm K (ownB A) w B m)
    (h1:∀ a cs,K.rep (ownB A) w a cs->∀ v∈cs,v.oneCell'=true) (hb:l.length+m.length<=maxLen) (hb2:(l.length+m.length)*by_<=140737488355328) :
    ∃ A' c' w',RunsTo P (Builtin.append_ #[t,t] ty #[.slice A l.length c,.slice B m.length cb]) w (.slice A' (l++m).length c') w'/\OwnK K w' A' c' (l++m)/\Grew A A' w w':=by
  obtain ⟨xs,ho,hr⟩:=h
  obtain ⟨ys,hyl,hyr,hyc,hy1⟩:=hB.cellsOf h1 m.length (Nat.le_refl _)
  obtain ⟨A',c',w',hrun,ho',hf,hs,_⟩:=append_own (ty:=ty) (t2:=t) T ⟨_,T.ht,fun _ h=>by cases h⟩ ho (Src.cells (P:=P) (c:=cb) hyl hyc hy1) hb hb2
  have g:Grew A A' w w':=⟨hf,hs⟩
  refine ⟨A',c',w',by rw [List.length_append];exact hrun,⟨xs++ys,by rw [List.length_append];exact ho',fun i b hi=>?_⟩,g⟩
  have hlen:=ho.len
  rcases Nat.lt_or_ge i l.length with hlt|hge
  · rw [List.getElem?_append_left hlt] at hi
    have hle:(i+1)*K.size<=xs.length:=by rw [hlen];exact Nat.mul_le_mul_right _ hlt
    rw [Nat.add_mul,Nat.one_mul] at hle
    rw [List.drop_append_of_le_length (by omega),List.take_append_of_le_length (by simp;omega)]
    exact K.keep (hr i b hi) g.step
  · rw [List.getElem?_append_right hge] at hi
    have hil:i-l.length<m.length:=(List.getElem?_eq_some_iff.1 hi).1
    have e1:i*K.size=xs.length+(i-l.length)*K.size:=by rw [hlen,<- Nat.add_mul];congr 1;omega
    rw [e1,List.drop_append,List.drop_of_length_le (by omega),List.nil_append,Nat.add_sub_cancel_left]
    exact K.keep (hyr _ b hil hi) g.step
def Kd.at (w0:World) (K:Kd α):Kd α:=⟨K.size,fun _ _ a cs=>K.rep NoB w0 a cs,fun h=>K.len h,fun h _=>h⟩
theorem Ext.stepTo {w w':World} (e:Ext w w') {Ω:Nat->Prop} (h:∀ k,k<w.heap.size->¬ Ω k):Step NoB w Ω w':=e.step' h
def Wr (base g0:Nat) (w:World) (A:Option Addr) (n:Nat):Prop :=
  n=0\/∃ g cur e fr,A=some ⟨g,0,none⟩/\base<=g/\g≠g0/\w.heap[g]?=some (.cells cur e fr)/\n<=cur.size/\(cur.size<=fr.1\/fr.2<=fr.1)
theorem Wr.set {base g0:Nat} {w:World} {A:Option Addr} {n:Nat} (h:Wr base g0 w A n) (g o:Nat) (v:Value):Wr base g0 (w.setCell ⟨g,o,none⟩ v) A n:=by
  rcases h with h|⟨g',cur,e,fr,rfl,hb,hne,hg,hn,hf⟩
  · exact .inl h
  · by_cases hgg:g'=g
    · subst hgg
      refine .inr ⟨g',cur.setIfInBounds o v,e,fr,rfl,hb,hne,?_,by simpa using hn,by simpa using hf⟩
      obtain ⟨lo,hi⟩:=fr
      simp [World.setCell,Array.getElem?_modify,hg]
    · refine .inr ⟨g',cur,e,fr,rfl,hb,hne,?_,hn,hf⟩
      simp only [World.setCell,Array.getElem?_modify]
      rw [if_neg (fun h=>hgg h.symm)]
      exact hg
theorem Wr.of {base g0:Nat} {w:World} {A:Option Addr} {c:Nat} {l:List UInt8} (h:OwnB w A c l) (hk:∀ k,ownB A k->k≠g0/\base<=k):Wr base g0 w A l.length:=by
  rcases h.2.2 with ⟨_,h1,_⟩|⟨g,cur,e,lo,hi,hA,hg,hn,hs,_,hf⟩
  · exact .inl h1
  · exact .inr ⟨g,cur,e,(lo,hi),hA,(hk g ⟨_,hA,rfl⟩).2,(hk g ⟨_,hA,rfl⟩).1,hg,by omega,hf⟩
theorem Wr.at {base g0:Nat} {w:World} {A:Option Addr} {n:Nat} (h:Wr base g0 w A n) {j:Nat} (hj:j<n):∃ g,A=some ⟨g,0,none⟩/\base<=g/\g≠g0/\(w.cell? ⟨g,j,none⟩).isSome=true/\w.frozen? ⟨g,j,none⟩=false:=by
  rcases h with h|⟨g,cur,e,fr,hA,hb,hne,hg,hn,hf⟩
  · omega
  · refine ⟨g,hA,hb,hne,?_,?_⟩
    · rw [cell_of_row w g j cur e fr hg]
      simp;omega
    · exact not_frozen hg (by omega) hf
end
end Go.Sx
set_option linter.unusedVariables false
set_option linter.unusedSimpArgs false
namespace Go.Sx
def Blk (w:World) (g:Nat) (cur:List Value):Prop:=∃ e,w.heap[g]?=some (.cells cur.toArray e (0,0))
theorem Blk.alloc (w:World) (cs:List Value) (e:TypeId):Blk (w.alloc (.cells cs.toArray e)) w.heap.size cs:=⟨e,Go.heap_alloc_new w _⟩
theorem Blk.lt {w:World} {g:Nat} {cur:List Value} (h:Blk w g cur):g<w.heap.size:=by obtain ⟨e,h⟩:=h;exact (Array.getElem?_eq_some_iff.1 h).1
theorem Blk.keep {w w':World} {g:Nat} {cur:List Value} {S:Nat->Prop} (h:Blk w g cur) (hf:Fr S w w') (hn : ¬ S g):Blk w' g cur:=by
  have hl:=h.lt
  obtain ⟨e,h⟩:=h;exact ⟨e,(hf.block g hl hn).trans h⟩
theorem Blk.ext {w w':World} {g:Nat} {cur:List Value} (h:Blk w g cur) (e:Ext w w'):Blk w' g cur:=h.keep e (fun h=>h)
theorem Blk.cell0 {w:World} {g:Nat} {cur:List Value} (h:Blk w g cur) {o:Nat} {v:Value} (hv:cur[o]?=some v):w.cell? ⟨g,o,none⟩=some v:=by
  obtain ⟨e,h⟩:=h
  rw [cell_of_row w g o _ e _ h];simpa using hv
theorem Blk.cell {w:World} {g:Nat} {cur:List Value} (h:Blk w g cur) {o i:Nat} {v:Value} (hv:cur[o+i]?=some v):w.cell? ((⟨g,o,none⟩:Addr).add i)=some v:=by rw [add_new];exact h.cell0 hv
theorem Blk.cell' {w:World} {g:Nat} {cur:List Value} (h:Blk w g cur) {o i j:Nat} {v:Value} (hv:cur[o+i+j]?=some v):w.cell? (((⟨g,o,none⟩:Addr).add i).add j)=some v:=by rw [add_new,add_new];exact h.cell0 hv
theorem Blk.unfrozen {w:World} {g:Nat} {cur:List Value} (h:Blk w g cur) (o i:Nat):w.frozen? ((⟨g,o,none⟩:Addr).add i)=false:=by
  obtain ⟨e,h⟩:=h
  rw [add_new]
  simp [World.frozen?,h]
theorem Blk.set0 {w:World} {g:Nat} {cur:List Value} (h:Blk w g cur) (o:Nat) (v:Value):Blk (w.setCell ⟨g,o,none⟩ v) g (cur.set o v):=by
  obtain ⟨e,h⟩:=h
  refine ⟨e,?_⟩
  simp [World.setCell,Array.getElem?_modify,h]
theorem Blk.set {w:World} {g:Nat} {cur:List Value} (h:Blk w g cur) (o i:Nat) (v:Value):Blk (w.setCell ((⟨g,o,none⟩:Addr).add i) v) g (cur.set (o+i) v):=by rw [add_new];exact h.set0 _ _
theorem Ext.setNew {w w1:World} (h:Ext w w1) {a:Addr} (ha:w.heap.size<=a.block) (v:Value):Ext w (w1.setCell a v) :=
  h.trans (Fr.setCell (fun k=>k=a.block) v (.inr rfl)) (fun _ _ h=>h) (fun k hk e=>absurd hk (by omega))
theorem Ext.setNewAdd {w w1:World} (h:Ext w w1) {g o i:Nat} (ha:w.heap.size<=g) (v:Value):Ext w (w1.setCell ((⟨g,o,none⟩:Addr).add i) v):=h.setNew (by rw [add_block];exact ha) v
theorem Ext.alloc {w w1:World} (h:Ext w w1) (o:Obj):Ext w (w1.alloc o):=h.trans' (Fr.alloc NoB w1 o)
theorem Ext.drew {w w1:World} (h:Ext w w1):Ext w w1.drew:=h.trans' (Fr.drew NoB w1)
theorem Ext.drew0 {w w1:World} (h:Ext w.drew w1):Ext w w1:=(Fr.drew NoB w).ext h
theorem brnb {b:Bool} {A B:Prop} (h1:b=false->A) (h2:b=true->B):cond (!b) A B:=by cases b with|true=>exact h2 rfl|false=>exact h1 rfl
/-! ## worlds by name -/
theorem Fresh.blk {w w':World} {g:Nat} {cs:List Value} {e:TypeId} (h:Fresh w g w' cs e):Blk w' g cs:=by obtain ⟨rfl,rfl⟩:=h;exact Blk.alloc _ _ _
theorem Fresh.ext {w w':World} {g:Nat} {cs:List Value} {e:TypeId} (h:Fresh w g w' cs e):Ext w w':=by obtain ⟨rfl,rfl⟩:=h;exact Fr.alloc NoB w _
theorem Fresh.ge {w w':World} {g:Nat} {cs:List Value} {e:TypeId} (h:Fresh w g w' cs e):w.heap.size<=g:=Nat.le_of_eq h.hg.symm
theorem Fresh.lt {w w':World} {g:Nat} {cs:List Value} {e:TypeId} (h:Fresh w g w' cs e):g<w'.heap.size:=h.blk.lt
theorem Blk.stOK {w:World} {g o:Nat} {cur:List Value} (h:Blk w g cur):∀ (vs:List Value) (i:Nat),o+i+vs.length<=cur.length->Go.Sx.stOK ⟨g,o,none⟩ i vs w
  | [],_,_=>trivial
  | [v],i,hl=>by
    have hlt:o+i<cur.length:=by simp at hl;omega
    exact ⟨by rw [h.cell (v:=cur[o+i]) (by simp [hlt])];rfl,h.unfrozen _ _⟩
  | v::x::vs,i,hl=>by
    have hlt:o+i<cur.length:=by simp at hl;omega
    exact ⟨⟨by rw [h.cell (v:=cur[o+i]) (by simp [hlt])];rfl,h.unfrozen _ _⟩,Blk.stOK h (x::vs) (i+1) (by simp at hl ⊢;omega)⟩
def setL:List Value->Nat->List Value->List Value
  | cur,_,[]=>cur
  | cur,o,v::vs=>setL (cur.set o v) (o+1) vs
theorem Blk.setAll {g o:Nat}:∀ (vs:List Value) (i:Nat) {w:World} {cur:List Value},Blk w g cur->Blk (Go.Sx.setAll ⟨g,o,none⟩ i vs w) g (setL cur (o+i) vs)
  | [],_,_,_,h=>h
  | v::vs,i,w,cur,h=>by
    have:=Blk.setAll (o:=o) vs (i+1) (h.set o i v)
    rwa [<- Nat.add_assoc] at this
theorem Fr.setAll {g o:Nat}:∀ (vs:List Value) (i:Nat) (w:World),Fr (fun k=>k=g) w (Go.Sx.setAll ⟨g,o,none⟩ i vs w)
  | [],_,w=>.refl _ _
  | v::vs,i,w=>(Fr.setCell (fun k=>k=g) v (.inr (by rw [add_block]))).trans (Fr.setAll vs (i+1) _) (fun _ _ h=>h) (fun _ _ h=>h)
theorem Ext.setAll {w w1:World} (h:Ext w w1) {g o:Nat} (hg:w.heap.size<=g) (vs:List Value) (i:Nat):Ext w (Go.Sx.setAll ⟨g,o,none⟩ i vs w1) :=
  h.trans (Fr.setAll vs i w1) (fun _ _ h=>h) (fun k hk e=>absurd hk (by omega))
end Go.Sx
set_option linter.unusedVariables false
set_option linter.unusedSimpArgs false
namespace Go.Sx
section
variable {P:Program}
theorem made_one (z:Value) (n:Nat):(madeCells #[z] n).toList=List.replicate n z:=by
  apply List.ext_getElem
  · simp [madeCells]
  · intro i h1 h2
    simp [madeCells,Nat.mod_one]
theorem make_own {t e by_:Nat} {z:Value} (T:SlT P t e 1 by_ [z]) (hz1:z.oneCell'=true) (w:World) (n:Nat) (h1:n<=maxLen) (h2:n*by_<=281474976710656) (k k':IntKind) :
    ∃ w',RunsTo P (Instr.makeSlice t (.int k (n:Int)) (.int k' (n:Int))) w (.slice (some ⟨w.heap.size,0,none⟩) n n) w'/\Own w' 1 (some ⟨w.heap.size,0,none⟩) n n (List.replicate n z)/\Ext w w':=by
  obtain ⟨i,hi,hs,hb,zv,hzv,hzl⟩:=T.hi
  have hc:zv.cells=#[z]:=by
    have:=cellsL_eq zv
    rw [<- Array.toList_inj];rw [<- cellsL_eq,hzl]
  have h2':(i.bytes:Int)*(n:Int)<=281474976710656:=by
    have h3:((n*by_:Nat):Int)<=281474976710656:=by omega
    rw [Int.natCast_mul] at h3
    rw [hb,Int.mul_comm];exact h3
  have hr:=run_make (P:=P) w t e i zv (und_underlying T.ht) (inf_info hi) hzv k k' (n:Int) (n:Int) (by omega) (by omega) h2' (by simp [maxLen] at h1;omega)
  rw [hc,hs,Int.toNat_natCast,Nat.mul_one] at hr
  refine ⟨_,hr,?_,Fr.alloc NoB w _⟩
  have:=own_lit (w:=w) (cs:=List.replicate n z) (e:=e) (sz:=1) (n:=n) (by simp) h1
  rw [show (madeCells #[z] n)=(List.replicate n z).toArray by rw [<- made_one,Array.toArray_toList]]
  exact this
theorem Own.at_ {w:World} {sz:Nat} {A:Option Addr} {n c:Nat} {xs:List Value} (h:Own w sz A n c xs) {j:Nat} (hj:j<n*sz) :
    ∃ g,A=some ⟨g,0,none⟩/\(w.cell? ⟨g,j,none⟩).isSome=true/\w.frozen? ⟨g,j,none⟩=false/\∀ v,Own (w.setCell ⟨g,j,none⟩ v) sz A n c (xs.set j v)/\Fr (ownB A) w (w.setCell ⟨g,j,none⟩ v):=by
  rcases h.2.2 with ⟨_,rfl,_⟩|⟨g,cur,e,lo,hi,rfl,hg,hnc,hcs,htake,hfz⟩
  · simp at hj
  · have hjc:j<cur.size:=by rw [hcs];exact Nat.lt_of_lt_of_le hj (Nat.mul_le_mul_right _ hnc)
    refine ⟨g,rfl,by rw [cell_of_row w g j cur e _ hg];simp [hjc],not_frozen hg hjc hfz,fun v=>⟨⟨by rw [List.length_set];exact h.1,h.2.1,.inr ⟨g,cur.setIfInBounds j v,e,lo,hi,rfl,?_,hnc,by simpa using hcs,?_,by simpa using hfz⟩⟩,?_⟩⟩
    · simp [World.setCell,Array.getElem?_modify,hg]
    · rw [Array.toList_setIfInBounds,<- htake,List.take_set]
    · exact Fr.setCell (ownB (some ⟨g,0,none⟩)) v (.inr (by rw [ownB_some]))
end
end Go.Sx
set_option linter.unusedVariables false
set_option linter.unusedSectionVars false
set_option linter.unusedSimpArgs false
namespace Go.Sx
open Go.MapKept
section
variable {P:Program} {α:Type} [DecidableEq α]
def getM:List (α×Value)->α->Option Value
  | [],_=>none
  | (x,u)::l,a=>if a=x then some u else getM l a
def setM:List (α×Value)->α->Value->List (α×Value)
  | [],a,v=>[(a,v)]
  | (x,u)::l,a,v=>if a=x then (a,v)::l else (x,u)::setM l a v
def findM:List (α×Value)->α->Nat->Option (Nat×Value)
  | [],_,_=>none
  | (x,u)::l,a,i=>if a=x then some (i,u) else findM l a (i+1)
theorem findM_get (a : α):∀ (l:List (α×Value)) (i:Nat),(findM l a i).map (·.2)=getM l a
  | [],_=>rfl
  | (x,u)::l,i=>by
    rw [findM,getM]
    split
    · rfl
    · exact findM_get a l (i+1)
theorem findM_none (a : α) (v:Value):∀ (l:List (α×Value)) (i:Nat),findM l a i=none->setM l a v=l++[(a,v)]
  | [],_,_=>rfl
  | (x,u)::l,i,h=>by
    rw [findM] at h
    split at h
    · cases h
    · rename_i hne
      rw [setM,if_neg hne,findM_none a v l (i+1) h];rfl
theorem findM_some (a : α) (v:Value):∀ (l:List (α×Value)) (i j:Nat) (u:Value),findM l a i=some (j,u)->∃ n,j=i+n/\l[n]?=some (a,u)/\setM l a v=l.set n (a,v)
  | [],_,_,_,h=>by cases h
  | (x,u)::l,i,j,u',h=>by
    rw [findM] at h
    split at h
    · rename_i he
      subst he
      cases h
      exact ⟨0,rfl,rfl,by rw [setM,if_pos rfl];rfl⟩
    · rename_i hne
      obtain ⟨n,h1,h2,h3⟩:=findM_some a v l (i+1) j u' h
      exact ⟨n+1,by omega,by simpa using h2,by rw [setM,if_neg hne,h3];rfl⟩
structure KeyF (P:Program) (kt:TypeId) (d:TypeDesc) (f : α->Value):Prop where
  und:und P kt=some d
  key:∀ a,IsKey d (f a)
  inj:∀ a b,f a=f b->a=b
def MapK (f : α->Value) (w:World) (b:Nat) (l:List (α×Value)):Prop:=∃ es clock,w.heap[b]?=some (.map es clock)/\es.toList.map (fun e=>(e.key,e.val))=l.map (fun p=>(f p.1,p.2))
theorem MapK.lt {f : α->Value} {w:World} {b:Nat} {l:List (α×Value)} (h:MapK f w b l):b<w.heap.size:=by
  obtain ⟨es,c,h,_⟩:=h;exact (Array.getElem?_eq_some_iff.1 h).1
theorem MapK.keep {f : α->Value} {w w':World} {b:Nat} {l:List (α×Value)} {S:Nat->Prop} (h:MapK f w b l) (hf:Fr S w w') (hn : ¬ S b):MapK f w' b l:=by
  have hl:=h.lt
  obtain ⟨es,c,h,he⟩:=h;exact ⟨es,c,(hf.block b hl hn).trans h,he⟩
theorem MapK.ext {f : α->Value} {w w':World} {b:Nat} {l:List (α×Value)} (h:MapK f w b l) (e:Ext w w'):MapK f w' b l:=h.keep e (fun h=>h)
theorem MapK.new (f : α->Value) (w:World):MapK f (w.alloc (.map #[] 0)) w.heap.size []:=⟨#[],0,(MapKept.heap_alloc w _).1,rfl⟩
theorem makeMap_run (t:TypeId) (w:World):RunsTo P (Instr.makeMap t none) w (.map (some w.heap.size)) (w.alloc (.map #[] 0)):=by
  unfold RunsTo;simp [Instr.makeMap]
theorem findNow_M {kt:TypeId} {d:TypeDesc} {f : α->Value} (F:KeyF P kt d f) (a : α):∀ (es:List MapEntry) (l:List (α×Value)) (i:Nat),es.map (fun e=>(e.key,e.val))=l.map (fun p=>(f p.1,p.2))->Instr.findNow d (f a) es i=some (findM l a i)
  | [],[],_,_=>rfl
  | [],_::_,_,h=>by cases h
  | _::_,[],_,h=>by cases h
  | e::es,(x,u)::l,i,h=>by
    simp only [List.map_cons,List.cons.injEq,Prod.mk.injEq] at h
    obtain ⟨⟨h1,h2⟩,h3⟩:=h
    obtain ⟨r,hr,hiff⟩:=sameNow_of_keys (F.key a) (F.key x)
    rw [Instr.findNow,h1,hr,findM]
    by_cases hax:a=x
    · subst hax
      rw [if_pos rfl,hiff.2 rfl]
      simp [h2]
    · rw [if_neg hax]
      cases r with
      | true=>exact absurd (F.inj _ _ (hiff.1 rfl)) hax
      | false=>exact findNow_M F a es l (i+1) h3
theorem MapK.look {kt et t:TypeId} {d:TypeDesc} {f : α->Value} (F:KeyF P kt d f) (ht:Go.Sx.und P t=some (.map kt et)) {w:World} {b:Nat} {l:List (α×Value)} (h:MapK f w b l) (a : α) {z:Value} (hz:∀ w,(zeroValue et).run P w=.ok z w) :
    RunsTo P (Instr.lookup t (.map (some b)) (f a) true) w (.tuple #[(getM l a).getD z,.bool (getM l a).isSome]) w/\RunsTo P (Instr.lookup t (.map (some b)) (f a) false) w ((getM l a).getD z) w:=by
  obtain ⟨es,clock,hb,he⟩:=h
  have hf:=findNow_M F a es.toList l 0 he
  have hg:=findM_get a l 0
  have hc:(Instr.checkKey es.isEmpty 10000 kt (f a)).run P w=.ok () w:=MapKept.run_checkKey (und_underlying F.und) (F.key a) _ 9999
  rw [<- hg]
  cases hr:findM l a 0 with
  | none =>
    rw [hr] at hf
    constructor<;>simp [RunsTo,Instr.lookup,run_und ht,MapKept.run_getObj_map hb,hc,MapKept.run_findKey (und_underlying F.und) hf,Result.andThen,hz]
  | some p =>
    obtain ⟨j,u⟩:=p
    rw [hr] at hf
    constructor<;>simp [RunsTo,Instr.lookup,run_und ht,MapKept.run_getObj_map hb,hc,MapKept.run_findKey (und_underlying F.und) hf,Result.andThen]
theorem MapK.update {kt et t:TypeId} {d:TypeDesc} {f : α->Value} (F:KeyF P kt d f) (ht:Go.Sx.und P t=some (.map kt et)) {w:World} {b:Nat} {l:List (α×Value)} (h:MapK f w b l) (a : α) (v:Value) :
    ∃ w',RunsTo P (Instr.mapUpdate t (.map (some b)) (f a) v) w () w'/\MapK f w' b (setM l a v)/\Fr (fun k=>k=b) w w':=by
  obtain ⟨es,clock,hb,he⟩:=h
  have hf:=findNow_M F a es.toList l 0 he
  have hc:(Instr.checkKey false 10000 kt (f a)).run P w=.ok () w:=MapKept.run_checkKey (und_underlying F.und) (F.key a) _ 9999
  have frame:∀ o:Obj,Fr (fun k=>k=b) w { w with heap:=w.heap.setIfInBounds b o }:=fun o=>⟨rfl,rfl,rfl,by simp,fun k _ hn=>(MapKept.heap_set hb (o':=o)).2 k hn⟩
  cases hr:findM l a 0 with
  | none =>
    rw [hr] at hf
    refine ⟨{ w with heap:=w.heap.setIfInBounds b (.map (es.push { key:=f a,val:=v,born:=clock }) (clock+1)) },?_,⟨_,_,(MapKept.heap_set hb).1,?_⟩,frame _⟩
    · simp [RunsTo,Instr.mapUpdate,run_und ht,MapKept.run_getObj_map hb,hc,MapKept.run_findKey (und_underlying F.und) hf,MapKept.run_setObj_map _ hb,Result.andThen]
    · rw [findM_none a v l 0 hr];simp [he]
  | some p =>
    obtain ⟨j,u⟩:=p
    rw [hr] at hf
    obtain ⟨n,hj,hn,hs⟩:=findM_some a v l 0 j u hr
    rw [Nat.zero_add] at hj
    obtain rfl:j=n:=hj
    have hk:∃ e,es[j]?=some e/\e.key=f a:=by
      have:=congrArg (fun q=>q[j]?) he
      simp only [List.getElem?_map,hn,Option.map_some] at this
      cases h':es.toList[j]? with
      | none=>rw [h'] at this;cases this
      | some e=>rw [h'] at this;simp at this;exact ⟨e,by simpa using h',this.1⟩
    obtain ⟨e,hen,hek⟩:=hk
    have hst:(Instr.keyThatStays (((es[j]?).map (·.key)).getD (f a)) (f a)).run P w=.ok (f a) w:=by
      rw [hen];simp only [Option.map_some,Option.getD_some,hek]
      exact MapKept.run_keyThatStays (F.key a)
    refine ⟨{ w with heap:=w.heap.setIfInBounds b (.map (es.modify j fun e=>{ e with key:=f a,val:=v }) clock) },?_,⟨_,_,(MapKept.heap_set hb).1,?_⟩,frame _⟩
    · simp [RunsTo,Instr.mapUpdate,run_und ht,MapKept.run_getObj_map hb,hc,MapKept.run_findKey (und_underlying F.und) hf,MapKept.run_setObj_map _ hb,Result.andThen,hst]
    · rw [hs,Array.toList_modify]
      apply List.ext_getElem?
      intro i
      have hi:=congrArg (fun q=>q[i]?) he
      simp only [List.getElem?_map] at hi
      simp only [List.getElem?_map,List.getElem?_modify,List.getElem?_set]
      by_cases hni:j=i
      · subst hni
        have hl:j<l.length:=(List.getElem?_eq_some_iff.1 hn).1
        have:es.toList[j]?=some e:=by simpa using hen
        simp [this,hl]
      · simp only [hni,if_false]
        cases h':es.toList[i]? with
        | none=>rw [h'] at hi;simpa using hi
        | some q=>rw [h'] at hi;simpa using hi
end
theorem keyInt {P:Program} {kt:TypeId} {q:IntKind} (h:und P kt=some (.int q)):KeyF P kt (.int q) (fun a:Int=>Value.int q a):=⟨h,fun a=>by simp [IsKey],fun a b e=>by cases e;rfl⟩
end Go.Sx
set_option linter.unusedVariables false
set_option linter.unusedSimpArgs false
namespace Go.Sx
section
variable {P:Program} {α:Type}
def Kd.out (G:Nat->Prop) (K:Kd α):Kd α:=⟨K.size,fun Ω w a cs=>K.rep (fun k=>Ω k\/G k) w a cs,fun h=>K.len h,fun h st=>K.keep h ⟨st.size,fun k hk hn=>st.block k hk (fun h=>hn (.inl h)),fun k hk h=>h.imp (st.sub k hk) id⟩⟩
theorem OwnK.lt {K:Kd α} {w:World} {A:Option Addr} {c:Nat} {l:List α} (h:OwnK K w A c l):∀ k,ownB A k->k<w.heap.size:=by
  obtain ⟨xs,ho,_⟩:=h;exact ho.lt
theorem OwnK.fr {K:Kd α} {w w':World} {S:Nat->Prop} {A:Option Addr} {c:Nat} {l:List α} (h:OwnK K w A c l) (hf:Fr S w w') (hn:∀ k,ownB A k->¬ S k) (hr:∀ a cs,a∈l->K.rep (ownB A) w a cs->K.rep (ownB A) w' a cs):OwnK K w' A c l:=by
  obtain ⟨xs,ho,hx⟩:=h
  exact ⟨xs,ho.keep hf hn,fun i a ha=>hr a _ (List.mem_of_getElem? ha) (hx i a ha)⟩
theorem OwnK.take {K:Kd α} {w:World} {A:Option Addr} {c:Nat} {l:List α} (h:OwnK K w A c l) (k:Nat) (hk:k<=l.length):OwnK K w A c (l.take k):=by
  obtain ⟨xs,ho,hx⟩:=h
  refine ⟨xs.take (k*K.size),by rw [List.length_take,Nat.min_eq_left hk];exact ho.take hk,fun i a ha=>?_⟩
  rw [List.getElem?_take] at ha
  split at ha
  · rename_i hlt
    have:=hx i a ha
    have e:((xs.take (k*K.size)).drop (i*K.size)).take K.size=(xs.drop (i*K.size)).take K.size:=by
      rw [List.drop_take,List.take_take,Nat.min_eq_left]
      have:(i+1)*K.size<=k*K.size:=Nat.mul_le_mul_right _ hlt
      rw [Nat.add_mul,Nat.one_mul] at this;omega
    rw [e];exact this
  · cases ha
theorem OwnK.blk {K:Kd α} {w:World} {A:Option Addr} {c:Nat} {l:List α} (h:OwnK K w A c l) (hz : 0<K.size) {i:Nat} (hi:i<l.length):∃ g,A=some ⟨g,0,none⟩/\∀ j,j<K.size->(w.cell? ⟨g,i*K.size+j,none⟩).isSome=true/\w.frozen? ⟨g,i*K.size+j,none⟩=false:=by
  obtain ⟨xs,ho,hx⟩:=h
  have hle:(i+1)*K.size<=l.length*K.size:=Nat.mul_le_mul_right _ hi
  rw [Nat.add_mul,Nat.one_mul] at hle
  obtain ⟨g,hA,_⟩:=ho.at_ (j:=i*K.size) (by omega)
  refine ⟨g,hA,fun j hj=>?_⟩
  obtain ⟨g',hA',h1,h2,_⟩:=ho.at_ (j:=i*K.size+j) (by omega)
  rw [hA] at hA';cases hA'
  exact ⟨h1,h2⟩
theorem setAll_own {sz n c o g:Nat}:∀ (vs:List Value) (i:Nat) {w:World} {xs:List Value},Own w sz (some ⟨g,0,none⟩) n c xs->o+i+vs.length<=n*sz ->
    Own (setAll ⟨g,o,none⟩ i vs w) sz (some ⟨g,0,none⟩) n c (setL xs (o+i) vs)
  | [],_,_,_,h,_=>h
  | v::vs,i,w,xs,h,hl=>by
    obtain ⟨g',hA,_,_,hs⟩:=h.at_ (j:=o+i) (by simp at hl;omega)
    cases hA
    have:=setAll_own vs (i+1) (hs v).1 (o:=o) (by simp at hl;omega)
    show Own (setAll ⟨g,o,none⟩ (i+1) vs (w.setCell ((⟨g,o,none⟩:Addr).add i) v)) _ _ _ _ _
    rw [add_new]
    exact this
theorem setL_get:∀ (vs:List Value) (o:Nat) (xs:List Value) (j:Nat),j<xs.length->(setL xs o vs)[j]?=if o<=j/\j<o+vs.length then vs[j-o]? else xs[j]?
  | [],o,xs,j,h=>by
    have : ¬ (o<=j/\j<o+([]:List Value).length):=by rw [List.length_nil];omega
    rw [setL,if_neg this]
  | v::vs,o,xs,j,h=>by
    rw [setL,setL_get vs (o+1) (xs.set o v) j (by simpa using h),List.getElem?_set]
    by_cases hj:o=j
    · subst hj
      rw [if_neg (by omega),if_pos rfl,if_pos (by simpa using h),if_pos (by simp)]
      simp
    · rw [if_neg hj]
      by_cases hr:o+1<=j/\j<o+1+vs.length
      · rw [if_pos hr,if_pos (by simp;omega),show j-o=(j-(o+1))+1 by omega];rfl
      · rw [if_neg hr,if_neg (by simp;omega)]
theorem OwnK.set {K:Kd α} {w:World} {A:Option Addr} {c:Nat} {l:List α} (h:OwnK K w A c l) (hfix:∀ w' a cs,K.rep (ownB A) w a cs->K.rep (ownB A) w' a cs) {i:Nat} (hi:i<l.length) {a : α} {cs:List Value} (ha:K.rep (ownB A) w a cs) {g:Nat} (hA:A=some ⟨g,0,none⟩) :
    OwnK K (setAll ⟨g,i*K.size,none⟩ 0 cs w) A c (l.set i a):=by
  subst hA
  obtain ⟨xs,ho,hx⟩:=h
  have hcl:=K.len ha
  have hle:(i+1)*K.size<=l.length*K.size:=Nat.mul_le_mul_right _ hi
  rw [Nat.add_mul,Nat.one_mul] at hle
  have ho':=setAll_own (o:=i*K.size) cs 0 ho (by omega)
  refine ⟨setL xs (i*K.size+0) cs,by rw [List.length_set];exact ho',fun j b hj=>?_⟩
  have hlen:=ho.len
  have hjl:j<l.length:=by have:=(List.getElem?_eq_some_iff.1 hj).1;simpa using this
  have hje:(j+1)*K.size<=l.length*K.size:=Nat.mul_le_mul_right _ hjl
  rw [Nat.add_mul,Nat.one_mul] at hje
  have ext:∀ (ys:List Value),ys.length=K.size->(∀ q,q<K.size->(setL xs (i*K.size+0) cs)[j*K.size+q]?=ys[q]?)->((setL xs (i*K.size+0) cs).drop (j*K.size)).take K.size=ys:=by
    intro ys hy hq
    apply List.ext_getElem?
    intro q
    rw [List.getElem?_take]
    split
    · rename_i hlt;rw [List.getElem?_drop];exact hq q hlt
    · rw [List.getElem?_eq_none (by omega)]
  by_cases hij:i=j
  · subst hij
    rw [List.getElem?_set_self hi] at hj
    cases hj
    rw [ext cs hcl (fun q hq=>by
      rw [setL_get _ _ _ _ (by omega),if_pos (by omega)];congr 1;omega)]
    exact hfix _ _ _ ha
  · rw [List.getElem?_set_ne hij] at hj
    have hb:=hx j b hj
    rw [ext ((xs.drop (j*K.size)).take K.size) (K.len hb) (fun q hq=>by
      have hd : ¬ (i*K.size+0<=j*K.size+q/\j*K.size+q<i*K.size+0+cs.length):=by
        rcases Nat.lt_or_ge i j with h|h
        · have:(i+1)*K.size<=j*K.size:=Nat.mul_le_mul_right _ h
          rw [Nat.add_mul,Nat.one_mul] at this;omega
        · have:(j+1)*K.size<=i*K.size:=Nat.mul_le_mul_right _ (by omega)
          rw [Nat.add_mul,Nat.one_mul] at this;omega
      rw [setL_get _ _ _ _ (by omega),if_neg hd,List.getElem?_take_of_lt hq,List.getElem?_drop])]
    exact hfix _ _ _ hb
end
end Go.Sx
set_option linter.unusedVariables false
set_option linter.unusedSimpArgs false
namespace Go.Sx
open Go.Sort
abbrev eI:Int->Value:=Value.int .i64
end Go.Sx
set_option linter.unusedVariables false
set_option linter.unusedSimpArgs false
namespace Go.Sx
section
variable {P:Program} {α:Type}
theorem Fresh.imm {K:Kd α} {w w':World} {g:Nat} {cs:List Value} {e:TypeId} (f:Fresh w g w' cs e) {Ω:Nat->Prop} (hΩ : ¬ Ω g) {l:List α} (hz : 0<K.size) (hl:cs.length=l.length*K.size) (hn:l.length<=maxLen)
    (hr:∀ i a,l[i]?=some a->K.rep Ω w' a ((cs.drop (i*K.size)).take K.size)):Imm K Ω w' (some ⟨g,0,none⟩) l:=by
  obtain ⟨rfl,rfl⟩:=f
  exact (own_lit (w:=w) (cs:=cs) (e:=e) hl hn).imm hz (fun k hk=>by rw [ownB_some] at hk;subst hk;exact hΩ) hr
theorem set0 {w w':World} {g:Nat} {cur cs:List Value} (b:Blk w g cur) (h:w'=setAll ⟨g,0,none⟩ 0 cs w) (hl:cs.length=cur.length):Blk w' g cs/\Fr (fun k=>k=g) w w':=by
  have e:∀ (cs pre suf:List Value),suf.length=cs.length->setL (pre++suf) pre.length cs=pre++cs:=by
    intro cs
    induction cs with
    | nil=>intro pre suf hs;simp at hs;subst hs;simp [setL]
    | cons v vs ih =>
      intro pre suf hs
      cases suf with
      | nil=>simp at hs
      | cons y ys =>
        rw [setL]
        have h1:(pre++y::ys).set pre.length v=(pre++[v])++ys:=by simp
        have h2:pre.length+1=(pre++[v]).length:=by simp
        rw [h1,h2,ih (pre++[v]) ys (by simpa using hs)]
        simp
  subst h
  refine ⟨?_,Fr.setAll _ _ _⟩
  have:=Blk.setAll (o:=0) cs 0 b
  have h3:=e cs [] cur hl.symm
  simp only [List.nil_append,List.length_nil] at h3
  rw [Nat.add_zero,h3] at this
  exact this
theorem brf {b:Bool} {A B:Prop} (h:b=false) (hB:B):cond b A B:=by rw [h];exact hB
end
end Go.Sx
set_option linter.unusedVariables false
set_option linter.unusedSimpArgs false
namespace Go.Sx
open Go.ChangeShapes Go.WideShapes Go.ChangeAt Go.RowKit
theorem Ext.below {w w':World} (h:Ext w w'):Below w.heap.size w w':=⟨h.os,h.tape,h.output,h.size,fun k hk=>h.block k hk (fun h=>h)⟩
section
variable {H:Type} {enc:TypeId×Value->H} {P:Program}
theorem trodAll_stays (hl:laidOutB P=true) {w w':World} {sp:Nat->Bool} (hb:Below w.heap.size w w'):∀ {ts:List TypeId} {vs:List Value} {ds:List (DataW H)} {ps:List MemPlace},
    (∀ t∈ts,P.readableRec t=true/\t<P.types.size)->DataW.TrodAll enc P w 0 (fun _=>true) true ts vs ds ps->(∀ p∈ps,p.block<w.heap.size)->(∀ p∈ps,sp p.block=true)->DataW.TrodAll enc P w' 0 sp true ts vs ds ps
  | [],[],[],_,_,h,_,_=>h
  | _::_,_::_,_::_,_,hT,⟨p,q,h1,h2,e⟩,hlt,hs =>
    ⟨p,q,WideElems.Trod_stays hl (hT _ (List.mem_cons.2 (.inl rfl))).1 (hT _ (List.mem_cons.2 (.inl rfl))).2 h1 (fun x hx=>hb.same (hlt x (by rw [e];exact List.mem_append_left _ hx))) (fun x hx=>hs x (by rw [e];exact List.mem_append_left _ hx)),
      trodAll_stays hl hb (fun t ht=>hT t (List.mem_cons.2 (.inr ht))) h2 (fun x hx=>hlt x (by rw [e];exact List.mem_append_right _ hx)) (fun x hx=>hs x (by rw [e];exact List.mem_append_right _ hx)),e⟩
theorem post_law {f:Func} {s:ChangeSpec} {apart fresh handsOn again:Bool} {W W':World} {args:Array Value} {ds gs:List (DataW H)} {before:List MemPlace}
    (hW:DataW.Whole enc P f.params.toList s.vars apart W args.toList ds gs before) (hv:s.vars=[]) (hfn:s.fn H (ds++gs)={ results:=[.lit (.bool true)],args:=ds })
    (hl:laidOutB P=true) (hT:∀ t∈f.params.toList,P.readableRec t=true/\t<P.types.size) {tb:TypeId} (hres:f.resultTypes=#[tb]) (htb:P.underlying tb=some .bool) (e:Ext W W') :
    s.post enc P f apart fresh handsOn again W args (.bool true) W':=by
  have hW':=hW
  obtain ⟨p,q,hA,hV,hb,hz,hn⟩:=hW
  rw [hv] at hV
  obtain ⟨rfl,rfl⟩:=trodVars_none hV
  rw [List.append_nil] at hb
  subst hb
  have hlt:∀ x∈before,x.block<W.heap.size:=fun x hx=>by simpa using hW'.lt x hx
  have hargs:∀ sp:Nat->Bool,(∀ x∈before,sp x.block=true)->DataW.TrodAll enc P W' 0 sp true f.params.toList args.toList (s.fn H (ds++[])).args before:=by
    intro sp hsp
    rw [hfn]
    exact trodAll_stays hl e.below hT hA hlt hsp
  have hr:∀ (b:Nat) (sp:Nat->Bool) (hd:Bool),DataW.TrodAll enc P W' b sp hd f.resultTypes.toList ((Value.bool true).resultList f.resultTypes.size) (s.fn H (ds++[])).results []:=by
    intro b sp hd
    rw [hfn,hres]
    exact trodAll_cons_mk (shut_bool htb _) trodAll_mk0
  have hvars:∀ sp:Nat->Bool,DataW.TrodVars enc P W' sp s.vars (s.fn H (ds++[])).vars []:=by
    intro sp
    rw [hfn,hv]
    exact rfl
  have hold:∀ x∈before,(fun b=>decide (b<W.heap.size)) x.block=true:=fun x hx=>by simpa using hlt x hx
  refine ⟨ds,[],before,[],before,[],by simpa using hW',hr _ _ _,hargs _ hold,hvars _,World.keptBut_mono (fun x hx=>⟨hx,.inr (.inl hx)⟩) (e.below.frame _),fun _=>⟨?_,_,_,([]++before)++[],⟨[]++before,[],trodAll_append (hargs _ (fun _ _=>rfl)) (hr _ _ _),hvars _,rfl,?_,?_⟩,?_⟩⟩
  · exact ok_one (by rw [hres]) rfl (okWide_bool_mk htb _)
  · intro b off hp
    have hp':MemPlace.cell b off∈before:=by simpa using hp
    rw [e.below.frozen (p:=⟨b,off,none⟩) (hlt _ hp')]
    exact hz b off (by simpa using hp')
  · intro ha
    have:=hn ha
    simpa using this
  · intro x hx _
    simpa using hx
end
end Go.Sx
set_option linter.unusedVariables false
set_option linter.unusedSimpArgs false
namespace Go.Sx
open Go.ChangeShapes Go.WideShapes Go.ChangeAt Go.RowKit
def Opens {α:Type} (P:Program) (t:TypeId) (K:Kd α) (good : α->Prop):Prop :=
  ∀ {H:Type} (enc:TypeId×Value->H) (w:World) (fuel:Nat) (cs:List Value) (x:DataW H×List MemPlace),DataW.trod enc P w 0 (fun _=>true) true fuel t cs=some x->∃ a,K.rep NoB w a cs/\good a
section
variable {P:Program}
theorem opens_u8 {t:TypeId} (h:P.underlying t=some (.int .u8)):Opens P t Kd.u8 (fun _=>True):=by
  intro H enc w fuel cs x hx
  obtain ⟨n,rfl,_,hw⟩:=DataW.trod_int h hx
  have hb : 0<=n/\n<=255:=by simpa [Lit.wf,IntKind.min,IntKind.max,IntKind.signed,IntKind.bits] using hw
  refine ⟨n.toNat.toUInt8,?_,trivial⟩
  show [Value.int .u8 n]=[u8 n.toNat.toUInt8]
  rw [<- toUInt8_int (by omega),Int.toNat_of_nonneg hb.1]
theorem opens_int {t:TypeId} {k:IntKind} (h:P.underlying t=some (.int k)):Opens P t (Kd.int k) (fun n=>(Lit.int k n).wf=true):=by
  intro H enc w fuel cs x hx
  obtain ⟨n,rfl,_,hw⟩:=DataW.trod_int h hx
  exact ⟨n,rfl,hw⟩
theorem opens_str {t:TypeId} (h:P.underlying t=some .string):Opens P t Kd.str (fun s=>s.size<=maxLen):=by
  intro H enc w fuel cs x hx
  obtain ⟨s,rfl,_,hs⟩:=DataW.trod_string h hx
  exact ⟨s,rfl,hs⟩
theorem opens_slice {α:Type} {K:Kd α} {t e:TypeId} {good : α->Prop} (ht:P.underlying t=some (.slice e)) (hc:P.cellsOf e=K.size) (hz : 0<K.size) (he:Opens P e K good) :
    Opens P t (Kd.slice K hz) (fun l=>l.length<=maxLen/\∀ a∈l,good a):=by
  intro H enc w fuel cs x hx
  rcases Go.Deep.open_slice ht hx with ⟨rfl,_⟩|⟨a,len,cap,m,n,D,Pl,rfl,_,hl,hm,hmm,_,hel⟩
  · exact ⟨[],⟨none,0,rfl,Nat.le_refl _,Imm.nil K _ _ _⟩,by simp,by simp⟩
  · rw [if_pos rfl] at hmm
    subst hmm
    have hex:∀ i:Fin len,∃ b,∃ cs',w.cells? 0 (a.add (i.val*K.size)) K.size=some cs'/\K.rep NoB w b cs'/\good b:=fun i=>by
      obtain ⟨cs',h1,h2⟩:=hel i.val (Nat.lt_of_lt_of_le i.isLt hl)
      obtain ⟨b,hb,hg⟩:=he enc w n cs' _ h2
      rw [hc] at h1
      exact ⟨b,cs',h1,hb,hg⟩
    let f:Fin len->α:=fun i=>Classical.choose (hex i)
    have hf:∀ i,∃ cs',w.cells? 0 (a.add (i.val*K.size)) K.size=some cs'/\K.rep NoB w (f i) cs'/\good (f i):=fun i=>Classical.choose_spec (hex i)
    refine ⟨List.ofFn f,⟨some a,m,by rw [List.length_ofFn],by rw [List.length_ofFn];exact hl,?_⟩,by rw [List.length_ofFn];omega,?_⟩
    · intro i b hi
      have hlt:i<len:=by have:=(List.getElem?_eq_some_iff.1 hi).1;rwa [List.length_ofFn] at this
      have hb:f ⟨i,hlt⟩=b:=by simpa [List.getElem?_ofFn,hlt] using hi
      obtain ⟨cs',h1,h2,_⟩:=hf ⟨i,hlt⟩
      rw [hb] at h2
      refine ⟨a,rfl,fun h=>h,cs',h2,fun j v hj=>?_⟩
      obtain ⟨_,hlen,hcell⟩:=World.cells?_some h1
      have hjl:j<K.size:=by rw [<- hlen];exact (List.getElem?_eq_some_iff.1 hj).1
      rw [<- add_add,hcell j hjl]
      exact hj
    · intro b hb
      obtain ⟨i,rfl⟩:=List.mem_ofFn.1 hb
      obtain ⟨_,_,_,hg⟩:=hf i
      exact hg
theorem arg_slice {α:Type} {K:Kd α} {H:Type} {enc:TypeId×Value->H} {W:World} {r:Reach} {base:Nat} {t e:TypeId} {good : α->Prop} {v:Value} {d:DataW H} {ps:List MemPlace} (ht:P.underlying t=some (.slice e)) (hc:P.cellsOf e=K.size) (hz : 0<K.size) (he:Opens P e K good)
    (hval:Value.okWide P W r base t v) (h:DataW.Trod enc P W 0 (fun _=>true) true t v d ps):∃ A c l,v=.slice A l.length c/\l.length<=c/\l.length<=maxLen/\Imm K NoB W A l/\∀ a∈l,good a:=by
  obtain ⟨A,n,c,rfl⟩:=okWide_slice ht hval
  obtain ⟨fuel,hf⟩:=h
  obtain ⟨l,⟨A',c',he',hl,hi⟩,hm,hg⟩:=opens_slice ht hc hz he enc W fuel _ _ hf
  have:Value.slice A n c=.slice A' l.length c':=by simpa [Value.cells] using he'
  cases this
  exact ⟨A,c,l,rfl,hl,hm,hi,hg⟩
theorem i64_range {x:Int} (h:(Lit.int .i64 x).wf=true) : -9223372036854775808<=x/\x<=9223372036854775807:=by
  simpa [Lit.wf,IntKind.min,IntKind.max,IntKind.signed,IntKind.bits] using h
theorem u8_nat {x:Int} (h:(Lit.int .u8 x).wf=true):∃ n:Nat,x=(n:Int)/\n<256:=by
  have hx : 0<=x/\x<=255:=by simpa [Lit.wf,IntKind.min,IntKind.max,IntKind.signed,IntKind.bits] using h
  exact ⟨x.toNat,by omega,by omega⟩
theorem opens_bool {t:TypeId} (h:P.underlying t=some .bool):Opens P t Kd.bool (fun _=>True):=by
  intro H enc w fuel cs x hx
  obtain ⟨b,rfl,_⟩:=DataW.trod_bool h hx
  exact ⟨b,rfl,trivial⟩
def sfs (P:Program) (t:TypeId):Array Field:=match P.underlying t with|some (.struct fs)=>fs|_=>#[]
theorem opens_fields {t:TypeId} (ht:P.underlying t=some (.struct (sfs P t))) {H:Type} {enc:TypeId×Value->H} {w:World} {fuel:Nat} {cs:List Value} {x:DataW H×List MemPlace} (h:DataW.trod enc P w 0 (fun _=>true) true fuel t cs=some x) :
    cs.length=P.cellsOf t/\∀ {α:Type} (i:Nat) {ft:TypeId} {off:Nat} {K:Kd α} {good : α->Prop},((sfs P t)[i]?).map (fun f=>(f.type,f.offset))=some (ft,off)->P.cellsOf ft=K.size->Opens P ft K good->∃ a,K.rep NoB w a ((cs.drop off).take K.size)/\good a:=by
  obtain ⟨xs,n,_,rfl,hl,hlen,hf⟩:=DataW.trod_struct ht h
  refine ⟨hl,fun {α} i {ft off K good} hi hc ho=>?_⟩
  cases hg:(sfs P t)[i]? with
  | none=>simp [hg] at hi
  | some f =>
    simp [hg] at hi
    obtain ⟨rfl,rfl⟩:=hi
    have h1:=hf i f hg
    have hlt:i<xs.length:=by rw [hlen];exact (Array.getElem?_eq_some_iff.1 hg).1
    rw [List.getElem?_eq_getElem hlt] at h1
    rw [hc] at h1
    exact ho enc w n _ _ h1
end
end Go.Sx
