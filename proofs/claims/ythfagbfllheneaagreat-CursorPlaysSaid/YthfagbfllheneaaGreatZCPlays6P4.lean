/- Part 4 of the texts of this claim: the engine, contracts, plain laws. -/
import Derived.Test.YthfagbfllheneaaGreatZCPlays6P3
import Derived.Test.YthfagbfllheneaaGreatZCPlays6P2
import Derived.Test.YthfagbfllheneaaGreatProg
import Derived.Test.YthfagbfllheneaaGreatZCPlays6P1
set_option linter.unusedVariables false
set_option linter.unusedSimpArgs false
namespace T4
def leafF:Nat->Ar->Nat->Key->Nod×List Nat
  | 0,A,i,_=>(nodeAt A i,[i])
  | h+1,A,i,key=>let n:=nodeAt A i;if n.kids=[] then (n,[i]) else let q:=leafF h A (kid n (bel n.keys key)) key;(q.1,i::q.2)
def entryF (n:Nod) (k:Int):Option (Key×Key):=if k<0\/(n.keys.length:Int)<=k then none else some (n.keys.getD k.toNat [],n.vals.getD k.toNat [])
def firstL:Nat->Ar->Nat->Nod
  | 0,A,i=>nodeAt A i
  | h+1,A,i=>let n:=nodeAt A i;if n.kids=[] then n else firstL h A (kid n 0)
def lastL:Nat->Ar->Nat->Nod
  | 0,A,i=>nodeAt A i
  | h+1,A,i=>let n:=nodeAt A i;if n.kids=[] then n else lastL h A (kid n (n.kids.length-1))
def nextF:Nat->Ar->Nat->Key->Option Nat->Nod×Option Nat
  | 0,A,i,_,nx=>(nodeAt A i,nx)
  | h+1,A,i,key,nx=>let n:=nodeAt A i;if n.kids=[] then (n,nx) else let k:=bel n.keys key;nextF h A (kid n k) key (if k+1<n.kids.length then some (kid n (k+1)) else nx)
def aheadF:Nat->Ar->Nat->Key->Option Nat->Nod×Option Nat
  | 0,A,i,_,nx=>(nodeAt A i,nx)
  | h+1,A,i,key,nx=>let n:=nodeAt A i;if n.kids=[] then (n,nx) else let k:=bel n.keys key;aheadF h A (kid n k) key (if 0<k then some (kid n (k-1)) else nx)
def afterF (h:Nat) (A:Ar) (i:Nat) (key:Key) (at_:Bool):Option (Key×Key) :=
  let q:=nextF h A i key none
  let k:=pos q.1.keys key+(if has q.1.keys key && !at_ then 1 else 0)
  match q.2 with
  | none=>entryF q.1 k
  | some j=>if k<q.1.keys.length then entryF q.1 k else entryF (firstL h A j) 0
def beforeF (h:Nat) (A:Ar) (i:Nat) (key:Key) (at_:Bool):Option (Key×Key) :=
  let q:=aheadF h A i key none
  let k:Int:=(pos q.1.keys key:Int)-(if !has q.1.keys key || !at_ then 1 else 0)
  match q.2 with
  | none=>entryF q.1 k
  | some j=>if 0<=k then entryF q.1 k else let n:=lastL h A j;entryF n ((n.keys.length:Int)-1)
def allF:Nat->Ar->Nat->List Nat
  | 0,_,i=>[i]
  | h+1,A,i=>i::((nodeAt A i).kids.reverse.flatMap (allF h A))
theorem entry_leaf (es:Es) (k:Nat):entryF ⟨keysE es,valsE es,[]⟩ (k:Int)=es[k]?:=by
  unfold entryF
  dsimp only
  rw [keysE_length,Int.toNat_natCast]
  by_cases h:k<es.length
  · rw [if_neg (by omega),List.getElem?_eq_getElem h]
    simp [keysE,valsE,List.getD,h]
  · rw [if_pos (by omega),List.getElem?_eq_none (by omega)]
theorem entry_neg (n:Nod) (k:Int) (h:k<0):entryF n k=none:=by unfold entryF;rw [if_pos (.inl h)]
theorem Kids.head {T:TP} {lo hi:Option Key} {ks:List Key} {is:List Nat} {es:Es} {ps:List Nat} (h:Kids T lo hi ks is es ps):∃ j is' e es' p ps' hi',is=j::is'/\T j lo hi' e p/\es=e++es'/\ps=p++ps':=by
  cases h with
  | one h=>exact ⟨_,[],_,[],_,[],_,rfl,h,by simp,by simp⟩
  | cons h _ _=>exact ⟨_,_,_,_,_,_,_,rfl,h,rfl,rfl⟩
theorem Kids.last {T:TP} {lo hi:Option Key} {ks:List Key} {is:List Nat} {es:Es} {ps:List Nat} (h:Kids T lo hi ks is es ps):∃ j is' e es' p ps' lo',is=is'++[j]/\T j lo' hi e p/\es=es'++e/\ps=ps'++p:=by
  induction h with
  | one h=>exact ⟨_,[],_,[],_,[],_,rfl,h,by simp,by simp⟩
  | cons h _ _ ih =>
    rename_i i lo hi k ks is es es0 ps ps0 _ _
    obtain ⟨j,is',e,es',p,ps',lo',h1,h2,h3,h4⟩:=ih
    exact ⟨j,i::is',e,es++es',p,ps++ps',lo',by rw [h1];rfl,h2,by rw [h3];simp,by rw [h4];simp⟩
theorem Kids.each {T:TP} {lo hi:Option Key} {ks:List Key} {is:List Nat} {es:Es} {ps:List Nat} (h:Kids T lo hi ks is es ps) {f:Es->Nat} (hf:∀ a b,f (a++b)=f a+f b) {c:Nat} (hc:∀ {i lo hi es ps},T i lo hi es ps->c<=f es):is.length*c<=f es:=by
  induction h with
  | one h=>simpa using hc h
  | cons h _ _ ih=>rw [hf,List.length_cons,Nat.add_mul,Nat.one_mul];have:=hc h;omega
theorem Reg.least {nd:Nat->Option Nod} {fan:Nat}:∀ {h:Nat} {i:Nat} {lo hi:Option Key} {es:Es} {ps:List Nat},Reg nd fan h i lo hi es ps->(fan / 2) ^ h<=es.length
  | 0,_,_,_,_,_,ht=>ht.elim
  | h+1,i,lo,hi,es,ps,⟨n,hn,hs,hc⟩=>by
    rcases hc with ⟨rfl,hm,hk,hkeys,_⟩|⟨h0,hm,_,ps',rfl,hk⟩
    · have:n.size=es.length:=by simp [Nod.size,hk,hkeys,keysE_length]
      simpa [this] using hm
    · have h1:=hk.each (f:=List.length) (fun a b=>by simp) (c:=(fan / 2) ^ h) (fun ht=>Reg.least ht)
      have h2:n.size=n.kids.length:=by simp [Nod.size,hk.ne]
      have h3:fan / 2*(fan / 2) ^ h<=n.kids.length*(fan / 2) ^ h:=Nat.mul_le_mul_right _ (by rw [<- h2];exact hm)
      rw [Nat.pow_succ,Nat.mul_comm]
      omega
theorem Reg.ne {nd:Nat->Option Nod} {fan h:Nat} {i:Nat} {lo hi:Option Key} {es:Es} {ps:List Nat} (ht:Reg nd fan h i lo hi es ps) (hf:4<=fan):es≠[]:=by
  have h1:=ht.least
  have h2:0<(fan / 2) ^ h:=Nat.pow_pos (by omega)
  intro e
  rw [e] at h1
  simp at h1
  omega
theorem first_ok:∀ (h:Nat) {A:Ar} {i:Nat} {mn:Nat×Nat} {lo hi:Option Key} {es:Es} {ps:List Nat},Tree A.nd A.fan h mn i lo hi es ps->4<=A.fan->∀ m,h<=m+1->entryF (firstL m A i) 0=es.head?
  | 0,_,_,_,_,_,_,_,ht,_,_,_=>ht.elim
  | h+1,A,i,mn,lo,hi,es,ps,⟨n,hn,hs,hc⟩,hf,m,hm=>by
    have hna:nodeAt A i=n:=by simp [nodeAt,hn]
    rcases hc with ⟨rfl,_,hk,h5,h6,_⟩|⟨h0,_,_,ps',rfl,hk⟩
    · have e1:firstL m A i=n:=by
        cases m with
        | zero=>rw [firstL,hna]
        | succ m=>rw [firstL,hna,if_pos hk]
      have hne:n=⟨keysE es,valsE es,[]⟩:=by cases n;simp_all
      rw [e1,hne]
      have:=entry_leaf es 0
      rw [List.head?_eq_getElem?]
      exact this
    · obtain ⟨m,rfl⟩:∃ m',m=m'+1:=⟨m-1,by omega⟩
      rw [firstL,hna,if_neg hk.ne]
      obtain ⟨j,is',e,es',p,ps'',hi',h1,h2,rfl,rfl⟩:=hk.head
      rw [show kid n 0=j by simp [kid,h1,List.getD],first_ok h h2 hf m (by omega)]
      have:=Reg.ne h2 hf
      cases e with
      | nil=>exact absurd rfl this
      | cons x e=>rfl
theorem last_ok:∀ (h:Nat) {A:Ar} {i:Nat} {mn:Nat×Nat} {lo hi:Option Key} {es:Es} {ps:List Nat},Tree A.nd A.fan h mn i lo hi es ps->4<=A.fan->∀ m,h<=m+1->entryF (lastL m A i) (((lastL m A i).keys.length:Int)-1)=es.getLast?
  | 0,_,_,_,_,_,_,_,ht,_,_,_=>ht.elim
  | h+1,A,i,mn,lo,hi,es,ps,⟨n,hn,hs,hc⟩,hf,m,hm=>by
    have hna:nodeAt A i=n:=by simp [nodeAt,hn]
    rcases hc with ⟨rfl,_,hk,h5,h6,_⟩|⟨h0,_,_,ps',rfl,hk⟩
    · have e1:lastL m A i=n:=by
        cases m with
        | zero=>rw [lastL,hna]
        | succ m=>rw [lastL,hna,if_pos hk]
      have hne:n=⟨keysE es,valsE es,[]⟩:=by cases n;simp_all
      rw [e1,hne]
      dsimp only
      rw [keysE_length]
      cases es with
      | nil=>exact entry_neg _ _ (by simp)
      | cons x r =>
        have:=entry_leaf (x::r) r.length
        rw [show (((x::r).length:Nat):Int)-1=(r.length:Int) by simp]
        rw [this,List.getLast?_eq_getElem?]
        simp
    · obtain ⟨m,rfl⟩:∃ m',m=m'+1:=⟨m-1,by omega⟩
      obtain ⟨j,is',e,es',p,ps'',lo',h1,h2,rfl,rfl⟩:=hk.last
      have e1:lastL (m+1) A i=lastL m A j:=by
        rw [lastL,hna,if_neg hk.ne,show kid n (n.kids.length-1)=j by simp [kid,h1,List.getD]]
      rw [e1,last_ok h h2 hf m (by omega)]
      have:=Reg.ne h2 hf
      rw [List.getLast?_append]
      cases hl:e.getLast? with
      | none=>exact absurd (List.getLast?_eq_none_iff.1 hl) this
      | some x=>rfl
theorem leaf_ok:∀ (h:Nat) {A:Ar} {i:Nat} {mn:Nat×Nat} {lo hi:Option Key} {es:Es} {ps:List Nat} {key:Key},Tree A.nd A.fan h mn i lo hi es ps->Bnd lo hi key ->
    ∃ es1 e es2,(leafF h A i key).1=⟨keysE e,valsE e,[]⟩/\es=es1++(e++es2)/\UpE e/\(∀ x∈es1,lt x.1 key)/\(∀ x∈es2,lt key x.1)/\(leafF h A i key).2.map (fun j=>(nodeAt A j).size)=sizes h A i key/\(leafF h A i key).2.length=h
  | 0,_,_,_,_,_,_,_,_,ht,_=>ht.elim
  | h+1,A,i,mn,lo,hi,es,ps,key,⟨n,hn,hs,hc⟩,hb=>by
    have hna:nodeAt A i=n:=by simp [nodeAt,hn]
    rcases hc with ⟨rfl,_,hk,h5,h6,hu,_⟩|⟨h0,_,_,ps',rfl,hk⟩
    · have hne:n=⟨keysE es,valsE es,[]⟩:=by cases n;simp_all
      refine ⟨[],es,[],?_,by simp,hu,by simp,by simp,?_,?_⟩
      · rw [leafF,hna,if_pos hk];exact hne
      · rw [leafF,sizes,hna,if_pos hk,if_pos hk];simp [hna]
      · rw [leafF,hna,if_pos hk];rfl
    · obtain ⟨ks1,ks2,is1,is2,i',lo',hi',es1,es2,e,ps1,ps2,p,f1,f2,f3,f4,f5,f6,f7,rfl,rfl,f10,f11,f12,f13,f14⟩:=hk.find Tree.inB hb
      have hkid:kid n (bel n.keys key)=i':=by rw [kid,f2,<- f4];simp [List.getD]
      obtain ⟨x1,x,x2,g1,g2,g3,g4,g5,g6,g7⟩:=leaf_ok h f6 f10
      rw [leafF,sizes,hna,if_neg hk.ne,if_neg hk.ne,hkid]
      refine ⟨es1++x1,x,x2++es2,g1,by rw [g2];simp,g3,fun y hy=>?_,fun y hy=>?_,?_,by simp [g7]⟩
      · rcases List.mem_append.1 hy with hy|hy
        · exact f11 y hy
        · exact g4 y hy
      · rcases List.mem_append.1 hy with hy|hy
        · exact g5 y hy
        · exact f12 y hy
      · rw [List.map_cons,g6,hna]
theorem next_ok:∀ (h:Nat) {A:Ar} {i:Nat} {mn:Nat×Nat} {lo hi:Option Key} {es:Es} {ps:List Nat} {key:Key} (H:Nat) (nx:Option Nat),Tree A.nd A.fan h mn i lo hi es ps->Bnd lo hi key->4<=A.fan->h<=H ->
    ∃ es1 e es2,(nextF h A i key nx).1=⟨keysE e,valsE e,[]⟩/\es=es1++(e++es2)/\UpE e/\(∀ x∈es1,lt x.1 key)/\(∀ x∈es2,lt key x.1) /\
      ((es2=[]/\(nextF h A i key nx).2=nx)\/(es2≠[]/\∃ j,(nextF h A i key nx).2=some j/\entryF (firstL H A j) 0=es2.head?/\∃ h' lo' hi' es' ps',Reg A.nd A.fan h' j lo' hi' es' ps'/\h'<h))
  | 0,_,_,_,_,_,_,_,_,_,_,ht,_,_,_=>ht.elim
  | h+1,A,i,mn,lo,hi,es,ps,key,H,nx,⟨n,hn,hs,hc⟩,hb,hf,hH=>by
    have hna:nodeAt A i=n:=by simp [nodeAt,hn]
    rcases hc with ⟨rfl,_,hk,h5,h6,hu,_⟩|⟨h0,_,_,ps',rfl,hk⟩
    · have hne:n=⟨keysE es,valsE es,[]⟩:=by cases n;simp_all
      have e1:nextF (0+1) A i key nx=(n,nx):=by rw [nextF,hna,if_pos hk]
      rw [e1]
      exact ⟨[],es,[],hne,by simp,hu,by simp,by simp,.inl ⟨rfl,rfl⟩⟩
    · obtain ⟨ks1,ks2,is1,is2,i',lo',hi',es1,es2,e,ps1,ps2,p,f1,f2,f3,f4,f5,f6,f7,rfl,rfl,f10,f11,f12,f13,f14⟩:=hk.find Tree.inB hb
      have hkid:kid n (bel n.keys key)=i':=by rw [kid,f2,<- f4];simp [List.getD]
      have e1:nextF (h+1) A i key nx=nextF h A i' key (if bel n.keys key+1<n.kids.length then some (kid n (bel n.keys key+1)) else nx):=by
        rw [nextF,hna,if_neg hk.ne];dsimp only;rw [hkid]
      rw [e1]
      generalize hnx:(if bel n.keys key+1<n.kids.length then some (kid n (bel n.keys key+1)) else nx)=nx'
      obtain ⟨x1,x,x2,g1,g2,g3,g4,g5,g6⟩:=next_ok h H nx' f6 f10 hf (by omega)
      refine ⟨es1++x1,x,x2++es2,g1,by rw [g2];simp,g3,fun y hy=>?_,fun y hy=>?_,?_⟩
      · rcases List.mem_append.1 hy with hy|hy
        · exact f11 y hy
        · exact g4 y hy
      · rcases List.mem_append.1 hy with hy|hy
        · exact g5 y hy
        · exact f12 y hy
      · rcases g6 with ⟨rfl,g7⟩|⟨g7,j,g8,g9,h',l',u',ee,pp,g10,g11⟩
        · rw [g7,List.nil_append]
          by_cases hz:is2=[]
          · left
            rw [if_neg (by rw [f2,hz];simp;omega)] at hnx
            refine ⟨?_,hnx.symm⟩
            subst hz
            cases f7 with
            | nil=>rfl
            | cons _ hk2=>exact absurd rfl hk2.ne
          · right
            obtain ⟨s,ksR,b,isR,hiR,eb,esR,pb,psR,q1,q2,q3,q4,q5,q6,q7,q8⟩:=f7.uncons hz
            have hb2:kid n (bel n.keys key+1)=b:=by rw [kid,f2,q3,<- f4];simp [List.getD]
            rw [if_pos (by rw [f2,q3];simp;omega),hb2] at hnx
            have hne:=Reg.ne q4 hf
            subst q6
            refine ⟨by simp [hne],b,hnx.symm,?_,h,_,_,_,_,q4,by omega⟩
            rw [first_ok h q4 hf H (by omega)]
            cases eb with
            | nil=>exact absurd rfl hne
            | cons y eb=>rfl
        · right
          refine ⟨by simp [g7],j,g8,?_,h',l',u',ee,pp,g10,by omega⟩
          rw [g9]
          cases x2 with
          | nil=>exact absurd rfl g7
          | cons y x2=>rfl
theorem ahead_ok:∀ (h:Nat) {A:Ar} {i:Nat} {mn:Nat×Nat} {lo hi:Option Key} {es:Es} {ps:List Nat} {key:Key} (H:Nat) (nx:Option Nat),Tree A.nd A.fan h mn i lo hi es ps->Bnd lo hi key->4<=A.fan->h<=H ->
    ∃ es1 e es2,(aheadF h A i key nx).1=⟨keysE e,valsE e,[]⟩/\es=es1++(e++es2)/\UpE e/\(∀ x∈es1,lt x.1 key)/\(∀ x∈es2,lt key x.1) /\
      ((es1=[]/\(aheadF h A i key nx).2=nx)\/(es1≠[]/\∃ j,(aheadF h A i key nx).2=some j/\entryF (lastL H A j) (((lastL H A j).keys.length:Int)-1)=es1.getLast?/\∃ h' lo' hi' es' ps',Reg A.nd A.fan h' j lo' hi' es' ps'/\h'<h))
  | 0,_,_,_,_,_,_,_,_,_,_,ht,_,_,_=>ht.elim
  | h+1,A,i,mn,lo,hi,es,ps,key,H,nx,⟨n,hn,hs,hc⟩,hb,hf,hH=>by
    have hna:nodeAt A i=n:=by simp [nodeAt,hn]
    rcases hc with ⟨rfl,_,hk,h5,h6,hu,_⟩|⟨h0,_,_,ps',rfl,hk⟩
    · have hne:n=⟨keysE es,valsE es,[]⟩:=by cases n;simp_all
      have e1:aheadF (0+1) A i key nx=(n,nx):=by rw [aheadF,hna,if_pos hk]
      rw [e1]
      exact ⟨[],es,[],hne,by simp,hu,by simp,by simp,.inl ⟨rfl,rfl⟩⟩
    · obtain ⟨ks1,ks2,is1,is2,i',lo',hi',es1,es2,e,ps1,ps2,p,f1,f2,f3,f4,f5,f6,f7,rfl,rfl,f10,f11,f12,f13,f14⟩:=hk.find Tree.inB hb
      have hkid:kid n (bel n.keys key)=i':=by rw [kid,f2,<- f4];simp [List.getD]
      have e1:aheadF (h+1) A i key nx=aheadF h A i' key (if 0<bel n.keys key then some (kid n (bel n.keys key-1)) else nx):=by
        rw [aheadF,hna,if_neg hk.ne];dsimp only;rw [hkid]
      rw [e1]
      generalize hnx:(if 0<bel n.keys key then some (kid n (bel n.keys key-1)) else nx)=nx'
      obtain ⟨x1,x,x2,g1,g2,g3,g4,g5,g6⟩:=ahead_ok h H nx' f6 f10 hf (by omega)
      refine ⟨es1++x1,x,x2++es2,g1,by rw [g2];simp,g3,fun y hy=>?_,fun y hy=>?_,?_⟩
      · rcases List.mem_append.1 hy with hy|hy
        · exact f11 y hy
        · exact g4 y hy
      · rcases List.mem_append.1 hy with hy|hy
        · exact g5 y hy
        · exact f12 y hy
      · rcases g6 with ⟨rfl,g7⟩|⟨g7,j,g8,g9,h',l',u',ee,pp,g10,g11⟩
        · rw [g7,List.append_nil]
          by_cases hz:is1=[]
          · left
            rw [if_neg (by rw [<- f4,hz];simp)] at hnx
            refine ⟨?_,hnx.symm⟩
            subst hz
            cases f5
            rfl
          · right
            obtain ⟨ksL,isL,loL,esL,psL,s,a,ea,pa,q1,q2,q3,q4,q5,q6,q7,q8,q9⟩:=f5.unsnoc hz
            have ha2:kid n (bel n.keys key-1)=a:=by rw [kid,f2,q2,<- f4,q2];simp [List.getD]
            rw [if_pos (by rw [<- f4,q2];simp),ha2] at hnx
            have hne:=Reg.ne q5 hf
            subst q6
            refine ⟨by simp [hne],a,hnx.symm,?_,h,_,_,_,_,q5,by omega⟩
            rw [last_ok h q5 hf H (by omega),List.getLast?_append]
            cases hl:ea.getLast? with
            | none=>exact absurd (List.getLast?_eq_none_iff.1 hl) hne
            | some x=>rfl
        · right
          refine ⟨by simp [g7],j,g8,?_,h',l',u',ee,pp,g10,by omega⟩
          rw [g9,List.getLast?_append]
          cases hl:x1.getLast? with
          | none=>exact absurd (List.getLast?_eq_none_iff.1 hl) g7
          | some x=>rfl
theorem Bnd.all (k:Key):Bnd none none k:=⟨fun l h=>(by cases h),fun u h=>(by cases h)⟩
theorem after_ok {h:Nat} {A:Ar} {i:Nat} {mn:Nat×Nat} {es:Es} {ps:List Nat} (ht:Tree A.nd A.fan h mn i none none es ps) (hf:4<=A.fan) (key:Key) (at_:Bool):afterF h A i key at_=aftE key at_ es:=by
  obtain ⟨es1,e,es2,g1,rfl,g3,g4,g5,g6⟩:=next_ok h h none ht (Bnd.all key) hf (Nat.le_refl _)
  have hp:=pos_le (keysE e) key
  rw [keysE_length] at hp
  rw [aftE_low g4,aftE_app,aft_pos g3,aftE_head g5]
  unfold afterF
  generalize nextF h A i key none=q at *
  obtain ⟨n,nx⟩:=q
  dsimp only at g1 g6 ⊢
  subst g1
  dsimp only
  generalize pos (keysE e) key+(if (has (keysE e) key && !at_)=true then 1 else 0)=k
  have hE:=entry_leaf e k
  rcases g6 with ⟨rfl,rfl⟩|⟨g7,j,rfl,g9,_⟩
  · dsimp only
    rw [hE]
    cases e[k]?<;>rfl
  · dsimp only
    rw [keysE_length]
    by_cases hk:k<e.length
    · rw [if_pos hk,hE,List.getElem?_eq_getElem hk]
    · rw [if_neg hk,g9,List.getElem?_eq_none (by omega)]
theorem before_ok {h:Nat} {A:Ar} {i:Nat} {mn:Nat×Nat} {es:Es} {ps:List Nat} (ht:Tree A.nd A.fan h mn i none none es ps) (hf:4<=A.fan) (key:Key) (at_:Bool):beforeF h A i key at_=befE key at_ es:=by
  obtain ⟨es1,e,es2,g1,rfl,g3,g4,g5,g6⟩:=ahead_ok h h none ht (Bnd.all key) hf (Nat.le_refl _)
  have hp:=pos_le (keysE e) key
  rw [keysE_length] at hp
  rw [befE_low g4,befE_high g5,bef_pos g3]
  unfold beforeF
  generalize aheadF h A i key none=q at *
  obtain ⟨n,nx⟩:=q
  dsimp only at g1 g6 ⊢
  subst g1
  dsimp only
  have hhas:has (keysE e) key=true->pos (keysE e) key<e.length:=fun hh=>by
    have h1:=(List.getElem?_eq_some_iff.1 (of_decide_eq_true hh)).1
    rwa [keysE_length] at h1
  generalize hb:(has (keysE e) key && at_)=b
  have hbn:(!has (keysE e) key || !at_)=!b:=by rw [<- hb];simp
  rw [hbn]
  have hk:((pos (keysE e) key:Nat):Int)-(if (!b)=true then 1 else 0)=if b=true then ((pos (keysE e) key:Nat):Int) else ((pos (keysE e) key:Nat):Int)-1:=by cases b<;>simp
  rw [hk]
  have hbh:b=true->pos (keysE e) key<e.length:=fun h'=>hhas (by rw [h'] at hb;simp at hb;exact hb.1)
  generalize pos (keysE e) key=k at *
  have hE:∀ k:Nat,entryF ⟨keysE e,valsE e,[]⟩ (k:Int)=e[k]?:=entry_leaf e
  cases b with
  | true =>
    have hkl:=hbh rfl
    simp only [if_true]
    rcases g6 with ⟨rfl,rfl⟩|⟨g7,j,rfl,g9,_⟩
    · dsimp only
      rw [hE,List.getElem?_eq_getElem hkl]
    · dsimp only
      rw [if_pos (by omega),hE,List.getElem?_eq_getElem hkl]
  | false =>
    simp only [Bool.false_eq_true,if_false]
    by_cases h0:k=0
    · subst h0
      rw [if_pos rfl]
      rcases g6 with ⟨rfl,rfl⟩|⟨g7,j,rfl,g9,_⟩
      · exact entry_neg _ _ (by simp)
      · dsimp only
        rw [if_neg (by simp),g9]
    · rw [if_neg h0]
      have hk1:((k:Nat):Int)-1=((k-1:Nat):Int):=by omega
      have hkl:k-1<e.length:=by omega
      rw [hk1,hE,List.getElem?_eq_getElem hkl]
      rcases g6 with ⟨rfl,rfl⟩|⟨g7,j,rfl,g9,_⟩
      · rfl
      · dsimp only
        rw [if_pos (by omega)]
theorem all_count:∀ (h:Nat) {A:Ar} {i:Nat} {mn:Nat×Nat} {lo hi:Option Key} {es:Es} {ps:List Nat},Tree A.nd A.fan h mn i lo hi es ps->∀ z,(allF h A i).count z=ps.count z
  | 0,_,_,_,_,_,_,_,ht,_=>ht.elim
  | h+1,A,i,mn,lo,hi,es,ps,⟨n,hn,hs,hc⟩,z=>by
    have hna:nodeAt A i=n:=by simp [nodeAt,hn]
    rw [allF,hna]
    rcases hc with ⟨rfl,_,hk,h5,h6,hu,_,rfl⟩|⟨h0,_,_,ps',rfl,hk⟩
    · rw [hk];simp
    · rw [List.count_cons,List.count_cons]
      congr 1
      have:∀ {lo hi:Option Key} {ks:List Key} {is:List Nat} {es:Es} {ps:List Nat},Kids (Reg A.nd A.fan h) lo hi ks is es ps->(is.reverse.flatMap (allF h A)).count z=ps.count z:=by
        intro lo hi ks is es ps hk
        induction hk with
        | one h1=>simp [all_count h h1 z]
        | cons h1 _ _ ih=>rw [List.reverse_cons,List.flatMap_append,List.count_append,ih,List.count_append];simp [all_count h h1 z];omega
      exact this hk
end T4
set_option linter.unusedVariables false
set_option linter.unusedSimpArgs false
namespace T4
theorem count_range (n x:Nat):(List.range n).count x=if x<n then 1 else 0:=by
  induction n with
  | zero=>simp
  | succ n ih =>
    rw [List.range_succ,List.count_append,ih,List.count_cons,List.count_nil,Nat.zero_add]
    by_cases h:n=x
    · subst h;simp
    · have:(n == x)=false:=by simpa using h
      rw [this]
      simp only [Bool.false_eq_true,if_false,Nat.add_zero]
      by_cases h2:x<n
      · rw [if_pos h2,if_pos (by omega)]
      · rw [if_neg h2,if_neg (by omega)]
theorem Acc.total {A:Ar} {Q P:List Nat} (h:Acc A Q P):A.at_.length=Q.length+P.length+A.free.length:=by
  have hp:(Q++P++A.free).Perm (List.range A.at_.length):=by
    rw [List.perm_iff_count]
    intro x
    rw [List.count_append,List.count_append,count_range]
    exact h x
  have:=hp.length_eq
  simpa [Nat.add_assoc] using this.symm
theorem Acc.nodes {A:Ar} {Q P:List Nat} (h:Acc A Q P):A.nodes=Q.length+P.length:=by unfold Ar.nodes;rw [h.total];omega
def wantsF (fan:Nat) (l:List Nat):Nat:=if trail fan l=l.length then l.length+1 else trail fan l
def putTop (h:Nat) (A:Ar) (i:Nat) (key val:Key):Ar :=
  let q:=putF h A i key val
  match q.2 with
  | none=>q.1
  | some (b,rt)=>let p:=place q.1 (nodeAt q.1 i);setN p.1 i ⟨[b],[],[p.2,rt]⟩
theorem sizes_len:∀ (h:Nat) {A:Ar} {i:Nat} {mn:Nat×Nat} {lo hi:Option Key} {es:Es} {ps:List Nat} {key:Key},Tree A.nd A.fan h mn i lo hi es ps->Bnd lo hi key->(sizes h A i key).length=h:=by
  intro h A i mn lo hi es ps key ht hb
  obtain ⟨es1,e,es2,g1,g2,g3,g4,g5,g6,g7⟩:=leaf_ok h ht hb
  rw [<- g6,List.length_map,g7]
theorem putTop_ok {h:Nat} {A:Ar} {Q:List Nat} {i:Nat} {es:Es} {ps:List Nat} (ht:Tree A.nd A.fan h (0,2) i none none es ps) (hA:Acc A Q ps) (hf:4<=A.fan) (key val:Key) :
    ∃ h' ps',Mv A (putTop h A i key val) ps ps'/\Tree (putTop h A i key val).nd A.fan h' (0,2) i none none (insE key val es) ps'/\ps'.length=ps.length+(if inE key es then 0 else wantsF A.fan (sizes h A i key)):=by
  obtain ⟨r1,r2⟩:=put_ok h (val:=val) ht hA hf (Bnd.all key)
  unfold putTop
  generalize putF h A i key val=q at *
  obtain ⟨A',r⟩:=q
  dsimp only at r1 r2 ⊢
  cases r with
  | none =>
    obtain ⟨ps',m,t,hl⟩:=r1
    refine ⟨h,ps',m,t,?_⟩
    rw [hl]
    unfold takes wantsF
    cases hin:inE key es with
    | true=>rfl
    | false =>
      rw [hin] at r2
      have:¬ trail A.fan (sizes h A i key)=(sizes h A i key).length:=by intro h';rw [decide_eq_true h'] at r2;cases r2
      rw [if_neg this]
  | some br =>
    obtain ⟨b,rt⟩:=br
    obtain ⟨es1,es2,ps1,ps2,he,hbt,m,t1,t2,hl⟩:=r1
    dsimp only
    have hie:inE key es=false/\trail A.fan (sizes h A i key)=(sizes h A i key).length:=by
      cases hin:inE key es with
      | true=>rw [hin] at r2;cases r2
      | false=>rw [hin] at r2;exact ⟨rfl,of_decide_eq_true r2.symm⟩
    obtain ⟨n,hn,p1,hp1⟩:∃ n,A'.nd i=some n/\∃ p1,ps1=i::p1:=by
      cases h with
      | zero=>exact t1.elim
      | succ h =>
        obtain ⟨n,h1,h2,h4⟩:=t1
        rcases h4 with ⟨_,_,_,_,_,_,_,h5⟩|⟨_,_,_,p,h5,_⟩
        · exact ⟨n,h1,[],h5⟩
        · exact ⟨n,h1,p,h5⟩
    subst hp1
    have hna:nodeAt A' i=n:=by simp [nodeAt,hn]
    rw [hna]
    obtain ⟨hA',_⟩:=m.acc Q hA
    obtain ⟨m2,hx⟩:=mv_place A' n
    have hfan:=m.fan
    obtain ⟨hA2,n2⟩:=m2.acc _ hA'.split
    have hx:=hx ⟨_,_,hA'⟩
    generalize hqq:place A' n=p at *
    have m3:=mv_set p.1 i ⟨[b],[],[p.2,rt]⟩
    have hA3:Acc p.1 (Q++(p1++ps2)++[p.2]) [i]:=hA2.perm fun z=>by simp [List.count_cons,List.count_append]<;>omega
    have n3:=m3.nds hA3
    have hil:i<p.1.at_.length:=hA3.lt (by simp)
    have hk1:∀ j∈p1++ps2,(setN p.1 i ⟨[b],[],[p.2,rt]⟩).nd j=A'.nd j:=fun j hj=>(n3 j (by simp at hj ⊢;rcases hj with h|h<;>simp [h])).trans (n2 j (by simp at hj ⊢;rcases hj with h|h<;>simp [h]))
    have hkx:(setN p.1 i ⟨[b],[],[p.2,rt]⟩).nd p.2=some n:=(n3 p.2 (by simp)).trans hx
    refine ⟨h+1,i::(p.2::p1++ps2),?_,⟨_,nd_set _ i _ hil,by rw [inner_size _ _ (by simp)];simp;omega,.inr ⟨?_,by rw [inner_size _ _ (by simp)];simp,rfl,_,rfl,?_⟩⟩,?_⟩
    · refine m.trans ((m2.frame (R:=i::(p1++ps2)) (R1':=i::(p.2::p1++ps2)) (fun z=>by simp [List.count_cons,List.count_append]) (fun z=>by simp [List.count_cons,List.count_append]<;>omega)).trans (m3.frame (R:=p.2::p1++ps2) (fun z=>by simp [List.count_cons,List.count_append]<;>omega) (fun z=>by simp [List.count_cons,List.count_append]<;>omega)))
    · cases h with
      | zero=>exact t1.elim
      | succ h=>omega
    · rw [he]
      refine .cons (k:=b) (es:=es1) (ps:=p.2::p1) ?_ hbt (.one (t2.keep fun j hj=>hk1 j (by simp [hj])))
      cases h with
      | zero=>exact t1.elim
      | succ h =>
        obtain ⟨n',h1,h2,h4⟩:=t1
        rw [hn] at h1;cases h1
        rcases h4 with ⟨e0,h3,h5,h6,h7,h8,h9,h10⟩|⟨e0,h3,h5,p',h10,hk⟩
        · cases h10
          exact ⟨n,hkx,h2,.inl ⟨e0,h3,h5,h6,h7,h8,h9,rfl⟩⟩
        · cases h10
          exact ⟨n,hkx,h2,.inr ⟨e0,h3,h5,p1,rfl,hk.mono fun htr hs=>htr.keep fun j hj=>hk1 j (by simp [hs j hj])⟩⟩
    · unfold takes at hl
      rw [hie.1,if_neg (by decide)] at hl
      rw [hie.1,if_neg (by decide),wantsF,if_pos hie.2]
      have:=hie.2
      simp at hl ⊢
      omega
def delTop (h:Nat) (A:Ar) (i:Nat) (key:Key):Ar :=
  let B:=cutF h A i key
  let n:=nodeAt B i
  if n.kids.length=1 then drop (setN B i (nodeAt B (kid n 0))) (kid n 0) else B
theorem delTop_ok {h:Nat} {A:Ar} {Q:List Nat} {i:Nat} {es:Es} {ps:List Nat} {key:Key} (ht:Tree A.nd A.fan h (0,2) i none none es ps) (hA:Acc A Q ps) (hf:4<=A.fan) (hin:inE key es=true) :
    ∃ h' ps',Mv A (delTop h A i key) ps ps'/\Tree (delTop h A i key).nd A.fan h' (0,2) i none none (delE key es) ps':=by
  obtain ⟨ps',m,t⟩:=cut_ok h ht hA hf (by decide) (Bnd.all key) hin
  unfold delTop
  generalize cutF h A i key=B at *
  dsimp only
  obtain ⟨hB,_⟩:=m.acc Q hA
  cases h with
  | zero=>exact ht.elim
  | succ h =>
    obtain ⟨n,hn,hs,hc⟩:=t
    have hna:nodeAt B i=n:=by simp [nodeAt,hn]
    rw [hna]
    rcases hc with ⟨rfl,h3,hk,h5⟩|⟨h0,h3,hv,p',rfl,hk⟩
    · rw [hk,if_neg (by simp)]
      exact ⟨1,ps',m,n,hn,hs,.inl ⟨rfl,by dsimp only;omega,hk,h5⟩⟩
    · by_cases h1:n.kids.length=1
      rotate_left
      · rw [if_neg h1]
        have:2<=n.size:=by
          have h2:n.size=n.kids.length:=by simp [Nod.size,hk.ne]
          have:=List.length_pos_iff.2 hk.ne
          omega
        exact ⟨h+1,_,m,n,hn,hs,.inr ⟨h0,this,hv,p',rfl,hk⟩⟩
      · rw [if_pos h1]
        have hkl:=hk.len
        obtain ⟨j,is',e,es',p,pp,hi',g1,g2,g3,g4⟩:=hk.head
        have hi0:is'=[]:=by rw [g1] at h1;simpa using h1
        subst hi0
        have hkeys:n.keys=[]:=by rw [h1] at hkl;exact List.eq_nil_of_length_eq_zero (by omega)
        have hkid:kid n 0=j:=by simp [kid,g1,List.getD]
        rw [hkid]
        rw [hkeys,g1] at hk
        have tj:Reg B.nd A.fan h j none none (delE key es) p':=by
          cases hk with
          | one h=>exact h
        obtain ⟨x,hx,p2,hp2⟩:∃ x,B.nd j=some x/\∃ p2,p'=j::p2:=by
          cases h with
          | zero=>exact tj.elim
          | succ h =>
            obtain ⟨x,h1,h2,h4⟩:=tj
            rcases h4 with ⟨_,_,_,_,_,_,_,h5⟩|⟨_,_,_,q,h5,_⟩
            · exact ⟨x,h1,[],h5⟩
            · exact ⟨x,h1,q,h5⟩
        subst hp2
        have hxa:nodeAt B j=x:=by simp [nodeAt,hx]
        rw [hxa]
        have cnt:∀ z,Q.count z+(i::j::p2).count z<=1:=fun z=>by have:=hB z;split at this<;>omega
        have key':∀ z,(if i=z then 1 else 0)+(if j=z then 1 else 0)+p2.count z<=1:=fun z=>by
          have:=cnt z
          simp only [List.count_cons,beq_iff_eq] at this
          omega
        have hij:j≠i:=by rintro rfl;have:=key' j;simp at this;omega
        have hp2i:∀ z∈p2,z≠i/\z≠j:=fun z hz=>by
          have h1:=List.count_pos_iff.2 hz
          have h2:=key' z
          refine ⟨?_,?_⟩<;>(rintro rfl;simp at h2;omega)
        have hil:i<B.at_.length:=hB.lt (by simp)
        have nd1:(drop (setN B i x) j).nd i=some x:=by rw [nd_drop_ne _ _ _ hij,nd_set _ _ _ hil]
        have nd2:∀ z∈p2,(drop (setN B i x) j).nd z=B.nd z:=fun z hz=>by rw [nd_drop_ne _ _ _ (fun e=>(hp2i z hz).2 e.symm),nd_set_ne _ _ _ _ (fun e=>(hp2i z hz).1 e.symm)]
        refine ⟨h,i::p2,m.trans (Mv.trans (P':=i::j::p2) ((mv_set B i x).frame (R:=j::p2) (fun z=>by simp [List.count_cons]<;>omega) (fun z=>by simp [List.count_cons]<;>omega)) ((mv_drop _ j).frame (R:=i::p2) (fun z=>by simp [List.count_cons]<;>omega) (fun z=>by simp))),?_⟩
        cases h with
        | zero=>exact tj.elim
        | succ h =>
          obtain ⟨x',q1,q2,q4⟩:=tj
          rw [hx] at q1;cases q1
          rcases q4 with ⟨e0,q3,q5,q6,q7,q8,q9,q10⟩|⟨e0,q3,q5,q,q10,qk⟩
          · cases q10
            exact ⟨x,nd1,q2,.inl ⟨e0,by dsimp only;omega,q5,q6,q7,q8,q9,rfl⟩⟩
          · cases q10
            exact ⟨x,nd1,q2,.inr ⟨e0,by dsimp only at q3 ⊢;omega,q5,p2,rfl,qk.mono fun htr hs=>htr.keep fun z hz=>nd2 z (hs z hz)⟩⟩
def dropAll (A:Ar) (l:List Nat):Ar:=l.foldl drop A
theorem mv_dropAll:∀ (l:List Nat) (A:Ar),Mv A (dropAll A l) l []
  | [],A=>Mv.refl A []
  | x::l,A=>((mv_drop A x).frame (R:=l) (R1:=x::l) (R1':=l) (fun z=>by simp [List.count_cons]) (fun z=>by simp)).trans (mv_dropAll l (drop A x))
theorem Reg.places {nd:Nat->Option Nod} {fan:Nat} (hf:4<=fan):∀ {h:Nat} {i:Nat} {lo hi:Option Key} {es:Es} {ps:List Nat},Reg nd fan h i lo hi es ps->ps.length+1<=es.length
  | 0,_,_,_,_,_,ht=>ht.elim
  | h+1,i,lo,hi,es,ps,⟨n,hn,hs,hc⟩=>by
    rcases hc with ⟨rfl,hm,hk,hkeys,_,_,_,rfl⟩|⟨h0,hm,_,ps',rfl,hk⟩
    · have:n.size=es.length:=by simp [Nod.size,hk,hkeys,keysE_length]
      simp only [List.length_cons,List.length_nil]
      have:fan / 2<=n.size:=hm
      omega
    · have:∀ {lo hi:Option Key} {ks:List Key} {is:List Nat} {es:Es} {ps:List Nat},Kids (Reg nd fan h) lo hi ks is es ps->ps.length+is.length<=es.length:=by
        intro lo hi ks is es ps hk
        induction hk with
        | one h1=>exact Reg.places hf h1
        | cons h1 _ _ ih=>have:=Reg.places hf h1;simp only [List.length_append,List.length_cons];omega
      have h1:=this hk
      have h2:n.size=n.kids.length:=by simp [Nod.size,hk.ne]
      have h3:fan / 2<=n.size:=hm
      simp only [List.length_cons]
      omega
theorem Tree.places {nd:Nat->Option Nod} {fan:Nat} (hf:4<=fan) {h:Nat} {i:Nat} {lo hi:Option Key} {es:Es} {ps:List Nat} (ht:Tree nd fan h (0,2) i lo hi es ps):ps.length<=1+es.length:=by
  cases h with
  | zero=>exact ht.elim
  | succ h =>
    obtain ⟨n,hn,hs,hc⟩:=ht
    rcases hc with ⟨rfl,hm,hk,hkeys,_,_,_,rfl⟩|⟨h0,hm,_,ps',rfl,hk⟩
    · simp
    · have:∀ {lo hi:Option Key} {ks:List Key} {is:List Nat} {es:Es} {ps:List Nat},Kids (Reg nd fan h) lo hi ks is es ps->ps.length+is.length<=es.length:=by
        intro lo hi ks is es ps hk
        induction hk with
        | one h1=>exact Reg.places hf h1
        | cons h1 _ _ ih=>have:=Reg.places hf h1;simp only [List.length_append,List.length_cons];omega
      have h1:=this hk
      simp only [List.length_cons]
      omega
theorem Tree.height {nd:Nat->Option Nod} {fan:Nat} {h:Nat} {mn:Nat×Nat} {i:Nat} {lo hi:Option Key} {es:Es} {ps:List Nat} (ht:Tree nd fan h mn i lo hi es ps):1<=h/\h<=ps.length:=by
  induction h generalizing i mn lo hi es ps with
  | zero=>exact ht.elim
  | succ h ih =>
    obtain ⟨n,hn,hs,hc⟩:=ht
    rcases hc with ⟨rfl,_,_,_,_,_,_,rfl⟩|⟨h0,hm,_,ps',rfl,hk⟩
    · simp
    · obtain ⟨j,is',e,es',p,pp,hi',g1,g2,g3,rfl⟩:=hk.head
      have:=ih g2
      simp only [List.length_cons,List.length_append]
      omega
end T4
set_option linter.unusedVariables false
set_option linter.unusedSimpArgs false
namespace Go.Proofs.YthfagbfllheneaaGreat
open Go Go.Sx T4
structure NOk (n:Nod):Prop where
  k:n.keys.length<=1000
  v:n.vals.length<=1000
  c:n.kids.length<=1000
  kl:∀ x∈n.keys,x.length<=1048576
  vl:∀ x∈n.vals,x.length<=1048576
structure NodAt (Ω:Nat->Prop) (w:World) (b:Nat) (n:Nod) (A1:Option Addr) (c1:Nat) (A2:Option Addr) (c2:Nat) (A3:Option Addr) (c3:Nat):Prop where
  blk:Blk w b [.slice A1 n.keys.length c1,.slice A2 n.vals.length c2,.slice A3 n.kids.length c3]
  off:¬ Ω b
  l1:n.keys.length<=c1
  l2:n.vals.length<=c2
  l3:n.kids.length<=c3
  keys:Imm KBs Ω w A1 n.keys
  vals:Imm KBs Ω w A2 n.vals
  kids:Imm KN Ω w A3 n.kids
  nil:A3=none<->n.kids=[]
  okn:NOk n
theorem KN_pos:0<KN.size:=by decide
theorem NodAt.keep {Ω Ω':Nat->Prop} {w w':World} {b:Nat} {n:Nod} {A1:Option Addr} {c1:Nat} {A2:Option Addr} {c2:Nat} {A3:Option Addr} {c3:Nat} (h:NodAt Ω w b n A1 c1 A2 c2 A3 c3) (st:Step Ω w Ω' w'):NodAt Ω' w' b n A1 c1 A2 c2 A3 c3:=by
  refine ⟨?_,st.out h.blk.lt h.off,h.l1,h.l2,h.l3,h.keys.keep KBs_pos st,h.vals.keep KBs_pos st,h.kids.keep KN_pos st,h.nil,h.okn⟩
  obtain ⟨e,he⟩:=h.blk
  exact ⟨e,(st.block b h.blk.lt h.off).trans he⟩
def NoR (Ω:Nat->Prop) (w:World):Option Nod->List Value->Prop
  | none,cs=>cs=[.pointer none]
  | some n,cs=>∃ b A1 c1 A2 c2 A3 c3,cs=[.pointer (some ⟨b,0,none⟩)]/\NodAt Ω w b n A1 c1 A2 c2 A3 c3
def KNo:Kd (Option Nod):=⟨1,NoR,fun {Ω w a cs} h=>by
    cases a with
    | none=>have h:cs=_:=h;rw [h];rfl
    | some n=>obtain ⟨_,_,_,_,_,_,_,h,_⟩:=h;rw [h];rfl,fun {Ω w a cs Ω' w'} h st=>by
    cases a with
    | none=>exact h
    | some n=>obtain ⟨b,A1,c1,A2,c2,A3,c3,e,h⟩:=h;exact ⟨b,A1,c1,A2,c2,A3,c3,e,h.keep st⟩⟩
theorem oneP:One KNo:=⟨rfl,fun {Ω w a cs} h v hv=>by
  cases a with
  | none=>have h:cs=_:=h;rw [h] at hv;simp at hv;subst hv;rfl
  | some n=>obtain ⟨_,_,_,_,_,_,_,h,_⟩:=h;rw [h] at hv;simp at hv;subst hv;rfl⟩
def Om (R M:Nat->Prop):Nat->Prop:=fun k=>¬ R k\/M k
abbrev iv (n:Nat):Value:=.int .i64 (n:Int)
def arC (At:Option Addr) (ac:Nat) (Fa:Option Addr) (fc mb:Nat) (A:Ar):List Value:=[iv A.fan,iv A.most,.slice At A.at_.length ac,.slice Fa A.free.length fc,.map (some mb),iv A.last]
def mapE (l:List (Int×Nat)):List (Int×Value):=l.map fun p=>(p.1,iv p.2)
abbrev fI:Int->Value:=fun a=>.int .i64 a
def Stm (w:World) (b:Nat):Prop:=∃ es clock,w.heap[b]?=some (.map es clock)/\Go.MapKept.Stamped es clock
theorem Stm.lt {w:World} {b:Nat} (h:Stm w b):b<w.heap.size:=by obtain ⟨es,c,h,_⟩:=h;exact (Array.getElem?_eq_some_iff.1 h).1
theorem Stm.keep {w w':World} {b:Nat} {S:Nat->Prop} (h:Stm w b) (hf:Fr S w w') (hn:¬ S b):Stm w' b:=by
  have hl:=h.lt
  obtain ⟨es,c,h,hs⟩:=h
  exact ⟨es,c,(hf.block b hl hn).trans h,hs⟩
structure ArA (R M:Nat->Prop) (w:World) (g:Nat) (At:Option Addr) (ac:Nat) (Fa:Option Addr) (fc mb:Nat) (A:Ar):Prop where
  blk:Blk w g (arC At ac Fa fc mb A)
  rlt:∀ k,R k->k<w.heap.size
  mr:∀ k,M k->R k
  mg:M g
  mA:∀ k,ownB At k->M k
  mF:∀ k,ownB Fa k->M k
  mm:M mb
  gA:¬ ownB At g
  gF:¬ ownB Fa g
  aF:∀ k,ownB At k->¬ ownB Fa k
  at_:OwnK (Kd.out (Om R M) KNo) w At ac A.at_
  free:OwnK KN w Fa fc A.free
  trees:MapK fI w mb (mapE A.trees)
  stm:Stm w mb
def Ar1 (R M:Nat->Prop) (w:World) (g:Nat) (A:Ar):Prop:=∃ At ac Fa fc mb,ArA R M w g At ac Fa fc mb A
structure Chg (R M:Nat->Prop) (w:World) (R' M':Nat->Prop) (w':World):Prop where
  fr:Fr M w w'
  m:∀ k,M' k->M k\/w.heap.size<=k
  r:∀ k,R k->R' k
  r':∀ k,R' k->R k\/w.heap.size<=k
theorem Chg.refl (R M:Nat->Prop) (w:World):Chg R M w R M w:=⟨.refl _ _,fun _ h=>.inl h,fun _ h=>h,fun _ h=>.inl h⟩
theorem Chg.trans {R M R' M' R'' M'':Nat->Prop} {w w' w'':World} (h:Chg R M w R' M' w') (h':Chg R' M' w' R'' M'' w''):Chg R M w R'' M'' w'' :=
  ⟨h.fr.trans h'.fr (fun _ _ h=>h) (fun k hk hm=>(h.m k hm).resolve_right (by omega)),
   fun k hk=>(h'.m k hk).elim (h.m k) fun h2=>.inr (Nat.le_trans h.fr.size h2),
   fun k hk=>h'.r k (h.r k hk),
   fun k hk=>(h'.r' k hk).elim (h.r' k) fun h2=>.inr (Nat.le_trans h.fr.size h2)⟩
theorem Chg.ext {R M:Nat->Prop} {w w':World} (e:Ext w w'):Chg R M w R M w':=⟨e.fr,fun _ h=>.inl h,fun _ h=>h,fun _ h=>.inl h⟩
theorem Chg.step {R M R' M':Nat->Prop} {w w':World} (h:Chg R M w R' M' w'):Step (Om R M) w (Om R' M') w' :=
  ⟨h.fr.size,fun k hk hn=>h.fr.block k hk fun hm=>hn (.inr hm),fun k hk ho=>ho.elim (fun hr=>.inl fun h2=>hr (h.r k h2)) fun hm=>.inr ((h.m k hm).resolve_right (by omega))⟩
theorem Ext.om {w w':World} (e:Ext w w') (R M:Nat->Prop):Step (Om R M) w (Om R M) w':=e.step _
theorem ArA.more {R R' M:Nat->Prop} {w:World} {g:Nat} {At:Option Addr} {ac:Nat} {Fa:Option Addr} {fc mb:Nat} {A:Ar} (h:ArA R M w g At ac Fa fc mb A) (h1:∀ k,R k->R' k) (h2:∀ k,R' k->k<w.heap.size):ArA R' M w g At ac Fa fc mb A :=
  ⟨h.blk,h2,fun k hk=>h1 k (h.mr k hk),h.mg,h.mA,h.mF,h.mm,h.gA,h.gF,h.aF,h.at_.toOut (.refl NoB w) (fun _ _ h=>h) (fun _ _ h=>h.elim) (fun k _ hk=>.inr (hk.imp (fun h' h=>h' (h1 k h)) id)),h.free,h.trees,h.stm⟩
theorem ArA.frame {R M:Nat->Prop} {w w':World} {g:Nat} {At:Option Addr} {ac:Nat} {Fa:Option Addr} {fc mb:Nat} {A:Ar} (h:ArA R M w g At ac Fa fc mb A) {S:Nat->Prop} (hf:Fr S w w') (hS:∀ k,k<w.heap.size->S k->¬ R k):ArA R M w' g At ac Fa fc mb A:=by
  have off:∀ k,M k->¬ S k:=fun k hm hs=>hS k (h.rlt k (h.mr k hm)) hs (h.mr k hm)
  refine ⟨h.blk.keep hf (off g h.mg),fun k hk=>Nat.lt_of_lt_of_le (h.rlt k hk) hf.size,h.mr,h.mg,h.mA,h.mF,h.mm,h.gA,h.gF,h.aF,h.at_.toOut hf (fun k hk=>off k (h.mA k hk)) (fun k hk hs=>.inr (.inl (hS k hk hs))) (fun k _ h=>.inr h),?_,h.trees.keep hf (off mb h.mm),h.stm.keep hf (off mb h.mm)⟩
  exact h.free.fr hf (fun k hk=>off k (h.mF k hk)) fun a cs _ h=>h
theorem ArA.ext {R M:Nat->Prop} {w w':World} {g:Nat} {At:Option Addr} {ac:Nat} {Fa:Option Addr} {fc mb:Nat} {A:Ar} (h:ArA R M w g At ac Fa fc mb A) (e:Ext w w'):ArA R M w' g At ac Fa fc mb A:=h.frame e fun _ _ h=>h.elim
theorem Ar1.ext {R M:Nat->Prop} {w w':World} {g:Nat} {A:Ar} (h:Ar1 R M w g A) (e:Ext w w'):Ar1 R M w' g A:=by
  obtain ⟨At,ac,Fa,fc,mb,h⟩:=h;exact ⟨At,ac,Fa,fc,mb,h.ext e⟩
theorem Ar1.frame {R M:Nat->Prop} {w w':World} {g:Nat} {A:Ar} (h:Ar1 R M w g A) {S:Nat->Prop} (hf:Fr S w w') (hS:∀ k,k<w.heap.size->S k->¬ R k):Ar1 R M w' g A:=by
  obtain ⟨At,ac,Fa,fc,mb,h⟩:=h;exact ⟨At,ac,Fa,fc,mb,h.frame hf hS⟩
theorem Ar1.more {R R' M:Nat->Prop} {w:World} {g:Nat} {A:Ar} (h:Ar1 R M w g A) (h1:∀ k,R k->R' k) (h2:∀ k,R' k->k<w.heap.size):Ar1 R' M w g A:=by
  obtain ⟨At,ac,Fa,fc,mb,h⟩:=h;exact ⟨At,ac,Fa,fc,mb,h.more h1 h2⟩
theorem Ar1.lt {R M:Nat->Prop} {w:World} {g:Nat} {A:Ar} (h:Ar1 R M w g A):∀ k,R k->k<w.heap.size:=by
  obtain ⟨At,ac,Fa,fc,mb,h⟩:=h;exact h.rlt
theorem ArA.mbOff {R M:Nat->Prop} {w:World} {g:Nat} {At:Option Addr} {ac:Nat} {Fa:Option Addr} {fc mb:Nat} {A:Ar} (h:ArA R M w g At ac Fa fc mb A):mb≠g/\¬ ownB At mb/\¬ ownB Fa mb:=by
  obtain ⟨es,cl,hm,_⟩:=h.trees
  have own:∀ {A:Option Addr} {n c sz:Nat} {xs:List Value},Own w sz A n c xs->¬ ownB A mb:=by
    rintro A n c sz xs ho ⟨ad,hA,hb⟩
    rcases ho.2.2 with ⟨h,_⟩|⟨g',cur,e,lo,hi,h,hg,_⟩
    · rw [h] at hA;cases hA
    · rw [h] at hA;cases hA;subst hb;rw [hm] at hg;cases hg
  refine ⟨?_,?_,?_⟩
  · rintro rfl
    obtain ⟨e,he⟩:=h.blk
    rw [hm] at he;cases he
  · obtain ⟨xs,ho,_⟩:=h.at_;exact own ho
  · obtain ⟨xs,ho,_⟩:=h.free;exact own ho
theorem ArA.cell {R M:Nat->Prop} {w:World} {g:Nat} {At:Option Addr} {ac:Nat} {Fa:Option Addr} {fc mb:Nat} {A:Ar} (h:ArA R M w g At ac Fa fc mb A) {i:Nat} {a:Option Nod} (hi:A.at_[i]?=some a):∃ ga v,At=some ⟨ga,0,none⟩/\w.cell? ⟨ga,i,none⟩=some v/\NoR (Om R M) w a [v]:=by
  obtain ⟨xs,ho,hf⟩:=(ownK1 (oneP.out _)).1 h.at_
  obtain ⟨v,hv,hr⟩:=hf.get hi
  obtain ⟨ga,rfl,hc⟩:=ho.cells hv
  exact ⟨ga,v,rfl,hc,KNo.keep hr ⟨Nat.le_refl _,fun _ _ _=>rfl,fun k _ h=>.inr h⟩⟩
theorem nd_at {A:Ar} {i:Nat} {n:Nod} (h:A.nd i=some n):A.at_[i]?=some (some n):=by
  unfold Ar.nd at h
  cases hc:A.at_[i]? with
  | none=>rw [hc] at h;cases h
  | some a=>rw [hc] at h;simp at h;rw [h]
theorem ArA.node {R M:Nat->Prop} {w:World} {g:Nat} {At:Option Addr} {ac:Nat} {Fa:Option Addr} {fc mb:Nat} {A:Ar} (h:ArA R M w g At ac Fa fc mb A) {i:Nat} {n:Nod} (hi:A.nd i=some n):i<A.at_.length/\∃ ga b A1 c1 A2 c2 A3 c3,At=some ⟨ga,0,none⟩/\w.cell? ⟨ga,i,none⟩=some (.pointer (some ⟨b,0,none⟩))/\NodAt (Om R M) w b n A1 c1 A2 c2 A3 c3:=by
  have h1:=nd_at hi
  obtain ⟨ga,v,hA,hc,b,A1,c1,A2,c2,A3,c3,e,hn⟩:=h.cell h1
  cases e
  exact ⟨(List.getElem?_eq_some_iff.1 h1).1,ga,b,A1,c1,A2,c2,A3,c3,hA,hc,hn⟩
theorem ArA.setAt {R M:Nat->Prop} {w:World} {g:Nat} {At:Option Addr} {ac:Nat} {Fa:Option Addr} {fc mb:Nat} {A:Ar} (h:ArA R M w g At ac Fa fc mb A) {i:Nat} (hi:i<A.at_.length) {a:Option Nod} {v:Value} (ha:NoR (Om R M) w a [v]) :
    ∃ ga,At=some ⟨ga,0,none⟩/\stOK ((⟨ga,0,none⟩:Addr).add (i*1)) 0 [v] w/\∀ w',w'=setAll ((⟨ga,0,none⟩:Addr).add (i*1)) 0 [v] w->ArA R M w' g At ac Fa fc mb { A with at_:=A.at_.set i a }/\Chg R M w R M w':=by
  obtain ⟨xs,ho,hf⟩:=(ownK1 (oneP.out _)).1 h.at_
  have hxl:=hf.len
  obtain ⟨ga,hA,h1,h2,h3⟩:=ho.at_ (j:=i) (by omega)
  subst hA
  refine ⟨ga,rfl,?_,?_⟩
  · rw [add_new,Nat.zero_add,Nat.mul_one];exact ⟨h1,h2⟩
  · rintro w' rfl
    rw [add_new,Nat.zero_add,Nat.mul_one]
    obtain ⟨ho',hfr⟩:=h3 v
    have hset:setAll (⟨ga,i,none⟩:Addr) 0 [v] w=w.setCell ⟨ga,i,none⟩ v:=by simp [setAll,add_zero']
    rw [hset]
    have st:Step (Om R M) w (Om R M) (w.setCell ⟨ga,i,none⟩ v):=hfr.step (fun k _ hk=>.inr (h.mA k hk)) (fun _ _ h=>h)
    have mOff:=h.mbOff
    refine ⟨⟨by have:=h.blk.keep hfr h.gA;simpa [arC] using this,fun k hk=>Nat.lt_of_lt_of_le (h.rlt k hk) hfr.size,h.mr,h.mg,h.mA,h.mF,h.mm,h.gA,h.gF,h.aF,?_,h.free.fr hfr (fun k hk hk'=>h.aF k hk' hk) (fun _ _ _ h=>h),h.trees.keep hfr mOff.2.1,h.stm.keep hfr mOff.2.1⟩,⟨hfr.mono fun k _ hk=>h.mA k hk,fun _ h=>.inl h,fun _ h=>h,fun _ h=>.inl h⟩⟩
    refine (ownK1 (oneP.out _)).2 ⟨xs.set i v,by rw [List.length_set];exact ho',F2.of (by simp [hxl]) fun j x y hx hy=>?_⟩
    have st2:Step (fun k=>ownB (some ⟨ga,0,none⟩) k\/Om R M k) w (fun k=>ownB (some ⟨ga,0,none⟩) k\/Om R M k) (w.setCell ⟨ga,i,none⟩ v):=hfr.step (fun k _ hk=>.inl hk) (fun _ _ h=>h)
    rw [List.getElem?_set] at hx hy
    by_cases hij:i=j
    · subst hij
      rw [if_pos rfl,if_pos hi] at hx
      rw [if_pos rfl,if_pos (by omega)] at hy
      cases hx;cases hy
      exact KNo.keep ha ⟨hfr.size,fun k hk hn=>hfr.block k hk fun h'=>hn (.inr (h.mA k h')),fun k _ hk=>hk.elim (fun h'=>.inr (h.mA k h')) id⟩
    · rw [if_neg hij] at hx hy
      obtain ⟨y',hy',hr⟩:=hf.get hx
      rw [hy] at hy';cases hy'
      exact KNo.keep hr st2
end Go.Proofs.YthfagbfllheneaaGreat
set_option linter.unusedVariables false
set_option linter.unusedSimpArgs false
namespace Go.Proofs.YthfagbfllheneaaGreat
open Go Go.Sx T4
def getT:List (Int×Nat)->Int->Option Nat
  | [],_=>none
  | (x,u)::l,a=>if a=x then some u else getT l a
theorem getT_M (a:Int):∀ l:List (Int×Nat),getM (mapE l) a=(getT l a).map iv
  | []=>rfl
  | (x,u)::l=>by
    have ih:=getT_M a l
    show (if a=x then some (iv u) else getM (mapE l) a)=(if a=x then some u else getT l a).map iv
    split
    · rfl
    · exact ih
theorem made_spec {R M:Nat->Prop} {w:World} {g:Nat} {A:Ar} (h:Ar1 R M w g A) (hf:0<A.fan):CallsV Tryz.prog 83 #[.pointer (some ⟨g,0,none⟩)] w fun r w'=>r=.bool true/\w'=w:=by
  obtain ⟨At,ac,Fa,fc,mb,h⟩:=h
  refine tree_Arena_made.calls okay ?_
  unfold tree_Arena_made.W
  refine brnb (fun _=>⟨_,rfl,_,h.blk.cell rfl,?_,rfl⟩) (fun h=>by cases h)
  simp;omega
theorem keyI:KeyF Tryz.prog 3 (.int .i64) fI:=keyInt (by kernel_rfl)
theorem zeroI (w:World):(zeroValue 3).run Tryz.prog w=.ok (.int .i64 0) w:=by
  have h:inf Tryz.prog 3=some Tryz.t3:=by kernel_rfl
  simp only [zeroValue,Sem.run_bind,run_inf h,Result.andThen_ok]
  rfl
theorem top_spec {R M:Nat->Prop} {w:World} {g:Nat} {A:Ar} (h:Ar1 R M w g A) (hf:0<A.fan) (root:Int):CallsV Tryz.prog 77 #[.pointer (some ⟨g,0,none⟩),.int .i64 root] w fun r w'=>r=(match getT A.trees root with|some i=>.tuple #[iv i,.int .i64 0]|none=>.tuple #[.int .i64 0,.int .i64 41])/\w'=w:=by
  refine tree_Arena_top.calls okay ?_
  unfold tree_Arena_top.W
  refine (made_spec h hf).same ⟨_,rfl,brnb (fun h=>by cases h) (fun _=>?_)⟩
  obtain ⟨At,ac,Fa,fc,mb,h⟩:=h
  refine ⟨_,rfl,_,h.blk.cell rfl,?_⟩
  have hl:=(h.trees.look (P:=Tryz.prog) keyI (t:=127) (kt:=3) (et:=3) (by kernel_rfl) root (z:=.int .i64 0) zeroI).1
  rw [getT_M] at hl
  cases hg:getT A.trees root with
  | none =>
    rw [hg] at hl
    exact ⟨_,_,_,hl,brnb (fun _=>⟨rfl,rfl⟩) (fun h=>by cases h)⟩
  | some i =>
    rw [hg] at hl
    exact ⟨_,_,_,hl,brnb (fun h=>by cases h) (fun _=>⟨rfl,rfl⟩)⟩
theorem size_spec {Ω:Nat->Prop} {w:World} {b:Nat} {n:Nod} {A1:Option Addr} {c1:Nat} {A2:Option Addr} {c2:Nat} {A3:Option Addr} {c3:Nat} (h:NodAt Ω w b n A1 c1 A2 c2 A3 c3):CallsV Tryz.prog 106 #[.pointer (some ⟨b,0,none⟩)] w fun r w'=>r=iv n.size/\w'=w:=by
  refine tree_node_size.calls okay ?_
  unfold tree_node_size.W
  refine ⟨_,rfl,_,_,_,h.blk.cell rfl,?_⟩
  refine brnb (fun hn=>?_) (fun hn=>?_)
  · have:n.kids≠[]:=fun e=>by rw [h.nil.2 e] at hn;cases hn
    exact ⟨_,rfl,_,_,_,h.blk.cell rfl,by rw [Nod.size,if_neg this],rfl⟩
  · have:n.kids=[]:=h.nil.1 (by cases A3<;>simp_all)
    exact ⟨_,rfl,_,_,_,h.blk.cell rfl,by rw [Nod.size,if_pos this],rfl⟩
theorem below_spec {Ω Ω':Nat->Prop} {w:World} {b:Nat} {n:Nod} {A1:Option Addr} {c1:Nat} {A2:Option Addr} {c2:Nat} {A3:Option Addr} {c3:Nat} (h:NodAt Ω w b n A1 c1 A2 c2 A3 c3) (hu:Up n.keys) {B:Option Addr} {key:Key} (hb:Imm KB Ω' w B key) (cb:Nat) :
    CallsV Tryz.prog 98 #[.pointer (some ⟨b,0,none⟩),.slice B key.length cb] w fun r w'=>r=iv (bel n.keys key)/\w'=w:=by
  refine tree_node_below.calls okay ?_
  unfold tree_node_below.W
  have hk:=h.okn.k
  have hp:=pos_le n.keys key
  refine ⟨_,rfl,_,_,_,h.blk.cell rfl,(Search_spec h.keys hb hu (by omega) c1 cb).same ⟨_,_,rfl,?_⟩⟩
  have e:=bel_pos hu key
  refine br (fun ht=>⟨?_,rfl⟩) (fun hf=>⟨?_,rfl⟩)
  · rw [ht,if_pos rfl] at e;rw [wi _ (by omega) (by omega),e];simp [iv]
  · rw [hf,if_neg (by simp)] at e;rw [e];simp [iv]
theorem Nodes_spec {R M:Nat->Prop} {w:World} {g:Nat} {A:Ar} (h:Ar1 R M w g A) (h1:A.free.length<=A.at_.length) (h2:A.at_.length<=1048576):CallsV Tryz.prog 84 #[.pointer (some ⟨g,0,none⟩)] w fun r w'=>r=iv A.nodes/\w'=w.drew:=by
  obtain ⟨At,ac,Fa,fc,mb,h⟩:=h
  refine tree_Arena_Nodes.calls okay ?_
  unfold tree_Arena_Nodes.W
  refine br (fun h=>by cases h) (fun _=>⟨_,rfl,fun u=>u=w.drew,rfl,?_⟩)
  have hb:=h.blk.keep (Fr.drew NoB w) (fun h=>h)
  refine ⟨_,_,_,fun u hu=>by subst hu;exact hb.cell rfl,_,rfl,_,_,_,fun u hu=>by subst hu;exact hb.cell rfl,?_,rfl⟩
  rw [wi _ (by omega) (by omega)]
  unfold Ar.nodes iv
  congr 1
  omega
theorem setF {w:World} {g:Nat} {cur:List Value} (b:Blk w g cur) {o:Nat} (ho:o<cur.length) (v:Value):stOK ((⟨g,0,none⟩:Addr).add o) 0 [v] w/\∀ w',w'=setAll ((⟨g,0,none⟩:Addr).add o) 0 [v] w->Blk w' g (cur.set o v)/\Fr (fun k=>k=g) w w':=by
  rw [add_new,Nat.zero_add]
  refine ⟨b.stOK [v] 0 (by simp;omega),?_⟩
  rintro w' rfl
  exact ⟨Blk.setAll (o:=o) [v] 0 b,Fr.setAll [v] 0 w⟩
def FreeOk (A:Ar):Prop:=∀ x∈A.free,x<A.at_.length
theorem place_specA {R M:Nat->Prop} {w:World} {g:Nat} {At:Option Addr} {ac:Nat} {Fa:Option Addr} {fc mb:Nat} {A:Ar} (h:ArA R M w g At ac Fa fc mb A) (hl:A.at_.length<=1048576) (hF:FreeOk A) (hfl:A.free.length<=1048576) {n:Nod} {p:Option Addr} (hn:NoR (Om R M) w (some n) [.pointer p]) :
    CallsV Tryz.prog 85 #[.pointer (some ⟨g,0,none⟩),.pointer p] w fun r w'=>r=iv (place A n).2/\∃ R' M',(∃ At' ac' Fa' fc',ArA R' M' w' g At' ac' Fa' fc' mb (place A n).1)/\Chg R M w R' M' w':=by
  refine tree_Arena_place.calls okay ?_
  unfold tree_Arena_place.W
  unfold place
  refine ⟨_,rfl,_,_,_,h.blk.cell rfl,brd (fun hlt=>?_) (fun hge=>?_)⟩
  · have h0:¬ A.free.length=0:=by omega
    rw [if_neg h0]
    have hk:A.free.length-1<A.free.length:=by omega
    have e1:IntKind.i64.wrap ((A.free.length:Int)-1)=((A.free.length-1:Nat):Int):=by rw [wi _ (by omega) (by omega)];omega
    rw [e1,Int.toNat_natCast]
    obtain ⟨xs,ho,hf⟩:=(ownK1 oneN).1 h.free
    have hg:A.free.getD (A.free.length-1) 0=A.free[A.free.length-1]:=by simp [List.getD,hk]
    rw [hg]
    obtain ⟨v,hv,hr⟩:=hf.get (i:=A.free.length-1) (a:=A.free[A.free.length-1]) (by simp)
    have hr:[v]=[iv A.free[A.free.length-1]]:=hr
    cases hr
    obtain ⟨gf,rfl,hc⟩:=ho.cells hv
    have hx:=hF A.free[A.free.length-1] (by simp)
    refine ⟨_,rfl,_,_,_,h.blk.cell rfl,_,rfl,⟨by omega,by omega⟩,_,by rw [add_new,Nat.zero_add,Nat.mul_one];exact hc,_,rfl,_,_,_,h.blk.cell rfl,⟨by omega,by have:=ho.le;omega⟩,_,rfl,?_⟩
    obtain ⟨s1,s2⟩:=setF h.blk (o:=3) (by simp [arC]) (.slice (cutAt (some ⟨gf,0,none⟩) fc 0 1) (A.free.length-1) fc)
    refine ⟨s1,fun w1 hw1=>?_⟩
    obtain ⟨b1,f1⟩:=s2 w1 hw1
    rw [cutAt_zero] at b1
    have mOff:=h.mbOff
    have h1:ArA R M w1 g At ac (some ⟨gf,0,none⟩) fc mb { A with free:=A.free.take (A.free.length-1) }:=by
      refine ⟨by simpa [arC,List.length_take,Nat.min_eq_left (show A.free.length-1<=A.free.length by omega)] using b1,fun k hk=>Nat.lt_of_lt_of_le (h.rlt k hk) f1.size,h.mr,h.mg,h.mA,h.mF,h.mm,h.gA,h.gF,h.aF,h.at_.toOut f1 (fun k hk e=>h.gA (e▸hk)) (fun k _ e=>.inr (.inr (e▸h.mg))) (fun k _ h=>.inr h),(h.free.take _ (by omega)).fr f1 (fun k hk e=>h.gF (e▸hk)) (fun _ _ _ h=>h),h.trees.keep f1 mOff.1,h.stm.keep f1 mOff.1⟩
    have c1:Chg R M w R M w1:=⟨f1.mono fun k _ e=>e▸h.mg,fun _ h=>.inl h,fun _ h=>h,fun _ h=>.inl h⟩
    obtain ⟨ga,rfl,s3,s4⟩:=h1.setAt (i:=A.free[A.free.length-1]) hx (a:=some n) (v:=.pointer p) (KNo.keep (a:=some n) hn c1.step)
    refine ⟨_,rfl,_,_,_,h1.blk.cell rfl,_,rfl,⟨by omega,Int.ofNat_lt.2 hx⟩,by rw [Int.toNat_natCast];exact s3,fun w2 hw2=>?_⟩
    rw [Int.toNat_natCast] at hw2
    obtain ⟨h2,c2⟩:=s4 w2 hw2
    exact ⟨rfl,R,M,⟨_,_,_,_,h2⟩,c1.trans c2⟩
  · have h0:A.free.length=0:=by omega
    rw [if_pos h0]
    refine ⟨_,rfl,_,_,_,h.blk.cell rfl,?_⟩
    intro g1 w1 f
    obtain ⟨rfl,rfl⟩:=f
    have hat:=h.at_
    obtain ⟨A',c',w2,hr,ho,gr⟩:=hat.push (by rw [(oneP.out _).sz];exact slP) (ty:=126) (a:=some n) (cs:=[.pointer p]) (KNo.keep (a:=some n) hn ⟨Nat.le_refl _,fun _ _ _=>rfl,fun k _ hk=>hk.elim (fun h'=>.inr (h.mA k h')) id⟩) (fun v hv=>by simp at hv;subst hv;rfl) (e':=135) (by simp only [maxLen];omega) (by omega)
    have hbk:Blk w2 g (arC At ac Fa fc mb A):=h.blk.keep gr.fr h.gA
    obtain ⟨s1,s2⟩:=setF hbk (o:=2) (by simp [arC]) (.slice A' (A.at_++[some n]).length c')
    refine ⟨_,_,_,w2,hr,_,rfl,s1,fun w3 hw3=>?_⟩
    obtain ⟨b3,f3⟩:=s2 w3 hw3
    have mOff:=h.mbOff
    have hRlt:=h.rlt
    have hgl:=h.blk.lt
    have nA:∀ k,ownB A' k->(ownB At k\/w.heap.size<=k):=gr.sub
    have gA':¬ ownB A' g:=fun hk=>(nA g hk).elim h.gA (by omega)
    have hlt2:=ho.lt
    let R':Nat->Prop:=fun k=>R k\/ownB A' k
    let M':Nat->Prop:=fun k=>(M k/\(ownB At k->ownB A' k))\/ownB A' k
    refine ⟨_,rfl,_,_,_,b3.cell rfl,?_,R',M',⟨A',c',Fa,fc,?_⟩,⟨?_,?_,fun k hk=>.inl hk,?_⟩⟩
    · have e1:IntKind.i64.wrap (((A.at_++[some n]).length:Int)-1)=(A.at_.length:Int):=by
        rw [List.length_append,List.length_singleton,wi _ (by omega) (by omega)];omega
      exact congrArg (Value.int .i64) e1
    · have st:∀ k,k<w.heap.size->(ownB A' k\/Om R' M' k)->(ownB At k\/Om R M k):=by
        intro k hk h'
        rcases h' with h'|h'
        · exact .inl ((nA k h').resolve_right (by omega))
        · rcases h' with h'|h'
          · exact .inr (.inl fun hr=>h' (.inl hr))
          · rcases h' with h'|h'
            · exact .inr (.inr h'.1)
            · exact .inl ((nA k h').resolve_right (by omega))
      refine ⟨b3,?_,?_,.inl ⟨h.mg,fun hk=>absurd hk h.gA⟩,fun k hk=>.inr hk,fun k hk=>.inl ⟨h.mF k hk,fun hk'=>absurd hk (h.aF k hk')⟩,.inl ⟨h.mm,fun hk=>absurd hk mOff.2.1⟩,gA',h.gF,?_,?_,?_,?_,?_⟩
      · rintro k (hk|hk)
        · exact Nat.lt_of_lt_of_le (Nat.lt_of_lt_of_le (hRlt k hk) gr.fr.size) f3.size
        · exact Nat.lt_of_lt_of_le (hlt2 k hk) f3.size
      · rintro k (hk|hk)
        · exact .inl (h.mr k hk.1)
        · exact .inr hk
      · intro k hk hk'
        rcases nA k hk with h'|h'
        · exact h.aF k h' hk'
        · have:=h.free.lt k hk';omega
      · have h2:OwnK (Kd.out (Om R' M') KNo) w2 A' c' (A.at_++[some n]):=by
          obtain ⟨xs,ho',hr'⟩:=ho
          exact ⟨xs,ho',fun i a ha=>KNo.keep (hr' i a ha) ⟨Nat.le_refl _,fun _ _ _=>rfl,fun k hk h'=>by
            rcases h' with h'|h'
            · exact .inl h'
            · rcases h' with h'|h'
              · exact .inr (.inl fun hr=>h' (.inl hr))
              · rcases h' with h'|h'
                · exact .inr (.inr h'.1)
                · exact .inl h'⟩⟩
        exact h2.toOut f3 (fun k hk e=>gA' (e▸hk)) (fun k _ e=>.inr (.inr (.inl ⟨e▸h.mg,fun hk=>absurd (e▸hk) h.gA⟩))) (fun k _ h=>.inr h)
      · exact (h.free.fr gr.fr (fun k hk hk'=>h.aF k hk' hk) (fun _ _ _ h=>h)).fr f3 (fun k hk e=>h.gF (e▸hk)) (fun _ _ _ h=>h)
      · exact (h.trees.keep gr.fr mOff.2.1).keep f3 mOff.1
      · exact (h.stm.keep gr.fr mOff.2.1).keep f3 mOff.1
    · exact gr.fr.trans f3 (fun k _ hk=>h.mA k hk) (fun k _ e=>e▸h.mg)
    · rintro k (hk|hk)
      · exact .inl hk.1
      · exact (nA k hk).imp (h.mA k) id
    · rintro k (hk|hk)
      · exact .inl hk
      · exact (nA k hk).imp (fun h'=>h.mr k (h.mA k h')) id
theorem place_spec {R M:Nat->Prop} {w:World} {g:Nat} {A:Ar} (h:Ar1 R M w g A) (hl:A.at_.length<=1048576) (hF:FreeOk A) (hfl:A.free.length<=1048576) {n:Nod} {p:Option Addr} (hn:NoR (Om R M) w (some n) [.pointer p]) :
    CallsV Tryz.prog 85 #[.pointer (some ⟨g,0,none⟩),.pointer p] w fun r w'=>r=iv (place A n).2/\∃ R' M',Ar1 R' M' w' g (place A n).1/\Chg R M w R' M' w':=by
  obtain ⟨At,ac,Fa,fc,mb,h⟩:=h
  refine (place_specA h hl hF hfl hn).mono ?_
  rintro r w' ⟨hr,R',M',⟨At',ac',Fa',fc',h'⟩,c⟩
  exact ⟨hr,R',M',⟨_,_,_,_,_,h'⟩,c⟩
theorem drop_spec {R M:Nat->Prop} {w:World} {g:Nat} {A:Ar} (h:Ar1 R M w g A) (hfl:A.free.length<=1048576) {i:Nat} (hi:i<A.at_.length) :
    CallsV Tryz.prog 80 #[.pointer (some ⟨g,0,none⟩),iv i] w fun r w'=>r=.tuple #[]/\∃ R' M',Ar1 R' M' w' g (drop A i)/\Chg R M w R' M' w':=by
  obtain ⟨At,ac,Fa,fc,mb,h⟩:=h
  refine tree_Arena_drop.calls okay ?_
  unfold tree_Arena_drop.W
  obtain ⟨ga,rfl,s3,s4⟩:=h.setAt hi (a:=none) (v:=.pointer none) rfl
  refine ⟨_,rfl,_,_,_,h.blk.cell rfl,_,rfl,⟨by omega,by omega⟩,by rw [Int.toNat_natCast];exact s3,fun w1 hw1=>?_⟩
  rw [Int.toNat_natCast] at hw1
  obtain ⟨h1,c1⟩:=s4 w1 hw1
  refine ⟨_,rfl,_,_,_,h1.blk.cell rfl,?_⟩
  intro g1 w2 f
  obtain ⟨rfl,rfl⟩:=f
  obtain ⟨A',c',w3,hr,ho,gr⟩:=h1.free.push (K:=KN) slI (ty:=39) (a:=i) (cs:=[iv i]) rfl (fun v hv=>by simp at hv;subst hv;rfl) (e':=3) (by simp only [maxLen];show A.free.length+1<=_;omega) (by show (A.free.length+1)*8<=_;omega)
  have hbk:Blk w3 g _:=h1.blk.keep gr.fr h1.gF
  obtain ⟨s1,s2⟩:=setF hbk (o:=3) (by simp [arC]) (.slice A' (A.free++[i]).length c')
  refine ⟨_,_,_,w3,hr,_,rfl,s1,fun w4 hw4=>?_⟩
  obtain ⟨b4,f4⟩:=s2 w4 hw4
  have mOff:=h1.mbOff
  have hgl:=h1.blk.lt
  have nA:∀ k,ownB A' k->(ownB Fa k\/w1.heap.size<=k):=gr.sub
  have gA':¬ ownB A' g:=fun hk=>(nA g hk).elim h1.gF (by omega)
  have hlt2:=ho.lt
  have hatl:=h1.at_.lt
  let R':Nat->Prop:=fun k=>R k\/ownB A' k
  let M':Nat->Prop:=fun k=>M k\/ownB A' k
  have c2:Chg R M w1 R' M' w4:=by
    refine ⟨gr.fr.trans f4 (fun k _ hk=>h1.mF k hk) (fun k _ e=>e▸h1.mg),?_,fun k hk=>.inl hk,?_⟩
    · rintro k (hk|hk)
      · exact .inl hk
      · exact (nA k hk).imp (h1.mF k) id
    · rintro k (hk|hk)
      · exact .inl hk
      · exact (nA k hk).imp (fun h'=>h1.mr k (h1.mF k h')) id
  refine ⟨rfl,R',M',⟨some ⟨ga,0,none⟩,ac,A',c',mb,?_⟩,c1.trans c2⟩
  refine ⟨by simpa [arC,drop] using b4,?_,?_,.inl h1.mg,fun k hk=>.inl (h1.mA k hk),fun k hk=>.inr hk,.inl h1.mm,h1.gA,gA',?_,?_,?_,?_,?_⟩
  · rintro k (hk|hk)
    · exact Nat.lt_of_lt_of_le (h1.rlt k hk) c2.fr.size
    · exact Nat.lt_of_lt_of_le (hlt2 k hk) f4.size
  · rintro k (hk|hk)
    · exact .inl (h1.mr k hk)
    · exact .inr hk
  · intro k hk hk'
    rcases nA k hk' with h'|h'
    · exact h1.aF k hk h'
    · have:=hatl k hk;omega
  · have fr2:Fr (fun k=>ownB Fa k\/k=g) w1 w4:=gr.fr.trans f4 (fun k _ hk=>.inl hk) (fun k _ e=>.inr e)
    refine h1.at_.toOut fr2 (fun k hk h'=>h'.elim (h1.aF k hk) fun e=>h1.gA (e▸hk)) (fun k _ hk=>.inr (.inr (hk.elim (h1.mF k) fun e=>e▸h1.mg))) (fun k hk h'=>?_)
    · rcases h' with h'|h'|h'
      · exact .inr (.inl fun hr=>h' (.inl hr))
      · exact .inr (.inr h')
      · exact .inr (.inr (h1.mF k ((nA k h').resolve_right (by omega))))
  · exact ho.fr f4 (fun k hk e=>gA' (e▸hk)) (fun _ _ _ h=>h)
  · exact (h1.trees.keep gr.fr mOff.2.2).keep f4 mOff.1
  · exact (h1.stm.keep gr.fr mOff.2.2).keep f4 mOff.1
end Go.Proofs.YthfagbfllheneaaGreat
set_option linter.unusedVariables false
set_option linter.unusedSimpArgs false
namespace Go.Proofs.YthfagbfllheneaaGreat
open Go Go.Sx T4
/-! ## trees, by their nodes -/
theorem kids_nth {T:TP} {lo hi:Option Key} {ks:List Key} {is:List Nat} {es:Es} {ps:List Nat} (h:T4.Kids T lo hi ks is es ps):∀ (c j:Nat),is[c]?=some j->∃ lo' hi' es' ps',T j lo' hi' es' ps':=by
  induction h with
  | one h=>intro c j hc;cases c with|zero=>simp at hc;subst hc;exact ⟨_,_,_,_,h⟩|succ c=>simp at hc
  | cons h _ _ ih=>intro c j hc;cases c with|zero=>simp at hc;subst hc;exact ⟨_,_,_,_,h⟩|succ c=>exact ih c j (by simpa using hc)
theorem kid_get {n:Nod} {c:Nat} (h:c<n.kids.length):n.kids[c]?=some (kid n c):=by simp [kid,List.getD,h]
theorem tree_node {nd:Nat->Option Nod} {fan k:Nat} {mn:Nat×Nat} {j:Nat} {lo hi:Option Key} {es:Es} {ps:List Nat} (h:Tree nd fan k mn j lo hi es ps) :
    ∃ n,nd j=some n/\n.size<=fan/\((k=1/\n.kids=[]/\n.keys=keysE es/\n.vals=valsE es/\UpE es/\n.vals.length=n.keys.length) \/
      (∃ k',k=k'+1/\0<k'/\n.kids≠[]/\n.vals=[]/\Up n.keys/\n.kids.length=n.keys.length+1/\(∀ c,c<n.kids.length->∃ lo' hi' es' ps',Reg nd fan k' (kid n c) lo' hi' es' ps') /\
        ∀ key,Bnd lo hi key->bel n.keys key<n.kids.length/\∃ lo' hi' es' ps',Reg nd fan k' (kid n (bel n.keys key)) lo' hi' es' ps'/\Bnd lo' hi' key/\∃ rest:List Nat,j∈rest/\∀ z,ps.count z=rest.count z+ps'.count z)):=by
  cases k with
  | zero=>exact h.elim
  | succ k =>
    obtain ⟨n,hn,hs,hc⟩:=h
    refine ⟨n,hn,hs,?_⟩
    rcases hc with ⟨rfl,h3,hk,hkeys,hvals,hu,hb,rfl⟩|⟨h0,h3,hv,ps',rfl,hk⟩
    · exact .inl ⟨rfl,hk,hkeys,hvals,hu,by rw [hkeys,hvals,keysE_length,valsE_length]⟩
    · refine .inr ⟨k,rfl,h0,hk.ne,hv,hk.keys.1,hk.len,fun c hc=>kids_nth hk c _ (kid_get hc),fun key hb=>?_⟩
      obtain ⟨ks1,ks2,is1,is2,i,lo',hi',es1,es2,e,ps1,ps2,p,h1,h2,h4,h5,h6,h7,h8,h9,h10,h11,_⟩:=hk.find Tree.inB hb
      have hlt:bel n.keys key<n.kids.length:=by rw [h2];simp;omega
      have hi':kid n (bel n.keys key)=i:=by
        have:n.kids[bel n.keys key]?=some i:=by rw [h2,<- h5];simp
        rw [kid_get hlt] at this;exact Option.some.inj this
      exact ⟨hlt,lo',_,e,p,hi'▸h7,h11,j::(ps1++ps2),by simp,fun z=>by rw [h10];simp only [List.count_cons,List.count_append];omega⟩
/-! ## a node's cells -/
theorem NodAt.kidC {Ω:Nat->Prop} {w:World} {b:Nat} {n:Nod} {A1:Option Addr} {c1:Nat} {A2:Option Addr} {c2:Nat} {A3:Option Addr} {c3:Nat} (h:NodAt Ω w b n A1 c1 A2 c2 A3 c3) {c:Nat} (hc:c<n.kids.length):∃ ad,A3=some ad/\w.cell? (ad.add (c*1))=some (iv (kid n c)):=by
  obtain ⟨ad,hA,_,cs,hr,hv⟩:=h.kids c (kid n c) (kid_get hc)
  cases hr
  exact ⟨ad,hA,hv 0 _ rfl⟩
theorem list_item {Ω:Nat->Prop} {w:World} {A:Option Addr} {l:List Key} (h:Imm KBs Ω w A l) {c:Nat} (hc:c<l.length):∃ ad B cb,A=some ad/\w.cell? (ad.add (c*1))=some (.slice B (l.getD c []).length cb)/\(l.getD c []).length<=cb/\Imm KB Ω w B (l.getD c []):=by
  have hg:l[c]?=some (l.getD c []):=by simp [List.getD,hc]
  obtain ⟨ad,hA,_,cs,⟨B,cb,hr,hcb,hB⟩,hv⟩:=h c _ hg
  subst hr
  exact ⟨ad,B,cb,hA,hv 0 _ rfl,hcb,hB⟩
theorem Ext.cell {w u:World} (e:Ext w u) {a:Addr} {v:Value} (h:w.cell? a=some v):u.cell? a=some v:=Fr.cell e (fun h=>h) h
/-! ## New -/
def A0 (fan most:Nat):Ar:=⟨fan,most,[],[],[],0⟩
theorem New_spec (w:World) (fan most:Nat) (h1:4<=fan) (h2:fan<=64) (h3:1<=most) (h4:most<=65536) :
    CallsV Tryz.prog 59 #[iv fan,iv most] w fun r w'=>∃ g R M,r=.tuple #[.pointer (some ⟨g,0,none⟩),.int .i64 0]/\Ar1 R M w' g (A0 fan most)/\Ext w w'/\∀ k,R k->w.heap.size<=k:=by
  refine tree_New.calls okay ?_
  unfold tree_New.W
  refine brd (fun h=>by omega) fun _=>brd (fun h=>by omega) fun _=>brd (fun h=>by omega) fun _=>brd (fun h=>by omega) fun _=>⟨_,_,makeMap_run _ _,?_⟩
  intro g w1 f
  have hs:(w.alloc (.map #[] 0)).heap.size=w.heap.size+1:=by simp [World.alloc,-World.alloc_eq]
  have hge:=f.ge
  have e0:Ext w (w.alloc (.map #[] 0)):=Fr.alloc NoB w _
  refine ⟨g,fun k=>w.heap.size<=k/\k<w1.heap.size,fun k=>k=g\/k=w.heap.size,rfl,⟨none,0,none,0,w.heap.size,?_⟩,e0.trans' f.ext,fun k hk=>hk.1⟩
  have hlt:=f.lt
  refine ⟨f.blk,fun k hk=>hk.2,?_,.inl rfl,fun k hk=>(ownB_none k hk).elim,fun k hk=>(ownB_none k hk).elim,.inr rfl,ownB_none g,ownB_none g,fun k hk=>(ownB_none k hk).elim,OwnK.nil _ _,OwnK.nil _ _,(MapK.new fI w).ext f.ext,Stm.keep (w:=w.alloc (.map #[] 0)) ⟨#[],0,Go.heap_alloc_new w _,Go.MapKept.stamped_empty 0⟩ f.ext (fun h=>h)⟩
  rintro k (rfl|rfl)<;>omega
/-! ## an entry of a leaf -/
def eR (A:Option Addr) (c:Nat) (k:Key) (B:Option Addr) (d:Nat) (v:Key):Value:=.tuple #[.slice A k.length c,.slice B v.length d,.bool true]
def eN:Value:=.tuple #[.slice none 0 0,.slice none 0 0,.bool false]
def Told (w:World) (x:Option (Key×Key)) (r:Value) (w':World):Prop:=match x with
  | none=>r=eN
  | some (k,v)=>∃ A c B d,r=eR A c k B d v/\OwnB w' A c k/\OwnB w' B d v/\New w A/\New w B/\(∀ b,ownB A b->¬ ownB B b)/\k.length<=1048576/\v.length<=1048576
theorem Told.from {w0 w w':World} {x:Option (Key×Key)} {r:Value} (h:Told w x r w') (e:Ext w0 w):Told w0 x r w':=by
  cases x with
  | none=>exact h
  | some p=>obtain ⟨k,v⟩:=p;obtain ⟨A,c,B,d,h1,h2,h3,h4,h5,h6⟩:=h;exact ⟨A,c,B,d,h1,h2,h3,h4.ext e,h5.ext e,h6⟩
theorem ownB_of {Ω:Nat->Prop} {w:World} {A:Option Addr} {c:Nat} {l:List UInt8} (h:OwnK (Kd.out Ω KB) w A c l):OwnB w A c l:=by
  obtain ⟨xs,ho,hf⟩:=(ownK1 (oneB.out Ω)).1 h
  have:xs=l.map u8:=by
    apply List.ext_getElem?
    intro i
    rw [List.getElem?_map]
    cases hl:l[i]? with
    | none =>
      have:=(List.getElem?_eq_none_iff.1 hl)
      rw [List.getElem?_eq_none (by rw [hf.len];exact this)];rfl
    | some a =>
      obtain ⟨v,hv,hr⟩:=hf.get hl
      have hr:[v]=[u8 a]:=hr
      cases hr
      rw [hv];rfl
  subst this
  exact ho
theorem CloneB_own {Ω:Nat->Prop} {w:World} {A:Option Addr} {c:Nat} {l:List UInt8} (h:Imm KB Ω w A l) (hl:l.length<=2097152):CallsV Tryz.prog 91 #[.slice A l.length c] w fun r w'=>∃ A' c',r=.slice A' l.length c'/\OwnB w' A' c' l/\Ext w w'/\New w A':=by
  refine (CloneB_spec oneB h hl).mono ?_
  rintro _ w' ⟨A',c',rfl,ho,e,n,_⟩
  exact ⟨A',c',rfl,ownB_of ho,e,n⟩
theorem entry_spec {Ω:Nat->Prop} {w:World} {b:Nat} {n:Nod} {A1:Option Addr} {c1:Nat} {A2:Option Addr} {c2:Nat} {A3:Option Addr} {c3:Nat} (h:NodAt Ω w b n A1 c1 A2 c2 A3 c3) (hv:n.vals.length=n.keys.length) (k:Int) :
    CallsV Tryz.prog 99 #[.pointer (some ⟨b,0,none⟩),.int .i64 k] w fun r w'=>Told w (entryF n k) r w'/\Ext w w':=by
  refine tree_entry.calls okay ?_
  unfold tree_entry.W
  unfold entryF
  refine brd (fun hk=>?_) fun hk=>⟨_,rfl,_,_,_,h.blk.cell rfl,brd (fun hk2=>?_) fun hk2=>?_⟩
  · rw [if_pos (.inl hk)];exact ⟨rfl,.refl _ _⟩
  · rw [if_pos (.inr hk2)];exact ⟨rfl,.refl _ _⟩
  · rw [if_neg (by omega)]
    obtain ⟨i,rfl⟩:∃ i:Nat,k=(i:Int):=⟨k.toNat,by omega⟩
    have hi:i<n.keys.length:=by omega
    obtain ⟨ad,B,cb,hA,hc,hcb,hB⟩:=list_item h.keys hi
    obtain ⟨ad2,B2,cb2,hA2,hc2,hcb2,hB2⟩:=list_item h.vals (c:=i) (by omega)
    have ed:Ext w w.drew:=Fr.drew NoB w
    have hkl:(n.keys.getD i []).length<=1048576:=h.okn.kl _ (by simp [List.getD,hi])
    have hvl:(n.vals.getD i []).length<=1048576:=h.okn.vl _ (by simp [List.getD,show i<n.vals.length by omega])
    rw [Int.toNat_natCast]
    refine ⟨_,rfl,fun u=>Ext w u,ed,_,_,_,fun u e=>(h.blk.ext e).cell rfl,ad,hA,⟨by omega,by omega⟩,_,_,_,fun u e=>Ext.cell e hc,_,rfl,_,_,_,fun u e=>(h.blk.ext e).cell rfl,ad2,hA2,⟨by omega,by omega⟩,_,_,_,fun u e=>Ext.cell e hc2,?_⟩
    refine (CloneB_own (hB.ext KB_pos ed) (by omega)).mono ?_
    rintro _ w1 ⟨A',c',rfl,ho1,e1,n1⟩
    have e1':=ed.trans' e1
    refine ⟨_,_,_,rfl,e1',(CloneB_own (hB2.ext KB_pos e1') (by omega)).mono ?_⟩
    rintro _ w2 ⟨B',d',rfl,ho2,e2,n2⟩
    refine ⟨_,_,_,rfl,e1'.trans' e2,⟨A',c',B',d',rfl,ho1.ext e2,ho2,n1.ext ed,n2.ext e1',fun k hk hk'=>?_,hkl,hvl⟩,e1'.trans' e2⟩
    have:=ho1.lt k hk
    have:=n2 k hk'
    omega
/-! ## the way to a leaf -/
theorem leaf_spec {R M:Nat->Prop} {w:World} {g:Nat} {A:Ar} (h:Ar1 R M w g A) {H:Nat} {mn:Nat×Nat} {i:Nat} {lo hi:Option Key} {es:Es} {ps:List Nat} {key:Key} (ht:Tree A.nd A.fan H mn i lo hi es ps) (hb:Bnd lo hi key) (hH:H<=1048576) {Ω:Nat->Prop} {B:Option Addr} (hB:Imm KB Ω w B key) (cb:Nat) :
    CallsV Tryz.prog 86 #[.pointer (some ⟨g,0,none⟩),iv i,.slice B key.length cb] w fun r w'=>∃ b A1 c1 A2 c2 A3 c3 W wc,r=.tuple #[.pointer (some ⟨b,0,none⟩),.slice W (leafF H A i key).2.length wc]/\NodAt (Om R M) w' b (leafF H A i key).1 A1 c1 A2 c2 A3 c3/\OwnK KN w' W wc (leafF H A i key).2/\Ext w w'/\New w W:=by
  obtain ⟨At,ac,Fa,fc,mb,h⟩:=h
  refine tree_Arena_leaf.calls okay ?_
  unfold tree_Arena_leaf.W
  intro g0 w1 f
  have e1:=f.ext
  obtain ⟨n,hn,_,_⟩:=tree_node ht
  obtain ⟨hil,ga,b,A1,c1,A2,c2,A3,c3,rfl,hc,hN⟩:=(h.ext e1).node hn
  have hna:nodeAt A i=n:=by simp [nodeAt,hn]
  have how:OwnK KN w1 (some ⟨g0,0,none⟩) 1 [i]:=by
    obtain ⟨rfl,rfl⟩:=f
    exact ownK_lit (K:=KN) (l:=[i]) (cs:=[iv i]) rfl (by simp [maxLen]) (fun j a hj=>by cases j with|zero=>simp at hj;subst hj;rfl|succ j=>simp at hj)
  have hnw:New w (some ⟨g0,0,none⟩):=fun k hk=>by rw [ownB_some] at hk;subst hk;exact f.ge
  refine ⟨_,rfl,_,_,_,(h.ext e1).blk.cell rfl,_,rfl,⟨by omega,by omega⟩,_,by rw [add_new,Nat.zero_add,Int.toNat_natCast,Nat.mul_one];exact hc,?_⟩
  refine ⟨fun W m wc p u=>∃ k j mn lo hi es ps pre b A1 c1 A2 c2 A3 c3,Tree A.nd A.fan k mn j lo hi es ps/\Bnd lo hi key/\pre.length+k=H/\m=pre.length+1/\p=some ⟨b,0,none⟩/\NodAt (Om R M) u b (nodeAt A j) A1 c1 A2 c2 A3 c3/\OwnK KN u W wc (pre++[j])/\Ext w u/\New w W/\(leafF H A i key).1=(leafF k A j key).1/\(leafF H A i key).2=pre++(leafF k A j key).2,fun _ m _ _ _=>H+1-m,⟨H,i,mn,lo,hi,es,ps,[],b,A1,c1,A2,c2,A3,c3,ht,hb,by simp,rfl,rfl,hna▸hN,how,e1,hnw,rfl,rfl⟩,?_⟩
  rintro W m wc p u ⟨k,j,mn,lo,hi,es,ps,pre,b,A1,c1,A2,c2,A3,c3,ht,hb,hpk,rfl,rfl,hN,how,eu,hnw,hl1,hl2⟩
  obtain ⟨n,hn,hsz,hcs⟩:=tree_node ht
  have hna:nodeAt A j=n:=by simp [nodeAt,hn]
  rw [hna] at hN
  refine ⟨_,rfl,_,_,_,hN.blk.cell rfl,brnb (fun hnn=>?_) (fun hnn=>?_)⟩
  · have hne:n.kids≠[]:=fun e=>by rw [hN.nil.2 e] at hnn;cases hnn
    rcases hcs with ⟨_,hk,_⟩|⟨k',rfl,h0,_,_,hu,hlen,_,hfind⟩
    · exact absurd hk hne
    obtain ⟨hbl,lo',hi',es',ps',ht',hb',_⟩:=hfind key hb
    have ed:Ext u u.drew:=Fr.drew NoB u
    have ewd:=eu.trans' ed
    refine ⟨_,rfl,fun v=>Ext u v,ed,_,_,_,fun v e=>(hN.blk.ext e).cell rfl,?_⟩
    have hNd:=hN.keep (Ext.om ed R M)
    refine (below_spec hNd hu (hB.ext KB_pos ewd) cb).mono ?_
    rintro _ _ ⟨rfl,rfl⟩
    obtain ⟨ad,hA3,hkc⟩:=hN.kidC hbl
    obtain ⟨n',hn',_,_⟩:=tree_node ht'
    have hna':nodeAt A (kid n (bel n.keys key))=n':=by simp [nodeAt,hn']
    obtain ⟨hil',ga',b',B1,d1,B2,d2,B3,d3,hAt,hc',hN'⟩:=(h.ext ewd).node hn'
    cases hAt
    refine ⟨_,rfl,ed,ad,hA3,⟨by omega,by omega⟩,fun v=>Ext u v,ed,_,fun v e=>by rw [Int.toNat_natCast];exact Ext.cell e hkc,_,rfl,_,_,_,(h.ext ewd).blk.cell rfl,_,rfl,⟨by omega,by omega⟩,_,by rw [add_new,Nat.zero_add,Int.toNat_natCast,Nat.mul_one];exact hc',?_⟩
    intro g1 w2 f2
    obtain ⟨rfl,rfl⟩:=f2
    obtain ⟨A',c',w3,hr,ho,gr⟩:=(how.ext ed).push (K:=KN) slI (ty:=39) (a:=kid n (bel n.keys key)) (cs:=[iv (kid n (bel n.keys key))]) rfl (fun v hv=>by simp at hv;subst hv;rfl) (e':=3) (by simp only [maxLen,List.length_append,List.length_singleton];omega) (by simp only [List.length_append,List.length_singleton];omega)
    have e3:Ext w w3:=gr.ext ewd hnw
    have st3:Step (Om R M) u.drew (Om R M) w3:=gr.fr.step (fun k hk hk'=>.inl fun hR=>by
      have h1:=hnw k hk'
      have h2:=h.rlt k hR
      omega) (fun _ _ h=>h)
    have hll:leafF (k'+1) A j key=((leafF k' A (kid n (bel n.keys key)) key).1,j::(leafF k' A (kid n (bel n.keys key)) key).2):=by
      rw [leafF,hna];exact if_neg hne
    have hlp:(pre++[j]).length=pre.length+1:=by simp
    refine ⟨_,_,_,w3,by rw [hlp] at hr;exact hr,⟨k',kid n (bel n.keys key),_,lo',hi',es',ps',pre++[j],b',B1,d1,B2,d2,B3,d3,ht',hb',by simp;omega,by simp,rfl,hna'.symm▸hN'.keep st3,ho,e3,gr.new ewd hnw,by rw [hl1,hll],by rw [hl2,hll];simp⟩,by simp;omega⟩
  · have hk:n.kids=[]:=hN.nil.1 (by cases A3<;>simp_all)
    have h0:1<=k:=by cases k with|zero=>exact ht.elim|succ k=>omega
    obtain ⟨k',rfl⟩:∃ k',k=k'+1:=⟨k-1,by omega⟩
    have hll:leafF (k'+1) A j key=(n,[j]):=by rw [leafF,hna];exact if_pos hk
    rw [hll] at hl1 hl2
    refine ⟨b,A1,c1,A2,c2,A3,c3,W,wc,?_,by rw [hl1];exact hN,by rw [hl2];exact how,eu,hnw⟩
    rw [hl2];simp
end Go.Proofs.YthfagbfllheneaaGreat
set_option linter.unusedVariables false
set_option linter.unusedSimpArgs false
namespace Go.Proofs.YthfagbfllheneaaGreat
open Go Go.Sx T4
def Ra (R:Nat->Prop) (w w':World):Nat->Prop:=fun k=>R k\/(w.heap.size<=k/\k<w'.heap.size)
theorem Ar1.absorb {R M:Nat->Prop} {w w':World} {g:Nat} {A:Ar} (h:Ar1 R M w g A) (e:Ext w w'):Ar1 (Ra R w w') M w' g A/\Chg R M w (Ra R w w') M w':=by
  have hl:=h.lt
  refine ⟨(h.ext e).more (fun k hk=>.inl hk) ?_,⟨e.fr,fun _ h=>.inl h,fun _ h=>.inl h,fun k hk=>hk.imp id fun h=>h.1⟩⟩
  rintro k (hk|hk)
  · exact Nat.lt_of_lt_of_le (hl k hk) e.size
  · exact hk.2
theorem Ar1.mlt {R M:Nat->Prop} {w:World} {g:Nat} {A:Ar} (h:Ar1 R M w g A):∀ k,M k->k<w.heap.size:=by
  obtain ⟨At,ac,Fa,fc,mb,h⟩:=h;exact fun k hk=>h.rlt k (h.mr k hk)
theorem ra_off {R M:Nat->Prop} {w w':World} (hM:∀ k,M k->k<w.heap.size) {k:Nat} (h1:w.heap.size<=k) (h2:k<w'.heap.size):¬ Om (Ra R w w') M k:=by
  rintro (h|h)
  · exact h (.inr ⟨h1,h2⟩)
  · have:=hM k h;omega
theorem ra_sub {R M:Nat->Prop} {w w':World} {k:Nat} (h:Om (Ra R w w') M k):Om R M k:=h.imp (fun h h'=>h (.inl h')) id
theorem clone_imm {α:Type} {K:Kd α} (hK:One K) {Ω Ω':Nat->Prop} {u w':World} {A:Option Addr} {c:Nat} {l:List α} (ho:OwnK (Kd.out Ω K) u A c l) (e:Ext u w') (hΩ:∀ k,ownB A k->¬ Ω' k) (hs:∀ k,Ω' k->Ω k):Imm K Ω' w' A l :=
  OwnK.immOut hK (ho.toOut e (fun _ _ h=>h) (fun _ _ h=>h.elim) (fun k _ h=>.inr (hs k h))) hΩ
theorem imm_take {α:Type} {K:Kd α} {Ω:Nat->Prop} {w:World} {A:Option Addr} {l:List α} (h:Imm K Ω w A l) (n:Nat):Imm K Ω w A (l.take n):=fun i a ha=>by
  rw [List.getElem?_take] at ha
  split at ha
  · exact h i a ha
  · cases ha
theorem imm_drop {α:Type} {K:Kd α} (hK:One K) {Ω:Nat->Prop} {w:World} {A:Option Addr} {l:List α} (h:Imm K Ω w A l) {c:Nat} (hc:l.length<=c) (n:Nat):Imm K Ω w (cutAt A c n 1) (l.drop n):=by
  have:=h.cut (lo:=n) (hi:=l.length) (m:=c) hc
  rwa [List.take_length,hK.sz] at this
theorem NOk.cut {n:Nod} (h:NOk n) {ks vs:List Key} {is:List Nat} (h1:∀ k∈ks,k∈n.keys) (h2:∀ v∈vs,v∈n.vals) (l1:ks.length<=1000) (l2:vs.length<=1000) (l3:is.length<=1000):NOk ⟨ks,vs,is⟩ :=
  ⟨l1,l2,l3,fun x hx=>h.kl x (h1 x hx),fun x hx=>h.vl x (h2 x hx)⟩
theorem half (x:Nat) (hx:x<=1048576):IntKind.i64.wrap (Int.tdiv (IntKind.i64.wrap ((x:Int)+1)) 2)=(((x+1) / 2:Nat):Int):=by
  rw [wi ((x:Int)+1) (by omega) (by omega),Int.tdiv_eq_ediv_of_nonneg (by omega),wi _ (by omega) (by omega)]
  omega
def NGood (n:Nod):Prop:=(n.kids=[]/\n.vals.length=n.keys.length)\/(n.kids≠[]/\n.vals=[]/\n.kids.length=n.keys.length+1)
def PutR (Ω:Nat->Prop) (w:World):Option (Key×Nat)->Value->Prop
  | none,r=>r=.tuple #[.slice none 0 0,.int .i64 0,.bool false]
  | some (b,rt),r=>∃ B cb,r=.tuple #[.slice B b.length cb,iv rt,.bool true]/\b.length<=cb/\b.length<=1048576/\Imm KB Ω w B b
theorem NodAt.fresh {R M:Nat->Prop} {w u w':World} {b:Nat} {n:Nod} {A1:Option Addr} {c1:Nat} {A2:Option Addr} {c2:Nat} {A3:Option Addr} {c3:Nat} {e:TypeId} (hM:∀ k,M k->k<w.heap.size) (ew:Ext w u)
    (f:Fresh u b w' [.slice A1 n.keys.length c1,.slice A2 n.vals.length c2,.slice A3 n.kids.length c3] e) (l1:n.keys.length<=c1) (l2:n.vals.length<=c2) (l3:n.kids.length<=c3)
    (h1:Imm KBs (Om (Ra R w w') M) w' A1 n.keys) (h2:Imm KBs (Om (Ra R w w') M) w' A2 n.vals) (h3:Imm KN (Om (Ra R w w') M) w' A3 n.kids) (hn:A3=none<->n.kids=[]) (hok:NOk n):NodAt (Om (Ra R w w') M) w' b n A1 c1 A2 c2 A3 c3 :=
  ⟨f.blk,ra_off hM (Nat.le_trans ew.size f.ge) f.lt,l1,l2,l3,h1,h2,h3,hn,hok⟩
theorem Ar1.setAt {R M:Nat->Prop} {w:World} {g:Nat} {A:Ar} (h:Ar1 R M w g A) {i:Nat} (hi:i<A.at_.length) {n:Nod} {p:Option Addr} (ha:NoR (Om R M) w (some n) [.pointer p]) :
    ∃ ga ac fc Fa mb,Blk w g (arC (some ⟨ga,0,none⟩) ac Fa fc mb A)/\stOK ((⟨ga,0,none⟩:Addr).add (i*1)) 0 [.pointer p] w/\∀ w',w'=setAll ((⟨ga,0,none⟩:Addr).add (i*1)) 0 [.pointer p] w->Ar1 R M w' g (setN A i n)/\Chg R M w R M w':=by
  obtain ⟨At,ac,Fa,fc,mb,h⟩:=h
  obtain ⟨ga,rfl,h1,h2⟩:=h.setAt hi ha
  refine ⟨ga,ac,fc,Fa,mb,h.blk,h1,fun w' hw=>?_⟩
  obtain ⟨h3,h4⟩:=h2 w' hw
  exact ⟨⟨_,_,_,_,_,h3⟩,h4⟩
theorem split_spec {R M:Nat->Prop} {w:World} {g:Nat} {A:Ar} (h:Ar1 R M w g A) (hl:A.at_.length<=1048576) (hF:FreeOk A) (hfl:A.free.length<=1048576) (hfan:4<=A.fan) {i:Nat} (hi:i<A.at_.length) {n:Nod} {b:Nat} {A1:Option Addr} {c1:Nat} {A2:Option Addr} {c2:Nat} {A3:Option Addr} {c3:Nat}
    (hn:NodAt (Om R M) w b n A1 c1 A2 c2 A3 c3) (hg:NGood n) :
    CallsV Tryz.prog 109 #[.pointer (some ⟨g,0,none⟩),iv i,.pointer (some ⟨b,0,none⟩)] w fun r w'=>∃ R' M',Ar1 R' M' w' g (splitF A i n).1/\Chg R M w R' M' w'/\PutR (Om R' M') w' (splitF A i n).2 r:=by
  refine tree_Arena_split.calls okay ?_
  unfold tree_Arena_split.W
  have hok:=hn.okn
  have hsz:n.size<=1000:=by unfold Nod.size;have:=hok.k;have:=hok.c;split<;>omega
  obtain ⟨ga,ac,fc,Fa,mb,hb,s1,s2⟩:=h.setAt hi (n:=n) ⟨b,A1,c1,A2,c2,A3,c3,rfl,hn⟩
  refine ⟨_,rfl,_,_,_,hb.cell rfl,_,rfl,⟨by omega,by omega⟩,by rw [Int.toNat_natCast];exact s1,fun w1 hw1=>?_⟩
  rw [Int.toNat_natCast] at hw1
  obtain ⟨h1,ch1⟩:=s2 w1 hw1
  have hn1:=hn.keep ch1.step
  refine (size_spec hn1).same ⟨_,rfl,?_⟩
  have hb1:∃ At ac Fa fc mb,Blk w1 g (arC At ac Fa fc mb (setN A i n)):=by obtain ⟨At,ac,Fa,fc,mb,h⟩:=h1;exact ⟨At,ac,Fa,fc,mb,h.blk⟩
  obtain ⟨_,_,_,_,_,hb1⟩:=hb1
  refine ⟨_,rfl,_,hb1.cell rfl,brd (fun hle=>?_) (fun hgt=>?_)⟩
  · have hle':n.size<=A.fan:=by have:(n.size:Int)<=(A.fan:Int):=hle;omega
    have e:splitF A i n=(setN A i n,none):=by unfold splitF;rw [if_pos hle']
    rw [e]
    exact ⟨R,M,h1,ch1,rfl⟩
  have hgt':¬ n.size<=A.fan:=fun h'=>hgt (by show (n.size:Int)<=(A.fan:Int);omega)
  simp only [half n.size (by omega)]
  generalize hh:(n.size+1) / 2=hf
  have hM1:=h1.mlt
  have hil:i<(setN A i n).at_.length:=by simp [setN];exact hi
  refine ⟨by decide,_,rfl,_,_,_,hn1.blk.cell rfl,br (fun hnn=>?_) (fun hnn=>?_)⟩
  · -- a leaf
    have hk:n.kids=[]:=hn1.nil.1 (by cases A3<;>simp_all)
    have hv:n.vals.length=n.keys.length:=by rcases hg with h|h;exact h.2;exact absurd hk h.1
    have hs:n.size=n.keys.length:=by rw [Nod.size,if_pos hk]
    have hA3:A3=none:=hn1.nil.2 hk
    subst hA3
    let n1:Nod:=⟨n.keys.take hf,n.vals.take hf,[]⟩
    let n2:Nod:=⟨n.keys.drop hf,n.vals.drop hf,[]⟩
    have e:splitF A i n=((place (setN (setN A i n) i n1) n2).1,some (n.keys.getD hf [],(place (setN (setN A i n) i n1) n2).2)):=by
      unfold splitF;rw [if_neg hgt',if_pos hk,hh]
    rw [e]
    refine ⟨fun u=>∃ R2 M2,Ar1 R2 M2 u g (setN (setN A i n) i n1)/\Chg R M w R2 M2 u,?_,?_⟩
    · rintro u ⟨R2,M2,h2,ch2⟩
      have hn2:=hn.keep ch2.step
      have hM2:=h2.mlt
      have ed:Ext u u.drew:=Fr.drew NoB u
      obtain ⟨ad,B,cb,hA,hc,hcb,hB⟩:=list_item hn2.keys (c:=hf) (by omega)
      have fr:∀ {v},Ext u v->Fr M2 u v:=fun e=>e.fr
      refine ⟨_,rfl,fun v=>Fr M2 u v,fr ed,_,_,_,fun v e=>(hn2.blk.keep e fun hm=>hn2.off (.inr hm)).cell rfl,ad,hA,⟨by omega,by omega⟩,B,(n.keys.getD hf []).length,cb,fun v e=>?_,_,rfl,_,_,_,fun v e=>(hn2.blk.keep e fun hm=>hn2.off (.inr hm)).cell rfl,⟨by omega,by omega⟩,_,rfl,_,_,_,fun v e=>(hn2.blk.keep e fun hm=>hn2.off (.inr hm)).cell rfl,⟨by omega,by omega⟩,?_⟩
      · rw [Int.toNat_natCast]
        refine e.cell (fun hm=>?_) hc
        obtain ⟨ad',hA',hoff,_⟩:=hn2.keys hf _ (by simp [List.getD,show hf<n.keys.length by omega]:n.keys[hf]?=some (n.keys.getD hf []))
        rw [hA] at hA';cases hA'
        exact hoff (.inr (by rw [add_block] at hm;exact hm))
      · rw [Int.toNat_natCast,<- List.length_drop,<- List.length_drop]
        refine (CloneS_spec oneBs (imm_drop oneBs (hn2.keys.ext KBs_pos ed) hn2.l1 hf) (by rw [List.length_drop];omega)).mono ?_
        rintro _ v1 ⟨B1,d1,rfl,o1,e1,nw1,_⟩
        have e1':=ed.trans' e1
        refine ⟨_,_,_,rfl,fr e1',?_⟩
        refine (CloneS_spec oneBs (imm_drop oneBs (hn2.vals.ext KBs_pos e1') hn2.l2 hf) (by rw [List.length_drop];omega)).mono ?_
        rintro _ v2 ⟨B2,d2,rfl,o2,e2,nw2,_⟩
        have e2':=e1'.trans' e2
        refine ⟨_,_,_,rfl,fr e2',?_⟩
        intro b2 v3 f3
        have e3':=e2'.trans' f3.ext
        obtain ⟨h3,ch3⟩:=h2.absorb e3'
        have i1:=clone_imm oneBs o1 (e2.trans' f3.ext) (Ω':=Om (Ra R2 u v3) M2) (fun k hk=>ra_off hM2 ((nw1.ext ed) k hk) (Nat.lt_of_lt_of_le (o1.lt k hk) (e2.trans' f3.ext).size)) (fun k=>ra_sub)
        have i2:=clone_imm oneBs o2 f3.ext (Ω':=Om (Ra R2 u v3) M2) (fun k hk=>ra_off hM2 ((nw2.ext e1') k hk) (Nat.lt_of_lt_of_le (o2.lt k hk) f3.ext.size)) (fun k=>ra_sub)
        have hN2:NodAt (Om (Ra R2 u v3) M2) v3 b2 n2 B1 d1 B2 d2 none 0:=NodAt.fresh hM2 e2' f3 o1.le o2.le (Nat.le_refl _) i1 i2 (Imm.nil _ _ _ _) (by simp [n2]) (hok.cut (fun k hk=>List.mem_of_mem_drop hk) (fun k hk=>List.mem_of_mem_drop hk) (by rw [List.length_drop];have:=hok.k;omega) (by rw [List.length_drop];have:=hok.v;omega) (by simp))
        refine ⟨fr e3',?_⟩
        refine (place_spec h3 (by simp [setN];exact hl) (by intro x hx;simp [setN];exact hF x hx) hfl (n:=n2) ⟨b2,B1,d1,B2,d2,none,0,rfl,hN2⟩).mono ?_
        rintro _ v4 ⟨rfl,R4,M4,h4,ch4⟩
        have chA:=ch3.trans ch4
        refine ⟨_,rfl,chA.fr,R4,M4,h4,ch2.trans chA,B,cb,rfl,hcb,?_,hB.keep KB_pos chA.step⟩
        exact hok.kl _ (by simp [List.getD,show hf<n.keys.length by omega])
    · have ed:Ext w1 w1.drew:=Fr.drew NoB w1
      have hle1:=hn1.l1
      have hle2:=hn1.l2
      obtain ⟨At',ac',Fa',fc',mb',h1a⟩:=h1
      refine ⟨_,rfl,fun v=>Ext w1 v,ed,_,_,_,fun v e=>(h1a.blk.ext e).cell rfl,_,rfl,_,_,_,fun v e=>(hn1.blk.ext e).cell rfl,⟨by omega,by omega⟩,⟨by omega,by omega⟩,_,rfl,_,_,_,fun v e=>(hn1.blk.ext e).cell rfl,⟨by omega,by omega⟩,⟨by omega,by omega⟩,?_⟩
      intro b1 v1 f1
      rw [Int.toNat_natCast,cutAt_zero,cutAt_zero,Nat.sub_zero] at f1
      have e1':=ed.trans' f1.ext
      have h1':Ar1 R M w1 g (setN A i n):=⟨_,_,_,_,_,h1a⟩
      obtain ⟨h2,ch2⟩:=h1'.absorb e1'
      have hst:Step (Om R M) w1 (Om (Ra R w1 v1) M) v1:=ch2.step
      have hk1:hf=n1.keys.length:=by simp [n1,List.length_take];omega
      have hk2:hf=n1.vals.length:=by simp [n1,List.length_take];omega
      have hN1:NodAt (Om (Ra R w1 v1) M) v1 b1 n1 A1 hf A2 hf none 0:=NodAt.fresh hM1 ed (by rw [<- hk1,<- hk2];exact f1) (by omega) (by omega) (Nat.le_refl _) ((imm_take hn1.keys hf).keep KBs_pos hst) ((imm_take hn1.vals hf).keep KBs_pos hst) (Imm.nil _ _ _ _) (by simp [n1]) (hok.cut (fun k hk=>List.mem_of_mem_take hk) (fun k hk=>List.mem_of_mem_take hk) (by rw [List.length_take];omega) (by rw [List.length_take];omega) (by simp))
      obtain ⟨ga2,ac2,fc2,Fa2,mb2,hb2,s1,s2⟩:=h2.setAt hil (n:=n1) ⟨b1,A1,hf,A2,hf,none,0,rfl,hN1⟩
      have hb2':=h1a.blk.ext e1'
      obtain ⟨ex,hx⟩:=hb2
      obtain ⟨ey,hy⟩:=hb2'
      rw [hx] at hy
      have hcs:=(Obj.cells.inj (Option.some.inj hy)).1
      have hAt:At'=some ⟨ga2,0,none⟩:=by simp [arC] at hcs;exact hcs.1.1.symm
      refine ⟨e1',_,hAt,⟨by omega,by omega⟩,by rw [Int.toNat_natCast];exact s1,fun v2 hv2=>?_⟩
      rw [Int.toNat_natCast] at hv2
      obtain ⟨h3,ch3⟩:=s2 v2 hv2
      exact ⟨_,_,h3,ch1.trans (ch2.trans ch3)⟩
  · -- an inner node
    have hk:n.kids≠[]:=fun e=>by rw [hn1.nil.2 e] at hnn;cases hnn
    obtain ⟨hv,hlen⟩:n.vals=[]/\n.kids.length=n.keys.length+1:=by rcases hg with h|h;exact absurd h.1 hk;exact h.2
    have hs:n.size=n.kids.length:=by rw [Nod.size,if_neg hk]
    have hA3:A3≠none:=fun e=>hk (hn1.nil.1 e)
    have hw1:IntKind.i64.wrap (((hf:Nat):Int)-1)=((hf-1:Nat):Int):=by rw [wi _ (by omega) (by omega)];omega
    simp only [hw1]
    let n1:Nod:=⟨n.keys.take (hf-1),[],n.kids.take hf⟩
    let n2:Nod:=⟨n.keys.drop hf,[],n.kids.drop hf⟩
    have e:splitF A i n=((place (setN (setN A i n) i n1) n2).1,some (n.keys.getD (hf-1) [],(place (setN (setN A i n) i n1) n2).2)):=by
      unfold splitF;rw [if_neg hgt',if_neg hk,hh]
    rw [e]
    refine ⟨fun u=>∃ R2 M2,Ar1 R2 M2 u g (setN (setN A i n) i n1)/\Chg R M w R2 M2 u,?_,?_⟩
    · rintro u ⟨R2,M2,h2,ch2⟩
      have hn2:=hn.keep ch2.step
      have hM2:=h2.mlt
      have ed:Ext u u.drew:=Fr.drew NoB u
      obtain ⟨ad,B,cb,hA,hc,hcb,hB⟩:=list_item hn2.keys (c:=hf-1) (by omega)
      have fr:∀ {v},Ext u v->Fr M2 u v:=fun e=>e.fr
      refine ⟨_,rfl,fun v=>Fr M2 u v,fr ed,_,_,_,fun v e=>(hn2.blk.keep e fun hm=>hn2.off (.inr hm)).cell rfl,ad,hA,⟨by omega,by omega⟩,B,(n.keys.getD (hf-1) []).length,cb,fun v e=>?_,_,rfl,_,_,_,fun v e=>(hn2.blk.keep e fun hm=>hn2.off (.inr hm)).cell rfl,⟨by omega,by omega⟩,_,rfl,_,_,_,fun v e=>(hn2.blk.keep e fun hm=>hn2.off (.inr hm)).cell rfl,⟨by omega,by omega⟩,?_⟩
      · rw [Int.toNat_natCast]
        refine e.cell (fun hm=>?_) hc
        obtain ⟨ad',hA',hoff,_⟩:=hn2.keys (hf-1) _ (by simp [List.getD,show hf-1<n.keys.length by omega]:n.keys[hf-1]?=some (n.keys.getD (hf-1) []))
        rw [hA] at hA';cases hA'
        exact hoff (.inr (by rw [add_block] at hm;exact hm))
      · rw [Int.toNat_natCast,<- List.length_drop,<- List.length_drop]
        refine (CloneS_spec oneBs (imm_drop oneBs (hn2.keys.ext KBs_pos ed) hn2.l1 hf) (by rw [List.length_drop];omega)).mono ?_
        rintro _ v1 ⟨B1,d1,rfl,o1,e1,nw1,_⟩
        have e1':=ed.trans' e1
        refine ⟨_,_,_,rfl,fr e1',?_⟩
        refine (CloneI_spec oneN (imm_drop oneN (hn2.kids.ext KN_pos e1') hn2.l3 hf) (by rw [List.length_drop];omega)).mono ?_
        rintro _ v2 ⟨B2,d2,rfl,o2,e2,nw2,_⟩
        have e2':=e1'.trans' e2
        refine ⟨_,_,_,rfl,fr e2',?_⟩
        intro b2 v3 f3
        have e3':=e2'.trans' f3.ext
        obtain ⟨h3,ch3⟩:=h2.absorb e3'
        have i1:=clone_imm oneBs o1 (e2.trans' f3.ext) (Ω':=Om (Ra R2 u v3) M2) (fun k hk=>ra_off hM2 ((nw1.ext ed) k hk) (Nat.lt_of_lt_of_le (o1.lt k hk) (e2.trans' f3.ext).size)) (fun k=>ra_sub)
        have i2:=clone_imm oneN o2 f3.ext (Ω':=Om (Ra R2 u v3) M2) (fun k hk=>ra_off hM2 ((nw2.ext e1') k hk) (Nat.lt_of_lt_of_le (o2.lt k hk) f3.ext.size)) (fun k=>ra_sub)
        have hkd:n.kids.drop hf≠[]:=by
          intro e';have:=congrArg List.length e';rw [List.length_drop] at this;simp at this;omega
        have hB2:B2≠none:=by
          rintro rfl
          cases hd:n.kids.drop hf with
          | nil=>exact hkd hd
          | cons x r=>obtain ⟨ad,h,_⟩:=i2 0 x (by rw [hd];rfl);cases h
        have hN2:NodAt (Om (Ra R2 u v3) M2) v3 b2 n2 B1 d1 none 0 B2 d2:=NodAt.fresh hM2 e2' f3 o1.le (Nat.le_refl _) o2.le i1 (Imm.nil _ _ _ _) i2 ⟨fun e'=>absurd e' hB2,fun e'=>absurd e' hkd⟩ (hok.cut (fun k hk=>List.mem_of_mem_drop hk) (fun k hk=>by cases hk) (by rw [List.length_drop];have:=hok.k;omega) (by simp) (by rw [List.length_drop];have:=hok.c;omega))
        refine ⟨fr e3',?_⟩
        refine (place_spec h3 (by simp [setN];exact hl) (by intro x hx;simp [setN];exact hF x hx) hfl (n:=n2) ⟨b2,B1,d1,none,0,B2,d2,rfl,hN2⟩).mono ?_
        rintro _ v4 ⟨rfl,R4,M4,h4,ch4⟩
        have chA:=ch3.trans ch4
        refine ⟨_,rfl,chA.fr,R4,M4,h4,ch2.trans chA,B,cb,rfl,hcb,?_,hB.keep KB_pos chA.step⟩
        exact hok.kl _ (by simp [List.getD,show hf-1<n.keys.length by omega])
    · have ed:Ext w1 w1.drew:=Fr.drew NoB w1
      have hle1:=hn1.l1
      have hle3:=hn1.l3
      obtain ⟨At',ac',Fa',fc',mb',h1a⟩:=h1
      refine ⟨_,rfl,fun v=>Ext w1 v,ed,_,_,_,fun v e=>(h1a.blk.ext e).cell rfl,_,rfl,_,_,_,fun v e=>(hn1.blk.ext e).cell rfl,⟨by omega,by omega⟩,⟨by omega,by omega⟩,_,rfl,_,_,_,fun v e=>(hn1.blk.ext e).cell rfl,⟨by omega,by omega⟩,⟨by omega,by omega⟩,?_⟩
      intro b1 v1 f1
      rw [Int.toNat_natCast,Int.toNat_natCast,cutAt_zero,cutAt_zero,Nat.sub_zero,Nat.sub_zero] at f1
      have e1':=ed.trans' f1.ext
      have h1':Ar1 R M w1 g (setN A i n):=⟨_,_,_,_,_,h1a⟩
      obtain ⟨h2,ch2⟩:=h1'.absorb e1'
      have hst:Step (Om R M) w1 (Om (Ra R w1 v1) M) v1:=ch2.step
      have hk1:hf-1=n1.keys.length:=by simp [n1,List.length_take];omega
      have hk2:hf=n1.kids.length:=by simp [n1,List.length_take];omega
      have hkd:n.kids.take hf≠[]:=by
        intro e';have:=congrArg List.length e';rw [List.length_take,List.length_nil] at this;omega
      have hN1:NodAt (Om (Ra R w1 v1) M) v1 b1 n1 A1 (hf-1) none 0 A3 hf:=NodAt.fresh hM1 ed (by rw [<- hk1,<- hk2];exact f1) (by omega) (Nat.le_refl _) (by omega) ((imm_take hn1.keys (hf-1)).keep KBs_pos hst) (Imm.nil _ _ _ _) ((imm_take hn1.kids hf).keep KN_pos hst) ⟨fun e'=>absurd e' hA3,fun e'=>absurd e' hkd⟩ (hok.cut (fun k hk=>List.mem_of_mem_take hk) (fun k hk=>by cases hk) (by rw [List.length_take];omega) (by simp) (by rw [List.length_take];omega))
      obtain ⟨ga2,ac2,fc2,Fa2,mb2,hb2,s1,s2⟩:=h2.setAt hil (n:=n1) ⟨b1,A1,hf-1,none,0,A3,hf,rfl,hN1⟩
      have hb2':=h1a.blk.ext e1'
      obtain ⟨ex,hx⟩:=hb2
      obtain ⟨ey,hy⟩:=hb2'
      rw [hx] at hy
      have hcs:=(Obj.cells.inj (Option.some.inj hy)).1
      have hAt:At'=some ⟨ga2,0,none⟩:=by simp [arC] at hcs;exact hcs.1.1.symm
      refine ⟨e1',_,hAt,⟨by omega,by omega⟩,by rw [Int.toNat_natCast];exact s1,fun v2 hv2=>?_⟩
      rw [Int.toNat_natCast] at hv2
      obtain ⟨h3,ch3⟩:=s2 v2 hv2
      exact ⟨_,_,h3,ch1.trans (ch2.trans ch3)⟩
end Go.Proofs.YthfagbfllheneaaGreat
set_option linter.unusedVariables false
set_option linter.unusedSimpArgs false
namespace Go.Proofs.YthfagbfllheneaaGreat
open Go Go.Sx T4
theorem place_len (A:Ar) (n:Nod):(place A n).1.at_.length<=A.at_.length+1:=by unfold place;split<;>simp
theorem splitF_len (A:Ar) (i:Nat) (n:Nod):(splitF A i n).1.at_.length<=A.at_.length+1:=by
  unfold splitF
  split
  · simp [setN]
  · dsimp only
    split
    · refine Nat.le_trans (place_len _ _) ?_;simp [setN]
    · refine Nat.le_trans (place_len _ _) ?_;simp [setN]
theorem putF_len:∀ (h:Nat) (A:Ar) (i:Nat) (key val:Key),(putF h A i key val).1.at_.length<=A.at_.length+h
  | 0,A,i,key,val=>by simp [putF]
  | h+1,A,i,key,val=>by
    rw [putF]
    dsimp only
    split
    · refine Nat.le_trans (splitF_len _ _ _) ?_;omega
    · have ih:=putF_len h A (kid (nodeAt A i) (bel (nodeAt A i).keys key)) key val
      split
      · refine Nat.le_trans ih ?_;omega
      · refine Nat.le_trans (splitF_len _ _ _) ?_;omega
theorem Acc.free {A:Ar} {Q P:List Nat} (h:T4.Acc A Q P):FreeOk A/\A.free.length<=A.at_.length:=by
  refine ⟨fun x hx=>?_,?_⟩
  · have h1:=h x
    have h2:=List.count_pos_iff.2 hx
    split at h1
    · assumption
    · omega
  · have:=h.total;omega
structure Part {α:Type} (K:Kd α) (Ω:Nat->Prop) (w u:World) (A:Option Addr) (c:Nat) (l:List α):Prop where
  ge:∀ k,ownB A k->w.heap.size<=k
  own:∃ xs,Own u 1 A l.length c xs/\F2 (fun a v=>K.rep Ω w a [v]) l xs
theorem Part.nil {α:Type} (K:Kd α) (Ω:Nat->Prop) (w u:World):Part K Ω w u none 0 ([]:List α):=⟨fun k h=>(ownB_none k h).elim,[],Own.nil u 1,.nil⟩
theorem Part.imm {α:Type} {K:Kd α} (hK:One K) {R M:Nat->Prop} {w u:World} {A:Option Addr} {c:Nat} {l:List α} (h:Part K (Om R M) w u A c l) (hM:∀ k,M k->k<w.heap.size) (e:Ext w u):Imm K (Om (Ra R w u) M) u A l:=by
  obtain ⟨xs,ho,hf⟩:=h.own
  refine own_imm hK ho hf ⟨e.size,fun k hk _=>e.block k hk fun h=>h,fun k _=>ra_sub⟩ fun k hk=>ra_off hM (h.ge k hk) (ho.lt k hk)
theorem Part.le {α:Type} {K:Kd α} {Ω:Nat->Prop} {w u:World} {A:Option Addr} {c:Nat} {l:List α} (h:Part K Ω w u A c l):l.length<=c:=by
  obtain ⟨xs,ho,_⟩:=h.own;exact ho.le
theorem Part.some {α:Type} {K:Kd α} {Ω:Nat->Prop} {w u:World} {A:Option Addr} {c:Nat} {l:List α} (h:Part K Ω w u A c l) (hl:l≠[]):A≠none:=by
  rintro rfl
  obtain ⟨xs,ho,_⟩:=h.own
  rcases ho.2.2 with ⟨_,h0,_⟩|⟨_,_,_,_,_,h0,_⟩
  · exact hl (List.eq_nil_of_length_eq_zero h0)
  · cases h0
theorem node_of {R M:Nat->Prop} {w u:World} {b:Nat} {n:Nod} {A1:Option Addr} {c1:Nat} {A2:Option Addr} {c2:Nat} {A3:Option Addr} {c3:Nat} (hM:∀ k,M k->k<w.heap.size) (e:Ext w u) (hb:Blk u b [.slice A1 n.keys.length c1,.slice A2 n.vals.length c2,.slice A3 n.kids.length c3]) (hg:w.heap.size<=b)
    (p1:Part KBs (Om R M) w u A1 c1 n.keys) (p2:Part KBs (Om R M) w u A2 c2 n.vals) (p3:Part KN (Om R M) w u A3 c3 n.kids) (hn:n.kids=[]->A3=none) (hok:NOk n):NodAt (Om (Ra R w u) M) u b n A1 c1 A2 c2 A3 c3 :=
  ⟨hb,ra_off hM hg hb.lt,p1.le,p2.le,p3.le,p1.imm oneBs hM e,p2.imm oneBs hM e,p3.imm oneN hM e,⟨fun h=>Classical.byContradiction fun h'=>p3.some h' h,hn⟩,hok⟩
theorem PutR.form {Ω:Nat->Prop} {w:World} {x:Option (Key×Nat)} {r:Value} (h:PutR Ω w x r):∃ (B:Option Addr) (n c:Nat) (m:Int) (f:Bool),r=.tuple #[.slice B n c,.int .i64 m,.bool f]/\f=x.isSome:=by
  cases x with
  | none=>exact ⟨_,_,_,_,_,h,rfl⟩
  | some p=>obtain ⟨b,rt⟩:=p;obtain ⟨B,cb,h,_⟩:=h;exact ⟨_,_,_,_,_,h,rfl⟩
theorem cells_of {α:Type} {K:Kd α} (hK:One K) {Ω:Nat->Prop} {w:World} {A:Option Addr} {l:List α} (h:Imm K Ω w A l):∃ xs,Cells w A xs/\F2 (fun a v=>K.rep Ω w a [v]) l xs/\xs.length=l.length/\∀ v∈xs,v.oneCell'=true:=by
  obtain ⟨xs,h1,h2⟩:=h.cells1 hK
  exact ⟨xs,h1,h2,h2.len,h2.ones hK⟩
theorem cloneS_raw {w:World} {A:Option Addr} {c:Nat} {xs:List Value} (h:Cells w A xs) (h1:∀ v∈xs,v.oneCell'=true) (hl:xs.length<=2097152) {m:Nat} (hm:xs.length=m):CallsV Tryz.prog 107 #[.slice A m c] w fun r w'=>∃ A' c',r=.slice A' m c'/\Own w' 1 A' m c' xs/\Ext w w'/\New w A':=by
  subst hm
  refine (CloneS_spec oneV1 (h.imm h1) hl).mono ?_
  rintro _ w' ⟨A',c',rfl,ho,e,n,_⟩
  exact ⟨A',c',rfl,own_of ho,e,n⟩
theorem cloneI_raw {w:World} {A:Option Addr} {c:Nat} {xs:List Value} (h:Cells w A xs) (h1:∀ v∈xs,v.oneCell'=true) (hl:xs.length<=2097152) {m:Nat} (hm:xs.length=m):CallsV Tryz.prog 55 #[.slice A m c] w fun r w'=>∃ A' c',r=.slice A' m c'/\Own w' 1 A' m c' xs/\Ext w w'/\New w A':=by
  subst hm
  refine (CloneI_spec oneV1 (h.imm h1) hl).mono ?_
  rintro _ w' ⟨A',c',rfl,ho,e,n,_⟩
  exact ⟨A',c',rfl,own_of ho,e,n⟩
theorem Cells.ext {w u:World} {B:Option Addr} {ys:List Value} (h:Cells w B ys) (e:Ext w u):Cells u B ys:=h.keep e fun _ _ h=>h
theorem leafPut_good {n:Nod} (hk:n.kids=[]) (hv:n.vals.length=n.keys.length) (hok:NOk n) (hs:n.keys.length<=999) {key val:Key} (h1:key.length<=1048576) (h2:val.length<=1048576):NOk (leafPut n key val)/\NGood (leafPut n key val)/\(leafPut n key val).kids=[]:=by
  have hp:=pos_le n.keys key
  have hmem:∀ {l:List Key} {i:Nat} {a x:Key},x∈l.insertIdx i a->i<=l.length->x=a\/x∈l:=by
    intro l i a x hx hi
    rw [insertIdx_eq _ _ _ hi] at hx
    rcases List.mem_append.1 hx with h|h
    · exact .inr (List.mem_of_mem_take h)
    · rcases List.mem_cons.1 h with h|h
      · exact .inl h
      · exact .inr (List.mem_of_mem_drop h)
  unfold leafPut
  split
  · refine ⟨⟨hok.k,by simpa using hok.v,by simp,hok.kl,fun x hx=>?_⟩,.inl ⟨rfl,by simpa using hv⟩,rfl⟩
    rcases List.mem_or_eq_of_mem_set hx with h|h
    · exact hok.vl x h
    · subst h;exact h2
  · refine ⟨⟨?_,?_,by simp,fun x hx=>?_,fun x hx=>?_⟩,.inl ⟨rfl,?_⟩,rfl⟩
    · rw [List.length_insertIdx_of_le_length hp];omega
    · rw [List.length_insertIdx_of_le_length (by omega)];omega
    · rcases hmem hx hp with h|h
      · subst h;exact h1
      · exact hok.kl x h
    · rcases hmem hx (by omega) with h|h
      · subst h;exact h2
      · exact hok.vl x h
    · rw [List.length_insertIdx_of_le_length hp,List.length_insertIdx_of_le_length (by omega),hv]
theorem Acc.ltL {A:Ar} {Q P:List Nat} (h:T4.Acc A Q P) {x:Nat} (hx:x∈Q):x<A.at_.length:=by
  have h1:=h x
  have h2:=List.count_pos_iff.2 hx
  split at h1
  · assumption
  · omega
theorem put1_acc {A A':Ar} {h:Nat} {mn:Nat×Nat} {i:Nat} {lo hi:Option Key} {es:Es} {ps:List Nat} {x:Option (Key×Nat)} {t:Nat} (hp:Put1 A A' h mn i lo hi es ps x t):∃ P',Mv A A' ps P':=by
  cases x with
  | none=>obtain ⟨ps',m,_⟩:=hp;exact ⟨_,m⟩
  | some p=>obtain ⟨b,rt⟩:=p;obtain ⟨es1,es2,ps1,ps2,_,_,m,_⟩:=hp;exact ⟨_,m⟩
theorem put_spec:∀ (H:Nat) {R M:Nat->Prop} {w:World} {g:Nat} {A:Ar} {Q:List Nat} {mn:Nat×Nat} {i:Nat} {lo hi:Option Key} {es:Es} {ps:List Nat} {key val:Key} {KA VA:Option Addr} {kc vc:Nat},
    Ar1 R M w g A->Tree A.nd A.fan H mn i lo hi es ps->T4.Acc A Q ps->4<=A.fan->A.fan<=64->Bnd lo hi key->A.at_.length+H<=1048576->Imm KB (Om R M) w KA key->Imm KB (Om R M) w VA val->key.length<=kc->val.length<=vc->key.length<=1048576->val.length<=1048576 ->
    CallsV Tryz.prog 90 #[.pointer (some ⟨g,0,none⟩),iv i,.slice KA key.length kc,.slice VA val.length vc] w fun r w'=>∃ R' M',Ar1 R' M' w' g (putF H A i key val).1/\Chg R M w R' M' w'/\PutR (Om R' M') w' (putF H A i key val).2 r:=by
  intro H
  induction H with
  | zero=>intro R M w g A Q mn i lo hi es ps key val KA VA kc vc h ht;exact ht.elim
  | succ H ih =>
  intro R M w g A Q mn i lo hi es ps key val KA VA kc vc h ht hQ hf1 hf2 hb hat hKA hVA hkc hvc hkl hvl
  obtain ⟨n,hn,hsz,hcs⟩:=tree_node ht
  have hna:nodeAt A i=n:=by simp [nodeAt,hn]
  obtain ⟨hF,hfl⟩:=Acc.free hQ
  have hM:=h.mlt
  refine tree_Arena_put.calls okay ?_
  unfold tree_Arena_put.W
  have h':=h
  obtain ⟨At,ac,Fa,fc,mb,ha⟩:=h'
  obtain ⟨hil,ga,b,A1,c1,A2,c2,A3,c3,rfl,hc,hN⟩:=ha.node hn
  have hok:=hN.okn
  refine ⟨_,rfl,_,_,_,ha.blk.cell rfl,_,rfl,⟨by omega,by omega⟩,_,by rw [add_new,Nat.zero_add,Int.toNat_natCast,Nat.mul_one];exact hc,_,rfl,_,_,_,hN.blk.cell rfl,br (fun hnn=>?_) (fun hnn=>?_)⟩
  · -- a leaf
    have hk:n.kids=[]:=hN.nil.1 (by cases A3<;>simp_all)
    rcases hcs with ⟨h10,_,_,_,hu,hv⟩|⟨_,_,_,hk',_⟩
    rotate_left
    · exact absurd hk hk'
    obtain rfl:H=0:=by omega
    have hu':Up n.keys:=by rename_i hkeys hvals;rw [hkeys];exact hu
    have hs:n.size=n.keys.length:=by rw [Nod.size,if_pos hk]
    have hpl:=pos_le n.keys key
    have ePut:putF (0+1) A i key val=splitF A i (leafPut n key val):=by rw [putF];dsimp only;rw [hna,if_pos hk]
    rw [ePut]
    obtain ⟨hok2,hgood2,hk2⟩:=leafPut_good hk hv hok (by omega) hkl hvl
    obtain ⟨kxs,kcells,kf,kl,k1⟩:=cells_of oneBs hN.keys
    obtain ⟨vxs,vcells,vf,vl,v1⟩:=cells_of oneBs hN.vals
    refine ⟨_,rfl,_,_,_,hN.blk.cell rfl,?_⟩
    refine (Search_spec hN.keys hKA hu' (by omega) c1 kc).same ⟨_,_,rfl,?_⟩
    -- the last step: the node is split
    have hend:∀ (m:Nod),leafPut n key val=m->∀ {u:World} {bm:Nat} {B1 B2:Option Addr} {d1 d2:Nat},Ext w u->Blk u bm [.slice B1 m.keys.length d1,.slice B2 m.vals.length d2,.slice none 0 0]->w.heap.size<=bm->Part KBs (Om R M) w u B1 d1 m.keys->Part KBs (Om R M) w u B2 d2 m.vals ->
        CallsV Tryz.prog 109 #[.pointer (some ⟨g,0,none⟩),iv i,.pointer (some ⟨bm,0,none⟩)] u fun v w'=>∃ B m c x f,v=.tuple #[.slice B m c,.int .i64 x,.bool f]/\(fun r w'=>∃ R' M',Ar1 R' M' w' g (splitF A i (leafPut n key val)).1/\Chg R M w R' M' w'/\PutR (Om R' M') w' (splitF A i (leafPut n key val)).2 r) (.tuple #[.slice B m c,.int .i64 x,.bool f]) w':=by
      intro m em u bm B1 B2 d1 d2 eu hbm hge p1 p2
      subst em
      obtain ⟨h2,ch2⟩:=h.absorb eu
      have hN2:=node_of (n:=leafPut n key val) (A3:=none) (c3:=0) hM eu (by rw [hk2];exact hbm) hge p1 p2 (by rw [hk2];exact Part.nil _ _ _ _) (fun _=>rfl) hok2
      refine (split_spec h2 (by omega) hF (by omega) hf1 hil hN2 hgood2).mono ?_
      rintro r v ⟨R',M',h3,ch3,hr⟩
      obtain ⟨B,m,c,x,f,rfl,_⟩:=hr.form
      exact ⟨B,m,c,x,f,rfl,R',M',h3,ch2.trans ch3,hr⟩
    refine ⟨fun x u=>∃ bm kA kcc vA vcc,x=some ⟨bm,0,none⟩/\Sls w u [some (.b bm [.slice kA n.keys.length kcc,.slice vA n.vals.length vcc,.slice none 0 0]),some (.o kA n.keys.length kcc kxs),some (.o vA n.vals.length vcc vxs),none,none],?_,?_⟩
    · rintro _ u ⟨bm,kA,kcc,vA,vcc,rfl,st⟩
      refine br (fun hh=>?_) (fun hh=>?_)
      · -- there is one
        have hpos:pos n.keys key<n.vals.length:=by
          have:=of_decide_eq_true hh
          have:=(List.getElem?_eq_some_iff.1 this).1
          omega
        have eL:leafPut n key val=⟨n.keys,n.vals.set (pos n.keys key) val,[]⟩:=by unfold leafPut;rw [if_pos hh]
        replace hend:=@hend _ eL
        obtain ⟨ok,gk⟩:=st.ownAt 1 rfl
        obtain ⟨ov,gv⟩:=st.ownAt 2 rfl
        obtain ⟨gg,rfl,h1,h2,h3⟩:=ov.at_ (j:=pos n.keys key) (by omega)
        refine ⟨_,rfl,_,_,_,(st.blkAt 0 rfl).1.cell rfl,_,rfl,⟨by omega,by omega⟩,?_,?_⟩
        · rw [add_new,Nat.zero_add,Int.toNat_natCast,Nat.mul_one];exact ⟨h1,h2⟩
        · rintro u2 rfl
          rw [add_new,Nat.zero_add,Int.toNat_natCast,Nat.mul_one]
          have hset:setAll (⟨gg,pos n.keys key,none⟩:Addr) 0 [.slice VA val.length vc] u=u.setCell ⟨gg,pos n.keys key,none⟩ (.slice VA val.length vc):=by simp [setAll,add_zero']
          rw [hset]
          obtain ⟨ov',frv⟩:=h3 (.slice VA val.length vc)
          have st2:=st.put frv 2 (fun k hk=>⟨_,rfl,hk⟩) (.o (some ⟨gg,0,none⟩) n.vals.length vcc (vxs.set (pos n.keys key) (.slice VA val.length vc))) ov' (fun k hk=>.inl ⟨_,rfl,hk⟩)
          refine hend (d2:=vcc) st2.ext ?_ (st2.blkAt 0 rfl).2 ⟨gk,kxs,(st2.ownAt 1 rfl).1,kf⟩ ⟨gv,vxs.set (pos n.keys key) (.slice VA val.length vc),?_,vf.set _ ⟨VA,vc,rfl,hvc,hVA⟩⟩
          · dsimp only;rw [List.length_set];exact (st2.blkAt 0 rfl).1
          · dsimp only;rw [List.length_set];exact (st2.ownAt 2 rfl).1
      · -- there is none
        have eL:leafPut n key val=⟨n.keys.insertIdx (pos n.keys key) key,n.vals.insertIdx (pos n.keys key) val,[]⟩:=by unfold leafPut;rw [if_neg (by rw [hh];decide)]
        replace hend:=@hend _ eL
        have hpv:pos n.keys key<=n.vals.length:=by omega
        have kf':=kf.insert hpl (a:=key) (b:=.slice KA key.length kc) ⟨KA,kc,rfl,hkc,hKA⟩
        have vf':=vf.insert hpv (a:=val) (b:=.slice VA val.length vc) ⟨VA,vc,rfl,hvc,hVA⟩
        have lk:=List.length_insertIdx_of_le_length hpl key
        have lv:=List.length_insertIdx_of_le_length hpv val
        dsimp only at hend
        have hB0:=(st.blkAt 0 rfl).1
        have stu:=st
        replace st:=st.step (Fr.drew NoB u)
        replace hB0:=(st.blkAt 0 rfl).1
        refine ⟨_,rfl,fun v=>Blk v bm [.slice kA n.keys.length kcc,.slice vA n.vals.length vcc,.slice none 0 0],hB0,_,_,_,fun v e=>e.cell rfl,_,rfl,_,_,_,fun v e=>e.cell rfl,?_⟩
        clear stu
        have todoK:=True.intro
        repeat' (first
          | with_reducible refine ⟨hB0,?_⟩
          | with_reducible refine And.intro ?_ ?_
          | (intro gx ux fx
             replace st:=st.alloc (vs:=[.slice KA key.length kc]) fx 3
             replace hB0:=(st.blkAt 0 rfl).1)
          | (intro gx ux fx
             replace st:=st.alloc (vs:=[.slice VA val.length vc]) fx 4
             replace hB0:=(st.blkAt 0 rfl).1)
          | (clear todoK
             refine (insertS (n:=n.keys.length) (c:=kcc) (st.ownAt 1 rfl).1 k1 hpl (st.blkAt 3 rfl).1 rfl (st.off (i:=1) (j:=3) (by decide) rfl rfl) (by omega)).mono ?_
             rintro _ ux ⟨kA',kc',rfl,ko,kg⟩
             refine ⟨_,_,_,rfl,?_⟩
             replace st:=st.grow (i:=1) rfl kg ko
             replace hB0:=(st.blkAt 0 rfl).1)
          | (refine (insertS (n:=n.vals.length) (c:=vcc) (st.ownAt 2 rfl).1 v1 hpv (st.blkAt 4 rfl).1 rfl (st.off (i:=2) (j:=4) (by decide) rfl rfl) (by omega)).mono ?_
             rintro _ ux ⟨vA',vc',rfl,vo,vg⟩
             refine ⟨_,_,_,rfl,?_⟩
             replace st:=st.grow (i:=2) rfl vg vo
             replace hB0:=(st.blkAt 0 rfl).1
             obtain ⟨s1,s2⟩:=setF hB0 (o:=0) (by simp) (.slice kA' (n.keys.length+1) kc')
             refine ⟨_,rfl,s1,fun u5 hu5=>?_⟩
             obtain ⟨b5,f5⟩:=s2 u5 hu5
             replace st:=st.put f5 0 (fun k hk=>⟨_,rfl,hk⟩) (.b bm _) b5 (fun k hk=>.inl ⟨_,rfl,hk⟩)
             obtain ⟨s3,s4⟩:=setF b5 (o:=1) (by simp) (.slice vA' (n.vals.length+1) vc')
             refine ⟨_,rfl,s3,fun u6 hu6=>?_⟩
             obtain ⟨b6,f6⟩:=s4 u6 hu6
             replace st:=st.put f6 0 (fun k hk=>⟨_,rfl,hk⟩) (.b bm _) b6 (fun k hk=>.inl ⟨_,rfl,hk⟩)
             exact hend st.ext (by rw [lk,lv];exact b6) (st.blkAt 0 rfl).2 ⟨(st.ownAt 1 rfl).2,_,by rw [lk];exact (st.ownAt 1 rfl).1,kf'⟩ ⟨(st.ownAt 2 rfl).2,_,by rw [lv];exact (st.ownAt 2 rfl).1,vf'⟩))
    · have ed:Ext w w.drew:=Fr.drew NoB w
      refine ⟨_,rfl,fun u=>Ext w u,ed,_,_,_,fun u e=>(hN.blk.ext e).cell rfl,_,rfl,_,_,_,fun u e=>(hN.blk.ext e).cell rfl,?_⟩
      refine (cloneS_raw (Cells.ext kcells ed) k1 (by omega) kl).mono ?_
      rintro _ u1 ⟨kA,kcc,rfl,ko,e1,kn⟩
      refine ⟨_,_,_,rfl,ed.trans' e1,?_⟩
      refine (cloneS_raw (Cells.ext vcells (ed.trans' e1)) v1 (by omega) vl).mono ?_
      rintro _ u2 ⟨vA,vcc,rfl,vo,e2,vn⟩
      refine ⟨_,_,_,rfl,?_⟩
      intro bm u3 f3
      have st:=((((Sls.start ed 5).new e1 ko kn 1).new e2 vo vn 2).alloc f3 0)
      exact ⟨bm,kA,kcc,vA,vcc,rfl,st⟩
  · -- an inner node
    have hk:n.kids≠[]:=fun e=>by rw [hN.nil.2 e] at hnn;cases hnn
    rcases hcs with ⟨_,hk',_⟩|⟨k',hH,h0,_,hv,hu,hlen,hall,hfind⟩
    · exact absurd hk' hk
    obtain rfl:H=k':=by omega
    obtain ⟨hbl,lo',hi',es',ps',ht',hb',rest,hri,hcnt⟩:=hfind key hb
    have hs:n.size=n.kids.length:=by rw [Nod.size,if_neg hk]
    have hQ':T4.Acc A (Q++rest) ps':=hQ.perm fun z=>by rw [List.count_append];have:=hcnt z;omega
    have ePut:putF (H+1) A i key val=(match (putF H A (kid n (bel n.keys key)) key val).2 with|none=>((putF H A (kid n (bel n.keys key)) key val).1,none)|some (b,rt)=>splitF (putF H A (kid n (bel n.keys key)) key val).1 i ⟨n.keys.insertIdx (bel n.keys key) b,[],n.kids.insertIdx (bel n.keys key+1) rt⟩):=by
      rw [putF];dsimp only;rw [hna,if_neg hk]<;>rfl
    have hlenF:=putF_len H A (kid n (bel n.keys key)) key val
    obtain ⟨hp1,_⟩:=put_ok H (val:=val) ht' hQ' hf1 hb'
    obtain ⟨P',hmv⟩:=put1_acc hp1
    have hacc:=(hmv.acc _ hQ').1
    have hfan':=hmv.fan
    obtain ⟨hF',hfl'⟩:=Acc.free hacc
    have hil':=Acc.ltL hacc (List.mem_append_right Q hri)
    refine (below_spec hN hu hKA kc).same ⟨_,rfl,?_⟩
    obtain ⟨ad,hA,hkc'⟩:=hN.kidC hbl
    refine ⟨_,rfl,_,_,_,hN.blk.cell rfl,ad,hA,⟨by omega,by omega⟩,_,by rw [Int.toNat_natCast];exact hkc',?_⟩
    refine (ih h ht' hQ' hf1 hf2 hb' (by omega) hKA hVA hkc hvc hkl hvl).mono ?_
    rintro r w1 ⟨R1,M1,h1,ch1,hr⟩
    rw [ePut]
    generalize hq:putF H A (kid n (bel n.keys key)) key val=q at *
    obtain ⟨A',x⟩:=q
    dsimp only at *
    cases x with
    | none =>
      have hr:r=_:=hr
      subst hr
      exact ⟨_,_,_,_,_,rfl,brnb (fun _=>⟨R1,M1,h1,ch1,rfl⟩) (fun h=>by cases h)⟩
    | some br =>
      obtain ⟨bt,rt⟩:=br
      obtain ⟨B,cb,rfl,hcb,hbtl,hB⟩:=hr
      refine ⟨_,_,_,_,_,rfl,brnb (fun h=>by cases h) (fun _=>?_)⟩
      have hN1:=hN.keep ch1.step
      have hM1:=h1.mlt
      obtain ⟨kxs,kcells,kf,kl,k1⟩:=cells_of oneBs hN1.keys
      obtain ⟨cxs,ccells,cf,cl,cone⟩:=cells_of oneN hN1.kids
      have hbk:bel n.keys key<=n.keys.length:=bel_le _ _
      have kf':=kf.insert hbk (a:=bt) (b:=.slice B bt.length cb) ⟨B,cb,rfl,hcb,hB⟩
      have cf':=cf.insert (i:=bel n.keys key+1) (by omega) (a:=rt) (b:=iv rt) rfl
      have lk:=List.length_insertIdx_of_le_length hbk bt
      have lc:=List.length_insertIdx_of_le_length (show bel n.keys key+1<=n.kids.length by omega) rt
      have hmem:∀ x∈n.keys.insertIdx (bel n.keys key) bt,x.length<=1048576:=by
        intro x hx
        rw [insertIdx_eq _ _ _ hbk] at hx
        rcases List.mem_append.1 hx with h|h
        · exact hok.kl x (List.mem_of_mem_take h)
        · rcases List.mem_cons.1 h with h|h
          · subst h;exact hbtl
          · exact hok.kl x (List.mem_of_mem_drop h)
      have hok2:NOk ⟨n.keys.insertIdx (bel n.keys key) bt,[],n.kids.insertIdx (bel n.keys key+1) rt⟩:=⟨by dsimp only;omega,by simp,by dsimp only;omega,hmem,fun x hx=>by cases hx⟩
      have hne2:n.kids.insertIdx (bel n.keys key+1) rt≠[]:=by intro e;rw [e] at lc;simp at lc
      have hgood2:NGood ⟨n.keys.insertIdx (bel n.keys key) bt,[],n.kids.insertIdx (bel n.keys key+1) rt⟩:=.inr ⟨hne2,rfl,by dsimp only;omega⟩
      have hend:∀ {u:World} {bm:Nat} {B1 B3:Option Addr} {d1 d3:Nat},Ext w1 u->Blk u bm [.slice B1 (n.keys.insertIdx (bel n.keys key) bt).length d1,.slice none 0 0,.slice B3 (n.kids.insertIdx (bel n.keys key+1) rt).length d3]->w1.heap.size<=bm->Part KBs (Om R1 M1) w1 u B1 d1 (n.keys.insertIdx (bel n.keys key) bt)->Part KN (Om R1 M1) w1 u B3 d3 (n.kids.insertIdx (bel n.keys key+1) rt) ->
          CallsV Tryz.prog 109 #[.pointer (some ⟨g,0,none⟩),iv i,.pointer (some ⟨bm,0,none⟩)] u fun v w'=>∃ B m c x f,v=.tuple #[.slice B m c,.int .i64 x,.bool f]/\(fun r w'=>∃ R' M',Ar1 R' M' w' g (splitF A' i ⟨n.keys.insertIdx (bel n.keys key) bt,[],n.kids.insertIdx (bel n.keys key+1) rt⟩).1/\Chg R M w R' M' w'/\PutR (Om R' M') w' (splitF A' i ⟨n.keys.insertIdx (bel n.keys key) bt,[],n.kids.insertIdx (bel n.keys key+1) rt⟩).2 r) (.tuple #[.slice B m c,.int .i64 x,.bool f]) w':=by
        intro u bm B1 B3 d1 d3 eu hbm hge p1 p3
        obtain ⟨h2,ch2⟩:=h1.absorb eu
        have hN2:=node_of (n:=⟨n.keys.insertIdx (bel n.keys key) bt,[],n.kids.insertIdx (bel n.keys key+1) rt⟩) (A2:=none) (c2:=0) hM1 eu hbm hge p1 (Part.nil _ _ _ _) p3 (fun h=>absurd h hne2) hok2
        refine (split_spec h2 (by omega) hF' (by omega) (by omega) hil' hN2 hgood2).mono ?_
        rintro r v ⟨R',M',h3,ch3,hr⟩
        obtain ⟨B,m,c,x,f,rfl,_⟩:=hr.form
        exact ⟨B,m,c,x,f,rfl,R',M',h3,ch1.trans (ch2.trans ch3),hr⟩
      have e1:IntKind.i64.wrap (((bel n.keys key:Nat):Int)+1)=((bel n.keys key+1:Nat):Int):=by rw [wi _ (by omega) (by omega)];omega
      have ed:Ext w1 w1.drew:=Fr.drew NoB w1
      have st:Sls w1 w1.drew [none,none,none,none]:=Sls.start ed 4
      have hS:=st.ext
      refine ⟨_,rfl,fun v=>Ext w1 v,ed,_,_,_,fun v e=>(hN1.blk.ext e).cell rfl,_,rfl,_,_,_,fun v e=>(hN1.blk.ext e).cell rfl,?_⟩
      simp only [e1]
      have todoK:=True.intro
      repeat' (first
        | with_reducible refine ⟨hS,?_⟩
        | with_reducible refine And.intro ?_ ?_
        | (intro gx ux fx
           replace st:=st.alloc (vs:=[.slice B bt.length cb]) fx 2
           replace hS:=st.ext)
        | (intro gx ux fx
           replace st:=st.alloc (vs:=[.int .i64 (rt:Int)]) fx 3
           replace hS:=st.ext)
        | (refine (cloneS_raw (m:=n.keys.length) (Cells.ext kcells st.ext) k1 (by omega) kl).mono ?_
           rintro _ ux ⟨kA,kcc,rfl,ko,e1,kn⟩
           refine ⟨_,_,_,rfl,?_⟩
           replace st:=st.new e1 ko kn 0
           replace hS:=st.ext)
        | (refine (cloneI_raw (m:=n.kids.length) (Cells.ext ccells st.ext) cone (by omega) cl).mono ?_
           rintro _ ux ⟨cA,ccc,rfl,co,e1,cn⟩
           refine ⟨_,_,_,rfl,?_⟩
           replace st:=st.new e1 co cn 1
           replace hS:=st.ext)
        | (clear todoK
           refine (insertS (n:=n.keys.length) (c:=kcc) (st.ownAt 0 rfl).1 k1 hbk (st.blkAt 2 rfl).1 rfl (st.off (i:=0) (j:=2) (by decide) rfl rfl) (by omega)).mono ?_
           rintro _ ux ⟨kA',kc',rfl,ko,kg⟩
           refine ⟨_,_,_,rfl,?_⟩
           replace st:=st.grow (i:=0) rfl kg ko
           replace hS:=st.ext)
        | (refine (insertI (n:=n.kids.length) (c:=ccc) (st.ownAt 1 rfl).1 cone (show bel n.keys key+1<=n.kids.length by omega) (st.blkAt 3 rfl).1 rfl (st.off (i:=1) (j:=3) (by decide) rfl rfl) (by omega)).mono ?_
           rintro _ ux ⟨cA',cc',rfl,co,cg⟩
           refine ⟨_,_,_,rfl,?_⟩
           replace st:=st.grow (i:=1) rfl cg co
           intro gx uy fx
           replace st:=st.step fx.ext
           exact hend (d1:=kc') (d3:=cc') st.ext (by rw [lk,lc];exact fx.blk) (Nat.le_trans hS.size (Nat.le_trans cg.fr.size fx.ge)) ⟨(st.ownAt 0 rfl).2,_,by rw [lk];exact (st.ownAt 0 rfl).1,kf'⟩ ⟨(st.ownAt 1 rfl).2,_,by rw [lc];exact (st.ownAt 1 rfl).1,cf'⟩))
end Go.Proofs.YthfagbfllheneaaGreat
set_option linter.unusedVariables false
set_option linter.unusedSimpArgs false
namespace Go.Proofs.YthfagbfllheneaaGreat
open Go Go.Sx T4
theorem trail_full (fan:Nat):∀ l:List Nat,(∀ x∈l,fan<=x)->trail fan l=l.length
  | [],_=>rfl
  | s::l,h=>by
    have ih:=trail_full fan l fun x hx=>h x (by simp [hx])
    rw [trail,if_pos ⟨ih,h s (by simp)⟩,ih];rfl
theorem trail_stop (fan s:Nat) (l2:List Nat) (h2:∀ x∈l2,fan<=x) (hs:¬ fan<=s):∀ l1:List Nat,trail fan (l1++s::l2)=l2.length
  | []=>by
    have:=trail_full fan l2 h2
    show trail fan (s::l2)=_
    rw [trail,if_neg (fun h=>hs h.2),this]
  | a::l1=>by
    have ih:=trail_stop fan s l2 h2 hs l1
    rw [List.cons_append,trail,if_neg,ih]
    rintro ⟨h,_⟩
    rw [ih] at h;simp at h;omega
theorem leafF_nd:∀ (H:Nat) {A:Ar} {mn:Nat×Nat} {i:Nat} {lo hi:Option Key} {es:Es} {ps:List Nat} {key:Key},Tree A.nd A.fan H mn i lo hi es ps->Bnd lo hi key->∀ j∈(leafF H A i key).2,∃ n,A.nd j=some n
  | 0,_,_,_,_,_,_,_,_,h,_=>h.elim
  | H+1,A,mn,i,lo,hi,es,ps,key,ht,hb=>by
    obtain ⟨n,hn,_,hc⟩:=tree_node ht
    have hna:nodeAt A i=n:=by simp [nodeAt,hn]
    rw [leafF,hna]
    dsimp only
    rcases hc with ⟨_,hk,_⟩|⟨k',hH,_,hk,_,_,_,_,hf⟩
    · rw [if_pos hk];intro j hj;simp at hj;subst hj;exact ⟨n,hn⟩
    · rw [if_neg hk]
      obtain rfl:H=k':=by omega
      obtain ⟨_,lo',hi',es',ps',ht',hb',_⟩:=hf key hb
      intro j hj
      rcases List.mem_cons.1 hj with rfl|hj
      · exact ⟨n,hn⟩
      · exact leafF_nd H ht' hb' j hj
theorem wants_spec {R M:Nat->Prop} {w:World} {g:Nat} {A:Ar} (h:Ar1 R M w g A) {way:List Nat} (hnd:∀ j∈way,∃ n,A.nd j=some n) (hl:way.length<=1048576) {W:Option Addr} {wc:Nat} (hw:OwnK KN w W wc way) :
    CallsV Tryz.prog 89 #[.pointer (some ⟨g,0,none⟩),.slice W way.length wc] w fun r w'=>r=iv (wantsF A.fan (way.map fun j=>(nodeAt A j).size))/\Ext w w':=by
  obtain ⟨At,ac,Fa,fc,mb,h⟩:=h
  refine tree_Arena_wants.calls okay ?_
  unfold tree_Arena_wants.W
  have hwi:=hw.imm (K:=KN) KN_pos
  generalize hsz:(way.map fun j=>(nodeAt A j).size)=sz
  have hlen:sz.length=way.length:=by rw [<- hsz];simp
  have hget:∀ {i:Nat} (hi:i<way.length),sz[i]'(by omega)=(nodeAt A way[i]).size:=by intro i hi;subst hsz;simp
  refine ⟨fun x i u=>Ext w u/\∃ k:Nat,x=(k:Int)/\i=(way.length:Int)-1-k/\k<=way.length/\∀ y∈sz.drop (way.length-k),A.fan<=y,fun _ i _=>(i+1).toNat,⟨.refl _ _,0,rfl,?_,Nat.zero_le _,?_⟩,?_⟩
  · rw [wi _ (by omega) (by omega)];omega
  · intro y hy;rw [List.drop_eq_nil_of_le (by omega)] at hy;cases hy
  · rintro _ _ u ⟨eu,k,rfl,rfl,hk,hfull⟩
    refine brd (fun hlt=>?_) (fun hge=>?_)
    · obtain ⟨j,hj⟩:∃ j:Nat,(way.length:Int)-1-k=(j:Int):=⟨way.length-1-k,by omega⟩
      rw [hj]
      have hjl:j<way.length:=by omega
      obtain ⟨ad,hA,_,cs,hr,hv⟩:=hwi j way[j] (by simp [hjl])
      cases hr
      have hcw:=hv 0 _ rfl
      obtain ⟨n,hn⟩:=hnd way[j] (by simp)
      have hna:nodeAt A way[j]=n:=by simp [nodeAt,hn]
      obtain ⟨hil,ga,b,A1,c1,A2,c2,A3,c3,rfl,hc,hN⟩:=(h.ext eu).node hn
      have ed:Ext u u.drew:=Fr.drew NoB u
      refine ⟨_,rfl,fun v=>Ext u v,ed,_,_,_,fun v e=>((h.ext eu).blk.ext e).cell rfl,ad,hA,⟨by omega,by omega⟩,_,fun v e=>by rw [Int.toNat_natCast];exact Ext.cell (eu.trans' e) hcw,_,rfl,⟨by omega,by omega⟩,.some ⟨b,0,none⟩,fun v e=>?_,_,rfl,_,fun v e=>((h.ext eu).blk.ext e).cell rfl,?_⟩
      · rw [add_new,Nat.zero_add,Int.toNat_natCast,Nat.mul_one];exact Ext.cell e hc
      refine (size_spec (hN.keep (Ext.om ed R M))).same ⟨_,rfl,ed,?_⟩
      have hgj:=hget hjl
      rw [hna] at hgj
      have hsp:sz=sz.take j++n.size::sz.drop (way.length-k):=by
        conv=>lhs;rw [<- List.take_append_drop j sz,List.drop_eq_getElem_cons (by omega:j<sz.length),hgj]
        rw [show j+1=way.length-k by omega]
      refine brd (fun hlt2=>?_) (fun hge2=>?_)
      · refine ⟨?_,eu.trans' ed⟩
        have htr:=trail_stop A.fan n.size (sz.drop (way.length-k)) hfull (by omega) (sz.take j)
        rw [<- hsp,List.length_drop,hlen] at htr
        have:trail A.fan sz=k:=by omega
        unfold wantsF
        rw [this,if_neg (by omega)]
      · refine ⟨⟨eu.trans' ed,k+1,by rw [wi _ (by omega) (by omega)];omega,by rw [wi _ (by omega) (by omega)];omega,by omega,?_⟩,by dsimp only;rw [wi _ (by omega) (by omega)];omega⟩
        intro y hy
        rw [show way.length-(k+1)=j by omega,List.drop_eq_getElem_cons (by omega:j<sz.length),hgj] at hy
        rcases List.mem_cons.1 hy with rfl|hy
        · omega
        · rw [show j+1=way.length-k by omega] at hy;exact hfull y hy
    · obtain rfl:k=way.length:=by omega
      rw [Nat.sub_self,List.drop_zero] at hfull
      have htr:=trail_full A.fan sz hfull
      refine ⟨?_,eu⟩
      unfold wantsF
      rw [if_pos htr,wi _ (by omega) (by omega),hlen]
      simp [iv]
theorem inE_mid {key:Key} {es1 e es2:Es} (h1:∀ x∈es1,lt x.1 key) (h2:∀ x∈es2,lt key x.1):inE key (es1++(e++es2))=inE key e:=by unfold inE;rw [getE_low h1,getE_high h2]
structure TreeAt (A:Ar) (H i:Nat) (es:Es) (ps Q:List Nat):Prop where
  tree:Tree A.nd A.fan H (0,2) i none none es ps
  acc:T4.Acc A Q ps
  f1:4<=A.fan
  f2:A.fan<=64
  len:A.at_.length<=131072
theorem TreeAt.hl {A:Ar} {H i:Nat} {es:Es} {ps Q:List Nat} (h:TreeAt A H i es ps Q):H<=A.at_.length:=by
  have h1:=h.tree.height.2
  have h2:=h.acc.total
  omega
def putFull (H:Nat) (A:Ar) (i:Nat) (key:Key) (es:Es):Bool:=!inE key es && decide (A.most<A.nodes+wantsF A.fan (sizes H A i key))
theorem Put_spec {R M:Nat->Prop} {w:World} {g:Nat} {A:Ar} (h:Ar1 R M w g A) {root:Int} {H i:Nat} {es:Es} {ps Q:List Nat} (hr:getT A.trees root=some i) (T:TreeAt A H i es ps Q) (hm:A.most<=65536) {key val:Key} {Ω1 Ω2:Nat->Prop} {KA VA:Option Addr} (hKA:Imm KB Ω1 w KA key) (hVA:Imm KB Ω2 w VA val) (kc vc:Nat) (hkl:key.length<=1048576) (hvl:val.length<=1048576) :
    CallsV Tryz.prog 61 #[.pointer (some ⟨g,0,none⟩),.int .i64 root,.slice KA key.length kc,.slice VA val.length vc] w fun r w'=>∃ R' M',Ar1 R' M' w' g (if putFull H A i key es then A else putTop H A i key val)/\Chg R M w R' M' w' /\
      r=.tuple #[.bool (!putFull H A i key es && inE key es),.int .i64 (if putFull H A i key es then 5 else 0)]:=by
  have hHl:=T.hl
  have hlen:=T.len
  have hM:=h.mlt
  obtain ⟨hF,hfl⟩:=Acc.free T.acc
  refine tree_Arena_Put.calls okay ?_
  unfold tree_Arena_Put.W
  refine (top_spec h (by have:=T.f1;omega) root).mono ?_
  rintro _ w0 ⟨rfl,hw0⟩
  obtain rfl:w=w0:=hw0.symm
  rw [hr]
  refine ⟨_,_,rfl,brn (fun h=>absurd rfl h) fun _=>brd (fun h=>by omega) fun _=>brd (fun h=>by omega) fun _=>?_⟩
  refine (leaf_spec h T.tree (Bnd.all key) (by omega) hKA kc).mono ?_
  rintro _ w1 ⟨b,A1,c1,A2,c2,A3,c3,W,wc,rfl,hN,hW,e1,hWn⟩
  obtain ⟨es1,e,es2,g1,g2,g3,g4,g5,g6,g7⟩:=leaf_ok H T.tree (Bnd.all key)
  have hk:(leafF H A i key).1.keys=keysE e:=by rw [g1]
  have hin:has (leafF H A i key).1.keys key=inE key es:=by rw [hk,g2,inE_mid g4 g5,inE_has]
  have hkl':=hN.okn.k
  refine ⟨_,_,_,_,rfl,_,rfl,_,_,_,hN.blk.cell rfl,?_⟩
  refine (Search_spec hN.keys (hKA.ext KB_pos e1) (by rw [hk];exact g3) (by omega) c1 kc).same ⟨_,_,rfl,?_⟩
  rw [hin]
  -- what is done where there is room
  refine ⟨fun u=>Ext w u/\putFull H A i key es=false,?_,?_⟩
  · rintro u ⟨eu,hnf⟩
    rw [hnf]
    refine (CloneB_spec oneB (hKA.ext KB_pos eu) (by omega)).mono ?_
    rintro _ u1 ⟨KA',kc',rfl,ko,e2,kn,_⟩
    have eu1:=eu.trans' e2
    refine ⟨_,_,_,rfl,(CloneB_spec oneB (hVA.ext KB_pos eu1) (by omega)).mono ?_⟩
    rintro _ u2 ⟨VA',vc',rfl,vo,e3,vn,_⟩
    have eu2:=eu1.trans' e3
    obtain ⟨h2,ch2⟩:=h.absorb eu2
    have iK:Imm KB (Om (Ra R w u2) M) u2 KA' key:=by
      have:=((ownB_of ko).ext e3).imm (Ω:=Om (Ra R w u2) M) fun k hk=>ra_off hM ((kn.ext eu) k hk) (Nat.lt_of_lt_of_le (ko.lt k hk) e3.size)
      exact this
    have iV:Imm KB (Om (Ra R w u2) M) u2 VA' val:=(ownB_of vo).imm fun k hk=>ra_off hM ((vn.ext eu1) k hk) (vo.lt k hk)
    refine ⟨_,_,_,rfl,(put_spec H h2 T.tree T.acc T.f1 T.f2 (Bnd.all key) (by omega) iK iV ko.le vo.le hkl hvl).mono ?_⟩
    rintro r w3 ⟨R3,M3,h3,ch3,hr3⟩
    obtain ⟨hp1,_⟩:=put_ok H (val:=val) T.tree T.acc T.f1 (Bnd.all key)
    obtain ⟨P',hmv⟩:=put1_acc hp1
    have hacc:=(hmv.acc _ T.acc).1
    have hlenF:=putF_len H A i key val
    obtain ⟨hF',hfl'⟩:=Acc.free hacc
    have chA:=ch2.trans ch3
    have eT:putTop H A i key val=(match (putF H A i key val).2 with|none=>(putF H A i key val).1|some (b,rt)=>setN (place (putF H A i key val).1 (nodeAt (putF H A i key val).1 i)).1 i ⟨[b],[],[(place (putF H A i key val).1 (nodeAt (putF H A i key val).1 i)).2,rt]⟩):=rfl
    rw [if_neg (by decide),eT]
    generalize hq:putF H A i key val=q at *
    obtain ⟨A',x⟩:=q
    dsimp only at *
    cases x with
    | none =>
      have hr3:r=_:=hr3
      subst hr3
      exact ⟨_,_,_,_,_,rfl,br (fun h=>by cases h) fun _=>⟨R3,M3,h3,chA,by simp⟩⟩
    | some br' =>
      obtain ⟨bt,rt⟩:=br'
      obtain ⟨B,cb,rfl,hcb,hbtl,hB⟩:=hr3
      refine ⟨_,_,_,_,_,rfl,br (fun _=>?_) fun h=>by cases h⟩
      obtain ⟨es1',es2',ps1,ps2,_,_,hm',t1,t2,_⟩:=hp1
      obtain ⟨n,hn,_,hcn⟩:=tree_node t1
      have hna:nodeAt A' i=n:=by simp [nodeAt,hn]
      have hil:i<A'.at_.length:=(List.getElem?_eq_some_iff.1 (nd_at hn)).1
      have h3':=h3
      obtain ⟨At,ac,Fa,fc,mb,ha⟩:=h3'
      obtain ⟨_,ga,b0,D1,d1,D2,d2,D3,d3,rfl,hc,hN3⟩:=ha.node hn
      rw [hna]
      refine ⟨_,rfl,_,_,_,ha.blk.cell rfl,_,rfl,⟨by omega,by omega⟩,_,by rw [add_new,Nat.zero_add,Int.toNat_natCast,Nat.mul_one];exact hc,?_⟩
      refine (place_spec h3 (by omega) hF' (by omega) (n:=n) ⟨b0,D1,d1,D2,d2,D3,d3,rfl,hN3⟩).mono ?_
      rintro _ w4 ⟨rfl,R4,M4,h4,ch4⟩
      have hM4:=h4.mlt
      have hplen:=place_len A' n
      have hil4:i<(place A' n).1.at_.length:=by unfold place;split<;>simp<;>omega
      obtain ⟨At4,ac4,Fa4,fc4,mb4,ha4⟩:=h4
      refine ⟨_,rfl,_,rfl,_,_,_,ha4.blk.cell rfl,?_⟩
      intro x1 w5 f5 x2 w6 f6 x3 w7 f7
      have h4':Ar1 R4 M4 w4 g (place A' n).1:=⟨_,_,_,_,_,ha4⟩
      have e47:Ext w4 w7:=(f5.ext.trans' f6.ext).trans' f7.ext
      obtain ⟨h7,ch7⟩:=h4'.absorb e47
      have st7:=ch7.step
      have hge5:=f5.ge
      have hge6:w4.heap.size<=x2:=Nat.le_trans f5.ext.size f6.ge
      have hlt5:x1<w7.heap.size:=Nat.lt_of_lt_of_le f5.lt (f6.ext.trans' f7.ext).size
      have hlt6:x2<w7.heap.size:=Nat.lt_of_lt_of_le f6.lt f7.ext.size
      have hBB:KBs.rep (Om (Ra R4 w4 w7) M4) w7 bt [.slice B bt.length cb]:=⟨B,cb,rfl,hcb,hB.keep KB_pos (ch4.trans ch7).step⟩
      have i1:Imm KBs (Om (Ra R4 w4 w7) M4) w7 (some ⟨x1,0,none⟩) [bt]:=by
        have ho:Own w5 1 (some ⟨x1,0,none⟩) 1 1 [.slice B bt.length cb]:=by obtain ⟨rfl,rfl⟩:=f5;exact own_lit rfl (by simp [maxLen])
        exact own_imm oneBs (l:=[bt]) (Ω:=Om (Ra R4 w4 w7) M4) (w0:=w7) (ho.keep (f6.ext.trans' f7.ext) fun _ _ h=>h) (.cons hBB .nil) (.refl _ _) fun k hk=>by rw [ownB_some] at hk;subst hk;exact ra_off hM4 hge5 hlt5
      have i3:Imm KN (Om (Ra R4 w4 w7) M4) w7 (some ⟨x2,0,none⟩) [(place A' n).2,rt]:=by
        have ho:Own w6 1 (some ⟨x2,0,none⟩) 2 2 [iv (place A' n).2,iv rt]:=by obtain ⟨rfl,rfl⟩:=f6;exact own_lit rfl (by simp [maxLen])
        exact own_imm oneN (l:=[(place A' n).2,rt]) (Ω:=Om (Ra R4 w4 w7) M4) (w0:=w7) (ho.keep f7.ext fun _ _ h=>h) (.cons rfl (.cons rfl .nil)) (.refl _ _) fun k hk=>by rw [ownB_some] at hk;subst hk;exact ra_off hM4 hge6 hlt6
      have hN7:NodAt (Om (Ra R4 w4 w7) M4) w7 x3 ⟨[bt],[],[(place A' n).2,rt]⟩ (some ⟨x1,0,none⟩) 1 none 0 (some ⟨x2,0,none⟩) 2 :=
        NodAt.fresh hM4 (f5.ext.trans' f6.ext) f7 (by simp) (by simp) (by simp) i1 (Imm.nil _ _ _ _) i3 (by simp) ⟨by simp,by simp,by simp,fun x hx=>by simp at hx;subst hx;exact hbtl,fun x hx=>by cases hx⟩
      obtain ⟨ga7,ac7,fc7,Fa7,mb7,hb7,s1,s2⟩:=h7.setAt hil4 (n:=⟨[bt],[],[(place A' n).2,rt]⟩) ⟨x3,_,_,_,_,_,_,rfl,hN7⟩
      have hb47:=ha4.blk.ext e47
      obtain ⟨ex,hx⟩:=hb7
      obtain ⟨ey,hy⟩:=hb47
      rw [hx] at hy
      have hcs:=(Obj.cells.inj (Option.some.inj hy)).1
      have hAt:At4=some ⟨ga7,0,none⟩:=by simp [arC] at hcs;exact hcs.1.1.symm
      refine ⟨_,hAt,⟨by omega,by omega⟩,by rw [Int.toNat_natCast];exact s1,fun w8 hw8=>?_⟩
      rw [Int.toNat_natCast] at hw8
      obtain ⟨h8,ch8⟩:=s2 w8 hw8
      exact ⟨_,_,h8,chA.trans (ch4.trans (ch7.trans ch8)),by simp⟩
  · refine brnb (fun hne=>?_) (fun hin'=>?_)
    · -- it is not there: is there room?
      have h1:=h.ext e1
      have hwl:(leafF H A i key).2.length<=1048576:=by rw [g7];omega
      obtain ⟨At,ac,Fa,fc,mb,ha⟩:=h1
      have h1:Ar1 R M w1 g A:=⟨_,_,_,_,_,ha⟩
      have ed:Ext w1 w1.drew:=Fr.drew NoB w1
      have ed2:Ext w1.drew w1.drew.drew:=Fr.drew NoB w1.drew
      refine ⟨_,rfl,fun u=>Ext w1 u,ed,_,fun u e=>(ha.blk.ext e).cell rfl,?_⟩
      refine (Nodes_spec (h1.ext ed) hfl (by omega)).mono ?_
      rintro _ _ ⟨rfl,rfl⟩
      refine ⟨_,rfl,ed.trans' ed2,?_⟩
      refine (wants_spec (h1.ext (ed.trans' ed2)) (leafF_nd H T.tree (Bnd.all key)) hwl (hW.ext (ed.trans' ed2))).mono ?_
      rintro _ w2 ⟨rfl,e2⟩
      have e12:=(ed.trans' ed2).trans' e2
      rw [g6]
      have hn1:A.nodes<=A.at_.length:=by unfold Ar.nodes;omega
      have hsl:=sizes_len H T.tree (Bnd.all key)
      have hw2:wantsF A.fan (sizes H A i key)<=H+1:=by
        have:=trail_le A.fan (sizes H A i key)
        unfold wantsF
        split<;>omega
      refine ⟨_,rfl,e12,?_⟩
      rw [wi _ (by omega) (by omega)]
      refine brd (fun hful=>?_) (fun hroom=>?_)
      · have:putFull H A i key es=true:=by unfold putFull;rw [hne];simp;omega
        rw [this]
        exact ⟨R,M,h.ext (e1.trans' e12),Chg.ext (e1.trans' e12),by simp⟩
      · have:putFull H A i key es=false:=by unfold putFull;rw [hne];simp;omega
        exact ⟨e1.trans' e12,this⟩
    · have:putFull H A i key es=false:=by unfold putFull;rw [hin'];rfl
      exact ⟨e1.trans' (Fr.drew NoB w1),this⟩
theorem Put_none {R M:Nat->Prop} {w:World} {g:Nat} {A:Ar} (h:Ar1 R M w g A) (hf:0<A.fan) {root:Int} (hr:getT A.trees root=none) (KA VA:Option Addr) (kn kc vn vc:Nat) :
    CallsV Tryz.prog 61 #[.pointer (some ⟨g,0,none⟩),.int .i64 root,.slice KA kn kc,.slice VA vn vc] w fun r w'=>r=.tuple #[.bool false,.int .i64 41]/\w'=w:=by
  refine tree_Arena_Put.calls okay ?_
  unfold tree_Arena_Put.W
  refine (top_spec h hf root).mono ?_
  rintro _ _ ⟨rfl,rfl⟩
  rw [hr]
  exact ⟨_,_,rfl,brn (fun _=>⟨rfl,rfl⟩) fun h=>by cases h⟩
end Go.Proofs.YthfagbfllheneaaGreat
set_option linter.unusedVariables false
set_option linter.unusedSimpArgs false
namespace Go.Proofs.YthfagbfllheneaaGreat
open Go Go.Sx T4
theorem drawn_drew (w:World):w.drew.drawn=w.drawn+1:=rfl
theorem ArA.treeNode {R M:Nat->Prop} {w:World} {g:Nat} {At:Option Addr} {ac:Nat} {Fa:Option Addr} {fc mb:Nat} {A:Ar} (h:ArA R M w g At ac Fa fc mb A) {fan k:Nat} {mn:Nat×Nat} {j:Nat} {lo hi:Option Key} {es:Es} {ps:List Nat} (ht:Tree A.nd fan k mn j lo hi es ps) :
    j<A.at_.length/\∃ ga b A1 c1 A2 c2 A3 c3,At=some ⟨ga,0,none⟩/\w.cell? ((⟨ga,0,none⟩:Addr).add (j*1))=some (.pointer (some ⟨b,0,none⟩))/\NodAt (Om R M) w b (nodeAt A j) A1 c1 A2 c2 A3 c3:=by
  obtain ⟨n,hn,_⟩:=tree_node ht
  obtain ⟨h1,ga,b,A1,c1,A2,c2,A3,c3,hA,hc,hN⟩:=h.node hn
  have hna:nodeAt A j=n:=by simp [nodeAt,hn]
  exact ⟨h1,ga,b,A1,c1,A2,c2,A3,c3,hA,by rw [add_new,Nat.zero_add,Nat.mul_one];exact hc,hna▸hN⟩
theorem tree_nodeAt {A:Ar} {fan k:Nat} {mn:Nat×Nat} {j:Nat} {lo hi:Option Key} {es:Es} {ps:List Nat} (h:Tree A.nd fan k mn j lo hi es ps) :
    (k=1/\(nodeAt A j).kids=[]/\UpE es/\(nodeAt A j).keys=keysE es/\(nodeAt A j).vals=valsE es) \/
      (∃ k',k=k'+1/\0<k'/\(nodeAt A j).kids≠[]/\Up (nodeAt A j).keys/\(∀ c,c<(nodeAt A j).kids.length->∃ lo' hi' es' ps',Reg A.nd fan k' (kid (nodeAt A j) c) lo' hi' es' ps') /\
        ∀ key,Bnd lo hi key->bel (nodeAt A j).keys key<(nodeAt A j).kids.length/\∃ lo' hi' es' ps',Reg A.nd fan k' (kid (nodeAt A j) (bel (nodeAt A j).keys key)) lo' hi' es' ps'/\Bnd lo' hi' key):=by
  obtain ⟨n,hn,_,hc⟩:=tree_node h
  have hna:nodeAt A j=n:=by simp [nodeAt,hn]
  rw [hna]
  rcases hc with ⟨h1,h2,h3,h4,h5,_⟩|⟨k',h1,h2,h3,_,h4,_,h5,h6⟩
  · exact .inl ⟨h1,h2,h5,h3,h4⟩
  · exact .inr ⟨k',h1,h2,h3,h4,h5,fun key hb=>by obtain ⟨h7,lo',hi',es',ps',h8,h9,_⟩:=h6 key hb;exact ⟨h7,lo',hi',es',ps',h8,h9⟩⟩
/-! ## how deep -/
/-! ## the last leaf -/
theorem lastL_step {A:Ar} {k j:Nat} (h:(nodeAt A j).kids≠[]):lastL (k+1) A j=lastL k A (kid (nodeAt A j) ((nodeAt A j).kids.length-1)):=by rw [lastL];rw [if_neg h]
theorem lastL_leaf {A:Ar} {k j:Nat} (h:(nodeAt A j).kids=[]):lastL k A j=nodeAt A j:=by cases k with|zero=>rfl|succ k=>rw [lastL];rw [if_pos h]
theorem firstL_step {A:Ar} {k j:Nat} (h:(nodeAt A j).kids≠[]):firstL (k+1) A j=firstL k A (kid (nodeAt A j) 0):=by rw [firstL];rw [if_neg h]
theorem firstL_leaf {A:Ar} {k j:Nat} (h:(nodeAt A j).kids=[]):firstL k A j=nodeAt A j:=by cases k with|zero=>rfl|succ k=>rw [firstL];rw [if_pos h]
theorem end_spec {R M:Nat->Prop} {w:World} {g:Nat} {A:Ar} (h:Ar1 R M w g A) {k0:Nat} {mn:Nat×Nat} {i:Nat} {lo hi:Option Key} {es:Es} {ps:List Nat} (ht:Tree A.nd A.fan k0 mn i lo hi es ps) {m0:Nat} (hm:k0<=m0) :
    CallsV Tryz.prog 100 #[.pointer (some ⟨g,0,none⟩),iv i] w fun r w'=>∃ b A1 c1 A2 c2 A3 c3,r=.pointer (some ⟨b,0,none⟩)/\NodAt (Om R M) w' b (lastL m0 A i) A1 c1 A2 c2 A3 c3/\(lastL m0 A i).vals.length=(lastL m0 A i).keys.length/\Ext w w':=by
  refine tree_Arena_end.calls okay ?_
  unfold tree_Arena_end.W
  obtain ⟨At,ac,Fa,fc,mb,h⟩:=h
  obtain ⟨hil,ga,b,A1,c1,A2,c2,A3,c3,rfl,hc,hN⟩:=h.treeNode ht
  refine ⟨_,rfl,_,_,_,h.blk.cell rfl,_,rfl,⟨by omega,by omega⟩,_,by rw [Int.toNat_natCast];exact hc,?_⟩
  refine ⟨fun p u=>∃ k m j mn lo hi es ps b A1 c1 A2 c2 A3 c3,Tree A.nd A.fan k mn j lo hi es ps/\k<=m/\u.drawn+m=w.drawn+m0/\lastL m0 A i=lastL m A j/\p=some ⟨b,0,none⟩/\NodAt (Om R M) u b (nodeAt A j) A1 c1 A2 c2 A3 c3/\Ext w u,fun _ u=>w.drawn+m0-u.drawn,⟨k0,m0,i,_,_,_,_,_,b,A1,c1,A2,c2,A3,c3,ht,hm,rfl,rfl,rfl,hN,.refl _ _⟩,?_⟩
  rintro _ u ⟨k,m,j,mn,lo,hi,es,ps,b,A1,c1,A2,c2,A3,c3,ht,hk,hdr,hlast,rfl,hN,eu⟩
  refine ⟨_,rfl,_,_,_,hN.blk.cell rfl,brnb (fun hnn=>?_) (fun hnn=>?_)⟩
  · have hne:(nodeAt A j).kids≠[]:=fun e=>by rw [hN.nil.2 e] at hnn;cases hnn
    rcases tree_nodeAt ht with ⟨_,hk0,_⟩|⟨k',rfl,h0,_,hu,hall,_⟩
    · exact absurd hk0 hne
    have hpos:0<(nodeAt A j).kids.length:=List.length_pos_iff.2 hne
    have hcl:=hN.okn.c
    obtain ⟨lo',hi',es',ps',ht'⟩:=hall ((nodeAt A j).kids.length-1) (by omega)
    have ed:Ext u u.drew:=Fr.drew NoB u
    obtain ⟨ad,hA3,hkc⟩:=hN.kidC (c:=(nodeAt A j).kids.length-1) (by omega)
    have hu1:=h.ext eu
    obtain ⟨hil',ga',b',B1,d1,B2,d2,B3,d3,hAt,hc',hN'⟩:=hu1.treeNode ht'
    cases hAt
    obtain ⟨m',rfl⟩:∃ m',m=m'+1:=⟨m-1,by omega⟩
    have e1:IntKind.i64.wrap (((nodeAt A j).kids.length:Int)-1)=(((nodeAt A j).kids.length-1:Nat):Int):=by rw [wi _ (by omega) (by omega)];omega
    have hS:∀ v,Ext u v->Blk v b _:=fun v e=>hN.blk.ext e
    refine ⟨_,rfl,fun v=>Ext u v,ed,_,_,_,fun v e=>(hu1.blk.ext e).cell rfl,_,rfl,A3,(nodeAt A j).kids.length,c3,fun v e=>(hS v e).cell rfl,_,rfl,A3,(nodeAt A j).kids.length,c3,fun v e=>(hS v e).cell rfl,?_⟩
    rw [e1]
    refine ⟨ad,hA3,⟨by omega,by omega⟩,_,fun v e=>by rw [Int.toNat_natCast];exact Ext.cell e hkc,_,rfl,⟨by omega,by omega⟩,.some ⟨b',0,none⟩,fun v e=>by rw [Int.toNat_natCast];exact Ext.cell e hc',?_⟩
    refine ⟨⟨k',m',_,_,lo',hi',es',ps',b',B1,d1,B2,d2,B3,d3,ht',by omega,by rw [drawn_drew];omega,by rw [hlast,lastL_step hne],rfl,hN'.keep (Ext.om ed R M),eu.trans' ed⟩,by dsimp only;rw [drawn_drew];omega⟩
  · have hk0:(nodeAt A j).kids=[]:=hN.nil.1 (by cases A3<;>simp_all)
    rcases tree_nodeAt ht with ⟨rfl,_,_,h1,h2⟩|⟨_,_,_,hk1,_⟩
    · rw [hlast,lastL_leaf hk0]
      exact ⟨b,A1,c1,A2,c2,A3,c3,rfl,hN,by rw [h1,h2,keysE_length,valsE_length],eu⟩
    · exact absurd hk0 hk1
theorem Told.form {w w':World} {x:Option (Key×Key)} {r:Value} (h:Told w x r w'):∃ (A:Option Addr) (n c:Nat) (B:Option Addr) (m d:Nat) (f:Bool),r=.tuple #[.slice A n c,.slice B m d,.bool f]:=by
  cases x with
  | none=>exact ⟨_,_,_,_,_,_,_,h⟩
  | some p=>obtain ⟨k,v⟩:=p;obtain ⟨A,c,B,d,h,_⟩:=h;exact ⟨_,_,_,_,_,_,_,h⟩
theorem Last_spec {R M:Nat->Prop} {w:World} {g:Nat} {A:Ar} (h:Ar1 R M w g A) {root:Int} {H i:Nat} {es:Es} {ps Q:List Nat} (hr:getT A.trees root=some i) (T:TreeAt A H i es ps Q) :
    CallsV Tryz.prog 75 #[.pointer (some ⟨g,0,none⟩),.int .i64 root] w fun r w'=>Told w es.getLast? r w'/\Ext w w':=by
  refine tree_Arena_Last.calls okay ?_
  unfold tree_Arena_Last.W
  refine (top_spec h (by have:=T.f1;omega) root).mono ?_
  rintro _ w0 ⟨rfl,hw0⟩
  obtain rfl:w=w0:=hw0.symm
  rw [hr]
  refine ⟨_,_,rfl,brn (fun h=>absurd rfl h) fun _=>?_⟩
  refine (end_spec h T.tree (Nat.le_refl H)).mono ?_
  rintro _ w1 ⟨b,A1,c1,A2,c2,A3,c3,rfl,hN,hv,e1⟩
  have hkl:=hN.okn.k
  refine ⟨_,rfl,_,rfl,_,_,_,hN.blk.cell rfl,?_⟩
  rw [wi _ (by omega) (by omega)]
  refine (entry_spec hN hv _).mono ?_
  rintro r w2 ⟨ht,e2⟩
  rw [last_ok H T.tree T.f1 H (by omega)] at ht
  obtain ⟨A',n,c,B,m,d,f,rfl⟩:=ht.form
  exact ⟨_,_,_,_,_,_,_,rfl,ht.from e1,e1.trans' e2⟩
/-! ## a key's value -/
theorem Get_spec {R M:Nat->Prop} {w:World} {g:Nat} {A:Ar} (h:Ar1 R M w g A) {root:Int} {H i:Nat} {es:Es} {ps Q:List Nat} (hr:getT A.trees root=some i) (T:TreeAt A H i es ps Q) {key:Key} {Ω:Nat->Prop} {KA:Option Addr} (hKA:Imm KB Ω w KA key) (kc:Nat) :
    CallsV Tryz.prog 104 #[.pointer (some ⟨g,0,none⟩),.int .i64 root,.slice KA key.length kc] w fun r w'=>Ext w w'/\(match getE key es with|none=>r=.tuple #[.slice none 0 0,.bool false]|some v=>∃ B d,r=.tuple #[.slice B v.length d,.bool true]/\OwnB w' B d v/\New w B/\v.length<=1048576):=by
  have hHl:=T.hl
  have hlen:=T.len
  refine tree_Arena_Get.calls okay ?_
  unfold tree_Arena_Get.W
  refine (top_spec h (by have:=T.f1;omega) root).mono ?_
  rintro _ w0 ⟨rfl,hw0⟩
  obtain rfl:w=w0:=hw0.symm
  rw [hr]
  refine ⟨_,_,rfl,brn (fun h=>absurd rfl h) fun _=>?_⟩
  refine (leaf_spec h T.tree (Bnd.all key) (by omega) hKA kc).mono ?_
  rintro _ w1 ⟨b,A1,c1,A2,c2,A3,c3,W,wc,rfl,hN,hW,e1,hWn⟩
  obtain ⟨es1,e,es2,g1,g2,g3,g4,g5,g6,g7⟩:=leaf_ok H T.tree (Bnd.all key)
  have hk:(leafF H A i key).1.keys=keysE e:=by rw [g1]
  have hv:(leafF H A i key).1.vals=valsE e:=by rw [g1]
  have hkl':=hN.okn.k
  have hget:getE key es=if has (keysE e) key then (valsE e)[pos (keysE e) key]? else none:=by rw [g2,getE_low g4,getE_high g5,get_has]
  refine ⟨_,_,_,_,rfl,_,rfl,_,_,_,hN.blk.cell rfl,?_⟩
  refine (Search_spec hN.keys (hKA.ext KB_pos e1) (by rw [hk];exact g3) (by omega) c1 kc).same ⟨_,_,rfl,?_⟩
  refine brnb (fun hh=>?_) (fun hh=>?_)
  · rw [hk] at hh
    rw [hget,if_neg (by rw [hh];decide)]
    exact ⟨e1,rfl⟩
  · rw [hk] at hh
    have hpos:pos (keysE e) key<(valsE e).length:=by
      have h1:=of_decide_eq_true hh
      have h2:=(List.getElem?_eq_some_iff.1 h1).1
      rw [keysE_length] at h2;rw [valsE_length];exact h2
    rw [hget,if_pos hh,List.getElem?_eq_getElem hpos]
    obtain ⟨ad,B,cb,hA,hc,hcb,hB⟩:=list_item hN.vals (c:=pos (keysE e) key) (by rw [hv];exact hpos)
    have hgd:(leafF H A i key).1.vals.getD (pos (keysE e) key) []=(valsE e)[pos (keysE e) key]:=by rw [hv];simp [List.getD,hpos]
    rw [hgd] at hc hcb hB
    have hvl:((valsE e)[pos (keysE e) key]).length<=1048576:=hN.okn.vl _ (by rw [hv];simp)
    rw [hk]
    refine ⟨_,rfl,_,_,_,hN.blk.cell rfl,ad,hA,⟨by omega,by rw [hv];omega⟩,_,_,_,by rw [Int.toNat_natCast];exact hc,?_⟩
    refine (CloneB_own hB (by omega)).mono ?_
    rintro _ w2 ⟨B',d',rfl,ho,e2,nw⟩
    exact ⟨_,_,_,rfl,e1.trans' e2,B',d',rfl,ho,nw.ext e1,hvl⟩
/-! ## the first one behind a key -/
theorem nextF_step {A:Ar} {k j:Nat} {key:Key} {nx:Option Nat} (h:(nodeAt A j).kids≠[]):nextF (k+1) A j key nx=nextF k A (kid (nodeAt A j) (bel (nodeAt A j).keys key)) key (if bel (nodeAt A j).keys key+1<(nodeAt A j).kids.length then some (kid (nodeAt A j) (bel (nodeAt A j).keys key+1)) else nx):=by rw [nextF];dsimp only;rw [if_neg h]
theorem nextF_leaf {A:Ar} {k j:Nat} {key:Key} {nx:Option Nat} (h:(nodeAt A j).kids=[]):nextF k A j key nx=(nodeAt A j,nx):=by cases k with|zero=>rfl|succ k=>rw [nextF];dsimp only;rw [if_pos h]
theorem aheadF_step {A:Ar} {k j:Nat} {key:Key} {nx:Option Nat} (h:(nodeAt A j).kids≠[]):aheadF (k+1) A j key nx=aheadF k A (kid (nodeAt A j) (bel (nodeAt A j).keys key)) key (if 0<bel (nodeAt A j).keys key then some (kid (nodeAt A j) (bel (nodeAt A j).keys key-1)) else nx):=by rw [aheadF];dsimp only;rw [if_neg h]
theorem aheadF_leaf {A:Ar} {k j:Nat} {key:Key} {nx:Option Nat} (h:(nodeAt A j).kids=[]):aheadF k A j key nx=(nodeAt A j,nx):=by cases k with|zero=>rfl|succ k=>rw [aheadF];dsimp only;rw [if_pos h]
def optI:Option Nat->Int|none=>-1|some q=>(q:Int)
theorem After_spec {R M:Nat->Prop} {w:World} {g:Nat} {A:Ar} (h:Ar1 R M w g A) {root:Int} {H i:Nat} {es:Es} {ps Q:List Nat} (hr:getT A.trees root=some i) (T:TreeAt A H i es ps Q) {key:Key} {Ω:Nat->Prop} {KA:Option Addr} (hKA:Imm KB Ω w KA key) (kc:Nat) (at_:Bool) :
    CallsV Tryz.prog 72 #[.pointer (some ⟨g,0,none⟩),.int .i64 root,.slice KA key.length kc,.bool at_] w fun r w'=>Told w (aftE key at_ es) r w'/\Ext w w':=by
  have hHl:=T.hl
  have hlen:=T.len
  refine tree_Arena_After.calls okay ?_
  unfold tree_Arena_After.W
  refine (top_spec h (by have:=T.f1;omega) root).mono ?_
  rintro _ w0 ⟨rfl,hw0⟩
  obtain rfl:w=w0:=hw0.symm
  rw [hr,<- after_ok T.tree T.f1]
  obtain ⟨At,ac,Fa,fc,mb,h⟩:=h
  obtain ⟨hil,ga,b,A1,c1,A2,c2,A3,c3,rfl,hc,hN⟩:=h.treeNode T.tree
  refine ⟨_,_,rfl,brn (fun h=>absurd rfl h) fun _=>⟨_,rfl,_,_,_,h.blk.cell rfl,_,rfl,⟨by omega,by omega⟩,_,by rw [Int.toNat_natCast];exact hc,?_⟩⟩
  obtain ⟨xs1,xe,xs2,x1,_,x3,_,_,x6⟩:=next_ok H (key:=key) H none T.tree (Bnd.all key) T.f1 (Nat.le_refl H)
  unfold afterF
  generalize hq:nextF H A i key none=q at *
  obtain ⟨qn,qx⟩:=q
  dsimp only at *
  refine ⟨fun p x u=>∃ k j nx mn lo hi es ps b A1 c1 A2 c2 A3 c3,Tree A.nd A.fan k mn j lo hi es ps/\Bnd lo hi key/\u.drawn+k=w.drawn+H/\nextF k A j key nx=(qn,qx)/\x=optI nx/\p=some ⟨b,0,none⟩/\NodAt (Om R M) u b (nodeAt A j) A1 c1 A2 c2 A3 c3/\Ext w u,fun _ _ u=>w.drawn+H-u.drawn,⟨H,i,none,_,_,_,_,_,b,A1,c1,A2,c2,A3,c3,T.tree,Bnd.all key,rfl,hq,rfl,rfl,hN,.refl _ _⟩,?_⟩
  rintro _ _ u ⟨k,j,nx,mn,lo,hi,es,ps,b,A1,c1,A2,c2,A3,c3,ht,hb,hdr,hnx,rfl,rfl,hN,eu⟩
  refine ⟨_,rfl,_,_,_,hN.blk.cell rfl,brnb (fun hnn=>?_) (fun hnn=>?_)⟩
  · have hne:(nodeAt A j).kids≠[]:=fun e=>by rw [hN.nil.2 e] at hnn;cases hnn
    rcases tree_nodeAt ht with ⟨_,hk0,_⟩|⟨k',rfl,h0,_,hu,hall,hfind⟩
    · exact absurd hk0 hne
    obtain ⟨hbl,lo',hi',es',ps',ht',hb'⟩:=hfind key hb
    have hcl:=hN.okn.c
    have ed:Ext u u.drew:=Fr.drew NoB u
    have hu1:=h.ext eu
    obtain ⟨ad,hA3,hkc⟩:=hN.kidC hbl
    obtain ⟨hil',ga',b',B1,d1,B2,d2,B3,d3,hAt,hc',hN'⟩:=hu1.treeNode ht'
    cases hAt
    rw [nextF_step hne] at hnx
    have e1:IntKind.i64.wrap (((bel (nodeAt A j).keys key:Nat):Int)+1)=((bel (nodeAt A j).keys key+1:Nat):Int):=by rw [wi _ (by omega) (by omega)];omega
    refine (below_spec hN hu (hKA.ext KB_pos eu) kc).same ⟨_,rfl,_,rfl,_,_,_,hN.blk.cell rfl,?_⟩
    rw [e1]
    refine brd (fun hlt=>?_) (fun hge=>?_)
    · have hlt':bel (nodeAt A j).keys key+1<(nodeAt A j).kids.length:=by omega
      obtain ⟨ad2,hA32,hkc2⟩:=hN.kidC hlt'
      rw [hA3] at hA32;cases hA32
      rw [if_pos hlt'] at hnx
      refine ⟨_,rfl,_,_,_,hN.blk.cell rfl,ad,hA3,⟨by omega,by omega⟩,_,by rw [Int.toNat_natCast];exact hkc2,_,rfl,fun v=>Ext u v,ed,_,_,_,fun v e=>(hu1.blk.ext e).cell rfl,_,rfl,_,_,_,fun v e=>(hN.blk.ext e).cell rfl,ad,hA3,⟨by omega,by omega⟩,_,fun v e=>by rw [Int.toNat_natCast];exact Ext.cell e hkc,_,rfl,⟨by omega,by omega⟩,.some ⟨b',0,none⟩,fun v e=>by rw [Int.toNat_natCast];exact Ext.cell e hc',?_⟩
      exact ⟨⟨k',_,_,_,lo',hi',es',ps',b',B1,d1,B2,d2,B3,d3,ht',hb',by rw [drawn_drew];omega,hnx,rfl,rfl,hN'.keep (Ext.om ed R M),eu.trans' ed⟩,by dsimp only;rw [drawn_drew];omega⟩
    · rw [if_neg (by omega)] at hnx
      refine ⟨_,rfl,fun v=>Ext u v,ed,_,_,_,fun v e=>(hu1.blk.ext e).cell rfl,_,rfl,_,_,_,fun v e=>(hN.blk.ext e).cell rfl,ad,hA3,⟨by omega,by omega⟩,_,fun v e=>by rw [Int.toNat_natCast];exact Ext.cell e hkc,_,rfl,⟨by omega,by omega⟩,.some ⟨b',0,none⟩,fun v e=>by rw [Int.toNat_natCast];exact Ext.cell e hc',?_⟩
      exact ⟨⟨k',_,_,_,lo',hi',es',ps',b',B1,d1,B2,d2,B3,d3,ht',hb',by rw [drawn_drew];omega,hnx,rfl,rfl,hN'.keep (Ext.om ed R M),eu.trans' ed⟩,by dsimp only;rw [drawn_drew];omega⟩
  · have hk0:(nodeAt A j).kids=[]:=hN.nil.1 (by cases A3<;>simp_all)
    rw [nextF_leaf hk0] at hnx
    cases hnx
    have hkeys:(nodeAt A j).keys=keysE xe:=by rw [x1]
    have hvals:(nodeAt A j).vals.length=(nodeAt A j).keys.length:=by rw [x1];simp [keysE_length,valsE_length]
    have hkl:=hN.okn.k
    have hpl:=pos_le (nodeAt A j).keys key
    refine ⟨_,rfl,_,_,_,hN.blk.cell rfl,?_⟩
    refine (Search_spec hN.keys (hKA.ext KB_pos eu) (by rw [hkeys];exact x3) (by omega) c1 kc).same ⟨_,_,rfl,?_⟩
    refine ⟨fun x v=>x=((pos (nodeAt A j).keys key+(if has (nodeAt A j).keys key && !at_ then 1 else 0):Nat):Int)/\v=u,?_,?_⟩
    · rintro _ v ⟨rfl,hvu⟩
      obtain rfl:u=v:=hvu.symm
      have fin:∀ (k:Int) (r:Value) (w':World),Told u (entryF (nodeAt A j) k) r w'/\Ext u w'->∃ (A':Option Addr) (n c:Nat) (B:Option Addr) (m d:Nat) (f:Bool),r=.tuple #[.slice A' n c,.slice B m d,.bool f]/\Told w (entryF (nodeAt A j) k) (.tuple #[.slice A' n c,.slice B m d,.bool f]) w'/\Ext w w':=by
        rintro k r w' ⟨ht,e2⟩
        obtain ⟨A',n,c,B,m,d,f,rfl⟩:=ht.form
        exact ⟨_,_,_,_,_,_,_,rfl,ht.from eu,eu.trans' e2⟩
      refine ⟨_,rfl,_,_,_,hN.blk.cell rfl,brd (fun hlt=>?_) (fun hge=>?_)⟩
      · have hlt':pos (nodeAt A j).keys key+(if has (nodeAt A j).keys key && !at_ then 1 else 0)<(nodeAt A j).keys.length:=by omega
        refine (entry_spec hN hvals _).mono fun r w' hx=>?_
        cases qx with
        | none=>exact fin _ r w' hx
        | some q=>dsimp only;rw [if_pos hlt'];exact fin _ r w' hx
      · have hge':¬ pos (nodeAt A j).keys key+(if has (nodeAt A j).keys key && !at_ then 1 else 0)<(nodeAt A j).keys.length:=by omega
        cases qx with
        | none =>
          refine brd (fun _=>?_) (fun h=>absurd (by show (-1:Int)<0;decide) h)
          exact (entry_spec hN hvals _).mono fun r w' hx=>fin _ r w' hx
        | some q =>
          refine brd (fun h=>absurd h (by show ¬ (q:Int)<0;omega)) (fun _=>?_)
          dsimp only
          rw [if_neg hge']
          rcases x6 with ⟨_,h6⟩|⟨_,jn,h6,hent,h',lo',hi',es',ps',htn,hlt⟩
          · cases h6
          · cases h6
            have hu1:=h.ext eu
            obtain ⟨hil',ga',b',B1,d1,B2,d2,B3,d3,hAt,hc',hN'⟩:=hu1.treeNode htn
            cases hAt
            refine ⟨_,rfl,_,_,_,hu1.blk.cell rfl,_,rfl,⟨by show (0:Int)<=(q:Int);omega,by show (q:Int)<_;omega⟩,_,by show u.cell? ((⟨ga,0,none⟩:Addr).add (((q:Int).toNat)*1))=_;rw [Int.toNat_natCast];exact hc',?_⟩
            refine ⟨fun p v=>∃ k m j mn lo hi es ps b A1 c1 A2 c2 A3 c3,Tree A.nd A.fan k mn j lo hi es ps/\k<=m/\v.drawn+m=u.drawn+H/\firstL H A q=firstL m A j/\p=some ⟨b,0,none⟩/\NodAt (Om R M) v b (nodeAt A j) A1 c1 A2 c2 A3 c3/\Ext w v,fun _ v=>u.drawn+H-v.drawn,⟨h',H,q,_,_,_,_,_,b',B1,d1,B2,d2,B3,d3,htn,by omega,rfl,rfl,rfl,hN',eu⟩,?_⟩
            rintro _ v ⟨k,m,j2,mn,lo,hi,es,ps,b,A1,c1,A2,c2,A3,c3,ht,hk,hdr,hfirst,rfl,hN,ev⟩
            refine ⟨_,rfl,_,_,_,hN.blk.cell rfl,brnb (fun hnn=>?_) (fun hnn=>?_)⟩
            · have hne:(nodeAt A j2).kids≠[]:=fun e=>by rw [hN.nil.2 e] at hnn;cases hnn
              rcases tree_nodeAt ht with ⟨_,hk0,_⟩|⟨k',rfl,h0,_,hu,hall,_⟩
              · exact absurd hk0 hne
              have hpos:0<(nodeAt A j2).kids.length:=List.length_pos_iff.2 hne
              obtain ⟨lo',hi',es',ps',ht'⟩:=hall 0 hpos
              have ed:Ext v v.drew:=Fr.drew NoB v
              obtain ⟨ad,hA3,hkc⟩:=hN.kidC hpos
              have hu1:=h.ext ev
              obtain ⟨hil',ga',b',B1,d1,B2,d2,B3,d3,hAt,hc',hN'⟩:=hu1.treeNode ht'
              cases hAt
              obtain ⟨m',rfl⟩:∃ m',m=m'+1:=⟨m-1,by omega⟩
              refine ⟨_,rfl,fun y=>Ext v y,ed,_,_,_,fun v e=>(hu1.blk.ext e).cell rfl,_,rfl,_,_,_,fun v e=>(hN.blk.ext e).cell rfl,ad,hA3,⟨by omega,by omega⟩,_,fun v e=>Ext.cell e hkc,_,rfl,⟨by omega,by omega⟩,.some ⟨b',0,none⟩,fun v e=>by rw [Int.toNat_natCast];exact Ext.cell e hc',?_⟩
              exact ⟨⟨k',m',_,_,lo',hi',es',ps',b',B1,d1,B2,d2,B3,d3,ht',by omega,by rw [drawn_drew];omega,by rw [hfirst,firstL_step hne],rfl,hN'.keep (Ext.om ed R M),ev.trans' ed⟩,by dsimp only;rw [drawn_drew];omega⟩
            · have hk0:(nodeAt A j2).kids=[]:=hN.nil.1 (by cases A3<;>simp_all)
              rcases tree_nodeAt ht with ⟨rfl,_,_,h1,h2⟩|⟨_,_,_,hk1,_⟩
              · rw [hfirst,firstL_leaf hk0]
                refine (entry_spec hN (by rw [h1,h2,keysE_length,valsE_length]) 0).mono ?_
                rintro r w' ⟨ht,e2⟩
                obtain ⟨A',n,c,B,m,d,f,rfl⟩:=ht.form
                exact ⟨_,_,_,_,_,_,_,rfl,ht.from ev,ev.trans' e2⟩
              · exact absurd hk0 hk1
    · refine br (fun hh=>?_) (fun hh=>?_)
      · refine brnb (fun ha=>⟨?_,rfl⟩) (fun ha=>⟨?_,rfl⟩)
        · rw [wi _ (by omega) (by omega),hh,ha];simp
        · rw [hh,ha];simp
      · exact ⟨by rw [hh];simp,rfl⟩
/-! ## the last one ahead of a key -/
theorem Before_spec {R M:Nat->Prop} {w:World} {g:Nat} {A:Ar} (h:Ar1 R M w g A) {root:Int} {H i:Nat} {es:Es} {ps Q:List Nat} (hr:getT A.trees root=some i) (T:TreeAt A H i es ps Q) {key:Key} {Ω:Nat->Prop} {KA:Option Addr} (hKA:Imm KB Ω w KA key) (kc:Nat) (at_:Bool) :
    CallsV Tryz.prog 73 #[.pointer (some ⟨g,0,none⟩),.int .i64 root,.slice KA key.length kc,.bool at_] w fun r w'=>Told w (befE key at_ es) r w'/\Ext w w':=by
  have hHl:=T.hl
  have hlen:=T.len
  refine tree_Arena_Before.calls okay ?_
  unfold tree_Arena_Before.W
  refine (top_spec h (by have:=T.f1;omega) root).mono ?_
  rintro _ w0 ⟨rfl,hw0⟩
  obtain rfl:w=w0:=hw0.symm
  rw [hr,<- before_ok T.tree T.f1]
  obtain ⟨At,ac,Fa,fc,mb,h⟩:=h
  obtain ⟨hil,ga,b,A1,c1,A2,c2,A3,c3,rfl,hc,hN⟩:=h.treeNode T.tree
  refine ⟨_,_,rfl,brn (fun h=>absurd rfl h) fun _=>⟨_,rfl,_,_,_,h.blk.cell rfl,_,rfl,⟨by omega,by omega⟩,_,by rw [Int.toNat_natCast];exact hc,?_⟩⟩
  obtain ⟨xs1,xe,xs2,x1,_,x3,_,_,x6⟩:=ahead_ok H (key:=key) H none T.tree (Bnd.all key) T.f1 (Nat.le_refl H)
  unfold beforeF
  generalize hq:aheadF H A i key none=q at *
  obtain ⟨qn,qx⟩:=q
  dsimp only at *
  refine ⟨fun p x u=>∃ k j nx mn lo hi es ps b A1 c1 A2 c2 A3 c3,Tree A.nd A.fan k mn j lo hi es ps/\Bnd lo hi key/\u.drawn+k=w.drawn+H/\aheadF k A j key nx=(qn,qx)/\x=optI nx/\p=some ⟨b,0,none⟩/\NodAt (Om R M) u b (nodeAt A j) A1 c1 A2 c2 A3 c3/\Ext w u,fun _ _ u=>w.drawn+H-u.drawn,⟨H,i,none,_,_,_,_,_,b,A1,c1,A2,c2,A3,c3,T.tree,Bnd.all key,rfl,hq,rfl,rfl,hN,.refl _ _⟩,?_⟩
  rintro _ _ u ⟨k,j,nx,mn,lo,hi,es,ps,b,A1,c1,A2,c2,A3,c3,ht,hb,hdr,hnx,rfl,rfl,hN,eu⟩
  refine ⟨_,rfl,_,_,_,hN.blk.cell rfl,brnb (fun hnn=>?_) (fun hnn=>?_)⟩
  · have hne:(nodeAt A j).kids≠[]:=fun e=>by rw [hN.nil.2 e] at hnn;cases hnn
    rcases tree_nodeAt ht with ⟨_,hk0,_⟩|⟨k',rfl,h0,_,hu,hall,hfind⟩
    · exact absurd hk0 hne
    obtain ⟨hbl,lo',hi',es',ps',ht',hb'⟩:=hfind key hb
    have hcl:=hN.okn.c
    have ed:Ext u u.drew:=Fr.drew NoB u
    have hu1:=h.ext eu
    obtain ⟨ad,hA3,hkc⟩:=hN.kidC hbl
    obtain ⟨hil',ga',b',B1,d1,B2,d2,B3,d3,hAt,hc',hN'⟩:=hu1.treeNode ht'
    cases hAt
    rw [aheadF_step hne] at hnx
    refine (below_spec hN hu (hKA.ext KB_pos eu) kc).same ⟨_,rfl,?_⟩
    refine brd (fun hlt=>?_) (fun hge=>?_)
    · have hlt':0<bel (nodeAt A j).keys key:=by omega
      have e1:IntKind.i64.wrap (((bel (nodeAt A j).keys key:Nat):Int)-1)=((bel (nodeAt A j).keys key-1:Nat):Int):=by rw [wi _ (by omega) (by omega)];omega
      obtain ⟨ad2,hA32,hkc2⟩:=hN.kidC (c:=bel (nodeAt A j).keys key-1) (by omega)
      rw [hA3] at hA32;cases hA32
      rw [if_pos hlt'] at hnx
      rw [e1]
      refine ⟨_,rfl,_,_,_,hN.blk.cell rfl,ad,hA3,⟨by omega,by omega⟩,_,by rw [Int.toNat_natCast];exact hkc2,_,rfl,fun v=>Ext u v,ed,_,_,_,fun v e=>(hu1.blk.ext e).cell rfl,_,rfl,_,_,_,fun v e=>(hN.blk.ext e).cell rfl,ad,hA3,⟨by omega,by omega⟩,_,fun v e=>by rw [Int.toNat_natCast];exact Ext.cell e hkc,_,rfl,⟨by omega,by omega⟩,.some ⟨b',0,none⟩,fun v e=>by rw [Int.toNat_natCast];exact Ext.cell e hc',?_⟩
      exact ⟨⟨k',_,_,_,lo',hi',es',ps',b',B1,d1,B2,d2,B3,d3,ht',hb',by rw [drawn_drew];omega,hnx,rfl,rfl,hN'.keep (Ext.om ed R M),eu.trans' ed⟩,by dsimp only;rw [drawn_drew];omega⟩
    · rw [if_neg (by omega)] at hnx
      refine ⟨_,rfl,fun v=>Ext u v,ed,_,_,_,fun v e=>(hu1.blk.ext e).cell rfl,_,rfl,_,_,_,fun v e=>(hN.blk.ext e).cell rfl,ad,hA3,⟨by omega,by omega⟩,_,fun v e=>by rw [Int.toNat_natCast];exact Ext.cell e hkc,_,rfl,⟨by omega,by omega⟩,.some ⟨b',0,none⟩,fun v e=>by rw [Int.toNat_natCast];exact Ext.cell e hc',?_⟩
      exact ⟨⟨k',_,_,_,lo',hi',es',ps',b',B1,d1,B2,d2,B3,d3,ht',hb',by rw [drawn_drew];omega,hnx,rfl,rfl,hN'.keep (Ext.om ed R M),eu.trans' ed⟩,by dsimp only;rw [drawn_drew];omega⟩
  · have hk0:(nodeAt A j).kids=[]:=hN.nil.1 (by cases A3<;>simp_all)
    rw [aheadF_leaf hk0] at hnx
    cases hnx
    have hkeys:(nodeAt A j).keys=keysE xe:=by rw [x1]
    have hvals:(nodeAt A j).vals.length=(nodeAt A j).keys.length:=by rw [x1];simp [keysE_length,valsE_length]
    have hkl:=hN.okn.k
    have hpl:=pos_le (nodeAt A j).keys key
    refine ⟨_,rfl,_,_,_,hN.blk.cell rfl,?_⟩
    refine (Search_spec hN.keys (hKA.ext KB_pos eu) (by rw [hkeys];exact x3) (by omega) c1 kc).same ⟨_,_,rfl,?_⟩
    refine ⟨fun x v=>x=(pos (nodeAt A j).keys key:Int)-(if !has (nodeAt A j).keys key || !at_ then 1 else 0)/\v=u,?_,?_⟩
    · rintro _ v ⟨rfl,hvu⟩
      obtain rfl:u=v:=hvu.symm
      have fin:∀ (k:Int) (r:Value) (w':World),Told u (entryF (nodeAt A j) k) r w'/\Ext u w'->∃ (A':Option Addr) (n c:Nat) (B:Option Addr) (m d:Nat) (f:Bool),r=.tuple #[.slice A' n c,.slice B m d,.bool f]/\Told w (entryF (nodeAt A j) k) (.tuple #[.slice A' n c,.slice B m d,.bool f]) w'/\Ext w w':=by
        rintro k r w' ⟨ht,e2⟩
        obtain ⟨A',n,c,B,m,d,f,rfl⟩:=ht.form
        exact ⟨_,_,_,_,_,_,_,rfl,ht.from eu,eu.trans' e2⟩
      refine brd (fun hlt=>?_) (fun hge=>?_)
      · refine (entry_spec hN hvals _).mono fun r w' hx=>?_
        cases qx with
        | none=>exact fin _ r w' hx
        | some q=>dsimp only;rw [if_pos hlt];exact fin _ r w' hx
      · cases qx with
        | none =>
          refine brd (fun _=>?_) (fun h=>absurd (by show (-1:Int)<0;decide) h)
          exact (entry_spec hN hvals _).mono fun r w' hx=>fin _ r w' hx
        | some q =>
          refine brd (fun h=>absurd h (by show ¬ (q:Int)<0;omega)) (fun _=>?_)
          dsimp only
          rw [if_neg hge]
          rcases x6 with ⟨_,h6⟩|⟨_,jn,h6,hent,h',lo',hi',es',ps',htn,hlt⟩
          · cases h6
          · cases h6
            have hA1:Ar1 R M u g A:=⟨_,_,_,_,_,h.ext eu⟩
            refine (end_spec hA1 htn (show h'<=H by omega)).mono ?_
            rintro _ v ⟨b',B1,d1,B2,d2,B3,d3,rfl,hN',hv',e1⟩
            have hkl':=hN'.okn.k
            refine ⟨_,rfl,_,rfl,_,_,_,hN'.blk.cell rfl,?_⟩
            rw [wi _ (by omega) (by omega)]
            refine (entry_spec hN' hv' _).mono ?_
            rintro r w2 ⟨ht,e2⟩
            obtain ⟨A',n,c,B,m,d,f,rfl⟩:=ht.form
            exact ⟨_,_,_,_,_,_,_,rfl,ht.from (eu.trans' e1),(eu.trans' e1).trans' e2⟩
    · refine brnb (fun hh=>?_) (fun hh=>?_)
      · exact ⟨by rw [wi _ (by omega) (by omega),hh];simp,rfl⟩
      · refine brnb (fun ha=>⟨?_,rfl⟩) (fun ha=>⟨?_,rfl⟩)
        · rw [wi _ (by omega) (by omega),hh,ha];simp
        · rw [hh,ha];simp
end Go.Proofs.YthfagbfllheneaaGreat
set_option linter.unusedVariables false
set_option linter.unusedSimpArgs false
namespace Go.Proofs.YthfagbfllheneaaGreat
open Go Go.Sx T4
theorem kids_at {T:TP} {lo hi:Option Key} {ks:List Key} {is:List Nat} {es:Es} {ps:List Nat} (h:T4.Kids T lo hi ks is es ps):∀ (c j:Nat),is[c]?=some j->∃ es' ps',T j (if c=0 then lo else ks[c-1]?) (if c<ks.length then ks[c]? else hi) es' ps':=by
  induction h with
  | one h=>intro c j hc;cases c with|zero=>simp at hc;subst hc;exact ⟨_,_,h⟩|succ c=>simp at hc
  | cons h hb hk ih =>
    rename_i i lo hi k ks is es es' ps ps'
    intro c j hc
    cases c with
    | zero=>simp at hc;subst hc;exact ⟨_,_,by simpa using h⟩
    | succ c =>
      obtain ⟨es',ps',h'⟩:=ih c j (by simpa using hc)
      refine ⟨es',ps',?_⟩
      cases c with
      | zero=>simpa using h'
      | succ c=>simpa using h'
theorem tree_shape {A:Ar} {fan k:Nat} {mn:Nat×Nat} {j:Nat} {lo hi:Option Key} {es:Es} {ps:List Nat} (h:Tree A.nd fan k mn j lo hi es ps) :
    (nodeAt A j).size<=fan/\Up (nodeAt A j).keys/\(∀ x∈(nodeAt A j).keys,Bnd lo hi x)/\((k=1/\(nodeAt A j).kids=[]/\mn.1<=(nodeAt A j).size) \/
      ∃ k',k=k'+1/\0<k'/\(nodeAt A j).kids≠[]/\mn.2<=(nodeAt A j).size/\(nodeAt A j).kids.length=(nodeAt A j).keys.length+1/\∀ c,c<(nodeAt A j).kids.length->∃ es' ps',Reg A.nd fan k' (kid (nodeAt A j) c) (if c=0 then lo else (nodeAt A j).keys[c-1]?) (if c<(nodeAt A j).keys.length then (nodeAt A j).keys[c]? else hi) es' ps'):=by
  cases k with
  | zero=>exact h.elim
  | succ k =>
    obtain ⟨n,hn,hs,hc⟩:=h
    have hna:nodeAt A j=n:=by simp [nodeAt,hn]
    rw [hna]
    rcases hc with ⟨rfl,h3,hk,hkeys,hvals,hu,hb,rfl⟩|⟨h0,h3,hv,ps',rfl,hk⟩
    · exact ⟨hs,by rw [hkeys];exact hu,hb,.inl ⟨rfl,hk,h3⟩⟩
    · refine ⟨hs,hk.keys.1,fun x hx=>?_,.inr ⟨k,rfl,h0,hk.ne,h3,hk.len,fun c hc=>kids_at hk c _ (kid_get hc)⟩⟩
      obtain ⟨b1,b2⟩:=hk.keys.2 x hx
      exact ⟨fun l hl h=>lt_asymm (b1 l hl) h,b2⟩
def Bd (Ω:Nat->Prop) (w:World) (A:Option Addr) (n:Nat) (x:Option Key):Prop:=A=none\/∃ l,x=some l/\n=l.length/\Imm KB Ω w A l
theorem Bd.ext {Ω:Nat->Prop} {w u:World} {A:Option Addr} {n:Nat} {x:Option Key} (h:Bd Ω w A n x) (e:Ext w u):Bd Ω u A n x:=h.imp id fun ⟨l,h1,h2,h3⟩=>⟨l,h1,h2,h3.ext KB_pos e⟩
theorem half2 (x:Nat) (hx:x<=1048576):IntKind.i64.wrap (Int.tdiv (x:Int) 2)=((x / 2:Nat):Int):=by
  rw [Int.tdiv_eq_ediv_of_nonneg (by omega),wi _ (by omega) (by omega)]
  omega
theorem shape_spec:∀ (H:Nat) {R M:Nat->Prop} {w:World} {g:Nat} {A:Ar} {mn:Nat×Nat} {i:Nat} {lo hi:Option Key} {es:Es} {ps:List Nat} (top:Bool) {LA HA:Option Addr} {ln hn:Nat} (lc hc:Nat),
    Ar1 R M w g A->Tree A.nd A.fan H mn i lo hi es ps->A.fan<=64->H<=1048576->(top=true->2<=mn.2)->(top=false->A.fan / 2<=mn.1/\A.fan / 2<=mn.2)->Bd (Om R M) w LA ln lo->Bd (Om R M) w HA hn hi ->
    CallsV Tryz.prog 101 #[.pointer (some ⟨g,0,none⟩),iv i,.slice LA ln lc,.slice HA hn hc,.bool top] w fun r w'=>r=iv H/\Ext w w':=by
  intro H
  induction H with
  | zero=>intro R M w g A mn i lo hi es ps top LA HA ln hn lc hc h ht;exact ht.elim
  | succ H ih =>
  intro R M w g A mn i lo hi es ps top LA HA ln hn lc hc h ht hfan hH ht1 ht2 hLo hHi
  obtain ⟨hsz,hup,hbnd,hcs⟩:=tree_shape ht
  refine tree_Arena_shape.calls okay ?_
  unfold tree_Arena_shape.W
  have hA:=h
  obtain ⟨At,ac,Fa,fc,mb,h⟩:=h
  obtain ⟨hil,ga,b,A1,c1,A2,c2,A3,c3,rfl,hcl,hN⟩:=h.treeNode ht
  have hkl:=hN.okn.k
  have hcl':=hN.okn.c
  generalize hn':nodeAt A i=n at *
  refine ⟨_,rfl,_,_,_,h.blk.cell rfl,_,rfl,⟨by omega,by omega⟩,_,by rw [Int.toNat_natCast];exact hcl,?_⟩
  refine ⟨fun v=>Ext w v,?_,?_⟩
  · intro v ev
    have hNv:=hN.keep (Ext.om ev R M)
    have hLo0:=hLo
    have hHi0:=hHi
    have hLo:=hLo.ext ev
    have hHi:=hHi.ext ev
    refine ⟨_,rfl,_,_,_,hNv.blk.cell rfl,?_⟩
    refine ⟨fun x u=>u=v/\∃ c:Nat,x=(c:Int)/\c<=n.keys.length,fun x _=>n.keys.length-x.toNat,⟨rfl,0,rfl,Nat.zero_le _⟩,?_⟩
    rintro _ u ⟨hu,c,rfl,hc'⟩
    obtain rfl:v=u:=hu.symm
    refine brd (fun hlt=>?_) (fun hge=>?_)
    · have hcl:c<n.keys.length:=by omega
      obtain ⟨ad,B,cb,hA1,hcx,hcb,hB⟩:=list_item hNv.keys hcl
      have hgd:n.keys.getD c []=n.keys[c]:=by simp [List.getD,hcl]
      rw [hgd] at hcx hcb hB
      obtain ⟨bl,bh⟩:=hbnd n.keys[c] (by simp)
      have e1:IntKind.i64.wrap ((c:Int)+1)=((c+1:Nat):Int):=by rw [wi _ (by omega) (by omega)];omega
      have nextI:(v=v/\∃ c':Nat,IntKind.i64.wrap ((c:Int)+1)=(c':Int)/\c'<=n.keys.length)/\n.keys.length-(IntKind.i64.wrap ((c:Int)+1)).toNat<n.keys.length-((c:Int)).toNat:=⟨⟨rfl,c+1,e1,by omega⟩,by rw [e1];omega⟩
      have hiStep:∀ {G:Prop},G->(bif !Option.isNone HA then CallsV Tryz.prog 88 #[.slice B n.keys[c].length cb,.slice HA hn hc] v (fun r w'=>∃ x,r=.int .i64 x/\bif decide (0<=x) then (fun r w'=>r=iv (H+1)/\Ext w w') (.int .i64 0) w' else (w'=v/\∃ c':Nat,IntKind.i64.wrap ((c:Int)+1)=(c':Int)/\c'<=n.keys.length)/\n.keys.length-(IntKind.i64.wrap ((c:Int)+1)).toNat<n.keys.length-((c:Int)).toNat) else (v=v/\∃ c':Nat,IntKind.i64.wrap ((c:Int)+1)=(c':Int)/\c'<=n.keys.length)/\n.keys.length-(IntKind.i64.wrap ((c:Int)+1)).toNat<n.keys.length-((c:Int)).toNat):=by
        intro G _
        refine brnb (fun hh=>?_) (fun _=>nextI)
        rcases hHi with hHi|⟨l,hl,rfl,hI⟩
        · rw [hHi] at hh;cases hh
        refine (Compare_spec hB hI cb hc).same ⟨_,rfl,brd (fun hx=>?_) (fun _=>nextI)⟩
        have:=bh l hl
        unfold lt at this;omega
      have loStep:(bif !Option.isNone LA then CallsV Tryz.prog 88 #[.slice B n.keys[c].length cb,.slice LA ln lc] v (fun r w'=>∃ x,r=.int .i64 x/\bif decide (x<0) then (fun r w'=>r=iv (H+1)/\Ext w w') (.int .i64 0) w' else (bif !Option.isNone HA then CallsV Tryz.prog 88 #[.slice B n.keys[c].length cb,.slice HA hn hc] w' (fun r w'=>∃ x,r=.int .i64 x/\bif decide (0<=x) then (fun r w'=>r=iv (H+1)/\Ext w w') (.int .i64 0) w' else (w'=v/\∃ c':Nat,IntKind.i64.wrap ((c:Int)+1)=(c':Int)/\c'<=n.keys.length)/\n.keys.length-(IntKind.i64.wrap ((c:Int)+1)).toNat<n.keys.length-((c:Int)).toNat) else (w'=v/\∃ c':Nat,IntKind.i64.wrap ((c:Int)+1)=(c':Int)/\c'<=n.keys.length)/\n.keys.length-(IntKind.i64.wrap ((c:Int)+1)).toNat<n.keys.length-((c:Int)).toNat)) else (bif !Option.isNone HA then CallsV Tryz.prog 88 #[.slice B n.keys[c].length cb,.slice HA hn hc] v (fun r w'=>∃ x,r=.int .i64 x/\bif decide (0<=x) then (fun r w'=>r=iv (H+1)/\Ext w w') (.int .i64 0) w' else (w'=v/\∃ c':Nat,IntKind.i64.wrap ((c:Int)+1)=(c':Int)/\c'<=n.keys.length)/\n.keys.length-(IntKind.i64.wrap ((c:Int)+1)).toNat<n.keys.length-((c:Int)).toNat) else (v=v/\∃ c':Nat,IntKind.i64.wrap ((c:Int)+1)=(c':Int)/\c'<=n.keys.length)/\n.keys.length-(IntKind.i64.wrap ((c:Int)+1)).toNat<n.keys.length-((c:Int)).toNat)):=by
        refine brnb (fun hh=>?_) (fun _=>hiStep True.intro)
        rcases hLo with hLo|⟨l,hl,rfl,hI⟩
        · rw [hLo] at hh;cases hh
        refine (Compare_spec hB hI cb lc).same ⟨_,rfl,brd (fun hx=>?_) (fun _=>hiStep True.intro)⟩
        exact absurd hx (bl l hl)
      refine ⟨ad,hA1,⟨by omega,by omega⟩,_,_,_,by rw [Int.toNat_natCast];exact hcx,brd (fun h0=>?_) (fun _=>loStep)⟩
      have e2:IntKind.i64.wrap ((c:Int)-1)=((c-1:Nat):Int):=by rw [wi _ (by omega) (by omega)];omega
      obtain ⟨ad',B',cb',hA1',hcx',hcb',hB'⟩:=list_item hNv.keys (c:=c-1) (by omega)
      have hgd':n.keys.getD (c-1) []=n.keys[c-1]:=by simp [List.getD,show c-1<n.keys.length by omega]
      rw [hgd'] at hcx' hcb' hB'
      rw [e2]
      refine ⟨_,rfl,_,_,_,hNv.blk.cell rfl,ad',hA1',⟨by omega,by omega⟩,_,_,_,by rw [Int.toNat_natCast];exact hcx',?_⟩
      refine (Compare_spec hB' hB cb' cb).same ⟨_,rfl,brd (fun hx=>?_) (fun _=>loStep)⟩
      have:=List.pairwise_iff_getElem.1 hup (c-1) c (by omega) hcl (by omega)
      unfold lt at this;omega
    · refine ⟨_,rfl,_,_,_,hNv.blk.cell rfl,br (fun hnn=>?_) (fun hnn=>?_)⟩
      · have hk0:n.kids=[]:=hNv.nil.1 (by cases A3<;>simp_all)
        rcases hcs with ⟨h1,_⟩|⟨_,_,_,hk1,_⟩
        · obtain rfl:H=0:=by omega
          exact ⟨rfl,ev⟩
        · exact absurd hk0 hk1
      · have hne:n.kids≠[]:=fun e=>by rw [hNv.nil.2 e] at hnn;cases hnn
        rcases hcs with ⟨_,hk0,_⟩|⟨k',hk',h0,_,_,hlen,hall⟩
        · exact absurd hk0 hne
        obtain rfl:H=k':=by omega
        have ed:Ext v v.drew:=Fr.drew NoB v
        have e1:IntKind.i64.wrap ((n.kids.length:Int)-1)=(n.keys.length:Int):=by rw [wi _ (by omega) (by omega)];omega
        refine ⟨_,rfl,fun u=>Ext v u,ed,_,_,_,fun u e=>(hNv.blk.ext e).cell rfl,_,rfl,_,_,_,fun u e=>(hNv.blk.ext e).cell rfl,?_⟩
        rw [e1]
        refine brn (fun h=>absurd rfl h) (fun _=>?_)
        refine ⟨_,rfl,_,_,_,(hNv.blk.ext ed).cell rfl,?_⟩
        refine ⟨fun x y u=>Ext w u/\∃ c:Nat,y=(c:Int)/\c<=n.kids.length/\(0<c->x=(H:Int)),fun _ y _=>n.kids.length-y.toNat,⟨ev.trans' ed,0,rfl,Nat.zero_le _,fun h=>absurd h (by omega)⟩,?_⟩
        rintro x _ u ⟨eu,c,rfl,hc',hx⟩
        have hNu:=hN.keep (Ext.om eu R M)
        have hAu:=hA.ext eu
        refine brd (fun hlt=>?_) (fun hge=>?_)
        · have hcl:c<n.kids.length:=by omega
          obtain ⟨ad,hA3,hkc⟩:=hNu.kidC hcl
          obtain ⟨es',ps',htc⟩:=hall c hcl
          have e2:IntKind.i64.wrap ((c:Int)+1)=((c+1:Nat):Int):=by rw [wi _ (by omega) (by omega)];omega
          refine ⟨ad,hA3,⟨by omega,by omega⟩,_,by rw [Int.toNat_natCast];exact hkc,?_⟩
          refine ⟨fun FA fn _ v2=>v2=u/\Bd (Om R M) u FA fn (if c=0 then lo else n.keys[c-1]?),?_,?_⟩
          · rintro FA fn fcap v2 ⟨hv2,hFb⟩
            obtain rfl:u=v2:=hv2.symm
            refine ⟨fun TA tn _ v3=>v3=u/\Bd (Om R M) u TA tn (if c<n.keys.length then n.keys[c]? else hi),?_,?_⟩
            · rintro TA tn tcap v3 ⟨hv3,hTb⟩
              obtain rfl:u=v3:=hv3.symm
              refine (ih false fcap tcap hAu htc hfan (by omega) (fun h=>by cases h) (fun _=>⟨Nat.le_refl _,Nat.le_refl _⟩) hFb hTb).mono ?_
              rintro _ v4 ⟨rfl,e4⟩
              have fin:(Ext w v4/\∃ c':Nat,IntKind.i64.wrap ((c:Int)+1)=(c':Int)/\c'<=n.kids.length/\(0<c'->(H:Int)=(H:Int)))/\n.kids.length-(IntKind.i64.wrap ((c:Int)+1)).toNat<n.kids.length-((c:Int)).toNat:=⟨⟨eu.trans' e4,c+1,e2,by omega,fun _=>rfl⟩,by rw [e2];omega⟩
              refine ⟨_,rfl,brd (fun h=>by omega) (fun _=>brd (fun hpos=>?_) (fun _=>fin))⟩
              refine brn (fun h=>absurd (hx (by omega)).symm h) (fun _=>fin)
            · refine ⟨_,rfl,_,_,_,hNu.blk.cell rfl,brd (fun hlt2=>?_) (fun hge2=>?_)⟩
              · have hck:c<n.keys.length:=by omega
                obtain ⟨ad',B',cb',hA1',hcx',hcb',hB'⟩:=list_item hNu.keys hck
                refine ⟨_,rfl,_,_,_,hNu.blk.cell rfl,ad',hA1',⟨by omega,by omega⟩,_,_,_,by rw [Int.toNat_natCast];exact hcx',rfl,.inr ⟨_,?_,rfl,hB'⟩⟩
                rw [if_pos hck];simp [List.getD,hck]
              · rw [if_neg (by omega)]
                exact ⟨rfl,hHi0.ext eu⟩
          · refine brd (fun hpos=>?_) (fun hzero=>?_)
            · have e3:IntKind.i64.wrap ((c:Int)-1)=((c-1:Nat):Int):=by rw [wi _ (by omega) (by omega)];omega
              have hck:c-1<n.keys.length:=by omega
              obtain ⟨ad',B',cb',hA1',hcx',hcb',hB'⟩:=list_item hNu.keys hck
              rw [e3]
              refine ⟨_,rfl,_,_,_,hNu.blk.cell rfl,ad',hA1',⟨by omega,by omega⟩,_,_,_,by rw [Int.toNat_natCast];exact hcx',rfl,.inr ⟨_,?_,rfl,hB'⟩⟩
              rw [if_neg (by omega)];simp [List.getD,hck]
            · rw [if_pos (by omega)]
              exact ⟨rfl,hLo0.ext eu⟩
        · have hxH:=hx (by have:=List.length_pos_iff.2 hne;omega)
          rw [hxH,wi _ (by omega) (by omega)]
          exact ⟨by unfold iv;congr 1,eu⟩
  · have ed:Ext w w.drew:=Fr.drew NoB w
    have hNd:=hN.keep (Ext.om ed R M)
    have hs1:=size_spec hNd
    refine br (fun h=>by cases h) (fun _=>⟨_,rfl,fun u=>Ext w u,ed,_,fun u e=>(h.blk.ext e).cell rfl,?_⟩)
    refine hs1.same ⟨_,rfl,ed,brd (fun h=>by omega) (fun _=>?_)⟩
    refine brnb (fun hf=>?_) (fun htp=>?_)
    · refine ⟨_,rfl,fun u=>Ext w u,ed,_,fun u e=>(h.blk.ext e).cell rfl,by decide,hs1.same ⟨_,rfl,ed,ed,?_⟩⟩
      rw [half2 _ (by omega)]
      refine brd (fun hlt=>?_) (fun _=>brf hf ed)
      obtain ⟨m1,m2⟩:=ht2 hf
      rcases hcs with ⟨_,_,h1⟩|⟨_,_,_,_,h1,_⟩<;>omega
    · refine brt htp ⟨_,rfl,fun u=>Ext w u,ed,_,_,_,fun u e=>(hN.blk.ext e).cell rfl,brnb (fun hnn=>?_) (fun _=>ed)⟩
      refine hs1.same ⟨_,rfl,ed,ed,brd (fun hlt=>?_) (fun _=>ed)⟩
      have hne:n.kids≠[]:=fun e=>by rw [hN.nil.2 e] at hnn;cases hnn
      rcases hcs with ⟨_,hk0,_⟩|⟨_,_,_,_,h1,_⟩
      · exact absurd hk0 hne
      · have:=ht1 htp;omega
end Go.Proofs.YthfagbfllheneaaGreat
set_option linter.unusedVariables false
set_option linter.unusedSimpArgs false
namespace Go.Proofs.YthfagbfllheneaaGreat
open Go Go.Sx T4
theorem own_to {w:World} {A:Option Addr} {c:Nat} {l:List Value} (h:Own w 1 A l.length c l) (h1:∀ v∈l,v.oneCell'=true):OwnK KV1 w A c l:=by
  refine (ownK1 oneV1).2 ⟨l,h,F2.of rfl fun i x y hx hy=>?_⟩
  rw [hx] at hy;cases hy
  exact ⟨rfl,h1 x (List.mem_of_getElem? hx)⟩
theorem own_of1 {w:World} {A:Option Addr} {c:Nat} {l:List Value} (h:OwnK KV1 w A c l):Own w 1 A l.length c l:=by
  obtain ⟨xs,ho,hf⟩:=(ownK1 oneV1).1 h
  have:xs=l:=by
    clear h ho
    induction hf with
    | nil=>rfl
    | cons h _ ih=>have h:[_]=[_]/\_:=h;rw [ih,(List.cons.inj h.1).1]
  subst this
  exact ho
theorem catImm {w:World} {b:Nat} {vs:List Value} (hb:Blk w b vs) {ll:List (List Value)} (h:F2 (fun xs v=>∃ X c,v=.slice X xs.length c/\xs.length<=c/\Cells w X xs/\∀ v∈xs,v.oneCell'=true) ll vs):Imm (Kd.slice KV1 oneV1.pos) NoB w (some ⟨b,0,none⟩) ll:=fun i a ha=>by
  obtain ⟨v,hv,X,c,rfl,hc,hX,h1⟩:=h.get ha
  refine ⟨_,rfl,fun h=>h,[.slice X a.length c],⟨X,c,rfl,hc,hX.imm h1⟩,fun j v' hj=>?_⟩
  cases j with
  | zero =>
    simp at hj;subst hj
    have:=hb.cell (o:=0) (i:=i) (v:=.slice X a.length c) (by simpa using hv)
    rw [show i*(Kd.slice KV1 oneV1.pos).size+0=i from Nat.mul_one i]
    exact this
  | succ j=>simp at hj
theorem ArA.absorb {R M:Nat->Prop} {w w':World} {g:Nat} {At:Option Addr} {ac:Nat} {Fa:Option Addr} {fc mb:Nat} {A:Ar} (h:ArA R M w g At ac Fa fc mb A) (e:Ext w w'):ArA (Ra R w w') M w' g At ac Fa fc mb A/\Chg R M w (Ra R w w') M w':=by
  refine ⟨(h.ext e).more (fun k hk=>.inl hk) ?_,⟨e.fr,fun _ h=>.inl h,fun _ h=>.inl h,fun k hk=>hk.imp id fun h=>h.1⟩⟩
  rintro k (hk|hk)
  · exact Nat.lt_of_lt_of_le (h.rlt k hk) e.size
  · exact hk.2
theorem ArA.setNode {R M:Nat->Prop} {w:World} {g:Nat} {At:Option Addr} {ac:Nat} {Fa:Option Addr} {fc mb:Nat} {A:Ar} (h:ArA R M w g At ac Fa fc mb A) {i:Nat} (hi:i<A.at_.length) {n:Nod} {b:Nat} {A1:Option Addr} {c1:Nat} {A2:Option Addr} {c2:Nat} {A3:Option Addr} {c3:Nat} (hN:NodAt (Om R M) w b n A1 c1 A2 c2 A3 c3) :
    ∃ ga,At=some ⟨ga,0,none⟩/\stOK ((⟨ga,0,none⟩:Addr).add (i*1)) 0 [.pointer (some ⟨b,0,none⟩)] w/\∀ w',w'=setAll ((⟨ga,0,none⟩:Addr).add (i*1)) 0 [.pointer (some ⟨b,0,none⟩)] w->ArA R M w' g At ac Fa fc mb (setN A i n)/\Chg R M w R M w' :=
  h.setAt hi (a:=some n) ⟨b,A1,c1,A2,c2,A3,c3,rfl,hN⟩
theorem ArA.setNew {R M:Nat->Prop} {w w':World} {g:Nat} {At:Option Addr} {ac:Nat} {Fa:Option Addr} {fc mb:Nat} {A:Ar} (h:ArA R M w g At ac Fa fc mb A) (e:Ext w w') {n:Nod} {b:Nat} {A1:Option Addr} {c1:Nat} {A2:Option Addr} {c2:Nat} {A3:Option Addr} {c3:Nat} (hN:NodAt (Om (Ra R w w') M) w' b n A1 c1 A2 c2 A3 c3) {i:Nat} (hi:i<A.at_.length) :
    ∃ ga,At=some ⟨ga,0,none⟩/\stOK ((⟨ga,0,none⟩:Addr).add (i*1)) 0 [.pointer (some ⟨b,0,none⟩)] w'/\∀ w'',w''=setAll ((⟨ga,0,none⟩:Addr).add (i*1)) 0 [.pointer (some ⟨b,0,none⟩)] w'->ArA (Ra R w w') M w'' g At ac Fa fc mb (setN A i n)/\Chg R M w (Ra R w w') M w'':=by
  obtain ⟨h1,c1⟩:=h.absorb e
  obtain ⟨ga,hA,s1,s2⟩:=h1.setNode hi hN
  exact ⟨ga,hA,s1,fun w'' hw=>⟨(s2 w'' hw).1,c1.trans (s2 w'' hw).2⟩⟩
theorem deleteS_raw {w:World} {A:Option Addr} {n c:Nat} {xs:List Value} (h:Own w 1 A n c xs) (h1:∀ v∈xs,v.oneCell'=true) {i:Nat} (hi:i<n) (hn:n<=2097152) {j:Int} (hj:j=(i:Int)+1) :
    CallsV Tryz.prog 111 #[.slice A n c,.int .i64 (i:Int),.int .i64 j] w fun r w'=>r=.slice A (n-1) c/\Own w' 1 A (n-1) c (xs.eraseIdx i)/\Fr (ownB A) w w':=by
  subst hj
  have hxl:xs.length=n:=by simpa using h.1
  subst hxl
  refine (DeleteS_spec oneV1 (own_to h h1) hi hn).mono ?_
  rintro r w' ⟨rfl,ho,hf⟩
  refine ⟨rfl,?_,hf⟩
  have:=own_of1 ho
  rwa [List.length_eraseIdx_of_lt hi] at this
theorem catS2 {u:World} {b:Nat} {X Y:Option Addr} {nx cx ny cy:Nat} {xs ys:List Value} (hb:Blk u b [.slice X nx cx,.slice Y ny cy]) (hx:Cells u X xs) (h1:∀ v∈xs,v.oneCell'=true) (lx:xs.length=nx) (kx:nx<=cx) (hy:Cells u Y ys) (h2:∀ v∈ys,v.oneCell'=true) (ly:ys.length=ny) (ky:ny<=cy) (hn:nx+ny<=2097152) :
    CallsV Tryz.prog 118 #[.slice (some ⟨b,0,none⟩) 2 2] u fun r w'=>∃ A' c',r=.slice A' (nx+ny) c'/\Own w' 1 A' (nx+ny) c' (xs++ys)/\Ext u w'/\New u A':=by
  subst lx;subst ly
  have hfl:([xs,ys]:List (List Value)).flatten=xs++ys:=by simp
  have:=ConcatS_spec oneV1 (c:=2) (catImm hb (ll:=[xs,ys]) (.cons ⟨X,cx,rfl,kx,hx,h1⟩ (.cons ⟨Y,cy,rfl,ky,hy,h2⟩ .nil))) (by rw [hfl,List.length_append];exact hn) (by simp)
  refine this.mono ?_
  rintro r w' ⟨A',c',rfl,ho,e,nw⟩
  refine ⟨A',c',by rw [hfl,List.length_append],?_,e,nw⟩
  have:=own_of ho
  rwa [hfl,List.length_append] at this
theorem catS3 {u:World} {b g0:Nat} {X Y:Option Addr} {nx cx ny cy:Nat} {xs ys:List Value} {v0:Value} (hb:Blk u b [.slice X nx cx,.slice (some ⟨g0,0,none⟩) 1 1,.slice Y ny cy]) (hx:Cells u X xs) (h1:∀ v∈xs,v.oneCell'=true) (lx:xs.length=nx) (kx:nx<=cx) (h0:Blk u g0 [v0]) (hv0:v0.oneCell'=true) (hy:Cells u Y ys) (h2:∀ v∈ys,v.oneCell'=true) (ly:ys.length=ny) (ky:ny<=cy) (hn:nx+(1+ny)<=2097152) :
    CallsV Tryz.prog 118 #[.slice (some ⟨b,0,none⟩) 3 3] u fun r w'=>∃ A' c',r=.slice A' (nx+(1+ny)) c'/\Own w' 1 A' (nx+(1+ny)) c' (xs++v0::ys)/\Ext u w'/\New u A':=by
  subst lx;subst ly
  have hfl:([xs,[v0],ys]:List (List Value)).flatten=xs++v0::ys:=by simp
  have hc0:Cells u (some ⟨g0,0,none⟩) [v0]:=fun j x hj=>by
    cases j with
    | zero=>simp at hj;subst hj;exact ⟨_,rfl,h0.cell0 rfl⟩
    | succ j=>simp at hj
  have hl:(xs++v0::ys).length=xs.length+(1+ys.length):=by rw [List.length_append,List.length_cons];omega
  have:=ConcatS_spec oneV1 (c:=3) (catImm hb (ll:=[xs,[v0],ys]) (.cons ⟨X,cx,rfl,kx,hx,h1⟩ (.cons ⟨_,1,rfl,Nat.le_refl _,hc0,by simp [hv0]⟩ (.cons ⟨Y,cy,rfl,ky,hy,h2⟩ .nil)))) (by rw [hfl,hl];exact hn) (by simp)
  refine this.mono ?_
  rintro r w' ⟨A',c',rfl,ho,e,nw⟩
  refine ⟨A',c',by rw [hfl,hl],?_,e,nw⟩
  have:=own_of ho
  rwa [hfl,hl] at this
theorem deleteI_raw {w:World} {A:Option Addr} {n c:Nat} {xs:List Value} (h:Own w 1 A n c xs) (h1:∀ v∈xs,v.oneCell'=true) {i:Nat} (hi:i<n) (hn:n<=2097152) {j:Int} (hj:j=(i:Int)+1) :
    CallsV Tryz.prog 120 #[.slice A n c,.int .i64 (i:Int),.int .i64 j] w fun r w'=>r=.slice A (n-1) c/\Own w' 1 A (n-1) c (xs.eraseIdx i)/\Fr (ownB A) w w':=by
  subst hj
  have hxl:xs.length=n:=by simpa using h.1
  subst hxl
  refine (DeleteI_spec oneV1 (own_to h h1) hi hn).mono ?_
  rintro r w' ⟨rfl,ho,hf⟩
  refine ⟨rfl,?_,hf⟩
  have:=own_of1 ho
  rwa [List.length_eraseIdx_of_lt hi] at this
theorem catI2 {u:World} {b:Nat} {X Y:Option Addr} {nx cx ny cy:Nat} {xs ys:List Value} (hb:Blk u b [.slice X nx cx,.slice Y ny cy]) (hx:Cells u X xs) (h1:∀ v∈xs,v.oneCell'=true) (lx:xs.length=nx) (kx:nx<=cx) (hy:Cells u Y ys) (h2:∀ v∈ys,v.oneCell'=true) (ly:ys.length=ny) (ky:ny<=cy) (hn:nx+ny<=2097152) :
    CallsV Tryz.prog 119 #[.slice (some ⟨b,0,none⟩) 2 2] u fun r w'=>∃ A' c',r=.slice A' (nx+ny) c'/\Own w' 1 A' (nx+ny) c' (xs++ys)/\Ext u w'/\New u A':=by
  subst lx;subst ly
  have hfl:([xs,ys]:List (List Value)).flatten=xs++ys:=by simp
  have:=ConcatI_spec oneV1 (c:=2) (catImm hb (ll:=[xs,ys]) (.cons ⟨X,cx,rfl,kx,hx,h1⟩ (.cons ⟨Y,cy,rfl,ky,hy,h2⟩ .nil))) (by rw [hfl,List.length_append];exact hn) (by simp)
  refine this.mono ?_
  rintro r w' ⟨A',c',rfl,ho,e,nw⟩
  refine ⟨A',c',by rw [hfl,List.length_append],?_,e,nw⟩
  have:=own_of ho
  rwa [hfl,List.length_append] at this
end Go.Proofs.YthfagbfllheneaaGreat
set_option linter.unusedVariables false
set_option linter.unusedSimpArgs false
namespace Go.Proofs.YthfagbfllheneaaGreat
open Go Go.Sx T4
structure Twin (A:Ar) (x y:Nod):Prop where
  both:(x.kids=[]/\y.kids=[]/\x.vals.length=x.keys.length/\y.vals.length=y.keys.length)\/(x.kids≠[]/\y.kids≠[]/\x.vals=[]/\y.vals=[]/\x.kids.length=x.keys.length+1/\y.kids.length=y.keys.length+1)
  sx:x.size<=64
  sy:y.size<=64
theorem Twin.lens {A:Ar} {x y:Nod} (h:Twin A x y):x.keys.length<=64/\y.keys.length<=64/\x.kids.length<=64/\y.kids.length<=64/\x.vals.length<=64/\y.vals.length<=64:=by
  have h1:=h.sx
  have h2:=h.sy
  unfold Nod.size at h1 h2
  rcases h.both with ⟨a,b,c,d⟩|⟨a,b,c,d,e,f⟩
  · rw [if_pos a] at h1;rw [if_pos b] at h2;rw [a,b];simp;omega
  · rw [if_neg a] at h1;rw [if_neg b] at h2;rw [c,d];simp;omega
theorem joinN_ok {A:Ar} {x y:Nod} (h:Twin A x y) (hx:NOk x) (hy:NOk y) {s:Key} (hs:s.length<=1048576):NOk (joinN s x y):=by
  obtain ⟨l1,l2,l3,l4,l5,l6⟩:=h.lens
  unfold joinN
  split
  · refine ⟨by simp;omega,by simp;omega,by simp,fun k hk=>?_,fun v hv=>?_⟩
    · exact (List.mem_append.1 hk).elim (hx.kl k) (hy.kl k)
    · exact (List.mem_append.1 hv).elim (hx.vl v) (hy.vl v)
  · refine ⟨by simp;omega,by simp,by simp;omega,fun k hk=>?_,fun v hv=>by cases hv⟩
    rcases List.mem_append.1 hk with hk|hk
    · exact hx.kl k hk
    · rcases List.mem_cons.1 hk with rfl|hk
      · exact hs
      · exact hy.kl k hk
theorem lastNode {R1 Rv M:Nat->Prop} {u v v1 z:World} {g:Nat} {At:Option Addr} {ac:Nat} {Fa:Option Addr} {fc mb:Nat} {A:Ar} (hv:ArA Rv M v g At ac Fa fc mb A) (cv:Chg R1 M u Rv M v) (hR1:∀ k,R1 k->k<u.heap.size) {kA N3:Option Addr} {kcc m3:Nat} (hoff:∀ b,ownB kA b->u.heap.size<=b/\¬ Rv b)
    (f:Fr (ownB kA) v v1) {keys:List Key} {kids:List Nat} {xs:List Value} (ow:Own v1 1 kA keys.length kcc xs) (hf:F2 (fun a x=>KBs.rep (Om Rv M) v a [x]) keys xs) (e:Ext v1 z) {bz:Nat} (hb:Blk z bz [.slice kA keys.length kcc,.slice none 0 0,.slice N3 kids.length m3]) (hbz:v1.heap.size<=bz)
    (hk:Imm KN (Om Rv M) v N3 kids) (l3:kids.length<=m3) (hnil:N3=none<->kids=[]) (hok:NOk ⟨keys,[],kids⟩) {i:Nat} (hi:i<A.at_.length) :
    ∃ ga,At=some ⟨ga,0,none⟩/\stOK ((⟨ga,0,none⟩:Addr).add (i*1)) 0 [.pointer (some ⟨bz,0,none⟩)] z/\∀ w'',w''=setAll ((⟨ga,0,none⟩:Addr).add (i*1)) 0 [.pointer (some ⟨bz,0,none⟩)] z->∃ R'',ArA R'' M w'' g At ac Fa fc mb (setN A i ⟨keys,[],kids⟩)/\Chg R1 M u R'' M w'':=by
  have s1:=f.size
  have s2:=e.size
  have s0:=cv.fr.size
  have hMv:∀ k,M k->k<v.heap.size:=fun k hk=>hv.rlt k (hv.mr k hk)
  have hMk:∀ b,ownB kA b->¬ M b:=fun b hb hm=>(hoff b hb).2 (hv.mr b hm)
  let R'':Nat->Prop:=fun k=>Rv k\/ownB kA k\/(v1.heap.size<=k/\k<z.heap.size)
  have hsub:∀ k,Om R'' M k->Om Rv M k:=fun k h=>h.imp (fun h' hr=>h' (.inl hr)) id
  have st1:Step (Om Rv M) v (Om R'' M) z:=⟨by omega,fun k hk hn=>by
    have:¬ ownB kA k:=fun ho=>hn (.inl (hoff k ho).2)
    exact (e.block k (by omega) fun h=>h).trans (f.block k hk this),fun k _ h=>hsub k h⟩
  have hh:ArA R'' M z g At ac Fa fc mb A:=((hv.frame f fun k _ ho=>(hoff k ho).2).ext e).more (fun k hk=>.inl hk) (by
    rintro k (hk|hk|hk)
    · have:=hv.rlt k hk;omega
    · have:=Own.lt ow k hk;omega
    · exact hk.2)
  have hN:NodAt (Om R'' M) z bz ⟨keys,[],kids⟩ kA kcc none 0 N3 m3:=by
    refine ⟨hb,?_,Own.le ow,Nat.le_refl _,l3,?_,Imm.nil _ _ _ _,hk.keep KN_pos st1,hnil,hok⟩
    · rintro (h|h)
      · exact h (.inr (.inr ⟨hbz,hb.lt⟩))
      · have:=hMv bz h;omega
    · refine own_imm oneBs (ow.keep e fun _ _ h=>h) hf st1 fun k hk=>?_
      rintro (h|h)
      · exact h (.inr (.inl hk))
      · exact hMk k hk h
  obtain ⟨ga,hA,q1,q2⟩:=hh.setNode hi hN
  refine ⟨ga,hA,q1,fun w'' hw=>⟨R'',(q2 w'' hw).1,?_⟩⟩
  obtain ⟨_,c2⟩:=q2 w'' hw
  have fz:Fr M u z:=(cv.fr.trans f (fun _ _ h=>h) (fun k hk ho=>by have:=(hoff k ho).1;omega)).ext e.fr
  refine ⟨fz.ext c2.fr,fun _ h=>.inl h,fun k hk=>.inl (cv.r k hk),?_⟩
  rintro k (hk|hk|hk)
  · exact cv.r' k hk
  · exact .inr (hoff k hk).1
  · exact .inr (by omega)
set_option maxRecDepth 100000 in
set_option maxHeartbeats 4000000 in
theorem even_spec {R M:Nat->Prop} {w:World} {g:Nat} {A:Ar} (h:Ar1 R M w g A) (hat:A.at_.length<=131072) (hfl:A.free.length<=131072) (hfan:4<=A.fan) {i k:Nat} {n x y:Nod} (hn:A.nd i=some n) (hx:A.nd (kid n k)=some x) (hy:A.nd (kid n (k+1))=some y) (hk:k+1<n.kids.length) (hkk:n.kids.length=n.keys.length+1) (ht:Twin A x y) :
    CallsV Tryz.prog 112 #[.pointer (some ⟨g,0,none⟩),iv i,iv k] w fun r w'=>r=.tuple #[]/\∃ R' M',Ar1 R' M' w' g (evenF A i k)/\Chg R M w R' M' w':=by
  have hM:=h.mlt
  obtain ⟨At,ac,Fa,fc,mb,ha⟩:=h
  obtain ⟨hil,ga,bn,N1,m1,N2,m2,N3,m3,hAt,hcn,hNn⟩:=ha.node hn
  obtain ⟨hxl,ga',bx,X1,p1,X2,p2,X3,p3,hAt',hcx,hNx⟩:=ha.node hx
  obtain ⟨hyl,ga'',by_,Y1,q1,Y2,q2,Y3,q3,hAt'',hcy,hNy⟩:=ha.node hy
  rw [hAt] at hAt' hAt''
  cases hAt';cases hAt''
  subst hAt
  have hokn:=hNn.okn
  have hokx:=hNx.okn
  have hoky:=hNy.okn
  obtain ⟨lx1,ly1,lx3,ly3,lx2,ly2⟩:=ht.lens
  have hnk:=hokn.k
  have hnc:=hokn.c
  have hs:(n.keys.getD k []).length<=1048576:=by
    have:k<n.keys.length:=by omega
    rw [List.getD_eq_getElem?_getD,List.getElem?_eq_getElem this]
    exact hokn.kl _ (List.getElem_mem this)
  have hokm:=joinN_ok ht hokx hoky hs
  obtain ⟨adk,hN3,hck⟩:=hNn.kidC (c:=k) (by omega)
  obtain ⟨adk',hN3',hck1⟩:=hNn.kidC (c:=k+1) hk
  rw [hN3] at hN3';cases hN3'
  have e1:IntKind.i64.wrap ((k:Int)+1)=((k+1:Nat):Int):=by rw [wi _ (by omega) (by omega)];omega
  have e2:IntKind.i64.wrap ((k:Int)+2)=((k+1+1:Nat):Int):=by rw [wi _ (by omega) (by omega)];omega
  have atC:∀ {j:Nat} {v:Value} {w:World},w.cell? ⟨ga,j,none⟩=some v->∀ u,Ext w u->u.cell? ((⟨ga,0,none⟩:Addr).add (j*1))=some v:=fun hc u e=>by
    rw [add_new,Nat.zero_add,Nat.mul_one];exact Ext.cell e hc
  refine tree_Arena_even.calls okay ?_
  unfold tree_Arena_even.W
  rw [e1,e2,Int.toNat_natCast k,Int.toNat_natCast (k+1),Int.toNat_natCast i]
  have ed:Ext w w.drew:=Fr.drew NoB w
  refine ⟨_,rfl,_,_,_,ha.blk.cell rfl,_,rfl,⟨by omega,by omega⟩,_,atC hcn w (.refl _ _),?_⟩
  refine ⟨_,rfl,fun u=>Ext w u,ed,_,_,_,fun u e=>(ha.blk.ext e).cell rfl,_,rfl,_,_,_,fun u e=>(hNn.blk.ext e).cell rfl,adk,hN3,⟨by omega,by omega⟩,_,fun u e=>Ext.cell e hck,_,rfl,⟨by omega,by omega⟩,_,atC hcx,?_⟩
  refine ⟨_,rfl,_,_,_,fun u e=>(ha.blk.ext e).cell rfl,_,rfl,_,_,_,fun u e=>(hNn.blk.ext e).cell rfl,adk,hN3,⟨by omega,by omega⟩,_,fun u e=>Ext.cell e hck1,_,rfl,⟨by omega,by omega⟩,_,atC hcy,?_⟩
  refine ⟨fun z u=>Ext w u/\(x.kids=[]->∃ b B1 d1 B2 d2,z=some ⟨b,0,none⟩/\NodAt (Om (Ra R w u) M) u b (joinN (n.keys.getD k []) x y) B1 d1 B2 d2 none 0),?_,?_⟩
  · rintro z u ⟨eu,hz⟩
    refine ⟨fun z u=>Ext w u/\∃ b B1 d1 B2 d2 B3 d3,z=some ⟨b,0,none⟩/\NodAt (Om (Ra R w u) M) u b (joinN (n.keys.getD k []) x y) B1 d1 B2 d2 B3 d3,?_,?_⟩
    · rintro z u ⟨eu,b,B1,d1,B2,d2,B3,d3,rfl,hN⟩
      obtain ⟨h1,c1⟩:=ha.absorb eu
      have hNn1:=hNn.keep c1.step
      have hna:nodeAt A i=n:=by simp [nodeAt,hn]
      have hnx:nodeAt A (kid n k)=x:=by simp [nodeAt,hx]
      have hny:nodeAt A (kid n (k+1))=y:=by simp [nodeAt,hy]
      generalize hmm:joinN (n.keys.getD k []) x y=m at *
      have hokm':=hN.okn
      have hmk:=hokm'.k
      have hmc:=hokm'.c
      have hmv:=hokm'.v
      have hszm:m.size<=1000:=by unfold Nod.size;split<;>omega
      refine (size_spec hN).same ⟨_,rfl,_,rfl,_,h1.blk.cell rfl,brd (fun hle=>?_) (fun hgt=>?_)⟩
      · -- one node
        have eE:evenF A i k=setN (drop (setN A (kid n k) m) (kid n (k+1))) i ⟨n.keys.eraseIdx k,[],n.kids.eraseIdx (k+1)⟩:=by
          unfold evenF;dsimp only;rw [hna,hnx,hny,hmm,if_pos (by omega)]
        have eud:Ext u u.drew:=Fr.drew NoB u
        have h1d:=h1.ext eud
        have hNd:=hN.keep (eud.step (Om (Ra R w u) M))
        obtain ⟨ga2,hA2,s1,s2⟩:=h1d.setNode (i:=kid n k) hxl hNd
        cases hA2
        refine ⟨_,rfl,fun v=>Ext u v,eud,_,_,_,fun v e=>(h1.blk.ext e).cell rfl,_,rfl,_,_,_,fun v e=>(hNn1.blk.ext e).cell rfl,adk,hN3,⟨by omega,by omega⟩,_,fun v e=>Ext.cell (eu.trans' e) hck,_,rfl,⟨by omega,by omega⟩,s1,fun u2 hu2=>?_⟩
        obtain ⟨h2,c2⟩:=s2 u2 hu2
        have c2':=(Chg.ext eud).trans c2
        have hNn2:=hNn1.keep c2'.step
        obtain ⟨ad2,hN32,hck2⟩:=hNn2.kidC (c:=k+1) hk
        rw [hN3] at hN32;cases hN32
        refine ⟨_,rfl,_,_,_,hNn2.blk.cell rfl,adk,hN3,⟨by omega,by omega⟩,_,hck2,?_⟩
        refine (drop_spec (i:=kid n (k+1)) ⟨_,_,_,_,_,h2⟩ (by simp [setN];omega) (by simpa [setN] using hyl)).mono ?_
        rintro _ u3 ⟨rfl,R3,M3,h3,c3⟩
        have hM3:=h3.mlt
        obtain ⟨At3,ac3,Fa3,fc3,mb3,h3⟩:=h3
        have hNn3:=hNn2.keep c3.step
        obtain ⟨nk,cnk,fnk,knk,onk⟩:=cells_of oneBs hNn3.keys
        obtain ⟨ni,cni,fni,kni,oni⟩:=cells_of oneN hNn3.kids
        have ed3:Ext u3 u3.drew:=Fr.drew NoB u3
        have st:Sls u3 u3.drew [none,none]:=Sls.start ed3 2
        refine ⟨rfl,_,rfl,fun v=>Ext u3 v,ed3,_,_,_,fun v e=>(h3.blk.ext e).cell rfl,_,rfl,_,_,_,fun v e=>(hNn3.blk.ext e).cell rfl,_,rfl,_,_,_,fun v e=>(hNn3.blk.ext e).cell rfl,?_⟩
        refine (cloneS_raw (m:=n.keys.length) (Cells.ext cnk ed3) onk (by omega) knk).mono ?_
        rintro _ v1 ⟨kA,kcc,rfl,ko,ev1,kn⟩
        replace st:=st.new ev1 ko kn 0
        refine ⟨_,_,_,rfl,st.ext,?_⟩
        refine (deleteS_raw (st.ownAt 0 rfl).1 onk (i:=k) (by omega) (by omega) (by omega)).mono ?_
        rintro _ v2 ⟨rfl,ko2,fv2⟩
        replace st:=st.put fv2 0 (fun k hk=>⟨_,rfl,hk⟩) (.o kA (n.keys.length-1) kcc (nk.eraseIdx k)) ko2 (fun k hk=>.inl ⟨_,rfl,hk⟩)
        refine ⟨_,_,_,rfl,st.ext,?_⟩
        refine (cloneI_raw (m:=n.kids.length) (Cells.ext cni st.ext) oni (by omega) kni).mono ?_
        rintro _ v3 ⟨iA,icc,rfl,io,ev3,inw⟩
        replace st:=st.new ev3 io inw 1
        refine ⟨_,_,_,rfl,st.ext,?_⟩
        refine (deleteI_raw (st.ownAt 1 rfl).1 oni (i:=k+1) (by omega) (by omega) (by omega)).mono ?_
        rintro _ v4 ⟨rfl,io2,fv4⟩
        replace st:=st.put fv4 1 (fun k hk=>⟨_,rfl,hk⟩) (.o iA (n.kids.length-1) icc (ni.eraseIdx (k+1))) io2 (fun k hk=>.inl ⟨_,rfl,hk⟩)
        refine ⟨_,_,_,rfl,st.ext,?_⟩
        intro gx v5 fx
        have hge:=Nat.le_trans st.ext.size fx.ge
        replace st:=st.step fx.ext
        have lk:(n.keys.eraseIdx k).length=n.keys.length-1:=List.length_eraseIdx_of_lt (by omega)
        have li:(n.kids.eraseIdx (k+1)).length=n.kids.length-1:=List.length_eraseIdx_of_lt (by omega)
        have hok5:NOk ⟨n.keys.eraseIdx k,[],n.kids.eraseIdx (k+1)⟩:=⟨by dsimp only;omega,by simp,by dsimp only;omega,fun x hx=>hokn.kl x (List.mem_of_mem_eraseIdx hx),fun x hx=>(by cases hx)⟩
        have hN5:=node_of (n:=⟨n.keys.eraseIdx k,[],n.kids.eraseIdx (k+1)⟩) hM3 st.ext (by rw [lk,li];exact fx.blk) hge ⟨(st.ownAt 0 rfl).2,_,by rw [lk];exact (st.ownAt 0 rfl).1,fnk.erase k⟩ (Part.nil _ _ _ _) ⟨(st.ownAt 1 rfl).2,_,by rw [li];exact (st.ownAt 1 rfl).1,fni.erase (k+1)⟩ (fun e=>by
          have e:n.kids.eraseIdx (k+1)=[]:=e
          rw [e] at li;simp at li;omega) hok5
        have hal:(drop (setN A (kid n k) m) (kid n (k+1))).at_.length=A.at_.length:=by simp [drop,setN]
        obtain ⟨ga5,hA5,s5,s6⟩:=h3.setNew st.ext hN5 (i:=i) (by omega)
        refine ⟨st.ext,_,hA5,⟨by omega,by omega⟩,s5,fun v6 hv6=>?_⟩
        obtain ⟨h6,c6⟩:=s6 v6 hv6
        rw [eE]
        exact ⟨rfl,_,_,⟨_,_,_,_,_,h6⟩,c1.trans (c2'.trans (c3.trans c6))⟩
      · -- two again
        have hhf:2<=m.size / 2:=by omega
        obtain ⟨hf,hhf'⟩:∃ hf,m.size / 2=hf:=⟨_,rfl⟩
        have e4:IntKind.i64.wrap (Int.tdiv ((m.size:Nat):Int) 2)=((hf:Nat):Int):=by
          rw [Int.tdiv_eq_ediv_of_nonneg (by omega),wi _ (by omega) (by omega)];omega
        have e5:IntKind.i64.wrap ((hf:Int)-1)=((hf-1:Nat):Int):=by rw [wi _ (by omega) (by omega)];omega
        obtain ⟨nk,cnk,fnk,knk,onk⟩:=cells_of oneBs hNn1.keys
        refine ⟨_,rfl,_,_,_,hNn1.blk.cell rfl,(cloneS_raw (m:=n.keys.length) cnk onk (by omega) knk).mono ?_⟩
        rintro _ u1 ⟨kA,kcc,rfl,ko,eu1,kn⟩
        have h1':=h1.ext eu1
        have hN':=hN.keep (eu1.step (Om (Ra R w u) M))
        have hNn':=hNn1.keep (eu1.step (Om (Ra R w u) M))
        have su1:=eu1.size
        have hkA:∀ b,ownB kA b->u.heap.size<=b/\¬ Ra R w u b/\b<u1.heap.size:=fun b hb=>⟨kn b hb,fun hr=>by have:=h1.rlt b hr;have:=kn b hb;omega,Own.lt ko b hb⟩
        refine ⟨_,_,_,rfl,(size_spec hN').same ⟨_,rfl,by decide,_,rfl,_,_,_,hN'.blk.cell rfl,?_⟩⟩
        rw [e4,e5]
        have hml:m.kids=[]->m.vals.length=m.keys.length/\m.size=m.keys.length:=by
          intro e
          have hs:m.size=m.keys.length:=by rw [Nod.size,if_pos e]
          refine ⟨?_,hs⟩
          rw [<- hmm] at e ⊢
          rcases ht.both with ⟨a,b,c,d⟩|⟨a,b,c,d,e',f⟩
          · unfold joinN;rw [if_pos a];simp;omega
          · unfold joinN at e;rw [if_neg a] at e;exact absurd (List.append_eq_nil_iff.1 e).1 a
        have hmi:m.kids≠[]->m.vals=[]/\m.kids.length=m.keys.length+1/\m.size=m.kids.length:=by
          intro e
          have hs:m.size=m.kids.length:=by rw [Nod.size,if_neg e]
          refine ⟨?_,?_,hs⟩<;>rw [<- hmm] at e ⊢<;>rcases ht.both with ⟨a,b,c,d⟩|⟨a,b,c,d,e',f⟩
          · unfold joinN at e;rw [if_pos a] at e;exact absurd rfl e
          · unfold joinN;rw [if_neg a]
          · unfold joinN at e;rw [if_pos a] at e;exact absurd rfl e
          · unfold joinN;rw [if_neg a];simp;omega
        refine br (fun hnn=>?_) (fun hnn=>?_)
        · -- leaves
          have hmk0:m.kids=[]:=hN'.nil.1 (by cases B3<;>simp_all)
          have hmv2:m.vals.length=m.keys.length/\m.size=m.keys.length:=hml hmk0
          obtain ⟨hl1,hl2,hl3⟩:m.keys.length<=d1/\m.vals.length<=d2/\m.kids.length<=d3:=⟨hN'.l1,hN'.l2,hN'.l3⟩
          have eE:evenF A i k=setN (setN (setN A (kid n k) ⟨m.keys.take hf,m.vals.take hf,[]⟩) (kid n (k+1)) ⟨m.keys.drop hf,m.vals.drop hf,[]⟩) i ⟨n.keys.set k (m.keys.getD hf []),[],n.kids⟩:=by
            unfold evenF;dsimp only;rw [hna,hnx,hny,hmm,if_neg (by omega),if_pos hmk0,hhf']
          refine ⟨fun v=>∃ Rv,ArA Rv M v g (some ⟨ga,0,none⟩) ac Fa fc mb (setN A (kid n k) ⟨m.keys.take hf,m.vals.take hf,[]⟩)/\Chg (Ra R w u) M u1 Rv M v/\∀ b,ownB kA b->¬ Rv b,?_,?_⟩
          · rintro v ⟨Rv,hv,cv,ov⟩
            have hNmv:=hN'.keep cv.step
            have hNnv:=hNn'.keep cv.step
            have svz:=cv.fr.size
            refine ⟨fun v=>∃ Rv,ArA Rv M v g (some ⟨ga,0,none⟩) ac Fa fc mb (setN (setN A (kid n k) ⟨m.keys.take hf,m.vals.take hf,[]⟩) (kid n (k+1)) ⟨m.keys.drop hf,m.vals.drop hf,[]⟩)/\Chg (Ra R w u) M u1 Rv M v/\∀ b,ownB kA b->¬ Rv b,?_,?_⟩
            · rintro y0 ⟨Ry,hy0,cy,oy⟩
              have hNmy:=hN'.keep cy.step
              have hNny:=hNn'.keep cy.step
              have syz:=cy.fr.size
              have fny:=(fnk.step (eu1.step (Om (Ra R w u) M))).step cy.step
              have koy:=ko.keep cy.fr fun b hb hm=>(hkA b hb).2.1 (h1.mr b hm)
              obtain ⟨adm,B,cb,hB1,hcB,hcb,hBk⟩:=list_item hNmy.keys (c:=hf) (by omega)
              refine ⟨_,rfl,_,_,_,hNmy.blk.cell rfl,adm,hB1,⟨by omega,by omega⟩,B,(m.keys.getD hf []).length,cb,hcB,?_⟩
              obtain ⟨gk,hgk,t1,t2,t3⟩:=Own.at_ koy (j:=k) (by omega)
              refine ⟨_,hgk,⟨by omega,by omega⟩,by rw [add_new,Nat.zero_add,Nat.mul_one];exact ⟨t1,t2⟩,fun y1 hy1=>?_⟩
              rw [add_new,Nat.zero_add,Nat.mul_one] at hy1
              have hset:setAll (⟨gk,k,none⟩:Addr) 0 [.slice B (m.keys.getD hf []).length cb] y0=y0.setCell ⟨gk,k,none⟩ (.slice B (m.keys.getD hf []).length cb):=by simp [setAll,add_zero']
              rw [hset] at hy1
              obtain ⟨ow1,fw1⟩:=t3 (.slice B (m.keys.getD hf []).length cb)
              rw [<- hy1] at ow1 fw1
              have hy1n:=(hy0.frame fw1 fun b _ hb=>oy b hb)
              have hNny1:NodAt (Om Ry M) y1 bn n N1 m1 N2 m2 N3 m3:=hNny.keep (fw1.step (fun b _ hb=>.inl (oy b hb)) fun _ _ h=>h)
              have ed1:Ext y1 y1.drew:=Fr.drew NoB y1
              refine ⟨_,rfl,fun z=>Ext y1 z,ed1,_,_,_,fun z e=>(hy1n.blk.ext e).cell rfl,_,rfl,_,_,_,fun z e=>(hNny1.blk.ext e).cell rfl,fun gz z3 fz=>?_⟩
              have hls:(n.keys.set k (m.keys.getD hf [])).length=n.keys.length:=List.length_set
              have hkl:(m.keys.getD hf []).length<=1048576:=by
                have:hf<m.keys.length:=by omega
                rw [List.getD_eq_getElem?_getD,List.getElem?_eq_getElem this]
                exact hokm'.kl _ (List.getElem_mem this)
              obtain ⟨gq,hA,sa,sb⟩:=lastNode hy0 ((Chg.ext eu1).trans cy) h1.rlt (fun b hb=>⟨(hkA b hb).1,oy b hb⟩) fw1 (keys:=n.keys.set k (m.keys.getD hf [])) (kids:=n.kids) (by rw [hls];exact ow1) (fny.set k (a:=m.keys.getD hf []) (b:=.slice B (m.keys.getD hf []).length cb) ⟨B,cb,rfl,hcb,hBk⟩) (ed1.trans' fz.ext) (bz:=gz) (by rw [hls];exact fz.blk) (Nat.le_trans ed1.size fz.ge) hNny.kids hNny.l3 hNny.nil ⟨by rw [hls];exact hnk,by simp,hnc,fun x hx=>(List.mem_or_eq_of_mem_set hx).elim (hokn.kl x) (fun e=>by rw [e];exact hkl),fun x hx=>(by cases hx)⟩ (i:=i) (by simp [setN];omega)
              cases hA
              refine ⟨ed1.trans' fz.ext,_,rfl,⟨by omega,by simp [setN];omega⟩,sa,fun z4 hz4=>?_⟩
              obtain ⟨R5,h5,c5⟩:=sb z4 hz4
              rw [eE]
              exact ⟨rfl,_,_,⟨_,_,_,_,_,h5⟩,c1.trans c5⟩
            · obtain ⟨ads,hq3s,hcks⟩:=hNnv.kidC (c:=(k+1)) (by omega)
              rw [hN3] at hq3s;cases hq3s
              obtain ⟨xs1s,cc1s,cf1s,cl1s,co1s⟩:=cells_of oneBs (imm_drop oneBs hNmv.keys hl1 hf)
              obtain ⟨xs2s,cc2s,cf2s,cl2s,co2s⟩:=cells_of oneBs (imm_drop oneBs hNmv.vals hl2 hf)
              have eds:Ext v v.drew:=Fr.drew NoB v
              have st:Sls v v.drew [none,none]:=Sls.start eds 2
              refine ⟨_,rfl,fun z=>Ext v z,eds,_,_,_,fun z e=>(hv.blk.ext e).cell rfl,_,rfl,_,_,_,fun z e=>(hNnv.blk.ext e).cell rfl,adk,hN3,⟨by omega,by omega⟩,_,fun z e=>Ext.cell e hcks,_,rfl,_,_,_,fun z e=>(hNmv.blk.ext e).cell rfl,⟨by omega,by omega⟩,_,rfl,_,_,_,fun z e=>(hNmv.blk.ext e).cell rfl,⟨by omega,by omega⟩,?_⟩
              rw [Int.toNat_natCast]
              refine (cloneS_raw (m:=m.keys.length-hf) (Cells.ext cc1s eds) co1s (by rw [cl1s];simp;omega) (by rw [cl1s];simp;try omega)).mono ?_
              rintro _ z1 ⟨lAs,lcs,rfl,los,ez1s,lns⟩
              replace st:=st.new ez1s los lns 0
              refine ⟨_,_,_,rfl,st.ext,?_⟩
              refine (cloneS_raw (m:=m.vals.length-hf) (Cells.ext cc2s st.ext) co2s (by rw [cl2s];simp;omega) (by rw [cl2s];simp;try omega)).mono ?_
              rintro _ z2 ⟨lBs,lds,rfl,lps,ez2s,lms⟩
              replace st:=st.new ez2s lps lms 1
              refine ⟨_,_,_,rfl,st.ext,?_⟩
              intro gx z3 fx
              have hges:=Nat.le_trans st.ext.size fx.ge
              replace st:=st.step fx.ext
              have hMs:∀ k,M k->k<(v).heap.size:=fun k hk=>hv.rlt k (hv.mr k hk)
              have hNews:=node_of (n:=⟨m.keys.drop hf,m.vals.drop hf,[]⟩) hMs st.ext (by rw [List.length_drop,List.length_drop];exact fx.blk) hges ⟨(st.ownAt 0 rfl).2,_,by rw [List.length_drop];exact (st.ownAt 0 rfl).1,cf1s⟩ ⟨(st.ownAt 1 rfl).2,_,by rw [List.length_drop];exact (st.ownAt 1 rfl).1,cf2s⟩ (Part.nil _ _ _ _) (fun _=>rfl) (hokm'.cut (fun k hk=>List.mem_of_mem_drop hk) (fun k hk=>List.mem_of_mem_drop hk) (by rw [List.length_drop];omega) (by rw [List.length_drop];omega) (by simp))
              obtain ⟨gqs,hAs,sas,sbs⟩:=hv.setNew st.ext hNews (i:=kid n (k+1)) (by first|omega|(simp [setN];omega))
              cases hAs
              refine ⟨st.ext,_,rfl,⟨by omega,by first|omega|(simp [setN];omega)⟩,sas,fun z4 hz4=>?_⟩
              obtain ⟨hqs,cqs⟩:=sbs z4 hz4
              refine ⟨_,hqs,cv.trans cqs,fun b hb=>?_⟩
              have hk1:=hkA b hb
              have hk2:=(fun b hb=>(⟨ov b hb,by have:=(hkA b hb).2.2;omega⟩:¬ Rv b/\b<v.heap.size)) b hb
              rintro (hr|hr)
              · exact hk2.1 hr
              · have:=hk2.2;omega
          · obtain ⟨adf,hq3f,hckf⟩:=hNn'.kidC (c:=k) (by omega)
            rw [hN3] at hq3f;cases hq3f
            obtain ⟨xs1f,cc1f,cf1f,cl1f,co1f⟩:=cells_of oneBs (imm_take hN'.keys hf)
            obtain ⟨xs2f,cc2f,cf2f,cl2f,co2f⟩:=cells_of oneBs (imm_take hN'.vals hf)
            have edf:Ext u1 u1.drew:=Fr.drew NoB u1
            have st:Sls u1 u1.drew [none,none]:=Sls.start edf 2
            refine ⟨_,rfl,fun z=>Ext u1 z,edf,_,_,_,fun z e=>(h1'.blk.ext e).cell rfl,_,rfl,_,_,_,fun z e=>(hNn'.blk.ext e).cell rfl,adk,hN3,⟨by omega,by omega⟩,_,fun z e=>Ext.cell e hckf,_,rfl,_,_,_,fun z e=>(hN'.blk.ext e).cell rfl,⟨by omega,by omega⟩,_,rfl,_,_,_,fun z e=>(hN'.blk.ext e).cell rfl,⟨by omega,by omega⟩,?_⟩
            rw [Int.toNat_natCast,cutAt_zero,cutAt_zero,Nat.sub_zero,Nat.sub_zero,Nat.sub_zero]
            refine (cloneS_raw (m:=hf) (Cells.ext cc1f edf) co1f (by rw [cl1f];simp;omega) (by rw [cl1f];simp;try omega)).mono ?_
            rintro _ z1 ⟨lAf,lcf,rfl,lof,ez1f,lnf⟩
            replace st:=st.new ez1f lof lnf 0
            refine ⟨_,_,_,rfl,st.ext,?_⟩
            refine (cloneS_raw (m:=hf) (Cells.ext cc2f st.ext) co2f (by rw [cl2f];simp;omega) (by rw [cl2f];simp;try omega)).mono ?_
            rintro _ z2 ⟨lBf,ldf,rfl,lpf,ez2f,lmf⟩
            replace st:=st.new ez2f lpf lmf 1
            refine ⟨_,_,_,rfl,st.ext,?_⟩
            intro gx z3 fx
            have hgef:=Nat.le_trans st.ext.size fx.ge
            replace st:=st.step fx.ext
            have hMf:∀ k,M k->k<(u1).heap.size:=fun k hk=>h1'.rlt k (h1'.mr k hk)
            have hNewf:=node_of (n:=⟨m.keys.take hf,m.vals.take hf,[]⟩) hMf st.ext (by dsimp only;rw [List.length_take,List.length_take,Nat.min_eq_left (by omega),Nat.min_eq_left (by omega)];exact fx.blk) hgef ⟨(st.ownAt 0 rfl).2,_,by rw [List.length_take,Nat.min_eq_left (by omega)];exact (st.ownAt 0 rfl).1,cf1f⟩ ⟨(st.ownAt 1 rfl).2,_,by rw [List.length_take,Nat.min_eq_left (by omega)];exact (st.ownAt 1 rfl).1,cf2f⟩ (Part.nil _ _ _ _) (fun _=>rfl) (hokm'.cut (fun k hk=>List.mem_of_mem_take hk) (fun k hk=>List.mem_of_mem_take hk) (by rw [List.length_take];omega) (by rw [List.length_take];omega) (by simp))
            obtain ⟨gqf,hAf,saf,sbf⟩:=h1'.setNew st.ext hNewf (i:=kid n k) (by first|omega|(simp [setN];omega))
            cases hAf
            refine ⟨st.ext,_,rfl,⟨by omega,by first|omega|(simp [setN];omega)⟩,saf,fun z4 hz4=>?_⟩
            obtain ⟨hqf,cqf⟩:=sbf z4 hz4
            refine ⟨_,hqf,cqf,fun b hb=>?_⟩
            have hk1:=hkA b hb
            have hk2:=(fun b hb=>(⟨(hkA b hb).2.1,(hkA b hb).2.2⟩:¬ Ra R w u b/\b<u1.heap.size)) b hb
            rintro (hr|hr)
            · exact hk2.1 hr
            · have:=hk2.2;omega
        · -- inner ones
          have hmk0:m.kids≠[]:=fun e=>by rw [hN'.nil.2 e] at hnn;cases hnn
          have hmv2:m.vals=[]/\m.kids.length=m.keys.length+1/\m.size=m.kids.length:=hmi hmk0
          obtain ⟨hl1,hl2,hl3⟩:m.keys.length<=d1/\m.vals.length<=d2/\m.kids.length<=d3:=⟨hN'.l1,hN'.l2,hN'.l3⟩
          have eE:evenF A i k=setN (setN (setN A (kid n k) ⟨m.keys.take (hf-1),[],m.kids.take hf⟩) (kid n (k+1)) ⟨m.keys.drop hf,[],m.kids.drop hf⟩) i ⟨n.keys.set k (m.keys.getD (hf-1) []),[],n.kids⟩:=by
            unfold evenF;dsimp only;rw [hna,hnx,hny,hmm,if_neg (by omega),if_neg hmk0,hhf']
          refine ⟨fun v=>∃ Rv,ArA Rv M v g (some ⟨ga,0,none⟩) ac Fa fc mb (setN A (kid n k) ⟨m.keys.take (hf-1),[],m.kids.take hf⟩)/\Chg (Ra R w u) M u1 Rv M v/\∀ b,ownB kA b->¬ Rv b,?_,?_⟩
          · rintro v ⟨Rv,hv,cv,ov⟩
            have hNmv:=hN'.keep cv.step
            have hNnv:=hNn'.keep cv.step
            have svz:=cv.fr.size
            refine ⟨fun v=>∃ Rv,ArA Rv M v g (some ⟨ga,0,none⟩) ac Fa fc mb (setN (setN A (kid n k) ⟨m.keys.take (hf-1),[],m.kids.take hf⟩) (kid n (k+1)) ⟨m.keys.drop hf,[],m.kids.drop hf⟩)/\Chg (Ra R w u) M u1 Rv M v/\∀ b,ownB kA b->¬ Rv b,?_,?_⟩
            · rintro y0 ⟨Ry,hy0,cy,oy⟩
              have hNmy:=hN'.keep cy.step
              have hNny:=hNn'.keep cy.step
              have syz:=cy.fr.size
              have fny:=(fnk.step (eu1.step (Om (Ra R w u) M))).step cy.step
              have koy:=ko.keep cy.fr fun b hb hm=>(hkA b hb).2.1 (h1.mr b hm)
              obtain ⟨adm,B,cb,hB1,hcB,hcb,hBk⟩:=list_item hNmy.keys (c:=(hf-1)) (by omega)
              refine ⟨_,rfl,_,_,_,hNmy.blk.cell rfl,adm,hB1,⟨by omega,by omega⟩,B,(m.keys.getD (hf-1) []).length,cb,hcB,?_⟩
              obtain ⟨gk,hgk,t1,t2,t3⟩:=Own.at_ koy (j:=k) (by omega)
              refine ⟨_,hgk,⟨by omega,by omega⟩,by rw [add_new,Nat.zero_add,Nat.mul_one];exact ⟨t1,t2⟩,fun y1 hy1=>?_⟩
              rw [add_new,Nat.zero_add,Nat.mul_one] at hy1
              have hset:setAll (⟨gk,k,none⟩:Addr) 0 [.slice B (m.keys.getD (hf-1) []).length cb] y0=y0.setCell ⟨gk,k,none⟩ (.slice B (m.keys.getD (hf-1) []).length cb):=by simp [setAll,add_zero']
              rw [hset] at hy1
              obtain ⟨ow1,fw1⟩:=t3 (.slice B (m.keys.getD (hf-1) []).length cb)
              rw [<- hy1] at ow1 fw1
              have hy1n:=(hy0.frame fw1 fun b _ hb=>oy b hb)
              have hNny1:NodAt (Om Ry M) y1 bn n N1 m1 N2 m2 N3 m3:=hNny.keep (fw1.step (fun b _ hb=>.inl (oy b hb)) fun _ _ h=>h)
              have ed1:Ext y1 y1.drew:=Fr.drew NoB y1
              refine ⟨_,rfl,fun z=>Ext y1 z,ed1,_,_,_,fun z e=>(hy1n.blk.ext e).cell rfl,_,rfl,_,_,_,fun z e=>(hNny1.blk.ext e).cell rfl,fun gz z3 fz=>?_⟩
              have hls:(n.keys.set k (m.keys.getD (hf-1) [])).length=n.keys.length:=List.length_set
              have hkl:(m.keys.getD (hf-1) []).length<=1048576:=by
                have:(hf-1)<m.keys.length:=by omega
                rw [List.getD_eq_getElem?_getD,List.getElem?_eq_getElem this]
                exact hokm'.kl _ (List.getElem_mem this)
              obtain ⟨gq,hA,sa,sb⟩:=lastNode hy0 ((Chg.ext eu1).trans cy) h1.rlt (fun b hb=>⟨(hkA b hb).1,oy b hb⟩) fw1 (keys:=n.keys.set k (m.keys.getD (hf-1) [])) (kids:=n.kids) (by rw [hls];exact ow1) (fny.set k (a:=m.keys.getD (hf-1) []) (b:=.slice B (m.keys.getD (hf-1) []).length cb) ⟨B,cb,rfl,hcb,hBk⟩) (ed1.trans' fz.ext) (bz:=gz) (by rw [hls];exact fz.blk) (Nat.le_trans ed1.size fz.ge) hNny.kids hNny.l3 hNny.nil ⟨by rw [hls];exact hnk,by simp,hnc,fun x hx=>(List.mem_or_eq_of_mem_set hx).elim (hokn.kl x) (fun e=>by rw [e];exact hkl),fun x hx=>(by cases hx)⟩ (i:=i) (by simp [setN];omega)
              cases hA
              refine ⟨ed1.trans' fz.ext,_,rfl,⟨by omega,by simp [setN];omega⟩,sa,fun z4 hz4=>?_⟩
              obtain ⟨R5,h5,c5⟩:=sb z4 hz4
              rw [eE]
              exact ⟨rfl,_,_,⟨_,_,_,_,_,h5⟩,c1.trans c5⟩
            · obtain ⟨ads,hq3s,hcks⟩:=hNnv.kidC (c:=(k+1)) (by omega)
              rw [hN3] at hq3s;cases hq3s
              obtain ⟨xs1s,cc1s,cf1s,cl1s,co1s⟩:=cells_of oneBs (imm_drop oneBs hNmv.keys hl1 hf)
              obtain ⟨xs2s,cc2s,cf2s,cl2s,co2s⟩:=cells_of oneN (imm_drop oneN hNmv.kids hl3 hf)
              have eds:Ext v v.drew:=Fr.drew NoB v
              have st:Sls v v.drew [none,none]:=Sls.start eds 2
              refine ⟨_,rfl,fun z=>Ext v z,eds,_,_,_,fun z e=>(hv.blk.ext e).cell rfl,_,rfl,_,_,_,fun z e=>(hNnv.blk.ext e).cell rfl,adk,hN3,⟨by omega,by omega⟩,_,fun z e=>Ext.cell e hcks,_,rfl,_,_,_,fun z e=>(hNmv.blk.ext e).cell rfl,⟨by omega,by omega⟩,_,rfl,_,_,_,fun z e=>(hNmv.blk.ext e).cell rfl,⟨by omega,by omega⟩,?_⟩
              rw [Int.toNat_natCast]
              refine (cloneS_raw (m:=m.keys.length-hf) (Cells.ext cc1s eds) co1s (by rw [cl1s];simp;omega) (by rw [cl1s];simp;try omega)).mono ?_
              rintro _ z1 ⟨lAs,lcs,rfl,los,ez1s,lns⟩
              replace st:=st.new ez1s los lns 0
              refine ⟨_,_,_,rfl,st.ext,?_⟩
              refine (cloneI_raw (m:=m.kids.length-hf) (Cells.ext cc2s st.ext) co2s (by rw [cl2s];simp;omega) (by rw [cl2s];simp;try omega)).mono ?_
              rintro _ z2 ⟨lBs,lds,rfl,lps,ez2s,lms⟩
              replace st:=st.new ez2s lps lms 1
              refine ⟨_,_,_,rfl,st.ext,?_⟩
              intro gx z3 fx
              have hges:=Nat.le_trans st.ext.size fx.ge
              replace st:=st.step fx.ext
              have hMs:∀ k,M k->k<(v).heap.size:=fun k hk=>hv.rlt k (hv.mr k hk)
              have hNews:=node_of (n:=⟨m.keys.drop hf,[],m.kids.drop hf⟩) hMs st.ext (by rw [List.length_drop,List.length_drop];exact fx.blk) hges ⟨(st.ownAt 0 rfl).2,_,by rw [List.length_drop];exact (st.ownAt 0 rfl).1,cf1s⟩ (Part.nil _ _ _ _) ⟨(st.ownAt 1 rfl).2,_,by rw [List.length_drop];exact (st.ownAt 1 rfl).1,cf2s⟩ (fun e=>by have e:=congrArg List.length (show m.kids.drop hf=[] from e);rw [List.length_drop] at e;simp at e;omega) (hokm'.cut (fun k hk=>List.mem_of_mem_drop hk) (fun k hk=>(by cases hk)) (by rw [List.length_drop];omega) (by simp) (by rw [List.length_drop];omega))
              obtain ⟨gqs,hAs,sas,sbs⟩:=hv.setNew st.ext hNews (i:=kid n (k+1)) (by first|omega|(simp [setN];omega))
              cases hAs
              refine ⟨st.ext,_,rfl,⟨by omega,by first|omega|(simp [setN];omega)⟩,sas,fun z4 hz4=>?_⟩
              obtain ⟨hqs,cqs⟩:=sbs z4 hz4
              refine ⟨_,hqs,cv.trans cqs,fun b hb=>?_⟩
              have hk1:=hkA b hb
              have hk2:=(fun b hb=>(⟨ov b hb,by have:=(hkA b hb).2.2;omega⟩:¬ Rv b/\b<v.heap.size)) b hb
              rintro (hr|hr)
              · exact hk2.1 hr
              · have:=hk2.2;omega
          · obtain ⟨adf,hq3f,hckf⟩:=hNn'.kidC (c:=k) (by omega)
            rw [hN3] at hq3f;cases hq3f
            obtain ⟨xs1f,cc1f,cf1f,cl1f,co1f⟩:=cells_of oneBs (imm_take hN'.keys (hf-1))
            obtain ⟨xs2f,cc2f,cf2f,cl2f,co2f⟩:=cells_of oneN (imm_take hN'.kids hf)
            have edf:Ext u1 u1.drew:=Fr.drew NoB u1
            have st:Sls u1 u1.drew [none,none]:=Sls.start edf 2
            refine ⟨_,rfl,fun z=>Ext u1 z,edf,_,_,_,fun z e=>(h1'.blk.ext e).cell rfl,_,rfl,_,_,_,fun z e=>(hNn'.blk.ext e).cell rfl,adk,hN3,⟨by omega,by omega⟩,_,fun z e=>Ext.cell e hckf,_,rfl,_,_,_,fun z e=>(hN'.blk.ext e).cell rfl,⟨by omega,by omega⟩,_,rfl,_,_,_,fun z e=>(hN'.blk.ext e).cell rfl,⟨by omega,by omega⟩,?_⟩
            rw [Int.toNat_natCast,Int.toNat_natCast,cutAt_zero,cutAt_zero,Nat.sub_zero,Nat.sub_zero,Nat.sub_zero,Nat.sub_zero]
            refine (cloneS_raw (m:=hf-1) (Cells.ext cc1f edf) co1f (by rw [cl1f];simp;omega) (by rw [cl1f];simp;try omega)).mono ?_
            rintro _ z1 ⟨lAf,lcf,rfl,lof,ez1f,lnf⟩
            replace st:=st.new ez1f lof lnf 0
            refine ⟨_,_,_,rfl,st.ext,?_⟩
            refine (cloneI_raw (m:=hf) (Cells.ext cc2f st.ext) co2f (by rw [cl2f];simp;omega) (by rw [cl2f];simp;try omega)).mono ?_
            rintro _ z2 ⟨lBf,ldf,rfl,lpf,ez2f,lmf⟩
            replace st:=st.new ez2f lpf lmf 1
            refine ⟨_,_,_,rfl,st.ext,?_⟩
            intro gx z3 fx
            have hgef:=Nat.le_trans st.ext.size fx.ge
            replace st:=st.step fx.ext
            have hMf:∀ k,M k->k<(u1).heap.size:=fun k hk=>h1'.rlt k (h1'.mr k hk)
            have hNewf:=node_of (n:=⟨m.keys.take (hf-1),[],m.kids.take hf⟩) hMf st.ext (by dsimp only;rw [List.length_take,List.length_take,Nat.min_eq_left (by omega),Nat.min_eq_left (by omega)];exact fx.blk) hgef ⟨(st.ownAt 0 rfl).2,_,by rw [List.length_take,Nat.min_eq_left (by omega)];exact (st.ownAt 0 rfl).1,cf1f⟩ (Part.nil _ _ _ _) ⟨(st.ownAt 1 rfl).2,_,by rw [List.length_take,Nat.min_eq_left (by omega)];exact (st.ownAt 1 rfl).1,cf2f⟩ (fun e=>by have e:=congrArg List.length (show m.kids.take hf=[] from e);rw [List.length_take,Nat.min_eq_left (by omega)] at e;simp at e;omega) (hokm'.cut (fun k hk=>List.mem_of_mem_take hk) (fun k hk=>(by cases hk)) (by rw [List.length_take];omega) (by simp) (by rw [List.length_take];omega))
            obtain ⟨gqf,hAf,saf,sbf⟩:=h1'.setNew st.ext hNewf (i:=kid n k) (by first|omega|(simp [setN];omega))
            cases hAf
            refine ⟨st.ext,_,rfl,⟨by omega,by first|omega|(simp [setN];omega)⟩,saf,fun z4 hz4=>?_⟩
            obtain ⟨hqf,cqf⟩:=sbf z4 hz4
            refine ⟨_,hqf,cqf,fun b hb=>?_⟩
            have hk1:=hkA b hb
            have hk2:=(fun b hb=>(⟨(hkA b hb).2.1,(hkA b hb).2.2⟩:¬ Ra R w u b/\b<u1.heap.size)) b hb
            rintro (hr|hr)
            · exact hk2.1 hr
            · have:=hk2.2;omega
    · have hNxu:=hNx.blk.ext eu
      refine ⟨_,rfl,_,_,_,hNxu.cell rfl,brnb (fun hnn=>?_) (fun hnn=>?_)⟩
      · have hxk:x.kids≠[]:=fun e=>by rw [hNx.nil.2 e] at hnn;cases hnn
        obtain ⟨xk,cxk,fxk,kxk,oxk⟩:=cells_of oneBs hNx.keys
        obtain ⟨yk,cyk,fyk,kyk,oyk⟩:=cells_of oneBs hNy.keys
        obtain ⟨xi,cxi,fxi,kxi,oxi⟩:=cells_of oneN hNx.kids
        obtain ⟨yi,cyi,fyi,kyi,oyi⟩:=cells_of oneN hNy.kids
        obtain ⟨adn,B,cb,hN1,hcs,hcb,hB⟩:=list_item hNn.keys (c:=k) (by omega)
        have eud:Ext w u.drew:=eu.ext (Fr.drew NoB u)
        have ej:joinN (n.keys.getD k []) x y=⟨x.keys++(n.keys.getD k []::y.keys),[],x.kids++y.kids⟩:=by unfold joinN;rw [if_neg hxk]
        rw [ej] at hokm ⊢
        have hend:∀ {u:World} {b:Nat} {B1 B3:Option Addr} {d1 d3:Nat},Ext w u->Blk u b [.slice B1 (x.keys.length+(1+y.keys.length)) d1,.slice none 0 0,.slice B3 (x.kids.length+y.kids.length) d3]->w.heap.size<=b->(∀ k,ownB B1 k->w.heap.size<=k)->Own u 1 B1 (x.keys.length+(1+y.keys.length)) d1 (xk++.slice B (n.keys.getD k []).length cb::yk)->(∀ k,ownB B3 k->w.heap.size<=k)->Own u 1 B3 (x.kids.length+y.kids.length) d3 (xi++yi) ->
            Ext w u/\∃ b' B1 d1 B2 d2 B3 d3,(some ⟨b,0,none⟩:Option Addr)=some ⟨b',0,none⟩/\NodAt (Om (Ra R w u) M) u b' ⟨x.keys++(n.keys.getD k []::y.keys),[],x.kids++y.kids⟩ B1 d1 B2 d2 B3 d3:=by
          intro u b B1 B3 d1 d3 eu hb hge g1 o1 g3 o3
          have el:(x.keys++(n.keys.getD k []::y.keys)).length=x.keys.length+(1+y.keys.length):=by simp;omega
          have ei:(x.kids++y.kids).length=x.kids.length+y.kids.length:=by simp
          refine ⟨eu,b,B1,d1,none,0,B3,d3,rfl,?_⟩
          refine node_of (n:=⟨x.keys++(n.keys.getD k []::y.keys),[],x.kids++y.kids⟩) hM eu (by rw [el,ei];exact hb) hge ⟨g1,_,by rw [el];exact o1,fxk.append (.cons ⟨B,cb,rfl,hcb,hB⟩ fyk)⟩ (Part.nil _ _ _ _) ⟨g3,_,by rw [ei];exact o3,fxi.append fyi⟩ (fun e=>?_) hokm
          exact absurd (List.append_eq_nil_iff.1 e).1 hxk
        have st:Sls w u.drew [none,none,none,none,none]:=Sls.start eud 5
        have hS:=st.ext
        obtain ⟨lc1,lc2,lc3⟩:x.keys.length<=p1/\x.vals.length<=p2/\x.kids.length<=p3:=⟨hNx.l1,hNx.l2,hNx.l3⟩
        obtain ⟨ld1,ld2,ld3⟩:y.keys.length<=q1/\y.vals.length<=q2/\y.kids.length<=q3:=⟨hNy.l1,hNy.l2,hNy.l3⟩
        refine ⟨_,rfl,fun v=>Ext w v,eud,_,_,_,fun u e=>(hNx.blk.ext e).cell rfl,_,rfl,_,_,_,fun u e=>(hNn.blk.ext e).cell rfl,adn,hN1,⟨by omega,by omega⟩,B,(n.keys.getD k []).length,cb,fun u e=>Ext.cell e hcs,_,rfl,_,_,_,fun u e=>(hNy.blk.ext e).cell rfl,_,rfl,_,_,_,fun u e=>(hNx.blk.ext e).cell rfl,_,rfl,_,_,_,fun u e=>(hNy.blk.ext e).cell rfl,?_⟩
        have todoK:=True.intro
        repeat' (first
          | with_reducible refine ⟨hS,?_⟩
          | with_reducible refine And.intro ?_ ?_
          | (intro gx ux fx
             replace st:=st.alloc (vs:=[.slice B (n.keys.getD k []).length cb]) fx 0
             replace hS:=st.ext)
          | (intro gx ux fx
             replace st:=st.alloc (vs:=[.slice X1 x.keys.length p1,.slice (some ⟨_,0,none⟩) 1 1,.slice Y1 y.keys.length q1]) fx 1
             replace hS:=st.ext)
          | (intro gx ux fx
             replace st:=st.alloc (vs:=[.slice X3 x.kids.length p3,.slice Y3 y.kids.length q3]) fx 2
             replace hS:=st.ext)
          | (clear todoK
             refine (catS3 (st.blkAt 1 rfl).1 (Cells.ext cxk st.ext) oxk kxk lc1 (st.blkAt 0 rfl).1 rfl (Cells.ext cyk st.ext) oyk kyk ld1 (by omega)).mono ?_
             rintro _ ux ⟨kA,kcc,rfl,ko,e1,kn⟩
             refine ⟨_,_,_,rfl,?_⟩
             replace st:=st.new e1 ko kn 3
             replace hS:=st.ext)
          | (refine (catI2 (st.blkAt 2 rfl).1 (Cells.ext cxi st.ext) oxi kxi lc3 (Cells.ext cyi st.ext) oyi kyi ld3 (by omega)).mono ?_
             rintro _ ux ⟨vA,vcc,rfl,vo,e1,vn⟩
             refine ⟨_,_,_,rfl,?_⟩
             replace st:=st.new e1 vo vn 4
             replace hS:=st.ext
             refine ⟨hS,?_⟩
             intro gx uy fx
             replace st:=st.step fx.ext
             have hge:=Nat.le_trans hS.size fx.ge
             replace hS:=st.ext
             exact ⟨hS,hend st.ext fx.blk hge (st.ownAt 3 rfl).2 (st.ownAt 3 rfl).1 (st.ownAt 4 rfl).2 (st.ownAt 4 rfl).1⟩))
      · have hxk:x.kids=[]:=hNx.nil.1 (by cases X3<;>simp_all)
        obtain ⟨b,B1,d1,B2,d2,rfl,hN⟩:=hz hxk
        exact ⟨eu,b,B1,d1,B2,d2,none,0,rfl,hN⟩
  · -- the lists of both
    obtain ⟨xk,cxk,fxk,kxk,oxk⟩:=cells_of oneBs hNx.keys
    obtain ⟨yk,cyk,fyk,kyk,oyk⟩:=cells_of oneBs hNy.keys
    obtain ⟨xv,cxv,fxv,kxv,oxv⟩:=cells_of oneBs hNx.vals
    obtain ⟨yv,cyv,fyv,kyv,oyv⟩:=cells_of oneBs hNy.vals
    have ed2:Ext w w.drew.drew:=ed.ext (Fr.drew NoB _)
    have hend:∀ {u:World} {b:Nat} {B1 B2:Option Addr} {d1 d2:Nat},Ext w u->Blk u b [.slice B1 (x.keys.length+y.keys.length) d1,.slice B2 (x.vals.length+y.vals.length) d2,.slice none 0 0]->w.heap.size<=b->(∀ k,ownB B1 k->w.heap.size<=k)->Own u 1 B1 (x.keys.length+y.keys.length) d1 (xk++yk)->(∀ k,ownB B2 k->w.heap.size<=k)->Own u 1 B2 (x.vals.length+y.vals.length) d2 (xv++yv) ->
        (fun (z:Option Addr) u=>Ext w u/\(x.kids=[]->∃ b B1 d1 B2 d2,z=some ⟨b,0,none⟩/\NodAt (Om (Ra R w u) M) u b (joinN (n.keys.getD k []) x y) B1 d1 B2 d2 none 0)) (some ⟨b,0,none⟩) u:=by
      intro u b B1 B2 d1 d2 eu hb hge g1 o1 g2 o2
      refine ⟨eu,fun hxk=>⟨b,B1,d1,B2,d2,rfl,?_⟩⟩
      have ej:joinN (n.keys.getD k []) x y=⟨x.keys++y.keys,x.vals++y.vals,[]⟩:=by unfold joinN;rw [if_pos hxk]
      rw [ej] at hokm ⊢
      refine node_of (n:=⟨x.keys++y.keys,x.vals++y.vals,[]⟩) hM eu (by simpa using hb) hge ⟨g1,xk++yk,by simpa using o1,fxk.append fyk⟩ ⟨g2,xv++yv,by simpa using o2,fxv.append fyv⟩ (Part.nil _ _ _ _) (fun _=>rfl) hokm
    have st:Sls w w.drew.drew [none,none,none,none]:=Sls.start ed2 4
    have hS:=st.ext
    have lex:∀ {n:Nod} {b:Nat} {A1 A2 A3:Option Addr} {c1 c2 c3:Nat},NodAt (Om R M) w b n A1 c1 A2 c2 A3 c3->n.keys.length<=c1/\n.vals.length<=c2/\n.kids.length<=c3:=fun h=>⟨h.l1,h.l2,h.l3⟩
    obtain ⟨lc1,lc2,lc3⟩:=lex hNx
    obtain ⟨ld1,ld2,ld3⟩:=lex hNy
    refine ⟨_,rfl,fun v=>Ext w v,ed2,_,_,_,fun u e=>(hNx.blk.ext e).cell rfl,_,rfl,_,_,_,fun u e=>(hNy.blk.ext e).cell rfl,_,rfl,_,_,_,fun u e=>(hNx.blk.ext e).cell rfl,_,rfl,_,_,_,fun u e=>(hNy.blk.ext e).cell rfl,?_⟩
    have todoK:=True.intro
    repeat' (first
      | with_reducible refine ⟨hS,?_⟩
      | with_reducible refine And.intro ?_ ?_
      | (intro gx ux fx
         replace st:=st.alloc (vs:=[.slice X1 x.keys.length p1,.slice Y1 y.keys.length q1]) fx 0
         replace hS:=st.ext)
      | (intro gx ux fx
         replace st:=st.alloc (vs:=[.slice X2 x.vals.length p2,.slice Y2 y.vals.length q2]) fx 1
         replace hS:=st.ext)
      | (clear todoK
         refine (catS2 (st.blkAt 0 rfl).1 (Cells.ext cxk st.ext) oxk kxk lc1 (Cells.ext cyk st.ext) oyk kyk ld1 (by omega)).mono ?_
         rintro _ ux ⟨kA,kcc,rfl,ko,e1,kn⟩
         refine ⟨_,_,_,rfl,?_⟩
         replace st:=st.new e1 ko kn 2
         replace hS:=st.ext)
      | (refine (catS2 (st.blkAt 1 rfl).1 (Cells.ext cxv st.ext) oxv kxv lc2 (Cells.ext cyv st.ext) oyv kyv ld2 (by omega)).mono ?_
         rintro _ ux ⟨vA,vcc,rfl,vo,e1,vn⟩
         refine ⟨_,_,_,rfl,?_⟩
         replace st:=st.new e1 vo vn 3
         replace hS:=st.ext
         intro gx uy fx
         replace st:=st.step fx.ext
         exact hend st.ext fx.blk (Nat.le_trans hS.size fx.ge) (st.ownAt 2 rfl).2 (st.ownAt 2 rfl).1 (st.ownAt 3 rfl).2 (st.ownAt 3 rfl).1))
end Go.Proofs.YthfagbfllheneaaGreat
set_option linter.unusedVariables false
set_option linter.unusedSimpArgs false
namespace Go.Proofs.YthfagbfllheneaaGreat
open Go Go.Sx T4
theorem evenLen (A:Ar) (i k:Nat):(evenF A i k).at_.length=A.at_.length:=by
  unfold evenF
  dsimp only
  split
  · simp [setN,drop]
  · split<;>simp [setN]
theorem cutLen:∀ (h:Nat) (A:Ar) (i:Nat) (key:Key),(cutF h A i key).at_.length=A.at_.length
  | 0,A,i,key=>by simp [cutF]
  | h+1,A,i,key=>by
    rw [cutF]
    dsimp only
    split
    · simp [setN]
    · have ih:=cutLen h A (kid (nodeAt A i) (bel (nodeAt A i).keys key)) key
      split
      · rw [evenLen];exact ih
      · exact ih
theorem twin_of {nd:Nat->Option Nod} {fan:Nat} {A:Ar} (h64:fan<=64) {H:Nat} {mn mn':Nat×Nat} {j j':Nat} {lo hi lo' hi':Option Key} {es es':Es} {ps ps':List Nat} {x y:Nod} (h1:Tree nd fan H mn j lo hi es ps) (h2:Tree nd fan H mn' j' lo' hi' es' ps') (hx:nd j=some x) (hy:nd j'=some y):Twin A x y:=by
  cases H with
  | zero=>exact h1.elim
  | succ H =>
    obtain ⟨x',g1,g2,g3⟩:=h1
    obtain ⟨y',k1,k2,k3⟩:=h2
    rw [hx] at g1;rw [hy] at k1
    cases g1;cases k1
    refine ⟨?_,by omega,by omega⟩
    rcases g3 with ⟨e0,_,a1,a2,a3,_⟩|⟨e0,_,a1,ps1,_,a2⟩
    · rcases k3 with ⟨_,_,b1,b2,b3,_⟩|⟨e1,_⟩
      · exact .inl ⟨a1,b1,by rw [a2,a3];simp [keysE,valsE],by rw [b2,b3];simp [keysE,valsE]⟩
      · omega
    · rcases k3 with ⟨e1,_⟩|⟨_,_,b1,ps2,_,b2⟩
      · omega
      · exact .inr ⟨a2.ne,b2.ne,a1,b1,a2.len,b2.len⟩
theorem tree_some {nd:Nat->Option Nod} {fan H:Nat} {mn:Nat×Nat} {j:Nat} {lo hi:Option Key} {es:Es} {ps:List Nat} (h:Tree nd fan H mn j lo hi es ps):∃ x,nd j=some x:=by
  cases H with
  | zero=>exact h.elim
  | succ H=>obtain ⟨x,h1,_⟩:=h;exact ⟨x,h1⟩
theorem even_pre {H:Nat} {A:Ar} {Q:List Nat} {i:Nat} {mn:Nat×Nat} {lo hi:Option Key} {es:Es} {ps:List Nat} {key:Key} {n:Nod} (ht:Tree A.nd A.fan (H+1) mn i lo hi es ps) (hn:A.nd i=some n) (hne:n.kids≠[]) (hA:T4.Acc A Q ps) (hfan:4<=A.fan) (h64:A.fan<=64) (hmn:2<=mn.2) (hb:Bnd lo hi key) (hin:inE key es=true) :
    ∃ lo' hi' e Q' p p',Tree A.nd A.fan H (A.fan / 2,A.fan / 2) (kid n (bel n.keys key)) lo' hi' e p/\T4.Acc A Q' p/\Bnd lo' hi' key/\inE key e=true/\2<=A.fan / 2/\Up n.keys/\bel n.keys key<n.kids.length/\n.kids.length=n.keys.length+1/\Mv A (cutF H A (kid n (bel n.keys key)) key) p p'/\T4.Acc (cutF H A (kid n (bel n.keys key)) key) Q' p' /\
      (cutF H A (kid n (bel n.keys key)) key).nd i=some n/\(∃ x,(cutF H A (kid n (bel n.keys key)) key).nd (kid n (bel n.keys key))=some x) /\
      max (bel n.keys key) 1-1+1<n.kids.length/\∃ x y,(cutF H A (kid n (bel n.keys key)) key).nd (kid n (max (bel n.keys key) 1-1))=some x/\(cutF H A (kid n (bel n.keys key)) key).nd (kid n (max (bel n.keys key) 1-1+1))=some y/\Twin (cutF H A (kid n (bel n.keys key)) key) x y:=by
  have hup:Up n.keys:=by
    obtain ⟨n',hn',_,hc⟩:=tree_node ht
    rw [hn] at hn';cases hn'
    rcases hc with ⟨_,hk,_⟩|⟨_,_,_,_,_,hu,_⟩
    · exact absurd hk hne
    · exact hu
  obtain ⟨n',hn',hsz,hc⟩:=ht
  rw [hn] at hn';cases hn'
  rcases hc with ⟨_,_,hk,_⟩|⟨h0,hmin,hv,ps',rfl,hk⟩
  · exact absurd hk hne
  have hkl:=hk.len
  have hsz':n.size=n.kids.length:=by simp [Nod.size,hne]
  obtain ⟨ks1,ks2,is1,is2,i',lo',hi',es1,es2,e,ps1,ps2,p,f1,f2,f3,f4,f5,f6,f7,rfl,rfl,f10,f11,f12,f13,f14⟩:=hk.find Tree.inB hb
  have hkid:kid n (bel n.keys key)=i':=by rw [kid,f2,<- f4];simp [List.getD]
  have hA1:T4.Acc A (Q++(i::(ps1++ps2))) p:=hA.perm fun z=>by simp [List.count_cons,List.count_append]<;>omega
  have hin2:inE key e=true:=by unfold inE at hin ⊢;rw [getE_low f11,getE_high f12] at hin;exact hin
  obtain ⟨p',m,htc⟩:=cut_ok H f6 hA1 hfan (by show 2<=A.fan / 2;omega) f10 hin2
  rw [hkid]
  generalize hq:cutF H A i' key=A' at *
  have hL:T4.Left (Reg A'.nd A.fan H) lo ks1 is1 lo' es1 ps1:=f5.mono fun htr hs=>htr.keep fun j hj=>m.nds hA1 j (by simp [hs j hj])
  have hR:T4.Right (Reg A'.nd A.fan H) hi' hi ks2 is2 es2 ps2:=f7.mono fun htr hs=>htr.keep fun j hj=>m.nds hA1 j (by simp [hs j hj])
  have hni:A'.nd i=some n:=(m.nds hA1 i (by simp)).trans hn
  have hmn':2<=mn.2:=hmn
  have hkn:2<=n.kids.length:=by have:mn.2<=n.size:=hmin;omega
  obtain ⟨x,hx⟩:=tree_some htc
  have hkids:n.kids.length=is1.length+1+is2.length:=by rw [f2];simp;omega
  refine ⟨lo',hi',e,_,p,p',hkid▸f6,hA1,f10,hin2,by omega,hup,by omega,hkl,m,(m.acc _ hA1).1,hni,⟨x,hx⟩,by omega,?_⟩
  by_cases hz:is1=[]
  · subst hz
    have hk0:bel n.keys key=0:=by simpa using f4.symm
    have hne2:is2≠[]:=by intro e;rw [f2,e] at hkn;simp at hkn
    obtain ⟨s,ksR,b,isR,hiR,eb,esR,pb,psR,g1,g2,g3,g4,g5,g6,g7,g8⟩:=hR.uncons hne2
    obtain ⟨y,hy⟩:=tree_some g4
    have e1:kid n (max (bel n.keys key) 1-1)=i':=by rw [hk0,kid,f2];rfl
    have e2:kid n (max (bel n.keys key) 1-1+1)=b:=by rw [hk0,kid,f2,g3];rfl
    rw [e1,e2]
    exact ⟨x,y,hx,hy,twin_of h64 htc g4 hx hy⟩
  · obtain ⟨ksL,isL,loL,esL,psL,s,a,ea,pa,g1,g2,g3,g4,g5,g6,g7,g8,g9⟩:=hL.unsnoc hz
    obtain ⟨y,hy⟩:=tree_some g5
    have hb1:bel n.keys key=isL.length+1:=by rw [<- f4,g2];simp
    have e1:kid n (max (bel n.keys key) 1-1)=a:=by
      rw [hb1,show max (isL.length+1) 1-1=isL.length by omega,kid,f2,g2];simp [List.getD]
    have e2:kid n (max (bel n.keys key) 1-1+1)=i':=by
      rw [hb1,show max (isL.length+1) 1-1+1=(isL++[a]).length by simp,kid,f2,g2];simp [List.getD]
    rw [e1,e2]
    exact ⟨y,x,hy,hx,twin_of h64 g5 htc hy hx⟩
set_option maxRecDepth 100000 in
set_option maxHeartbeats 1000000 in
theorem cut_spec:∀ (H:Nat) {R M:Nat->Prop} {w:World} {g:Nat} {A:Ar} {Q:List Nat} {mn:Nat×Nat} {i:Nat} {lo hi:Option Key} {es:Es} {ps:List Nat} {key:Key} {KA:Option Addr} {kc:Nat} {Ω:Nat->Prop},
    Ar1 R M w g A->Tree A.nd A.fan H mn i lo hi es ps->T4.Acc A Q ps->4<=A.fan->A.fan<=64->2<=mn.2->Bnd lo hi key->inE key es=true->A.at_.length<=131072->Imm KB Ω w KA key ->
    CallsV Tryz.prog 93 #[.pointer (some ⟨g,0,none⟩),iv i,.slice KA key.length kc] w fun r w'=>r=.tuple #[]/\∃ R' M',Ar1 R' M' w' g (cutF H A i key)/\Chg R M w R' M' w':=by
  intro H
  induction H with
  | zero=>intro R M w g A Q mn i lo hi es ps key KA kc Ω h ht;exact ht.elim
  | succ H ih =>
  intro R M w g A Q mn i lo hi es ps key KA kc Ω h ht hQ hf1 hf2 hmn hb hin hat hKA
  obtain ⟨n,hn,hsz,hcs⟩:=tree_node ht
  have hna:nodeAt A i=n:=by simp [nodeAt,hn]
  obtain ⟨hF,hfl⟩:=Acc.free hQ
  have hM:=h.mlt
  refine tree_Arena_cut.calls okay ?_
  unfold tree_Arena_cut.W
  have h':=h
  obtain ⟨At,ac,Fa,fc,mb,ha⟩:=h'
  obtain ⟨hil,ga,b,A1,c1,A2,c2,A3,c3,rfl,hc,hN⟩:=ha.node hn
  have hok:=hN.okn
  have hnk:=hok.k
  have hnv:=hok.v
  have hnc:=hok.c
  refine ⟨_,rfl,_,_,_,ha.blk.cell rfl,_,rfl,⟨by omega,by omega⟩,_,by rw [add_new,Nat.zero_add,Int.toNat_natCast,Nat.mul_one];exact hc,_,rfl,_,_,_,hN.blk.cell rfl,br (fun hnn=>?_) (fun hnn=>?_)⟩
  · -- a leaf
    have hk:n.kids=[]:=hN.nil.1 (by cases A3<;>simp_all)
    rcases hcs with ⟨h10,_,hkeys,hvals,hu,hv⟩|⟨_,_,_,hk',_⟩
    rotate_left
    · exact absurd hk hk'
    obtain rfl:H=0:=by omega
    have hu':Up n.keys:=by rw [hkeys];exact hu
    have hh:has n.keys key=true:=by rw [hkeys,<- inE_has];exact hin
    have hpl:pos n.keys key<n.keys.length:=(List.getElem?_eq_some_iff.1 (of_decide_eq_true hh)).1
    have eC:cutF (0+1) A i key=setN A i ⟨n.keys.eraseIdx (pos n.keys key),n.vals.eraseIdx (pos n.keys key),[]⟩:=by rw [cutF];dsimp only;rw [hna,if_pos hk];rfl
    rw [eC]
    have e1:IntKind.i64.wrap ((pos n.keys key:Int)+1)=(pos n.keys key:Int)+1:=wi _ (by omega) (by omega)
    refine ⟨_,rfl,_,_,_,hN.blk.cell rfl,(Search_spec hN.keys hKA hu' (by omega) c1 kc).same ⟨_,_,rfl,?_⟩⟩
    rw [e1]
    obtain ⟨nk,cnk,fnk,knk,onk⟩:=cells_of oneBs hN.keys
    obtain ⟨nv,cnv,fnv,knv,onv⟩:=cells_of oneBs hN.vals
    have ed:Ext w w.drew:=Fr.drew NoB w
    have st:Sls w w.drew [none,none]:=Sls.start ed 2
    refine ⟨_,rfl,fun v=>Ext w v,ed,_,_,_,fun v e=>(ha.blk.ext e).cell rfl,_,rfl,_,_,_,fun v e=>(hN.blk.ext e).cell rfl,_,rfl,_,_,_,fun v e=>(hN.blk.ext e).cell rfl,?_⟩
    refine (cloneS_raw (m:=n.keys.length) (Cells.ext cnk ed) onk (by omega) knk).mono ?_
    rintro _ v1 ⟨kA,kcc,rfl,ko,ev1,kn⟩
    replace st:=st.new ev1 ko kn 0
    refine ⟨_,_,_,rfl,st.ext,?_⟩
    refine (deleteS_raw (st.ownAt 0 rfl).1 onk (i:=pos n.keys key) hpl (by omega) rfl).mono ?_
    rintro _ v2 ⟨rfl,ko2,fv2⟩
    replace st:=st.put fv2 0 (fun k hk=>⟨_,rfl,hk⟩) (.o kA (n.keys.length-1) kcc (nk.eraseIdx (pos n.keys key))) ko2 (fun k hk=>.inl ⟨_,rfl,hk⟩)
    refine ⟨_,_,_,rfl,st.ext,?_⟩
    refine (cloneS_raw (m:=n.vals.length) (Cells.ext cnv st.ext) onv (by omega) knv).mono ?_
    rintro _ v3 ⟨iA,icc,rfl,io,ev3,inw⟩
    replace st:=st.new ev3 io inw 1
    refine ⟨_,_,_,rfl,st.ext,?_⟩
    refine (deleteS_raw (st.ownAt 1 rfl).1 onv (i:=pos n.keys key) (by omega) (by omega) rfl).mono ?_
    rintro _ v4 ⟨rfl,io2,fv4⟩
    replace st:=st.put fv4 1 (fun k hk=>⟨_,rfl,hk⟩) (.o iA (n.vals.length-1) icc (nv.eraseIdx (pos n.keys key))) io2 (fun k hk=>.inl ⟨_,rfl,hk⟩)
    refine ⟨_,_,_,rfl,st.ext,?_⟩
    intro gx v5 fx
    have hge:=Nat.le_trans st.ext.size fx.ge
    replace st:=st.step fx.ext
    have lk:(n.keys.eraseIdx (pos n.keys key)).length=n.keys.length-1:=List.length_eraseIdx_of_lt hpl
    have lv:(n.vals.eraseIdx (pos n.keys key)).length=n.vals.length-1:=List.length_eraseIdx_of_lt (by omega)
    have hok5:NOk ⟨n.keys.eraseIdx (pos n.keys key),n.vals.eraseIdx (pos n.keys key),[]⟩:=⟨by dsimp only;omega,by dsimp only;omega,by simp,fun x hx=>hok.kl x (List.mem_of_mem_eraseIdx hx),fun x hx=>hok.vl x (List.mem_of_mem_eraseIdx hx)⟩
    have hN5:=node_of (n:=⟨n.keys.eraseIdx (pos n.keys key),n.vals.eraseIdx (pos n.keys key),[]⟩) hM st.ext (by rw [lk,lv];exact fx.blk) hge ⟨(st.ownAt 0 rfl).2,_,by rw [lk];exact (st.ownAt 0 rfl).1,fnk.erase _⟩ ⟨(st.ownAt 1 rfl).2,_,by rw [lv];exact (st.ownAt 1 rfl).1,fnv.erase _⟩ (Part.nil _ _ _ _) (fun _=>rfl) hok5
    obtain ⟨ga5,hA5,s5,s6⟩:=ha.setNew st.ext hN5 (i:=i) hil
    cases hA5
    refine ⟨st.ext,_,rfl,⟨by omega,by omega⟩,by rw [Int.toNat_natCast];exact s5,fun v6 hv6=>?_⟩
    rw [Int.toNat_natCast] at hv6
    obtain ⟨h6,c6⟩:=s6 v6 hv6
    exact ⟨rfl,_,_,⟨_,_,_,_,_,h6⟩,c6⟩
  · -- an inner node
    have hk:n.kids≠[]:=fun e=>by rw [hN.nil.2 e] at hnn;cases hnn
    obtain ⟨lo',hi',e,Q',p,p',t1,t2,t3,t4,t5,hup,hbl,hlen,m,hacc,hni,⟨xk,hxk⟩,hkk,x,y,hx,hy,htw⟩:=even_pre ht hn hk hQ hf1 hf2 hmn hb hin
    have eC:cutF (H+1) A i key=(if (nodeAt (cutF H A (kid n (bel n.keys key)) key) (kid n (bel n.keys key))).size<(cutF H A (kid n (bel n.keys key)) key).fan / 2 then evenF (cutF H A (kid n (bel n.keys key)) key) i (max (bel n.keys key) 1-1) else cutF H A (kid n (bel n.keys key)) key):=by
      rw [cutF];dsimp only;rw [hna,if_neg hk]
    have hcl:=cutLen H A (kid n (bel n.keys key)) key
    refine (below_spec hN hup hKA kc).same ⟨_,rfl,?_⟩
    obtain ⟨ad,hA,hkc'⟩:=hN.kidC hbl
    refine ⟨_,rfl,_,_,_,hN.blk.cell rfl,ad,hA,⟨by omega,by omega⟩,_,by rw [Int.toNat_natCast];exact hkc',?_⟩
    refine (ih h t1 t2 hf1 hf2 t5 t3 t4 hat hKA).mono ?_
    rintro _ w1 ⟨rfl,R1,M1,h1,ch1⟩
    rw [eC]
    generalize hq:cutF H A (kid n (bel n.keys key)) key=A' at *
    have hM1:=h1.mlt
    have hN1:=hN.keep ch1.step
    have h1':=h1
    obtain ⟨At1,ac1,Fa1,fc1,mb1,ha1⟩:=h1'
    obtain ⟨hkl,ga1,bx,X1,p1,X2,p2,X3,p3,hAt1,hcx,hNx⟩:=ha1.node hxk
    have hnx:nodeAt A' (kid n (bel n.keys key))=xk:=by simp [nodeAt,hxk]
    rw [hnx]
    obtain ⟨ad1,hA1,hkc1⟩:=hN1.kidC hbl
    have ed:Ext w1 w1.drew:=Fr.drew NoB w1
    have hbk:bel n.keys key<=n.keys.length:=bel_le _ _
    have hfanA:=m.fan
    refine ⟨rfl,_,rfl,fun v=>Ext w1 v,ed,_,_,_,fun v e=>(ha1.blk.ext e).cell rfl,_,rfl,_,_,_,fun v e=>(hN1.blk.ext e).cell rfl,ad1,hA1,⟨by omega,by omega⟩,_,fun v e=>by rw [Int.toNat_natCast];exact Ext.cell e hkc1,_,hAt1,⟨by omega,by omega⟩,_,fun v e=>by rw [Int.toNat_natCast,add_new,Nat.zero_add,Nat.mul_one];exact Ext.cell e hcx,_,rfl,_,fun v e=>(ha1.blk.ext e).cell rfl,by decide,?_⟩
    refine (size_spec (hNx.keep (ed.step (Om R1 M1)))).same ⟨_,rfl,ed,?_⟩
    have e2:IntKind.i64.wrap (Int.tdiv ((A'.fan:Nat):Int) 2)=((A'.fan / 2:Nat):Int):=by
      rw [Int.tdiv_eq_ediv_of_nonneg (by omega),wi _ (by omega) (by omega)];omega
    rw [e2]
    refine brd (fun hlt=>?_) (fun hge=>?_)
    · have hcc:xk.size<A'.fan / 2:=by omega
      simp only [if_pos hcc]
      have e3:IntKind.i64.wrap ((if (1:Int) > ((bel n.keys key:Nat):Int) then 1 else ((bel n.keys key:Nat):Int))-1)=((max (bel n.keys key) 1-1:Nat):Int):=by
        split
        · rw [wi _ (by omega) (by omega)];omega
        · rw [wi _ (by omega) (by omega)];omega
      rw [e3]
      obtain ⟨hF',hfl'⟩:=Acc.free hacc
      refine (even_spec (h1.ext ed) (by omega) (by omega) (by omega) hni hx hy hkk hlen htw).mono ?_
      rintro _ w2 ⟨rfl,R2,M2,h2,ch2⟩
      exact ⟨rfl,trivial,R2,M2,h2,ch1.trans ((Chg.ext ed).trans ch2)⟩
    · have hcc:¬ xk.size<A'.fan / 2:=by omega
      simp only [if_neg hcc]
      exact ⟨trivial,R1,M1,h1.ext ed,ch1.trans (Chg.ext ed)⟩
theorem Delete_none {R M:Nat->Prop} {w:World} {g:Nat} {A:Ar} (h:Ar1 R M w g A) (hf:0<A.fan) {root:Int} (hr:getT A.trees root=none) (KA:Option Addr) (kn kc:Nat) :
    CallsV Tryz.prog 65 #[.pointer (some ⟨g,0,none⟩),.int .i64 root,.slice KA kn kc] w fun r w'=>r=.tuple #[.bool false,.int .i64 41]/\w'=w:=by
  refine tree_Arena_Delete.calls okay ?_
  unfold tree_Arena_Delete.W
  refine (top_spec h hf root).mono ?_
  rintro _ _ ⟨rfl,rfl⟩
  rw [hr]
  exact ⟨_,_,rfl,brn (fun _=>⟨rfl,rfl⟩) fun h=>by cases h⟩
set_option maxRecDepth 100000 in
set_option maxHeartbeats 1000000 in
theorem Delete_spec {R M:Nat->Prop} {w:World} {g:Nat} {A:Ar} (h:Ar1 R M w g A) {root:Int} {H i:Nat} {es:Es} {ps Q:List Nat} (hr:getT A.trees root=some i) (T:TreeAt A H i es ps Q) {key:Key} {Ω:Nat->Prop} {KA:Option Addr} (hKA:Imm KB Ω w KA key) (kc:Nat) :
    CallsV Tryz.prog 65 #[.pointer (some ⟨g,0,none⟩),.int .i64 root,.slice KA key.length kc] w fun r w'=>r=.tuple #[.bool (inE key es),.int .i64 0]/\∃ R' M',Ar1 R' M' w' g (if inE key es then delTop H A i key else A)/\Chg R M w R' M' w':=by
  have hHl:=T.hl
  have hlen:=T.len
  obtain ⟨hF,hfl⟩:=Acc.free T.acc
  refine tree_Arena_Delete.calls okay ?_
  unfold tree_Arena_Delete.W
  refine (top_spec h (by have:=T.f1;omega) root).mono ?_
  rintro _ w0 ⟨rfl,hw0⟩
  obtain rfl:w=w0:=hw0.symm
  rw [hr]
  refine ⟨_,_,rfl,brn (fun h=>absurd rfl h) fun _=>?_⟩
  refine (leaf_spec h T.tree (Bnd.all key) (by omega) hKA kc).mono ?_
  rintro _ w1 ⟨b,A1,c1,A2,c2,A3,c3,W,wc,rfl,hN,hW,e1,hWn⟩
  obtain ⟨es1,e,es2,g1,g2,g3,g4,g5,g6,g7⟩:=leaf_ok H T.tree (Bnd.all key)
  have hk:(leafF H A i key).1.keys=keysE e:=by rw [g1]
  have hin:has (leafF H A i key).1.keys key=inE key es:=by rw [hk,g2,inE_mid g4 g5,inE_has]
  have hkl':=hN.okn.k
  refine ⟨_,_,_,_,rfl,_,rfl,_,_,_,hN.blk.cell rfl,?_⟩
  refine (Search_spec hN.keys (hKA.ext KB_pos e1) (by rw [hk];exact g3) (by omega) c1 kc).same ⟨_,_,rfl,?_⟩
  rw [hin]
  cases hie:inE key es with
  | false=>exact ⟨rfl,R,M,h.ext e1,Chg.ext e1⟩
  | true =>
    refine brnb (fun h=>by cases h) fun _=>?_
    simp only [if_true]
    refine (cut_spec H (h.ext e1) T.tree T.acc T.f1 T.f2 (by decide) (Bnd.all key) hie (by omega) (hKA.ext KB_pos e1)).mono ?_
    rintro _ w2 ⟨rfl,R2,M2,h2,c2⟩
    obtain ⟨ps',m,tB⟩:=cut_ok H T.tree T.acc T.f1 (by decide) (Bnd.all key) hie
    have accB:=(m.acc _ T.acc).1
    have hcl:=cutLen H A i key
    have hD:delTop H A i key=if (nodeAt (cutF H A i key) i).kids.length=1 then drop (setN (cutF H A i key) i (nodeAt (cutF H A i key) (kid (nodeAt (cutF H A i key) i) 0))) (kid (nodeAt (cutF H A i key) i) 0) else cutF H A i key:=rfl
    rw [hD]
    generalize cutF H A i key=B at *
    obtain ⟨hFB,hflB⟩:=Acc.free accB
    obtain ⟨n,hn,hsz,hcs⟩:=tree_node tB
    have hna:nodeAt B i=n:=by simp [nodeAt,hn]
    rw [hna]
    obtain ⟨At,ac,Fa,fc,mb,ha⟩:=h2
    obtain ⟨hil,ga,bn,N1,m1,N2,m2,N3,m3,rfl,hc,hNn⟩:=ha.node hn
    refine ⟨rfl,_,rfl,_,_,_,ha.blk.cell rfl,_,rfl,⟨by omega,by omega⟩,_,by rw [add_new,Nat.zero_add,Int.toNat_natCast,Nat.mul_one];exact hc,_,rfl,_,_,_,hNn.blk.cell rfl,brd (fun h1=>?_) (fun h1=>?_)⟩
    · have hk1:n.kids.length=1:=by omega
      simp only [if_pos hk1]
      rcases hcs with ⟨_,hk0,_⟩|⟨k',hH,h0,hkne,_,_,_,hall,_⟩
      · rw [hk0] at hk1;cases hk1
      obtain ⟨lo',hi',es',ps'',tj⟩:=hall 0 (by omega)
      obtain ⟨y,hy⟩:=tree_some tj
      have hny:nodeAt B (kid n 0)=y:=by simp [nodeAt,hy]
      rw [hny]
      obtain ⟨hyl,ga',by_,Y1,q1,Y2,q2,Y3,q3,hAt',hcy,hNy⟩:=ha.node hy
      cases hAt'
      obtain ⟨ad,hN3,hk0⟩:=hNn.kidC (c:=0) (by omega)
      have ed:Ext w2 w2.drew:=Fr.drew NoB w2
      obtain ⟨ga2,hA2,s1,s2⟩:=(ha.ext ed).setNode (i:=i) hil (hNy.keep (ed.step (Om R2 M2)))
      cases hA2
      refine ⟨_,rfl,fun v=>Ext w2 v,ed,_,_,_,fun v e=>(ha.blk.ext e).cell rfl,_,rfl,_,_,_,fun v e=>(ha.blk.ext e).cell rfl,_,rfl,_,_,_,fun v e=>(hNn.blk.ext e).cell rfl,ad,hN3,⟨by omega,by omega⟩,_,fun v e=>Ext.cell e hk0,_,rfl,⟨by omega,by omega⟩,_,fun v e=>by rw [Int.toNat_natCast,add_new,Nat.zero_add,Nat.mul_one];exact Ext.cell e hcy,_,rfl,⟨by omega,by omega⟩,by rw [Int.toNat_natCast];exact s1,fun w3 hw3=>?_⟩
      rw [Int.toNat_natCast] at hw3
      obtain ⟨h3,c3⟩:=s2 w3 hw3
      have c3':=(Chg.ext ed).trans c3
      have hNn3:=hNn.keep c3'.step
      obtain ⟨ad3,hN33,hk03⟩:=hNn3.kidC (c:=0) (by omega)
      refine ⟨_,rfl,_,_,_,hNn3.blk.cell rfl,ad3,hN33,⟨by omega,by omega⟩,_,hk03,?_⟩
      refine (drop_spec (i:=kid n 0) ⟨_,_,_,_,_,h3⟩ (by simp [setN];omega) (by simpa [setN] using hyl)).mono ?_
      rintro _ w4 ⟨rfl,R4,M4,h4,c4⟩
      exact ⟨rfl,trivial,R4,M4,h4,(Chg.ext e1).trans (c2.trans (c3'.trans c4))⟩
    · have hk1:¬ n.kids.length=1:=by omega
      simp only [if_neg hk1]
      exact ⟨trivial,R2,M2,⟨_,_,_,_,_,ha⟩,(Chg.ext e1).trans c2⟩
end Go.Proofs.YthfagbfllheneaaGreat
set_option linter.unusedVariables false
set_option maxRecDepth 100000
namespace Go.Proofs.YthfagbfllheneaaGreat
open Go Go.Sx Value IntKind World Addr Builtin
def kV (t:Nat) (K:Value->World->Prop):Exit->Env->World->Prop
  | .normal,ρ,w=>(match ρ t with|some v=>K v w|none=>False)
  | _,_,_=>False
noncomputable def chk0:Code:=match Tryz.f76.body with|some (.seq r _)=>r|_=>.skip
noncomputable def chk1:Code:=match Tryz.f76.body with|some (.seq _ (.seq r _))=>r|_=>.skip
noncomputable def chk3:Code:=match Tryz.f76.body with|some (.seq _ (.seq _ (.seq r _)))=>r|_=>.skip
noncomputable def chk4:Code:=match Tryz.f76.body with|some (.seq _ (.seq _ (.seq _ (.seq (.seq r _) _))))=>r|_=>.skip
noncomputable def chk5:Code:=match Tryz.f76.body with|some (.seq _ (.seq _ (.seq _ (.seq (.seq _ (.block _ (.loop (.seq r _)))) _))))=>r|_=>.skip
noncomputable def chk6:Code:=match Tryz.f76.body with|some (.seq _ (.seq _ (.seq _ (.seq (.seq _ (.block _ (.loop (.seq _ (.seq _ (.block _ (.seq r _))))))) _))))=>r|_=>.skip
noncomputable def chk7:Code:=match Tryz.f76.body with|some (.seq _ (.seq _ (.seq _ (.seq (.seq _ (.block _ (.loop (.seq _ (.seq _ (.block _ (.seq _ (.seq r _)))))))) _))))=>r|_=>.skip
noncomputable def chk9:Code:=match Tryz.f76.body with|some (.seq _ (.seq _ (.seq _ (.seq (.seq _ (.block _ (.loop (.seq _ (.seq _ (.block _ (.seq _ (.seq _ (.seq r _))))))))) _))))=>r|_=>.skip
noncomputable def chkB:Code:=match Tryz.f76.body with|some (.seq _ (.seq _ (.seq _ (.seq (.seq _ (.block _ (.loop (.seq _ (.seq _ (.block _ (.seq _ (.seq _ (.seq _ (.block _ (.rangeFunc _ _ _ r))))))))))) _))))=>r|_=>.skip
noncomputable def chkOps:List Oper:=match Tryz.f76.body with|some (.seq _ (.seq _ (.seq _ (.seq _ (.seq (.seq (.region _ ops _) _) _)))))=>ops.toList|_=>[]
noncomputable def chkC:Code:=match Tryz.f76.body with|some (.seq _ (.seq _ (.seq _ (.seq _ (.seq (.seq _ r) _)))))=>r|_=>.skip
noncomputable def chkZ:Code:=match Tryz.f76.body with|some (.seq _ (.seq _ (.seq _ (.seq _ (.seq _ r)))))=>r|_=>.skip
noncomputable def all0:Code:=match Tryz.f103.body with|some (.seq r _)=>r|_=>.skip
noncomputable def all1:Code:=match Tryz.f103.body with|some (.seq _ (.block _ (.loop (.seq r _))))=>r|_=>.skip
noncomputable def all2:Code:=match Tryz.f103.body with|some (.seq _ (.block _ (.loop (.seq _ (.block _ (.seq r _))))))=>r|_=>.skip
noncomputable def all3:Code:=match Tryz.f103.body with|some (.seq _ (.block _ (.loop (.seq _ (.block _ (.seq _ (.seq r _)))))))=>r|_=>.skip
noncomputable def all4:Code:=match Tryz.f103.body with|some (.seq _ (.block _ (.loop (.seq _ (.block _ (.seq _ (.seq _ r)))))))=>r|_=>.skip
theorem chk_body:Tryz.f76.body=some (.seq chk0 (.seq chk1 (.seq chk3 (.seq (.seq chk4 (.block 0 (.loop (.seq chk5 (.seq (.cond (.tmp 15) .skip (.exit 0)) (.block 1 (.seq chk6 (.seq chk7 (.seq chk9 (.block 2 (.rangeFunc (.tmp 24) #[25] .skip chkB)))))))))) ) (.seq (.seq (.region 11 chkOps.toArray true) chkC) chkZ))))):=by kernel_rfl
theorem all_body:Tryz.f103.body=some (.seq all0 (.block 0 (.loop (.seq all1 (.block 1 (.seq all2 (.seq all3 all4))))))):=by kernel_rfl
noncomputable def chkR.W:Addr->Addr->World->(Value->World->Prop)->Prop:=fun g b3 w K=>∃ (S:World->Prop),S (drew w)/\∃ x,(∀ u,S u->cell? u b3=some (int i64 x))/\CallsV
 Tryz.prog 84 #[pointer (some g)] (drew w) fun v w'=>∃ x_1,v=int i64 x_1/\S w'/\bif !decide (x=x_1) then K (bool true) w' else ∃ (S:World->Prop),S w'/\∃ x,(∀ u,S u
 -> cell? u b3=some (int i64 x))/\∃ a,some g=some a/\∃ x_2,(∀ u,S u->cell? u (add a 1)=some (int i64 x_2))/\K (bool (decide (x_2<x))) w'
theorem chkR.eq (g b3:Addr) (w:World) (K:Value->World->Prop):chkR.W g b3 w K=drT false .named Tryz.prog 40 chkOps (lightOf Tryz.prog chkOps chkOps) (kV 39 K .normal) chkOps (falses chkOps) none [] (Env.set (Env.set (fun _=>none) 0 (some (.pointer (some g)))) 3 (some (.pointer (some b3)))) w.drew:=by kernel_rfl
noncomputable def all0R.W:Value->Addr->Addr->World->(Value->World->Prop)->Prop:=fun y b1 b2 w K=>∃ x,cell? w b1=some (int i64 x)/\∀ g w',Fresh w g w' [int i64 x] 3->K (slice
 (some (mk g 0 none)) 1 1) w'
theorem all0R.eq (y:Value) (b1 b2:Addr) (w:World) (K:Value->World->Prop):all0R.W y b1 b2 w K=cW .named Tryz.prog 37 .auto all0 (kV 4 K) (Env.set (Env.set (Env.set (fun _=>none) 0 (some y)) 1 (some (.pointer (some b1)))) 2 (some (.pointer (some b2)))) w:=by kernel_rfl
noncomputable def all1R.W:Value->Addr->Addr->Option Addr->Nat->Nat->World->(Exit->World->Prop)->Prop:=fun y b1 b2 A n c w K=>bif decide (0<(n:Int)) then K Exit.normal w
 else K (Exit.exit 0) w
theorem all1R.eq (y:Value) (b1 b2:Addr) (A:Option Addr) (n c:Nat) (w:World) (K:Exit->World->Prop):all1R.W y b1 b2 A n c w K=cW .named Tryz.prog 37 .auto all1 (fun e ρ w=>K e w) (Env.set (Env.set (Env.set (Env.set (fun _=>none) 0 (some y)) 1 (some (.pointer (some b1)))) 2 (some (.pointer (some b2)))) 4 (some (.slice A n c))) w:=by kernel_rfl
noncomputable def all2R.W:Value->Addr->Addr->Option Addr->Nat->Nat->World->(Value->World->Prop)->Prop:=fun y b1 b2 A n c w K=>∃ ad,A=some ad/\(0<=wrap i64 ((n:Int)-1) /\
 wrap i64 ((n:Int)-1)<(n:Int))/\∃ x,cell? w (add ad (Int.toNat (wrap i64 ((n:Int)-1))*1))=some (int i64 x)/\K (int i64 x) w
theorem all2R.eq (y:Value) (b1 b2:Addr) (A:Option Addr) (n c:Nat) (w:World) (K:Value->World->Prop):all2R.W y b1 b2 A n c w K=cW .named Tryz.prog 37 .auto all2 (kV 5 K) (Env.set (Env.set (Env.set (Env.set (fun _=>none) 0 (some y)) 1 (some (.pointer (some b1)))) 2 (some (.pointer (some b2)))) 4 (some (.slice A n c))) w:=by kernel_rfl
noncomputable def all3R.W:Value->Addr->Addr->Option Addr->Nat->Nat->Int->World->(Value->World->Prop)->Prop:=fun y b1 b2 A n c i w K=>(0<=wrap i64 ((n:Int)-1)/\wrap i64 ((n:Int)
 - 1)<=(c:Int))/\∃ (S:World->Prop),S (drew w)/\∃ x,(∀ u,S u->cell? u b2=some (pointer x))/\∃ a,x=some a/\∃ x x_1 x_2,(∀ u,S u->cell? u (add a 2)=some (slice
 x x_1 x_2))/\∃ ad,x=some ad/\(0<=i/\i<(x_1:Int))/\∃ x,(∀ u,S u->cell? u (add ad (Int.toNat i*1))=some (pointer x))/\∃ a,x=some a/\∃ x x_3 x_4,(∀ u,S u ->
 cell? u (add a 2)=some (slice x x_3 x_4))/\∃ x_5 x_6 x_7 w',RunsTo Tryz.prog (append_ (Array.mk [39,39]) 39 #[slice (cutAt A c 0 1) (Int.toNat (wrap i64 ((n:Int)-1))-0) (c-0),slice
 x x_3 x_4]) (drew w) (slice x_5 x_6 x_7) w'/\S w'/\K (slice x_5 x_6 x_7) w'
theorem all3R.eq (y:Value) (b1 b2:Addr) (A:Option Addr) (n c:Nat) (i:Int) (w:World) (K:Value->World->Prop):all3R.W y b1 b2 A n c i w K=cW .named Tryz.prog 37 .auto all3 (kV 4 K) (Env.set (Env.set (Env.set (Env.set (Env.set (fun _=>none) 0 (some y)) 1 (some (.pointer (some b1)))) 2 (some (.pointer (some b2)))) 4 (some (.slice A n c))) 5 (some (.int .i64 i))) w:=by kernel_rfl
theorem kV_elim {t:Nat} {K:Value->World->Prop}:∀ {e:Exit} {ρ:Env} {w:World},kV t K e ρ w->e=.normal/\∃ v,ρ t=some v/\K v w
  | .normal,ρ,w,h=>by
    replace h:(match ρ t with|some v=>K v w|none=>False):=h
    cases hρ:ρ t with
    | none=>rw [hρ] at h;exact h.elim
    | some v=>rw [hρ] at h;exact ⟨rfl,v,rfl,h⟩
  | .ret,_,_,h=>h.elim
  | .exit _,_,_,h=>h.elim
  | .goto _,_,_,h=>h.elim
  | .panic _,_,_,h=>h.elim
  | .outgrown,_,_,h=>h.elim
def offs (c:Code) (ts:List Nat):Bool:=ts.all fun t=>!memNat t (wr c)
theorem offs_keep {c:Code} {ts:List Nat} (ho:offs c ts=true) {a a':Act} (h:SameBut (wr c) a a') {t:Nat} (ht:t∈ts):a'.tmps[t]?=a.tmps[t]?:=by
  refine h.at_ t fun hm=>?_
  have:=List.all_eq_true.1 ho t ht
  rw [memNat_iff.2 hm] at this
  cases this
theorem offs0:offs all0 [0,1,2]=true:=by kernel_rfl
theorem offs1:offs all1 [0,1,2,4]=true:=by kernel_rfl
theorem offs2:offs all2 [0,1,2,4]=true:=by kernel_rfl
theorem offs3:offs all3 [0,1,2,5]=true:=by kernel_rfl
end Go.Proofs.YthfagbfllheneaaGreat
