/- Part 6 of the texts of this claim: the engine, contracts, plain laws. -/
import Derived.Test.YthfagbfllheneaaGreatZCPlays6P5
import Derived.Test.YthfagbfllheneaaGreatProg
import Derived.Test.YthfagbfllheneaaGreatZCPlays6P1
set_option linter.unusedVariables false
set_option linter.unusedSimpArgs false
namespace Go.Proofs.YthfagbfllheneaaGreat
open Go Go.Sx T4
section
variable {w:World} {Ω:Nat->Prop}
theorem immLt {α:Type} {K:Kd α} (hz:0<K.size) {A:Option Addr} {l:List α} (h:Imm K Ω w A l) (hl:l≠[]):∀ k,ownB A k->k<w.heap.size:=by
  intro k ⟨ad,hA,hk⟩
  obtain ⟨ad',h1,_,cs,hr,hc⟩:=h 0 (l.head hl) (by cases l with|nil=>exact absurd rfl hl|cons a l=>rfl)
  rw [hA] at h1;cases h1;subst hk
  have hlen:=K.len hr
  obtain ⟨v,hv⟩:∃ v,cs[0]?=some v:=⟨_,List.getElem?_eq_getElem (by omega)⟩
  have:=hc 0 v hv
  refine Classical.byContradiction fun hn=>?_
  rw [Nat.zero_mul,Nat.zero_add,add_zero'] at this
  simp [World.cell?,Array.getElem?_eq_none (Nat.le_of_not_lt hn)] at this
theorem ownB_cut {A:Option Addr} {m lo sz k:Nat} (h:ownB (cutAt A m lo sz) k):ownB A k:=by
  obtain ⟨ad,hA,hk⟩:=h
  unfold cutAt at hA
  split at hA
  · exact ⟨ad,hA,hk⟩
  · cases A with
    | none=>cases hA
    | some a=>simp at hA;subst hA;exact ⟨a,rfl,by rw [add_block] at hk;exact hk⟩
theorem fixCut {E:Option Addr} {es:Es} (h:Imm KEn Ω w E es) {lo hi m:Nat} (h1:hi<=m):Imm (Kd.fix Ω w KEn) NoB w (cutAt E m lo 2) ((es.take hi).drop lo):=(fixI h).cut (K:=Kd.fix Ω w KEn) h1
theorem Put_specR {A:Option Addr} {c:Nat} {F:List (Int×Es)} (h:TrR Ω w A c F) (hΩ:∀ k,Ω k->k<w.heap.size) (hl:F.length<=1000000) {i:Nat} {r:Int} {es:Es} (hi:F[i]?=some (r,es)) (hel:es.length<=100000) (last:Int) {Ω1 Ω2:Nat->Prop} {KA VA:Option Addr} {key val:Key} (hK:Imm KB Ω1 w KA key) (hV:Imm KB Ω2 w VA val) (kc vc:Nat) (hkl:key.length<=1048576) (hvl:val.length<=1048576) (hks:∀ p∈es,p.1.length<=1048576) :
    CallsV Tryz.prog 23 #[trV A c F last,iv i,.slice KA key.length kc,.slice VA val.length vc] w fun v w'=>∃ A' c',v=trV A' c' (F.set i (r,insE key val es)) last/\TrR Ω w' A' c' (F.set i (r,insE key val es))/\Ext w w':=by
  refine cardindexref04_Trees_Put.calls okay ?_
  unfold cardindexref04_Trees_Put.W
  intro g w1 f1 g1 w2 f2
  have hg1:g1≠g:=by have:=f2.ge;have:=f1.lt;omega
  have e2:Ext w w2:=f1.ext.trans' f2.ext
  have hgw:w.heap.size<=g:=f1.ge
  have hg1w:w.heap.size<=g1:=Nat.le_trans f1.ext.size f2.ge
  have bg:Blk w2 g [.slice A F.length c,.int .i64 last]:=f1.blk.ext f2.ext
  have bg1:Blk w2 g1 [.slice none 0 0,.int .i64 0]:=f2.blk
  have hgl:=bg.lt
  have hg1l:=bg1.lt
  obtain ⟨Ω1,hΩe⟩:∃ Ω1:Nat->Prop,Ω1=fun k=>Ω k\/k=g1:=⟨_,rfl⟩
  have hΩ1:∀ k,Ω1 k->k<w2.heap.size:=fun k hk=>by
    rw [hΩe] at hk
    rcases hk with hk|rfl
    · exact Nat.lt_of_lt_of_le (hΩ k hk) e2.size
    · exact hg1l
  have stE:∀ {u},Ext w u->Step Ω w Ω1 u:=fun e=>⟨e.size,fun k hk _=>e.block k hk fun h=>h,fun k hk h=>by
    rw [hΩe] at h
    rcases h with h|h
    · exact h
    · omega⟩
  obtain ⟨ad,E,ce,hA,c0,c1,hce,hE⟩:=trCell h.1 hi
  have hil:=(List.getElem?_eq_some_iff.1 hi).1
  have hple:=pos_le (keysE es) key
  rw [keysE_length] at hple
  have hcut:=insE_cut key val es
  refine ⟨_,_,_,bg.cell rfl,_,bg.cell rfl,(Place_spec (h.1.ext KTr_pos e2) hi (by omega) last (hK.ext KB_pos e2) kc hks).mono ?_⟩
  rintro _ w3 ⟨rfl,e3⟩
  have hhas:has (keysE es) key=true->pos (keysE es) key<es.length:=fun hh=>by
    unfold has at hh
    have:=(List.getElem?_eq_some_iff.1 (of_decide_eq_true hh)).1
    rwa [keysE_length] at this
  generalize hk:pos (keysE es) key=k at *
  generalize hb:has (keysE es) key=b at *
  have e23:Ext w w3:=e2.trans' e3
  obtain ⟨X5,c5,w4,hr4,ho4,g4⟩:=(OwnK.nil KB w3).append (K:=KB) slB (ty:=30) (cb:=kc) (m:=key) (fun j a ha=>by obtain ⟨ad,h1,_,cs,h3,h4⟩:=(hK.ext KB_pos e23) j a ha;exact ⟨ad,h1,fun h=>ownB_none _ h,cs,h3,h4⟩) (fun a cs h=>oneB.one h) (by simp [maxLen];omega) (by simp;omega)
  rw [List.nil_append] at hr4 ho4
  have e4:Ext w3 w4:=g4.fr.mono (fun k _ hk=>(ownB_none k hk).elim)
  have n5:∀ k,ownB X5 k->w3.heap.size<=k:=fun k hk=>(g4.sub k hk).resolve_left fun h=>(ownB_none k h).elim
  have e24:Ext w w4:=e23.trans' e4
  obtain ⟨X6,c6,w5,hr5,ho5,g5⟩:=(OwnK.nil KB w4).append (K:=KB) slB (ty:=30) (cb:=vc) (m:=val) (fun j a ha=>by obtain ⟨ad,h1,_,cs,h3,h4⟩:=(hV.ext KB_pos e24) j a ha;exact ⟨ad,h1,fun h=>ownB_none _ h,cs,h3,h4⟩) (fun a cs h=>oneB.one h) (by simp [maxLen];omega) (by simp;omega)
  rw [List.nil_append] at hr5 ho5
  have e5:Ext w4 w5:=g5.fr.mono (fun k _ hk=>(ownB_none k hk).elim)
  have n6:∀ k,ownB X6 k->w4.heap.size<=k:=fun k hk=>(g5.sub k hk).resolve_left fun h=>(ownB_none k h).elim
  have e25:Ext w w5:=e24.trans' e5
  refine ⟨_,_,rfl,_,_,_,w4,hr4,_,_,_,w5,hr5,?_⟩
  intro g2 w6 f6
  refine ⟨f6.blk.stOK (o:=0) [_,_] 0 (by simp),fun w7 hw7=>?_⟩
  have b7:Blk w7 g2 [.slice X5 key.length c5,.slice X6 val.length c6]:=by rw [hw7];exact Blk.setAll (o:=0) [.slice X5 key.length c5,.slice X6 val.length c6] 0 f6.blk
  have e57:Ext w5 w7:=by rw [hw7];exact f6.ext.setAll f6.ge _ _
  have e7:Ext w w7:=e25.trans' e57
  have e27:Ext w2 w7:=((e3.trans' e4).trans' e5).trans' e57
  have bg7:=bg.ext e27
  have l5:key.length<=c5:=by obtain ⟨xs,ho,_⟩:=ho4;exact ho.le
  have l6:val.length<=c6:=by obtain ⟨xs,ho,_⟩:=ho5;exact ho.le
  have sz2:=e2.size;have sz23:=e23.size;have sz24:=e24.size;have sz7:=e7.size
  have i5:Imm KB Ω1 w7 X5 key:=by
    obtain ⟨xs,ho,hr⟩:=ho4
    exact (Own.imm (K:=KB) (Ω:=Ω1) KB_pos ho (fun k hk hω=>by have:=n5 k hk;have:=hΩ1 k hω;have:=e3.size;omega) fun j a ha=>hr j a ha).ext KB_pos (e5.trans' e57)
  have i6:Imm KB Ω1 w7 X6 val:=by
    obtain ⟨xs,ho,hr⟩:=ho5
    exact (Own.imm (K:=KB) (Ω:=Ω1) KB_pos ho (fun k hk hω=>by have:=n6 k hk;have:=hΩ1 k hω;have:=e3.size;have:=e4.size;omega) fun j a ha=>hr j a ha).ext KB_pos e57
  have hE7:Imm KEn Ω1 w7 E es:=hE.keep KEn_pos (stE e7)
  obtain ⟨X8,c8,w8,hr8,ho8,g8⟩:=appFix (w:=w7) (Ω:=Ω1) (K:=KEn) slE oneEn (ty:=105) (OwnK.nil (Kd.fix Ω1 w7 KEn) w7) (fixCut hE7 (lo:=0) (hi:=k) (m:=ce) (by omega)) (cb:=ce) (fun k hk=>(ownB_none k hk).elim) (by simp [maxLen];omega) (by simp;omega)
  rw [List.nil_append,List.drop_zero] at hr8 ho8
  have lk:(es.take k).length=k:=by rw [List.length_take];omega
  rw [lk] at hr8
  have e8:Ext w7 w8:=g8.fr.mono (fun k _ hk=>(ownB_none k hk).elim)
  have n8:∀ k,ownB X8 k->w7.heap.size<=k:=fun k hk=>(g8.sub k hk).resolve_left fun h=>(ownB_none k h).elim
  have b8:=b7.ext e8
  refine ⟨_,_,_,bg7.cell rfl,ad,hA,⟨by omega,by omega⟩,_,_,_,by rw [Int.toNat_natCast];exact Ext.cell e7 c1,⟨by omega,by omega⟩,_,_,_,w8,by rw [Int.toNat_natCast,Nat.sub_zero,Nat.sub_zero];exact hr8,_,_,_,b8.cell rfl,_,_,_,b8.cell rfl,?_⟩
  rintro g3 w8' ⟨rfl,rfl⟩
  have hrep:KEn.rep Ω1 w7 (key,val) [.slice X5 key.length c5,.slice X6 val.length c6]:=repEn l5 l6 i5 i6
  obtain ⟨X9,c9,w9,hr9,ho9,g9⟩:=ho8.push (K:=Kd.fix Ω1 w7 KEn) slE (ty:=105) (a:=(key,val)) (cs:=[.slice X5 key.length c5,.slice X6 val.length c6]) hrep (oneEn hrep) (e':=73) (by rw [lk];simp only [maxLen];omega) (by rw [lk];omega)
  rw [lk] at hr9
  have n9:∀ k,ownB X9 k->w7.heap.size<=k:=fun k hk=>by
    rcases g9.sub k hk with h|h
    · exact n8 k h
    · have:=e8.size;omega
  have e79:Ext w7 w9:=e8.trans g9.fr (fun _ _ h=>h) (fun k hk ho=>by have:=n8 k ho;omega)
  refine ⟨_,_,_,w9,hr9,fun x u=>x=((k+(if b then 1 else 0):Nat):Int)/\u=w9,?_,?_⟩
  · rintro _ u0 ⟨rfl,hu0⟩
    obtain rfl:w9=u0:=hu0.symm
    have hk'l:k+(if b=true then 1 else 0)<=es.length:=by
      cases b with
      | true=>have:=hhas rfl;simp;omega
      | false=>simp;omega
    generalize hkk:k+(if b=true then 1 else 0)=k' at *
    have bg9:Blk w9.drew g [.slice A F.length c,.int .i64 last]:=(bg7.ext e79).ext (Fr.drew NoB w9)
    have bg19:Blk w9.drew g1 [.slice none 0 0,.int .i64 0]:=((bg1.ext e27).ext e79).ext (Fr.drew NoB w9)
    have ed:Ext w7 w9.drew:=e79.drew
    have hB10:Imm (Kd.fix Ω1 w7 KEn) NoB w9.drew (cutAt E ce k' 2) (es.drop k'):=by
      have:=(fixCut hE7 (lo:=k') (hi:=es.length) (m:=ce) hce).ext (show 0<(Kd.fix Ω1 w7 KEn).size from KEn_pos) ed
      rwa [List.take_length] at this
    have off10:∀ j,ownB X9 j->¬ ownB (cutAt E ce k' 2) j\/es.drop k'=[]:=fun j hj=>by
      by_cases hne:es=[]
      · right;rw [hne];simp
      · left;intro hj';have:=immLt KEn_pos hE hne j (ownB_cut hj');have:=n9 j hj;omega
    obtain ⟨X10,c10,w10,hr10,ho10,g10⟩:=appFix (w:=w7) (Ω:=Ω1) (K:=KEn) slE oneEn (ty:=105) (ho9.fr (Fr.drew NoB w9) (fun _ _ h=>h) (fun _ _ _ h=>h)) hB10 (cb:=ce-k') off10 (by simp [maxLen];omega) (by simp;omega)
    rw [List.length_drop] at hr10
    have n10:∀ j,ownB X9 j->j≠g/\j≠g1:=fun j hj=>by have:=n9 j hj;have:=e27.size;omega
    have b10:Blk w10 g [.slice A F.length c,.int .i64 last]:=bg9.keep g10.fr fun hj=>(n10 _ hj).1 rfl
    have b110:Blk w10 g1 [.slice none 0 0,.int .i64 0]:=bg19.keep g10.fr fun hj=>(n10 _ hj).2 rfl
    have e710:Ext w7 w10:=ed.trans g10.fr (fun _ _ h=>h) (fun j hj ho=>by have:=n9 j ho;omega)
    have e10:Ext w w10:=e7.trans' e710
    refine ⟨fun u=>Blk u g [.slice A F.length c,.int .i64 last],bg9,_,_,_,fun u hu=>hu.cell rfl,_,fun u hu=>hu.cell rfl,⟨by omega,by omega⟩,_,_,_,w10,by rw [Int.toNat_natCast];exact hr10,b10,?_⟩
    rw [List.append_assoc,List.singleton_append,<- hcut] at ho10
    have hL:Imm KEn Ω1 w10 X10 (insE key val es):=unfixI KEn_pos ho10 e710 fun j hj hω=>by
      have:=hΩ1 j hω
      have:=e27.size
      rcases g10.sub j hj with h|h
      · have:=n9 j h;omega
      · have:=ed.size;omega
    have hll:(es.take k++[(key,val)]++es.drop k').length=(insE key val es).length:=by rw [List.append_assoc,List.singleton_append,<- hcut]
    rw [hll]
    refine (with_spec (h.keep (stE e10)) (fun k hk=>Nat.lt_of_lt_of_le (hΩ1 k hk) (Nat.le_trans e27.size e710.size)) hl hi last hL (by obtain ⟨xs,ho,_⟩:=ho10;exact ho.le)).mono ?_
    rintro _ w11 ⟨A',c',rfl,hT,e11⟩
    refine ⟨_,_,_,_,rfl,?_⟩
    refine finC (K:=fun v w'=>∃ A' c',v=trV A' c' (F.set i (r,insE key val es)) last/\TrR Ω w' A' c' (F.set i (r,insE key val es))/\Ext w w') (e10.trans' e11) (b110.ext e11) hg1w fun u' e' f'=>⟨A',c',rfl,?_,e'⟩
    refine TrR.keep (hT.keep (f'.step (Ω:=Ω1) (Ω':=Ω1) (fun k _ hk=>?_) (fun _ _ h=>h))) ⟨Nat.le_refl _,fun _ _ _=>rfl,fun k _ hk=>?_⟩
    · rw [hΩe];exact .inr hk
    · rw [hΩe];exact .inl hk
  · cases b with
    | true=>exact ⟨by rw [wi _ (by omega) (by omega)];rfl,rfl⟩
    | false=>exact ⟨rfl,rfl⟩
theorem Delete_specR {A:Option Addr} {c:Nat} {F:List (Int×Es)} (h:TrR Ω w A c F) (hΩ:∀ k,Ω k->k<w.heap.size) (hl:F.length<=1000000) {i:Nat} {r:Int} {es:Es} (hi:F[i]?=some (r,es)) (hel:es.length<=100000) (last:Int) {Ω1:Nat->Prop} {KA:Option Addr} {key:Key} (hK:Imm KB Ω1 w KA key) (kc:Nat) (hks:∀ p∈es,p.1.length<=1048576) :
    CallsV Tryz.prog 29 #[trV A c F last,iv i,.slice KA key.length kc] w fun v w'=>∃ A' c',v=trV A' c' (F.set i (r,delE key es)) last/\TrR Ω w' A' c' (F.set i (r,delE key es))/\Ext w w':=by
  refine cardindexref04_Trees_Delete.calls okay ?_
  unfold cardindexref04_Trees_Delete.W
  intro g w1 f1 g1 w2 f2
  have hg1:g1≠g:=by have:=f2.ge;have:=f1.lt;omega
  have e2:Ext w w2:=f1.ext.trans' f2.ext
  have hgw:w.heap.size<=g:=f1.ge
  have hg1w:w.heap.size<=g1:=Nat.le_trans f1.ext.size f2.ge
  have bg:Blk w2 g [.slice A F.length c,.int .i64 last]:=f1.blk.ext f2.ext
  have bg1:Blk w2 g1 [.slice none 0 0,.int .i64 0]:=f2.blk
  have hgl:=bg.lt
  have hg1l:=bg1.lt
  obtain ⟨Ω1,hΩe⟩:∃ Ω1:Nat->Prop,Ω1=fun k=>Ω k\/k=g1:=⟨_,rfl⟩
  have hΩ1:∀ k,Ω1 k->k<w2.heap.size:=fun k hk=>by
    rw [hΩe] at hk
    rcases hk with hk|rfl
    · exact Nat.lt_of_lt_of_le (hΩ k hk) e2.size
    · exact hg1l
  have stE:∀ {u},Ext w u->Step Ω w Ω1 u:=fun e=>⟨e.size,fun k hk _=>e.block k hk fun h=>h,fun k hk h=>by
    rw [hΩe] at h
    rcases h with h|h
    · exact h
    · omega⟩
  obtain ⟨ad,E,ce,hA,c0,c1,hce,hE⟩:=trCell h.1 hi
  have hil:=(List.getElem?_eq_some_iff.1 hi).1
  have hple:=pos_le (keysE es) key
  rw [keysE_length] at hple
  refine ⟨_,_,_,bg.cell rfl,_,bg.cell rfl,(Place_spec (h.1.ext KTr_pos e2) hi (by omega) last (hK.ext KB_pos e2) kc hks).mono ?_⟩
  rintro _ w3 ⟨rfl,e3⟩
  have e23:Ext w w3:=e2.trans' e3
  have bg3:=bg.ext e3
  have bg13:=bg1.ext e3
  have hhas:has (keysE es) key=true->pos (keysE es) key<es.length:=fun hh=>by
    unfold has at hh
    have:=(List.getElem?_eq_some_iff.1 (of_decide_eq_true hh)).1
    rwa [keysE_length] at this
  refine ⟨_,_,rfl,brnb (fun hb=>?_) (fun hb=>?_)⟩
  · have hd:delE key es=es:=del_no hb
    have hF:F.set i (r,es)=F:=by
      apply List.ext_getElem?
      intro j
      rw [List.getElem?_set]
      by_cases hij:i=j
      · subst hij;rw [if_pos rfl,if_pos hil,hi]
      · rw [if_neg hij]
    rw [hd,hF]
    refine ⟨_,_,_,bg3.cell rfl,_,bg3.cell rfl,?_⟩
    refine finC (K:=fun v w'=>∃ A' c',v=trV A' c' F last/\TrR Ω w' A' c' F/\Ext w w') e23 bg13 hg1w fun u' e' f'=>⟨A,c,rfl,h.ext e',e'⟩
  · have hcut:=delE_cut key hb
    have hkl':=hhas hb
    generalize hk:pos (keysE es) key=k at *
    have hE3:Imm KEn Ω1 w3 E es:=hE.keep KEn_pos (stE e23)
    obtain ⟨X8,c8,w8,hr8,ho8,g8⟩:=appFix (w:=w3) (Ω:=Ω1) (K:=KEn) slE oneEn (ty:=105) (OwnK.nil (Kd.fix Ω1 w3 KEn) w3) (fixCut hE3 (lo:=0) (hi:=k) (m:=ce) (by omega)) (cb:=ce) (fun k hk=>(ownB_none k hk).elim) (by simp [maxLen];omega) (by simp;omega)
    rw [List.nil_append,List.drop_zero] at hr8 ho8
    have lk:(es.take k).length=k:=by rw [List.length_take];omega
    rw [lk] at hr8
    have e8:Ext w3 w8:=g8.fr.mono (fun k _ hk=>(ownB_none k hk).elim)
    have n8:∀ k,ownB X8 k->w3.heap.size<=k:=fun k hk=>(g8.sub k hk).resolve_left fun h=>(ownB_none k h).elim
    have bg9:Blk w8.drew g [.slice A F.length c,.int .i64 last]:=(bg3.ext e8).ext (Fr.drew NoB w8)
    have bg19:Blk w8.drew g1 [.slice none 0 0,.int .i64 0]:=(bg13.ext e8).ext (Fr.drew NoB w8)
    have ed:Ext w3 w8.drew:=e8.drew
    have hB10:Imm (Kd.fix Ω1 w3 KEn) NoB w8.drew (cutAt E ce (k+1) 2) (es.drop (k+1)):=by
      have:=(fixCut hE3 (lo:=k+1) (hi:=es.length) (m:=ce) hce).ext (show 0<(Kd.fix Ω1 w3 KEn).size from KEn_pos) ed
      rwa [List.take_length] at this
    have off10:∀ j,ownB X8 j->¬ ownB (cutAt E ce (k+1) 2) j\/es.drop (k+1)=[]:=fun j hj=>by
      by_cases hne:es=[]
      · right;rw [hne];simp
      · left;intro hj';have:=immLt KEn_pos hE hne j (ownB_cut hj');have:=n8 j hj;have:=e23.size;omega
    obtain ⟨X10,c10,w10,hr10,ho10,g10⟩:=appFix (w:=w3) (Ω:=Ω1) (K:=KEn) slE oneEn (ty:=105) (ho8.fr (Fr.drew NoB w8) (fun _ _ h=>h) (fun _ _ _ h=>h)) hB10 (cb:=ce-(k+1)) off10 (by simp [maxLen];omega) (by simp;omega)
    rw [lk,List.length_drop] at hr10
    have n10:∀ j,ownB X8 j->j≠g/\j≠g1:=fun j hj=>by have:=n8 j hj;have:=e3.size;omega
    have b10:Blk w10 g [.slice A F.length c,.int .i64 last]:=bg9.keep g10.fr fun hj=>(n10 _ hj).1 rfl
    have b110:Blk w10 g1 [.slice none 0 0,.int .i64 0]:=bg19.keep g10.fr fun hj=>(n10 _ hj).2 rfl
    have e310:Ext w3 w10:=ed.trans g10.fr (fun _ _ h=>h) (fun j hj ho=>by have:=n8 j ho;omega)
    have e10:Ext w w10:=e23.trans' e310
    have hw:IntKind.i64.wrap ((k:Int)+1)=((k+1:Nat):Int):=by rw [wi _ (by omega) (by omega)];omega
    refine ⟨_,_,_,bg3.cell rfl,ad,hA,⟨by omega,by omega⟩,_,_,_,by rw [Int.toNat_natCast];exact Ext.cell e23 c1,⟨by omega,by omega⟩,_,_,_,w8,by rw [Int.toNat_natCast,Nat.sub_zero,Nat.sub_zero];exact hr8,fun u=>Blk u g [.slice A F.length c,.int .i64 last],bg9,_,_,_,fun u hu=>hu.cell rfl,_,fun u hu=>hu.cell rfl,?_⟩
    rw [hw]
    refine ⟨⟨by omega,by omega⟩,_,_,_,w10,by rw [Int.toNat_natCast];exact hr10,b10,?_⟩
    rw [<- hcut] at ho10
    have hL:Imm KEn Ω1 w10 X10 (delE key es):=unfixI KEn_pos ho10 e310 fun j hj hω=>by
      have:=hΩ1 j hω
      have:=e3.size
      rcases g10.sub j hj with h|h
      · have:=n8 j h;omega
      · have:=ed.size;omega
    have hll:(es.take k++es.drop (k+1)).length=(delE key es).length:=by rw [<- hcut]
    rw [hll]
    refine (with_spec (h.keep (stE e10)) (fun k hk=>Nat.lt_of_lt_of_le (hΩ1 k hk) (Nat.le_trans e3.size e310.size)) hl hi last hL (by obtain ⟨xs,ho,_⟩:=ho10;exact ho.le)).mono ?_
    rintro _ w11 ⟨A',c',rfl,hT,e11⟩
    refine ⟨_,_,_,_,rfl,?_⟩
    refine finC (K:=fun v w'=>∃ A' c',v=trV A' c' (F.set i (r,delE key es)) last/\TrR Ω w' A' c' (F.set i (r,delE key es))/\Ext w w') (e10.trans' e11) (b110.ext e11) hg1w fun u' e' f'=>⟨A',c',rfl,?_,e'⟩
    refine TrR.keep (hT.keep (f'.step (Ω:=Ω1) (Ω':=Ω1) (fun k _ hk=>?_) (fun _ _ h=>h))) ⟨Nat.le_refl _,fun _ _ _=>rfl,fun k _ hk=>?_⟩
    · rw [hΩe];exact .inr hk
    · rw [hΩe];exact .inl hk
/-! ## told -/
def EnR (Ω:Nat->Prop) (w:World) (x:Option (Key×Key)) (v:Value):Prop:=match x with
  | none=>v=.tuple #[.agg #[.slice none 0 0,.slice none 0 0],.bool false]
  | some (k,v')=>∃ A1 c1 A2 c2,v=.tuple #[.agg #[.slice A1 k.length c1,.slice A2 v'.length c2],.bool true]/\k.length<=c1/\v'.length<=c2/\Imm KB Ω w A1 k/\Imm KB Ω w A2 v'
theorem EnR.keep {x:Option (Key×Key)} {v:Value} {Ω':Nat->Prop} {w':World} (h:EnR Ω w x v) (st:Step Ω w Ω' w'):EnR Ω' w' x v:=by
  cases x with
  | none=>exact h
  | some p=>obtain ⟨k,v'⟩:=p;obtain ⟨A1,c1,A2,c2,rfl,h1,h2,h3,h4⟩:=h;exact ⟨A1,c1,A2,c2,rfl,h1,h2,h3.keep KB_pos st,h4.keep KB_pos st⟩
theorem EnR.form {x:Option (Key×Key)} {v:Value} (h:EnR Ω w x v):∃ A1 n1 c1 A2 n2 c2 b,v=.tuple #[.agg #[.slice A1 n1 c1,.slice A2 n2 c2],.bool b]:=by
  cases x with
  | none=>exact ⟨_,_,_,_,_,_,_,h⟩
  | some p=>obtain ⟨k,v'⟩:=p;obtain ⟨A1,c1,A2,c2,h,_⟩:=h;exact ⟨_,_,_,_,_,_,_,h⟩
theorem finE {u:World} {g1:Nat} {b0 b1:Value} {X Y:Option Addr} {n c m d:Nat} {b:Bool} {K:Value->World->Prop} (ew:Ext w u) (hb1:Blk u g1 [b0,b1]) (hg1:w.heap.size<=g1)
    (hK:∀ u',Ext w u'->Fr (fun k=>k=g1) u u'->K (.tuple #[.agg #[.slice X n c,.slice Y m d],.bool b]) u') :
    stOK ⟨g1,0,none⟩ 0 [.slice X n c,.slice Y m d] u/\∀ w',w'=setAll ⟨g1,0,none⟩ 0 [.slice X n c,.slice Y m d] u->∃ x x1 x2,w'.cell? ((⟨g1,0,none⟩:Addr).add 0)=some (.slice x x1 x2)/\∃ y y1 y2,w'.cell? ((⟨g1,0,none⟩:Addr).add 1)=some (.slice y y1 y2)/\K (.tuple #[.agg #[.slice x x1 x2,.slice y y1 y2],.bool b]) w':=by
  refine ⟨hb1.stOK (o:=0) [_,_] 0 (by simp),fun w' hw'=>?_⟩
  have b':Blk w' g1 [.slice X n c,.slice Y m d]:=by rw [hw'];exact Blk.setAll (o:=0) [.slice X n c,.slice Y m d] 0 hb1
  have f':Fr (fun k=>k=g1) u w':=by rw [hw'];exact Fr.setAll _ _ _
  exact ⟨_,_,_,b'.cell rfl,_,_,_,b'.cell rfl,hK w' (ew.trans f' (fun _ _ h=>h) (fun k hk e=>by omega)) f'⟩
theorem Entry_no {A:Option Addr} {c:Nat} {F:List (Int×Es)} (last i k:Int) (hi:i<0) :
    CallsV Tryz.prog 92 #[trV A c F last,.int .i64 i,.int .i64 k] w fun v w'=>EnR Ω w' none v/\Ext w w':=by
  refine cardindexref04_Trees_Entry.calls okay ?_
  unfold cardindexref04_Trees_Entry.W
  intro g w1 f1 g1 w2 f2
  have e2:Ext w w2:=f1.ext.trans' f2.ext
  have hg1w:w.heap.size<=g1:=Nat.le_trans f1.ext.size f2.ge
  refine brd (fun _=>?_) fun h=>absurd hi h
  exact finE (K:=fun v w'=>EnR Ω w' none v/\Ext w w') e2 f2.blk hg1w fun u' e' _=>⟨rfl,e'⟩
theorem Entry_specR {A:Option Addr} {c:Nat} {F:List (Int×Es)} (h:TrR Ω w A c F) {i:Nat} {r:Int} {es:Es} (hi:F[i]?=some (r,es)) (last k:Int) :
    CallsV Tryz.prog 92 #[trV A c F last,iv i,.int .i64 k] w fun v w'=>EnR Ω w' (if k<0 then none else es[k.toNat]?) v/\Ext w w':=by
  refine cardindexref04_Trees_Entry.calls okay ?_
  unfold cardindexref04_Trees_Entry.W
  intro g w1 f1 g1 w2 f2
  have e2:Ext w w2:=f1.ext.trans' f2.ext
  have hg1w:w.heap.size<=g1:=Nat.le_trans f1.ext.size f2.ge
  have bg:Blk w2 g [.slice A F.length c,.int .i64 last]:=f1.blk.ext f2.ext
  obtain ⟨ad,E,ce,hA,c0,c1,hce,hE⟩:=trCell h.1 hi
  have hil:=(List.getElem?_eq_some_iff.1 hi).1
  refine brd (fun h=>by omega) fun _=>brd (fun hk=>?_) fun hk=>?_
  · rw [if_pos hk]
    exact finE (K:=fun v w'=>EnR Ω w' none v/\Ext w w') e2 f2.blk hg1w fun u' e' _=>⟨rfl,e'⟩
  · rw [if_neg hk]
    refine ⟨_,_,_,bg.cell rfl,ad,hA,⟨by omega,by omega⟩,_,_,_,by rw [Int.toNat_natCast];exact Ext.cell e2 c1,brd (fun hge=>?_) (fun hlt=>?_)⟩
    · rw [List.getElem?_eq_none (by omega)]
      exact finE (K:=fun v w'=>EnR Ω w' none v/\Ext w w') e2 f2.blk hg1w fun u' e' _=>⟨rfl,e'⟩
    · obtain ⟨p,hp⟩:∃ p,es[k.toNat]?=some p:=⟨_,List.getElem?_eq_getElem (by omega)⟩
      obtain ⟨k',v'⟩:=p
      obtain ⟨ed,A1,cc1,A2,cc2,hEd,d0,d1,l1,l2,i1,i2⟩:=enCell hE hp
      refine ⟨_,_,_,bg.cell rfl,ad,hA,⟨by omega,by omega⟩,_,_,_,by rw [Int.toNat_natCast];exact Ext.cell e2 c1,ed,hEd,⟨by omega,by omega⟩,_,_,_,Ext.cell e2 d0,_,_,_,Ext.cell e2 d1,?_⟩
      rw [hp]
      exact finE (K:=fun v w'=>EnR Ω w' (some (k',v')) v/\Ext w w') e2 f2.blk hg1w fun u' e' _=>⟨⟨A1,cc1,A2,cc2,rfl,l1,l2,i1.ext KB_pos e',i2.ext KB_pos e'⟩,e'⟩
theorem After_no {A:Option Addr} {c:Nat} {F:List (Int×Es)} (last i:Int) (hi:i<0) (KA:Option Addr) (kn kc:Nat) (is:Bool) :
    CallsV Tryz.prog 64 #[trV A c F last,.int .i64 i,.slice KA kn kc,.bool is] w fun v w'=>EnR Ω w' none v/\Ext w w':=by
  refine cardindexref04_Trees_After.calls okay ?_
  unfold cardindexref04_Trees_After.W
  intro g w1 f1 g1 w2 f2
  refine brd (fun _=>?_) fun h=>absurd hi h
  exact finE (K:=fun v w'=>EnR Ω w' none v/\Ext w w') (f1.ext.trans' f2.ext) f2.blk (Nat.le_trans f1.ext.size f2.ge) fun u' e' _=>⟨rfl,e'⟩
theorem Before_no {A:Option Addr} {c:Nat} {F:List (Int×Es)} (last i:Int) (hi:i<0) (KA:Option Addr) (kn kc:Nat) (is:Bool) :
    CallsV Tryz.prog 97 #[trV A c F last,.int .i64 i,.slice KA kn kc,.bool is] w fun v w'=>EnR Ω w' none v/\Ext w w':=by
  refine cardindexref04_Trees_Before.calls okay ?_
  unfold cardindexref04_Trees_Before.W
  intro g w1 f1 g1 w2 f2
  refine brd (fun _=>?_) fun h=>absurd hi h
  exact finE (K:=fun v w'=>EnR Ω w' none v/\Ext w w') (f1.ext.trans' f2.ext) f2.blk (Nat.le_trans f1.ext.size f2.ge) fun u' e' _=>⟨rfl,e'⟩
theorem After_specR {A:Option Addr} {c:Nat} {F:List (Int×Es)} (h:TrR Ω w A c F) {i:Nat} {r:Int} {es:Es} (hi:F[i]?=some (r,es)) (hu:UpE es) (hel:es.length<=100000) (last:Int) {Ω2:Nat->Prop} {KA:Option Addr} {key:Key} (hK:Imm KB Ω2 w KA key) (kc:Nat) (is:Bool) (hks:∀ p∈es,p.1.length<=1048576) :
    CallsV Tryz.prog 64 #[trV A c F last,iv i,.slice KA key.length kc,.bool is] w fun v w'=>EnR Ω w' (aftE key is es) v/\Ext w w':=by
  refine cardindexref04_Trees_After.calls okay ?_
  unfold cardindexref04_Trees_After.W
  intro g w1 f1 g1 w2 f2
  have e2:Ext w w2:=f1.ext.trans' f2.ext
  have hg1w:w.heap.size<=g1:=Nat.le_trans f1.ext.size f2.ge
  have bg:Blk w2 g [.slice A F.length c,.int .i64 last]:=f1.blk.ext f2.ext
  obtain ⟨Ω1,hΩe⟩:∃ Ω1:Nat->Prop,Ω1=fun k=>Ω k\/k=g1:=⟨_,rfl⟩
  have stE:∀ {u},Ext w u->Step Ω w Ω1 u:=fun e=>⟨e.size,fun k hk _=>e.block k hk fun h=>h,fun k hk h=>by
    rw [hΩe] at h
    rcases h with h|h
    · exact h
    · omega⟩
  have hple:=pos_le (keysE es) key
  rw [keysE_length] at hple
  refine brd (fun h=>by omega) fun _=>⟨_,_,_,bg.cell rfl,_,bg.cell rfl,(Place_spec (h.1.ext KTr_pos e2) hi (by omega) last (hK.ext KB_pos e2) kc hks).mono ?_⟩
  rintro _ w3 ⟨rfl,e3⟩
  refine ⟨_,_,rfl,fun x u=>x=((pos (keysE es) key+(if has (keysE es) key && !is then 1 else 0):Nat):Int)/\u=w3,?_,?_⟩
  · rintro _ _ ⟨rfl,rfl⟩
    have bg3:=bg.ext e3
    have e23:=e2.trans' e3
    refine ⟨_,_,_,bg3.cell rfl,_,bg3.cell rfl,(Entry_specR (h.keep (stE e23)) hi last _).mono ?_⟩
    rintro _ w4 ⟨hv,e4⟩
    rw [if_neg (by omega),Int.toNat_natCast,<- aft_pos hu] at hv
    obtain ⟨A1,n1,c1,A2,n2,c2,b,rfl⟩:=hv.form
    refine ⟨_,_,_,_,_,_,_,rfl,?_⟩
    have e24:=e23.trans' e4
    refine finE (K:=fun v w'=>EnR Ω w' (aftE key is es) v/\Ext w w') e24 ((f2.blk.ext e3).ext e4) hg1w fun u' e' f'=>⟨?_,e'⟩
    refine hv.keep ⟨f'.size,fun k hk hn=>f'.block k hk fun he=>hn ?_,fun k hk h=>?_⟩
    · rw [hΩe];exact .inr he
    · rw [hΩe];exact .inl h
  · cases hb:has (keysE es) key with
    | true =>
      cases is with
      | true=>exact ⟨rfl,rfl⟩
      | false=>exact ⟨by rw [wi _ (by omega) (by omega)];rfl,rfl⟩
    | false=>exact ⟨rfl,rfl⟩
theorem Before_specR {A:Option Addr} {c:Nat} {F:List (Int×Es)} (h:TrR Ω w A c F) {i:Nat} {r:Int} {es:Es} (hi:F[i]?=some (r,es)) (hu:UpE es) (hel:es.length<=100000) (last:Int) {Ω2:Nat->Prop} {KA:Option Addr} {key:Key} (hK:Imm KB Ω2 w KA key) (kc:Nat) (is:Bool) (hks:∀ p∈es,p.1.length<=1048576) :
    CallsV Tryz.prog 97 #[trV A c F last,iv i,.slice KA key.length kc,.bool is] w fun v w'=>EnR Ω w' (befE key is es) v/\Ext w w':=by
  refine cardindexref04_Trees_Before.calls okay ?_
  unfold cardindexref04_Trees_Before.W
  intro g w1 f1 g1 w2 f2
  have e2:Ext w w2:=f1.ext.trans' f2.ext
  have hg1w:w.heap.size<=g1:=Nat.le_trans f1.ext.size f2.ge
  have bg:Blk w2 g [.slice A F.length c,.int .i64 last]:=f1.blk.ext f2.ext
  obtain ⟨Ω1,hΩe⟩:∃ Ω1:Nat->Prop,Ω1=fun k=>Ω k\/k=g1:=⟨_,rfl⟩
  have stE:∀ {u},Ext w u->Step Ω w Ω1 u:=fun e=>⟨e.size,fun k hk _=>e.block k hk fun h=>h,fun k hk h=>by
    rw [hΩe] at h
    rcases h with h|h
    · exact h
    · omega⟩
  have hple:=pos_le (keysE es) key
  rw [keysE_length] at hple
  refine brd (fun h=>by omega) fun _=>⟨_,_,_,bg.cell rfl,_,bg.cell rfl,(Place_spec (h.1.ext KTr_pos e2) hi (by omega) last (hK.ext KB_pos e2) kc hks).mono ?_⟩
  rintro _ w3 ⟨rfl,e3⟩
  refine ⟨_,_,rfl,fun x u=>x=(if has (keysE es) key && is then ((pos (keysE es) key:Nat):Int) else ((pos (keysE es) key:Nat):Int)-1)/\u=w3,?_,?_⟩
  · rintro _ _ ⟨rfl,rfl⟩
    have bg3:=bg.ext e3
    have e23:=e2.trans' e3
    refine ⟨_,_,_,bg3.cell rfl,_,bg3.cell rfl,(Entry_specR (h.keep (stE e23)) hi last _).mono ?_⟩
    rintro _ w4 ⟨hv,e4⟩
    have he:(if (if (has (keysE es) key && is)=true then ((pos (keysE es) key:Nat):Int) else ((pos (keysE es) key:Nat):Int)-1)<0 then none else es[(if (has (keysE es) key && is)=true then ((pos (keysE es) key:Nat):Int) else ((pos (keysE es) key:Nat):Int)-1).toNat]?)=befE key is es:=by
      rw [bef_pos hu]
      cases hb:has (keysE es) key && is with
      | true =>
        simp only [if_true]
        rw [if_neg (by omega),Int.toNat_natCast]
      | false =>
        simp only [Bool.false_eq_true,if_false]
        by_cases h0:pos (keysE es) key=0
        · rw [if_pos h0,if_pos (by omega)]
        · rw [if_neg h0,if_neg (by omega)]
          congr 1;omega
    rw [he] at hv
    obtain ⟨A1,n1,c1,A2,n2,c2,b,rfl⟩:=hv.form
    refine ⟨_,_,_,_,_,_,_,rfl,?_⟩
    have e24:=e23.trans' e4
    refine finE (K:=fun v w'=>EnR Ω w' (befE key is es) v/\Ext w w') e24 ((f2.blk.ext e3).ext e4) hg1w fun u' e' f'=>⟨?_,e'⟩
    refine hv.keep ⟨f'.size,fun k hk hn=>f'.block k hk fun he=>hn ?_,fun k hk h=>?_⟩
    · rw [hΩe];exact .inr he
    · rw [hΩe];exact .inl h
  · cases hb:has (keysE es) key with
    | true =>
      cases is with
      | true=>exact ⟨rfl,rfl⟩
      | false=>exact ⟨by rw [wi _ (by omega) (by omega)];rfl,rfl⟩
    | false=>exact ⟨by rw [wi _ (by omega) (by omega)];rfl,rfl⟩
end
end Go.Proofs.YthfagbfllheneaaGreat
set_option linter.unusedVariables false
set_option linter.unusedSimpArgs false
namespace Go.Proofs.YthfagbfllheneaaGreat
open Go Go.Sx T4
/-! ## forests -/
def fo (d:Tr):Int×Es:=(d.r,d.es)
abbrev foD (Ds:List Tr):List (Int×Es):=Ds.map fo
def gF:List (Int×Es)->Int->Option Es
  | [],_=>none
  | (x,u)::l,a=>if a=x then some u else gF l a
theorem gF_none {F:List (Int×Es)} {r:Int} (h:∀ p∈F,p.1≠r):gF F r=none:=by
  induction F with
  | nil=>rfl
  | cons p F ih =>
    obtain ⟨x,u⟩:=p
    have hx:x≠r:=h (x,u) (by simp)
    show (if r=x then some u else gF F r)=none
    rw [if_neg fun e=>hx e.symm]
    exact ih fun p hp=>h p (by simp [hp])
theorem gF_at:∀ {F:List (Int×Es)} {r:Int} {j:Nat} {es:Es},F[j]?=some (r,es)->(∀ k p,F[k]?=some p->k<j->p.1≠r)->gF F r=some es
  | [],_,_,_,h,_=>by simp at h
  | (x,u)::F,r,0,es,h,_=>by
    simp at h
    obtain ⟨rfl,rfl⟩:=h
    show (if x=x then some u else _)=_
    rw [if_pos rfl]
  | (x,u)::F,r,j+1,es,h,hn=>by
    have hx:x≠r:=hn 0 (x,u) rfl (by omega)
    show (if r=x then some u else gF F r)=_
    rw [if_neg fun e=>hx e.symm]
    exact gF_at (by simpa using h) fun k p hk hlt=>hn (k+1) p (by simpa using hk) (by omega)
theorem Fnd.cases {F:List (Int×Es)} {r i:Int} (h:Fnd F r i):(i=-1/\gF F r=none/\∀ p∈F,p.1≠r)\/∃ (j:Nat) (es:Es),i=(j:Int)/\F[j]?=some (r,es)/\gF F r=some es:=by
  rcases h with ⟨h1,h2⟩|⟨j,es,h1,h2,h3⟩
  · exact .inl ⟨h1,gF_none h2,h2⟩
  · exact .inr ⟨j,es,h1,h2,gF_at h2 h3⟩
theorem find_split {Ds:List Tr} {r:Int}:(gF (foD Ds) r=none/\∀ d∈Ds,d.r≠r)\/∃ D1 d D2,Ds=D1++d::D2/\d.r=r/\gF (foD Ds) r=some d.es:=by
  induction Ds with
  | nil=>exact .inl ⟨rfl,fun d h=>by cases h⟩
  | cons x Ds ih =>
    by_cases hx:r=x.r
    · exact .inr ⟨[],x,Ds,rfl,hx.symm,by show (if r=x.r then some x.es else _)=_;rw [if_pos hx]⟩
    · have e:gF (foD (x::Ds)) r=gF (foD Ds) r:=by show (if r=x.r then some x.es else _)=_;rw [if_neg hx]
      rcases ih with ⟨h1,h2⟩|⟨D1,d,D2,h1,h2,h3⟩
      · refine .inl ⟨by rw [e];exact h1,fun d hd=>?_⟩
        rcases List.mem_cons.1 hd with rfl|hd
        · exact fun h=>hx h.symm
        · exact h2 d hd
      · exact .inr ⟨x::D1,d,D2,by rw [h1];rfl,h2,by rw [e];exact h3⟩
section
variable {R M:Nat->Prop} {w:World} {g:Nat} {A:Ar} {Ds:List Tr}
theorem uAfter (h:Ar1 R M w g A) (hI:Inv A Ds) (root:Int) {key:Key} {Ω:Nat->Prop} {KA:Option Addr} (hKA:Imm KB Ω w KA key) (kc:Nat) (at_:Bool) :
    CallsV Tryz.prog 72 #[.pointer (some ⟨g,0,none⟩),.int .i64 root,.slice KA key.length kc,.bool at_] w fun r w'=>Told w ((gF (foD Ds) root).bind (aftE key at_)) r w'/\Ext w w':=by
  rcases find_split (Ds:=Ds) (r:=root) with ⟨h1,h2⟩|⟨D1,d,D2,rfl,rfl,h3⟩
  · rw [h1]
    refine (After_none h (by have:=hI.f1;omega) (hI.miss h2) KA key.length kc at_).mono ?_
    rintro _ w' ⟨rfl,rfl⟩
    exact ⟨rfl,.refl _ _⟩
  · rw [h3]
    exact oAfter h hI.one.1 hKA kc at_
theorem uBefore (h:Ar1 R M w g A) (hI:Inv A Ds) (root:Int) {key:Key} {Ω:Nat->Prop} {KA:Option Addr} (hKA:Imm KB Ω w KA key) (kc:Nat) (at_:Bool) :
    CallsV Tryz.prog 73 #[.pointer (some ⟨g,0,none⟩),.int .i64 root,.slice KA key.length kc,.bool at_] w fun r w'=>Told w ((gF (foD Ds) root).bind (befE key at_)) r w'/\Ext w w':=by
  rcases find_split (Ds:=Ds) (r:=root) with ⟨h1,h2⟩|⟨D1,d,D2,rfl,rfl,h3⟩
  · rw [h1]
    refine (Before_none h (by have:=hI.f1;omega) (hI.miss h2) KA key.length kc at_).mono ?_
    rintro _ w' ⟨rfl,rfl⟩
    exact ⟨rfl,.refl _ _⟩
  · rw [h3]
    exact oBefore h hI.one.1 hKA kc at_
theorem uLast (h:Ar1 R M w g A) (hI:Inv A Ds) (root:Int) :
    CallsV Tryz.prog 75 #[.pointer (some ⟨g,0,none⟩),.int .i64 root] w fun r w'=>Told w ((gF (foD Ds) root).bind fun es=>es.getLast?) r w'/\Ext w w':=by
  rcases find_split (Ds:=Ds) (r:=root) with ⟨h1,h2⟩|⟨D1,d,D2,rfl,rfl,h3⟩
  · rw [h1]
    refine (Last_none h (by have:=hI.f1;omega) (hI.miss h2)).mono ?_
    rintro _ w' ⟨rfl,rfl⟩
    exact ⟨rfl,.refl _ _⟩
  · rw [h3]
    exact oLast h hI.one.1
def lenO:Option Es->Nat
  | none=>0
  | some es=>es.length
theorem uGet (h:Ar1 R M w g A) (hI:Inv A Ds) (root:Int) {key:Key} {Ω:Nat->Prop} {KA:Option Addr} (hKA:Imm KB Ω w KA key) (kc:Nat) :
    CallsV Tryz.prog 104 #[.pointer (some ⟨g,0,none⟩),.int .i64 root,.slice KA key.length kc] w fun r w'=>Ext w w'/\(match (gF (foD Ds) root).bind (getE key) with|none=>r=.tuple #[.slice none 0 0,.bool false]|some v=>∃ B d,r=.tuple #[.slice B v.length d,.bool true]/\OwnB w' B d v/\New w B/\v.length<=1048576):=by
  rcases find_split (Ds:=Ds) (r:=root) with ⟨h1,h2⟩|⟨D1,d,D2,rfl,rfl,h3⟩
  · rw [h1]
    refine (Get_none h (by have:=hI.f1;omega) (hI.miss h2) KA key.length kc).mono ?_
    rintro _ w' ⟨rfl,rfl⟩
    exact ⟨.refl _ _,rfl⟩
  · rw [h3]
    exact oGet h hI.one.1 hKA kc
theorem Inv.upD (hI:Inv A Ds) {root:Int} {es:Es} (h:gF (foD Ds) root=some es):UpE es:=by
  rcases find_split (Ds:=Ds) (r:=root) with ⟨h1,h2⟩|⟨D1,d,D2,rfl,rfl,h3⟩
  · rw [h1] at h;cases h
  · rw [h3] at h;cases h;exact hI.one.1.upE
end
/-! ## the document's -/
structure Sml (F:List (Int×Es)) (n:Nat):Prop where
  len:F.length<=n
  es:∀ p∈F,p.2.length<=n
  keys:∀ p∈F,∀ q∈p.2,q.1.length<=1048576
theorem Sml.mono {F:List (Int×Es)} {n m:Nat} (h:Sml F n) (hm:n<=m):Sml F m:=⟨Nat.le_trans h.len hm,fun p hp=>Nat.le_trans (h.es p hp) hm,h.keys⟩
section
variable {w:World} {Ω:Nat->Prop}
theorem rAfter {A:Option Addr} {c:Nat} {F:List (Int×Es)} (h:TrR Ω w A c F) {n:Nat} (hs:Sml F n) (hn:n<=100000) {root i:Int} (hf:Fnd F root i) (hu:∀ es,gF F root=some es->UpE es) (last:Int) {Ω1:Nat->Prop} {KA:Option Addr} {key:Key} (hK:Imm KB Ω1 w KA key) (kc:Nat) (is:Bool) :
    CallsV Tryz.prog 64 #[trV A c F last,.int .i64 i,.slice KA key.length kc,.bool is] w fun v w'=>EnR Ω w' ((gF F root).bind (aftE key is)) v/\Ext w w':=by
  rcases hf.cases with ⟨rfl,h1,_⟩|⟨j,es,rfl,h1,h2⟩
  · rw [h1];exact After_no last _ (by decide) KA key.length kc is
  · rw [h2]
    have hm:=List.mem_of_getElem? h1
    exact After_specR h h1 (hu es h2) (by have h9:es.length<=n:=hs.es _ hm;omega) last hK kc is (hs.keys _ hm)
theorem rBefore {A:Option Addr} {c:Nat} {F:List (Int×Es)} (h:TrR Ω w A c F) {n:Nat} (hs:Sml F n) (hn:n<=100000) {root i:Int} (hf:Fnd F root i) (hu:∀ es,gF F root=some es->UpE es) (last:Int) {Ω1:Nat->Prop} {KA:Option Addr} {key:Key} (hK:Imm KB Ω1 w KA key) (kc:Nat) (is:Bool) :
    CallsV Tryz.prog 97 #[trV A c F last,.int .i64 i,.slice KA key.length kc,.bool is] w fun v w'=>EnR Ω w' ((gF F root).bind (befE key is)) v/\Ext w w':=by
  rcases hf.cases with ⟨rfl,h1,_⟩|⟨j,es,rfl,h1,h2⟩
  · rw [h1];exact Before_no last _ (by decide) KA key.length kc is
  · rw [h2]
    have hm:=List.mem_of_getElem? h1
    exact Before_specR h h1 (hu es h2) (by have h9:es.length<=n:=hs.es _ hm;omega) last hK kc is (hs.keys _ hm)
theorem rEntry {A:Option Addr} {c:Nat} {F:List (Int×Es)} (h:TrR Ω w A c F) {root i:Int} (hf:Fnd F root i) (last k:Int) :
    CallsV Tryz.prog 92 #[trV A c F last,.int .i64 i,.int .i64 k] w fun v w'=>EnR Ω w' ((gF F root).bind fun es=>if k<0 then none else es[k.toNat]?) v/\Ext w w':=by
  rcases hf.cases with ⟨rfl,h1,_⟩|⟨j,es,rfl,h1,h2⟩
  · rw [h1];exact Entry_no last _ k (by decide)
  · rw [h2]
    exact Entry_specR h h1 last k
def TI (Ω:Nat->Prop) (w:World) (x:Option (Key×Key)) (A:Option Addr) (n:Nat) (B:Option Addr) (m:Nat) (ok:Bool):Prop:=match x with
  | none=>A=none/\n=0/\B=none/\m=0/\ok=false
  | some (k,v)=>n=k.length/\m=v.length/\ok=true/\Imm KB Ω w A k/\Imm KB Ω w B v
theorem Told.ti {w0:World} {x:Option (Key×Key)} {r:Value} (h:Told w0 x r w) (hΩ:∀ k,Ω k->k<w0.heap.size):∃ A n c B m d ok,r=.tuple #[.slice A n c,.slice B m d,.bool ok]/\TI Ω w x A n B m ok:=by
  cases x with
  | none=>exact ⟨none,0,0,none,0,0,false,h,rfl,rfl,rfl,rfl,rfl⟩
  | some p =>
    obtain ⟨k,v⟩:=p
    obtain ⟨A,c,B,d,rfl,h2,h3,n1,n2,_⟩:=h
    exact ⟨A,_,c,B,_,d,true,rfl,rfl,rfl,rfl,h2.imm fun b hb hω=>by have:=n1 b hb;have:=hΩ b hω;omega,h3.imm fun b hb hω=>by have:=n2 b hb;have:=hΩ b hω;omega⟩
end
theorem gF_nd {F:List (Int×Es)} (hn:(F.map fun p=>p.1).Nodup) {k:Nat} {r:Int} {es:Es} (h:F[k]?=some (r,es)):gF F r=some es:=by
  refine gF_at h fun j p hj hlt he=>?_
  have h1:(F.map fun p=>p.1)[j]?=some r:=by simp [hj,he]
  have h2:(F.map fun p=>p.1)[k]?=some r:=by simp [h]
  have hk:=(List.getElem?_eq_some_iff.1 h2).1
  have:=(List.getElem?_inj (by have:=(List.getElem?_eq_some_iff.1 h1).1;exact this) hn).1 (h1.trans h2.symm)
  omega
theorem Inv.ndF {A:Ar} {Ds:List Tr} (h:Inv A Ds):((foD Ds).map fun p=>p.1).Nodup:=by
  have:=h.nd
  have e:(foD Ds).map (fun p=>p.1)=Ds.map fun d=>d.r:=by unfold foD;rw [List.map_map];rfl
  rw [e];exact this
theorem insE_sml {key val:Key} {es:Es} {n:Nat} (hk:key.length<=1048576) (h:es.length<=n) (hks:∀ q∈es,q.1.length<=1048576):(insE key val es).length<=n+1/\∀ q∈insE key val es,q.1.length<=1048576:=by
  refine ⟨by rw [len_insE];split<;>omega,fun q hq=>?_⟩
  rcases insE_mem hq with rfl|hq
  · exact hk
  · exact hks q hq
theorem delE_sml {key:Key} {es:Es} {n:Nat} (h:es.length<=n) (hks:∀ q∈es,q.1.length<=1048576):(delE key es).length<=n/\∀ q∈delE key es,q.1.length<=1048576 :=
  ⟨Nat.le_trans delE_sub.length_le h,fun q hq=>hks q (delE_sub.subset hq)⟩
theorem Sml.set {F:List (Int×Es)} {n:Nat} (h:Sml F n) (j:Nat) (r:Int) {es:Es} (h1:es.length<=n) (h2:∀ q∈es,q.1.length<=1048576):Sml (F.set j (r,es)) n:=by
  refine ⟨by simpa using h.len,fun p hp=>?_,fun p hp=>?_⟩
  · rcases List.mem_or_eq_of_mem_set hp with hp|rfl
    · exact h.es p hp
    · exact h1
  · rcases List.mem_or_eq_of_mem_set hp with hp|rfl
    · exact h.keys p hp
    · exact h2
end Go.Proofs.YthfagbfllheneaaGreat
set_option linter.unusedVariables false
set_option maxRecDepth 100000
namespace Go.Proofs.YthfagbfllheneaaGreat
open Go Go.Sx Value IntKind World Addr Builtin
noncomputable def undo_New.W:Int->Int->World->(Value->World->Prop)->Prop:=fun fan most w K=>CallsV Tryz.prog 59 #[int i64 fan,int i64 most] w fun v w'=>∃ x x_1,v=tuple #[pointer x,
 int i64 x_1]/\bif !decide (x_1=0) then K (tuple #[pointer none,int i64 x_1]) w' else ∀ g w'_1,Fresh w' g w'_1 [pointer x,slice none 0 0,slice none 0 0] 42->K
 (tuple #[pointer (some (mk g 0 none)),int i64 0]) w'_1
theorem undo_New.calls (ok:Okay Tryz.prog) {fan most w K} (h:undo_New.W fan most w K):CallsV Tryz.prog 19 #[.int .i64 fan,.int .i64 most] w K :=
  fnW_calls ok Tryz.func19 (an:=(.named .auto)) (args:=[.int .i64 fan,.int .i64 most]) (Eq.mp (by kernel_rfl) h)
noncomputable def undo_Store_of.W:Option Addr->World->(Value->World->Prop)->Prop:=fun s w K=>bif Option.isNone s then K (pointer none) w else ∃ a,s=some a/\∃ x,cell? w
 (add a 0)=some (pointer x)/\K (pointer x) w
theorem undo_Store_of.calls (ok:Okay Tryz.prog) {s w K} (h:undo_Store_of.W s w K):CallsV Tryz.prog 52 #[.pointer s] w K :=
  fnW_calls ok Tryz.func52 (an:=(.named .auto)) (args:=[.pointer s]) (Eq.mp (by kernel_rfl) h)
noncomputable def undo_Store_made.W:Option Addr->World->(Value->World->Prop)->Prop:=fun s w K=>bif !Option.isNone s then ∃ a,s=some a/\∃ x,cell? w (add a 0)=some
 (pointer x)/\K (bool !Option.isNone x) w else K (bool false) w
theorem undo_Store_made.calls (ok:Okay Tryz.prog) {s w K} (h:undo_Store_made.W s w K):CallsV Tryz.prog 66 #[.pointer s] w K :=
  fnW_calls ok Tryz.func66 (an:=(.named .auto)) (args:=[.pointer s]) (Eq.mp (by kernel_rfl) h)
noncomputable def undo_Store_is.W:Option Addr->Int->World->(Value->World->Prop)->Prop:=fun s n w K=>CallsV Tryz.prog 66 #[pointer s] w fun v w'=>∃ x,v=bool x/\bif !x then K (int i64
 1) w' else bif decide (n<1) then K (int i64 60) w' else ∃ a,s=some a/\∃ x x_1 x_2,cell? w' (add a 2)=some (slice x x_1 x_2)/\bif decide ((x_1:Int)<n)
 then K (int i64 60) w' else K (int i64 0) w'
theorem undo_Store_is.calls (ok:Okay Tryz.prog) {s n w K} (h:undo_Store_is.W s n w K):CallsV Tryz.prog 68 #[.pointer s,.int .i64 n] w K :=
  fnW_calls ok Tryz.func68 (an:=(.named .auto)) (args:=[.pointer s,.int .i64 n]) (Eq.mp (by kernel_rfl) h)
noncomputable def undo_Store_Create.W:Option Addr->World->(Value->World->Prop)->Prop:=fun s w K=>CallsV Tryz.prog 52 #[pointer s] w fun v w'=>∃ x,v=pointer x/\CallsV Tryz.prog 60
 #[pointer x] w' fun v w'=>∃ x x_1,v=tuple #[int i64 x,int i64 x_1]/\bif decide (x_1=0) then ∃ a,s=some a/\∃ x_2 x_3 x_4,cell? w' (add a 1)=some (slice x_2 x_3
 x_4)/\∀ g w'_1,Fresh w' g w'_1 [int i64 x] 3->∃ x_5 x_6 x_7 w',RunsTo Tryz.prog (append_ (Array.mk [39,39]) 39 #[slice x_2 x_3 x_4,slice (some (mk g 0 none)) 1 1]) w'_1 (slice x_5
 x_6 x_7) w'/\∃ a,s=some a/\stOK (add a 1) 0 [slice x_5 x_6 x_7] w'/\∀ w'_2,w'_2=setAll (add a 1) 0 [slice x_5 x_6 x_7] w'->K (tuple #[int i64 x,int i64 x_1]) w'_2 else K (tuple #[int
 i64 x,int i64 x_1]) w'
theorem undo_Store_Create.calls (ok:Okay Tryz.prog) {s w K} (h:undo_Store_Create.W s w K):CallsV Tryz.prog 20 #[.pointer s] w K :=
  fnW_calls ok Tryz.func20 (an:=(.named .auto)) (args:=[.pointer s]) (Eq.mp (by kernel_rfl) h)
noncomputable def undo_Store_Drop.W:Option Addr->Int->World->(Value->World->Prop)->Prop:=fun s id w K=>∀ g w',Fresh w g w' [int i64 id] 3->∃ (J:Int->World->Prop),(∀ x w,J x w->bif
 decide (x=0) then ∃ a,s=some a/\∃ x_1 x_2 x_3,cell? w (add a 1)=some (slice x_1 x_2 x_3)/\CallsV Tryz.prog 55 #[slice x_1 x_2 x_3] w fun v w'=>∃ x_4 x_5 x_6,v =
 slice x_4 x_5 x_6/\CallsV Tryz.prog 54 #[slice x_4 x_5 x_6,func (Fn.func 56) #[] #[pointer (some (mk g 0 none))]] w' fun v w'=>∃ x_7 x_8 x_9,v=slice x_7 x_8 x_9/\∃ a,s =
 some a/\stOK (add a 1) 0 [slice x_7 x_8 x_9] w'/\∀ w'_1,w'_1=setAll (add a 1) 0 [slice x_7 x_8 x_9] w'->K (int i64 x) w'_1 else K (int i64 x) w)/\∃ (S:World->Prop),S (drew w')/\∃ x,
 (∀ u,S u->cell? u (mk g 0 none)=some (int i64 x))/\CallsV Tryz.prog 52 #[pointer s] (drew w') fun v w'=>∃ x_1,v=pointer x_1/\S w'/\CallsV Tryz.prog 53 #[pointer x_1,int i64
 x] w' fun v w'=>∃ x,v=int i64 x/\J x w'
theorem undo_Store_Drop.calls (ok:Okay Tryz.prog) {s id w K} (h:undo_Store_Drop.W s id w K):CallsV Tryz.prog 15 #[.pointer s,.int .i64 id] w K :=
  fnW_calls ok Tryz.func15 (an:=(.named (.seq .auto (.join [(5,.one (.int .i64))] .auto .auto)))) (args:=[.pointer s,.int .i64 id]) (Eq.mp (by kernel_rfl) h)
noncomputable def undo_Store_Put.W:Option Addr->Int->Option Addr->Nat->Nat->Option Addr->Nat->Nat->World->(Value->World->Prop)->Prop:=fun s id key_A key_n key_c val_A val_n val_c w K =>
 CallsV Tryz.prog 52 #[pointer s] w fun v w'=>∃ x,v=pointer x/\CallsV Tryz.prog 61 #[pointer x,int i64 id,slice key_A key_n key_c,slice val_A val_n val_c] w' fun v w'=>∃ x x_1,v=tuple
 #[bool x,int i64 x_1]/\K (tuple #[bool x,int i64 x_1]) w'
theorem undo_Store_Put.calls (ok:Okay Tryz.prog) {s id key_A key_n key_c val_A val_n val_c w K} (h:undo_Store_Put.W s id key_A key_n key_c val_A val_n val_c w K):CallsV Tryz.prog 22 #[.pointer s,.int .i64 id,.slice key_A key_n key_c,.slice val_A val_n val_c] w K :=
  fnW_calls ok Tryz.func22 (an:=(.named .auto)) (args:=[.pointer s,.int .i64 id,.slice key_A key_n key_c,.slice val_A val_n val_c]) (Eq.mp (by kernel_rfl) h)
noncomputable def undo_Store_Delete.W:Option Addr->Int->Option Addr->Nat->Nat->World->(Value->World->Prop)->Prop:=fun s id key_A key_n key_c w K=>CallsV Tryz.prog 52 #[pointer s] w fun v
 w'=>∃ x,v=pointer x/\CallsV Tryz.prog 65 #[pointer x,int i64 id,slice key_A key_n key_c] w' fun v w'=>∃ x x_1,v=tuple #[bool x,int i64 x_1]/\K (tuple #[bool x,int i64 x_1]) w'
theorem undo_Store_Delete.calls (ok:Okay Tryz.prog) {s id key_A key_n key_c w K} (h:undo_Store_Delete.W s id key_A key_n key_c w K):CallsV Tryz.prog 30 #[.pointer s,.int .i64 id,.slice key_A key_n key_c] w K :=
  fnW_calls ok Tryz.func30 (an:=(.named .auto)) (args:=[.pointer s,.int .i64 id,.slice key_A key_n key_c]) (Eq.mp (by kernel_rfl) h)
noncomputable def undo_Store_Get.W:Option Addr->Int->Option Addr->Nat->Nat->World->(Value->World->Prop)->Prop:=fun s id key_A key_n key_c w K=>CallsV Tryz.prog 52 #[pointer s] w fun v w'
 => ∃ x,v=pointer x/\CallsV Tryz.prog 104 #[pointer x,int i64 id,slice key_A key_n key_c] w' fun v w'=>∃ x x_1 x_2 x_3,v=tuple #[slice x x_1 x_2,bool x_3]/\K (tuple #[slice x x_1 x_2,bool
 x_3]) w'
theorem undo_Store_Get.calls (ok:Okay Tryz.prog) {s id key_A key_n key_c w K} (h:undo_Store_Get.W s id key_A key_n key_c w K):CallsV Tryz.prog 82 #[.pointer s,.int .i64 id,.slice key_A key_n key_c] w K :=
  fnW_calls ok Tryz.func82 (an:=(.named .auto)) (args:=[.pointer s,.int .i64 id,.slice key_A key_n key_c]) (Eq.mp (by kernel_rfl) h)
noncomputable def undo_Store_After.W:Option Addr->Int->Option Addr->Nat->Nat->Bool->World->(Value->World->Prop)->Prop:=fun s id key_A key_n key_c atx w K=>CallsV Tryz.prog 52 #[pointer
 s] w fun v w'=>∃ x,v=pointer x/\CallsV Tryz.prog 72 #[pointer x,int i64 id,slice key_A key_n key_c,bool atx] w' fun v w'=>∃ x x_1 x_2 x_3 x_4 x_5 x_6,v=tuple #[slice x x_1 x_2,slice x_3
 x_4 x_5,bool x_6]/\K (tuple #[slice x x_1 x_2,slice x_3 x_4 x_5,bool x_6]) w'
theorem undo_Store_After.calls (ok:Okay Tryz.prog) {s id key_A key_n key_c atx w K} (h:undo_Store_After.W s id key_A key_n key_c atx w K):CallsV Tryz.prog 42 #[.pointer s,.int .i64 id,.slice key_A key_n key_c,.bool atx] w K :=
  fnW_calls ok Tryz.func42 (an:=(.named .auto)) (args:=[.pointer s,.int .i64 id,.slice key_A key_n key_c,.bool atx]) (Eq.mp (by kernel_rfl) h)
noncomputable def undo_Store_Before.W:Option Addr->Int->Option Addr->Nat->Nat->Bool->World->(Value->World->Prop)->Prop:=fun s id key_A key_n key_c atx w K=>CallsV Tryz.prog 52 #[pointer
 s] w fun v w'=>∃ x,v=pointer x/\CallsV Tryz.prog 73 #[pointer x,int i64 id,slice key_A key_n key_c,bool atx] w' fun v w'=>∃ x x_1 x_2 x_3 x_4 x_5 x_6,v=tuple #[slice x x_1 x_2,slice x_3
 x_4 x_5,bool x_6]/\K (tuple #[slice x x_1 x_2,slice x_3 x_4 x_5,bool x_6]) w'
theorem undo_Store_Before.calls (ok:Okay Tryz.prog) {s id key_A key_n key_c atx w K} (h:undo_Store_Before.W s id key_A key_n key_c atx w K):CallsV Tryz.prog 45 #[.pointer s,.int .i64 id,.slice key_A key_n key_c,.bool atx] w K :=
  fnW_calls ok Tryz.func45 (an:=(.named .auto)) (args:=[.pointer s,.int .i64 id,.slice key_A key_n key_c,.bool atx]) (Eq.mp (by kernel_rfl) h)
noncomputable def undo_Store_Last.W:Option Addr->Int->World->(Value->World->Prop)->Prop:=fun s id w K=>CallsV Tryz.prog 52 #[pointer s] w fun v w'=>∃ x,v=pointer x/\CallsV Tryz.prog
 75 #[pointer x,int i64 id] w' fun v w'=>∃ x x_1 x_2 x_3 x_4 x_5 x_6,v=tuple #[slice x x_1 x_2,slice x_3 x_4 x_5,bool x_6]/\K (tuple #[slice x x_1 x_2,slice x_3 x_4 x_5,bool x_6]) w'
theorem undo_Store_Last.calls (ok:Okay Tryz.prog) {s id w K} (h:undo_Store_Last.W s id w K):CallsV Tryz.prog 50 #[.pointer s,.int .i64 id] w K :=
  fnW_calls ok Tryz.func50 (an:=(.named .auto)) (args:=[.pointer s,.int .i64 id]) (Eq.mp (by kernel_rfl) h)
noncomputable def undo_Store_Trees.W:Option Addr->World->(Value->World->Prop)->Prop:=fun s w K=>bif Option.isNone s then K (slice none 0 0) w else ∃ a,s=some a/\∃ x x_1
 x_2,cell? w (add a 1)=some (slice x x_1 x_2)/\CallsV Tryz.prog 55 #[slice x x_1 x_2] w fun v w'=>∃ x x_3 x_4,v=slice x x_3 x_4/\K (slice x x_3 x_4) w'
theorem undo_Store_Trees.calls (ok:Okay Tryz.prog) {s w K} (h:undo_Store_Trees.W s w K):CallsV Tryz.prog 49 #[.pointer s] w K :=
  fnW_calls ok Tryz.func49 (an:=(.named .auto)) (args:=[.pointer s]) (Eq.mp (by kernel_rfl) h)
noncomputable def undo_Store_Check.W:Option Addr->World->(Value->World->Prop)->Prop:=fun s w K=>CallsV Tryz.prog 52 #[pointer s] w fun v w'=>∃ x,v=pointer x/\CallsV Tryz.prog 76
 #[pointer x] w' fun v w'=>∃ x,v=int i64 x/\K (int i64 x) w'
theorem undo_Store_Check.calls (ok:Okay Tryz.prog) {s w K} (h:undo_Store_Check.W s w K):CallsV Tryz.prog 51 #[.pointer s] w K :=
  fnW_calls ok Tryz.func51 (an:=(.named .auto)) (args:=[.pointer s]) (Eq.mp (by kernel_rfl) h)
noncomputable def undo_Store_Mark.W:Option Addr->World->(Value->World->Prop)->Prop:=fun s w K=>CallsV Tryz.prog 66 #[pointer s] w fun v w'=>∃ x,v=bool x/\bif !x then K (tuple #[int i64
 0,int i64 1]) w' else ∃ a,s=some a/\∃ x x_1 x_2,cell? w' (add a 2)=some (slice x x_1 x_2)/\bif decide (100<=(x_1:Int)) then K (tuple #[int i64 0,int i64 5]) w' else
 ∃ (J:World->Prop),(∀ w,J w->∃ a,s=some a/\∃ x x_3 x_4,cell? w (add a 2)=some (slice x x_3 x_4)/\K (tuple #[int i64 (x_3:Int),int i64 0]) w)/\∃ a,s=some a/\∃
 (S:World->Prop),S (drew w')/\∃ x x_3 x_4,(∀ u,S u->cell? u (add a 2)=some (slice x x_3 x_4))/\∃ a,s=some a/\∃ x_5,(∀ u,S u->cell? u (add a 0)=some (pointer
 x_5))/\∃ a,s=some a/\∃ x_6 x_7 x_8,(∀ u,S u->cell? u (add a 1)=some (slice x_6 x_7 x_8))/\CallsV Tryz.prog 67 #[pointer x_5] (drew w') fun v w'=>∃ x_9,v=pointer x_9/\S w'
 /\ CallsV Tryz.prog 55 #[slice x_6 x_7 x_8] w' fun v w'=>∃ x_10 x_11 x_12,v=slice x_10 x_11 x_12/\S w'/\∀ g w'_1,Fresh w' g w'_1 [pointer x_9,slice x_10 x_11 x_12] 114->S w'_1/\∃ x_13 x_14
 x_15 w',RunsTo Tryz.prog (append_ (Array.mk [40,40]) 40 #[slice x x_3 x_4,slice (some (mk g 0 none)) 1 1]) w'_1 (slice x_13 x_14 x_15) w'/\∃ a,s=some a/\stOK (add a 2) 0
 [slice x_13 x_14 x_15] w'/\∀ w'_2,w'_2=setAll (add a 2) 0 [slice x_13 x_14 x_15] w'->J w'_2
theorem undo_Store_Mark.calls (ok:Okay Tryz.prog) {s w K} (h:undo_Store_Mark.W s w K):CallsV Tryz.prog 31 #[.pointer s] w K :=
  fnW_calls ok Tryz.func31 (an:=(.named (.seq .auto (.seq .auto (.join [] .auto .auto))))) (args:=[.pointer s]) (Eq.mp (by kernel_rfl) h)
noncomputable def undo_Store_Back.W:Option Addr->Int->World->(Value->World->Prop)->Prop:=fun s n w K=>CallsV Tryz.prog 68 #[pointer s,int i64 n] w fun v w'=>∃ x,v=int i64 x/\bif
 !decide (x=0) then K (int i64 x) w' else ∃ a,s=some a/\∃ x x_1 x_2,cell? w' (add a 2)=some (slice x x_1 x_2)/\∃ ad,x=some ad/\(0<=wrap i64 (n-1)/\wrap
 i64 (n-1)<(x_1:Int))/\∃ x,cell? w' (add (add ad (Int.toNat (wrap i64 (n-1))*2)) 0)=some (pointer x)/\∃ x_3 x_4 x_5,cell? w' (add (add ad (Int.toNat (wrap i64 (n-1))*2)) 1) =
 some (slice x_3 x_4 x_5)/\∀ g w'_1,Fresh w' g w'_1 [pointer none,slice none 0 0] 114->stOK (mk g 0 none) 0 [pointer x,slice x_3 x_4 x_5] w'_1/\∀ w',w'=setAll (mk g
 0 none) 0 [pointer x,slice x_3 x_4 x_5] w'_1->∃ (J:World->Prop),(∀ w,J w->∃ a,s=some a/\∃ (S:World->Prop),S (drew w)/\∃ x,(∀ u,S u->cell? u (add a 0)=some
 (pointer x))/\∃ x_6,(∀ u,S u->cell? u (add (mk g 0 none) 0)=some (pointer x_6))/\CallsV Tryz.prog 69 #[pointer x,pointer x_6] (drew w) fun v w'=>∃ x,v=int i64 x/\K (int i64
 x) w')/\∃ (S:World->Prop),S (drew w')/\∃ x x_6 x_7,(∀ u,S u->cell? u (add (mk g 0 none) 1)=some (slice x x_6 x_7))/\∃ a,s=some a/\∃ x_8 x_9 x_10,(∀ u,S u->cell?
 u (add a 2)=some (slice x_8 x_9 x_10))/\(0<=wrap i64 (n-1)/\wrap i64 (n-1)<=(x_10:Int))/\∃ a,s=some a/\stOK (add a 1) 0 [slice x x_6 x_7] (drew w')/\∀ w'_2,w'_2 =
 setAll (add a 1) 0 [slice x x_6 x_7] (drew w')->∃ a,s=some a/\stOK (add a 2) 0 [slice (cutAt x_8 x_10 0 2) (Int.toNat (wrap i64 (n-1))-0) (x_10-0)] w'_2/\∀ w',w'=setAll (add a 2)
 0 [slice (cutAt x_8 x_10 0 2) (Int.toNat (wrap i64 (n-1))-0) (x_10-0)] w'_2->J w'
theorem undo_Store_Back.calls (ok:Okay Tryz.prog) {s n w K} (h:undo_Store_Back.W s n w K):CallsV Tryz.prog 33 #[.pointer s,.int .i64 n] w K :=
  fnW_calls ok Tryz.func33 (an:=(.named (.seq .auto (.seq .auto (.seq .auto (.join [] .auto .auto)))))) (args:=[.pointer s,.int .i64 n]) (Eq.mp (by kernel_rfl) h)
noncomputable def undo_Store_Drop_1.W:Int->Addr->World->(Value->World->Prop)->Prop:=fun x a1 w K=>∃ x_1,cell? w a1=some (int i64 x_1)/\K (bool (decide (x=x_1))) w
theorem undo_Store_Drop_1.calls (ok:Okay Tryz.prog) {x a1 w K} (h:undo_Store_Drop_1.W x a1 w K):CallsV Tryz.prog 56 #[.int .i64 x,.pointer (some a1)] w K :=
  fnW_calls ok Tryz.func56 (an:=(.named .auto)) (args:=[.int .i64 x,.pointer (some a1)]) (Eq.mp (by kernel_rfl) h)
end Go.Proofs.YthfagbfllheneaaGreat
set_option linter.unusedVariables false
set_option maxRecDepth 100000
namespace Go.Proofs.YthfagbfllheneaaGreat
open Go Go.Sx Value IntKind World Addr Builtin
noncomputable def slices_DeleteFunc_int_int.W:Option Addr->Nat->Nat->Value->World->(Value->World->Prop)->Prop:=fun s_A s_n s_c del w K=>CallsV Tryz.prog 81 #[slice s_A s_n s_c,del] w fun
 v w'=>∃ x,v=int i64 x/\bif decide (x=(-1:Int)) then K (slice s_A s_n s_c) w' else ∃ (I:Int->Int->World->Prop) (μ:Int->Int->World->Nat),I x (wrap i64 (x+1)) w'/\∀ x x_1
 w,I x x_1 w->bif decide (x_1<(s_n:Int)) then ∃ ad,s_A=some ad/\(0<=x_1/\x_1<(s_n:Int))/\∃ x_2,cell? w (add ad (Int.toNat x_1*1))=some (int i64 x_2)/\∃
 (fid:Nat) (first captured:Array Value),del=func (Fn.func fid) first captured/\bodied Tryz.prog fid=true/\CallsV Tryz.prog fid (List.toArray (Array.toList first++([int i64 x_2] ++
 Array.toList captured))) w fun r w'=>∃ x_3,r=bool x_3/\bif !x_3 then ∃ ad,s_A=some ad/\(0<=x/\x<(s_n:Int))/\stOK (add ad (Int.toNat x*1)) 0 [int i64 x_2] w'/\∀ w'_1,w'_1 =
 setAll (add ad (Int.toNat x*1)) 0 [int i64 x_2] w'->I (wrap i64 (x+1)) (wrap i64 (x_1+1)) w'_1/\μ (wrap i64 (x+1)) (wrap i64 (x_1+1)) w'_1<μ x x_1 w else I x (wrap i64 (x_1+1)) w'/\μ x
 (wrap i64 (x_1+1)) w'<μ x x_1 w else (0<=x/\x<=(s_n:Int))/\∃ w',RunsTo Tryz.prog (clear_ (Array.mk [39]) 0 #[slice (cutAt s_A s_c (Int.toNat x) 1) (s_n-Int.toNat x) (s_c-Int.toNat x)]) w
 (tuple #[]) w'/\(0<=x/\x<=(s_c:Int))/\K (slice (cutAt s_A s_c 0 1) (Int.toNat x-0) (s_c-0)) w'
theorem slices_DeleteFunc_int_int.calls (ok:Okay Tryz.prog) {s_A s_n s_c del w K} (h:slices_DeleteFunc_int_int.W s_A s_n s_c del w K):CallsV Tryz.prog 54 #[.slice s_A s_n s_c,del] w K :=
  fnW_calls ok Tryz.func54 (an:=(.named (.named (.seq .auto (.seq .auto (.seq .auto (.seq (.seq .auto (.block (.loop [(5,.one (.int .i64)),(6,.one (.int .i64))] .auto))) .auto))))))) (args:=[.slice s_A s_n s_c,del]) (Eq.mp (by kernel_rfl) h)
noncomputable def slices_IndexFunc_int_int.W:Option Addr->Nat->Nat->Value->World->(Value->World->Prop)->Prop:=fun s_A s_n s_c f w K=>∃ (I:Int->World->Prop) (μ:Int->World->Nat),I
 0 w/\∀ x w,I x w->bif decide (x<(s_n:Int)) then ∃ ad,s_A=some ad/\(0<=x/\x<(s_n:Int))/\∃ x_1,cell? w (add ad (Int.toNat x*1))=some (int i64 x_1)/\∃ (fid
 : Nat) (first captured:Array Value),f=func (Fn.func fid) first captured/\bodied Tryz.prog fid=true/\CallsV Tryz.prog fid (List.toArray (Array.toList first++([int i64 x_1] ++
 Array.toList captured))) w fun r w'=>∃ x_2,r=bool x_2/\bif x_2 then K (int i64 x) w' else I (wrap i64 (x+1)) w'/\μ (wrap i64 (x+1)) w'<μ x w else K (int i64 (-1:Int)) w
theorem slices_IndexFunc_int_int.calls (ok:Okay Tryz.prog) {s_A s_n s_c f w K} (h:slices_IndexFunc_int_int.W s_A s_n s_c f w K):CallsV Tryz.prog 81 #[.slice s_A s_n s_c,f] w K :=
  fnW_calls ok Tryz.func81 (an:=(.named (.named (.seq .auto (.seq (.seq .auto (.block (.loop [(8,.one (.int .i64))] .auto))) .auto))))) (args:=[.slice s_A s_n s_c,f]) (Eq.mp (by kernel_rfl) h)
end Go.Proofs.YthfagbfllheneaaGreat
set_option linter.unusedVariables false
set_option linter.unusedSimpArgs false
namespace Go.Proofs.YthfagbfllheneaaGreat
open Go Go.Sx T4
abbrev KI:Kd Int:=Kd.int .i64
theorem KI_pos:0<KI.size:=by decide
theorem oneI:One KI:=⟨rfl,fun h v hv=>by cases h;simp at hv;subst hv;rfl⟩
theorem itemI {Ω:Nat->Prop} {w:World} {A:Option Addr} {l:List Int} (h:Imm KI Ω w A l) {j:Nat} (hj:j<l.length):∃ ad,A=some ad/\w.cell? (ad.add (j*1))=some (.int .i64 l[j]):=by
  obtain ⟨ad,hA,_,cs,hr,hv⟩:=h j l[j] (List.getElem?_eq_getElem hj)
  exact ⟨ad,hA,hv 0 _ (by rw [show cs=[.int .i64 l[j]] from hr];rfl)⟩
theorem same_spec {w:World} {b:Nat} {id:Int} (hb:Blk w b [.int .i64 id]) (x:Int):CallsV Tryz.prog 56 #[.int .i64 x,.pointer (some ⟨b,0,none⟩)] w fun r w'=>r=.bool (decide (x=id))/\w'=w:=by
  refine undo_Store_Drop_1.calls okay ?_
  unfold undo_Store_Drop_1.W
  exact ⟨_,hb.cell0 rfl,rfl,rfl⟩
abbrev sameF (b:Nat):Value:=.func (.func 56) #[] #[.pointer (some ⟨b,0,none⟩)]
theorem IndexFunc_spec {w:World} {Ω:Nat->Prop} {A:Option Addr} {c:Nat} {l:List Int} (h:Imm KI Ω w A l) (hl:l.length<=1000000) {b:Nat} {id:Int} (hb:Blk w b [.int .i64 id]) :
    CallsV Tryz.prog 81 #[.slice A l.length c,sameF b] w fun r w'=>w'=w/\((r=.int .i64 (-1)/\∀ x∈l,x≠id)\/∃ j:Nat,r=iv j/\j<l.length/\l[j]?=some id/\∀ k x,l[k]?=some x->k<j->x≠id):=by
  refine slices_IndexFunc_int_int.calls okay ?_
  unfold slices_IndexFunc_int_int.W
  refine ⟨fun x u=>u=w/\∃ j:Nat,x=(j:Int)/\j<=l.length/\∀ k x,l[k]?=some x->k<j->x≠id,fun x _=>(l.length-x).toNat,⟨rfl,0,rfl,Nat.zero_le _,fun k x _ h=>by omega⟩,?_⟩
  rintro _ u ⟨hu,j,rfl,hj,hno⟩
  obtain rfl:w=u:=hu.symm
  refine brd (fun hlt=>?_) (fun hge=>?_)
  · have hjl:j<l.length:=by omega
    obtain ⟨ad,hA,hc⟩:=itemI h hjl
    refine ⟨ad,hA,⟨by omega,by omega⟩,_,by rw [Int.toNat_natCast];exact hc,_,_,_,rfl,by kernel_rfl,(same_spec hb _).same ⟨_,rfl,?_⟩⟩
    refine brd (fun he=>⟨rfl,.inr ⟨j,rfl,hjl,by rw [List.getElem?_eq_getElem hjl,he],hno⟩⟩) (fun hne=>?_)
    rw [wi _ (by omega) (by omega)]
    refine ⟨⟨rfl,j+1,by omega,by omega,fun k x hk hlt=>?_⟩,by dsimp only;omega⟩
    rcases Nat.lt_or_ge k j with h|h
    · exact hno k x hk h
    · obtain rfl:k=j:=by omega
      rw [List.getElem?_eq_getElem hjl] at hk;cases hk;exact hne
  · refine ⟨rfl,.inl ⟨rfl,fun x hx=>?_⟩⟩
    obtain ⟨k,hk,rfl⟩:=List.mem_iff_getElem.1 hx
    exact hno k _ (List.getElem?_eq_getElem hk) (by omega)
theorem filter_all {l:List Int} {id:Int} (h:∀ x∈l,x≠id):l.filter (fun x=>!decide (x=id))=l:=List.filter_eq_self.2 fun x hx=>by simp [h x hx]
theorem DeleteFunc_spec {w:World} {A:Option Addr} {c:Nat} {l:List Int} (h:OwnK KI w A c l) (hl:l.length<=1000000) {b:Nat} {id:Int} (hb:Blk w b [.int .i64 id]) (hAb:¬ ownB A b) :
    CallsV Tryz.prog 54 #[.slice A l.length c,sameF b] w fun r w'=>r=.slice A (l.filter (fun x=>!decide (x=id))).length c/\OwnK KI w' A c (l.filter (fun x=>!decide (x=id)))/\Fr (ownB A) w w':=by
  refine slices_DeleteFunc_int_int.calls okay ?_
  unfold slices_DeleteFunc_int_int.W
  refine (IndexFunc_spec (h.imm KI_pos) hl hb).mono ?_
  rintro r w' ⟨hw',hr⟩
  obtain rfl:w=w':=hw'.symm
  rcases hr with ⟨rfl,hno⟩|⟨i0,rfl,hi0,hid,hno⟩
  · exact ⟨_,rfl,brd (fun _=>by rw [filter_all hno];exact ⟨rfl,h,.refl _ _⟩) fun h=>absurd rfl h⟩
  · refine ⟨_,rfl,brd (fun h=>by omega) fun _=>?_⟩
    have hle:∀ j,((l.take j).filter (fun x=>!decide (x=id))).length<=j:=fun j=>by
      have:=List.length_filter_le (fun x=>!decide (x=id)) (l.take j)
      rw [List.length_take] at this;omega
    have hpre:(l.take (i0+1)).filter (fun x=>!decide (x=id))=l.take i0:=by
      rw [List.take_add_one,hid,List.filter_append,filter_all (l:=l.take i0) fun x hx=>by
        obtain ⟨k,hk,rfl⟩:=List.mem_iff_getElem.1 hx
        rw [List.length_take] at hk
        rw [List.getElem_take]
        exact hno k _ (List.getElem?_eq_getElem (by omega)) (by omega)]
      simp
    refine ⟨fun x y u=>∃ (i j:Nat) (m:List Int),x=(i:Int)/\y=(j:Int)/\i<j/\j<=l.length/\m.length=l.length/\i=((l.take j).filter (fun x=>!decide (x=id))).length/\m.take i=(l.take j).filter (fun x=>!decide (x=id))/\m.drop j=l.drop j/\OwnK KI u A c m/\Fr (ownB A) w u,fun _ y _=>(l.length-y).toNat,?_,?_⟩
    · rw [wi _ (by omega) (by omega)]
      exact ⟨i0,i0+1,l,rfl,by omega,by omega,by omega,rfl,by rw [hpre,List.length_take];omega,hpre.symm,rfl,h,.refl _ _⟩
    · rintro _ _ u ⟨i,j,m,rfl,rfl,hij,hj,hm,hi,htk,hdr,hO,hF⟩
      refine brd (fun hlt=>?_) (fun hge=>?_)
      · have hjl:j<l.length:=by omega
        obtain ⟨ad,hA,hc⟩:=itemI (hO.imm KI_pos) (j:=j) (by omega)
        have hmj:m[j]'(by omega)=l[j]:=by
          have h1:(m.drop j)[0]?=(l.drop j)[0]?:=by rw [hdr]
          rw [List.getElem?_drop,List.getElem?_drop,Nat.add_zero,List.getElem?_eq_getElem (show j<m.length by omega),List.getElem?_eq_getElem hjl] at h1
          exact Option.some.inj h1
        rw [hmj] at hc
        have hbu:Blk u b [.int .i64 id]:=hb.keep hF hAb
        refine ⟨ad,hA,⟨by omega,by omega⟩,_,by rw [Int.toNat_natCast];exact hc,_,_,_,rfl,by kernel_rfl,(same_spec hbu _).same ⟨_,rfl,?_⟩⟩
        have hnext:(l.take (j+1)).filter (fun x=>!decide (x=id))=(l.take j).filter (fun x=>!decide (x=id))++(if l[j]=id then [] else [l[j]]):=by
          rw [List.take_add_one,List.getElem?_eq_getElem hjl,List.filter_append]
          by_cases he:l[j]=id
          · rw [if_pos he];simp [he]
          · rw [if_neg he];simp [he]
        have hdr':m.drop (j+1)=l.drop (j+1):=by rw [<- List.drop_drop,<- List.drop_drop (l:=l),hdr]
        refine brnb (fun hne=>?_) (fun he=>?_)
        · have hne:¬ l[j]=id:=of_decide_eq_false hne
          rw [if_neg hne] at hnext
          have hil:i<m.length:=by omega
          obtain ⟨gA,hgA,hcell⟩:=hO.blk KI_pos hil
          rw [hA] at hgA
          cases hgA
          have hz:=hcell 0 (by decide)
          have hset:=hO.set (fun _ _ _ h=>h) hil (a:=l[j]) (cs:=[.int .i64 l[j]]) rfl hA
          have hadr:((⟨gA,0,none⟩:Addr).add (i*1))=⟨gA,i*KI.size,none⟩:=by rw [add_new,Nat.zero_add];rfl
          rw [wi ((i:Int)+1) (by omega) (by omega),wi ((j:Int)+1) (by omega) (by omega)]
          refine ⟨_,hA,⟨by omega,by omega⟩,by rw [Int.toNat_natCast,hadr];exact ⟨by simpa [add_zero'] using hz.1,by simpa [add_zero'] using hz.2⟩,fun u' hu'=>?_⟩
          rw [Int.toNat_natCast,hadr] at hu'
          subst hu'
          refine ⟨⟨i+1,j+1,m.set i l[j],by omega,by omega,by omega,by omega,by simpa using hm,?_,?_,?_,hset,hF.trans (Fr.setAll _ _ _) (fun _ _ h=>h) (fun k _ e=>by rw [hA,ownB_some];exact e.symm)⟩,by dsimp only;omega⟩
          · rw [hnext,List.length_append,<- hi];rfl
          · rw [hnext,<- htk,List.take_add_one,List.getElem?_set_self hil,List.take_set_of_le (Nat.le_refl i)];rfl
          · rw [List.drop_set_of_lt (by omega)];exact hdr'
        · have he:l[j]=id:=of_decide_eq_true he
          rw [if_pos he,List.append_nil] at hnext
          rw [wi ((j:Int)+1) (by omega) (by omega)]
          exact ⟨⟨i,j+1,m,rfl,by omega,by omega,by omega,hm,by rw [hnext];exact hi,by rw [hnext];exact htk,hdr',hO,hF⟩,by dsimp only;omega⟩
      · obtain rfl:j=l.length:=by omega
        rw [List.take_length] at hi htk
        obtain ⟨u',hr',ho',f'⟩:=clear_own (P:=Tryz.prog) slI (fun v hv=>by simp at hv;subst hv;rfl) (ty:=0) hO (fun _ _ _ h=>h) (k:=i) (by omega) (c-i)
        rw [hm] at hr'
        have hc:=hO.imm
        have hile:i<=c:=by obtain ⟨xs,ho,_⟩:=hO;have:=ho.le;omega
        refine ⟨⟨by omega,by omega⟩,u',by rw [Int.toNat_natCast];exact hr',⟨by omega,by omega⟩,?_,?_,hF.trans f' (fun _ _ h=>h) (fun _ _ h=>h)⟩
        · rw [cutAt_zero,Int.toNat_natCast,Nat.sub_zero,Nat.sub_zero,hi]
        · rw [<- htk];exact ho'
end Go.Proofs.YthfagbfllheneaaGreat
set_option linter.unusedVariables false
set_option linter.unusedSimpArgs false
namespace Go.Proofs.YthfagbfllheneaaGreat
open Go Go.Sx T4
def idsD (D:List Tr):List Int:=D.map fun d=>d.r
theorem idsD_len (D:List Tr):(idsD D).length=D.length:=by simp [idsD]
structure Mk where
  sb:Nat
  MA:Option Addr
  mc:Nat
  A:Ar
  D:List Tr
def mkC (a:Mk):List Value:=[.pointer (some ⟨a.sb,0,none⟩),.slice a.MA (idsD a.D).length a.mc]
def KMk:Kd Mk:=⟨2,fun _ _ a cs=>cs=mkC a,fun h=>by simp [h,mkC],fun h _=>h⟩
theorem KMk_pos:0<KMk.size:=by decide
theorem slM:SlT Tryz.prog 40 114 2 32 [.pointer none,.slice none 0 0]:=⟨by kernel_rfl,⟨Tryz.t114,by kernel_rfl,by kernel_rfl,by kernel_rfl,.agg #[.pointer none,.slice none 0 0],by kernel_rfl,by kernel_rfl⟩,rfl,by decide⟩
structure Ab where
  A:Ar
  D:List Tr
  ms:List (Ar×List Tr)
structure StoA (T:Nat->Prop) (u:World) (s:Nat) (q:Ab) (g:Nat) (R M:Nat->Prop) (IA:Option Addr) (ic:Nat) (X:Option Addr) (xc:Nat) (L:List Mk) (idl:List Int):Prop where
  ar:Ar1 R M u g q.A
  inv:Inv q.A q.D
  blk:Blk u s [.pointer (some ⟨g,0,none⟩),.slice IA idl.length ic,.slice X L.length xc]
  rT:∀ k,R k->T k
  sT:T s
  iT:∀ k,ownB IA k->T k
  xT:∀ k,ownB X k->T k
  mT:∀ x∈L,∀ k,ownB x.MA k->T k
  tlt:∀ k,T k->k<u.heap.size
  sR:¬ R s
  iO:∀ k,ownB IA k->¬ R k/\k≠s
  xO:∀ k,ownB X k->¬ R k/\k≠s/\¬ ownB IA k
  mO:∀ x∈L,∀ k,ownB x.MA k->¬ R k/\k≠s/\¬ ownB IA k/\¬ ownB X k
  mD:L.Pairwise fun a b=>∀ k,ownB a.MA k->¬ ownB b.MA k
  ids:OwnK KI u IA ic idl
  marks:OwnK KMk u X xc L
  good:∀ x∈L,Sv1 (Om R M) u x.sb g x.A/\Inv x.A x.D/\x.A.fan=q.A.fan/\x.A.most=q.A.most/\OwnK KI u x.MA x.mc (idsD x.D)
  ms:L.map (fun x=>(x.A,x.D))=q.ms
  cnt:L.length<=100
structure Tch (T:Nat->Prop) (u:World) (T':Nat->Prop) (u':World):Prop where
  fr:Fr T u u'
  sub:∀ k,T' k->T k\/u.heap.size<=k
theorem Tch.refl (T:Nat->Prop) (u:World):Tch T u T u:=⟨.refl _ _,fun _ h=>.inl h⟩
theorem Tch.ext {T:Nat->Prop} {u u':World} (e:Ext u u'):Tch T u T u':=⟨e.fr,fun _ h=>.inl h⟩
theorem Tch.trans {T T' T'':Nat->Prop} {u u' u'':World} (h:Tch T u T' u') (h':Tch T' u' T'' u''):Tch T u T'' u'' :=
  ⟨h.fr.trans h'.fr (fun _ _ h=>h) (fun k hk ht=>(h.sub k ht).resolve_right (by omega)),fun k hk=>(h'.sub k hk).elim (h.sub k) fun h2=>.inr (Nat.le_trans h.fr.size h2)⟩
theorem Tch.keepExt {T T':Nat->Prop} {w0 u u':World} (c:Tch T u T' u') (e:Ext w0 u) (hT:∀ k,T k->w0.heap.size<=k):Ext w0 u'/\∀ k,T' k->w0.heap.size<=k :=
  ⟨e.trans c.fr (fun _ _ h=>h) (fun k hk ht=>by have:=hT k ht;omega),fun k hk=>(c.sub k hk).elim (hT k) fun h=>Nat.le_trans e.size h⟩
theorem Tch.blk {T T':Nat->Prop} {u u':World} (c:Tch T u T' u') {k:Nat} {cs:List Value} (hb:Blk u k cs) (hk:¬ T k):Blk u' k cs/\¬ T' k:=⟨hb.keep c.fr hk,fun h=>(c.sub k h).elim hk fun h2=>by have:=hb.lt;omega⟩
section
variable {T:Nat->Prop} {u:World} {s:Nat} {q:Ab} {g:Nat} {R M:Nat->Prop} {IA:Option Addr} {ic:Nat} {X:Option Addr} {xc:Nat} {L:List Mk} {idl:List Int}
theorem StoA.frame (h:StoA T u s q g R M IA ic X xc L idl) {S:Nat->Prop} {u':World} (f:Fr S u u') (hS:∀ k,k<u.heap.size->S k->¬ T k):StoA T u' s q g R M IA ic X xc L idl:=by
  have off:∀ k,T k->¬ S k:=fun k ht hs=>hS k (h.tlt k ht) hs ht
  refine ⟨h.ar.frame f fun k hk hs hr=>hS k hk hs (h.rT k hr),h.inv,h.blk.keep f (off s h.sT),h.rT,h.sT,h.iT,h.xT,h.mT,fun k hk=>Nat.lt_of_lt_of_le (h.tlt k hk) f.size,h.sR,h.iO,h.xO,h.mO,h.mD,h.ids.fr f (fun k hk=>off k (h.iT k hk)) (fun _ _ _ h=>h),h.marks.fr f (fun k hk=>off k (h.xT k hk)) (fun _ _ _ h=>h),fun x hx=>?_,h.ms,h.cnt⟩
  obtain ⟨g1,g2,g3,g4,g5⟩:=h.good x hx
  exact ⟨g1.keep (f.step (fun k hk hs=>.inl fun hr=>hS k hk hs (h.rT k hr)) (fun _ _ h=>h)),g2,g3,g4,g5.fr f (fun k hk=>off k (h.mT x hx k hk)) (fun _ _ _ h=>h)⟩
theorem StoA.ext (h:StoA T u s q g R M IA ic X xc L idl) {u':World} (e:Ext u u'):StoA T u' s q g R M IA ic X xc L idl:=h.frame e fun _ _ h=>h.elim
theorem StoA.chg (h:StoA T u s q g R M IA ic X xc L idl) {u':World} {A':Ar} {D':List Tr} {R' M':Nat->Prop} (h':Ar1 R' M' u' g A') (c:Chg R M u R' M' u') (hI:Inv A' D') (h1:A'.fan=q.A.fan) (h2:A'.most=q.A.most) :
    ∃ T',StoA T' u' s ⟨A',D',q.ms⟩ g R' M' IA ic X xc L idl/\Tch T u T' u':=by
  have mr:=h.ar.mr
  have off:∀ {k},¬ R k->¬ M k:=fun hr hm=>hr (mr _ hm)
  have hs:=c.fr.size
  refine ⟨fun k=>T k\/R' k,⟨h',hI,h.blk.keep c.fr (off h.sR),fun k hk=>.inr hk,.inl h.sT,fun k hk=>.inl (h.iT k hk),fun k hk=>.inl (h.xT k hk),fun x hx k hk=>.inl (h.mT x hx k hk),fun k hk=>?_,c.off h.blk.lt h.sR,fun k hk=>⟨c.off (h.ids.lt k hk) (h.iO k hk).1,(h.iO k hk).2⟩,fun k hk=>⟨c.off (h.marks.lt k hk) (h.xO k hk).1,(h.xO k hk).2⟩,fun x hx k hk=>⟨c.off (h.tlt k (h.mT x hx k hk)) (h.mO x hx k hk).1,(h.mO x hx k hk).2⟩,h.mD,h.ids.fr c.fr (fun k hk=>off (h.iO k hk).1) (fun _ _ _ h=>h),h.marks.fr c.fr (fun k hk=>off (h.xO k hk).1) (fun _ _ _ h=>h),fun x hx=>?_,h.ms,h.cnt⟩,⟨c.fr.mono fun k _ hm=>h.rT k (mr k hm),fun k hk=>?_⟩⟩
  · rcases hk with hk|hk
    · have:=h.tlt k hk;omega
    · exact h'.lt k hk
  · obtain ⟨g1,g2,g3,g4,g5⟩:=h.good x hx
    exact ⟨g1.keep c.step,g2,g3.trans h1.symm,g4.trans h2.symm,g5.fr c.fr (fun k hk=>off (h.mO x hx k hk).1) (fun _ _ _ h=>h)⟩
  · rcases hk with hk|hk
    · exact .inl hk
    · exact (c.r' k hk).imp (h.rT k) id
theorem StoA.setIds (h:StoA T u s q g R M IA ic X xc L idl) {u':World} {IA':Option Addr} {ic':Nat} {idl':List Int} (ho:OwnK KI u' IA' ic' idl') (gr:Grew IA IA' u u') :
    stOK ((⟨s,0,none⟩:Addr).add 1) 0 [.slice IA' idl'.length ic'] u'/\∀ u2,u2=setAll ((⟨s,0,none⟩:Addr).add 1) 0 [.slice IA' idl'.length ic'] u'->∃ T',StoA T' u2 s q g R M IA' ic' X xc L idl'/\Tch T u T' u2:=by
  have bs:=h.blk.keep gr.fr (fun hk=>(h.iO _ hk).2 rfl)
  obtain ⟨p1,p2⟩:=setF bs (o:=1) (by simp) (.slice IA' idl'.length ic')
  refine ⟨p1,fun u2 hu=>?_⟩
  obtain ⟨b2,f2⟩:=p2 u2 hu
  have hsz:=gr.fr.size
  have hsz2:=f2.size
  -- both steps at once
  have f:Fr (fun k=>ownB IA k\/k=s) u u2:=(gr.fr.mono fun _ _ h=>.inl h).trans f2 (fun _ _ h=>h) (fun _ _ h=>.inr h)
  have isT:∀ k,ownB IA k\/k=s->T k:=fun k hk=>hk.elim (h.iT k) fun e=>e▸h.sT
  have notR:∀ k,ownB IA k\/k=s->¬ R k:=fun k hk=>hk.elim (fun hk=>(h.iO k hk).1) fun e=>e▸h.sR
  have new:∀ k,ownB IA' k->ownB IA k\/u.heap.size<=k:=gr.sub
  have hsl:=h.blk.lt
  refine ⟨fun k=>T k\/ownB IA' k,⟨h.ar.frame f fun k _ hk=>notR k hk,h.inv,by simpa using b2,fun k hk=>.inl (h.rT k hk),.inl h.sT,fun k hk=>.inr hk,fun k hk=>.inl (h.xT k hk),fun x hx k hk=>.inl (h.mT x hx k hk),fun k hk=>?_,h.sR,fun k hk=>?_,fun k hk=>?_,fun x hx k hk=>?_,h.mD,ho.fr f2 (fun k hk e=>?_) (fun _ _ _ h=>h),h.marks.fr f (fun k hk hk'=>hk'.elim (h.xO k hk).2.2 fun e=>(h.xO k hk).2.1 e) (fun _ _ _ h=>h),fun x hx=>?_,h.ms,h.cnt⟩,⟨f.mono fun k _ hk=>isT k hk,fun k hk=>?_⟩⟩
  · rcases hk with hk|hk
    · have:=h.tlt k hk;omega
    · have:=ho.lt k hk;omega
  · rcases new k hk with hk|hk
    · exact h.iO k hk
    · exact ⟨fun hr=>by have:=h.tlt k (h.rT k hr);omega,by omega⟩
  · refine ⟨(h.xO k hk).1,(h.xO k hk).2.1,fun hi=>?_⟩
    rcases new k hi with hi|hi
    · exact (h.xO k hk).2.2 hi
    · have:=h.marks.lt k hk;omega
  · obtain ⟨m1,m2,m3,m4⟩:=h.mO x hx k hk
    refine ⟨m1,m2,fun hi=>?_,m4⟩
    rcases new k hi with hi|hi
    · exact m3 hi
    · have:=h.tlt k (h.mT x hx k hk);omega
  · have e:k=s:=e
    rcases new k hk with hk|hk
    · exact (h.iO k hk).2 e
    · omega
  · obtain ⟨g1,g2,g3,g4,g5⟩:=h.good x hx
    exact ⟨g1.keep (f.step (fun k _ hk=>.inl (notR k hk)) (fun _ _ h=>h)),g2,g3,g4,g5.fr f (fun k hk hk'=>hk'.elim (h.mO x hx k hk).2.2.1 fun e=>(h.mO x hx k hk).2.1 e) (fun _ _ _ h=>h)⟩
  · rcases hk with hk|hk
    · exact .inl hk
    · exact (new k hk).imp (h.iT k) id
end
end Go.Proofs.YthfagbfllheneaaGreat
set_option linter.unusedVariables false
set_option linter.unusedSimpArgs false
namespace Go.Proofs.YthfagbfllheneaaGreat
open Go Go.Sx T4
def Sto (T:Nat->Prop) (u:World) (s:Nat) (q:Ab):Prop:=∃ g R M IA ic X xc L,StoA T u s q g R M IA ic X xc L (idsD q.D)
section
variable {T:Nat->Prop} {u:World} {s:Nat} {q:Ab}
theorem Sto.ext (h:Sto T u s q) {u':World} (e:Ext u u'):Sto T u' s q:=by
  obtain ⟨g,R,M,IA,ic,X,xc,L,h⟩:=h;exact ⟨g,R,M,IA,ic,X,xc,L,h.ext e⟩
theorem Sto.frame (h:Sto T u s q) {S:Nat->Prop} {u':World} (f:Fr S u u') (hS:∀ k,k<u.heap.size->S k->¬ T k):Sto T u' s q:=by
  obtain ⟨g,R,M,IA,ic,X,xc,L,h⟩:=h;exact ⟨g,R,M,IA,ic,X,xc,L,h.frame f hS⟩
theorem Sto.inv (h:Sto T u s q):Inv q.A q.D:=by obtain ⟨g,R,M,IA,ic,X,xc,L,h⟩:=h;exact h.inv
theorem Sto.lt (h:Sto T u s q):∀ k,T k->k<u.heap.size:=by obtain ⟨g,R,M,IA,ic,X,xc,L,h⟩:=h;exact h.tlt
theorem Sto.cnt (h:Sto T u s q):q.ms.length<=100:=by obtain ⟨g,R,M,IA,ic,X,xc,L,h⟩:=h;rw [<- h.ms,List.length_map];exact h.cnt
theorem Sto.good (h:Sto T u s q):∀ p∈q.ms,Inv p.1 p.2/\p.1.fan=q.A.fan/\p.1.most=q.A.most:=by
  obtain ⟨g,R,M,IA,ic,X,xc,L,h⟩:=h
  intro p hp
  rw [<- h.ms] at hp
  obtain ⟨x,hx,rfl⟩:=List.mem_map.1 hp
  obtain ⟨_,g2,g3,g4,_⟩:=h.good x hx
  exact ⟨g2,g3,g4⟩
section
variable {g:Nat} {R M:Nat->Prop} {IA:Option Addr} {ic:Nat} {X:Option Addr} {xc:Nat} {L:List Mk} {idl:List Int}
theorem of_spec (h:StoA T u s q g R M IA ic X xc L idl):CallsV Tryz.prog 52 #[.pointer (some ⟨s,0,none⟩)] u fun r w'=>r=.pointer (some ⟨g,0,none⟩)/\w'=u:=by
  refine undo_Store_of.calls okay ?_
  unfold undo_Store_of.W
  exact br (fun h=>by cases h) fun _=>⟨_,rfl,_,h.blk.cell rfl,rfl,rfl⟩
theorem smade_spec (h:StoA T u s q g R M IA ic X xc L idl):CallsV Tryz.prog 66 #[.pointer (some ⟨s,0,none⟩)] u fun r w'=>r=.bool true/\w'=u:=by
  refine undo_Store_made.calls okay ?_
  unfold undo_Store_made.W
  exact brnb (fun _=>⟨_,rfl,_,h.blk.cell rfl,rfl,rfl⟩) fun h=>by cases h
theorem sis_spec (h:StoA T u s q g R M IA ic X xc L idl) (n:Int):CallsV Tryz.prog 68 #[.pointer (some ⟨s,0,none⟩),.int .i64 n] u fun r w'=>r=.int .i64 (if n<1\/(L.length:Int)<n then 60 else 0)/\w'=u:=by
  refine undo_Store_is.calls okay ?_
  unfold undo_Store_is.W
  refine (smade_spec h).same ⟨_,rfl,brnb (fun h=>by cases h) fun _=>brd (fun h1=>?_) fun h1=>⟨_,rfl,_,_,_,h.blk.cell rfl,brd (fun h2=>?_) fun h2=>?_⟩⟩
  · rw [if_pos (.inl h1)];exact ⟨rfl,rfl⟩
  · rw [if_pos (.inr h2)];exact ⟨rfl,rfl⟩
  · rw [if_neg (by omega)];exact ⟨rfl,rfl⟩
end
/-! ## what it tells -/
theorem sAfter (h:Sto T u s q) (id:Int) {key:Key} {Ω:Nat->Prop} {KA:Option Addr} (hKA:Imm KB Ω u KA key) (kc:Nat) (at_:Bool) :
    CallsV Tryz.prog 42 #[.pointer (some ⟨s,0,none⟩),.int .i64 id,.slice KA key.length kc,.bool at_] u fun r w'=>Told u ((gF (foD q.D) id).bind (aftE key at_)) r w'/\Ext u w':=by
  obtain ⟨g,R,M,IA,ic,X,xc,L,h⟩:=h
  refine undo_Store_After.calls okay ?_
  unfold undo_Store_After.W
  refine (of_spec h).same ⟨_,rfl,(uAfter h.ar h.inv id hKA kc at_).mono ?_⟩
  rintro _ w' ⟨ht,e⟩
  obtain ⟨A,n,c,B,m,d,f,rfl⟩:=ht.form
  exact ⟨_,_,_,_,_,_,_,rfl,ht,e⟩
theorem sBefore (h:Sto T u s q) (id:Int) {key:Key} {Ω:Nat->Prop} {KA:Option Addr} (hKA:Imm KB Ω u KA key) (kc:Nat) (at_:Bool) :
    CallsV Tryz.prog 45 #[.pointer (some ⟨s,0,none⟩),.int .i64 id,.slice KA key.length kc,.bool at_] u fun r w'=>Told u ((gF (foD q.D) id).bind (befE key at_)) r w'/\Ext u w':=by
  obtain ⟨g,R,M,IA,ic,X,xc,L,h⟩:=h
  refine undo_Store_Before.calls okay ?_
  unfold undo_Store_Before.W
  refine (of_spec h).same ⟨_,rfl,(uBefore h.ar h.inv id hKA kc at_).mono ?_⟩
  rintro _ w' ⟨ht,e⟩
  obtain ⟨A,n,c,B,m,d,f,rfl⟩:=ht.form
  exact ⟨_,_,_,_,_,_,_,rfl,ht,e⟩
theorem sLast (h:Sto T u s q) (id:Int) :
    CallsV Tryz.prog 50 #[.pointer (some ⟨s,0,none⟩),.int .i64 id] u fun r w'=>Told u ((gF (foD q.D) id).bind fun es=>es.getLast?) r w'/\Ext u w':=by
  obtain ⟨g,R,M,IA,ic,X,xc,L,h⟩:=h
  refine undo_Store_Last.calls okay ?_
  unfold undo_Store_Last.W
  refine (of_spec h).same ⟨_,rfl,(uLast h.ar h.inv id).mono ?_⟩
  rintro _ w' ⟨ht,e⟩
  obtain ⟨A,n,c,B,m,d,f,rfl⟩:=ht.form
  exact ⟨_,_,_,_,_,_,_,rfl,ht,e⟩
def GetR (u w':World) (x:Option Key) (r:Value):Prop:=match x with
  | none=>r=.tuple #[.slice none 0 0,.bool false]
  | some v=>∃ B d,r=.tuple #[.slice B v.length d,.bool true]/\OwnB w' B d v/\New u B/\v.length<=1048576
theorem sGet (h:Sto T u s q) (id:Int) {key:Key} {Ω:Nat->Prop} {KA:Option Addr} (hKA:Imm KB Ω u KA key) (kc:Nat) :
    CallsV Tryz.prog 82 #[.pointer (some ⟨s,0,none⟩),.int .i64 id,.slice KA key.length kc] u fun r w'=>Ext u w'/\GetR u w' ((gF (foD q.D) id).bind (getE key)) r:=by
  obtain ⟨g,R,M,IA,ic,X,xc,L,h⟩:=h
  refine undo_Store_Get.calls okay ?_
  unfold undo_Store_Get.W
  refine (of_spec h).same ⟨_,rfl,(uGet h.ar h.inv id hKA kc).mono ?_⟩
  rintro r w' ⟨e,ht⟩
  generalize (gF (foD q.D) id).bind (getE key)=x at ht
  cases x with
  | none=>cases ht;exact ⟨_,_,_,_,rfl,e,rfl⟩
  | some v=>obtain ⟨B,d,rfl,h2⟩:=ht;exact ⟨_,_,_,_,rfl,e,B,d,rfl,h2⟩
theorem sCheck (h:Sto T u s q):CallsV Tryz.prog 51 #[.pointer (some ⟨s,0,none⟩)] u fun r w'=>r=.int .i64 0/\Ext u w':=by
  obtain ⟨g,R,M,IA,ic,X,xc,L,h⟩:=h
  refine undo_Store_Check.calls okay ?_
  unfold undo_Store_Check.W
  refine (of_spec h).same ⟨_,rfl,(dCheck h.inv h.ar).mono ?_⟩
  rintro _ w' ⟨rfl,e⟩
  exact ⟨_,rfl,rfl,e⟩
theorem sTrees (h:Sto T u s q):CallsV Tryz.prog 49 #[.pointer (some ⟨s,0,none⟩)] u fun r w'=>∃ A c,r=.slice A (idsD q.D).length c/\OwnK KI w' A c (idsD q.D)/\Ext u w'/\New u A:=by
  obtain ⟨g,R,M,IA,ic,X,xc,L,h⟩:=h
  refine undo_Store_Trees.calls okay ?_
  unfold undo_Store_Trees.W
  refine br (fun h=>by cases h) fun _=>⟨_,rfl,_,_,_,h.blk.cell rfl,(CloneI_spec oneI (h.ids.imm KI_pos) (by rw [idsD_len];have:=h.inv.cnt;omega)).mono ?_⟩
  rintro _ w' ⟨A',c',rfl,ho,e,n,_⟩
  exact ⟨_,_,_,rfl,A',c',rfl,ho,e,n⟩
end
/-! ## what changes it -/
section
variable {A:Ar} {D:List Tr}
structure PutRel (A:Ar) (D:List Tr) (id:Int) (key val:Key) (A':Ar) (D':List Tr) (was:Bool) (e:Int):Prop where
  inv:Inv A' D'
  same:Same A A'
  ids:idsD D'=idsD D
  rel:(gF (foD D) id=none/\A'=A/\D'=D/\was=false/\e=41)\/∃ D1 d D2 d' full,D=D1++d::D2/\d.r=id/\D'=D1++d'::D2/\d'.r=d.r/\was=(!full && inE key d.es)/\e=(if full then 5 else 0)/\(full=true->A'=A/\d'=d/\inE key d.es=false/\A.most<A.nodes+d.h+1)/\(full=false->d'.es=insE key val d.es)
theorem aPut (hI:Inv A D) (id:Int) {key val:Key} (hk:key.length<=1048576) (hv:val.length<=1048576):∃ A' D' was e,PutRel A D id key val A' D' was e /\
    ∀ {T:Nat->Prop} {u:World} {s:Nat} {ms:List (Ar×List Tr)},Sto T u s ⟨A,D,ms⟩->∀ {Ω1 Ω2:Nat->Prop} {KA VA:Option Addr},Imm KB Ω1 u KA key->Imm KB Ω2 u VA val->∀ kc vc:Nat,
      CallsV Tryz.prog 22 #[.pointer (some ⟨s,0,none⟩),.int .i64 id,.slice KA key.length kc,.slice VA val.length vc] u fun r u'=>r=.tuple #[.bool was,.int .i64 e]/\∃ T',Sto T' u' s ⟨A',D',ms⟩/\Tch T u T' u':=by
  rcases find_split (Ds:=D) (r:=id) with ⟨h1,h2⟩|⟨D1,d,D2,rfl,rfl,h3⟩
  · refine ⟨A,D,false,41,⟨hI,.refl A,rfl,.inl ⟨h1,rfl,rfl,rfl,rfl⟩⟩,?_⟩
    rintro T u s ms ⟨g,R,M,IA,ic,X,xc,L,h⟩ Ω1 Ω2 KA VA iK iV kc vc
    refine undo_Store_Put.calls okay ?_
    unfold undo_Store_Put.W
    refine (of_spec h).same ⟨_,rfl,(Put_none h.ar (by have:=hI.f1;show 0<A.fan;omega) (hI.miss h2) KA VA key.length kc val.length vc).same ⟨_,_,rfl,rfl,T,⟨g,R,M,IA,ic,X,xc,L,h⟩,.refl _ _⟩⟩
  · obtain ⟨A',d',full,hr',hI',hs',hfu,hno,hP⟩:=dPut hI hk hv
    have hids:idsD (D1++d'::D2)=idsD (D1++d::D2):=by simp [idsD,hr']
    refine ⟨A',D1++d'::D2,_,_,⟨hI',hs',hids,.inr ⟨D1,d,D2,d',full,rfl,rfl,rfl,hr',rfl,rfl,hfu,hno⟩⟩,?_⟩
    rintro T u s ms ⟨g,R,M,IA,ic,X,xc,L,h⟩ Ω1 Ω2 KA VA iK iV kc vc
    refine undo_Store_Put.calls okay ?_
    unfold undo_Store_Put.W
    refine (of_spec h).same ⟨_,rfl,(hP h.ar iK iV kc vc).mono ?_⟩
    rintro _ u' ⟨rfl,R',M',h',c⟩
    obtain ⟨T',h2,c2⟩:=h.chg h' c hI' hs'.fan hs'.most
    exact ⟨_,_,rfl,rfl,T',⟨g,R',M',IA,ic,X,xc,L,by rw [hids];exact h2⟩,c2⟩
structure DelRel (A:Ar) (D:List Tr) (id:Int) (key:Key) (A':Ar) (D':List Tr) (was:Bool) (e:Int):Prop where
  inv:Inv A' D'
  same:Same A A'
  ids:idsD D'=idsD D
  rel:(gF (foD D) id=none/\A'=A/\D'=D/\was=false/\e=41)\/∃ D1 d D2 d',D=D1++d::D2/\d.r=id/\D'=D1++d'::D2/\d'.r=d.r/\was=inE key d.es/\e=0/\d'.es=delE key d.es
theorem aDel (hI:Inv A D) (id:Int) (key:Key):∃ A' D' was e,DelRel A D id key A' D' was e /\
    ∀ {T:Nat->Prop} {u:World} {s:Nat} {ms:List (Ar×List Tr)},Sto T u s ⟨A,D,ms⟩->∀ {Ω1:Nat->Prop} {KA:Option Addr},Imm KB Ω1 u KA key->∀ kc:Nat,
      CallsV Tryz.prog 30 #[.pointer (some ⟨s,0,none⟩),.int .i64 id,.slice KA key.length kc] u fun r u'=>r=.tuple #[.bool was,.int .i64 e]/\∃ T',Sto T' u' s ⟨A',D',ms⟩/\Tch T u T' u':=by
  rcases find_split (Ds:=D) (r:=id) with ⟨h1,h2⟩|⟨D1,d,D2,rfl,rfl,h3⟩
  · refine ⟨A,D,false,41,⟨hI,.refl A,rfl,.inl ⟨h1,rfl,rfl,rfl,rfl⟩⟩,?_⟩
    rintro T u s ms ⟨g,R,M,IA,ic,X,xc,L,h⟩ Ω1 KA iK kc
    refine undo_Store_Delete.calls okay ?_
    unfold undo_Store_Delete.W
    refine (of_spec h).same ⟨_,rfl,(Delete_none h.ar (by have:=hI.f1;show 0<A.fan;omega) (hI.miss h2) KA key.length kc).same ⟨_,_,rfl,rfl,T,⟨g,R,M,IA,ic,X,xc,L,h⟩,.refl _ _⟩⟩
  · obtain ⟨A',d',hr',hI',hs',he,hP⟩:=dDel hI key
    have hids:idsD (D1++d'::D2)=idsD (D1++d::D2):=by simp [idsD,hr']
    refine ⟨A',D1++d'::D2,_,_,⟨hI',hs',hids,.inr ⟨D1,d,D2,d',rfl,rfl,rfl,hr',rfl,rfl,he⟩⟩,?_⟩
    rintro T u s ms ⟨g,R,M,IA,ic,X,xc,L,h⟩ Ω1 KA iK kc
    refine undo_Store_Delete.calls okay ?_
    unfold undo_Store_Delete.W
    refine (of_spec h).same ⟨_,rfl,(hP h.ar iK kc).mono ?_⟩
    rintro _ u' ⟨rfl,R',M',h',c⟩
    obtain ⟨T',h2,c2⟩:=h.chg h' c hI' hs'.fan hs'.most
    exact ⟨_,_,rfl,rfl,T',⟨g,R',M',IA,ic,X,xc,L,by rw [hids];exact h2⟩,c2⟩
structure CreRel (A:Ar) (D:List Tr) (A':Ar) (D':List Tr) (n e:Int):Prop where
  inv:Inv A' D'
  fan:A'.fan=A.fan
  most:A'.most=A.most
  rel:(A.nodes<A.most/\D.length<1000/\A'.last=A.last+1/\n=((A.last+1:Nat):Int)/\e=0/\∃ i,D'=D++[⟨((A.last+1:Nat):Int),i,1,[],[i]⟩])\/((A.most<=A.nodes\/1000<=D.length)/\A'=A/\D'=D/\n=0/\e=5)
theorem aCreate (hI:Inv A D) (hl:A.last<1000000):∃ A' D' n e,CreRel A D A' D' n e /\
    ∀ {T:Nat->Prop} {u:World} {s:Nat} {ms:List (Ar×List Tr)},Sto T u s ⟨A,D,ms⟩ ->
      CallsV Tryz.prog 20 #[.pointer (some ⟨s,0,none⟩)] u fun r u'=>r=.tuple #[.int .i64 n,.int .i64 e]/\∃ T',Sto T' u' s ⟨A',D',ms⟩/\Tch T u T' u':=by
  by_cases hroom:A.nodes<A.most/\D.length<1000
  · obtain ⟨A',i,hI',hf',hm',hl',hC⟩:=dCreate hI hroom.1 hroom.2 hl
    refine ⟨A',_,_,_,⟨hI',hf',hm',.inl ⟨hroom.1,hroom.2,hl',rfl,rfl,i,rfl⟩⟩,?_⟩
    rintro T u s ms ⟨g,R,M,IA,ic,X,xc,L,h⟩
    refine undo_Store_Create.calls okay ?_
    unfold undo_Store_Create.W
    refine (of_spec h).same ⟨_,rfl,(hC h.ar).mono ?_⟩
    rintro _ u1 ⟨rfl,R',M',h',c⟩
    obtain ⟨T1,h1,c1⟩:=h.chg h' c hI' hf' hm'
    refine ⟨_,_,rfl,brd (fun _=>⟨_,rfl,_,_,_,h1.blk.cell rfl,?_⟩) fun h=>absurd rfl h⟩
    rintro g2 u2 ⟨rfl,rfl⟩
    have hlen:(idsD D).length<=1000:=by rw [idsD_len];exact hI.cnt
    obtain ⟨A3,c3,u3,hr3,ho3,gr3⟩:=h1.ids.push (K:=KI) slI (ty:=39) (a:=((A.last+1:Nat):Int)) (cs:=[.int .i64 ((A.last+1:Nat):Int)]) rfl (fun v hv=>by simp at hv;subst hv;rfl) (e':=3) (by show (idsD D).length+1<=maxLen;simp only [maxLen];omega) (by show ((idsD D).length+1)*8<=140737488355328;omega)
    obtain ⟨p1,p2⟩:=h1.setIds ho3 gr3
    refine ⟨_,_,_,u3,hr3,_,rfl,p1,fun u4 hu4=>?_⟩
    obtain ⟨T4,h4,c4⟩:=p2 u4 hu4
    refine ⟨rfl,T4,⟨g,R',M',A3,c3,X,xc,L,?_⟩,c1.trans c4⟩
    have:idsD D++[((A.last+1:Nat):Int)]=idsD (D++[⟨((A.last+1:Nat):Int),i,1,[],[i]⟩]):=by simp [idsD]
    rw [this] at h4
    exact h4
  · refine ⟨A,D,0,5,⟨hI,rfl,rfl,.inr ⟨by omega,rfl,rfl,rfl,rfl⟩⟩,?_⟩
    rintro T u s ms ⟨g,R,M,IA,ic,X,xc,L,h⟩
    refine undo_Store_Create.calls okay ?_
    unfold undo_Store_Create.W
    refine (of_spec h).same ⟨_,rfl,(dFull hI (by omega) hl h.ar).mono ?_⟩
    rintro _ u1 ⟨rfl,e1⟩
    exact ⟨_,_,rfl,brd (fun h=>by cases h) fun _=>⟨rfl,T,⟨g,R,M,IA,ic,X,xc,L,h.ext e1⟩,.ext e1⟩⟩
structure DropRel (A:Ar) (D:List Tr) (id:Int) (A':Ar) (D':List Tr) (e:Int):Prop where
  inv:Inv A' D'
  same:Same A A'
  rel:(gF (foD D) id=none/\A'=A/\D'=D/\e=41)\/∃ D1 d D2,D=D1++d::D2/\d.r=id/\D'=D1++D2/\e=0
theorem ids_drop {D1 D2:List Tr} {d:Tr} (h:((D1++d::D2).map fun d=>d.r).Nodup):(idsD (D1++d::D2)).filter (fun x=>!decide (x=d.r))=idsD (D1++D2):=by
  have hn:=nd_mid h
  unfold idsD
  rw [List.map_append,List.filter_append,List.map_cons,List.filter_cons_of_neg (by simp),List.map_append,filter_all,filter_all]
  · intro x hx
    obtain ⟨y,hy,rfl⟩:=List.mem_map.1 hx
    exact hn y (List.mem_append_right _ hy)
  · intro x hx
    obtain ⟨y,hy,rfl⟩:=List.mem_map.1 hx
    exact hn y (List.mem_append_left _ hy)
theorem aDrop (hI:Inv A D) (id:Int):∃ A' D' e,DropRel A D id A' D' e /\
    ∀ {T:Nat->Prop} {u:World} {s:Nat} {ms:List (Ar×List Tr)},Sto T u s ⟨A,D,ms⟩ ->
      CallsV Tryz.prog 15 #[.pointer (some ⟨s,0,none⟩),.int .i64 id] u fun r u'=>r=.int .i64 e/\∃ T',Sto T' u' s ⟨A',D',ms⟩/\Tch T u T' u':=by
  rcases find_split (Ds:=D) (r:=id) with ⟨h1,h2⟩|⟨D1,d,D2,rfl,rfl,h3⟩
  · refine ⟨A,D,41,⟨hI,.refl A,.inl ⟨h1,rfl,rfl,rfl⟩⟩,?_⟩
    rintro T u s ms ⟨g,R,M,IA,ic,X,xc,L,h⟩
    refine undo_Store_Drop.calls okay ?_
    unfold undo_Store_Drop.W
    intro gi u1 f1
    have ed:Ext u1 u1.drew:=Fr.drew NoB u1
    have e2:Ext u u1.drew:=f1.ext.drew
    refine ⟨fun x v=>x=41/\v=u1.drew,?_,fun v=>Ext u1 v,ed,_,fun v e=>(f1.blk.ext e).cell0 rfl,(of_spec (h.ext e2)).same ⟨_,rfl,ed,(Drop_none (h.ext e2).ar (by have:=hI.f1;show 0<A.fan;omega) (hI.miss h2)).same ⟨_,rfl,rfl,rfl⟩⟩⟩
    rintro _ _ ⟨rfl,rfl⟩
    exact brd (fun h=>by cases h) fun _=>⟨rfl,T,⟨g,R,M,IA,ic,X,xc,L,h.ext e2⟩,.ext e2⟩
  · obtain ⟨A',hI',hs',_,hP⟩:=dDrop hI
    refine ⟨A',D1++D2,0,⟨hI',hs',.inr ⟨D1,d,D2,rfl,rfl,rfl,rfl⟩⟩,?_⟩
    rintro T u s ms ⟨g,R,M,IA,ic,X,xc,L,h⟩
    refine undo_Store_Drop.calls okay ?_
    unfold undo_Store_Drop.W
    intro gi u1 f1
    have ed:Ext u1 u1.drew:=Fr.drew NoB u1
    have e2:Ext u u1.drew:=f1.ext.drew
    have h2:=h.ext e2
    have hgi:¬ T gi:=fun ht=>by have:=h.tlt gi ht;have:=f1.ge;omega
    refine ⟨fun x v=>x=0/\∃ R' M' T',StoA T' v s ⟨A',D1++D2,ms⟩ g R' M' IA ic X xc L (idsD (D1++d::D2))/\Tch T u1.drew T' v,?_,fun v=>Ext u1 v,ed,_,fun v e=>(f1.blk.ext e).cell0 rfl,(of_spec h2).same ⟨_,rfl,ed,(hP h2.ar).mono ?_⟩⟩
    · rintro _ v ⟨rfl,R',M',T',h3,c3⟩
      obtain ⟨bg,hgi'⟩:=c3.blk (f1.blk.ext ed) hgi
      have hlen:(idsD (D1++d::D2)).length<=1000:=by rw [idsD_len];exact hI.cnt
      refine brd (fun _=>⟨_,rfl,_,_,_,h3.blk.cell rfl,(CloneI_spec oneI (h3.ids.imm KI_pos) (by omega)).mono ?_⟩) fun h=>absurd rfl h
      rintro _ v2 ⟨A4,c4,rfl,ho4,e4,n4,_⟩
      have ho4:OwnK KI v2 A4 c4 (idsD (D1++d::D2)):=ho4
      refine ⟨_,_,_,rfl,(DeleteFunc_spec ho4 (by omega) (bg.ext e4) (fun hk=>by have:=n4 _ hk;have:=bg.lt;omega)).mono ?_⟩
      rintro _ v3 ⟨rfl,ho5,f5⟩
      rw [ids_drop hI.nd] at ho5 ⊢
      have e5:Ext v v3:=e4.trans f5 (fun _ _ h=>h) (fun k hk ho=>by have:=n4 k ho;omega)
      obtain ⟨p1,p2⟩:=h3.setIds ho5 ⟨e5.fr,fun k hk=>.inr (n4 k hk)⟩
      refine ⟨_,_,_,rfl,_,rfl,p1,fun v4 hv4=>?_⟩
      obtain ⟨T4,h4,c4⟩:=p2 v4 hv4
      exact ⟨rfl,T4,⟨g,R',M',A4,_,X,xc,L,h4⟩,(Tch.ext e2).trans (c3.trans c4)⟩
    · rintro _ v ⟨rfl,R',M',h',c⟩
      obtain ⟨T',h3,c3⟩:=h2.chg h' c hI' hs'.fan hs'.most
      exact ⟨_,rfl,rfl,R',M',T',h3,c3⟩
end
end Go.Proofs.YthfagbfllheneaaGreat
set_option linter.unusedVariables false
set_option linter.unusedSimpArgs false
namespace Go.Proofs.YthfagbfllheneaaGreat
open Go Go.Sx T4
section
variable {T:Nat->Prop} {u:World} {s:Nat} {q:Ab}
theorem StoA.setMarks {g:Nat} {R M:Nat->Prop} {IA:Option Addr} {ic:Nat} {X:Option Addr} {xc:Nat} {L:List Mk} {idl:List Int} (h:StoA T u s q g R M IA ic X xc L idl) {a:Mk} (g1:Sv1 (Om R M) u a.sb g a.A) (g2:Inv a.A a.D) (g3:a.A.fan=q.A.fan) (g4:a.A.most=q.A.most) (g5:OwnK KI u a.MA a.mc (idsD a.D)) (hnew:∀ k,ownB a.MA k->¬ T k) (hl:L.length<100) {u':World} {X':Option Addr} {xc':Nat} (ho:OwnK KMk u' X' xc' (L++[a])) (gr:Grew X X' u u') :
    stOK ((⟨s,0,none⟩:Addr).add 2) 0 [.slice X' (L++[a]).length xc'] u'/\∀ u2,u2=setAll ((⟨s,0,none⟩:Addr).add 2) 0 [.slice X' (L++[a]).length xc'] u' ->
      StoA (fun k=>T k\/ownB X' k\/ownB a.MA k) u2 s ⟨q.A,q.D,q.ms++[(a.A,a.D)]⟩ g R M IA ic X' xc' (L++[a]) idl/\Fr T u u2/\∀ k,ownB X' k->T k\/u.heap.size<=k:=by
  have bs:=h.blk.keep gr.fr (fun hk=>(h.xO _ hk).2.1 rfl)
  obtain ⟨p1,p2⟩:=setF bs (o:=2) (by simp) (.slice X' (L++[a]).length xc')
  refine ⟨p1,fun u2 hu=>?_⟩
  obtain ⟨b2,f2⟩:=p2 u2 hu
  have hsz:=gr.fr.size
  have hsz2:=f2.size
  have f:Fr (fun k=>ownB X k\/k=s) u u2:=(gr.fr.mono fun _ _ h=>.inl h).trans f2 (fun _ _ h=>h) (fun _ _ h=>.inr h)
  have isT:∀ k,ownB X k\/k=s->T k:=fun k hk=>hk.elim (h.xT k) fun e=>e▸h.sT
  have notR:∀ k,ownB X k\/k=s->¬ R k:=fun k hk=>hk.elim (fun hk=>(h.xO k hk).1) fun e=>e▸h.sR
  have new:∀ k,ownB X' k->ownB X k\/u.heap.size<=k:=gr.sub
  have hsl:=h.blk.lt
  have ma:∀ k,ownB a.MA k->k<u.heap.size:=g5.lt
  refine ⟨⟨h.ar.frame f fun k _ hk=>notR k hk,h.inv,by simpa using b2,fun k hk=>.inl (h.rT k hk),.inl h.sT,fun k hk=>.inl (h.iT k hk),fun k hk=>.inr (.inl hk),fun x hx k hk=>?_,fun k hk=>?_,h.sR,h.iO,fun k hk=>?_,fun x hx k hk=>?_,?_,h.ids.fr f (fun k hk hk'=>hk'.elim (fun hx=>(h.xO k hx).2.2 hk) fun e=>(h.iO k hk).2 e) (fun _ _ _ h=>h),ho.fr f2 (fun k hk e=>?_) (fun _ _ _ h=>h),fun x hx=>?_,by rw [List.map_append,h.ms];rfl,by simp;omega⟩,f.mono fun k _ hk=>isT k hk,fun k hk=>(new k hk).imp (h.xT k) id⟩
  · rcases List.mem_append.1 hx with hx|hx
    · exact .inl (h.mT x hx k hk)
    · obtain rfl:=List.mem_singleton.1 hx;exact .inr (.inr hk)
  · rcases hk with hk|hk|hk
    · have:=h.tlt k hk;omega
    · have:=ho.lt k hk;omega
    · have:=ma k hk;omega
  · rcases new k hk with hk|hk
    · exact h.xO k hk
    · exact ⟨fun hr=>by have:=h.tlt k (h.rT k hr);omega,by omega,fun hi=>by have:=h.ids.lt k hi;omega⟩
  · rcases List.mem_append.1 hx with hx|hx
    · obtain ⟨m1,m2,m3,m4⟩:=h.mO x hx k hk
      refine ⟨m1,m2,m3,fun hX=>?_⟩
      rcases new k hX with hX|hX
      · exact m4 hX
      · have:=h.tlt k (h.mT x hx k hk);omega
    · obtain rfl:=List.mem_singleton.1 hx
      have hT:=hnew k hk
      refine ⟨fun hr=>hT (h.rT k hr),fun e=>hT (e▸h.sT),fun hi=>hT (h.iT k hi),fun hX=>?_⟩
      rcases new k hX with hX|hX
      · exact hT (h.xT k hX)
      · have:=ma k hk;omega
  · refine List.pairwise_append.2 ⟨h.mD,List.pairwise_singleton _ _,fun x hx y hy k hk hk'=>?_⟩
    obtain rfl:=List.mem_singleton.1 hy
    exact hnew k hk' (h.mT x hx k hk)
  · have e:k=s:=e
    rcases new k hk with hk|hk
    · exact (h.xO k hk).2.1 e
    · omega
  · have st:Step (Om R M) u (Om R M) u2:=f.step (fun k _ hk=>.inl (notR k hk)) (fun _ _ h=>h)
    rcases List.mem_append.1 hx with hx|hx
    · obtain ⟨g1,g2,g3,g4,g5⟩:=h.good x hx
      exact ⟨g1.keep st,g2,g3,g4,g5.fr f (fun k hk hk'=>hk'.elim (h.mO x hx k hk).2.2.2 fun e=>(h.mO x hx k hk).2.1 e) (fun _ _ _ h=>h)⟩
    · obtain rfl:=List.mem_singleton.1 hx
      exact ⟨g1.keep st,g2,g3,g4,g5.fr f (fun k hk hk'=>hnew k hk (isT k hk')) (fun _ _ _ h=>h)⟩
theorem aMark (h:Sto T u s q):CallsV Tryz.prog 31 #[.pointer (some ⟨s,0,none⟩)] u fun r u'=>(100<=q.ms.length/\r=.tuple #[.int .i64 0,.int .i64 5]/\Ext u u')\/(q.ms.length<100/\r=.tuple #[iv (q.ms.length+1),.int .i64 0]/\∃ T',Sto T' u' s ⟨q.A,q.D,q.ms++[(q.A,q.D)]⟩/\Tch T u T' u'):=by
  obtain ⟨g,R,M,IA,ic,X,xc,L,h⟩:=h
  have hml:q.ms.length=L.length:=by rw [<- h.ms,List.length_map]
  refine undo_Store_Mark.calls okay ?_
  unfold undo_Store_Mark.W
  refine (smade_spec h).same ⟨_,rfl,brnb (fun h=>by cases h) fun _=>⟨_,rfl,_,_,_,h.blk.cell rfl,brd (fun hge=>.inl ⟨by omega,rfl,.refl _ _⟩) fun hlt=>?_⟩⟩
  refine ⟨fun v=>∃ T' R' M' X' xc' a,StoA T' v s ⟨q.A,q.D,q.ms++[(q.A,q.D)]⟩ g R' M' IA ic X' xc' (L++[a]) (idsD q.D)/\Tch T u T' v,?_,?_⟩
  · rintro v ⟨T',R',M',X',xc',a,h',c⟩
    refine ⟨_,rfl,_,_,_,h'.blk.cell rfl,.inr ⟨by omega,?_,T',⟨g,R',M',IA,ic,X',xc',_,h'⟩,c⟩⟩
    rw [hml];simp
  · have ed:Ext u u.drew:=Fr.drew NoB u
    have h1:=h.ext ed
    refine ⟨_,rfl,fun v=>Blk v s [.pointer (some ⟨g,0,none⟩),.slice IA (idsD q.D).length ic,.slice X L.length xc],h1.blk,_,_,_,fun v hv=>hv.cell rfl,_,rfl,_,fun v hv=>hv.cell rfl,_,rfl,_,_,_,fun v hv=>hv.cell rfl,(dSave h1.inv h1.ar).mono ?_⟩
    rintro _ u2 ⟨sb,R2,rfl,ha2,c2,e2,hS2⟩
    obtain ⟨T2,h2,t2⟩:=h1.chg ha2 c2 h1.inv rfl rfl
    refine ⟨_,rfl,h2.blk,(CloneI_spec oneI (h2.ids.imm KI_pos) (by rw [idsD_len];have:=h2.inv.cnt;show q.D.length<=_;have h9:q.D.length<=1000:=h2.inv.cnt;omega)).mono ?_⟩
    rintro _ u3 ⟨A3,c3,rfl,ho3,e3,n3,_⟩
    have ho3:OwnK KI u3 A3 c3 (idsD q.D):=ho3
    have h3:=h2.ext e3
    refine ⟨_,_,_,rfl,h3.blk,?_⟩
    rintro g4 u4 ⟨rfl,rfl⟩
    obtain ⟨X',xc',u5,hr5,ho5,gr5⟩:=h3.marks.push (K:=KMk) slM (ty:=40) (a:=⟨sb,A3,c3,q.A,q.D⟩) (cs:=mkC ⟨sb,A3,c3,q.A,q.D⟩) rfl (fun v hv=>by simp [mkC] at hv;rcases hv with rfl|rfl<;>rfl) (e':=114) (by simp only [maxLen];omega) (by omega)
    have hnew:∀ k,ownB A3 k->¬ T2 k:=fun k hk ht=>by have:=n3 k hk;have:=h2.tlt k ht;omega
    obtain ⟨p1,p2⟩:=h3.setMarks (a:=⟨sb,A3,c3,q.A,q.D⟩) (hS2.keep (Ext.om e3 R2 M)) h1.inv rfl rfl ho3 hnew (by omega) ho5 gr5
    refine ⟨h3.blk.ext (Fr.alloc NoB u3 _),_,_,_,u5,hr5,_,rfl,p1,fun u6 hu6=>?_⟩
    obtain ⟨h6,f6,s6⟩:=p2 u6 hu6
    refine ⟨_,R2,M,X',xc',_,h6,(Tch.ext ed).trans (t2.trans ⟨(e3.fr:Fr T2 u2 u3).trans f6 (fun _ _ h=>h) (fun _ _ h=>h),fun k hk=>?_⟩)⟩
    have:=e3.size
    rcases hk with hk|hk|hk
    · exact .inl hk
    · exact (s6 k hk).imp id fun h=>by omega
    · exact .inr (n3 k hk)
theorem mkCell {Ω:Nat->Prop} {X:Option Addr} {L:List Mk} (h:Imm KMk Ω u X L) {k:Nat} (hk:k<L.length):∃ ad,X=some ad/\u.cell? ((ad.add (k*2)).add 0)=some (.pointer (some ⟨L[k].sb,0,none⟩))/\u.cell? ((ad.add (k*2)).add 1)=some (.slice L[k].MA (idsD L[k].D).length L[k].mc):=by
  obtain ⟨ad,hA,_,cs,hr,hc⟩:=h k L[k] (List.getElem?_eq_getElem hk)
  have hr:cs=mkC L[k]:=hr
  subst hr
  exact ⟨ad,hA,by rw [add_add];exact hc 0 _ rfl,by rw [add_add];exact hc 1 _ rfl⟩
set_option maxHeartbeats 400000 in
theorem aBack (h:Sto T u s q) (n:Int):CallsV Tryz.prog 33 #[.pointer (some ⟨s,0,none⟩),.int .i64 n] u fun r u'=>((n<1\/(q.ms.length:Int)<n)/\r=.int .i64 60/\u'=u)\/(1<=n/\n<=(q.ms.length:Int)/\r=.int .i64 0/\∃ B D' T',q.ms[(n-1).toNat]?=some (B,D')/\Sto T' u' s ⟨B,D',q.ms.take (n-1).toNat⟩/\Tch T u T' u'):=by
  obtain ⟨g,R,M,IA,ic,X,xc,L,h⟩:=h
  have hml:q.ms.length=L.length:=by rw [<- h.ms,List.length_map]
  have hcnt:=h.cnt
  refine undo_Store_Back.calls okay ?_
  unfold undo_Store_Back.W
  refine (sis_spec h n).same ⟨_,rfl,?_⟩
  by_cases hb:n<1\/(L.length:Int)<n
  · rw [if_pos hb]
    exact brn (fun _=>.inl ⟨by omega,rfl,rfl⟩) fun h=>by cases h
  · rw [if_neg hb]
    have hw:IntKind.i64.wrap (n-1)=(((n-1).toNat:Nat):Int):=by rw [wi _ (by omega) (by omega)];omega
    have hxle:L.length<=xc:=by obtain ⟨xs,ho,_⟩:=h.marks;exact ho.le
    obtain ⟨k,hk⟩:∃ k,(n-1).toNat=k:=⟨_,rfl⟩
    rw [hk] at hw ⊢
    have hkl:k<L.length:=by omega
    obtain ⟨ad,hX,c0,c1⟩:=mkCell (h.marks.imm KMk_pos) hkl
    refine brn (fun h=>absurd rfl h) fun _=>⟨_,rfl,_,_,_,h.blk.cell rfl,ad,hX,?_⟩
    rw [hw,Int.toNat_natCast]
    refine ⟨⟨by omega,by omega⟩,_,c0,_,_,_,c1,?_⟩
    have hmem:L[k]∈L:=List.getElem_mem hkl
    have hqk:q.ms[k]?=some (L[k].A,L[k].D):=by rw [<- h.ms,List.getElem?_map,List.getElem?_eq_getElem hkl];rfl
    have hdis:∀ x∈L.take k,∀ j,ownB x.MA j->¬ ownB L[k].MA j:=by
      have hp:=h.mD
      rw [<- List.take_append_drop k L,List.drop_eq_getElem_cons hkl] at hp
      intro x hx j hj
      exact (List.pairwise_append.1 hp).2.2 x hx L[k] (List.mem_cons.2 (.inl rfl)) j hj
    generalize L[k]=x at *
    intro gm u1 f1
    refine ⟨f1.blk.stOK (o:=0) [_,_] 0 (by simp),fun u2 hu2=>?_⟩
    have bm:Blk u2 gm (mkC x):=by rw [hu2];exact Blk.setAll (o:=0) (mkC x) 0 f1.blk
    have e2:Ext u u2:=by rw [hu2];exact f1.ext.setAll f1.ge _ _
    have ed:Ext u u2.drew:=e2.drew
    have hgm:¬ T gm:=fun ht=>by have:=h.tlt gm ht;have:=f1.ge;omega
    have hgs:gm≠s:=fun e=>hgm (e▸h.sT)
    have hd:=h.ext ed
    have bmd:=bm.ext (Fr.drew NoB u2)
    -- the numbers
    obtain ⟨p1,p2⟩:=setF hd.blk (o:=1) (by simp) (.slice x.MA (idsD x.D).length x.mc)
    refine ⟨fun v=>∃ T',StoA T' v s ⟨q.A,q.D,q.ms.take k⟩ g R M x.MA x.mc X xc (L.take k) (idsD x.D)/\Sv1 (Om R M) v x.sb g x.A/\Tch T u T' v/\Blk v gm (mkC x)/\¬ T' gm,?_,?_⟩
    · rintro v ⟨T',h',hS',c',bm',hgm'⟩
      obtain ⟨g1,g2,g3,g4,g5⟩:=h.good x hmem
      have edv:Ext v v.drew:=Fr.drew NoB v
      have hv:=h'.ext edv
      refine ⟨_,rfl,fun z=>Ext v z,edv,_,fun z e=>(h'.blk.ext e).cell rfl,_,fun z e=>(bm'.ext e).cell rfl,(dLoad hv.inv g2 g3 g4 hv.ar (hS'.keep (Ext.om edv R M))).mono ?_⟩
      rintro _ v2 ⟨rfl,R',M',ha,c⟩
      obtain ⟨T2,h2,t2⟩:=hv.chg ha c g2 g3 g4
      exact ⟨_,rfl,.inr ⟨by omega,by omega,rfl,x.A,x.D,T2,hqk,⟨g,R',M',x.MA,x.mc,X,xc,_,h2⟩,c'.trans ((Tch.ext edv).trans t2)⟩⟩
    · refine ⟨fun v=>Blk v gm (mkC x)/\Blk v s [.pointer (some ⟨g,0,none⟩),.slice IA (idsD q.D).length ic,.slice X L.length xc],⟨bmd,hd.blk⟩,_,_,_,fun v hv=>hv.1.cell rfl,_,rfl,_,_,_,fun v hv=>hv.2.cell rfl,⟨by omega,by omega⟩,_,rfl,p1,fun u3 hu3=>?_⟩
      obtain ⟨b3,f3⟩:=p2 u3 hu3
      obtain ⟨q1,q2⟩:=setF b3 (o:=2) (by simp) (.slice X k xc)
      rw [cutAt_zero,Nat.sub_zero,Nat.sub_zero]
      refine ⟨_,rfl,q1,fun u4 hu4=>?_⟩
      obtain ⟨b4,f4⟩:=q2 u4 hu4
      have f:Fr (fun j=>j=s) u2.drew u4:=f3.trans f4 (fun _ _ h=>h) (fun _ _ h=>h)
      have ln:(L.take k).length=k:=by rw [List.length_take];omega
      have sub:∀ y∈L.take k,y∈L:=fun y hy=>(List.take_sublist k L).subset hy
      have so:Step (Om R M) u2.drew (Om R M) u4:=f.step (fun j _ e=>.inl fun hr=>h.sR (by have e:j=s:=e;exact e▸hr)) (fun _ _ h=>h)
      obtain ⟨g1,g2,g3,g4,g5⟩:=hd.good x hmem
      refine ⟨T,⟨hd.ar.frame f fun j _ e hr=>h.sR (by have e:j=s:=e;exact e▸hr),hd.inv,by rw [ln];simpa using b4,h.rT,h.sT,h.mT x hmem,h.xT,fun y hy=>h.mT y (sub y hy),fun j hj=>Nat.lt_of_lt_of_le (hd.tlt j hj) f.size,h.sR,fun j hj=>⟨(h.mO x hmem j hj).1,(h.mO x hmem j hj).2.1⟩,fun j hj=>⟨(h.xO j hj).1,(h.xO j hj).2.1,fun hm=>(h.mO x hmem j hm).2.2.2 hj⟩,fun y hy j hj=>⟨(h.mO y (sub y hy) j hj).1,(h.mO y (sub y hy) j hj).2.1,hdis y hy j hj,(h.mO y (sub y hy) j hj).2.2.2⟩,h.mD.sublist (List.take_sublist k L),g5.fr f (fun j hj e=>(h.mO x hmem j hj).2.1 e) (fun _ _ _ h=>h),(hd.marks.take k (by omega)).fr f (fun j hj e=>(h.xO j hj).2.1 e) (fun _ _ _ h=>h),fun y hy=>?_,by rw [List.map_take,h.ms],by rw [ln];omega⟩,g1.keep so,(Tch.ext ed).trans ⟨f.mono fun j _ e=>by have e:j=s:=e;rw [e];exact h.sT,fun j hj=>.inl hj⟩,bmd.keep f hgs,hgm⟩
      obtain ⟨y1,y2,y3,y4,y5⟩:=hd.good y (sub y hy)
      exact ⟨y1.keep so,y2,y3,y4,y5.fr f (fun j hj e=>(h.mO y (sub y hy) j hj).2.1 e) (fun _ _ _ h=>h)⟩
end
theorem aNew (u:World) (fan most:Nat) (h1:4<=fan) (h2:fan<=64) (h3:1<=most) (h4:most<=65536):CallsV Tryz.prog 19 #[iv fan,iv most] u fun r u'=>∃ s T,r=.tuple #[.pointer (some ⟨s,0,none⟩),.int .i64 0]/\Sto T u' s ⟨A0 fan most,[],[]⟩/\Ext u u'/\∀ k,T k->u.heap.size<=k:=by
  refine undo_New.calls okay ?_
  unfold undo_New.W
  refine (New_spec u fan most h1 h2 h3 h4).mono ?_
  rintro _ u1 ⟨g,R,M,rfl,ha,e1,hR⟩
  refine ⟨_,_,rfl,brn (fun h=>absurd rfl h) fun _=>?_⟩
  intro s u2 f2
  have hI:Inv (A0 fan most) []:=⟨rfl,fun _ h=>(by cases h),fun x=>(by simp [A0]),List.nodup_nil,fun _ h=>(by cases h),h1,h2,h4,by simp [Ar.nodes,A0],by simp [A0],by simp⟩
  have hl:=ha.lt
  refine ⟨s,fun k=>R k\/k=s,rfl,⟨g,R,M,none,0,none,0,[],⟨ha.ext f2.ext,hI,f2.blk,fun k hk=>.inl hk,.inr rfl,fun k hk=>(ownB_none k hk).elim,fun k hk=>(ownB_none k hk).elim,fun x hx=>(by cases hx),fun k hk=>?_,fun hr=>by have:=hl s hr;have:=f2.ge;omega,fun k hk=>(ownB_none k hk).elim,fun k hk=>(ownB_none k hk).elim,fun x hx=>(by cases hx),List.Pairwise.nil,OwnK.nil _ _,OwnK.nil _ _,fun x hx=>(by cases hx),rfl,by simp⟩⟩,e1.trans' f2.ext,fun k hk=>?_⟩
  · rcases hk with hk|rfl
    · have:=hl k hk;have:=f2.ext.size;omega
    · exact f2.lt
  · rcases hk with hk|rfl
    · exact hR k hk
    · exact Nat.le_trans e1.size f2.ge
end Go.Proofs.YthfagbfllheneaaGreat
set_option linter.unusedVariables false
set_option linter.unusedSimpArgs false
namespace Go.Proofs.YthfagbfllheneaaGreat
open Go Go.Sx T4
def upF (F:List (Int×Es)) (id:Int) (es:Es):List (Int×Es):=F.map fun p=>if p.1=id then (p.1,es) else p
def sizeF (F:List (Int×Es)):Nat:=(F.map fun p=>1+p.2.length).sum
theorem upF_out {F:List (Int×Es)} {id:Int} {es:Es} (h:∀ p∈F,p.1≠id):upF F id es=F:=by
  unfold upF
  conv=>rhs;rw [<- List.map_id F]
  exact List.map_congr_left fun p hp=>by rw [if_neg (h p hp)];rfl
theorem fo_up {D1 D2:List Tr} {d d':Tr} (hn:((D1++d::D2).map fun d=>d.r).Nodup) (hr:d'.r=d.r):foD (D1++d'::D2)=upF (foD (D1++d::D2)) d.r d'.es:=by
  have hx:=nd_mid hn
  have o1:upF (foD D1) d.r d'.es=foD D1:=upF_out fun p hp=>by
    obtain ⟨x,h,rfl⟩:=List.mem_map.1 hp;exact hx x (List.mem_append_left _ h)
  have o2:upF (foD D2) d.r d'.es=foD D2:=upF_out fun p hp=>by
    obtain ⟨x,h,rfl⟩:=List.mem_map.1 hp;exact hx x (List.mem_append_right _ h)
  have e:upF (foD (D1++d::D2)) d.r d'.es=upF (foD D1) d.r d'.es++(d.r,d'.es)::upF (foD D2) d.r d'.es:=by simp [upF,foD,fo]
  rw [e,o1,o2]
  simp [foD,fo,hr]
theorem nodes_size {A:Ar} {D:List Tr} (h:Inv A D):A.nodes<=sizeF (foD D):=by
  rw [h.nodesE]
  unfold sizeF foD
  rw [List.map_map]
  have:∀ (l:List Tr),(∀ d∈l,d∈D)->(l.map fun d=>d.ps.length).sum<=(l.map ((fun p:Int×Es=>1+p.2.length) ∘ fo)).sum:=by
    intro l
    induction l with
    | nil=>intro _;exact Nat.le_refl _
    | cons x l ih =>
      intro hl
      have h1:=ih fun d hd=>hl d (by simp [hd])
      have h2:x.ps.length<=1+x.es.length:=(h.tree x (hl x (by simp))).places h.f1
      simp only [List.map_cons,List.sum_cons]
      have h3:((fun p:Int×Es=>1+p.2.length) ∘ fo) x=1+x.es.length:=rfl
      omega
  exact this D fun _ h=>h
theorem tree_low {A:Ar} {D1 D2:List Tr} {d:Tr} (h:Inv A (D1++d::D2)):d.h<=A.nodes:=by
  have h1:=h.at_.tree.height
  have h2:=h.at_.acc.nodes
  omega
section
variable {T:Nat->Prop} {u:World} {s:Nat} {A:Ar} {D:List Tr} {ms:List (Ar×List Tr)}
theorem kPut (h:Sto T u s ⟨A,D,ms⟩) {id:Int} {es:Es} (hg:gF (foD D) id=some es) (hroom:2*sizeF (foD D)+1<=A.most) {key val:Key} (hk:key.length<=1048576) (hv:val.length<=1048576) {Ω1 Ω2:Nat->Prop} {KA VA:Option Addr} (iK:Imm KB Ω1 u KA key) (iV:Imm KB Ω2 u VA val) (kc vc:Nat) :
    CallsV Tryz.prog 22 #[.pointer (some ⟨s,0,none⟩),.int .i64 id,.slice KA key.length kc,.slice VA val.length vc] u fun r u'=>r=.tuple #[.bool (inE key es),.int .i64 0]/\∃ A' D' T',Sto T' u' s ⟨A',D',ms⟩/\Tch T u T' u'/\Same A A'/\foD D'=upF (foD D) id (insE key val es):=by
  obtain ⟨A',D',was,e,rel,hP⟩:=aPut (A:=A) (D:=D) h.inv id hk hv
  refine (hP h iK iV kc vc).mono ?_
  rintro _ u' ⟨rfl,T',h',c⟩
  rcases rel.rel with ⟨h1,_⟩|⟨D1,d,D2,d',full,hD,hr,rfl,hr',rfl,rfl,hfu,hno⟩
  · rw [hg] at h1;cases h1
  · have hI:=h.inv
    replace hI:Inv A D:=hI
    rw [hD] at hI
    have hes:d.es=es:=by
      have:gF (foD D) id=some d.es:=by
        rw [hD,<- hr]
        exact gF_nd hI.ndF (k:=D1.length) (by simp [foD,fo])
      rw [hg] at this;exact (Option.some.inj this).symm
    have:full=false:=by
      cases full with
      | false=>rfl
      | true=>have h1:=(hfu rfl).2.2.2;have:=nodes_size hI;have:=tree_low hI;rw [<- hD] at *;omega
    subst this
    refine ⟨by rw [hes];simp,A',_,T',h',c,rel.same,?_⟩
    rw [fo_up hI.nd hr',hno rfl,hr,hes,<- hD]
theorem kDel (h:Sto T u s ⟨A,D,ms⟩) {id:Int} {es:Es} (hg:gF (foD D) id=some es) (key:Key) {Ω1:Nat->Prop} {KA:Option Addr} (iK:Imm KB Ω1 u KA key) (kc:Nat) :
    CallsV Tryz.prog 30 #[.pointer (some ⟨s,0,none⟩),.int .i64 id,.slice KA key.length kc] u fun r u'=>r=.tuple #[.bool (inE key es),.int .i64 0]/\∃ A' D' T',Sto T' u' s ⟨A',D',ms⟩/\Tch T u T' u'/\Same A A'/\foD D'=upF (foD D) id (delE key es):=by
  obtain ⟨A',D',was,e,rel,hP⟩:=aDel (A:=A) (D:=D) h.inv id key
  refine (hP h iK kc).mono ?_
  rintro _ u' ⟨rfl,T',h',c⟩
  rcases rel.rel with ⟨h1,_⟩|⟨D1,d,D2,d',hD,hr,rfl,hr',rfl,rfl,he⟩
  · rw [hg] at h1;cases h1
  · have hI:=h.inv
    replace hI:Inv A D:=hI
    rw [hD] at hI
    have hes:d.es=es:=by
      have:gF (foD D) id=some d.es:=by
        rw [hD,<- hr]
        exact gF_nd hI.ndF (k:=D1.length) (by simp [foD,fo])
      rw [hg] at this;exact (Option.some.inj this).symm
    refine ⟨by rw [hes],A',_,T',h',c,rel.same,?_⟩
    rw [fo_up hI.nd hr',he,hr,hes,<- hD]
theorem kCreate (h:Sto T u s ⟨A,D,ms⟩) (hl:A.last<1000000) (hroom:sizeF (foD D)<A.most) (hD:D.length<1000) :
    CallsV Tryz.prog 20 #[.pointer (some ⟨s,0,none⟩)] u fun r u'=>r=.tuple #[iv (A.last+1),.int .i64 0]/\∃ A' D' T',Sto T' u' s ⟨A',D',ms⟩/\Tch T u T' u'/\A'.fan=A.fan/\A'.most=A.most/\A'.last=A.last+1/\foD D'=foD D++[(((A.last+1:Nat):Int),[])]:=by
  obtain ⟨A',D',n,e,rel,hP⟩:=aCreate (A:=A) (D:=D) h.inv hl
  refine (hP h).mono ?_
  rintro _ u' ⟨rfl,T',h',c⟩
  rcases rel.rel with ⟨_,_,h3,rfl,rfl,i,rfl⟩|⟨hf,_⟩
  · exact ⟨rfl,A',_,T',h',c,rel.fan,rel.most,h3,by simp [foD,fo]⟩
  · have hI:Inv A D:=h.inv
    have:=nodes_size hI;omega
/-! ## the helpers -/
end
end Go.Proofs.YthfagbfllheneaaGreat
set_option linter.unusedVariables false
set_option maxRecDepth 100000
namespace Go.Proofs.YthfagbfllheneaaGreat
open Go Go.Sx Value IntKind World Addr Builtin
noncomputable def cardindexref05_Store_Mark.W:Option Addr->Nat->Nat->Int->Option Addr->Nat->Nat->World->(Value->World->Prop)->Prop:=fun s0_A s0_n s0_c s1 s2_A s2_n s2_c w K=>∀ g w',
 Fresh w g w' [slice s0_A s0_n s0_c,int i64 s1,slice s2_A s2_n s2_c] 55->∀ g_1 w'_1,Fresh w' g_1 w'_1 [slice none 0 0,int i64 0,slice none 0 0] 55->∃ x x_1 x_2,cell? w'_1 (add (mk
 g 0 none) 2)=some (slice x x_1 x_2)/\bif decide (100<=(x_1:Int)) then ∃ x x_3 x_4,cell? w'_1 (add (mk g 0 none) 0)=some (slice x x_3 x_4)/\∃ x_5,cell?
 w'_1 (add (mk g 0 none) 1)=some (int i64 x_5)/\∃ x_6 x_7 x_8,cell? w'_1 (add (mk g 0 none) 2)=some (slice x_6 x_7 x_8)/\stOK (mk g_1 0 none) 0 [slice x x_3
 x_4,int i64 x_5,slice x_6 x_7 x_8] w'_1/\∀ w',w'=setAll (mk g_1 0 none) 0 [slice x x_3 x_4,int i64 x_5,slice x_6 x_7 x_8] w'_1->∃ x x_9 x_10,cell? w' (add (mk g_1 0 none) 0) =
 some (slice x x_9 x_10)/\∃ x_11,cell? w' (add (mk g_1 0 none) 1)=some (int i64 x_11)/\∃ x_12 x_13 x_14,cell? w' (add (mk g_1 0 none) 2)=some (slice x_12 x_13
 x_14)/\K (tuple #[agg #[slice x x_9 x_10,int i64 x_11,slice x_12 x_13 x_14],int i64 0,int i64 5]) w' else ∃ x x_3 x_4,cell? w'_1 (add (mk g 0 none) 2)=some (slice x x_3 x_4)/\∃
 x_5 x_6 x_7 w',RunsTo Tryz.prog (append_ (Array.mk [53,53]) 53 #[slice none 0 0,slice x x_3 x_4]) w'_1 (slice x_5 x_6 x_7) w'/\∃ x x_8 x_9,cell? w' (add (add (mk g 0 none) 0) 0) =
 some (slice x x_8 x_9)/\∃ x_10,cell? w' (add (add (mk g 0 none) 0) 1)=some (int i64 x_10)/\∀ g_2 w'_2,Fresh w' g_2 w'_2 [slice x x_8 x_9,int i64 x_10] 52->∃ x x_11 x_12 w',
 RunsTo Tryz.prog (append_ (Array.mk [53,53]) 53 #[slice x_5 x_6 x_7,slice (some (mk g_2 0 none)) 1 1]) w'_2 (slice x x_11 x_12) w'/\stOK (add (mk g 0 none) 2) 0 [slice x x_11
 x_12] w'/\∀ w'_3,w'_3=setAll (add (mk g 0 none) 2) 0 [slice x x_11 x_12] w'->∃ (S:World->Prop),S (drew w'_3)/\∃ x x_13 x_14,(∀ u,S u->cell? u (add (mk g 0 none) 0) =
 some (slice x x_13 x_14))/\∃ x_15,(∀ u,S u->cell? u (add (mk g 0 none) 1)=some (int i64 x_15))/\∃ x_16 x_17 x_18,(∀ u,S u->cell? u (add (mk g 0 none) 2) =
 some (slice x_16 x_17 x_18))/\∃ x_19 x_20 x_21,(∀ u,S u->cell? u (add (mk g 0 none) 2)=some (slice x_19 x_20 x_21))/\stOK (mk g_1 0 none) 0 [slice x x_13 x_14,int
 i64 x_15,slice x_16 x_17 x_18] (drew w'_3)/\∀ w',w'=setAll (mk g_1 0 none) 0 [slice x x_13 x_14,int i64 x_15,slice x_16 x_17 x_18] (drew w'_3)->S w'/\∃ x x_22 x_23,cell? w' (add (mk
 g_1 0 none) 0)=some (slice x x_22 x_23)/\∃ x_24,cell? w' (add (mk g_1 0 none) 1)=some (int i64 x_24)/\∃ x_25 x_26 x_27,cell? w' (add (mk g_1 0 none) 2) =
 some (slice x_25 x_26 x_27)/\K (tuple #[agg #[slice x x_22 x_23,int i64 x_24,slice x_25 x_26 x_27],int i64 (x_20:Int),int i64 0]) w'
theorem cardindexref05_Store_Mark.calls (ok:Okay Tryz.prog) {s0_A s0_n s0_c s1 s2_A s2_n s2_c w K} (h:cardindexref05_Store_Mark.W s0_A s0_n s0_c s1 s2_A s2_n s2_c w K):CallsV Tryz.prog 32 #[.agg #[.slice s0_A s0_n s0_c,.int .i64 s1,.slice s2_A s2_n s2_c]] w K :=
  fnW_calls ok Tryz.func32 (an:=(.named .auto)) (args:=[.agg #[.slice s0_A s0_n s0_c,.int .i64 s1,.slice s2_A s2_n s2_c]]) (Eq.mp (by kernel_rfl) h)
noncomputable def cardindexref05_Store_Back.W:Option Addr->Nat->Nat->Int->Option Addr->Nat->Nat->Int->World->(Value->World->Prop)->Prop:=fun s0_A s0_n s0_c s1 s2_A s2_n s2_c n w K=>∀
 g w',Fresh w g w' [slice s0_A s0_n s0_c,int i64 s1,slice s2_A s2_n s2_c] 55->∀ g_1 w'_1,Fresh w' g_1 w'_1 [slice none 0 0,int i64 0,slice none 0 0] 55->bif decide (n <
 1) then ∃ x x_1 x_2,cell? w'_1 (add (mk g 0 none) 0)=some (slice x x_1 x_2)/\∃ x_3,cell? w'_1 (add (mk g 0 none) 1)=some (int i64 x_3)/\∃ x_4 x_5 x_6,cell? w'_1
 (add (mk g 0 none) 2)=some (slice x_4 x_5 x_6)/\stOK (mk g_1 0 none) 0 [slice x x_1 x_2,int i64 x_3,slice x_4 x_5 x_6] w'_1/\∀ w',w'=setAll (mk g_1 0 none) 0 [slice
 x x_1 x_2,int i64 x_3,slice x_4 x_5 x_6] w'_1->∃ x x_7 x_8,cell? w' (add (mk g_1 0 none) 0)=some (slice x x_7 x_8)/\∃ x_9,cell? w' (add (mk g_1 0 none) 1)=some
 (int i64 x_9)/\∃ x_10 x_11 x_12,cell? w' (add (mk g_1 0 none) 2)=some (slice x_10 x_11 x_12)/\K (tuple #[agg #[slice x x_7 x_8,int i64 x_9,slice x_10 x_11 x_12],int i64 60]) w'
 else ∃ x x_1 x_2,cell? w'_1 (add (mk g 0 none) 2)=some (slice x x_1 x_2)/\bif decide ((x_1:Int)<n) then ∃ x x_3 x_4,cell? w'_1 (add (mk g 0 none) 0) =
 some (slice x x_3 x_4)/\∃ x_5,cell? w'_1 (add (mk g 0 none) 1)=some (int i64 x_5)/\∃ x_6 x_7 x_8,cell? w'_1 (add (mk g 0 none) 2)=some (slice x_6 x_7 x_8) /\
 stOK (mk g_1 0 none) 0 [slice x x_3 x_4,int i64 x_5,slice x_6 x_7 x_8] w'_1/\∀ w',w'=setAll (mk g_1 0 none) 0 [slice x x_3 x_4,int i64 x_5,slice x_6 x_7 x_8] w'_1->∃ x x_9 x_10,
 cell? w' (add (mk g_1 0 none) 0)=some (slice x x_9 x_10)/\∃ x_11,cell? w' (add (mk g_1 0 none) 1)=some (int i64 x_11)/\∃ x_12 x_13 x_14,cell? w' (add (mk g_1 0
 none) 2)=some (slice x_12 x_13 x_14)/\K (tuple #[agg #[slice x x_9 x_10,int i64 x_11,slice x_12 x_13 x_14],int i64 60]) w' else ∃ x x_3 x_4,cell? w'_1 (add (mk g 0 none) 2)
 = some (slice x x_3 x_4)/\∃ ad,x=some ad/\(0<=wrap i64 (n-1)/\wrap i64 (n-1)<(x_3:Int))/\∃ x x_5 x_6,cell? w'_1 (add (add ad (Int.toNat (wrap i64 (n-1))*2)) 0) =
 some (slice x x_5 x_6)/\∃ x_7,cell? w'_1 (add (add ad (Int.toNat (wrap i64 (n-1))*2)) 1)=some (int i64 x_7)/\stOK (add (mk g 0 none) 0) 0 [slice x x_5 x_6,int i64 x_7]
 w'_1/\∀ w',w'=setAll (add (mk g 0 none) 0) 0 [slice x x_5 x_6,int i64 x_7] w'_1->∃ x x_8 x_9,cell? w' (add (mk g 0 none) 2)=some (slice x x_8 x_9)/\(0<=wrap i64 (n-1)
 /\ wrap i64 (n-1)<=(x_9:Int))/\stOK (add (mk g 0 none) 2) 0 [slice (cutAt x x_9 0 2) (Int.toNat (wrap i64 (n-1))-0) (x_9-0)] w'/\∀ w'_2,w'_2=setAll (add (mk g 0 none) 2) 0
 [slice (cutAt x x_9 0 2) (Int.toNat (wrap i64 (n-1))-0) (x_9-0)] w'->∃ x x_10 x_11,cell? w'_2 (add (mk g 0 none) 0)=some (slice x x_10 x_11)/\∃ x_12,cell? w'_2 (add (mk g 0
 none) 1)=some (int i64 x_12)/\∃ x_13 x_14 x_15,cell? w'_2 (add (mk g 0 none) 2)=some (slice x_13 x_14 x_15)/\stOK (mk g_1 0 none) 0 [slice x x_10 x_11,int i64
 x_12,slice x_13 x_14 x_15] w'_2/\∀ w',w'=setAll (mk g_1 0 none) 0 [slice x x_10 x_11,int i64 x_12,slice x_13 x_14 x_15] w'_2->∃ x x_16 x_17,cell? w' (add (mk g_1 0 none) 0) =
 some (slice x x_16 x_17)/\∃ x_18,cell? w' (add (mk g_1 0 none) 1)=some (int i64 x_18)/\∃ x_19 x_20 x_21,cell? w' (add (mk g_1 0 none) 2)=some (slice x_19 x_20
 x_21)/\K (tuple #[agg #[slice x x_16 x_17,int i64 x_18,slice x_19 x_20 x_21],int i64 0]) w'
theorem cardindexref05_Store_Back.calls (ok:Okay Tryz.prog) {s0_A s0_n s0_c s1 s2_A s2_n s2_c n w K} (h:cardindexref05_Store_Back.W s0_A s0_n s0_c s1 s2_A s2_n s2_c n w K):CallsV Tryz.prog 34 #[.agg #[.slice s0_A s0_n s0_c,.int .i64 s1,.slice s2_A s2_n s2_c],.int .i64 n] w K :=
  fnW_calls ok Tryz.func34 (an:=(.named .auto)) (args:=[.agg #[.slice s0_A s0_n s0_c,.int .i64 s1,.slice s2_A s2_n s2_c],.int .i64 n]) (Eq.mp (by kernel_rfl) h)
end Go.Proofs.YthfagbfllheneaaGreat
set_option linter.unusedVariables false
set_option linter.unusedSimpArgs false
namespace Go.Proofs.YthfagbfllheneaaGreat
open Go Go.Sx T4
def KTs:Kd (List (Int×Es)×Int):=⟨2,fun Ω w p cs=>∃ a c,cs=[.slice a p.1.length c,.int .i64 p.2]/\TrR Ω w a c p.1,fun ⟨_,_,h,_⟩=>by simp [h],fun ⟨a,c,h,h1⟩ st=>⟨a,c,h,h1.keep st⟩⟩
theorem KTs_pos:0<KTs.size:=by decide
theorem slTs:SlT Tryz.prog 53 52 2 32 [.slice none 0 0,.int .i64 0]:=⟨by kernel_rfl,⟨Tryz.t52,by kernel_rfl,by kernel_rfl,by kernel_rfl,.agg #[.slice none 0 0,.int .i64 0],by kernel_rfl,by kernel_rfl⟩,rfl,by decide⟩
theorem oneTs {Ω:Nat->Prop} {w:World} {p:List (Int×Es)×Int} {cs:List Value} (h:KTs.rep Ω w p cs):∀ v∈cs,v.oneCell'=true:=by
  obtain ⟨a,c,rfl,_⟩:=h
  intro v hv
  simp at hv
  rcases hv with rfl|rfl<;>rfl
theorem tsCell {Ω:Nat->Prop} {w:World} {A:Option Addr} {l:List (List (Int×Es)×Int)} (h:Imm KTs Ω w A l) {j:Nat} {p:List (Int×Es)×Int} (hj:l[j]?=some p):∃ ad B c,A=some ad/\w.cell? ((ad.add (j*2)).add 0)=some (.slice B p.1.length c)/\w.cell? ((ad.add (j*2)).add 1)=some (.int .i64 p.2)/\TrR Ω w B c p.1:=by
  obtain ⟨ad,hA,_,cs,⟨B,c,rfl,h1⟩,hc⟩:=h j p hj
  exact ⟨ad,B,c,hA,by rw [add_add];exact hc 0 _ rfl,by rw [add_add];exact hc 1 _ rfl,h1⟩
structure StR (Ω:Nat->Prop) (w:World) (TA:Option Addr) (tc:Nat) (F:List (Int×Es)) (MA:Option Addr) (mc:Nat) (Ms:List (List (Int×Es)×Int)):Prop where
  t:TrR Ω w TA tc F
  m:Imm KTs Ω w MA Ms
  c:Ms.length<=mc
abbrev sV (TA:Option Addr) (tc:Nat) (F:List (Int×Es)) (la:Int) (MA:Option Addr) (mc:Nat) (n:Nat):Value:=.agg #[.slice TA F.length tc,.int .i64 la,.slice MA n mc]
section
variable {Ω:Nat->Prop} {w:World} {TA:Option Addr} {tc:Nat} {F:List (Int×Es)} {la:Int} {MA:Option Addr} {mc:Nat} {Ms:List (List (Int×Es)×Int)}
theorem StR.keep (h:StR Ω w TA tc F MA mc Ms) {Ω':Nat->Prop} {w':World} (st:Step Ω w Ω' w'):StR Ω' w' TA tc F MA mc Ms:=⟨h.t.keep st,h.m.keep KTs_pos st,h.c⟩
theorem StR.ext (h:StR Ω w TA tc F MA mc Ms) {w':World} (e:Ext w w'):StR Ω w' TA tc F MA mc Ms:=h.keep (e.step Ω)
theorem fin3 {u:World} {g1:Nat} {b0 b1 b2 c0 c1 c2:Value} (ew:Ext w u) (hb1:Blk u g1 [b0,b1,b2]) (hg1:w.heap.size<=g1):stOK ⟨g1,0,none⟩ 0 [c0,c1,c2] u/\∀ w',w'=setAll ⟨g1,0,none⟩ 0 [c0,c1,c2] u->Ext w w'/\Blk w' g1 [c0,c1,c2]:=by
  refine ⟨hb1.stOK (o:=0) [_,_,_] 0 (by simp),fun w' hw'=>?_⟩
  have b':Blk w' g1 [c0,c1,c2]:=by rw [hw'];exact Blk.setAll (o:=0) [c0,c1,c2] 0 hb1
  have f':Fr (fun k=>k=g1) u w':=by rw [hw'];exact Fr.setAll _ _ _
  exact ⟨ew.trans f' (fun _ _ h=>h) (fun k hk e=>by have e:k=g1:=e;omega),b'⟩
theorem rBack (h:StR Ω w TA tc F MA mc Ms) (hl:Ms.length<=1000) (n:Int):CallsV Tryz.prog 34 #[sV TA tc F la MA mc Ms.length,.int .i64 n] w fun r w'=>Ext w w'/\(((n<1\/(Ms.length:Int)<n)/\r=.tuple #[sV TA tc F la MA mc Ms.length,.int .i64 60])\/(1<=n/\n<=(Ms.length:Int)/\∃ F' la' TA' tc',Ms[(n-1).toNat]?=some (F',la')/\r=.tuple #[sV TA' tc' F' la' MA mc (Ms.take (n-1).toNat).length,.int .i64 0]/\StR Ω w' TA' tc' F' MA mc (Ms.take (n-1).toNat))):=by
  refine cardindexref05_Store_Back.calls okay ?_
  unfold cardindexref05_Store_Back.W
  intro g w1 f1 g1 w2 f2
  have e12:Ext w w2:=f1.ext.trans' f2.ext
  have b1:=f1.blk.ext f2.ext
  have hne:g1≠g:=fun e=>by have:=f1.blk.lt;have:=f2.ge;omega
  have hg1:w.heap.size<=g1:=Nat.le_trans f1.ext.size f2.ge
  have hg:w.heap.size<=g:=f1.ge
  refine brd (fun hn=>⟨_,_,_,b1.cell rfl,_,b1.cell rfl,_,_,_,b1.cell rfl,(fin3 e12 f2.blk hg1).1,fun u' hu=>have h9:=(fin3 e12 f2.blk hg1).2 u' hu;have e':=h9.1;⟨_,_,_,h9.2.cell rfl,_,h9.2.cell rfl,_,_,_,h9.2.cell rfl,e',.inl ⟨.inl hn,rfl⟩⟩⟩) fun hn=>⟨_,_,_,b1.cell rfl,brd (fun hn2=>⟨_,_,_,b1.cell rfl,_,b1.cell rfl,_,_,_,b1.cell rfl,(fin3 e12 f2.blk hg1).1,fun u' hu=>have h9:=(fin3 e12 f2.blk hg1).2 u' hu;have e':=h9.1;⟨_,_,_,h9.2.cell rfl,_,h9.2.cell rfl,_,_,_,h9.2.cell rfl,e',.inl ⟨.inr hn2,rfl⟩⟩⟩) fun hn2=>⟨_,_,_,b1.cell rfl,?_⟩⟩
  have hw:IntKind.i64.wrap (n-1)=(((n-1).toNat:Nat):Int):=by rw [wi _ (by omega) (by omega)];omega
  obtain ⟨k,hk⟩:∃ k,(n-1).toNat=k:=⟨_,rfl⟩
  rw [hk] at hw ⊢
  have hc:=h.c
  have hkl:k<Ms.length:=by omega
  obtain ⟨⟨F',la'⟩,hp⟩:∃ p,Ms[k]?=some p:=⟨_,List.getElem?_eq_getElem hkl⟩
  obtain ⟨ad,B,cB,hA,c0,c1,hT⟩:=tsCell (h.m.ext KTs_pos e12) hp
  have ⟨p1,p2⟩:stOK ((⟨g,0,none⟩:Addr).add 0) 0 [.slice B F'.length cB,.int .i64 la'] w2/\∀ w',w'=setAll ((⟨g,0,none⟩:Addr).add 0) 0 [.slice B F'.length cB,.int .i64 la'] w2->Blk w' g [.slice B F'.length cB,.int .i64 la',.slice MA Ms.length mc]/\Fr (fun k=>k=g) w2 w':=by
    rw [add_new]
    exact ⟨b1.stOK (o:=0) [_,_] 0 (by simp),fun w' hw'=>by rw [hw'];exact ⟨Blk.setAll (o:=0) [.slice B F'.length cB,.int .i64 la'] 0 b1,Fr.setAll _ _ _⟩⟩
  rw [hw,Int.toNat_natCast]
  refine ⟨ad,hA,⟨by omega,by omega⟩,_,_,_,c0,_,c1,p1,fun w3 hw3=>?_⟩
  obtain ⟨b3,f3⟩:=p2 w3 hw3
  have e3:Ext w w3:=e12.trans f3 (fun _ _ h=>h) (fun k hk e=>by have e:k=g:=e;omega)
  obtain ⟨q1,q2⟩:=setF b3 (o:=2) (by simp) (.slice MA k mc)
  refine ⟨_,_,_,b3.cell rfl,?_⟩
  rw [cutAt_zero,Nat.sub_zero,Nat.sub_zero]
  refine ⟨⟨by omega,by omega⟩,q1,fun w4 hw4=>?_⟩
  obtain ⟨b4,f4⟩:=q2 w4 hw4
  have e4:Ext w w4:=e3.trans f4 (fun _ _ h=>h) (fun k hk e=>by have e:k=g:=e;omega)
  have hlk:(Ms.take k).length=k:=by rw [List.length_take];omega
  refine ⟨_,_,_,b4.cell rfl,_,b4.cell rfl,_,_,_,b4.cell rfl,(fin3 e4 ((f2.blk.keep f3 hne).keep f4 hne) hg1).1,fun u' hu=>have h9:=(fin3 e4 ((f2.blk.keep f3 hne).keep f4 hne) hg1).2 u' hu;have e':=h9.1;⟨_,_,_,h9.2.cell rfl,_,h9.2.cell rfl,_,_,_,h9.2.cell rfl,e',.inr ⟨by omega,by omega,F',la',B,cB,hp,by rw [hlk],?_,?_,by rw [hlk];omega⟩⟩⟩
  · obtain ⟨ad',hA',_,cs,⟨B',c',hcs,hT'⟩,hcc⟩:=h.m k _ hp
    obtain ⟨ad2,B2,cB2,hA2,d0,_,hT2⟩:=tsCell h.m hp
    rw [hA2] at hA
    obtain rfl:=Option.some.inj hA
    have d0':=Ext.cell e12 d0
    rw [d0'] at c0
    obtain ⟨rfl,rfl⟩:B2=B/\cB2=cB:=by cases c0;exact ⟨rfl,rfl⟩
    exact hT2.ext e'
  · have:=(h.m.ext KTs_pos e').cut (lo:=0) (hi:=k) (m:=k) (Nat.le_refl _)
    rwa [cutAt_zero,List.drop_zero] at this
set_option maxHeartbeats 400000 in
theorem rMark (h:StR Ω w TA tc F MA mc Ms) (hΩ:∀ k,Ω k->k<w.heap.size):CallsV Tryz.prog 32 #[sV TA tc F la MA mc Ms.length] w fun r w'=>Ext w w'/\((100<=Ms.length/\r=.tuple #[sV TA tc F la MA mc Ms.length,.int .i64 0,.int .i64 5])\/(Ms.length<100/\∃ MA' mc',r=.tuple #[sV TA tc F la MA' mc' (Ms++[(F,la)]).length,iv (Ms.length+1),.int .i64 0]/\StR Ω w' TA tc F MA' mc' (Ms++[(F,la)]))):=by
  refine cardindexref05_Store_Mark.calls okay ?_
  unfold cardindexref05_Store_Mark.W
  intro g w1 f1 g1 w2 f2
  have e12:Ext w w2:=f1.ext.trans' f2.ext
  have b1:=f1.blk.ext f2.ext
  have hne:g1≠g:=fun e=>by have:=f1.blk.lt;have:=f2.ge;omega
  have hg1:w.heap.size<=g1:=Nat.le_trans f1.ext.size f2.ge
  have hg:w.heap.size<=g:=f1.ge
  refine ⟨_,_,_,b1.cell rfl,brd (fun hn=>⟨_,_,_,b1.cell rfl,_,b1.cell rfl,_,_,_,b1.cell rfl,(fin3 e12 f2.blk hg1).1,fun u' hu=>have h9:=(fin3 e12 f2.blk hg1).2 u' hu;have e':=h9.1;⟨_,_,_,h9.2.cell rfl,_,h9.2.cell rfl,_,_,_,h9.2.cell rfl,e',.inl ⟨by omega,rfl⟩⟩⟩) fun hn=>⟨_,_,_,b1.cell rfl,?_⟩⟩
  have hF:Imm (Kd.fix Ω w KTs) NoB w2 MA Ms:=(fixI h.m).ext KTs_pos e12
  obtain ⟨A1,c1,w3,hr3,ho3,g3⟩:=appFix (K:=KTs) slTs oneTs (ty:=53) (OwnK.nil (Kd.fix Ω w KTs) w2) hF (cb:=mc) (fun k hk=>(ownB_none k hk).elim) (by simp [maxLen];omega) (by simp;omega)
  rw [List.nil_append] at hr3 ho3
  have e23:Ext w2 w3:=g3.fr.mono (fun k _ hk=>(ownB_none k hk).elim)
  have hX:∀ k,ownB A1 k->w2.heap.size<=k:=fun k hk=>(g3.sub k hk).resolve_left fun h=>(ownB_none k h).elim
  have b3:=b1.ext e23
  refine ⟨_,_,_,w3,hr3,_,_,_,b3.cell' rfl,_,b3.cell' rfl,?_⟩
  rintro g4 w4 ⟨rfl,rfl⟩
  have hrep:KTs.rep Ω w (F,la) [.slice TA F.length tc,.int .i64 la]:=⟨TA,tc,rfl,h.t⟩
  obtain ⟨A5,c5,w5,hr5,ho5,g5⟩:=ho3.push (K:=Kd.fix Ω w KTs) slTs (ty:=53) (a:=(F,la)) (cs:=[.slice TA F.length tc,.int .i64 la]) hrep (oneTs hrep) (e':=52) (by simp only [maxLen];omega) (by omega)
  have e35:Ext w2 w5:=e23.trans g5.fr (fun _ _ h=>h) (fun k hk ho=>by have:=hX k ho;omega)
  have hX5:∀ k,ownB A5 k->w2.heap.size<=k:=fun k hk=>by
    rcases g5.sub k hk with h|h
    · exact hX k h
    · have:=e23.size;omega
  have b5:=b1.ext e35
  have hg2:=f1.blk.lt
  have s2:=f2.ext.size
  obtain ⟨p1,p2⟩:=setF b5 (o:=2) (by simp) (.slice A5 (Ms++[(F,la)]).length c5)
  refine ⟨_,_,_,w5,hr5,p1,fun w6 hw6=>?_⟩
  obtain ⟨b6,f6⟩:=p2 w6 hw6
  have e06:Ext w w6:=(e12.trans' e35).trans f6 (fun _ _ h=>h) (fun k hk e=>by have e:k=g:=e;omega)
  have ho6:=ho5.fr f6 (fun k hk e=>by have e:k=g:=e;have:=hX5 k hk;omega) (fun _ _ _ h=>h)
  have bg6:=(f2.blk.ext e35).keep f6 hne
  have ed:Ext w6 w6.drew:=Fr.drew NoB w6
  have b7:Blk w6.drew g [.slice TA F.length tc,.int .i64 la,.slice A5 (Ms++[(F,la)]).length c5]:=b6.ext ed
  refine ⟨fun v=>Blk v g [.slice TA F.length tc,.int .i64 la,.slice A5 (Ms++[(F,la)]).length c5],b7,_,_,_,fun v hv=>hv.cell rfl,_,fun v hv=>hv.cell rfl,_,_,_,fun v hv=>hv.cell rfl,_,_,_,fun v hv=>hv.cell rfl,(bg6.ext ed).stOK (o:=0) [_,_,_] 0 (by simp),fun w8 hw8=>?_⟩
  have b8:Blk w8 g1 [.slice TA F.length tc,.int .i64 la,.slice A5 (Ms++[(F,la)]).length c5]:=by rw [hw8];exact Blk.setAll (o:=0) [.slice TA F.length tc,.int .i64 la,.slice A5 (Ms++[(F,la)]).length c5] 0 (bg6.ext ed)
  have f8:Fr (fun k=>k=g1) w6.drew w8:=by rw [hw8];exact Fr.setAll _ _ _
  have e8:Ext w w8:=(e06.trans' ed).trans f8 (fun _ _ h=>h) (fun k hk e=>by have e:k=g1:=e;omega)
  have hg12:=f2.blk.lt
  have ho8:=(ho6.ext ed).fr f8 (fun k hk e=>by have e:k=g1:=e;have:=hX5 k hk;omega) (fun _ _ _ h=>h)
  refine ⟨b7.keep f8 hne.symm,_,_,_,b8.cell rfl,_,b8.cell rfl,_,_,_,b8.cell rfl,e8,.inr ⟨by omega,A5,c5,by simp,h.t.ext e8,?_,ho8.le⟩⟩
  exact unfixI KTs_pos ho8 e8 fun k hk ht=>by have:=hX5 k hk;have:=hΩ k ht;omega
end
end Go.Proofs.YthfagbfllheneaaGreat
set_option linter.unusedVariables false
set_option maxRecDepth 100000
namespace Go.Proofs.YthfagbfllheneaaGreat
open Go Go.Sx Value IntKind World Addr Builtin
noncomputable def cursor_New.W:Option Addr->Int->World->(Value->World->Prop)->Prop:=fun s id w K=>CallsV Tryz.prog 51 #[pointer s] w fun v w'=>∃ x,v=int i64 x/\bif decide (x
 = 1) then K (tuple #[pointer none,int i64 1]) w' else CallsV Tryz.prog 49 #[pointer s] w' fun v w'=>∃ x x_1 x_2,v=slice x x_1 x_2/\CallsV Tryz.prog 48 #[slice x x_1 x_2,int i64 id] w'
 fun v w'=>∃ x,v=bool x/\bif !x then K (tuple #[pointer none,int i64 41]) w' else ∀ g w'_1,Fresh w' g w'_1 [pointer s,int i64 id,slice none 0 0,bool false] 91->K (tuple
 #[pointer (some (mk g 0 none)),int i64 0]) w'_1
theorem cursor_New.calls (ok:Okay Tryz.prog) {s id w K} (h:cursor_New.W s id w K):CallsV Tryz.prog 14 #[.pointer s,.int .i64 id] w K :=
  fnW_calls ok Tryz.func14 (an:=(.named .auto)) (args:=[.pointer s,.int .i64 id]) (Eq.mp (by kernel_rfl) h)
noncomputable def cursor_Cursor_made.W:Option Addr->World->(Value->World->Prop)->Prop:=fun c w K=>bif !Option.isNone c then ∃ a,c=some a/\∃ x,cell? w (add a 0)=some
 (pointer x)/\K (bool !Option.isNone x) w else K (bool false) w
theorem cursor_Cursor_made.calls (ok:Okay Tryz.prog) {c w K} (h:cursor_Cursor_made.W c w K):CallsV Tryz.prog 40 #[.pointer c] w K :=
  fnW_calls ok Tryz.func40 (an:=(.named .auto)) (args:=[.pointer c]) (Eq.mp (by kernel_rfl) h)
noncomputable def cursor_Cursor_put.W:Option Addr->Option Addr->Nat->Nat->Option Addr->Nat->Nat->Bool->World->(Value->World->Prop)->Prop:=fun c key_A key_n key_c a2_A a2_n a2_c okx w K
 => bif Option.isNone c then K (bool false) w else ∃ a,c=some a/\∃ x,cell? w (add a 0)=some (pointer x)/\bif Option.isNone x then K (bool false) w else ∃ a,c =
 some a/\stOK (add a 2) 0 [slice key_A key_n key_c] w/\∀ w',w'=setAll (add a 2) 0 [slice key_A key_n key_c] w->∃ a,c=some a/\stOK (add a 3) 0 [bool okx] w'/\∀ w'_1,w'_1 =
 setAll (add a 3) 0 [bool okx] w'->K (bool okx) w'_1
theorem cursor_Cursor_put.calls (ok:Okay Tryz.prog) {c key_A key_n key_c a2_A a2_n a2_c okx w K} (h:cursor_Cursor_put.W c key_A key_n key_c a2_A a2_n a2_c okx w K):CallsV Tryz.prog 47 #[.pointer c,.slice key_A key_n key_c,.slice a2_A a2_n a2_c,.bool okx] w K :=
  fnW_calls ok Tryz.func47 (an:=(.named .auto)) (args:=[.pointer c,.slice key_A key_n key_c,.slice a2_A a2_n a2_c,.bool okx]) (Eq.mp (by kernel_rfl) h)
noncomputable def cursor_Cursor_Rewind.W:Option Addr->World->(Value->World->Prop)->Prop:=fun c w K=>CallsV Tryz.prog 40 #[pointer c] (drew w) fun v w'=>∃ x,v=bool x/\bif x then ∃ a,c
 = some a/\∃ (S:World->Prop),S w'/\∃ x,(∀ u,S u->cell? u (add a 0)=some (pointer x))/\∃ a,c=some a/\∃ x_1,(∀ u,S u->cell? u (add a 1)=some (int i64 x_1))
 /\ CallsV Tryz.prog 42 #[pointer x,int i64 x_1,slice none 0 0,bool true] w' fun v w'=>∃ x x_2 x_3 x_4 x_5 x_6 x_7,v=tuple #[slice x x_2 x_3,slice x_4 x_5 x_6,bool x_7]/\CallsV
 Tryz.prog 47 #[pointer c,slice x x_2 x_3,slice x_4 x_5 x_6,bool x_7] w' fun v w'=>∃ x,v=bool x/\K (bool x) w' else K (bool false) w'
theorem cursor_Cursor_Rewind.calls (ok:Okay Tryz.prog) {c w K} (h:cursor_Cursor_Rewind.W c w K):CallsV Tryz.prog 13 #[.pointer c] w K :=
  fnW_calls ok Tryz.func13 (an:=(.named .auto)) (args:=[.pointer c]) (Eq.mp (by kernel_rfl) h)
noncomputable def cursor_Cursor_Last.W:Option Addr->World->(Value->World->Prop)->Prop:=fun c w K=>CallsV Tryz.prog 40 #[pointer c] (drew w) fun v w'=>∃ x,v=bool x/\bif x then ∃ a,c =
 some a/\∃ (S:World->Prop),S w'/\∃ x,(∀ u,S u->cell? u (add a 0)=some (pointer x))/\∃ a,c=some a/\∃ x_1,(∀ u,S u->cell? u (add a 1)=some (int i64 x_1)) /\
 CallsV Tryz.prog 50 #[pointer x,int i64 x_1] w' fun v w'=>∃ x x_2 x_3 x_4 x_5 x_6 x_7,v=tuple #[slice x x_2 x_3,slice x_4 x_5 x_6,bool x_7]/\CallsV Tryz.prog 47 #[pointer c,slice x x_2 x_3,
 slice x_4 x_5 x_6,bool x_7] w' fun v w'=>∃ x,v=bool x/\K (bool x) w' else K (bool false) w'
theorem cursor_Cursor_Last.calls (ok:Okay Tryz.prog) {c w K} (h:cursor_Cursor_Last.W c w K):CallsV Tryz.prog 12 #[.pointer c] w K :=
  fnW_calls ok Tryz.func12 (an:=(.named .auto)) (args:=[.pointer c]) (Eq.mp (by kernel_rfl) h)
noncomputable def cursor_Cursor_entry.W:Option Addr->World->(Value->World->Prop)->Prop:=fun c w K=>CallsV Tryz.prog 40 #[pointer c] w fun v w'=>∃ x,v=bool x/\bif !x then K (tuple
 #[slice none 0 0,slice none 0 0,bool false]) w' else ∃ a,c=some a/\∃ x,cell? w' (add a 3)=some (bool x)/\bif !x then K (tuple #[slice none 0 0,slice
 none 0 0,bool false]) w' else ∃ a,c=some a/\∃ (S:World->Prop),S (drew w')/\∃ x,(∀ u,S u->cell? u (add a 0)=some (pointer x))/\∃ a,c=some a/\∃ x_1,
 (∀ u,S u->cell? u (add a 1)=some (int i64 x_1))/\∃ a,c=some a/\∃ x_2 x_3 x_4,(∀ u,S u->cell? u (add a 2)=some (slice x_2 x_3 x_4))/\CallsV Tryz.prog 82 #[pointer x,
 int i64 x_1,slice x_2 x_3 x_4] (drew w') fun v w'=>∃ x x_5 x_6 x_7,v=tuple #[slice x x_5 x_6,bool x_7]/\∃ a,c=some a/\∃ x_8 x_9 x_10,cell? w' (add a 2)=some (slice x_8 x_9
 x_10)/\K (tuple #[slice x_8 x_9 x_10,slice x x_5 x_6,bool x_7]) w'
theorem cursor_Cursor_entry.calls (ok:Okay Tryz.prog) {c w K} (h:cursor_Cursor_entry.W c w K):CallsV Tryz.prog 58 #[.pointer c] w K :=
  fnW_calls ok Tryz.func58 (an:=(.named .auto)) (args:=[.pointer c]) (Eq.mp (by kernel_rfl) h)
noncomputable def cursor_Cursor_Valid.W:Option Addr->World->(Value->World->Prop)->Prop:=fun c w K=>CallsV Tryz.prog 58 #[pointer c] w fun v w'=>∃ x x_1 x_2 x_3 x_4 x_5 x_6,v=tuple
 #[slice x x_1 x_2,slice x_3 x_4 x_5,bool x_6]/\K (bool x_6) w'
theorem cursor_Cursor_Valid.calls (ok:Okay Tryz.prog) {c w K} (h:cursor_Cursor_Valid.W c w K):CallsV Tryz.prog 17 #[.pointer c] w K :=
  fnW_calls ok Tryz.func17 (an:=(.named .auto)) (args:=[.pointer c]) (Eq.mp (by kernel_rfl) h)
noncomputable def cursor_Cursor_Key.W:Option Addr->World->(Value->World->Prop)->Prop:=fun c w K=>CallsV Tryz.prog 58 #[pointer c] w fun v w'=>∃ x x_1 x_2 x_3 x_4 x_5 x_6,v=tuple #[slice
 x x_1 x_2,slice x_3 x_4 x_5,bool x_6]/\bif !x_6 then K (slice none 0 0) w' else CallsV Tryz.prog 57 #[slice x x_1 x_2] w' fun v w'=>∃ x x_7 x_8,v=slice x x_7 x_8/\K (slice x x_7 x_8) w'
theorem cursor_Cursor_Key.calls (ok:Okay Tryz.prog) {c w K} (h:cursor_Cursor_Key.W c w K):CallsV Tryz.prog 38 #[.pointer c] w K :=
  fnW_calls ok Tryz.func38 (an:=(.named .auto)) (args:=[.pointer c]) (Eq.mp (by kernel_rfl) h)
noncomputable def cursor_Cursor_Value.W:Option Addr->World->(Value->World->Prop)->Prop:=fun c w K=>CallsV Tryz.prog 58 #[pointer c] w fun v w'=>∃ x x_1 x_2 x_3 x_4 x_5 x_6,v=tuple
 #[slice x x_1 x_2,slice x_3 x_4 x_5,bool x_6]/\K (slice x_3 x_4 x_5) w'
theorem cursor_Cursor_Value.calls (ok:Okay Tryz.prog) {c w K} (h:cursor_Cursor_Value.W c w K):CallsV Tryz.prog 39 #[.pointer c] w K :=
  fnW_calls ok Tryz.func39 (an:=(.named .auto)) (args:=[.pointer c]) (Eq.mp (by kernel_rfl) h)
noncomputable def cursor_Cursor_Insert.W:Option Addr->Option Addr->Nat->Nat->Option Addr->Nat->Nat->World->(Value->World->Prop)->Prop:=fun c key_A key_n key_c val_A val_n val_c w K =>
 CallsV Tryz.prog 40 #[pointer c] w fun v w'=>∃ x,v=bool x/\bif !x then K (tuple #[bool false,int i64 1]) w' else ∃ a,c=some a/\∃ (S:World->Prop),S (drew w')/\∃ x,(∀ u,S u
 -> cell? u (add a 0)=some (pointer x))/\∃ a,c=some a/\∃ x_1,(∀ u,S u->cell? u (add a 1)=some (int i64 x_1))/\CallsV Tryz.prog 22 #[pointer x,int i64 x_1,slice key_A
 key_n key_c,slice val_A val_n val_c] (drew w') fun v w'=>∃ x x_2,v=tuple #[bool x,int i64 x_2]/\bif decide (x_2=0) then CallsV Tryz.prog 57 #[slice key_A key_n key_c] w' fun v w' =>
 ∃ x_3 x_4 x_5,v=slice x_3 x_4 x_5/\CallsV Tryz.prog 47 #[pointer c,slice x_3 x_4 x_5,slice none 0 0,bool true] w' fun v w'=>∃ x_6,v=bool x_6/\K (tuple #[bool x,int i64 x_2])
 w' else K (tuple #[bool x,int i64 x_2]) w'
theorem cursor_Cursor_Insert.calls (ok:Okay Tryz.prog) {c key_A key_n key_c val_A val_n val_c w K} (h:cursor_Cursor_Insert.W c key_A key_n key_c val_A val_n val_c w K):CallsV Tryz.prog 16 #[.pointer c,.slice key_A key_n key_c,.slice val_A val_n val_c] w K :=
  fnW_calls ok Tryz.func16 (an:=(.named .auto)) (args:=[.pointer c,.slice key_A key_n key_c,.slice val_A val_n val_c]) (Eq.mp (by kernel_rfl) h)
noncomputable def cursor_Cursor_Delete.W:Option Addr->World->(Value->World->Prop)->Prop:=fun c w K=>CallsV Tryz.prog 40 #[pointer c] w fun v w'=>∃ x,v=bool x/\bif !x then K (int i64 1)
 w' else ∃ (J:Bool->World->Prop),(∀ x w,J x w->bif x then K (int i64 41) w else CallsV Tryz.prog 17 #[pointer c] w fun v w'=>∃ x,v=bool x/\bif !x then K (int i64 70) w' else ∃ a,c =
 some a/\∃ (S:World->Prop),S (drew w')/\∃ x,(∀ u,S u->cell? u (add a 0)=some (pointer x))/\∃ a,c=some a/\∃ x_1,(∀ u,S u->cell? u (add a 1)=some (int i64
 x_1))/\∃ a,c=some a/\∃ x_2 x_3 x_4,(∀ u,S u->cell? u (add a 2)=some (slice x_2 x_3 x_4))/\CallsV Tryz.prog 30 #[pointer x,int i64 x_1,slice x_2 x_3 x_4] (drew w') fun v w' =>
 ∃ x x_5,v=tuple #[bool x,int i64 x_5]/\K (int i64 x_5) w')/\∃ a,c=some a/\∃ (S:World->Prop),S (drew w')/\∃ x,(∀ u,S u->cell? u (add a 0)=some (pointer x))/\∃ a,c =
 some a/\∃ x_1,(∀ u,S u->cell? u (add a 1)=some (int i64 x_1))/\CallsV Tryz.prog 49 #[pointer x] (drew w') fun v w'=>∃ x x_2 x_3,v=slice x x_2 x_3/\S w'/\CallsV Tryz.prog 48
 #[slice x x_2 x_3,int i64 x_1] w' fun v w'=>∃ x,v=bool x/\J (!x) w'
theorem cursor_Cursor_Delete.calls (ok:Okay Tryz.prog) {c w K} (h:cursor_Cursor_Delete.W c w K):CallsV Tryz.prog 11 #[.pointer c] w K :=
  fnW_calls ok Tryz.func11 (an:=(.named (.seq .auto (.seq (.block (.seq .auto (.cond .auto (.join [(9,.one .bool)] .auto .auto)))) .auto)))) (args:=[.pointer c]) (Eq.mp (by kernel_rfl) h)
noncomputable def cursor_Cursor_Seek_1.W:Addr->Addr->World->(Value->World->Prop)->Prop:=fun a0 a1 w K=>∃ (S:World->Prop),S (drew w)/\∃ x,(∀ u,S u->cell? u a0=some (pointer
 x))/\∃ a,x=some a/\∃ x,(∀ u,S u->cell? u (add a 0)=some (pointer x))/\∃ x_1,(∀ u,S u->cell? u a0=some (pointer x_1))/\∃ a,x_1=some a/\∃ x_2,(∀ u,S u ->
 cell? u (add a 1)=some (int i64 x_2))/\∃ x_3 x_4 x_5,(∀ u,S u->cell? u a1=some (slice x_3 x_4 x_5))/\CallsV Tryz.prog 42 #[pointer x,int i64 x_2,slice x_3 x_4 x_5,bool
 true] (drew w) fun v w'=>∃ x x_6 x_7 x_8 x_9 x_10 x_11,v=tuple #[slice x x_6 x_7,slice x_8 x_9 x_10,bool x_11]/\S w'/\K (tuple #[slice x x_6 x_7,slice x_8 x_9 x_10,bool x_11]) w'
theorem cursor_Cursor_Seek_1.calls (ok:Okay Tryz.prog) {a0 a1 w K} (h:cursor_Cursor_Seek_1.W a0 a1 w K):CallsV Tryz.prog 41 #[.pointer (some a0),.pointer (some a1)] w K :=
  fnW_calls ok Tryz.func41 (an:=(.named .auto)) (args:=[.pointer (some a0),.pointer (some a1)]) (Eq.mp (by kernel_rfl) h)
noncomputable def cursor_Cursor_Seek_2.W:Addr->Addr->World->(Value->World->Prop)->Prop:=fun a0 a1 w K=>∃ (S:World->Prop),S (drew w)/\∃ x,(∀ u,S u->cell? u a0=some (pointer
 x))/\∃ a,x=some a/\∃ x,(∀ u,S u->cell? u (add a 0)=some (pointer x))/\∃ x_1,(∀ u,S u->cell? u a0=some (pointer x_1))/\∃ a,x_1=some a/\∃ x_2,(∀ u,S u ->
 cell? u (add a 1)=some (int i64 x_2))/\∃ x_3 x_4 x_5,(∀ u,S u->cell? u a1=some (slice x_3 x_4 x_5))/\CallsV Tryz.prog 42 #[pointer x,int i64 x_2,slice x_3 x_4 x_5,bool
 false] (drew w) fun v w'=>∃ x x_6 x_7 x_8 x_9 x_10 x_11,v=tuple #[slice x x_6 x_7,slice x_8 x_9 x_10,bool x_11]/\S w'/\K (tuple #[slice x x_6 x_7,slice x_8 x_9 x_10,bool x_11]) w'
theorem cursor_Cursor_Seek_2.calls (ok:Okay Tryz.prog) {a0 a1 w K} (h:cursor_Cursor_Seek_2.W a0 a1 w K):CallsV Tryz.prog 43 #[.pointer (some a0),.pointer (some a1)] w K :=
  fnW_calls ok Tryz.func43 (an:=(.named .auto)) (args:=[.pointer (some a0),.pointer (some a1)]) (Eq.mp (by kernel_rfl) h)
noncomputable def cursor_Cursor_Seek_3.W:Addr->Addr->World->(Value->World->Prop)->Prop:=fun a0 a1 w K=>∃ (S:World->Prop),S (drew w)/\∃ x,(∀ u,S u->cell? u a0=some (pointer
 x))/\∃ a,x=some a/\∃ x,(∀ u,S u->cell? u (add a 0)=some (pointer x))/\∃ x_1,(∀ u,S u->cell? u a0=some (pointer x_1))/\∃ a,x_1=some a/\∃ x_2,(∀ u,S u ->
 cell? u (add a 1)=some (int i64 x_2))/\∃ x_3 x_4 x_5,(∀ u,S u->cell? u a1=some (slice x_3 x_4 x_5))/\CallsV Tryz.prog 45 #[pointer x,int i64 x_2,slice x_3 x_4 x_5,bool
 true] (drew w) fun v w'=>∃ x x_6 x_7 x_8 x_9 x_10 x_11,v=tuple #[slice x x_6 x_7,slice x_8 x_9 x_10,bool x_11]/\S w'/\K (tuple #[slice x x_6 x_7,slice x_8 x_9 x_10,bool x_11]) w'
theorem cursor_Cursor_Seek_3.calls (ok:Okay Tryz.prog) {a0 a1 w K} (h:cursor_Cursor_Seek_3.W a0 a1 w K):CallsV Tryz.prog 44 #[.pointer (some a0),.pointer (some a1)] w K :=
  fnW_calls ok Tryz.func44 (an:=(.named .auto)) (args:=[.pointer (some a0),.pointer (some a1)]) (Eq.mp (by kernel_rfl) h)
noncomputable def cursor_Cursor_Seek_4.W:Addr->Addr->World->(Value->World->Prop)->Prop:=fun a0 a1 w K=>∃ (S:World->Prop),S (drew w)/\∃ x,(∀ u,S u->cell? u a0=some (pointer
 x))/\∃ a,x=some a/\∃ x,(∀ u,S u->cell? u (add a 0)=some (pointer x))/\∃ x_1,(∀ u,S u->cell? u a0=some (pointer x_1))/\∃ a,x_1=some a/\∃ x_2,(∀ u,S u ->
 cell? u (add a 1)=some (int i64 x_2))/\∃ x_3 x_4 x_5,(∀ u,S u->cell? u a1=some (slice x_3 x_4 x_5))/\CallsV Tryz.prog 45 #[pointer x,int i64 x_2,slice x_3 x_4 x_5,bool
 false] (drew w) fun v w'=>∃ x x_6 x_7 x_8 x_9 x_10 x_11,v=tuple #[slice x x_6 x_7,slice x_8 x_9 x_10,bool x_11]/\S w'/\K (tuple #[slice x x_6 x_7,slice x_8 x_9 x_10,bool x_11]) w'
theorem cursor_Cursor_Seek_4.calls (ok:Okay Tryz.prog) {a0 a1 w K} (h:cursor_Cursor_Seek_4.W a0 a1 w K):CallsV Tryz.prog 46 #[.pointer (some a0),.pointer (some a1)] w K :=
  fnW_calls ok Tryz.func46 (an:=(.named .auto)) (args:=[.pointer (some a0),.pointer (some a1)]) (Eq.mp (by kernel_rfl) h)
noncomputable def bytes_Clone.W:Option Addr->Nat->Nat->World->(Value->World->Prop)->Prop:=fun b_A b_n b_c w K=>bif Option.isNone b_A then K (slice none 0 0) w else ∀ g w',Fresh w g
 w' [] 5->∃ x x_1 x_2 w'_1,RunsTo Tryz.prog (append_ (Array.mk [30,30]) 30 #[slice (some (mk g 0 none)) 0 0,slice b_A b_n b_c]) w' (slice x x_1 x_2) w'_1/\K (slice x x_1 x_2) w'_1
theorem bytes_Clone.calls (ok:Okay Tryz.prog) {b_A b_n b_c w K} (h:bytes_Clone.W b_A b_n b_c w K):CallsV Tryz.prog 57 #[.slice b_A b_n b_c] w K :=
  fnW_calls ok Tryz.func57 (an:=(.named .auto)) (args:=[.slice b_A b_n b_c]) (Eq.mp (by kernel_rfl) h)
noncomputable def slices_Contains_int_int.W:Option Addr->Nat->Nat->Int->World->(Value->World->Prop)->Prop:=fun s_A s_n s_c v w K=>CallsV Tryz.prog 74 #[slice s_A s_n s_c,int i64 v] w fun
 v w'=>∃ x,v=int i64 x/\K (bool (decide (0<=x))) w'
theorem slices_Contains_int_int.calls (ok:Okay Tryz.prog) {s_A s_n s_c v w K} (h:slices_Contains_int_int.W s_A s_n s_c v w K):CallsV Tryz.prog 48 #[.slice s_A s_n s_c,.int .i64 v] w K :=
  fnW_calls ok Tryz.func48 (an:=(.named .auto)) (args:=[.slice s_A s_n s_c,.int .i64 v]) (Eq.mp (by kernel_rfl) h)
noncomputable def slices_Index_int_int.W:Option Addr->Nat->Nat->Int->World->(Value->World->Prop)->Prop:=fun s_A s_n s_c v w K=>∃ (I:Int->World->Prop) (μ:Int->World->Nat),I 0 w /\
 ∀ x w,I x w->bif decide (x<(s_n:Int)) then ∃ ad,s_A=some ad/\(0<=x/\x<(s_n:Int))/\∃ x_1,cell? w (add ad (Int.toNat x*1))=some (int i64 x_1)/\bif
 decide (v=x_1) then K (int i64 x) w else I (wrap i64 (x+1)) w/\μ (wrap i64 (x+1)) w<μ x w else K (int i64 (-1:Int)) w
theorem slices_Index_int_int.calls (ok:Okay Tryz.prog) {s_A s_n s_c v w K} (h:slices_Index_int_int.W s_A s_n s_c v w K):CallsV Tryz.prog 74 #[.slice s_A s_n s_c,.int .i64 v] w K :=
  fnW_calls ok Tryz.func74 (an:=(.named (.seq .auto (.seq (.seq .auto (.block (.loop [(8,.one (.int .i64))] .auto))) .auto)))) (args:=[.slice s_A s_n s_c,.int .i64 v]) (Eq.mp (by kernel_rfl) h)
end Go.Proofs.YthfagbfllheneaaGreat
set_option linter.unusedVariables false
set_option linter.unusedSimpArgs false
namespace Go.Proofs.YthfagbfllheneaaGreat
open Go Go.Sx T4
def KeyAt (Ω:Nat->Prop) (w:World) (k:Option Key) (KA:Option Addr) (n:Nat) (ok:Bool):Prop:=match k with
  | none=>ok=false
  | some key=>ok=true/\n=key.length/\key.length<=1048576/\Imm KB Ω w KA key
theorem KeyAt.keep {Ω Ω':Nat->Prop} {w w':World} {k:Option Key} {KA:Option Addr} {n:Nat} {ok:Bool} (h:KeyAt Ω w k KA n ok) (st:Step Ω w Ω' w'):KeyAt Ω' w' k KA n ok:=by
  cases k with
  | none=>exact h
  | some key=>exact ⟨h.1,h.2.1,h.2.2.1,h.2.2.2.keep KB_pos st⟩
def Cur (Ω:Nat->Prop) (w:World) (g s:Nat) (id:Int) (k:Option Key):Prop:=∃ KA n c ok,Blk w g [.pointer (some ⟨s,0,none⟩),.int .i64 id,.slice KA n c,.bool ok]/\KeyAt Ω w k KA n ok
section
variable {Ω:Nat->Prop} {w:World} {g s:Nat} {id:Int} {k:Option Key}
theorem Cur.fr (h:Cur Ω w g s id k) {S Ω':Nat->Prop} {w':World} (f:Fr S w w') (hg:¬ S g) (hS:∀ k,k<w.heap.size->S k->Ω k) (hΩ:∀ k,k<w.heap.size->Ω' k->Ω k):Cur Ω' w' g s id k:=by
  obtain ⟨KA,n,c,ok,hb,hk⟩:=h
  exact ⟨KA,n,c,ok,hb.keep f hg,hk.keep (f.step hS hΩ)⟩
theorem Cur.ext (h:Cur Ω w g s id k) {w':World} (e:Ext w w'):Cur Ω w' g s id k:=h.fr e (fun h=>h) (fun _ _ h=>h.elim) fun _ _ h=>h
theorem Cur.lt (h:Cur Ω w g s id k):g<w.heap.size:=by obtain ⟨_,_,_,_,hb,_⟩:=h;exact hb.lt
theorem cMade (h:Cur Ω w g s id k):CallsV Tryz.prog 40 #[.pointer (some ⟨g,0,none⟩)] w fun r w'=>r=.bool true/\w'=w:=by
  obtain ⟨KA,n,c,ok,hb,hk⟩:=h
  refine cursor_Cursor_made.calls okay ?_
  unfold cursor_Cursor_made.W
  exact brnb (fun _=>⟨_,rfl,_,hb.cell rfl,rfl,rfl⟩) fun h=>by cases h
theorem cPut {v0 v1:Value} {v2 v3:Value} (hb:Blk w g [.pointer (some ⟨s,0,none⟩),v1,v2,v3]) (KA VA:Option Addr) (kn kc vn vc:Nat) (ok:Bool):CallsV Tryz.prog 47 #[.pointer (some ⟨g,0,none⟩),.slice KA kn kc,.slice VA vn vc,.bool ok] w fun r w'=>r=.bool ok/\Blk w' g [.pointer (some ⟨s,0,none⟩),v1,.slice KA kn kc,.bool ok]/\Fr (fun k=>k=g) w w':=by
  refine cursor_Cursor_put.calls okay ?_
  unfold cursor_Cursor_put.W
  obtain ⟨p1,p2⟩:=setF hb (o:=2) (by simp) (.slice KA kn kc)
  refine br (fun h=>by cases h) fun _=>⟨_,rfl,_,hb.cell rfl,br (fun h=>by cases h) fun _=>⟨_,rfl,p1,fun w1 hw1=>?_⟩⟩
  obtain ⟨b1,f1⟩:=p2 w1 hw1
  obtain ⟨q1,q2⟩:=setF b1 (o:=3) (by simp) (.bool ok)
  refine ⟨_,rfl,q1,fun w2 hw2=>?_⟩
  obtain ⟨b2,f2⟩:=q2 w2 hw2
  exact ⟨rfl,by simpa using b2,f1.trans f2 (fun _ _ h=>h) (fun _ _ h=>h)⟩
end
theorem toldLen {w w':World} {x:Option (Key×Key)} {r:Value} (h:Told w x r w'):∀ p,x=some p->p.1.length<=1048576:=by
  rintro ⟨k,v⟩ rfl
  obtain ⟨A,c,B,d,_,_,_,_,_,_,h6,_⟩:=h
  exact h6
theorem move {Ω:Nat->Prop} {u v w':World} {g s:Nat} {id:Int} {x:Option (Key×Key)} {KA:Option Addr} {kn kc:Nat} {ok:Bool} {VA:Option Addr} {vn:Nat} (hΩ:∀ k,Ω k->k<u.heap.size) (hg:Ω g) (hx:∀ p,x=some p->p.1.length<=1048576) (ti:TI Ω v x KA kn VA vn ok) (e:Ext u v) (hb:Blk w' g [.pointer (some ⟨s,0,none⟩),.int .i64 id,.slice KA kn kc,.bool ok]) (f:Fr (fun k=>k=g) v w') :
    ok=x.isSome/\Cur Ω w' g s id (x.map fun p=>p.1)/\Fr (fun k=>k=g) u w':=by
  have f':Fr (fun k=>k=g) u w':=(Fr.mono e fun _ _ h=>h.elim).trans f (fun _ _ h=>h) (fun _ _ h=>h)
  have st:Step Ω v Ω w':=f.step (fun k _ e=>by have e:k=g:=e;exact e▸hg) fun _ _ h=>h
  cases x with
  | none=>obtain ⟨_,_,_,_,rfl⟩:=ti;exact ⟨rfl,⟨_,_,_,_,hb,rfl⟩,f'⟩
  | some p=>obtain ⟨h1,_,rfl,h3,_⟩:=ti;exact ⟨rfl,⟨_,_,_,_,hb,rfl,h1,hx p rfl,h3.keep KB_pos st⟩,f'⟩
section
variable {T Ω:Nat->Prop} {u:World} {s g:Nat} {q:Ab} {id:Int} {k:Option Key}
theorem cRewind (h:Sto T u s q) (hc:Cur Ω u g s id k) (hΩ:∀ k,Ω k->k<u.heap.size) (hg:Ω g) (hgT:¬ T g):CallsV Tryz.prog 13 #[.pointer (some ⟨g,0,none⟩)] u fun r u'=>∃ x,x=(gF (foD q.D) id).bind (aftE [] true)/\r=.bool x.isSome/\Cur Ω u' g s id (x.map fun p=>p.1)/\Fr (fun k=>k=g) u u':=by
  refine cursor_Cursor_Rewind.calls okay ?_
  unfold cursor_Cursor_Rewind.W
  have ed:Ext u u.drew:=Fr.drew NoB u
  refine (cMade (hc.ext ed)).same ⟨_,rfl,br (fun _=>?_) fun h=>by cases h⟩
  obtain ⟨KA,n,c,ok,hb,hk⟩:=hc
  refine ⟨_,rfl,fun v=>Ext u v,ed,_,fun v e=>(hb.ext e).cell rfl,_,rfl,_,fun v e=>(hb.ext e).cell rfl,(sAfter (h.ext ed) id (key:=[]) (Imm.nil KB NoB _ none) 0 true).mono ?_⟩
  rintro r v ⟨ht,e⟩
  have e2:=ed.trans' e
  obtain ⟨KA',kn,kc,VA,vn,vc,ok',rfl,hti⟩:=ht.ti (Ω:=Ω) (fun k hk=>by have:=hΩ k hk;have:=ed.size;omega)
  refine ⟨_,_,_,_,_,_,_,rfl,(cPut (v0:=.bool true) (hb.ext e2) KA' VA kn kc vn vc ok').mono ?_⟩
  rintro _ w' ⟨rfl,hb',f⟩
  obtain ⟨h1,h2,h3⟩:=move hΩ hg (toldLen ht) hti e2 hb' f
  exact ⟨_,rfl,_,rfl,by rw [h1],h2,h3⟩
theorem cLast (h:Sto T u s q) (hc:Cur Ω u g s id k) (hΩ:∀ k,Ω k->k<u.heap.size) (hg:Ω g) (hgT:¬ T g):CallsV Tryz.prog 12 #[.pointer (some ⟨g,0,none⟩)] u fun r u'=>∃ x,x=(gF (foD q.D) id).bind (fun es=>es.getLast?)/\r=.bool x.isSome/\Cur Ω u' g s id (x.map fun p=>p.1)/\Fr (fun k=>k=g) u u':=by
  refine cursor_Cursor_Last.calls okay ?_
  unfold cursor_Cursor_Last.W
  have ed:Ext u u.drew:=Fr.drew NoB u
  refine (cMade (hc.ext ed)).same ⟨_,rfl,br (fun _=>?_) fun h=>by cases h⟩
  obtain ⟨KA,n,c,ok,hb,hk⟩:=hc
  refine ⟨_,rfl,fun v=>Ext u v,ed,_,fun v e=>(hb.ext e).cell rfl,_,rfl,_,fun v e=>(hb.ext e).cell rfl,(sLast (h.ext ed) id).mono ?_⟩
  rintro r v ⟨ht,e⟩
  have e2:=ed.trans' e
  obtain ⟨KA',kn,kc,VA,vn,vc,ok',rfl,hti⟩:=ht.ti (Ω:=Ω) (fun k hk=>by have:=hΩ k hk;have:=ed.size;omega)
  refine ⟨_,_,_,_,_,_,_,rfl,(cPut (v0:=.bool true) (hb.ext e2) KA' VA kn kc vn vc ok').mono ?_⟩
  rintro _ w' ⟨rfl,hb',f⟩
  obtain ⟨h1,h2,h3⟩:=move hΩ hg (toldLen ht) hti e2 hb' f
  exact ⟨_,rfl,_,rfl,by rw [h1],h2,h3⟩
theorem cEntry (h:Sto T u s q) (hc:Cur Ω u g s id k):CallsV Tryz.prog 58 #[.pointer (some ⟨g,0,none⟩)] u fun r u'=>∃ KA kn kc VA vn vc ok,r=.tuple #[.slice KA kn kc,.slice VA vn vc,.bool ok]/\Ext u u'/\(match k with
    | none=>VA=none/\vn=0/\ok=false
    | some key=>kn=key.length/\key.length<=1048576/\Imm KB Ω u' KA key/\match (gF (foD q.D) id).bind (getE key) with
      | none=>VA=none/\vn=0/\ok=false
      | some v=>vn=v.length/\OwnB u' VA vc v/\New u VA/\ok=true):=by
  refine cursor_Cursor_entry.calls okay ?_
  unfold cursor_Cursor_entry.W
  refine (cMade hc).same ⟨_,rfl,brnb (fun h=>by cases h) fun _=>?_⟩
  obtain ⟨KA,n,c,ok,hb,hk⟩:=hc
  refine ⟨_,rfl,_,hb.cell rfl,?_⟩
  cases k with
  | none =>
    have hk:ok=false:=hk
    subst hk
    exact brnb (fun _=>⟨_,_,_,_,_,_,_,rfl,.refl _ _,rfl,rfl,rfl⟩) fun h=>by cases h
  | some key =>
    obtain ⟨rfl,rfl,hkl,iK⟩:=hk
    have ed:Ext u u.drew:=Fr.drew NoB u
    refine brnb (fun h=>by cases h) fun _=>⟨_,rfl,fun v=>Ext u v,ed,_,fun v e=>(hb.ext e).cell rfl,_,rfl,_,fun v e=>(hb.ext e).cell rfl,_,rfl,_,_,_,fun v e=>(hb.ext e).cell rfl,(sGet (h.ext ed) id (iK.ext KB_pos ed) c).mono ?_⟩
    rintro r v ⟨e,hG⟩
    have e2:=ed.trans' e
    dsimp only
    generalize (gF (foD q.D) id).bind (getE key)=x at hG
    cases x with
    | none =>
      obtain rfl:r=.tuple #[.slice none 0 0,.bool false]:=hG
      exact ⟨_,_,_,_,rfl,_,rfl,_,_,_,(hb.ext e2).cell rfl,_,_,_,_,_,_,_,rfl,e2,rfl,hkl,iK.ext KB_pos e2,rfl,rfl,rfl⟩
    | some val =>
      obtain ⟨B,d,rfl,hO,hN,_⟩:=hG
      exact ⟨_,_,_,_,rfl,_,rfl,_,_,_,(hb.ext e2).cell rfl,_,_,_,_,_,_,_,rfl,e2,rfl,hkl,iK.ext KB_pos e2,rfl,hO,hN.ext ed,rfl⟩
end
end Go.Proofs.YthfagbfllheneaaGreat
set_option linter.unusedVariables false
set_option maxRecDepth 100000
namespace Go.Proofs.YthfagbfllheneaaGreat
open Go Go.Sx Value IntKind World Addr Builtin
noncomputable def cursor_Cursor_Next.W:Option Addr->World->(Value->World->Prop)->Prop:=fun c w K=>CallsV Tryz.prog 40 #[pointer c] (drew w) fun v w'=>∃ x,v=bool x/\bif x then ∃ a,c =
 some a/\∃ (S:World->Prop),S w'/\∃ x,(∀ u,S u->cell? u (add a 3)=some (bool x))/\bif x then ∃ a,c=some a/\∃ (S':World->Prop),S' w'/\∃ x,(∀ u,S' u->cell? u
 (add a 0)=some (pointer x))/\∃ a,c=some a/\∃ (S':World->Prop),S' w'/\∃ x_1,(∀ u,S' u->cell? u (add a 1)=some (int i64 x_1))/\∃ a,c=some a/\∃ (S' :
 World->Prop),S' w'/\∃ x_2 x_3 x_4,(∀ u,S' u->cell? u (add a 2)=some (slice x_2 x_3 x_4))/\CallsV Tryz.prog 42 #[pointer x,int i64 x_1,slice x_2 x_3 x_4,bool false] w' fun v w'
 => ∃ x x_5 x_6 x_7 x_8 x_9 x_10,v=tuple #[slice x x_5 x_6,slice x_7 x_8 x_9,bool x_10]/\CallsV Tryz.prog 47 #[pointer c,slice x x_5 x_6,slice x_7 x_8 x_9,bool x_10] w' fun v w'=>∃ x,v =
 bool x/\K (bool x) w' else K (bool false) w' else K (bool false) w'
theorem cursor_Cursor_Next.calls (ok:Okay Tryz.prog) {c w K} (h:cursor_Cursor_Next.W c w K):CallsV Tryz.prog 9 #[.pointer c] w K :=
  fnW_calls ok Tryz.func9 (an:=(.named (.seq .auto (.seq (.block .auto) .auto)))) (args:=[.pointer c]) (Eq.mp (by kernel_rfl) h)
noncomputable def cursor_Cursor_Prev.W:Option Addr->World->(Value->World->Prop)->Prop:=fun c w K=>CallsV Tryz.prog 40 #[pointer c] (drew w) fun v w'=>∃ x,v=bool x/\bif x then ∃ a,c =
 some a/\∃ (S:World->Prop),S w'/\∃ x,(∀ u,S u->cell? u (add a 3)=some (bool x))/\bif x then ∃ a,c=some a/\∃ (S':World->Prop),S' w'/\∃ x,(∀ u,S' u->cell? u
 (add a 0)=some (pointer x))/\∃ a,c=some a/\∃ (S':World->Prop),S' w'/\∃ x_1,(∀ u,S' u->cell? u (add a 1)=some (int i64 x_1))/\∃ a,c=some a/\∃ (S' :
 World->Prop),S' w'/\∃ x_2 x_3 x_4,(∀ u,S' u->cell? u (add a 2)=some (slice x_2 x_3 x_4))/\CallsV Tryz.prog 45 #[pointer x,int i64 x_1,slice x_2 x_3 x_4,bool false] w' fun v w'
 => ∃ x x_5 x_6 x_7 x_8 x_9 x_10,v=tuple #[slice x x_5 x_6,slice x_7 x_8 x_9,bool x_10]/\CallsV Tryz.prog 47 #[pointer c,slice x x_5 x_6,slice x_7 x_8 x_9,bool x_10] w' fun v w'=>∃ x,v =
 bool x/\K (bool x) w' else K (bool false) w' else K (bool false) w'
theorem cursor_Cursor_Prev.calls (ok:Okay Tryz.prog) {c w K} (h:cursor_Cursor_Prev.W c w K):CallsV Tryz.prog 10 #[.pointer c] w K :=
  fnW_calls ok Tryz.func10 (an:=(.named (.seq .auto (.seq (.block .auto) .auto)))) (args:=[.pointer c]) (Eq.mp (by kernel_rfl) h)
end Go.Proofs.YthfagbfllheneaaGreat
set_option linter.unusedVariables false
set_option linter.unusedSimpArgs false
namespace Go.Proofs.YthfagbfllheneaaGreat
open Go Go.Sx T4
section
variable {T Ω:Nat->Prop} {u:World} {s g:Nat} {q:Ab} {id:Int} {k:Option Key}
def nextX (F:List (Int×Es)) (id:Int):Option Key->Option (Key×Key)
  | none=>none
  | some key=>(gF F id).bind (aftE key false)
def prevX (F:List (Int×Es)) (id:Int):Option Key->Option (Key×Key)
  | none=>none
  | some key=>(gF F id).bind (befE key false)
theorem cNext (h:Sto T u s q) (hc:Cur Ω u g s id k) (hΩ:∀ k,Ω k->k<u.heap.size) (hg:Ω g):CallsV Tryz.prog 9 #[.pointer (some ⟨g,0,none⟩)] u fun r u'=>r=.bool (nextX (foD q.D) id k).isSome/\Cur Ω u' g s id ((nextX (foD q.D) id k).map fun p=>p.1)/\Fr (fun k=>k=g) u u':=by
  refine cursor_Cursor_Next.calls okay ?_
  unfold cursor_Cursor_Next.W
  have ed:Ext u u.drew:=Fr.drew NoB u
  refine (cMade (hc.ext ed)).same ⟨_,rfl,br (fun _=>?_) fun h=>by cases h⟩
  have hcd:=hc.ext ed
  obtain ⟨KA,n,c,ok,hb,hk⟩:=hc
  refine ⟨_,rfl,fun v=>Ext u v,ed,_,fun v e=>(hb.ext e).cell rfl,?_⟩
  cases k with
  | none =>
    have hk:ok=false:=hk
    subst hk
    exact br (fun h=>by cases h) fun _=>⟨rfl,hcd,Fr.mono ed fun _ _ h=>h.elim⟩
  | some key =>
    obtain ⟨rfl,rfl,hkl,iK⟩:=hk
    refine br (fun _=>⟨_,rfl,fun v=>Ext u v,ed,_,fun v e=>(hb.ext e).cell rfl,_,rfl,fun v=>Ext u v,ed,_,fun v e=>(hb.ext e).cell rfl,_,rfl,fun v=>Ext u v,ed,_,_,_,fun v e=>(hb.ext e).cell rfl,(sAfter (h.ext ed) id (iK.ext KB_pos ed) c false).mono ?_⟩) fun h=>by cases h
    rintro r v ⟨ht,e⟩
    have e2:=ed.trans' e
    obtain ⟨KA',kn,kc,VA,vn,vc,ok',rfl,hti⟩:=ht.ti (Ω:=Ω) (fun k hk=>by have:=hΩ k hk;have:=ed.size;omega)
    refine ⟨_,_,_,_,_,_,_,rfl,(cPut (v0:=.bool true) (hb.ext e2) KA' VA kn kc vn vc ok').mono ?_⟩
    rintro _ w' ⟨rfl,hb',f⟩
    obtain ⟨h1,h2,h3⟩:=move hΩ hg (toldLen ht) hti e2 hb' f
    exact ⟨_,rfl,by rw [h1];rfl,h2,h3⟩
theorem cPrev (h:Sto T u s q) (hc:Cur Ω u g s id k) (hΩ:∀ k,Ω k->k<u.heap.size) (hg:Ω g):CallsV Tryz.prog 10 #[.pointer (some ⟨g,0,none⟩)] u fun r u'=>r=.bool (prevX (foD q.D) id k).isSome/\Cur Ω u' g s id ((prevX (foD q.D) id k).map fun p=>p.1)/\Fr (fun k=>k=g) u u':=by
  refine cursor_Cursor_Prev.calls okay ?_
  unfold cursor_Cursor_Prev.W
  have ed:Ext u u.drew:=Fr.drew NoB u
  refine (cMade (hc.ext ed)).same ⟨_,rfl,br (fun _=>?_) fun h=>by cases h⟩
  have hcd:=hc.ext ed
  obtain ⟨KA,n,c,ok,hb,hk⟩:=hc
  refine ⟨_,rfl,fun v=>Ext u v,ed,_,fun v e=>(hb.ext e).cell rfl,?_⟩
  cases k with
  | none =>
    have hk:ok=false:=hk
    subst hk
    exact br (fun h=>by cases h) fun _=>⟨rfl,hcd,Fr.mono ed fun _ _ h=>h.elim⟩
  | some key =>
    obtain ⟨rfl,rfl,hkl,iK⟩:=hk
    refine br (fun _=>⟨_,rfl,fun v=>Ext u v,ed,_,fun v e=>(hb.ext e).cell rfl,_,rfl,fun v=>Ext u v,ed,_,fun v e=>(hb.ext e).cell rfl,_,rfl,fun v=>Ext u v,ed,_,_,_,fun v e=>(hb.ext e).cell rfl,(sBefore (h.ext ed) id (iK.ext KB_pos ed) c false).mono ?_⟩) fun h=>by cases h
    rintro r v ⟨ht,e⟩
    have e2:=ed.trans' e
    obtain ⟨KA',kn,kc,VA,vn,vc,ok',rfl,hti⟩:=ht.ti (Ω:=Ω) (fun k hk=>by have:=hΩ k hk;have:=ed.size;omega)
    refine ⟨_,_,_,_,_,_,_,rfl,(cPut (v0:=.bool true) (hb.ext e2) KA' VA kn kc vn vc ok').mono ?_⟩
    rintro _ w' ⟨rfl,hb',f⟩
    obtain ⟨h1,h2,h3⟩:=move hΩ hg (toldLen ht) hti e2 hb' f
    exact ⟨_,rfl,by rw [h1];rfl,h2,h3⟩
def atX (F:List (Int×Es)) (id:Int):Option Key->Option (Key×Key)
  | none=>none
  | some key=>((gF F id).bind (getE key)).map fun v=>(key,v)
theorem cValid (h:Sto T u s q) (hc:Cur Ω u g s id k):CallsV Tryz.prog 17 #[.pointer (some ⟨g,0,none⟩)] u fun r u'=>r=.bool (atX (foD q.D) id k).isSome/\Ext u u':=by
  refine cursor_Cursor_Valid.calls okay ?_
  unfold cursor_Cursor_Valid.W
  refine (cEntry h hc).mono ?_
  rintro _ u' ⟨KA,kn,kc,VA,vn,vc,ok,rfl,e,hx⟩
  refine ⟨_,_,_,_,_,_,_,rfl,?_,e⟩
  cases k with
  | none=>obtain ⟨_,_,rfl⟩:=hx;rfl
  | some key =>
    obtain ⟨_,_,_,hx⟩:=hx
    show Value.bool ok=.bool (((gF (foD q.D) id).bind (getE key)).map fun v=>(key,v)).isSome
    generalize (gF (foD q.D) id).bind (getE key)=x at hx
    cases x with
    | none=>obtain ⟨_,_,rfl⟩:=hx;rfl
    | some v=>obtain ⟨_,_,_,rfl⟩:=hx;rfl
theorem cValue (h:Sto T u s q) (hc:Cur Ω u g s id k):CallsV Tryz.prog 39 #[.pointer (some ⟨g,0,none⟩)] u fun r u'=>Ext u u'/\match atX (foD q.D) id k with
    | none=>∃ c,r=.slice none 0 c
    | some (_,v)=>∃ A c,r=.slice A v.length c/\OwnB u' A c v/\New u A:=by
  refine cursor_Cursor_Value.calls okay ?_
  unfold cursor_Cursor_Value.W
  refine (cEntry h hc).mono ?_
  rintro _ u' ⟨KA,kn,kc,VA,vn,vc,ok,rfl,e,hx⟩
  refine ⟨_,_,_,_,_,_,_,rfl,e,?_⟩
  cases k with
  | none=>obtain ⟨rfl,rfl,rfl⟩:=hx;exact ⟨_,rfl⟩
  | some key =>
    obtain ⟨_,_,_,hx⟩:=hx
    show match ((gF (foD q.D) id).bind (getE key)).map fun v=>(key,v) with
      | none=>_
      | some (_,v)=>_
    generalize (gF (foD q.D) id).bind (getE key)=x at hx
    cases x with
    | none=>obtain ⟨rfl,rfl,rfl⟩:=hx;exact ⟨_,rfl⟩
    | some v=>obtain ⟨rfl,h1,h2,rfl⟩:=hx;exact ⟨_,_,rfl,h1,h2⟩
end
end Go.Proofs.YthfagbfllheneaaGreat
set_option linter.unusedVariables false
set_option linter.unusedSimpArgs false
namespace Go.Proofs.YthfagbfllheneaaGreat
open Go Go.Sx T4
theorem bClone {Ω:Nat->Prop} {w:World} {A:Option Addr} {c:Nat} {l:List UInt8} (h:Imm KB Ω w A l) (hl:l.length<=1048576):CallsV Tryz.prog 57 #[.slice A l.length c] w fun r w'=>∃ A' c',r=.slice A' l.length c'/\OwnB w' A' c' l/\Ext w w'/\New w A':=by
  refine bytes_Clone.calls okay ?_
  unfold bytes_Clone.W
  cases A with
  | none =>
    have hnil:l=[]:=by
      cases l with
      | nil=>rfl
      | cons a r=>obtain ⟨ad,hA,_⟩:=h 0 a rfl;cases hA
    subst hnil
    exact br (fun _=>⟨none,0,rfl,OwnB.nil w,.refl _ _,New.none _⟩) fun h=>by cases h
  | some a =>
    refine br (fun h=>by cases h) fun _=>?_
    rintro g w1 ⟨rfl,rfl⟩
    have e1:Ext w (w.alloc (.cells #[] 5)):=Fr.alloc NoB w _
    have ho:OwnK KB (w.alloc (.cells #[] 5)) (some ⟨w.heap.size,0,none⟩) 0 []:=⟨[],⟨rfl,Nat.zero_le _,.inr ⟨w.heap.size,#[],5,0,0,rfl,Array.getElem?_push_size,Nat.le_refl _,rfl,rfl,.inl (Nat.le_refl _)⟩⟩,fun i a h=>by simp at h⟩
    have hB:Imm KB (ownB (some ⟨w.heap.size,0,none⟩)) (w.alloc (.cells #[] 5)) (some a) l:=(h.sub (Ω':=NoB) KB_pos fun _ _ h=>h.elim).toOwn KB_pos e1 (by rintro k ⟨ad,had,rfl⟩;cases had;exact Nat.le_refl _)
    obtain ⟨A',c',w',hr,ho',gr⟩:=ho.append (K:=KB) slB (ty:=30) hB (cb:=c) (fun a cs h v hv=>by cases h;simp at hv;subst hv;rfl) (by show 0+l.length<=maxLen;simp only [maxLen];omega) (by show (0+l.length)*1<=_;omega)
    rw [List.nil_append] at hr ho'
    have hs:w.heap.size<=(w.alloc (.cells #[] 5)).heap.size:=e1.size
    refine ⟨_,_,_,w',hr,A',c',rfl,ownB_of (Ω:=NoB) ho',e1.trans gr.fr (fun _ _ h=>h) (fun k hk ho=>?_),fun k hk=>(gr.sub k hk).elim (fun h=>?_) fun h=>Nat.le_trans hs h⟩
    · obtain ⟨ad,had,rfl⟩:=ho;cases had;exact absurd hk (Nat.lt_irrefl _)
    · obtain ⟨ad,had,rfl⟩:=h;cases had;exact Nat.le_refl _
theorem Index_spec {Ω:Nat->Prop} {w:World} {A:Option Addr} {c:Nat} {l:List Int} (h:Imm KI Ω w A l) (hl:l.length<=1000000) (v:Int):CallsV Tryz.prog 48 #[.slice A l.length c,.int .i64 v] w fun r w'=>r=.bool (decide (v∈l))/\w'=w:=by
  refine slices_Contains_int_int.calls okay ?_
  unfold slices_Contains_int_int.W
  refine CallsV.mono (K:=fun r w'=>(∃ i:Int,r=.int .i64 i/\(0<=i<->v∈l))/\w'=w) ?_ ?_
  · refine slices_Index_int_int.calls okay ?_
    unfold slices_Index_int_int.W
    refine ⟨fun x u=>∃ j:Nat,x=(j:Int)/\j<=l.length/\u=w/\v∉l.take j,fun x _=>(l.length-x).toNat,⟨0,rfl,Nat.zero_le _,rfl,by simp⟩,?_⟩
    rintro _ u ⟨j,rfl,hj,rfl,hn⟩
    refine brd (fun hlt=>?_) (fun hge=>?_)
    · have hjl:j<l.length:=by omega
      obtain ⟨ad,hA,c0⟩:=itemI h hjl
      refine ⟨ad,hA,⟨by omega,by omega⟩,_,by rw [Int.toNat_natCast];exact c0,brd (fun he=>⟨⟨_,rfl,fun _=>he▸List.getElem_mem hjl,fun _=>by omega⟩,rfl⟩) (fun hne=>?_)⟩
      rw [wi _ (by omega) (by omega)]
      refine ⟨⟨j+1,by omega,by omega,rfl,?_⟩,by dsimp only;omega⟩
      rw [List.take_add_one,List.getElem?_eq_getElem hjl]
      simp only [Option.toList,List.mem_append,List.mem_singleton,not_or]
      exact ⟨hn,hne⟩
    · obtain rfl:j=l.length:=by omega
      rw [List.take_of_length_le (Nat.le_refl _)] at hn
      exact ⟨⟨_,rfl,fun h=>by omega,fun h=>absurd h hn⟩,rfl⟩
  · rintro _ _ ⟨⟨i,rfl,hi⟩,rfl⟩
    refine ⟨_,rfl,?_,rfl⟩
    congr 1
    rw [decide_eq_decide]
    exact hi
section
variable {T Ω:Nat->Prop} {u:World} {s g:Nat} {q:Ab} {id:Int} {k:Option Key}
theorem cNew (h:Sto T u s q) (id:Int):CallsV Tryz.prog 14 #[.pointer (some ⟨s,0,none⟩),.int .i64 id] u fun r u'=>Ext u u'/\((id∈idsD q.D/\∃ g,r=.tuple #[.pointer (some ⟨g,0,none⟩),.int .i64 0]/\u.heap.size<=g/\∀ Ω,Cur Ω u' g s id none)\/(id∉idsD q.D/\r=.tuple #[.pointer none,.int .i64 41])):=by
  refine cursor_New.calls okay ?_
  unfold cursor_New.W
  refine (sCheck h).mono ?_
  rintro _ u1 ⟨rfl,e1⟩
  refine ⟨_,rfl,brd (fun h=>by cases h) fun _=>(sTrees (h.ext e1)).mono ?_⟩
  rintro _ u2 ⟨A,c,rfl,ho,e2,_⟩
  have e12:=e1.trans' e2
  refine ⟨_,_,_,rfl,(Index_spec (ho.imm KI_pos) (by rw [idsD_len];have:=h.inv.cnt;omega) id).same ⟨_,rfl,brnb (fun hn=>?_) fun hy=>?_⟩⟩
  · exact ⟨e12,.inr ⟨of_decide_eq_false hn,rfl⟩⟩
  · intro g u3 f3
    exact ⟨e12.trans' f3.ext,.inl ⟨of_decide_eq_true hy,g,rfl,Nat.le_trans e12.size f3.ge,fun Ω=>⟨none,0,0,false,f3.blk,rfl⟩⟩⟩
theorem cKey (h:Sto T u s q) (hc:Cur Ω u g s id k):CallsV Tryz.prog 38 #[.pointer (some ⟨g,0,none⟩)] u fun r u'=>Ext u u'/\match atX (foD q.D) id k with
    | none=>r=.slice none 0 0
    | some (key,_)=>∃ A c,r=.slice A key.length c/\OwnB u' A c key/\New u A:=by
  refine cursor_Cursor_Key.calls okay ?_
  unfold cursor_Cursor_Key.W
  refine (cEntry h hc).mono ?_
  rintro _ u' ⟨KA,kn,kc,VA,vn,vc,ok,rfl,e,hx⟩
  refine ⟨_,_,_,_,_,_,_,rfl,?_⟩
  cases k with
  | none=>obtain ⟨_,_,rfl⟩:=hx;exact brnb (fun _=>⟨e,rfl⟩) fun h=>by cases h
  | some key =>
    obtain ⟨rfl,hkl,iK,hx⟩:=hx
    show bif !ok then _ else _
    have hm:∀ x:Option Key,(gF (foD q.D) id).bind (getE key)=x->atX (foD q.D) id (some key)=x.map fun v=>(key,v):=fun x hx=>by rw [<- hx];rfl
    cases hX:(gF (foD q.D) id).bind (getE key) with
    | none =>
      rw [hX] at hx
      obtain ⟨_,_,rfl⟩:=hx
      exact brnb (fun _=>⟨e,by rw [hm _ hX];rfl⟩) fun h=>by cases h
    | some v =>
      rw [hX] at hx
      obtain ⟨_,_,_,rfl⟩:=hx
      refine brnb (fun h=>by cases h) fun _=>(bClone iK hkl).mono ?_
      rintro _ u2 ⟨A',c',rfl,hO,e2,hN⟩
      exact ⟨_,_,_,rfl,e.trans' e2,by rw [hm _ hX];exact ⟨_,_,rfl,hO,hN.ext e⟩⟩
end
end Go.Proofs.YthfagbfllheneaaGreat
set_option linter.unusedVariables false
set_option linter.unusedSimpArgs false
namespace Go.Proofs.YthfagbfllheneaaGreat
open Go Go.Sx T4
abbrev OC (T C:Nat->Prop):Nat->Prop:=fun k=>T k\/C k
section
variable {A:Ar} {D:List Tr} {id:Int} {g s:Nat} {k:Option Key}
theorem Cur.tch {T T' C:Nat->Prop} {u u':World} (hc:Cur (OC T C) u g s id k) (c:Tch T u T' u') (hg:¬ T g):Cur (OC T' C) u' g s id k :=
  hc.fr c.fr hg (fun _ _ h=>.inl h) fun k hk h=>h.elim (fun h=>.inl ((c.sub k h).resolve_right (by omega))) .inr
theorem cInsert (hI:Inv A D) (id:Int) {key val:Key} (hk:key.length<=1048576) (hv:val.length<=1048576):∃ A' D' was e,PutRel A D id key val A' D' was e /\
    ∀ {T C:Nat->Prop} {u:World} {s g:Nat} {k:Option Key} {ms:List (Ar×List Tr)},Sto T u s ⟨A,D,ms⟩->Cur (OC T C) u g s id k->¬ T g->C g->(∀ k,C k->k<u.heap.size)->∀ {Ω1 Ω2:Nat->Prop} {KA VA:Option Addr},Imm KB Ω1 u KA key->Imm KB Ω2 u VA val->(∀ k,T k->Ω1 k)->∀ kc vc:Nat,
      CallsV Tryz.prog 16 #[.pointer (some ⟨g,0,none⟩),.slice KA key.length kc,.slice VA val.length vc] u fun r u'=>r=.tuple #[.bool was,.int .i64 e]/\∃ T' v,Sto T' u' s ⟨A',D',ms⟩/\Tch T u T' v/\Fr (fun k=>k=g) v u'/\Cur (OC T' C) u' g s id (if e=0 then some key else k):=by
  obtain ⟨A',D',was,e,rel,hP⟩:=aPut (A:=A) (D:=D) hI id hk hv
  refine ⟨A',D',was,e,rel,?_⟩
  intro T C u s g k ms h hc hgT hgC hCl Ω1 Ω2 KA VA iK iV hTΩ kc vc
  refine cursor_Cursor_Insert.calls okay ?_
  unfold cursor_Cursor_Insert.W
  refine (cMade hc).same ⟨_,rfl,brnb (fun h=>by cases h) fun _=>?_⟩
  have ed:Ext u u.drew:=Fr.drew NoB u
  have hc0:=hc
  obtain ⟨KA0,n,c,ok,hb,hk0⟩:=hc
  refine ⟨_,rfl,fun v=>Ext u v,ed,_,fun v e=>(hb.ext e).cell rfl,_,rfl,_,fun v e=>(hb.ext e).cell rfl,(hP (h.ext ed) (iK.ext KB_pos ed) (iV.ext KB_pos ed) kc vc).mono ?_⟩
  rintro _ u1 ⟨rfl,T1,h1,c1⟩
  have c01:Tch T u T1 u1:=(Tch.ext ed).trans c1
  refine ⟨_,_,rfl,brd (fun he=>?_) (fun hne=>⟨rfl,T1,u1,h1,c01,.refl _ _,by rw [if_neg hne];exact hc0.tch c01 hgT⟩)⟩
  have iK1:Imm KB NoB u1 KA key:=iK.keep KB_pos (c01.fr.step (fun k _ h=>hTΩ k h) fun _ _ h=>h.elim)
  refine (bClone iK1 hk).mono ?_
  rintro _ u2 ⟨A2,c2,rfl,hO,e2,hN⟩
  obtain ⟨b1,hg1⟩:=c01.blk hb hgT
  refine ⟨_,_,_,rfl,(cPut (v0:=.bool true) (b1.ext e2) A2 none key.length c2 0 0 true).mono ?_⟩
  rintro _ u3 ⟨rfl,b3,f3⟩
  refine ⟨_,rfl,rfl,T1,u2,(h1.ext e2).frame f3 (fun k _ e ht=>hg1 (by have e:k=g:=e;exact e▸ht)),c01.trans (.ext e2),f3,?_⟩
  rw [if_pos he]
  have s1:=c01.fr.size
  refine ⟨A2,_,c2,true,b3,rfl,rfl,hk,?_⟩
  have i2:Imm KB (OC T1 C) u2 A2 key:=hO.imm fun k hk ho=>by
    have:=hN k hk
    rcases ho with ho|ho
    · have:=h1.lt k ho;omega
    · have:=hCl k ho;omega
  exact i2.keep KB_pos (f3.step (fun k _ e=>.inr (by have e:k=g:=e;exact e▸hgC)) fun _ _ h=>h)
theorem cDelete {T C:Nat->Prop} {u:World} {ms:List (Ar×List Tr)} (h:Sto T u s ⟨A,D,ms⟩) (hc:Cur (OC T C) u g s id k):CallsV Tryz.prog 11 #[.pointer (some ⟨g,0,none⟩)] u fun r u' =>
    (id∉idsD D/\r=.int .i64 41/\Ext u u')\/(id∈idsD D/\atX (foD D) id k=none/\r=.int .i64 70/\Ext u u')\/(id∈idsD D/\∃ key v A' D' was e T',k=some key/\atX (foD D) id k=some (key,v)/\DelRel A D id key A' D' was e/\r=.int .i64 e/\Sto T' u' s ⟨A',D',ms⟩/\Tch T u T' u'):=by
  refine cursor_Cursor_Delete.calls okay ?_
  unfold cursor_Cursor_Delete.W
  have ed:Ext u u.drew:=Fr.drew NoB u
  refine (cMade hc).same ⟨_,rfl,brnb (fun h=>by cases h) fun _=>⟨fun x v=>x=!(decide (id∈idsD D))/\Ext u v,?_,?_⟩⟩
  · rintro x v ⟨rfl,e⟩
    have hv:=h.ext e
    have hcv:=hc.ext e
    refine br (fun hn=>.inl ⟨by simpa using hn,rfl,e⟩) fun hy=>?_
    have hmem:id∈idsD D:=by simpa using hy
    refine (cValid hv hcv).mono ?_
    rintro _ v2 ⟨rfl,e2⟩
    have e02:=e.trans' e2
    refine ⟨_,rfl,brnb (fun hx=>.inr (.inl ⟨hmem,by simpa using hx,rfl,e02⟩)) fun hx=>?_⟩
    have hcv2:=hcv.ext e2
    have hv2:=hv.ext e2
    cases k with
    | none=>cases hx
    | some key =>
      obtain ⟨KA,n,c,ok,hb,rfl,rfl,hkl,iK⟩:=hcv2
      obtain ⟨A',D',was,ee,rel,hP⟩:=aDel (A:=A) (D:=D) h.inv id key
      have ed2:Ext v2 v2.drew:=Fr.drew NoB v2
      refine ⟨_,rfl,fun z=>Ext v2 z,ed2,_,fun z e=>(hb.ext e).cell rfl,_,rfl,_,fun z e=>(hb.ext e).cell rfl,_,rfl,_,_,_,fun z e=>(hb.ext e).cell rfl,(hP (hv2.ext ed2) (iK.ext KB_pos ed2) c).mono ?_⟩
      rintro _ v3 ⟨rfl,T3,h3,c3⟩
      obtain ⟨⟨key',v'⟩,hat⟩:=Option.isSome_iff_exists.1 hx
      have hat:atX (foD D) id (some key)=some (key',v'):=hat
      have hkk:key'=key:=by
        replace hat:((gF (foD D) id).bind (getE key)).map (fun v=>(key,v))=some (key',v'):=hat
        cases hX:(gF (foD D) id).bind (getE key) with
        | none=>rw [hX] at hat;cases hat
        | some z=>rw [hX] at hat;cases hat;rfl
      subst hkk
      exact ⟨_,_,rfl,.inr (.inr ⟨hmem,key',v',A',D',was,ee,T3,rfl,hat,rel,rfl,h3,(Tch.ext (e02.trans' ed2)).trans c3⟩)⟩
  · obtain ⟨KA,n,c,ok,hb,hk0⟩:=hc
    refine ⟨_,rfl,fun v=>Ext u v,ed,_,fun v e=>(hb.ext e).cell rfl,_,rfl,_,fun v e=>(hb.ext e).cell rfl,(sTrees (h.ext ed)).mono ?_⟩
    rintro _ v ⟨A1,c1,rfl,ho,e1,_⟩
    have e01:=ed.trans' e1
    refine ⟨_,_,_,rfl,e01,(Index_spec (ho.imm KI_pos) (by rw [idsD_len];have:=h.inv.cnt;show D.length<=_;have h9:D.length<=1000:=h.inv.cnt;omega) id).same ⟨_,rfl,rfl,e01⟩⟩
end
end Go.Proofs.YthfagbfllheneaaGreat
set_option linter.unusedVariables false
set_option maxRecDepth 100000
namespace Go.Proofs.YthfagbfllheneaaGreat
open Go Go.Sx Value IntKind World Addr Builtin
noncomputable def cursor_Cursor_Seek.W:Option Addr->Int->Option Addr->Nat->Nat->World->(Value->World->Prop)->Prop:=fun c how key_A key_n key_c w K=>∀ g w',Fresh w g w' [pointer c] 23 ->
 ∀ g_1 w'_1,Fresh w' g_1 w'_1 [slice key_A key_n key_c] 30->∃ x,cell? w'_1 (mk g 0 none)=some (pointer x)/\CallsV Tryz.prog 40 #[pointer x] w'_1 fun v w'=>∃ x_1,v=bool x_1/\bif
 !x_1 then K (bool false) w' else ∃ (x_2:Option Nat) (w'_2:World),RunsTo Tryz.prog (Instr.makeMap 94 none) w' (map x_2) w'_2/\∃ w',RunsTo Tryz.prog (Instr.mapUpdate 94 (map x_2) (int
 u8 1) (func (Fn.func 41) #[] #[pointer (some (mk g 0 none)),pointer (some (mk g_1 0 none))])) w'_2 () w'/\∃ w'_3,RunsTo Tryz.prog (Instr.mapUpdate 94 (map x_2) (int u8 2)
 (func (Fn.func 43) #[] #[pointer (some (mk g 0 none)),pointer (some (mk g_1 0 none))])) w' () w'_3/\∃ w',RunsTo Tryz.prog (Instr.mapUpdate 94 (map x_2) (int u8 3) (func
 (Fn.func 44) #[] #[pointer (some (mk g 0 none)),pointer (some (mk g_1 0 none))])) w'_3 () w'/\∃ w'_4,RunsTo Tryz.prog (Instr.mapUpdate 94 (map x_2) (int u8 4) (func
 (Fn.func 46) #[] #[pointer (some (mk g 0 none)),pointer (some (mk g_1 0 none))])) w' () w'_4/\∃ x_3 w',RunsTo Tryz.prog (Instr.lookup 94 (map x_2) (int u8 how)
 false) w'_4 x_3 w'/\pureS.match_2 (fun (x x_4:Option Value)=>Prop) (ev (Env.set (Env.set (Env.set (Env.set (Env.set (Env.set (Env.set (Env.set (Env.set (Env.set (Env.set (Env.set (Env.set
 (Env.set (Env.set (Env.set (Env.set (Env.set (argEnv 0 [pointer c,int u8 how,slice key_A key_n key_c]) 3 (some (pointer (some (mk g 0 none))))) 5 (some (pointer
 (some (mk g_1 0 none))))) 6 (some (bool false))) 9 (some (pointer x))) 10 (some (bool x_1))) 11 (some (bool !x_1))) 12 (some (map x_2))) 13
 (some (func (Fn.func 41) #[] #[pointer (some (mk g 0 none)),pointer (some (mk g_1 0 none))]))) 14 (some (func (Fn.func 43) #[] #[pointer (some (mk g 0
 none)),pointer (some (mk g_1 0 none))]))) 15 (some (func (Fn.func 44) #[] #[pointer (some (mk g 0 none)),pointer (some (mk g_1 0 none))]))) 16
 (some (func (Fn.func 46) #[] #[pointer (some (mk g 0 none)),pointer (some (mk g_1 0 none))]))) 17 (some (map x_2))) 7 (some (map x_2))) 18 (some
 (map x_2))) 19 (some (int u8 how))) 20 (some x_3)) 8 (some x_3)) 21 (some x_3)) (Operand.tmp 21)) (ev (Env.set (Env.set (Env.set (Env.set (Env.set (Env.set (Env.set (Env.set
 (Env.set (Env.set (Env.set (Env.set (Env.set (Env.set (Env.set (Env.set (Env.set (Env.set (argEnv 0 [pointer c,int u8 how,slice key_A key_n key_c]) 3 (some (pointer (some (mk g 0
 none))))) 5 (some (pointer (some (mk g_1 0 none))))) 6 (some (bool false))) 9 (some (pointer x))) 10 (some (bool x_1))) 11 (some (bool
 !x_1))) 12 (some (map x_2))) 13 (some (func (Fn.func 41) #[] #[pointer (some (mk g 0 none)),pointer (some (mk g_1 0 none))]))) 14 (some (func (Fn.func
 43) #[] #[pointer (some (mk g 0 none)),pointer (some (mk g_1 0 none))]))) 15 (some (func (Fn.func 44) #[] #[pointer (some (mk g 0 none)),pointer
 (some (mk g_1 0 none))]))) 16 (some (func (Fn.func 46) #[] #[pointer (some (mk g 0 none)),pointer (some (mk g_1 0 none))]))) 17 (some (map
 x_2))) 7 (some (map x_2))) 18 (some (map x_2))) 19 (some (int u8 how))) 20 (some x_3)) 8 (some x_3)) 21 (some x_3)) (Operand.const nilFunc)) (fun (a b:Array
 Value) => aggS Tryz.prog BinOp.neq 93 a b fun v => putS 32 (Array.toList #[Oper.mk (some 21) (Op.move (Operand.tmp 8)) 93 "cursor.go:66" #[] none, Oper.mk (some 22) (Op.binOp
 BinOp.neq 93 (Operand.tmp 21) (Operand.const nilFunc) 93) 4 "cursor.go:66" #[Edge.mk 0 Ground.data] none]) 1 (Oper.mk (some 22) (Op.binOp BinOp.neq 93 (Operand.tmp 21) (Operand.const
 nilFunc) 93) 4 "cursor.go:66" #[Edge.mk 0 Ground.data] none) v (Env.set (Env.set (Env.set (Env.set (Env.set (Env.set (Env.set (Env.set (Env.set (Env.set (Env.set (Env.set (Env.set (Env.set
 (Env.set (Env.set (Env.set (Env.set (argEnv 0 [pointer c,int u8 how,slice key_A key_n key_c]) 3 (some (pointer (some (mk g 0 none))))) 5 (some (pointer (some (mk
 g_1 0 none))))) 6 (some (bool false))) 9 (some (pointer x))) 10 (some (bool x_1))) 11 (some (bool !x_1))) 12 (some (map x_2))) 13 (some (func
 (Fn.func 41) #[] #[pointer (some (mk g 0 none)),pointer (some (mk g_1 0 none))]))) 14 (some (func (Fn.func 43) #[] #[pointer (some (mk g 0 none)),
 pointer (some (mk g_1 0 none))]))) 15 (some (func (Fn.func 44) #[] #[pointer (some (mk g 0 none)),pointer (some (mk g_1 0 none))]))) 16 (some
 (func (Fn.func 46) #[] #[pointer (some (mk g 0 none)),pointer (some (mk g_1 0 none))]))) 17 (some (map x_2))) 7 (some (map x_2))) 18 (some (map x_2)))
 19 (some (int u8 how))) 20 (some x_3)) 8 (some x_3)) 21 (some x_3)) fun (ρ':Env)=>regW (nmd (Ann.named (Ann.named Ann.auto))) Tryz.prog 32 (Array.toList #[Oper.mk
 (some 21) (Op.move (Operand.tmp 8)) 93 "cursor.go:66" #[] none, Oper.mk (some 22) (Op.binOp BinOp.neq 93 (Operand.tmp 21) (Operand.const nilFunc) 93) 4 "cursor.go:66" #[Edge.mk 0
 Ground.data] none]) 2 [] (nxt (nxt (fnK Tryz.prog (Array.toList (Array.mk [ResultVar.tmp 6])) K) fun (ρ:Env) w=>cWf (nmd (Ann.named (Ann.named Ann.auto))) Tryz.prog 32 none Ann.auto
 (Code.seq (Code.region 7 #[Oper.mk (some 30) (Op.load 23 (Operand.tmp 3)) 23 "cursor.go:69" #[] none, Oper.mk (some 31) (Op.call (Call.mk (Callee.value (Operand.func 47))
 #[Operand.tmp 30, Operand.const (slice none 0 0), Operand.const (slice none 0 0), Operand.const (bool false)] #[23, 30, 30, 4])) 4 "cursor.go:69" #[Edge.mk 0 Ground.data]
 none, Oper.mk (some 6) (Op.assign (Operand.tmp 31)) 4 "cursor.go:69" #[Edge.mk 1 Ground.data, Edge.mk 1 Ground.chain, Edge.mk 0 Ground.phase, Edge.mk 1 Ground.phase] none]
 false) Code.ret) (fnK Tryz.prog (Array.toList (Array.mk [ResultVar.tmp 6])) K) ρ w) (fun (ρ:Env) w=>cWf (nmd (Ann.named (Ann.named Ann.auto))) Tryz.prog 32 none Ann.auto (Code.cond
 (Operand.tmp 22) (Code.seq (Code.region 6 #[Oper.mk (some 23) (Op.load 23 (Operand.tmp 3)) 23 "cursor.go:67" #[] none, Oper.mk (some 24) (Op.move (Operand.tmp 8)) 93 "cursor.go:67"
 #[] none, Oper.mk (some 25) (Op.call (Call.mk (Callee.value (Operand.tmp 24)) #[] #[])) 89 "cursor.go:67" #[Edge.mk 1 Ground.data] none, Oper.mk (some 26) (Op.extract
 (Operand.tmp 25) 0) 30 "cursor.go:67" #[Edge.mk 2 Ground.data] none, Oper.mk (some 27) (Op.extract (Operand.tmp 25) 1) 30 "cursor.go:67" #[Edge.mk 2 Ground.data] none, Oper.mk
 (some 28) (Op.extract (Operand.tmp 25) 2) 4 "cursor.go:67" #[Edge.mk 2 Ground.data] none, Oper.mk (some 29) (Op.call (Call.mk (Callee.value (Operand.func 47)) #[Operand.tmp 23,
 Operand.tmp 26, Operand.tmp 27, Operand.tmp 28] #[23, 30, 30, 4])) 4 "cursor.go:67" #[Edge.mk 0 Ground.data, Edge.mk 3 Ground.data, Edge.mk 4 Ground.data, Edge.mk 5 Ground.data, Edge.mk 2 Ground.chain]
 none, Oper.mk (some 6) (Op.assign (Operand.tmp 29)) 4 "cursor.go:67" #[Edge.mk 6 Ground.data, Edge.mk 6 Ground.chain, Edge.mk 0 Ground.phase, Edge.mk 1 Ground.phase, Edge.mk 2
 Ground.phase,Edge.mk 3 Ground.phase,Edge.mk 4 Ground.phase,Edge.mk 5 Ground.phase,Edge.mk 6 Ground.phase] none] true) Code.ret) Code.skip) (nxt (fnK Tryz.prog (Array.toList (Array.mk
 [ResultVar.tmp 6])) K) fun (ρ:Env) w=>cWf (nmd (Ann.named (Ann.named Ann.auto))) Tryz.prog 32 none Ann.auto (Code.seq (Code.region 7 #[Oper.mk (some 30) (Op.load 23 (Operand.tmp 3))
 23 "cursor.go:69" #[] none, Oper.mk (some 31) (Op.call (Call.mk (Callee.value (Operand.func 47)) #[Operand.tmp 30, Operand.const (slice none 0 0), Operand.const (slice none
 0 0), Operand.const (bool false)] #[23, 30, 30, 4])) 4 "cursor.go:69" #[Edge.mk 0 Ground.data] none, Oper.mk (some 6) (Op.assign (Operand.tmp 31)) 4 "cursor.go:69" #[Edge.mk 1
 Ground.data,Edge.mk 1 Ground.chain,Edge.mk 0 Ground.phase,Edge.mk 1 Ground.phase] none] false) Code.ret) (fnK Tryz.prog (Array.toList (Array.mk [ResultVar.tmp 6])) K) ρ w) ρ w)
 Exit.normal) ρ' w') (fun a b=>bif isPtrT (und Tryz.prog 93) && !(constO (Operand.tmp 21) || constO (Operand.const nilFunc)) then ptrS Tryz.prog BinOp.neq 93 a b fun v=>putS 32 (Array.toList
 #[Oper.mk (some 21) (Op.move (Operand.tmp 8)) 93 "cursor.go:66" #[] none, Oper.mk (some 22) (Op.binOp BinOp.neq 93 (Operand.tmp 21) (Operand.const nilFunc) 93) 4 "cursor.go:66"
 #[Edge.mk 0 Ground.data] none]) 1 (Oper.mk (some 22) (Op.binOp BinOp.neq 93 (Operand.tmp 21) (Operand.const nilFunc) 93) 4 "cursor.go:66" #[Edge.mk 0 Ground.data] none) v (Env.set
 (Env.set (Env.set (Env.set (Env.set (Env.set (Env.set (Env.set (Env.set (Env.set (Env.set (Env.set (Env.set (Env.set (Env.set (Env.set (Env.set (Env.set (argEnv 0 [pointer c,int u8 how,slice key_A
 key_n key_c]) 3 (some (pointer (some (mk g 0 none))))) 5 (some (pointer (some (mk g_1 0 none))))) 6 (some (bool false))) 9 (some (pointer
 x))) 10 (some (bool x_1))) 11 (some (bool !x_1))) 12 (some (map x_2))) 13 (some (func (Fn.func 41) #[] #[pointer (some (mk g 0 none)),pointer (some (mk
 g_1 0 none))]))) 14 (some (func (Fn.func 43) #[] #[pointer (some (mk g 0 none)),pointer (some (mk g_1 0 none))]))) 15 (some (func (Fn.func 44) #[]
 #[pointer (some (mk g 0 none)),pointer (some (mk g_1 0 none))]))) 16 (some (func (Fn.func 46) #[] #[pointer (some (mk g 0 none)),pointer (some
 (mk g_1 0 none))]))) 17 (some (map x_2))) 7 (some (map x_2))) 18 (some (map x_2))) 19 (some (int u8 how))) 20 (some x_3)) 8 (some x_3)) 21 (some
 x_3)) fun (ρ' : Env) => regW (nmd (Ann.named (Ann.named Ann.auto))) Tryz.prog 32 (Array.toList #[Oper.mk (some 21) (Op.move (Operand.tmp 8)) 93 "cursor.go:66" #[] none, Oper.mk
 (some 22) (Op.binOp BinOp.neq 93 (Operand.tmp 21) (Operand.const nilFunc) 93) 4 "cursor.go:66" #[Edge.mk 0 Ground.data] none]) 2 [] (nxt (nxt (fnK Tryz.prog (Array.toList (Array.mk
 [ResultVar.tmp 6])) K) fun (ρ:Env) w=>cWf (nmd (Ann.named (Ann.named Ann.auto))) Tryz.prog 32 none Ann.auto (Code.seq (Code.region 7 #[Oper.mk (some 30) (Op.load 23 (Operand.tmp 3))
 23 "cursor.go:69" #[] none, Oper.mk (some 31) (Op.call (Call.mk (Callee.value (Operand.func 47)) #[Operand.tmp 30, Operand.const (slice none 0 0), Operand.const (slice none
 0 0), Operand.const (bool false)] #[23, 30, 30, 4])) 4 "cursor.go:69" #[Edge.mk 0 Ground.data] none, Oper.mk (some 6) (Op.assign (Operand.tmp 31)) 4 "cursor.go:69" #[Edge.mk 1
 Ground.data,Edge.mk 1 Ground.chain,Edge.mk 0 Ground.phase,Edge.mk 1 Ground.phase] none] false) Code.ret) (fnK Tryz.prog (Array.toList (Array.mk [ResultVar.tmp 6])) K) ρ w) (fun (ρ:Env)
 w=>cWf (nmd (Ann.named (Ann.named Ann.auto))) Tryz.prog 32 none Ann.auto (Code.cond (Operand.tmp 22) (Code.seq (Code.region 6 #[Oper.mk (some 23) (Op.load 23 (Operand.tmp 3)) 23
 "cursor.go:67" #[] none, Oper.mk (some 24) (Op.move (Operand.tmp 8)) 93 "cursor.go:67" #[] none, Oper.mk (some 25) (Op.call (Call.mk (Callee.value (Operand.tmp 24)) #[]
 #[])) 89 "cursor.go:67" #[Edge.mk 1 Ground.data] none, Oper.mk (some 26) (Op.extract (Operand.tmp 25) 0) 30 "cursor.go:67" #[Edge.mk 2 Ground.data] none, Oper.mk (some 27)
 (Op.extract (Operand.tmp 25) 1) 30 "cursor.go:67" #[Edge.mk 2 Ground.data] none, Oper.mk (some 28) (Op.extract (Operand.tmp 25) 2) 4 "cursor.go:67" #[Edge.mk 2 Ground.data] none,
 Oper.mk (some 29) (Op.call (Call.mk (Callee.value (Operand.func 47)) #[Operand.tmp 23, Operand.tmp 26, Operand.tmp 27, Operand.tmp 28] #[23, 30, 30, 4])) 4 "cursor.go:67" #[Edge.mk 0
 Ground.data, Edge.mk 3 Ground.data, Edge.mk 4 Ground.data, Edge.mk 5 Ground.data, Edge.mk 2 Ground.chain] none, Oper.mk (some 6) (Op.assign (Operand.tmp 29)) 4 "cursor.go:67" #[Edge.mk 6
 Ground.data,Edge.mk 6 Ground.chain,Edge.mk 0 Ground.phase,Edge.mk 1 Ground.phase,Edge.mk 2 Ground.phase,Edge.mk 3 Ground.phase,Edge.mk 4 Ground.phase,Edge.mk 5 Ground.phase,Edge.mk 6
 Ground.phase] none] true) Code.ret) Code.skip) (nxt (fnK Tryz.prog (Array.toList (Array.mk [ResultVar.tmp 6])) K) fun (ρ:Env) w=>cWf (nmd (Ann.named (Ann.named Ann.auto))) Tryz.prog 32
 none Ann.auto (Code.seq (Code.region 7 #[Oper.mk (some 30) (Op.load 23 (Operand.tmp 3)) 23 "cursor.go:69" #[] none, Oper.mk (some 31) (Op.call (Call.mk (Callee.value
 (Operand.func 47)) #[Operand.tmp 30, Operand.const (slice none 0 0), Operand.const (slice none 0 0), Operand.const (bool false)] #[23, 30, 30, 4])) 4 "cursor.go:69" #[Edge.mk 0
 Ground.data] none, Oper.mk (some 6) (Op.assign (Operand.tmp 31)) 4 "cursor.go:69" #[Edge.mk 1 Ground.data, Edge.mk 1 Ground.chain, Edge.mk 0 Ground.phase, Edge.mk 1 Ground.phase]
 none] false) Code.ret) (fnK Tryz.prog (Array.toList (Array.mk [ResultVar.tmp 6])) K) ρ w) ρ w) Exit.normal) ρ' w' else binS Tryz.prog BinOp.neq 93 a b fun v=>putS 32 (Array.toList
 #[Oper.mk (some 21) (Op.move (Operand.tmp 8)) 93 "cursor.go:66" #[] none, Oper.mk (some 22) (Op.binOp BinOp.neq 93 (Operand.tmp 21) (Operand.const nilFunc) 93) 4 "cursor.go:66"
 #[Edge.mk 0 Ground.data] none]) 1 (Oper.mk (some 22) (Op.binOp BinOp.neq 93 (Operand.tmp 21) (Operand.const nilFunc) 93) 4 "cursor.go:66" #[Edge.mk 0 Ground.data] none) v (Env.set
 (Env.set (Env.set (Env.set (Env.set (Env.set (Env.set (Env.set (Env.set (Env.set (Env.set (Env.set (Env.set (Env.set (Env.set (Env.set (Env.set (Env.set (argEnv 0 [pointer c,int u8 how,slice key_A
 key_n key_c]) 3 (some (pointer (some (mk g 0 none))))) 5 (some (pointer (some (mk g_1 0 none))))) 6 (some (bool false))) 9 (some (pointer
 x))) 10 (some (bool x_1))) 11 (some (bool !x_1))) 12 (some (map x_2))) 13 (some (func (Fn.func 41) #[] #[pointer (some (mk g 0 none)),pointer (some (mk
 g_1 0 none))]))) 14 (some (func (Fn.func 43) #[] #[pointer (some (mk g 0 none)),pointer (some (mk g_1 0 none))]))) 15 (some (func (Fn.func 44) #[]
 #[pointer (some (mk g 0 none)),pointer (some (mk g_1 0 none))]))) 16 (some (func (Fn.func 46) #[] #[pointer (some (mk g 0 none)),pointer (some
 (mk g_1 0 none))]))) 17 (some (map x_2))) 7 (some (map x_2))) 18 (some (map x_2))) 19 (some (int u8 how))) 20 (some x_3)) 8 (some x_3)) 21 (some
 x_3)) fun (ρ' : Env) => regW (nmd (Ann.named (Ann.named Ann.auto))) Tryz.prog 32 (Array.toList #[Oper.mk (some 21) (Op.move (Operand.tmp 8)) 93 "cursor.go:66" #[] none, Oper.mk
 (some 22) (Op.binOp BinOp.neq 93 (Operand.tmp 21) (Operand.const nilFunc) 93) 4 "cursor.go:66" #[Edge.mk 0 Ground.data] none]) 2 [] (nxt (nxt (fnK Tryz.prog (Array.toList (Array.mk
 [ResultVar.tmp 6])) K) fun (ρ:Env) w=>cWf (nmd (Ann.named (Ann.named Ann.auto))) Tryz.prog 32 none Ann.auto (Code.seq (Code.region 7 #[Oper.mk (some 30) (Op.load 23 (Operand.tmp 3))
 23 "cursor.go:69" #[] none, Oper.mk (some 31) (Op.call (Call.mk (Callee.value (Operand.func 47)) #[Operand.tmp 30, Operand.const (slice none 0 0), Operand.const (slice none
 0 0), Operand.const (bool false)] #[23, 30, 30, 4])) 4 "cursor.go:69" #[Edge.mk 0 Ground.data] none, Oper.mk (some 6) (Op.assign (Operand.tmp 31)) 4 "cursor.go:69" #[Edge.mk 1
 Ground.data,Edge.mk 1 Ground.chain,Edge.mk 0 Ground.phase,Edge.mk 1 Ground.phase] none] false) Code.ret) (fnK Tryz.prog (Array.toList (Array.mk [ResultVar.tmp 6])) K) ρ w) (fun (ρ:Env)
 w=>cWf (nmd (Ann.named (Ann.named Ann.auto))) Tryz.prog 32 none Ann.auto (Code.cond (Operand.tmp 22) (Code.seq (Code.region 6 #[Oper.mk (some 23) (Op.load 23 (Operand.tmp 3)) 23
 "cursor.go:67" #[] none, Oper.mk (some 24) (Op.move (Operand.tmp 8)) 93 "cursor.go:67" #[] none, Oper.mk (some 25) (Op.call (Call.mk (Callee.value (Operand.tmp 24)) #[]
 #[])) 89 "cursor.go:67" #[Edge.mk 1 Ground.data] none, Oper.mk (some 26) (Op.extract (Operand.tmp 25) 0) 30 "cursor.go:67" #[Edge.mk 2 Ground.data] none, Oper.mk (some 27)
 (Op.extract (Operand.tmp 25) 1) 30 "cursor.go:67" #[Edge.mk 2 Ground.data] none, Oper.mk (some 28) (Op.extract (Operand.tmp 25) 2) 4 "cursor.go:67" #[Edge.mk 2 Ground.data] none,
 Oper.mk (some 29) (Op.call (Call.mk (Callee.value (Operand.func 47)) #[Operand.tmp 23, Operand.tmp 26, Operand.tmp 27, Operand.tmp 28] #[23, 30, 30, 4])) 4 "cursor.go:67" #[Edge.mk 0
 Ground.data, Edge.mk 3 Ground.data, Edge.mk 4 Ground.data, Edge.mk 5 Ground.data, Edge.mk 2 Ground.chain] none, Oper.mk (some 6) (Op.assign (Operand.tmp 29)) 4 "cursor.go:67" #[Edge.mk 6
 Ground.data,Edge.mk 6 Ground.chain,Edge.mk 0 Ground.phase,Edge.mk 1 Ground.phase,Edge.mk 2 Ground.phase,Edge.mk 3 Ground.phase,Edge.mk 4 Ground.phase,Edge.mk 5 Ground.phase,Edge.mk 6
 Ground.phase] none] true) Code.ret) Code.skip) (nxt (fnK Tryz.prog (Array.toList (Array.mk [ResultVar.tmp 6])) K) fun (ρ:Env) w=>cWf (nmd (Ann.named (Ann.named Ann.auto))) Tryz.prog 32
 none Ann.auto (Code.seq (Code.region 7 #[Oper.mk (some 30) (Op.load 23 (Operand.tmp 3)) 23 "cursor.go:69" #[] none, Oper.mk (some 31) (Op.call (Call.mk (Callee.value
 (Operand.func 47)) #[Operand.tmp 30, Operand.const (slice none 0 0), Operand.const (slice none 0 0), Operand.const (bool false)] #[23, 30, 30, 4])) 4 "cursor.go:69" #[Edge.mk 0
 Ground.data] none, Oper.mk (some 6) (Op.assign (Operand.tmp 31)) 4 "cursor.go:69" #[Edge.mk 1 Ground.data, Edge.mk 1 Ground.chain, Edge.mk 0 Ground.phase, Edge.mk 1 Ground.phase]
 none] false) Code.ret) (fnK Tryz.prog (Array.toList (Array.mk [ResultVar.tmp 6])) K) ρ w) ρ w) Exit.normal) ρ' w') fun (x x_4:Option Value)=>False
theorem cursor_Cursor_Seek.calls (ok:Okay Tryz.prog) {c how key_A key_n key_c w K} (h:cursor_Cursor_Seek.W c how key_A key_n key_c w K):CallsV Tryz.prog 6 #[.pointer c,.int .u8 how,.slice key_A key_n key_c] w K :=
  fnW_calls ok Tryz.func6 (an:=(.named (.named .auto))) (args:=[.pointer c,.int .u8 how,.slice key_A key_n key_c]) (Eq.mp (by kernel_rfl) h)
end Go.Proofs.YthfagbfllheneaaGreat
set_option linter.unusedVariables false
set_option linter.unusedSimpArgs false
namespace Go.Proofs.YthfagbfllheneaaGreat
open Go Go.Sx T4
def seekX (F:List (Int×Es)) (id:Int) (how:Int) (key:Key):Option (Key×Key) :=
  if how=1 then (gF F id).bind (aftE key true) else if how=2 then (gF F id).bind (aftE key false) else if how=3 then (gF F id).bind (befE key true) else if how=4 then (gF F id).bind (befE key false) else none
abbrev fU:Int->Value:=fun a=>.int .u8 a
theorem keyU:KeyF Tryz.prog 26 (.int .u8) fU:=keyInt (by kernel_rfl)
theorem zeroF (w:World):(zeroValue 93).run Tryz.prog w=.ok .nilFunc w:=by
  have h:inf Tryz.prog 93=some Tryz.t93:=by kernel_rfl
  simp only [zeroValue,Sem.run_bind,run_inf h,Result.andThen_ok]
  rfl
section
variable {T Ω Ω1:Nat->Prop} {u:World} {s g gc gk:Nat} {q:Ab} {id:Int} {key:Key} {KA:Option Addr} {kc:Nat} {v2 v3:Value}
theorem seek1 (h:Sto T u s q) (hb:Blk u g [.pointer (some ⟨s,0,none⟩),.int .i64 id,v2,v3]) (b1:Blk u gc [.pointer (some ⟨g,0,none⟩)]) (b2:Blk u gk [.slice KA key.length kc]) (iK:Imm KB Ω1 u KA key):CallsV Tryz.prog 41 #[.pointer (some ⟨gc,0,none⟩),.pointer (some ⟨gk,0,none⟩)] u fun r v=>Told u ((gF (foD q.D) id).bind (aftE key true)) r v/\Ext u v:=by
  refine cursor_Cursor_Seek_1.calls okay ?_
  unfold cursor_Cursor_Seek_1.W
  have ed:Ext u u.drew:=Fr.drew NoB u
  refine ⟨fun z=>Ext u z,ed,_,fun z e=>(b1.ext e).cell0 rfl,_,rfl,_,fun z e=>(hb.ext e).cell rfl,_,fun z e=>(b1.ext e).cell0 rfl,_,rfl,_,fun z e=>(hb.ext e).cell rfl,_,_,_,fun z e=>(b2.ext e).cell0 rfl,(sAfter (h.ext ed) id (iK.ext KB_pos ed) kc true).mono ?_⟩
  rintro r v ⟨ht,e⟩
  obtain ⟨A1,n1,c1,B1,m1,d1,f1,rfl⟩:=ht.form
  exact ⟨_,_,_,_,_,_,_,rfl,ed.trans' e,ht.from ed,ed.trans' e⟩
theorem seek2 (h:Sto T u s q) (hb:Blk u g [.pointer (some ⟨s,0,none⟩),.int .i64 id,v2,v3]) (b1:Blk u gc [.pointer (some ⟨g,0,none⟩)]) (b2:Blk u gk [.slice KA key.length kc]) (iK:Imm KB Ω1 u KA key):CallsV Tryz.prog 43 #[.pointer (some ⟨gc,0,none⟩),.pointer (some ⟨gk,0,none⟩)] u fun r v=>Told u ((gF (foD q.D) id).bind (aftE key false)) r v/\Ext u v:=by
  refine cursor_Cursor_Seek_2.calls okay ?_
  unfold cursor_Cursor_Seek_2.W
  have ed:Ext u u.drew:=Fr.drew NoB u
  refine ⟨fun z=>Ext u z,ed,_,fun z e=>(b1.ext e).cell0 rfl,_,rfl,_,fun z e=>(hb.ext e).cell rfl,_,fun z e=>(b1.ext e).cell0 rfl,_,rfl,_,fun z e=>(hb.ext e).cell rfl,_,_,_,fun z e=>(b2.ext e).cell0 rfl,(sAfter (h.ext ed) id (iK.ext KB_pos ed) kc false).mono ?_⟩
  rintro r v ⟨ht,e⟩
  obtain ⟨A1,n1,c1,B1,m1,d1,f1,rfl⟩:=ht.form
  exact ⟨_,_,_,_,_,_,_,rfl,ed.trans' e,ht.from ed,ed.trans' e⟩
theorem seek3 (h:Sto T u s q) (hb:Blk u g [.pointer (some ⟨s,0,none⟩),.int .i64 id,v2,v3]) (b1:Blk u gc [.pointer (some ⟨g,0,none⟩)]) (b2:Blk u gk [.slice KA key.length kc]) (iK:Imm KB Ω1 u KA key):CallsV Tryz.prog 44 #[.pointer (some ⟨gc,0,none⟩),.pointer (some ⟨gk,0,none⟩)] u fun r v=>Told u ((gF (foD q.D) id).bind (befE key true)) r v/\Ext u v:=by
  refine cursor_Cursor_Seek_3.calls okay ?_
  unfold cursor_Cursor_Seek_3.W
  have ed:Ext u u.drew:=Fr.drew NoB u
  refine ⟨fun z=>Ext u z,ed,_,fun z e=>(b1.ext e).cell0 rfl,_,rfl,_,fun z e=>(hb.ext e).cell rfl,_,fun z e=>(b1.ext e).cell0 rfl,_,rfl,_,fun z e=>(hb.ext e).cell rfl,_,_,_,fun z e=>(b2.ext e).cell0 rfl,(sBefore (h.ext ed) id (iK.ext KB_pos ed) kc true).mono ?_⟩
  rintro r v ⟨ht,e⟩
  obtain ⟨A1,n1,c1,B1,m1,d1,f1,rfl⟩:=ht.form
  exact ⟨_,_,_,_,_,_,_,rfl,ed.trans' e,ht.from ed,ed.trans' e⟩
theorem seek4 (h:Sto T u s q) (hb:Blk u g [.pointer (some ⟨s,0,none⟩),.int .i64 id,v2,v3]) (b1:Blk u gc [.pointer (some ⟨g,0,none⟩)]) (b2:Blk u gk [.slice KA key.length kc]) (iK:Imm KB Ω1 u KA key):CallsV Tryz.prog 46 #[.pointer (some ⟨gc,0,none⟩),.pointer (some ⟨gk,0,none⟩)] u fun r v=>Told u ((gF (foD q.D) id).bind (befE key false)) r v/\Ext u v:=by
  refine cursor_Cursor_Seek_4.calls okay ?_
  unfold cursor_Cursor_Seek_4.W
  have ed:Ext u u.drew:=Fr.drew NoB u
  refine ⟨fun z=>Ext u z,ed,_,fun z e=>(b1.ext e).cell0 rfl,_,rfl,_,fun z e=>(hb.ext e).cell rfl,_,fun z e=>(b1.ext e).cell0 rfl,_,rfl,_,fun z e=>(hb.ext e).cell rfl,_,_,_,fun z e=>(b2.ext e).cell0 rfl,(sBefore (h.ext ed) id (iK.ext KB_pos ed) kc false).mono ?_⟩
  rintro r v ⟨ht,e⟩
  obtain ⟨A1,n1,c1,B1,m1,d1,f1,rfl⟩:=ht.form
  exact ⟨_,_,_,_,_,_,_,rfl,ed.trans' e,ht.from ed,ed.trans' e⟩
def seekNest (fid gc gk:Nat) (w:World) (K:Value->World->Prop):Prop :=
  ∃ S:World->Prop,S w.drew/\∃ x,(∀ u,S u->u.cell? ⟨gc,0,none⟩=some (.pointer x))/\∃ (f:Nat) (first captured:Array Value),Value.func (.func fid) #[] #[.pointer (some ⟨gc,0,none⟩),.pointer (some ⟨gk,0,none⟩)]=.func (.func f) first captured/\bodied Tryz.prog f=true /\
    CallsV Tryz.prog f (List.toArray (first.toList++([]++captured.toList))) w.drew fun r w'=>∃ x3 x4 x5 x6 x7 x8 x9,r=.tuple #[.slice x3 x4 x5,.slice x6 x7 x8,.bool x9]/\S w'/\CallsV Tryz.prog 47 #[.pointer x,.slice x3 x4 x5,.slice x6 x7 x8,.bool x9] w' fun v w'=>∃ x,v=.bool x/\K (.bool x) w'
def seekPost (Ω:Nat->Prop) (u:World) (g s:Nat) (id:Int) (x:Option (Key×Key)):Value->World->Prop:=fun r u'=>r=.bool x.isSome/\Cur Ω u' g s id (x.map fun p=>p.1)/\Fr (fun k=>k=g) u u'
theorem seekNest_of {w:World} {x:Option (Key×Key)} {v2 v3:Value} (e:Ext u w) (hb:Blk w g [.pointer (some ⟨s,0,none⟩),.int .i64 id,v2,v3]) (b1:Blk w gc [.pointer (some ⟨g,0,none⟩)]) (hne:gc≠g) (hΩ:∀ k,Ω k->k<u.heap.size) (hg:Ω g) {fid:Nat} (hbo:bodied Tryz.prog fid=true)
    (hcall:CallsV Tryz.prog fid #[.pointer (some ⟨gc,0,none⟩),.pointer (some ⟨gk,0,none⟩)] w.drew fun r v=>Told w.drew x r v/\Ext w.drew v):seekNest fid gc gk w (seekPost Ω u g s id x):=by
  have ed:Ext w w.drew:=Fr.drew NoB w
  refine ⟨fun z=>Blk z gc [.pointer (some ⟨g,0,none⟩)],b1.ext ed,_,fun z hz=>hz.cell0 rfl,fid,_,_,rfl,hbo,hcall.mono ?_⟩
  rintro r v ⟨ht,e1⟩
  have ewv:=ed.trans' e1
  have ev:=e.trans' ewv
  obtain ⟨KA',kn,kc,VA,vn,vc,ok',rfl,hti⟩:=ht.ti (Ω:=Ω) (fun k hk=>by have:=hΩ k hk;have:=e.size;have:=ed.size;omega)
  refine ⟨_,_,_,_,_,_,_,rfl,b1.ext ewv,(cPut (v0:=.bool true) (hb.ext ewv) KA' VA kn kc vn vc ok').mono ?_⟩
  rintro _ w' ⟨rfl,hb',f⟩
  obtain ⟨h1,h2,h3⟩:=move hΩ hg (toldLen ht) hti ev hb' f
  exact ⟨_,rfl,by rw [h1],h2,h3⟩
set_option maxRecDepth 100000 in
set_option maxHeartbeats 1000000 in
theorem cSeek {k:Option Key} (h:Sto T u s q) (hc:Cur Ω u g s id k) (hΩ:∀ k,Ω k->k<u.heap.size) (hg:Ω g) (iK:Imm KB Ω1 u KA key) (kc:Nat) (how:Int):CallsV Tryz.prog 6 #[.pointer (some ⟨g,0,none⟩),.int .u8 how,.slice KA key.length kc] u (seekPost Ω u g s id (seekX (foD q.D) id how key)):=by
  refine cursor_Cursor_Seek.calls okay ?_
  unfold cursor_Cursor_Seek.W
  intro gc u1 f1 gk u2 f2
  have hgl:=hc.lt
  have b1:=f1.blk.ext f2.ext
  have b2:=f2.blk
  have e2:Ext u u2:=f1.ext.trans' f2.ext
  have hne:gc≠g:=fun e=>by have:=f1.ge;omega
  have hgcl:=f1.blk.lt
  refine ⟨_,b1.cell0 rfl,(cMade (hc.ext e2)).same ⟨_,rfl,brnb (fun h=>by cases h) fun _=>⟨_,_,makeMap_run _ _,?_⟩⟩⟩
  have m0:=MapK.new fU u2
  have q0:Ext u2 (u2.alloc (.map #[] 0)):=Fr.alloc NoB u2 _
  obtain ⟨w1,r1,m1,q1⟩:=m0.update (P:=Tryz.prog) keyU (t:=94) (kt:=26) (et:=93) (by kernel_rfl) 1 (.func (.func 41) #[] #[.pointer (some ⟨gc,0,none⟩),.pointer (some ⟨gk,0,none⟩)])
  obtain ⟨w2,r2,m2,q2⟩:=m1.update (P:=Tryz.prog) keyU (t:=94) (kt:=26) (et:=93) (by kernel_rfl) 2 (.func (.func 43) #[] #[.pointer (some ⟨gc,0,none⟩),.pointer (some ⟨gk,0,none⟩)])
  obtain ⟨w3,r3,m3,q3⟩:=m2.update (P:=Tryz.prog) keyU (t:=94) (kt:=26) (et:=93) (by kernel_rfl) 3 (.func (.func 44) #[] #[.pointer (some ⟨gc,0,none⟩),.pointer (some ⟨gk,0,none⟩)])
  obtain ⟨w4,r4,m4,q4⟩:=m3.update (P:=Tryz.prog) keyU (t:=94) (kt:=26) (et:=93) (by kernel_rfl) 4 (.func (.func 46) #[] #[.pointer (some ⟨gc,0,none⟩),.pointer (some ⟨gk,0,none⟩)])
  have off:∀ k,k<u2.heap.size->¬ k=u2.heap.size:=fun k hk e=>by omega
  have e4:Ext u2 w4:=(((q0.trans q1 (fun _ _ h=>h) (fun k hk e=>off k hk e)).trans q2 (fun _ _ h=>h) (fun k hk e=>off k hk e)).trans q3 (fun _ _ h=>h) (fun k hk e=>off k hk e)).trans q4 (fun _ _ h=>h) (fun k hk e=>off k hk e)
  refine ⟨_,r1,_,r2,_,r3,_,r4,?_⟩
  have e04:=e2.trans' e4
  have hl:=(m4.look (P:=Tryz.prog) keyU (t:=94) (kt:=26) (et:=93) (by kernel_rfl) how (z:=.nilFunc) zeroF).2
  have c1:=b1.ext e4
  have c2:=b2.ext e4
  have h4:=h.ext e04
  have iK4:=iK.ext KB_pos e04
  have hcur:=hc
  obtain ⟨KA0,n0,c0,ok0,hb,hk0⟩:=hc
  have hb4:=hb.ext e04
  have ed:Ext w4 w4.drew:=Fr.drew NoB w4
  rcases Classical.em (how=1) with rfl|h1
  · replace hl:RunsTo Tryz.prog (Instr.lookup 94 (.map (some u2.heap.size)) (.int .u8 1) false) w4 (.func (.func 41) #[] #[.pointer (some ⟨gc,0,none⟩),.pointer (some ⟨gk,0,none⟩)]) w4:=hl
    exact ⟨_,_,hl,Eq.mpr (show _=seekNest 41 gc gk w4 (seekPost Ω u g s id ((gF (foD q.D) id).bind (aftE key true))) by kernel_rfl) (seekNest_of e04 hb4 c1 hne hΩ hg (by kernel_rfl) (seek1 (h4.ext ed) (hb4.ext ed) (c1.ext ed) (c2.ext ed) (iK4.ext KB_pos ed)))⟩
  rcases Classical.em (how=2) with rfl|h2
  · replace hl:RunsTo Tryz.prog (Instr.lookup 94 (.map (some u2.heap.size)) (.int .u8 2) false) w4 (.func (.func 43) #[] #[.pointer (some ⟨gc,0,none⟩),.pointer (some ⟨gk,0,none⟩)]) w4:=hl
    exact ⟨_,_,hl,Eq.mpr (show _=seekNest 43 gc gk w4 (seekPost Ω u g s id ((gF (foD q.D) id).bind (aftE key false))) by kernel_rfl) (seekNest_of e04 hb4 c1 hne hΩ hg (by kernel_rfl) (seek2 (h4.ext ed) (hb4.ext ed) (c1.ext ed) (c2.ext ed) (iK4.ext KB_pos ed)))⟩
  rcases Classical.em (how=3) with rfl|h3
  · replace hl:RunsTo Tryz.prog (Instr.lookup 94 (.map (some u2.heap.size)) (.int .u8 3) false) w4 (.func (.func 44) #[] #[.pointer (some ⟨gc,0,none⟩),.pointer (some ⟨gk,0,none⟩)]) w4:=hl
    exact ⟨_,_,hl,Eq.mpr (show _=seekNest 44 gc gk w4 (seekPost Ω u g s id ((gF (foD q.D) id).bind (befE key true))) by kernel_rfl) (seekNest_of e04 hb4 c1 hne hΩ hg (by kernel_rfl) (seek3 (h4.ext ed) (hb4.ext ed) (c1.ext ed) (c2.ext ed) (iK4.ext KB_pos ed)))⟩
  rcases Classical.em (how=4) with rfl|h4'
  · replace hl:RunsTo Tryz.prog (Instr.lookup 94 (.map (some u2.heap.size)) (.int .u8 4) false) w4 (.func (.func 46) #[] #[.pointer (some ⟨gc,0,none⟩),.pointer (some ⟨gk,0,none⟩)]) w4:=hl
    exact ⟨_,_,hl,Eq.mpr (show _=seekNest 46 gc gk w4 (seekPost Ω u g s id ((gF (foD q.D) id).bind (befE key false))) by kernel_rfl) (seekNest_of e04 hb4 c1 hne hΩ hg (by kernel_rfl) (seek4 (h4.ext ed) (hb4.ext ed) (c1.ext ed) (c2.ext ed) (iK4.ext KB_pos ed)))⟩
  have hX:seekX (foD q.D) id how key=none:=by unfold seekX;rw [if_neg h1,if_neg h2,if_neg h3,if_neg h4']
  rw [hX]
  have hget:∀ a b c d:Value,getM (setM (setM (setM (setM [] 1 a) 2 b) 3 c) 4 d) how=none:=fun a b c d=>by
    show (if how=1 then _ else if how=2 then _ else if how=3 then _ else if how=4 then _ else none)=none
    rw [if_neg h1,if_neg h2,if_neg h3,if_neg h4']
  rw [hget] at hl
  replace hl:RunsTo Tryz.prog (Instr.lookup 94 (.map (some u2.heap.size)) (.int .u8 how) false) w4 .nilFunc w4:=hl
  refine ⟨_,_,hl,Eq.mpr (show _=(∃ x,w4.cell? ⟨gc,0,none⟩=some (.pointer x)/\CallsV Tryz.prog 47 #[.pointer x,.slice none 0 0,.slice none 0 0,.bool false] w4 fun v w'=>∃ x,v=.bool x/\seekPost Ω u g s id none (.bool x) w') by kernel_rfl) ?_⟩
  refine ⟨_,c1.cell0 rfl,(cPut (v0:=.bool true) hb4 none none 0 0 0 0 false).mono ?_⟩
  rintro _ w' ⟨rfl,hb',f⟩
  exact ⟨_,rfl,rfl,⟨_,_,_,_,hb',rfl⟩,(Fr.mono e04 fun _ _ h=>h.elim).trans f (fun _ _ h=>h) (fun _ _ h=>h)⟩
end
end Go.Proofs.YthfagbfllheneaaGreat
