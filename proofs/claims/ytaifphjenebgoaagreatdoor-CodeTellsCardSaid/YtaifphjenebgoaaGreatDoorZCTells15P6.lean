/- Part 6 of the texts of this claim: the engine, contracts, plain laws. -/
import Derived.Test.YtaifphjenebgoaaGreatDoorZCTells15P5
import Derived.Test.YtaifphjenebgoaaGreatDoorZCTells15P4
import Derived.Test.YtaifphjenebgoaaGreatDoorZCTells15P2
import Derived.Test.YtaifphjenebgoaaGreatDoorProg
import Derived.Test.YtaifphjenebgoaaGreatDoorZCTells15P1
set_option linter.unusedVariables false
set_option linter.unusedSimpArgs false
namespace Go.Proofs.YtaifphjenebgoaaGreatDoor
open Go Go.Sx
theorem btF:BT Tryz.prog 32 5 9:=⟨by kernel_rfl,by kernel_rfl,by kernel_rfl⟩
def sm (d:List UInt8):Nat->Nat
  | 0=>0
  | j+1=>sm d j+(d.getD j 0).toNat % 128*128 ^ j
theorem sm_cons (c:UInt8) (r:List UInt8):∀ j,sm (c::r) (j+1)=c.toNat % 128+128*sm r j
  | 0=>by simp [sm]
  | j+1=>by
    rw [sm,sm_cons c r j,sm]
    have:(c::r).getD (j+1) 0=r.getD j 0:=by simp [List.getD]
    rw [this,Nat.pow_succ,Nat.mul_add,Nat.mul_comm (128 ^ j) 128,<- Nat.mul_assoc,Nat.mul_comm _ 128,Nat.mul_assoc]
    omega
theorem sm_vt:∀ (s:Nat) (l:List UInt8),s<l.length->(∀ i,i<s->128<=(l.getD i 0).toNat)->(l.getD s 0).toNat<128->sm l (s+1)=B1.vt s l
  | _,[],h,_,_=>absurd h (Nat.not_lt_zero _)
  | 0,c::r,_,_,h=>by
    have h:c.toNat<128:=h
    rw [sm_cons]
    show c.toNat % 128+128*0=c.toNat
    omega
  | s+1,c::r,h,hg,hl=>by
    have h0 : 128<=c.toNat:=hg 0 (by omega)
    have:=sm_vt s r (Nat.lt_of_succ_lt_succ h) (fun i hi=>hg (i+1) (by omega)) hl
    have hc:=c.toNat_lt
    rw [sm_cons,this]
    show c.toNat % 128+128*B1.vt s r=128*B1.vt s r+(c.toNat-128)
    omega
def Digits (l:List UInt8) (m:Nat):Prop:=m<=l.length/\m<=10/\(∀ i,i+1<m->128<=(l.getD i 0).toNat)/\((0<m/\(l.getD (m-1) 0).toNat<128)\/((∀ i,i<m->128<=(l.getD i 0).toNat)/\(m=l.length\/m=10)))
theorem digits_short {l:List UInt8} {m:Nat} (h:Digits l m) (h10:m<10) (hs:m=0\/128<=(l.getD (m-1) 0).toNat):B1.dec 0 l=.short:=by
  obtain ⟨h1,h2,h3,h4⟩:=h
  rcases h4 with ⟨h5,h6⟩|⟨h5,h6⟩
  · omega
  · have hm:m=l.length:=by omega
    have hsc:=B1.scan_unique l 0 m (by omega) h1 h5 (.inl hm)
    rw [B1.dec_eq,hsc,if_neg (by omega)]
theorem digits_full {l:List UInt8} {m:Nat} (h:Digits l m) (hs : ¬ (m<10/\(m=0\/128<=(l.getD (m-1) 0).toNat))):∃ s,m=s+1/\B1.scan 0 l=s/\s<l.length/\s<=9:=by
  obtain ⟨h1,h2,h3,h4⟩:=h
  rcases h4 with ⟨h5,h6⟩|⟨h5,h6⟩
  · refine ⟨m-1,by omega,B1.scan_unique l 0 (m-1) (by omega) (by omega) (fun i hi=>h3 i (by omega)) (.inr (.inr h6)),by omega,by omega⟩
  · have hm:m=10:=by
      rcases h6 with h|h
      · rcases Nat.lt_or_ge m 10 with h'|h'
        · exfalso
          apply hs
          refine ⟨h',?_⟩
          rcases Nat.eq_zero_or_pos m with h0|h0
          · exact .inl h0
          · exact .inr (h5 (m-1) (by omega))
        · omega
      · exact h
    refine ⟨9,hm,B1.scan_unique l 0 9 (by omega) (by omega) (fun i hi=>h5 i (by omega)) (.inr (.inl rfl)),by omega,by omega⟩
theorem digits_tell {l:List UInt8} {s:Nat} (hs:B1.scan 0 l=s) (hlt:s<l.length) (h9:s<=9) :
    (B1.enc (sm l (s+1) % 18446744073709551616)=l.take (s+1)->B1.dec 0 l=.ok (sm l (s+1) % 18446744073709551616) (s+1))/\(B1.enc (sm l (s+1) % 18446744073709551616)≠l.take (s+1)->B1.dec 0 l=.bad):=by
  have hd:=B1.dec_eq l 0
  rw [hs,if_pos hlt] at hd
  have hlim:sm l (s+1) % 18446744073709551616<18446744073709551616:=Nat.mod_lt _ (by decide)
  constructor
  · intro he
    have h2:=B1.dec_enc (sm l (s+1) % 18446744073709551616) 0 (l.drop (s+1)) (by omega) (B1.lim64 hlim) (by omega)
    rw [he,List.take_append_drop,List.length_take,Nat.min_eq_left (by omega)] at h2
    exact h2
  · intro hne
    by_cases hb:(0<0+s/\(l.getD s 0).toNat=0)\/(0+s=9/\2<=(l.getD s 0).toNat)
    · rw [hd,if_pos hb]
    · exfalso
      apply hne
      rw [if_neg hb] at hd
      obtain ⟨_,_,h3,_⟩:=B1.dec_ok l 0 _ _ (by omega) hd
      have hge:∀ i,i<s->128<=(l.getD i 0).toNat:=fun i hi=>B1.scan_ge l 0 i (by omega)
      have hlast:(l.getD s 0).toNat<128:=by
        rcases Nat.lt_or_ge (l.getD s 0).toNat 128 with h|h
        · exact h
        · exfalso
          rcases Nat.lt_or_ge s 9 with h'|h'
          · have:=B1.scan_unique l 0 (s+1) (by omega) (by omega) (fun i hi=>by
              rcases Nat.lt_or_ge i s with h''|h''
              · exact hge i h''
              · have:i=s:=by omega
                rw [this];exact h)
            have h10:s+1=l.length\/0+(s+1)=9\/(l.getD (s+1) 0).toNat<128\/(s+1<9/\s+1<l.length/\128<=(l.getD (s+1) 0).toNat):=by omega
            have hsc:s+1<=B1.scan 0 l:=by
              have key:∀ (l:List UInt8) (k e:Nat),k+e<=9->e<=l.length->(∀ i,i<e->128<=(l.getD i 0).toNat)->e<=B1.scan k l:=by
                intro l
                induction l with
                | nil=>intro k e _ he _;simp at he;omega
                | cons c r ih =>
                  intro k e hk he hg
                  cases e with
                  | zero=>omega
                  | succ e =>
                    have h0 : 128<=c.toNat:=hg 0 (by omega)
                    rw [B1.scan,if_pos ⟨by omega,h0⟩]
                    have:=ih (k+1) e (by omega) (by simpa using he) (fun i hi=>hg (i+1) (by omega))
                    omega
              exact key l 0 (s+1) (by omega) (by omega) (fun i hi=>by
                rcases Nat.lt_or_ge i s with h''|h''
                · exact hge i h''
                · have:i=s:=by omega
                  rw [this];exact h)
            omega
          · apply hb;right;omega
      have hv:=sm_vt s l hlt hge hlast
      have hlt64:B1.vt s l<18446744073709551616:=by
        have:=B1.vt_lt_u64 (l:=l) (by rw [hs];exact hlt) (by rw [hs];intro h;exact hb (.inr ⟨by omega,h.2⟩))
        rwa [hs] at this
      rw [hv,Nat.mod_eq_of_lt hlt64,<- h3]
theorem sum_w {x d p:Nat} (hd:d<256):IntKind.u64.wrap (((x % 18446744073709551616:Nat):Int)+IntKind.u64.wrap (IntKind.u64.wrap (Int.tmod (d:Int) 128)*(p:Int)))=(((x+d % 128*p) % 18446744073709551616:Nat):Int):=by
  have e:∀ y:Int,IntKind.u64.wrap y=y % 18446744073709551616:=fun y=>by simp [IntKind.wrap,IntKind.signed,IntKind.bits]
  rw [mod_u,wu ((d % 128:Nat):Int) (by omega) (by omega),e,e]
  have:((d % 128:Nat):Int)*(p:Int)=((d % 128*p:Nat):Int):=by simp
  rw [this]
  generalize d % 128*p=q
  omega
set_option maxRecDepth 10000 in
theorem GetUintR_spec {w:World} {A:Option Addr} {c n:Nat} {b:List UInt8} (hn:n=b.length) (h:Imm KB NoB w A b) (hl:b.length<=1000000000000) (at_:Int) :
    CallsV Tryz.prog 107 #[.slice A n c,.int .i64 at_] w fun v w'=>v=tri (B1.getU b at_)/\Ext w w':=by
  subst hn
  refine cardindexref01_GetUint.calls okay ?_
  unfold cardindexref01_GetUint.W
  unfold B1.getU
  refine brd (fun h1=>⟨by rw [if_pos (.inl h1)];rfl,.refl _ _⟩) (fun h1=>brd (fun h2=>⟨by rw [if_pos (.inr h2)];rfl,.refl _ _⟩) (fun h2=>?_))
  rw [if_neg (by omega)]
  obtain ⟨a,rfl⟩:∃ a:Nat,at_=(a:Int):=⟨at_.toNat,by omega⟩
  rw [Int.toNat_natCast]
  have hdl:(b.drop a).length=b.length-a:=List.length_drop
  have hcut:∀ j,(b.drop a).getD j 0=b.getD (a+j) 0:=fun j=>B1.getD_drop b a j 0
  refine ⟨fun x m cx u=>∃ k,m=((b.drop a).take k).length/\Digits (b.drop a) k/\OwnB u x cx ((b.drop a).take k)/\Ext w u,?_,?_⟩
  · rintro x _ cx u ⟨m,rfl,hD,ox,e⟩
    generalize b.drop a=l at *
    have hml:(l.take m).length=m:=by rw [List.length_take];have:=hD.1;omega
    have hm10:=hD.2.1
    have short:m<10->(m=0\/128<=(l.getD (m-1) 0).toNat)->(Value.tuple #[.int .u64 0,.int .i64 0,.int .i64 11]=tri ((B1.dec 0 l).at (a:Int))/\Ext w u):=by
      intro q1 q2
      rw [digits_short hD q1 q2]
      exact ⟨rfl,e⟩
    rw [hml]
    refine ⟨fun u=>¬ (m<10/\(m=0\/128<=(l.getD (m-1) 0).toNat))/\OwnB u x cx (l.take m)/\Ext w u,?_,?_⟩
    · rintro u ⟨hN,ox,e⟩
      obtain ⟨s,rfl,hs,hsl,h9⟩:=digits_full hD hN
      obtain ⟨t1,t2⟩:=digits_tell hs hsl h9
      refine ⟨fun y i u=>∃ j:Nat,j<=s+1/\i=(j:Int)/\y=((sm l j % 18446744073709551616:Nat):Int)/\OwnB u x cx (l.take (s+1))/\Ext w u,fun _ i _=>(s+1-i).toNat,⟨0,by omega,rfl,rfl,ox,e⟩,?_⟩
      rintro _ _ u ⟨j,hj,rfl,rfl,ox,e⟩
      refine brd (fun hlt=>?_) (fun hge=>?_)
      · obtain ⟨ad,hA,hc⟩:=itemBx ox.imm0 (j:=j) (by omega)
        refine ⟨ad,hA,⟨by omega,by omega⟩,fun z=>Ext u z,Fr.drew NoB u,_,fun z hz=>by rw [Int.toNat_natCast];exact hc z hz,by decide,?_⟩
        have hgt:(l.take (s+1)).getD j 0=l.getD j 0:=by simp [List.getD,List.getElem?_take,show j<s+1 by omega]
        rw [hgt]
        have ed:Ext u u.drew:=Fr.drew NoB u
        refine (power_spec u.drew j (by omega)).same ⟨_,rfl,ed,?_⟩
        rw [sum_w (l.getD j 0).toNat_lt,wi _ (by omega) (by omega)]
        exact ⟨⟨j+1,by omega,rfl,rfl,ox.ext ed,e.trans' ed⟩,by dsimp only;omega⟩
      · obtain rfl:j=s+1:=by omega
        refine ⟨fun z=>Ext u z,Fr.drew NoB u,_,(by have:=to_str_all btF ox.imm0 cx;rw [hml] at this;exact this),?_⟩
        refine (Varint_spec u.drew _ (Nat.mod_lt _ (by decide))).mono ?_
        rintro _ w2 ⟨Y,cY,rfl,oY,e2,nY⟩
        have eu2:Ext u w2:=(Fr.drew NoB u).ext e2
        refine ⟨_,_,_,rfl,eu2,fun z=>Ext w2 z,.refl _ _,_,to_str_all btF oY.imm0 cY,?_⟩
        rw [eq_str]
        refine brnb (fun hne=>⟨?_,e.trans' eu2⟩) (fun heq=>⟨?_,e.trans' eu2⟩)
        · rw [t2 (of_decide_eq_false hne)];rfl
        · rw [t1 (of_decide_eq_true heq)]
          rw [wi _ (by have:=hD.1;omega) (by have:=hD.1;omega)]
          rfl
    · refine brd (fun h10=>brd (fun h0=>short (by omega) (.inl (by omega))) (fun h0=>?_)) (fun h10=>⟨fun hh=>by omega,ox,e⟩)
      have hi1:IntKind.i64.wrap ((m:Int)-1)=((m-1:Nat):Int):=by rw [wi _ (by omega) (by omega)];omega
      rw [hi1]
      obtain ⟨ad,hA,hc⟩:=itemBx ox.imm0 (j:=m-1) (by omega)
      refine ⟨ad,hA,⟨by omega,by omega⟩,_,by rw [Int.toNat_natCast];exact hc u (.refl _ _),?_⟩
      have hgt:(l.take m).getD (m-1) 0=l.getD (m-1) 0:=by simp [List.getD,List.getElem?_take,show m-1<m by omega]
      rw [hgt]
      exact brd (fun hb=>short (by omega) (.inr (by omega))) (fun hb=>⟨fun hh=>by omega,ox,e⟩)
  · refine ⟨fun x m cx i u=>∃ j:Nat,i=((a+j:Nat):Int)/\a+j<=b.length/\j<=10/\m=((b.drop a).take j).length/\(∀ q,q<j->128<=((b.drop a).getD q 0).toNat)/\OwnB u x cx ((b.drop a).take j)/\Ext w u/\New w x,
      fun _ _ _ i _=>(b.length-i).toNat,⟨0,by simp,by omega,by omega,by simp,fun q hq=>by omega,OwnB.nil _,.refl _ _,New.none _⟩,?_⟩
    rintro x _ cx _ u ⟨j,rfl,hj,hj10,rfl,hg,ox,e,nx⟩
    have hlen:((b.drop a).take j).length=j:=by rw [List.length_take];omega
    have stop:j=(b.drop a).length\/j=10->∃ k,((b.drop a).take j).length=((b.drop a).take k).length/\Digits (b.drop a) k/\OwnB u x cx ((b.drop a).take k)/\Ext w u:=by
      intro hh
      have hD:Digits (b.drop a) j:=⟨by omega,hj10,fun i hi=>hg i (by omega),.inr ⟨hg,hh⟩⟩
      exact ⟨j,rfl,hD,ox,e⟩
    refine brd (fun hlt=>brd (fun h10=>?_) (fun h10=>stop (.inr (by clear stop;omega)))) (fun hge=>stop (.inl (by clear stop;omega)))
    clear stop
    obtain ⟨ad,hA,hc⟩:=itemBx h (j:=a+j) (by omega)
    rw [Int.toNat_natCast]
    refine ⟨ad,hA,⟨by omega,by omega⟩,_,hc u e,?_⟩
    intro g w1 f
    obtain ⟨y,cy,w2,hr,oy,g2⟩:=pushB f ox _ rfl (by omega) 32
    rw [<- hcut j,<- take_sn _ j (by omega)] at hr oy
    have e2:=g2.ext e nx
    have n2:=g2.new e nx
    have hv:=hc w2 e2
    rw [<- hcut j] at hv
    clear hc
    obtain ⟨q,hq⟩:∃ q,q=(b.drop a).getD j 0:=⟨_,rfl⟩
    rw [<- hq] at hv
    refine ⟨_,_,_,_,hr,ad,hA,⟨by omega,by omega⟩,_,hv,?_⟩
    by_cases hb:(q.toNat:Int)<128
    · rw [decide_eq_true hb,cond_true]
      have hb':((b.drop a).getD j 0).toNat<128:=by rw [<- hq];omega
      have hD:Digits (b.drop a) (j+1):=⟨by omega,by omega,fun i hi=>hg i (by omega),.inl ⟨by omega,by rw [Nat.add_sub_cancel];exact hb'⟩⟩
      exact ⟨j+1,rfl,hD,oy,e2⟩
    · rw [decide_eq_false hb,cond_false]
      rw [wi _ (by omega) (by omega)]
      refine ⟨⟨j+1,by omega,by omega,by omega,rfl,fun i hi=>?_,oy,e2,n2⟩,by dsimp only;omega⟩
      rcases Nat.lt_or_ge i j with h'|h'
      · exact hg i h'
      · have:i=j:=by omega
        rw [this,<- hq];omega
end Go.Proofs.YtaifphjenebgoaaGreatDoor
set_option linter.unusedVariables false
set_option linter.unusedSimpArgs false
namespace Go.Proofs.YtaifphjenebgoaaGreatDoor
open Go Go.Sx
theorem getU_okB {l:List UInt8} {at_:Int} (h:(B1.getU l at_).2.2=0):∃ p:Nat,(B1.getU l at_).2.1=(p:Int)/\p<=l.length/\(B1.getU l at_).1<18446744073709551616/\0<=at_/\at_<p:=by
  unfold B1.getU at h ⊢
  by_cases hc:at_<0\/(l.length:Int)<at_
  · rw [if_pos hc] at h;cases h
  rw [if_neg hc] at h ⊢
  rw [B1.dec_eq] at h ⊢
  have hbig:=B1.vt_lt_u64 (l:=l.drop at_.toNat)
  generalize B1.scan 0 (l.drop at_.toNat)=s at *
  have hm:(l.drop at_.toNat).length=l.length-at_.toNat:=by simp
  by_cases h1:s<(l.drop at_.toNat).length
  · rw [if_pos h1] at h ⊢
    split at h
    · cases h
    · rename_i h2
      rw [if_neg h2]
      refine ⟨at_.toNat+(s+1),?_,by omega,hbig h1 (fun h3=>h2 (.inr ⟨by omega,h3.2⟩)),by omega,by omega⟩
      show at_+((s+1:Nat):Int)=_
      omega
  · rw [if_neg h1] at h;cases h
def getB (l:List UInt8) (at_ most:Int):List UInt8×Int×Int :=
  let r:=B1.getU l at_
  if r.2.2≠0 then ([],0,r.2.2) else if most<0\/most<(r.1:Int) then ([],0,3) else if l.length-r.2.1.toNat<r.1 then ([],0,11)
  else ((l.drop r.2.1.toNat).take r.1,r.2.1+r.1,0)
theorem GetBlob_spec {Ω:Nat->Prop} {w:World} {A:Option Addr} {c:Nat} {l:List UInt8} (h:Imm KB Ω w A l) (hl:l.length<=140737488355328) (hlc:l.length<=c) (at_ most:Int) (hm:most<9223372036854775808) :
    CallsV Tryz.prog 70 #[.slice A l.length c,.int .i64 at_,.int .i64 most] w fun v w'=>∃ A' c',
      v=.tuple #[.slice A' (getB l at_ most).1.length c',.int .i64 (getB l at_ most).2.1,.int .i64 (getB l at_ most).2.2]/\OwnB w' A' c' (getB l at_ most).1/\Ext w w'/\New w A':=by
  refine bytes_GetBlob.calls okay ?_
  unfold bytes_GetBlob.W
  refine (GetUint_spec h hl at_).mono ?_
  rintro v w1 ⟨rfl,he⟩
  refine ⟨_,_,_,rfl,?_⟩
  have hok:=getU_okB (l:=l) (at_:=at_)
  have hgb:getB l at_ most=(let r:=B1.getU l at_;if r.2.2≠0 then ([],0,r.2.2) else if most<0\/most<(r.1:Int) then ([],0,3) else if l.length-r.2.1.toNat<r.1 then ([],0,11)
  else ((l.drop r.2.1.toNat).take r.1,r.2.1+r.1,0)):=rfl
  generalize getB l at_ most=g at *
  generalize B1.getU l at_=r at *
  obtain ⟨n,p,e⟩:=r
  dsimp only at hgb hok ⊢
  have bail:∀ x:Int,g=([],0,x)->∃ A' c',Value.tuple #[.slice none 0 0,.int .i64 0,.int .i64 x]=.tuple #[.slice A' g.1.length c',.int .i64 g.2.1,.int .i64 g.2.2]/\OwnB w1 A' c' g.1/\Ext w w1/\New w A':=by
    rintro x rfl
    exact ⟨none,0,rfl,OwnB.nil _,he,New.none _⟩
  refine brn (fun h0=>bail _ (by rw [hgb,if_pos h0])) (fun h0=>?_)
  obtain ⟨q,rfl,hq,hn,_,_⟩:=hok h0
  rw [if_neg (by omega)] at hgb
  rw [Int.toNat_natCast] at hgb ⊢
  refine ⟨⟨by omega,by omega⟩,?_⟩
  refine brd (fun h1=>bail _ (by rw [hgb,if_pos (.inl h1)])) (fun h1=>?_)
  rw [wu most (by omega) (by omega)]
  refine brd (fun h2=>bail _ (by rw [hgb,if_pos (.inr h2)])) (fun h2=>?_)
  rw [if_neg (by omega)] at hgb
  rw [wu _ (by omega) (by omega)]
  refine brd (fun h3=>bail _ (by rw [hgb,if_pos (by omega)])) (fun h3=>?_)
  rw [if_neg (by omega)] at hgb
  subst hgb
  refine ⟨⟨by omega,by omega⟩,?_⟩
  have hcut:Imm KB Ω w1 (cutAt (cutAt A c q 1) (c-q) 0 1) ((l.drop q).take n):=by
    have h1:=((h.ext KB_pos he).cut (lo:=q) (hi:=l.length) (m:=c) hlc)
    rw [List.take_length] at h1
    have h2:=h1.cut (lo:=0) (hi:=n) (m:=c-q) (by omega)
    rwa [List.drop_zero] at h2
  have hln:((l.drop q).take n).length=n:=by simp;omega
  have ho:OwnB (w1.alloc (.cells #[] 5)) (some ⟨w1.heap.size,0,none⟩) 0 []:=ownB_lit (w:=w1) (l:=[]) (by simp)
  have hcut':=hcut.ext KB_pos (Fr.alloc NoB w1 (.cells #[] 5))
  obtain ⟨A2,c2,w2,hr,ho2,hg2⟩:=appendBs ho (Src.bytes (P:=Tryz.prog) (c:=c-q-0) hcut') (by simp;omega) 32 isB
  rw [List.nil_append] at hr ho2
  have e1:(n:Int).toNat-0=((l.drop q).take n).length:=by rw [hln];omega
  rw [e1]
  refine ⟨_,_,_,_,hr,A2,c2,?_,ho2,?_,?_⟩
  · rw [wi _ (show -9223372036854775808<=(n:Int) by omega) (by omega),wi _ (by omega) (by omega)]
  · exact he.trans' (hg2.ext (Fr.alloc NoB w1 _) (New.self w1 0 none))
  · exact (hg2.new (Fr.alloc NoB w1 _) (New.self w1 0 none)).ext he
end Go.Proofs.YtaifphjenebgoaaGreatDoor
set_option linter.unusedVariables false
set_option linter.unusedSimpArgs false
namespace Go.Proofs.YtaifphjenebgoaaGreatDoor
open Go Go.Sx
theorem BlobR_spec {w:World} {A B:Option Addr} {c d n m:Nat} {l b:List UInt8} (hn:n=l.length) (hm:m=b.length) (h:Imm KB NoB w A l) (hB:Imm KB NoB w B b) (hl:l.length+b.length<=1000000000000) :
    CallsV Tryz.prog 50 #[.slice A n c,.slice B m d] w fun r w'=>MadeB w (l++encB b) r w':=by
  subst hm
  refine cardindexref01_Blob.calls okay ?_
  unfold cardindexref01_Blob.W
  rw [wu _ (by omega) (by omega)]
  refine (UintR_spec hn h b.length (by omega) (by omega)).mono ?_
  rintro _ w1 ⟨X,cX,rfl,oX,e1,nX⟩
  refine ⟨_,_,_,rfl,?_⟩
  have:=B1.enc_le_ten (m:=b.length) (by omega)
  refine (behind_spec rfl rfl oX.imm0 (hB.ext KB_pos e1) (by rw [List.length_append];omega)).mono ?_
  rintro _ w2 ⟨Y,cY,rfl,oY,e2,nY⟩
  refine ⟨_,_,_,rfl,Y,cY,?_,?_,e1.trans' e2,nY.ext e1⟩
  · simp [encB]
  · unfold encB;rw [<- List.append_assoc];exact oY
theorem GetBlobR_spec {w:World} {A:Option Addr} {c n:Nat} {l:List UInt8} (hn:n=l.length) (h:Imm KB NoB w A l) (hl:l.length<=1000000000000) (hlc:l.length<=c) (at_ most:Int) (hm:most<9223372036854775808) :
    CallsV Tryz.prog 108 #[.slice A n c,.int .i64 at_,.int .i64 most] w fun v w'=>∃ A' c',
      v=.tuple #[.slice A' (getB l at_ most).1.length c',.int .i64 (getB l at_ most).2.1,.int .i64 (getB l at_ most).2.2]/\OwnB w' A' c' (getB l at_ most).1/\Ext w w'/\New w A':=by
  subst hn
  refine cardindexref01_GetBlob.calls okay ?_
  unfold cardindexref01_GetBlob.W
  refine (GetUintR_spec rfl h hl at_).mono ?_
  rintro v w1 ⟨rfl,he⟩
  refine ⟨_,_,_,rfl,?_⟩
  have hok:=getU_okB (l:=l) (at_:=at_)
  have hgb:getB l at_ most=(let r:=B1.getU l at_;if r.2.2≠0 then ([],0,r.2.2) else if most<0\/most<(r.1:Int) then ([],0,3) else if l.length-r.2.1.toNat<r.1 then ([],0,11)
  else ((l.drop r.2.1.toNat).take r.1,r.2.1+r.1,0)):=rfl
  generalize getB l at_ most=g at *
  generalize B1.getU l at_=r at *
  obtain ⟨n,p,e⟩:=r
  dsimp only at hgb hok ⊢
  have bail:∀ x:Int,g=([],0,x)->∃ A' c',Value.tuple #[.slice none 0 0,.int .i64 0,.int .i64 x]=.tuple #[.slice A' g.1.length c',.int .i64 g.2.1,.int .i64 g.2.2]/\OwnB w1 A' c' g.1/\Ext w w1/\New w A':=by
    rintro x rfl
    exact ⟨none,0,rfl,OwnB.nil _,he,New.none _⟩
  refine brn (fun h0=>bail _ (by rw [hgb,if_pos h0])) (fun h0=>?_)
  obtain ⟨q,rfl,hq,hn,_,_⟩:=hok h0
  rw [if_neg (by omega)] at hgb
  rw [Int.toNat_natCast] at hgb ⊢
  refine brd (fun h1=>bail _ (by rw [hgb,if_pos (.inl h1)])) (fun h1=>?_)
  rw [wu most (by omega) (by omega)]
  refine brd (fun h2=>bail _ (by rw [hgb,if_pos (.inr h2)])) (fun h2=>?_)
  rw [if_neg (by omega)] at hgb
  rw [wu _ (by omega) (by omega)]
  refine brd (fun h3=>bail _ (by rw [hgb,if_pos (by omega)])) (fun h3=>?_)
  have e1:IntKind.i64.wrap (n:Int)=(n:Int):=wi _ (by omega) (by omega)
  rw [e1,wi _ (by omega) (by omega),wi _ (by omega) (by omega)]
  refine brd (fun h4=>bail _ (by rw [hgb,if_pos (by omega)])) (fun h4=>?_)
  rw [if_neg (by omega)] at hgb
  subst hgb
  refine ⟨⟨by omega,by omega⟩,⟨by omega,by omega⟩,?_⟩
  have e2:((q:Int)+(n:Int)).toNat=q+n:=by omega
  rw [e2]
  have hcut:=((h.ext KB_pos he).cut (lo:=q) (hi:=q+n) (m:=c) (by omega))
  have hln:((l.drop q).take n).length=n:=by simp;omega
  have e3:(l.take (q+n)).drop q=(l.drop q).take n:=by rw [List.drop_take];congr 1;omega
  rw [e3] at hcut
  refine (behind_spec (a:=[]) rfl (by rw [hln];omega) (Imm.nil _ NoB _ _) hcut (by rw [hln];simp;omega)).mono ?_
  rintro _ w2 ⟨Y,cY,rfl,oY,e2,nY⟩
  rw [List.nil_append] at oY ⊢
  exact ⟨_,_,_,rfl,Y,cY,rfl,oY,he.trans' e2,nY.ext he⟩
end Go.Proofs.YtaifphjenebgoaaGreatDoor
set_option linter.unusedVariables false
set_option maxRecDepth 100000
namespace Go.Proofs.YtaifphjenebgoaaGreatDoor
open Go Go.Sx Value IntKind World Addr Builtin
noncomputable def cardindexref15_truth.W:Bool->World->(Value->World->Prop)->Prop:=fun b w K=>bif b then K (int i64 1) w else K (int i64 0) w
theorem cardindexref15_truth.calls (ok:Okay Tryz.prog) {b w K} (h:cardindexref15_truth.W b w K):CallsV Tryz.prog 52 #[.bool b] w K :=
  fnW_calls ok Tryz.func52 (an:=(.named .auto)) (args:=[.bool b]) (Eq.mp (by kernel_rfl) h)
noncomputable def cardindexref15_puts.W:Option Addr->Nat->Nat->Option Addr->Nat->Nat->World->(Value->World->Prop)->Prop:=fun b_A b_n b_c l_A l_n l_c w K=>∃ (I:Option Addr->Nat->Nat
 -> Int->World->Prop) (μ:Option Addr->Nat->Nat->Int->World->Nat),I b_A b_n b_c 0 w/\∀ x x_1 x_2 x_3 w,I x x_1 x_2 x_3 w->bif decide (x_3<(l_n:Int)) then ∃ ad,l_A=some
 ad/\(0<=x_3/\x_3<(l_n:Int))/\∃ x_4,cell? w (add ad (Int.toNat x_3*1))=some (int i64 x_4)/\CallsV Tryz.prog 101 #[slice x x_1 x_2,int u64 (wrap u64 x_4)] w fun v w'=>∃ x_5 x_6
 x_7,v=slice x_5 x_6 x_7/\I x_5 x_6 x_7 (wrap i64 (x_3+1)) w'/\μ x_5 x_6 x_7 (wrap i64 (x_3+1)) w'<μ x x_1 x_2 x_3 w else K (slice x x_1 x_2) w
theorem cardindexref15_puts.calls (ok:Okay Tryz.prog) {b_A b_n b_c l_A l_n l_c w K} (h:cardindexref15_puts.W b_A b_n b_c l_A l_n l_c w K):CallsV Tryz.prog 49 #[.slice b_A b_n b_c,.slice l_A l_n l_c] w K :=
  fnW_calls ok Tryz.func49 (an:=(.named (.seq .auto (.seq (.seq .auto (.block (.loop [(0,.one .slc),(5,.one (.int .i64))] .auto))) .auto)))) (args:=[.slice b_A b_n b_c,.slice l_A l_n l_c]) (Eq.mp (by kernel_rfl) h)
noncomputable def cardindexref15_Bytes.W:Int->Int->Int->Option Addr->Nat->Nat->Option Addr->Nat->Nat->Option Addr->Nat->Nat->Option Addr->Nat->Nat->Option Addr->Nat->Nat->Option
 Addr->Nat->Nat->World->(Value->World->Prop)->Prop:=fun p0 p1 p2 p3_A p3_n p3_c p4_A p4_n p4_c p5_A p5_n p5_c p6_A p6_n p6_c p7_A p7_n p7_c p8_A p8_n p8_c w K=>∀ g w',Fresh w g w' [int i64
 p0,int i64 p1,int i64 p2,slice p3_A p3_n p3_c,slice p4_A p4_n p4_c,slice p5_A p5_n p5_c,slice p6_A p6_n p6_c,slice p7_A p7_n p7_c,slice p8_A p8_n p8_c] 29->∃ x,cell? w' (add (mk g 0
 none) 0)=some (int i64 x)/\∃ x_1,cell? w' (add (mk g 0 none) 1)=some (int i64 x_1)/\∃ x_2,cell? w' (add (mk g 0 none) 2)=some (int i64 x_2)/\∃ x_3
 x_4 x_5,cell? w' (add (mk g 0 none) 3)=some (slice x_3 x_4 x_5)/\∃ x_6 x_7 x_8,cell? w' (add (mk g 0 none) 4)=some (slice x_6 x_7 x_8)/\∃ x_9 x_10 x_11,cell? w'
 (add (mk g 0 none) 5)=some (slice x_9 x_10 x_11)/\∃ x_12 x_13 x_14,cell? w' (add (mk g 0 none) 6)=some (slice x_12 x_13 x_14)/\∃ x_15 x_16 x_17,cell? w' (add (mk g 0
 none) 7)=some (slice x_15 x_16 x_17)/\∃ x_18 x_19 x_20,cell? w' (add (mk g 0 none) 8)=some (slice x_18 x_19 x_20)/\CallsV Tryz.prog 20 #[agg #[int i64 x,int i64 x_1,
 int i64 x_2,slice x_3 x_4 x_5,slice x_6 x_7 x_8,slice x_9 x_10 x_11,slice x_12 x_13 x_14,slice x_15 x_16 x_17,slice x_18 x_19 x_20]] w' fun v w'=>∃ x,v=int i64 x/\bif !decide (x =
 0) then K (tuple #[slice none 0 0,int i64 140]) w' else ∃ x,cell? w' (add (mk g 0 none) 0)=some (int i64 x)/\∃ x_21,cell? w' (add (mk g 0 none) 1)=some (int
 i64 x_21)/\∃ x_22,cell? w' (add (mk g 0 none) 2)=some (int i64 x_22)/\∃ x_23 x_24 x_25,cell? w' (add (mk g 0 none) 3)=some (slice x_23 x_24 x_25)/\∀ g_1 w'_1,Fresh
 w' g_1 w'_1 [int i64 x,int i64 x_21,int i64 x_22,int i64 (x_24:Int)] 3->CallsV Tryz.prog 49 #[slice none 0 0,slice (some (mk g_1 0 none)) 4 4] w'_1 fun v w'=>∃ x x_26
 x_27,v=slice x x_26 x_27/\∃ (I:Option Addr->Nat->Nat->Int->World->Prop) (μ:Option Addr->Nat->Nat->Int->World->Nat),I x x_26 x_27 0 w'/\∀ x x_28 x_29 x_30 w,I x x_28 x_29 x_30 w->∃
 x_31 x_32 x_33,cell? w (add (mk g 0 none) 3)=some (slice x_31 x_32 x_33)/\bif decide (x_30<(x_32:Int)) then ∃ x_34 x_35 x_36,cell? w (add (mk g 0 none) 3) =
 some (slice x_34 x_35 x_36)/\∃ ad,x_34=some ad/\(0<=x_30/\x_30<(x_35:Int))/\∃ (x_37:ByteArray),cell? w (add ad (Int.toNat x_30*1))=some (string x_37)/\∃ x_38
 x_39 x_40 w',RunsTo Tryz.prog (convert 9 32 (string x_37)) w (slice x_38 x_39 x_40) w'/\CallsV Tryz.prog 50 #[slice x x_28 x_29,slice x_38 x_39 x_40] w' fun v w'=>∃ x_41 x_42 x_43,v=slice x_41
 x_42 x_43/\I x_41 x_42 x_43 (wrap i64 (x_30+1)) w'/\μ x_41 x_42 x_43 (wrap i64 (x_30+1)) w'<μ x x_28 x_29 x_30 w else ∃ x_34 x_35 x_36,cell? w (add (mk g 0 none) 4)=some (slice
 x_34 x_35 x_36)/\∀ g_2 w',Fresh w g_2 w' [int i64 (x_35:Int)] 3->CallsV Tryz.prog 49 #[slice x x_28 x_29,slice (some (mk g_2 0 none)) 1 1] w' fun v w'=>∃ x x_37 x_38,v=slice x
 x_37 x_38/\∃ (I:Option Addr->Nat->Nat->Int->World->Prop) (μ:Option Addr->Nat->Nat->Int->World->Nat),I x x_37 x_38 0 w'/\∀ x x_39 x_40 x_41 w,I x x_39 x_40 x_41 w->∃ x_42 x_43 x_44,
 cell? w (add (mk g 0 none) 4)=some (slice x_42 x_43 x_44)/\bif decide (x_41<(x_43:Int)) then ∃ x_45 x_46 x_47,cell? w (add (mk g 0 none) 4)=some (slice
 x_45 x_46 x_47)/\∃ ad,x_45=some ad/\(0<=x_41/\x_41<(x_46:Int))/\∃ x_48,cell? w (add (add ad (Int.toNat x_41*3)) 0)=some (int u8 x_48)/\∃ x_49,cell? w (add (add ad
 (Int.toNat x_41*3)) 1)=some (int i64 x_49)/\∃ (x_50:ByteArray),cell? w (add (add ad (Int.toNat x_41*3)) 2)=some (string x_50)/\∀ g w',Fresh w g w' [int u8 x_48,int i64
 x_49,string x_50] 54->CallsV Tryz.prog 51 #[slice (some (mk g 0 none)) 1 1] w' fun v w'=>∃ x_51 x_52 x_53 x_54,v=tuple #[slice x_51 x_52 x_53,int i64 x_54]/\CallsV Tryz.prog 50
 #[slice x x_39 x_40,slice x_51 x_52 x_53] w' fun v w'=>∃ x_55 x_56 x_57,v=slice x_55 x_56 x_57/\bif decide (1048576<(x_56:Int)) then K (tuple #[slice none 0 0,int i64 3])
 w' else I x_55 x_56 x_57 (wrap i64 (x_41+1)) w'/\μ x_55 x_56 x_57 (wrap i64 (x_41+1)) w'<μ x x_39 x_40 x_41 w else ∃ x_45 x_46 x_47,cell? w (add (mk g 0 none) 5)=some (slice
 x_45 x_46 x_47)/\∀ g_3 w',Fresh w g_3 w' [int i64 (x_46:Int)] 3->CallsV Tryz.prog 49 #[slice x x_39 x_40,slice (some (mk g_3 0 none)) 1 1] w' fun v w'=>∃ x x_48 x_49,v=slice x
 x_48 x_49/\∃ (I:Option Addr->Nat->Nat->Int->World->Prop) (μ:Option Addr->Nat->Nat->Int->World->Nat),I x x_48 x_49 0 w'/\∀ x x_50 x_51 x_52 w,I x x_50 x_51 x_52 w->∃ x_53 x_54 x_55,
 cell? w (add (mk g 0 none) 5)=some (slice x_53 x_54 x_55)/\bif decide (x_52<(x_54:Int)) then ∃ x_56 x_57 x_58,cell? w (add (mk g 0 none) 5)=some (slice
 x_56 x_57 x_58)/\∃ ad,x_56=some ad/\(0<=x_52/\x_52<(x_57:Int))/\∃ (x_59:ByteArray),cell? w (add (add ad (Int.toNat x_52*3)) 0)=some (string x_59)/\∃ x_60 x_61 x_62 w',
 RunsTo Tryz.prog (convert 9 32 (string x_59)) w (slice x_60 x_61 x_62) w'/\CallsV Tryz.prog 50 #[slice x x_50 x_51,slice x_60 x_61 x_62] w' fun v w'=>∃ x_63 x_64 x_65,v=slice x_63 x_64 x_65/\∃
 (S:World->Prop),S (drew w')/\∃ x_66 x_67 x_68,(∀ u,S u->cell? u (add (mk g 0 none) 5)=some (slice x_66 x_67 x_68))/\∃ ad,x_66=some ad/\(0<=x_52/\x_52<(x_67 :
 Int))/\∃ x_69,(∀ u,S u->cell? u (add (add ad (Int.toNat x_52*3)) 1)=some (bool x_69))/\∃ x_70 x_71 x_72,(∀ u,S u->cell? u (add (mk g 0 none) 5)=some (slice x_70 x_71
 x_72))/\∃ ad,x_70=some ad/\(0<=x_52/\x_52<(x_71:Int))/\∃ x_73,(∀ u,S u->cell? u (add (add ad (Int.toNat x_52*3)) 2)=some (bool x_73))/\CallsV Tryz.prog 52 #[bool x_69]
 (drew w') fun v w'=>∃ x_74,v=int i64 x_74/\S w'/\CallsV Tryz.prog 52 #[bool x_73] w' fun v w'=>∃ x_75,v=int i64 x_75/\S w'/\∀ g w'_2,Fresh w' g w'_2 [int i64 x_74,int i64 x_75] 3->S
 w'_2/\CallsV Tryz.prog 49 #[slice x_63 x_64 x_65,slice (some (mk g 0 none)) 2 2] w'_2 fun v w'=>∃ x_76 x_77 x_78,v=slice x_76 x_77 x_78/\S w'/\I x_76 x_77 x_78 (wrap i64 (x_52 +
 1)) w'/\μ x_76 x_77 x_78 (wrap i64 (x_52+1)) w'<μ x x_50 x_51 x_52 w else ∃ x_56 x_57 x_58,cell? w (add (mk g 0 none) 6)=some (slice x_56 x_57 x_58)/\∀ g_4 w',Fresh w g_4 w'
 [int i64 (x_57:Int)] 3->CallsV Tryz.prog 49 #[slice x x_50 x_51,slice (some (mk g_4 0 none)) 1 1] w' fun v w'=>∃ x x_59 x_60,v=slice x x_59 x_60/\∃ (I:Option Addr->Nat->Nat
 -> Int->World->Prop) (μ:Option Addr->Nat->Nat->Int->World->Nat),I x x_59 x_60 0 w'/\∀ x x_61 x_62 x_63 w,I x x_61 x_62 x_63 w->∃ x_64 x_65 x_66,cell? w (add (mk g 0 none) 6) =
 some (slice x_64 x_65 x_66)/\bif decide (x_63<(x_65:Int)) then ∃ x_67 x_68 x_69,cell? w (add (mk g 0 none) 6)=some (slice x_67 x_68 x_69)/\∃ ad,x_67 =
 some ad/\(0<=x_63/\x_63<(x_68:Int))/\∃ x_70 x_71 x_72,cell? w (add (add ad (Int.toNat x_63*3)) 0)=some (slice x_70 x_71 x_72)/\∃ x_73,cell? w (add (add ad (Int.toNat x_63 *
 3)) 1)=some (int i64 x_73)/\∃ x_74,cell? w (add (add ad (Int.toNat x_63*3)) 2)=some (bool x_74)/\∀ g w',Fresh w g w' [slice none 0 0,int i64 0,bool false] 59 ->
 stOK (mk g 0 none) 0 [slice x_70 x_71 x_72,int i64 x_73,bool x_74] w'/\∀ w'_2,w'_2=setAll (mk g 0 none) 0 [slice x_70 x_71 x_72,int i64 x_73,bool x_74] w'->∃ x_75 x_76 x_77,
 cell? w'_2 (add (mk g 0 none) 0)=some (slice x_75 x_76 x_77)/\∀ g_5 w',Fresh w'_2 g_5 w' [int i64 (x_76:Int)] 3->CallsV Tryz.prog 49 #[slice x x_61 x_62,slice (some (mk g_5
 0 none)) 1 1] w' fun v w'=>∃ x_78 x_79 x_80,v=slice x_78 x_79 x_80/\∃ (I_1:Option Addr->Nat->Nat->Int->World->Prop) (μ_1:Option Addr->Nat->Nat->Int->World->Nat),I_1 x_78
 x_79 x_80 0 w'/\∀ x_81 x_82 x_83 x_84 w_1,I_1 x_81 x_82 x_83 x_84 w_1->∃ x_85 x_86 x_87,cell? w_1 (add (mk g 0 none) 0)=some (slice x_85 x_86 x_87)/\bif decide (x_84 <
 (x_86:Int)) then ∃ x x_88 x_89,cell? w_1 (add (mk g 0 none) 0)=some (slice x x_88 x_89)/\∃ ad,x=some ad/\(0<=x_84/\x_84<(x_88:Int))/\∃ x,cell? w_1 (add ad
 (Int.toNat x_84*1))=some (bool x)/\CallsV Tryz.prog 52 #[bool x] w_1 fun v w'=>∃ x,v=int i64 x/\∀ g w'_3,Fresh w' g w'_3 [int i64 x] 3->CallsV Tryz.prog 49 #[slice x_81 x_82 x_83,
 slice (some (mk g 0 none)) 1 1] w'_3 fun v w'=>∃ x x_90 x_91,v=slice x x_90 x_91/\I_1 x x_90 x_91 (wrap i64 (x_84+1)) w'/\μ_1 x x_90 x_91 (wrap i64 (x_84+1)) w'<μ_1 x_81 x_82
 x_83 x_84 w_1 else ∃ (S:World->Prop),S (drew w_1)/\∃ x_88,(∀ u,S u->cell? u (add (mk g 0 none) 1)=some (int i64 x_88))/\∃ x_89,(∀ u,S u->cell? u (add (mk g 0 none) 2)
 = some (bool x_89))/\CallsV Tryz.prog 52 #[bool x_89] (drew w_1) fun v w'=>∃ x_90,v=int i64 x_90/\S w'/\∀ g w'_3,Fresh w' g w'_3 [int i64 x_88,int i64 x_90] 3->CallsV Tryz.prog 49
 #[slice x_81 x_82 x_83,slice (some (mk g 0 none)) 2 2] w'_3 fun v w'=>∃ x_91 x_92 x_93,v=slice x_91 x_92 x_93/\I x_91 x_92 x_93 (wrap i64 (x_63+1)) w'/\μ x_91 x_92 x_93 (wrap
 i64 (x_63+1)) w'<μ x x_61 x_62 x_63 w else ∃ x_67 x_68 x_69,cell? w (add (mk g 0 none) 7)=some (slice x_67 x_68 x_69)/\∀ g_5 w',Fresh w g_5 w' [int i64 (x_68:Int)] 3->CallsV
 Tryz.prog 49 #[slice x x_61 x_62,slice (some (mk g_5 0 none)) 1 1] w' fun v w'=>∃ x x_70 x_71,v=slice x x_70 x_71/\∃ (I:Option Addr->Nat->Nat->Int->World->Prop) (μ:Option
 Addr->Nat->Nat->Int->World->Nat),I x x_70 x_71 0 w'/\∀ x x_72 x_73 x_74 w,I x x_72 x_73 x_74 w->∃ x_75 x_76 x_77,cell? w (add (mk g 0 none) 7)=some (slice x_75 x_76 x_77) /\
 bif decide (x_74<(x_76:Int)) then ∃ x_78 x_79 x_80,cell? w (add (mk g 0 none) 7)=some (slice x_78 x_79 x_80)/\∃ ad,x_78=some ad/\(0<=x_74/\x_74<(x_79 :
 Int))/\∃ (x_81:ByteArray),cell? w (add (add ad (Int.toNat x_74*2)) 0)=some (string x_81)/\∃ x_82 x_83 x_84 w',RunsTo Tryz.prog (convert 9 32 (string x_81)) w (slice x_82 x_83 x_84) w'
 /\ CallsV Tryz.prog 50 #[slice x x_72 x_73,slice x_82 x_83 x_84] w' fun v w'=>∃ x_85 x_86 x_87,v=slice x_85 x_86 x_87/\∃ x_88 x_89 x_90,cell? w' (add (mk g 0 none) 7)=some (slice
 x_88 x_89 x_90)/\∃ ad,x_88=some ad/\(0<=x_74/\x_74<(x_89:Int))/\∃ x_91,cell? w' (add (add ad (Int.toNat x_74*2)) 1)=some (bool x_91)/\CallsV Tryz.prog 52 #[bool x_91] w'
 fun v w'=>∃ x_92,v=int i64 x_92/\∀ g w'_2,Fresh w' g w'_2 [int i64 x_92] 3->CallsV Tryz.prog 49 #[slice x_85 x_86 x_87,slice (some (mk g 0 none)) 1 1] w'_2 fun v w'=>∃ x_93
 x_94 x_95,v=slice x_93 x_94 x_95/\I x_93 x_94 x_95 (wrap i64 (x_74+1)) w'/\μ x_93 x_94 x_95 (wrap i64 (x_74+1)) w'<μ x x_72 x_73 x_74 w else ∃ x_78 x_79 x_80,cell? w (add (mk g 0
 none) 8)=some (slice x_78 x_79 x_80)/\∀ g_6 w',Fresh w g_6 w' [int i64 (x_79:Int)] 3->CallsV Tryz.prog 49 #[slice x x_72 x_73,slice (some (mk g_6 0 none)) 1 1] w'
 fun v w'=>∃ x x_81 x_82,v=slice x x_81 x_82/\∃ (I:Option Addr->Nat->Nat->Int->World->Prop) (μ:Option Addr->Nat->Nat->Int->World->Nat),I x x_81 x_82 0 w'/\∀ x x_83 x_84 x_85 w,I x
 x_83 x_84 x_85 w->∃ x_86 x_87 x_88,cell? w (add (mk g 0 none) 8)=some (slice x_86 x_87 x_88)/\bif decide (x_85<(x_87:Int)) then ∃ (S:World->Prop),S (drew w)/\∃
 x_89 x_90 x_91,(∀ u,S u->cell? u (add (mk g 0 none) 8)=some (slice x_89 x_90 x_91))/\∃ ad,x_89=some ad/\(0<=x_85/\x_85<(x_90:Int))/\∃ x_92,(∀ u,S u->cell? u
 (add (add ad (Int.toNat x_85*5)) 0)=some (int u8 x_92))/\∃ x_93 x_94 x_95,(∀ u,S u->cell? u (add (mk g 0 none) 8)=some (slice x_93 x_94 x_95))/\∃ ad,x_93=some
 ad/\(0<=x_85/\x_85<(x_94:Int))/\∃ x_96,(∀ u,S u->cell? u (add (add ad (Int.toNat x_85*5)) 1)=some (int i64 x_96))/\∃ x_97 x_98 x_99,(∀ u,S u->cell? u (add (mk g 0 none)
 8)=some (slice x_97 x_98 x_99))/\∃ ad,x_97=some ad/\(0<=x_85/\x_85<(x_98:Int))/\∃ x_100,(∀ u,S u->cell? u (add (add ad (Int.toNat x_85*5)) 2)=some (int i64
 x_100))/\∃ x_101 x_102 x_103,(∀ u,S u->cell? u (add (mk g 0 none) 8)=some (slice x_101 x_102 x_103))/\∃ ad,x_101=some ad/\(0<=x_85/\x_85<(x_102:Int))/\∃ x_104,(∀
 u,S u->cell? u (add (add ad (Int.toNat x_85*5)) 3)=some (int i64 x_104))/\∃ x_105 x_106 x_107,(∀ u,S u->cell? u (add (mk g 0 none) 8)=some (slice x_105 x_106 x_107)) /\
 ∃ ad,x_105=some ad/\(0<=x_85/\x_85<(x_106:Int))/\∃ x_108,(∀ u,S u->cell? u (add (add ad (Int.toNat x_85*5)) 4)=some (int i64 x_108))/\∀ g w',Fresh (drew w) g w' [int
 i64 (wrap i64 x_92),int i64 x_96,int i64 x_100,int i64 x_104,int i64 x_108] 3->S w'/\CallsV Tryz.prog 49 #[slice x x_83 x_84,slice (some (mk g 0 none)) 5 5] w' fun v w'=>∃ x_109
 x_110 x_111,v=slice x_109 x_110 x_111/\S w'/\I x_109 x_110 x_111 (wrap i64 (x_85+1)) w'/\μ x_109 x_110 x_111 (wrap i64 (x_85+1)) w'<μ x x_83 x_84 x_85 w else bif decide (1048576 <
 (x_83:Int)) then K (tuple #[slice none 0 0,int i64 3]) w else K (tuple #[slice x x_83 x_84,int i64 0]) w
theorem cardindexref15_Bytes.calls (ok:Okay Tryz.prog) {p0 p1 p2 p3_A p3_n p3_c p4_A p4_n p4_c p5_A p5_n p5_c p6_A p6_n p6_c p7_A p7_n p7_c p8_A p8_n p8_c w K} (h:cardindexref15_Bytes.W p0 p1 p2 p3_A p3_n p3_c p4_A p4_n p4_c p5_A p5_n p5_c p6_A p6_n p6_c p7_A p7_n p7_c p8_A p8_n p8_c w K):CallsV Tryz.prog 14 #[.agg #[.int .i64 p0,.int .i64 p1,.int .i64 p2,.slice p3_A p3_n p3_c,.slice p4_A p4_n p4_c,.slice p5_A p5_n p5_c,.slice p6_A p6_n p6_c,.slice p7_A p7_n p7_c,.slice p8_A p8_n p8_c]] w K :=
  fnW_calls ok Tryz.func14 (an:=(.named (.seq .auto (.seq .auto (.seq .auto (.seq .auto (.seq (.seq .auto (.block (.loop [(4,.one .slc),(5,.one (.int .i64))] .auto))) (.seq .auto (.seq (.seq .auto (.block (.loop [(4,.one .slc),(6,.one (.int .i64))] .auto))) (.seq .auto (.seq (.seq .auto (.block (.loop [(4,.one .slc),(9,.one (.int .i64))] .auto))) (.seq .auto (.seq (.seq .auto (.block (.loop [(4,.one .slc),(10,.one (.int .i64))] (.seq .auto (.seq (.block (.seq .auto (.seq .auto (.seq (.seq .auto (.block (.loop [(4,.one .slc),(12,.one (.int .i64))] .auto))) .auto)))) .auto))))) (.seq .auto (.seq (.seq .auto (.block (.loop [(4,.one .slc),(13,.one (.int .i64))] .auto))) (.seq .auto (.seq (.seq .auto (.block (.loop [(4,.one .slc),(14,.one (.int .i64))] .auto))) .auto))))))))))))))))) (args:=[.agg #[.int .i64 p0,.int .i64 p1,.int .i64 p2,.slice p3_A p3_n p3_c,.slice p4_A p4_n p4_c,.slice p5_A p5_n p5_c,.slice p6_A p6_n p6_c,.slice p7_A p7_n p7_c,.slice p8_A p8_n p8_c]]) (Eq.mp (by kernel_rfl) h)
noncomputable def cardindexref15_reader_num.W:Option Addr->World->(Value->World->Prop)->Prop:=fun r w K=>∃ a,r=some a/\∃ (S:World->Prop),S (drew w)/\∃ x x_1 x_2,(∀ u,S u ->
 cell? u (add a 0)=some (slice x x_1 x_2))/\∃ a,r=some a/\∃ x_3,(∀ u,S u->cell? u (add a 1)=some (int i64 x_3))/\CallsV Tryz.prog 107 #[slice x x_1 x_2,int i64 x_3]
 (drew w) fun v w'=>∃ x x_4 x_5,v=tuple #[int u64 x,int i64 x_4,int i64 x_5]/\∃ a,r=some a/\∃ x_6,cell? w' (add a 2)=some (bool x_6)/\bif x_6 then ∃ a,r=some a /\
 stOK (add a 2) 0 [bool true] w'/\∀ w'_1,w'_1=setAll (add a 2) 0 [bool true] w'->K (int i64 0) w'_1 else bif !decide (x_5=0) then ∃ a,r=some a/\stOK (add a 2) 0
 [bool true] w'/\∀ w'_1,w'_1=setAll (add a 2) 0 [bool true] w'->K (int i64 0) w'_1 else bif decide (1099511627776<x) then ∃ a,r=some a/\stOK (add a 2) 0 [bool
 true] w'/\∀ w'_1,w'_1=setAll (add a 2) 0 [bool true] w'->K (int i64 0) w'_1 else ∃ a,r=some a/\stOK (add a 1) 0 [int i64 x_4] w'/\∀ w'_1,w'_1=setAll (add a 1) 0 [int i64
 x_4] w'->K (int i64 (wrap i64 x)) w'_1
theorem cardindexref15_reader_num.calls (ok:Okay Tryz.prog) {r w K} (h:cardindexref15_reader_num.W r w K):CallsV Tryz.prog 53 #[.pointer r] w K :=
  fnW_calls ok Tryz.func53 (an:=(.named .auto)) (args:=[.pointer r]) (Eq.mp (by kernel_rfl) h)
noncomputable def cardindexref15_reader_text.W:Option Addr->World->(Value->World->Prop)->Prop:=fun r w K=>∃ a,r=some a/\∃ (S:World->Prop),S (drew w)/\∃ x x_1 x_2,(∀ u,S u ->
 cell? u (add a 0)=some (slice x x_1 x_2))/\∃ a,r=some a/\∃ x_3,(∀ u,S u->cell? u (add a 1)=some (int i64 x_3))/\CallsV Tryz.prog 108 #[slice x x_1 x_2,int i64 x_3,
 int i64 1048576] (drew w) fun v w'=>∃ x x_4 x_5 x_6 x_7,v=tuple #[slice x x_4 x_5,int i64 x_6,int i64 x_7]/\∃ a,r=some a/\∃ x_8,cell? w' (add a 2)=some (bool x_8)/\bif x_8
 then ∃ a,r=some a/\stOK (add a 2) 0 [bool true] w'/\∀ w'_1,w'_1=setAll (add a 2) 0 [bool true] w'->K (string (ByteArray.mk #[])) w'_1 else bif !decide (x_7=0) then
 ∃ a,r=some a/\stOK (add a 2) 0 [bool true] w'/\∀ w'_1,w'_1=setAll (add a 2) 0 [bool true] w'->K (string (ByteArray.mk #[])) w'_1 else ∃ a,r=some a/\stOK (add a 1) 0
 [int i64 x_6] w'/\∀ w'_1,w'_1=setAll (add a 1) 0 [int i64 x_6] w'->∃ (x_9:ByteArray) (w':World),RunsTo Tryz.prog (convert 32 9 (slice x x_4 x_5)) w'_1 (string x_9) w'/\K (string x_9) w'
theorem cardindexref15_reader_text.calls (ok:Okay Tryz.prog) {r w K} (h:cardindexref15_reader_text.W r w K):CallsV Tryz.prog 54 #[.pointer r] w K :=
  fnW_calls ok Tryz.func54 (an:=(.named .auto)) (args:=[.pointer r]) (Eq.mp (by kernel_rfl) h)
noncomputable def cardindexref15_Read.W:Option Addr->Nat->Nat->World->(Value->World->Prop)->Prop:=fun b_A b_n b_c w K=>∀ g w',Fresh w g w' [int i64 0,int i64 0,int i64 0,slice
 none 0 0,slice none 0 0,slice none 0 0,slice none 0 0,slice none 0 0,slice none 0 0] 29->∀ g_1 w'_1,Fresh w' g_1 w'_1 [slice b_A b_n b_c,int i64 0,
 bool false] 95->CallsV Tryz.prog 53 #[pointer (some (mk g_1 0 none))] w'_1 fun v w'=>∃ x,v=int i64 x/\∀ g_2 w'_2,Fresh w' g_2 w'_2 [int i64 0,int i64 0,int i64 0,slice
 none 0 0,slice none 0 0,slice none 0 0,slice none 0 0,slice none 0 0,slice none 0 0] 29->stOK (mk g_2 0 none) 0 [int i64 x,int i64 0,int i64 0,
 slice none 0 0,slice none 0 0,slice none 0 0,slice none 0 0,slice none 0 0,slice none 0 0] w'_2/\∀ w',w'=setAll (mk g_2 0 none) 0 [int i64 x,
 int i64 0,int i64 0,slice none 0 0,slice none 0 0,slice none 0 0,slice none 0 0,slice none 0 0,slice none 0 0] w'_2->CallsV Tryz.prog 53 #[pointer
 (some (mk g_1 0 none))] w' fun v w'=>∃ x,v=int i64 x/\stOK (add (mk g_2 0 none) 1) 0 [int i64 x] w'/\∀ w'_3,w'_3=setAll (add (mk g_2 0 none) 1) 0 [int i64 x] w' ->
 CallsV Tryz.prog 53 #[pointer (some (mk g_1 0 none))] w'_3 fun v w'=>∃ x,v=int i64 x/\stOK (add (mk g_2 0 none) 2) 0 [int i64 x] w'/\∀ w'_4,w'_4=setAll (add (mk g_2 0
 none) 2) 0 [int i64 x] w'->∃ (J:World->Prop),(∀ w,J w->∃ (J:World->Prop),(∀ w,J w->∃ (J:World->Prop),(∀ w,J w->∃ (J:World->Prop),(∀ w,J w->∃ (J:World->Prop),(∀ w,J
 w->∃ (J:World->Prop),(∀ w,J w->∃ a,some (mk g_1 0 none)=some a/\∃ x,cell? w (add a 2)=some (bool x)/\bif x then stOK (mk g 0 none) 0 [int i64 0,int
 i64 0,int i64 0,slice none 0 0,slice none 0 0,slice none 0 0,slice none 0 0,slice none 0 0,slice none 0 0] w/\∀ w',w'=setAll (mk g 0 none) 0
 [int i64 0,int i64 0,int i64 0,slice none 0 0,slice none 0 0,slice none 0 0,slice none 0 0,slice none 0 0,slice none 0 0] w->∃ x,cell? w' (add (mk g
 0 none) 0)=some (int i64 x)/\∃ x_1,cell? w' (add (mk g 0 none) 1)=some (int i64 x_1)/\∃ x_2,cell? w' (add (mk g 0 none) 2)=some (int i64 x_2)/\∃ x_3
 x_4 x_5,cell? w' (add (mk g 0 none) 3)=some (slice x_3 x_4 x_5)/\∃ x_6 x_7 x_8,cell? w' (add (mk g 0 none) 4)=some (slice x_6 x_7 x_8)/\∃ x_9 x_10 x_11,cell? w'
 (add (mk g 0 none) 5)=some (slice x_9 x_10 x_11)/\∃ x_12 x_13 x_14,cell? w' (add (mk g 0 none) 6)=some (slice x_12 x_13 x_14)/\∃ x_15 x_16 x_17,cell? w' (add (mk g 0
 none) 7)=some (slice x_15 x_16 x_17)/\∃ x_18 x_19 x_20,cell? w' (add (mk g 0 none) 8)=some (slice x_18 x_19 x_20)/\K (tuple #[agg #[int i64 x,int i64 x_1,int i64
 x_2,slice x_3 x_4 x_5,slice x_6 x_7 x_8,slice x_9 x_10 x_11,slice x_12 x_13 x_14,slice x_15 x_16 x_17,slice x_18 x_19 x_20],int i64 140]) w' else ∃ x,cell? w (add (mk g_2 0 none) 0) =
 some (int i64 x)/\∃ x_1,cell? w (add (mk g_2 0 none) 1)=some (int i64 x_1)/\∃ x_2,cell? w (add (mk g_2 0 none) 2)=some (int i64 x_2)/\∃ x_3 x_4 x_5,cell? w
 (add (mk g_2 0 none) 3)=some (slice x_3 x_4 x_5)/\∃ x_6 x_7 x_8,cell? w (add (mk g_2 0 none) 4)=some (slice x_6 x_7 x_8)/\∃ x_9 x_10 x_11,cell? w (add (mk g_2 0
 none) 5)=some (slice x_9 x_10 x_11)/\∃ x_12 x_13 x_14,cell? w (add (mk g_2 0 none) 6)=some (slice x_12 x_13 x_14)/\∃ x_15 x_16 x_17,cell? w (add (mk g_2 0
 none) 7)=some (slice x_15 x_16 x_17)/\∃ x_18 x_19 x_20,cell? w (add (mk g_2 0 none) 8)=some (slice x_18 x_19 x_20)/\CallsV Tryz.prog 14 #[agg #[int i64 x,int i64
 x_1,int i64 x_2,slice x_3 x_4 x_5,slice x_6 x_7 x_8,slice x_9 x_10 x_11,slice x_12 x_13 x_14,slice x_15 x_16 x_17,slice x_18 x_19 x_20]] w fun v w'=>∃ x x_21 x_22 x_23,v=tuple #[slice x
 x_21 x_22,int i64 x_23]/\bif !decide (x_23=0) then stOK (mk g 0 none) 0 [int i64 0,int i64 0,int i64 0,slice none 0 0,slice none 0 0,slice none 0 0,slice
 none 0 0,slice none 0 0,slice none 0 0] w'/\∀ w'_5,w'_5=setAll (mk g 0 none) 0 [int i64 0,int i64 0,int i64 0,slice none 0 0,slice none 0 0,slice
 none 0 0,slice none 0 0,slice none 0 0,slice none 0 0] w'->∃ x,cell? w'_5 (add (mk g 0 none) 0)=some (int i64 x)/\∃ x_24,cell? w'_5 (add (mk g 0
 none) 1)=some (int i64 x_24)/\∃ x_25,cell? w'_5 (add (mk g 0 none) 2)=some (int i64 x_25)/\∃ x_26 x_27 x_28,cell? w'_5 (add (mk g 0 none) 3)=some
 (slice x_26 x_27 x_28)/\∃ x_29 x_30 x_31,cell? w'_5 (add (mk g 0 none) 4)=some (slice x_29 x_30 x_31)/\∃ x_32 x_33 x_34,cell? w'_5 (add (mk g 0 none) 5)=some (slice
 x_32 x_33 x_34)/\∃ x_35 x_36 x_37,cell? w'_5 (add (mk g 0 none) 6)=some (slice x_35 x_36 x_37)/\∃ x_38 x_39 x_40,cell? w'_5 (add (mk g 0 none) 7)=some (slice x_38
 x_39 x_40)/\∃ x_41 x_42 x_43,cell? w'_5 (add (mk g 0 none) 8)=some (slice x_41 x_42 x_43)/\K (tuple #[agg #[int i64 x,int i64 x_24,int i64 x_25,slice x_26 x_27 x_28,slice x_29
 x_30 x_31,slice x_32 x_33 x_34,slice x_35 x_36 x_37,slice x_38 x_39 x_40,slice x_41 x_42 x_43],int i64 140]) w'_5 else ∃ (x_24:ByteArray) (w'_5:World),RunsTo Tryz.prog (convert 32 9 (slice x
 x_21 x_22)) w' (string x_24) w'_5/\∃ (x:ByteArray) (w':World),RunsTo Tryz.prog (convert 32 9 (slice b_A b_n b_c)) w'_5 (string x) w'/\bif !ByteArray.toList x_24 == ByteArray.toList x then stOK
 (mk g 0 none) 0 [int i64 0,int i64 0,int i64 0,slice none 0 0,slice none 0 0,slice none 0 0,slice none 0 0,slice none 0 0,slice none 0 0] w'/\∀
 w'_6,w'_6=setAll (mk g 0 none) 0 [int i64 0,int i64 0,int i64 0,slice none 0 0,slice none 0 0,slice none 0 0,slice none 0 0,slice none 0 0,slice
 none 0 0] w'->∃ x,cell? w'_6 (add (mk g 0 none) 0)=some (int i64 x)/\∃ x_25,cell? w'_6 (add (mk g 0 none) 1)=some (int i64 x_25)/\∃ x_26,cell? w'_6 (add (mk
 g 0 none) 2)=some (int i64 x_26)/\∃ x_27 x_28 x_29,cell? w'_6 (add (mk g 0 none) 3)=some (slice x_27 x_28 x_29)/\∃ x_30 x_31 x_32,cell? w'_6 (add (mk g 0
 none) 4)=some (slice x_30 x_31 x_32)/\∃ x_33 x_34 x_35,cell? w'_6 (add (mk g 0 none) 5)=some (slice x_33 x_34 x_35)/\∃ x_36 x_37 x_38,cell? w'_6 (add (mk g 0
 none) 6)=some (slice x_36 x_37 x_38)/\∃ x_39 x_40 x_41,cell? w'_6 (add (mk g 0 none) 7)=some (slice x_39 x_40 x_41)/\∃ x_42 x_43 x_44,cell? w'_6 (add (mk g 0
 none) 8)=some (slice x_42 x_43 x_44)/\K (tuple #[agg #[int i64 x,int i64 x_25,int i64 x_26,slice x_27 x_28 x_29,slice x_30 x_31 x_32,slice x_33 x_34 x_35,slice x_36 x_37 x_38,
 slice x_39 x_40 x_41,slice x_42 x_43 x_44],int i64 140]) w'_6 else ∃ x,cell? w' (add (mk g_2 0 none) 0)=some (int i64 x)/\∃ x_25,cell? w' (add (mk g_2 0 none) 1) =
 some (int i64 x_25)/\∃ x_26,cell? w' (add (mk g_2 0 none) 2)=some (int i64 x_26)/\∃ x_27 x_28 x_29,cell? w' (add (mk g_2 0 none) 3)=some (slice x_27 x_28
 x_29)/\∃ x_30 x_31 x_32,cell? w' (add (mk g_2 0 none) 4)=some (slice x_30 x_31 x_32)/\∃ x_33 x_34 x_35,cell? w' (add (mk g_2 0 none) 5)=some (slice x_33 x_34 x_35) /\
 ∃ x_36 x_37 x_38,cell? w' (add (mk g_2 0 none) 6)=some (slice x_36 x_37 x_38)/\∃ x_39 x_40 x_41,cell? w' (add (mk g_2 0 none) 7)=some (slice x_39 x_40 x_41)/\∃ x_42
 x_43 x_44,cell? w' (add (mk g_2 0 none) 8)=some (slice x_42 x_43 x_44)/\stOK (mk g 0 none) 0 [int i64 x,int i64 x_25,int i64 x_26,slice x_27 x_28 x_29,slice x_30 x_31 x_32,
 slice x_33 x_34 x_35,slice x_36 x_37 x_38,slice x_39 x_40 x_41,slice x_42 x_43 x_44] w'/\∀ w'_6,w'_6=setAll (mk g 0 none) 0 [int i64 x,int i64 x_25,int i64 x_26,slice x_27 x_28 x_29,
 slice x_30 x_31 x_32,slice x_33 x_34 x_35,slice x_36 x_37 x_38,slice x_39 x_40 x_41,slice x_42 x_43 x_44] w'->∃ x,cell? w'_6 (add (mk g 0 none) 0)=some (int i64 x)/\∃ x_45,cell?
 w'_6 (add (mk g 0 none) 1)=some (int i64 x_45)/\∃ x_46,cell? w'_6 (add (mk g 0 none) 2)=some (int i64 x_46)/\∃ x_47 x_48 x_49,cell? w'_6 (add (mk g 0 none) 3)
 = some (slice x_47 x_48 x_49)/\∃ x_50 x_51 x_52,cell? w'_6 (add (mk g 0 none) 4)=some (slice x_50 x_51 x_52)/\∃ x_53 x_54 x_55,cell? w'_6 (add (mk g 0 none) 5) =
 some (slice x_53 x_54 x_55)/\∃ x_56 x_57 x_58,cell? w'_6 (add (mk g 0 none) 6)=some (slice x_56 x_57 x_58)/\∃ x_59 x_60 x_61,cell? w'_6 (add (mk g 0 none) 7) =
 some (slice x_59 x_60 x_61)/\∃ x_62 x_63 x_64,cell? w'_6 (add (mk g 0 none) 8)=some (slice x_62 x_63 x_64)/\K (tuple #[agg #[int i64 x,int i64 x_45,int i64 x_46,slice x_47
 x_48 x_49,slice x_50 x_51 x_52,slice x_53 x_54 x_55,slice x_56 x_57 x_58,slice x_59 x_60 x_61,slice x_62 x_63 x_64],int i64 0]) w'_6)/\CallsV Tryz.prog 53 #[pointer (some (mk g_1 0
 none))] w fun v w'=>∃ x,v=int i64 x/\∃ (I:Int->World->Prop) (μ:Int->World->Nat),I x w'/\∀ x w,I x w->bif decide (0<x) then ∃ a,some (mk g_1 0 none) =
 some a/\∃ x_1,cell? w (add a 2)=some (bool x_1)/\bif !x_1 then CallsV Tryz.prog 53 #[pointer (some (mk g_1 0 none))] w fun v w'=>∃ x_2,v=int i64 x_2/\CallsV
 Tryz.prog 53 #[pointer (some (mk g_1 0 none))] w' fun v w'=>∃ x_3,v=int i64 x_3/\∀ g w'_5,Fresh w' g w'_5 [int u8 0,int i64 0,int i64 0,int i64 0,int i64 0] 46->stOK (mk g 0
 none) 0 [int u8 (wrap u8 x_2),int i64 x_3,int i64 0,int i64 0,int i64 0] w'_5/\∀ w',w'=setAll (mk g 0 none) 0 [int u8 (wrap u8 x_2),int i64 x_3,int i64 0,int i64 0,int i64 0]
 w'_5->CallsV Tryz.prog 53 #[pointer (some (mk g_1 0 none))] w' fun v w'=>∃ x_4,v=int i64 x_4/\stOK (add (mk g 0 none) 2) 0 [int i64 x_4] w'/\∀ w'_6,w'_6=setAll (add (mk
 g 0 none) 2) 0 [int i64 x_4] w'->CallsV Tryz.prog 53 #[pointer (some (mk g_1 0 none))] w'_6 fun v w'=>∃ x_5,v=int i64 x_5/\stOK (add (mk g 0 none) 3) 0 [int i64 x_5]
 w'/\∀ w'_7,w'_7=setAll (add (mk g 0 none) 3) 0 [int i64 x_5] w'->CallsV Tryz.prog 53 #[pointer (some (mk g_1 0 none))] w'_7 fun v w'=>∃ x_6,v=int i64 x_6/\stOK (add (mk
 g 0 none) 4) 0 [int i64 x_6] w'/\∀ w'_8,w'_8=setAll (add (mk g 0 none) 4) 0 [int i64 x_6] w'->bif decide (255<x_2) then ∃ a,some (mk g_1 0 none) =
 some a/\stOK (add a 2) 0 [bool true] w'_8/\∀ w',w'=setAll (add a 2) 0 [bool true] w'_8->∃ x_7 x_8 x_9,cell? w' (add (mk g_2 0 none) 8)=some (slice x_7 x_8 x_9) /\
 ∃ x_10,cell? w' (add (mk g 0 none) 0)=some (int u8 x_10)/\∃ x_11,cell? w' (add (mk g 0 none) 1)=some (int i64 x_11)/\∃ x_12,cell? w' (add (mk g 0 none) 2) =
 some (int i64 x_12)/\∃ x_13,cell? w' (add (mk g 0 none) 3)=some (int i64 x_13)/\∃ x_14,cell? w' (add (mk g 0 none) 4)=some (int i64 x_14)/\∀ g w'_9,Fresh w'
 g w'_9 [int u8 x_10,int i64 x_11,int i64 x_12,int i64 x_13,int i64 x_14] 46->∃ x_15 x_16 x_17 w',RunsTo Tryz.prog (append_ (Array.mk [27,27]) 27 #[slice x_7 x_8 x_9,slice (some (mk g 0
 none)) 1 1]) w'_9 (slice x_15 x_16 x_17) w'/\stOK (add (mk g_2 0 none) 8) 0 [slice x_15 x_16 x_17] w'/\∀ w'_10,w'_10=setAll (add (mk g_2 0 none) 8) 0 [slice x_15 x_16 x_17] w'
 -> I (wrap i64 (x-1)) w'_10/\μ (wrap i64 (x-1)) w'_10<μ x w else ∃ x_7 x_8 x_9,cell? w'_8 (add (mk g_2 0 none) 8)=some (slice x_7 x_8 x_9)/\∃ x_10,cell? w'_8 (add (mk g 0
 none) 0)=some (int u8 x_10)/\∃ x_11,cell? w'_8 (add (mk g 0 none) 1)=some (int i64 x_11)/\∃ x_12,cell? w'_8 (add (mk g 0 none) 2)=some (int i64 x_12)
 /\ ∃ x_13,cell? w'_8 (add (mk g 0 none) 3)=some (int i64 x_13)/\∃ x_14,cell? w'_8 (add (mk g 0 none) 4)=some (int i64 x_14)/\∀ g w',Fresh w'_8 g w' [int u8 x_10,int
 i64 x_11,int i64 x_12,int i64 x_13,int i64 x_14] 46->∃ x_15 x_16 x_17 w'_9,RunsTo Tryz.prog (append_ (Array.mk [27,27]) 27 #[slice x_7 x_8 x_9,slice (some (mk g 0 none)) 1 1]) w'
 (slice x_15 x_16 x_17) w'_9/\stOK (add (mk g_2 0 none) 8) 0 [slice x_15 x_16 x_17] w'_9/\∀ w',w'=setAll (add (mk g_2 0 none) 8) 0 [slice x_15 x_16 x_17] w'_9->I (wrap i64 (x-1))
 w'/\μ (wrap i64 (x-1)) w'<μ x w else J w else J w)/\CallsV Tryz.prog 53 #[pointer (some (mk g_1 0 none))] w fun v w'=>∃ x,v=int i64 x/\∃ (I:Int->World->Prop) (μ:Int ->
 World->Nat),I x w'/\∀ x w,I x w->bif decide (0<x) then ∃ a,some (mk g_1 0 none)=some a/\∃ x_1,cell? w (add a 2)=some (bool x_1)/\bif !x_1 then
 CallsV Tryz.prog 54 #[pointer (some (mk g_1 0 none))] w fun v w'=>∃ (x_2:ByteArray),v=string x_2/\∀ g w'_5,Fresh w' g w'_5 [string (ByteArray.mk #[]),bool false] 61->stOK
 (mk g 0 none) 0 [string x_2,bool false] w'_5/\∀ w',w'=setAll (mk g 0 none) 0 [string x_2,bool false] w'_5->CallsV Tryz.prog 53 #[pointer (some (mk g_1 0
 none))] w' fun v w'=>∃ x_3,v=int i64 x_3/\stOK (add (mk g 0 none) 1) 0 [bool (decide (x_3=1))] w'/\∀ w'_6,w'_6=setAll (add (mk g 0 none) 1) 0 [bool
 (decide (x_3=1))] w'->∃ x_4 x_5 x_6,cell? w'_6 (add (mk g_2 0 none) 7)=some (slice x_4 x_5 x_6)/\∃ (x_7:ByteArray),cell? w'_6 (add (mk g 0 none) 0) =
 some (string x_7)/\∃ x_8,cell? w'_6 (add (mk g 0 none) 1)=some (bool x_8)/\∀ g w',Fresh w'_6 g w' [string x_7,bool x_8] 61->∃ x_9 x_10 x_11 w'_7,RunsTo Tryz.prog (append_
 (Array.mk [26,26]) 26 #[slice x_4 x_5 x_6,slice (some (mk g 0 none)) 1 1]) w' (slice x_9 x_10 x_11) w'_7/\stOK (add (mk g_2 0 none) 7) 0 [slice x_9 x_10 x_11] w'_7/\∀ w',w' =
 setAll (add (mk g_2 0 none) 7) 0 [slice x_9 x_10 x_11] w'_7->I (wrap i64 (x-1)) w'/\μ (wrap i64 (x-1)) w'<μ x w else J w else J w)/\CallsV Tryz.prog 53 #[pointer (some (mk g_1 0
 none))] w fun v w'=>∃ x,v=int i64 x/\∃ (I:Int->World->Prop) (μ:Int->World->Nat),I x w'/\∀ x w,I x w->bif decide (0<x) then ∃ a,some (mk g_1 0 none) =
 some a/\∃ x_1,cell? w (add a 2)=some (bool x_1)/\bif !x_1 then ∀ g w',Fresh w g w' [slice none 0 0,int i64 0,bool false] 59->∃ (J:World->Prop),(∀ w_1,J w_1 ->
 CallsV Tryz.prog 53 #[pointer (some (mk g_1 0 none))] w_1 fun v w'=>∃ x_2,v=int i64 x_2/\stOK (add (mk g 0 none) 1) 0 [int i64 x_2] w'/\∀ w'_5,w'_5=setAll (add (mk g 0
 none) 1) 0 [int i64 x_2] w'->CallsV Tryz.prog 53 #[pointer (some (mk g_1 0 none))] w'_5 fun v w'=>∃ x_3,v=int i64 x_3/\stOK (add (mk g 0 none) 2) 0 [bool
 (decide (x_3=1))] w'/\∀ w'_6,w'_6=setAll (add (mk g 0 none) 2) 0 [bool (decide (x_3=1))] w'->∃ x_4 x_5 x_6,cell? w'_6 (add (mk g_2 0 none) 6)=some
 (slice x_4 x_5 x_6)/\∃ x_7 x_8 x_9,cell? w'_6 (add (mk g 0 none) 0)=some (slice x_7 x_8 x_9)/\∃ x_10,cell? w'_6 (add (mk g 0 none) 1)=some (int i64 x_10)/\∃ x_11,
 cell? w'_6 (add (mk g 0 none) 2)=some (bool x_11)/\∀ g w',Fresh w'_6 g w' [slice x_7 x_8 x_9,int i64 x_10,bool x_11] 59->∃ x_12 x_13 x_14 w'_7,RunsTo Tryz.prog (append_ (Array.mk
 [25,25]) 25 #[slice x_4 x_5 x_6,slice (some (mk g 0 none)) 1 1]) w' (slice x_12 x_13 x_14) w'_7/\stOK (add (mk g_2 0 none) 6) 0 [slice x_12 x_13 x_14] w'_7/\∀ w',w'=setAll
 (add (mk g_2 0 none) 6) 0 [slice x_12 x_13 x_14] w'_7->I (wrap i64 (x-1)) w'/\μ (wrap i64 (x-1)) w'<μ x w)/\CallsV Tryz.prog 53 #[pointer (some (mk g_1 0 none))] w' fun v
 w'=>∃ x,v=int i64 x/\∃ (I:Int->World->Prop) (μ:Int->World->Nat),I x w'/\∀ x w,I x w->bif decide (0<x) then ∃ a,some (mk g_1 0 none)=some a/\∃ x_2,
 cell? w (add a 2)=some (bool x_2)/\bif !x_2 then ∃ (S:World->Prop),S (drew w)/\∃ x_3 x_4 x_5,(∀ u,S u->cell? u (add (mk g 0 none) 0)=some (slice x_3 x_4 x_5))/\CallsV
 Tryz.prog 53 #[pointer (some (mk g_1 0 none))] (drew w) fun v w'=>∃ x_6,v=int i64 x_6/\S w'/\∀ g_3 w'_5,Fresh w' g_3 w'_5 [bool (decide (x_6=1))] 4->S w'_5/\∃ x_7
 x_8 x_9 w',RunsTo Tryz.prog (append_ (Array.mk [57,57]) 57 #[slice x_3 x_4 x_5,slice (some (mk g_3 0 none)) 1 1]) w'_5 (slice x_7 x_8 x_9) w'/\stOK (add (mk g 0 none) 0) 0
 [slice x_7 x_8 x_9] w'/\∀ w'_6,w'_6=setAll (add (mk g 0 none) 0) 0 [slice x_7 x_8 x_9] w'->I (wrap i64 (x-1)) w'_6/\μ (wrap i64 (x-1)) w'_6<μ x w else J w else J w else J w else J w)
 /\ CallsV Tryz.prog 53 #[pointer (some (mk g_1 0 none))] w fun v w'=>∃ x,v=int i64 x/\∃ (I:Int->World->Prop) (μ:Int->World->Nat),I x w'/\∀ x w,I x w->bif decide
 (0<x) then ∃ a,some (mk g_1 0 none)=some a/\∃ x_1,cell? w (add a 2)=some (bool x_1)/\bif !x_1 then CallsV Tryz.prog 54 #[pointer (some (mk g_1 0
 none))] w fun v w'=>∃ (x_2:ByteArray),v=string x_2/\∀ g w'_5,Fresh w' g w'_5 [string (ByteArray.mk #[]),bool false,bool false] 56->stOK (mk g 0 none) 0 [string x_2,
 bool false,bool false] w'_5/\∀ w',w'=setAll (mk g 0 none) 0 [string x_2,bool false,bool false] w'_5->CallsV Tryz.prog 53 #[pointer (some (mk g_1 0
 none))] w' fun v w'=>∃ x_3,v=int i64 x_3/\stOK (add (mk g 0 none) 1) 0 [bool (decide (x_3=1))] w'/\∀ w'_6,w'_6=setAll (add (mk g 0 none) 1) 0 [bool
 (decide (x_3=1))] w'->CallsV Tryz.prog 53 #[pointer (some (mk g_1 0 none))] w'_6 fun v w'=>∃ x_4,v=int i64 x_4/\stOK (add (mk g 0 none) 2) 0 [bool
 (decide (x_4=1))] w'/\∀ w'_7,w'_7=setAll (add (mk g 0 none) 2) 0 [bool (decide (x_4=1))] w'->∃ x_5 x_6 x_7,cell? w'_7 (add (mk g_2 0 none) 5)=some
 (slice x_5 x_6 x_7)/\∃ (x_8:ByteArray),cell? w'_7 (add (mk g 0 none) 0)=some (string x_8)/\∃ x_9,cell? w'_7 (add (mk g 0 none) 1)=some (bool x_9)/\∃ x_10,cell?
 w'_7 (add (mk g 0 none) 2)=some (bool x_10)/\∀ g w',Fresh w'_7 g w' [string x_8,bool x_9,bool x_10] 56->∃ x_11 x_12 x_13 w'_8,RunsTo Tryz.prog (append_ (Array.mk [24,24]) 24
 #[slice x_5 x_6 x_7,slice (some (mk g 0 none)) 1 1]) w' (slice x_11 x_12 x_13) w'_8/\stOK (add (mk g_2 0 none) 5) 0 [slice x_11 x_12 x_13] w'_8/\∀ w',w'=setAll (add (mk g_2 0
 none) 5) 0 [slice x_11 x_12 x_13] w'_8->I (wrap i64 (x-1)) w'/\μ (wrap i64 (x-1)) w'<μ x w else J w else J w)/\CallsV Tryz.prog 53 #[pointer (some (mk g_1 0 none))] w fun
 v w'=>∃ x,v=int i64 x/\∃ (I:Int->World->Prop) (μ:Int->World->Nat),I x w'/\∀ x w,I x w->bif decide (0<x) then ∃ a,some (mk g_1 0 none)=some a/\∃
 x_1,cell? w (add a 2)=some (bool x_1)/\bif !x_1 then CallsV Tryz.prog 54 #[pointer (some (mk g_1 0 none))] w fun v w'=>∃ (x_2:ByteArray),v=string x_2/\∃ x_3 x_4 x_5
 w'_5,RunsTo Tryz.prog (convert 9 32 (string x_2)) w' (slice x_3 x_4 x_5) w'_5/\CallsV Tryz.prog 55 #[slice x_3 x_4 x_5] w'_5 fun v w'=>∃ x_6 x_7 x_8 x_9,v=tuple #[slice x_6 x_7 x_8,int i64 x_9]
 /\ bif !decide (x_9=0) then ∃ a,some (mk g_1 0 none)=some a/\stOK (add a 2) 0 [bool true] w'/\∀ w'_6,w'_6=setAll (add a 2) 0 [bool true] w'->I (wrap
 i64 (x-1)) w'_6/\μ (wrap i64 (x-1)) w'_6<μ x w else bif !decide ((x_7:Int)=1) then ∃ a,some (mk g_1 0 none)=some a/\stOK (add a 2) 0 [bool true] w' /\
 ∀ w'_6,w'_6=setAll (add a 2) 0 [bool true] w'->I (wrap i64 (x-1)) w'_6/\μ (wrap i64 (x-1)) w'_6<μ x w else ∃ (S:World->Prop),S (drew w')/\∃ x_10 x_11 x_12,(∀ u,S u->cell? u (add
 (mk g_2 0 none) 4)=some (slice x_10 x_11 x_12))/\∃ ad,x_6=some ad/\((0: Int)<=0/\0<(x_7:Int))/\∃ x_13,(∀ u,S u->cell? u (add (add ad (Int.toNat (0: Int)*3)) 0) =
 some (int u8 x_13))/\∃ x_14,(∀ u,S u->cell? u (add (add ad (Int.toNat (0: Int)*3)) 1)=some (int i64 x_14))/\∃ (x_15:ByteArray),(∀ u,S u->cell? u (add (add ad (Int.toNat (0:
 Int)*3)) 2)=some (string x_15))/\∀ g w'_6,Fresh (drew w') g w'_6 [int u8 x_13,int i64 x_14,string x_15] 54->S w'_6/\∃ x_16 x_17 x_18 w',RunsTo Tryz.prog (append_ (Array.mk [23,23])
 23 #[slice x_10 x_11 x_12,slice (some (mk g 0 none)) 1 1]) w'_6 (slice x_16 x_17 x_18) w'/\stOK (add (mk g_2 0 none) 4) 0 [slice x_16 x_17 x_18] w'/\∀ w'_7,w'_7=setAll (add
 (mk g_2 0 none) 4) 0 [slice x_16 x_17 x_18] w'->I (wrap i64 (x-1)) w'_7/\μ (wrap i64 (x-1)) w'_7<μ x w else J w else J w)/\CallsV Tryz.prog 53 #[pointer (some (mk g_1 0
 none))] w'_4 fun v w'=>∃ x,v=int i64 x/\∃ (I:Int->World->Prop) (μ:Int->World->Nat),I x w'/\∀ x w,I x w->bif decide (0<x) then ∃ a,some (mk g_1 0
 none)=some a/\∃ x_1,cell? w (add a 2)=some (bool x_1)/\bif !x_1 then ∃ (S:World->Prop),S (drew w)/\∃ x_2 x_3 x_4,(∀ u,S u->cell? u (add (mk g_2 0 none) 3) =
 some (slice x_2 x_3 x_4))/\CallsV Tryz.prog 54 #[pointer (some (mk g_1 0 none))] (drew w) fun v w'=>∃ (x_5:ByteArray),v=string x_5/\S w'/\∀ g w'_5,Fresh w' g w'_5
 [string x_5] 9->S w'_5/\∃ x_6 x_7 x_8 w',RunsTo Tryz.prog (append_ (Array.mk [22,22]) 22 #[slice x_2 x_3 x_4,slice (some (mk g 0 none)) 1 1]) w'_5 (slice x_6 x_7 x_8) w'/\stOK (add
 (mk g_2 0 none) 3) 0 [slice x_6 x_7 x_8] w'/\∀ w'_6,w'_6=setAll (add (mk g_2 0 none) 3) 0 [slice x_6 x_7 x_8] w'->I (wrap i64 (x-1)) w'_6/\μ (wrap i64 (x-1)) w'_6<μ x w else J
 w else J w
theorem cardindexref15_Read.calls (ok:Okay Tryz.prog) {b_A b_n b_c w K} (h:cardindexref15_Read.W b_A b_n b_c w K):CallsV Tryz.prog 15 #[.slice b_A b_n b_c] w K :=
  fnW_calls ok Tryz.func15 (an:=(.named (.seq .auto (.seq .auto (.seq .auto (.seq .auto (.seq .auto (.join [] (.seq .auto (.block (.loop [(6,.one (.int .i64))] .auto))) (.join [] (.seq .auto (.block (.loop [(7,.one (.int .i64))] .auto))) (.join [] (.seq .auto (.block (.loop [(10,.one (.int .i64))] .auto))) (.join [] (.seq .auto (.block (.loop [(12,.one (.int .i64))] (.seq .auto (.seq (.block (.seq .auto (.join [] (.seq .auto (.block (.loop [(14,.one (.int .i64))] .auto))) .auto))) .auto))))) (.join [] (.seq .auto (.block (.loop [(15,.one (.int .i64))] .auto))) (.join [] (.seq .auto (.block (.loop [(17,.one (.int .i64))] .auto))) .auto))))))))))))) (args:=[.slice b_A b_n b_c]) (Eq.mp (by kernel_rfl) h)
end Go.Proofs.YtaifphjenebgoaaGreatDoor
set_option linter.unusedVariables false
set_option linter.unusedSimpArgs false
namespace Go.Proofs.YtaifphjenebgoaaGreatDoor
open Go Go.Sx R1 K15
theorem constE_eq {v:V} (hr:right v=true):constE v=B1.enc 1++(B1.enc (sort v)++body v):=by
  have h0:rightRow [v]=0:=by simp [rightRow,hr]
  have hp:putL [v]=B1.enc 1++(B1.enc (sort v)++body v):=by simp [putL]
  have hs:=right_size hr
  have h1:=B1.enc_le_ten (m:=1) (by omega)
  have h2:=B1.enc_le_ten (m:=sort v) (sort_lt v hs)
  have h3:=body_length v
  unfold constE putR
  rw [if_neg (by rw [h0];decide),if_neg (by rw [hp];simp only [List.length_append];omega)]
  exact hp
theorem bytesR_ok {p:Prog} (h:(bytesR constE p).2=0):checkP p=true/\(bytesR constE p).1=bytesP constE p:=by
  unfold bytesR at h ⊢
  split
  · next hc=>rw [if_pos hc] at h;exact absurd h (by decide)
  · next hc =>
    rw [if_neg hc] at h
    split
    · next hb=>rw [if_pos hb] at h;exact absurd h (by decide)
    · exact ⟨by simpa using hc,rfl⟩
end Go.Proofs.YtaifphjenebgoaaGreatDoor
set_option linter.unusedVariables false
set_option linter.unusedSimpArgs false
namespace Go.Proofs.YtaifphjenebgoaaGreatDoor
open Go Go.Sx R1 K15
structure MB (w u:World) (A:Option Addr) (c:Nat) (l:List UInt8):Prop where
  own:OwnB u A c l
  ext:Ext w u
  new:New w A
theorem MB.up {w u v:World} {A:Option Addr} {c:Nat} {l:List UInt8} (h:MB w u A c l) (e:Ext u v):MB w v A c l:=⟨h.own.ext e,h.ext.trans' e,h.new⟩
theorem MB.next {w u v:World} {A B:Option Addr} {c d:Nat} {l m:List UInt8} (h:MB w u A c l) (o:OwnB v B d m) (e:Ext u v) (n:New u B):MB w v B d m:=⟨o,h.ext.trans' e,n.ext h.ext⟩
theorem truth_spec (w:World) (b:Bool):CallsV Tryz.prog 52 #[.bool b] w fun r w'=>r=.int .i64 (if b then 1 else 0)/\w'=w:=by
  refine cardindexref15_truth.calls okay ?_
  unfold cardindexref15_truth.W
  exact br (fun h=>⟨by rw [h];rfl,rfl⟩) (fun h=>⟨by rw [h];rfl,rfl⟩)
theorem okF (b:Bool):okN (if b then 1 else 0):=by unfold okN;split<;>omega
theorem RPuts_spec {w2 w:World} {A L:Option Addr} {c d:Nat} {l:List UInt8} {ns:List Int} (h:MB w2 w A c l) (hL:Imm KI NoB w L ns) (hn:∀ n∈ns,okN n) (hl:ns.length<=10) (hb:l.length<=100000000000) :
    CallsV Tryz.prog 49 #[.slice A l.length c,.slice L ns.length d] w fun r w'=>∃ A' c',r=.slice A' (l++ns.flatMap K15.eI).length c'/\MB w2 w' A' c' (l++ns.flatMap K15.eI)/\Ext w w':=by
  refine cardindexref15_puts.calls okay ?_
  unfold cardindexref15_puts.W
  refine ⟨fun B n e x u=>∃ j:Nat,j<=ns.length/\x=(j:Int)/\n=(l++(ns.take j).flatMap K15.eI).length/\MB w2 u B e (l++(ns.take j).flatMap K15.eI)/\Ext w u,fun _ _ _ x _=>((ns.length:Int)-x).toNat,⟨0,Nat.zero_le _,rfl,by simp,by simpa using h,.refl _ _⟩,?_⟩
  rintro B _ e _ u ⟨j,hj,rfl,rfl,hu,k⟩
  refine brd (fun hlt=>?_) (fun hge=>?_)
  · have hjl:j<ns.length:=by omega
    obtain ⟨ad,hA,cs,hrep,hc⟩:=(hL.ext KI_pos k).get1 hjl
    obtain rfl:cs=[.int .i64 ns[j]]:=hrep
    have hnj:=hn _ (List.getElem_mem hjl)
    unfold okN at hnj
    have ht:=takeB (f:=K15.eI) (M:=10) (N:=10) ns j hl (fun v hv=>eI_len (hn v hv))
    refine ⟨ad,hA,⟨by omega,by omega⟩,_,hc 0 _ rfl,?_⟩
    rw [wu _ (by omega) (by omega),show ns[j]=((ns[j].toNat:Nat):Int) by omega]
    refine (UintR_spec rfl hu.own.imm0 ns[j].toNat (by omega) (by rw [List.length_append];omega)).mono ?_
    rintro _ u1 ⟨B2,e2,rfl,o1,k1,n1⟩
    rw [wi ((j:Int)+1) (by omega) (by omega)]
    have hst:l++(ns.take j).flatMap K15.eI++B1.enc ns[j].toNat=l++(ns.take (j+1)).flatMap K15.eI:=by rw [flatS hjl,<- List.append_assoc];rfl
    refine ⟨_,_,_,rfl,⟨j+1,hjl,rfl,by rw [<- hst],by rw [<- hst];exact hu.next o1 k1 n1,k.trans' k1⟩,by dsimp only;omega⟩
  · obtain rfl:j=ns.length:=by omega
    rw [List.take_length] at hu ⊢
    exact ⟨B,e,rfl,hu,k⟩
theorem MB.puts {w2 u u1:World} {A:Option Addr} {c g:Nat} {e:TypeId} {l:List UInt8} {ns:List Int} (h:MB w2 u A c l) (f:Fresh u g u1 (ns.map (Value.int .i64)) e) (hn:∀ n∈ns,okN n) (hl:ns.length<=10) (hb:l.length<=100000000000) (d:Nat) :
    CallsV Tryz.prog 49 #[.slice A l.length c,.slice (some ⟨g,0,none⟩) ns.length d] u1 fun r w'=>∃ A' c',r=.slice A' (l++ns.flatMap K15.eI).length c'/\MB w2 w' A' c' (l++ns.flatMap K15.eI)/\Ext u w':=by
  refine (RPuts_spec (h.up f.ext) (ints_fresh f (fun h=>h) (by omega)) hn hl hb).mono ?_
  rintro r w' ⟨A',c',hr,hm,k⟩
  exact ⟨A',c',hr,hm,f.ext.trans' k⟩
theorem MB.text {w2 u:World} {A:Option Addr} {c:Nat} {l:List UInt8} (h:MB w2 u A c l) (s:ByteArray) (hs:s.size<=1048576) (hb:l.length<=100000000000) :
    ∃ B n d v,RunsTo Tryz.prog (convert 9 32 (.string s)) u (.slice B n d) v /\
      CallsV Tryz.prog 50 #[.slice A l.length c,.slice B n d] v fun r w'=>∃ A' c',r=.slice A' (l++K15.eS s).length c'/\MB w2 w' A' c' (l++K15.eS s)/\Ext u w':=by
  obtain ⟨B,d,v,hr,ho,e,hn,_⟩:=to_bytes bt u s (by simp only [maxLen];omega)
  refine ⟨B,_,d,v,hr,?_⟩
  refine (BlobR_spec rfl (by rw [sb_length]) (h.up e).own.imm0 ho.imm0 (by rw [sb_length];omega)).mono ?_
  rintro _ w' ⟨A',c',rfl,o,k,n⟩
  exact ⟨A',c',rfl,(h.up e).next o k n,e.trans' k⟩
end Go.Proofs.YtaifphjenebgoaaGreatDoor
set_option linter.unusedVariables false
set_option linter.unusedSimpArgs false
namespace Go.Proofs.YtaifphjenebgoaaGreatDoor
open Go Go.Sx R1 K15
set_option maxRecDepth 20000 in
set_option maxHeartbeats 4000000 in
theorem RBytes_spec {w:World} {p:Prog} {a:PAd} (h:PIm w p a) (gp:gProg p) :
    CallsV Tryz.prog 14 #[pagg p a] w fun r w'=>∃ A c,r=.tuple #[.slice A (bytesR constE p).1.length c,.int .i64 (bytesR constE p).2]/\OwnB w' A c (bytesR constE p).1/\Ext w w'/\New w A:=by
  refine cardindexref15_Bytes.calls okay ?_
  unfold cardindexref15_Bytes.W
  intro g w1 f
  repeat (first|refine ⟨_,Blk.cell (f.blk) (by rfl),?_⟩|refine ⟨_,_,_,Blk.cell (f.blk) (by rfl),?_⟩)
  refine (RCheck_spec (h.ext f.ext)).mono ?_
  rintro _ w2 ⟨rfl,k2⟩
  have e2:=f.ext.trans' k2
  have bp:=f.blk.ext k2
  clear f
  cases hc:checkP p with
  | false =>
    have hR:bytesR constE p=([],140):=by unfold bytesR;rw [if_pos hc]
    rw [hR]
    exact ⟨_,rfl,brn (fun _=>⟨none,0,rfl,OwnB.nil _,e2,New.none _⟩) (fun h=>absurd h (by decide))⟩
  | true =>
  have C:=checked hc
  have S:=C.few
  have FF:=C.fine (fun i hi=>(gp.code i hi).1) gp.consts
  have s1:=S.l1
  have s2:=S.l2
  have s3:=S.l3
  have s4:=S.l4
  have s5:=S.l5
  have s6:=S.l6
  refine ⟨_,rfl,brn (fun h=>absurd rfl h) (fun _=>?_)⟩
  have hh:=h.ext e2
  repeat (first|refine ⟨_,Blk.cell (bp) (by rfl),?_⟩|refine ⟨_,_,_,Blk.cell (bp) (by rfl),?_⟩)
  intro g4 w4 f4
  have ws:MB w2 w2 none 0 []:=⟨OwnB.nil _,.refl _ _,New.none _⟩
  refine (ws.puts (ns:=[p.ver,p.regs,p.binds,(p.names.length:Int)]) f4 (fun n hn=>?_) (by simp) (by simp) 4).mono ?_
  · simp only [List.mem_cons,List.not_mem_nil,or_false] at hn
    rcases hn with rfl|rfl|rfl|rfl
    · exact FF.ver
    · exact FF.regs
    · exact FF.binds
    · unfold okN;omega
  rintro _ w5 ⟨A5,c5,rfl,ws5,_⟩
  obtain ⟨l0,hl0⟩:∃ l,l=K15.eI p.ver++(K15.eI p.regs++(K15.eI p.binds++K15.eI p.names.length)):=⟨_,rfl⟩
  have hx0 : []++[p.ver,p.regs,p.binds,(p.names.length:Int)].flatMap K15.eI=l0:=by rw [hl0];simp
  rw [hx0] at ws5 ⊢
  refine ⟨_,_,_,rfl,?_⟩
  have hb0:l0.length<=40:=by
    have h1:=eI_len FF.ver
    have h2:=eI_len FF.regs
    have h3:=eI_len FF.binds
    have h4:=eI_len (n:=(p.names.length:Int)) (by unfold okN;omega)
    rw [hl0];simp only [List.length_append];omega
  clear f4 ws hx0
  refine ⟨fun A n c x u=>∃ j:Nat,j<=p.names.length/\x=(j:Int)/\n=(l0++(p.names.take j).flatMap eS).length/\MB w2 u A c (l0++(p.names.take j).flatMap eS),fun _ _ _ x _=>((p.names.length:Int)-x).toNat,⟨0,by omega,rfl,by simp,by simpa using ws5⟩,?_⟩
  rintro A6 _ c6 _ u ⟨j,hj,rfl,rfl,ws6⟩
  have t6:=takeB (f:=eS) p.names j S.l1 (fun s hs=>eS_len (S.names s hs))
  have bu:=bp.ext ws6.ext
  repeat (first|refine ⟨_,Blk.cell (bu) (by rfl),?_⟩|refine ⟨_,_,_,Blk.cell (bu) (by rfl),?_⟩)
  refine brd (fun hlt=>?_) (fun hge=>?_)
  · have hjl:j<p.names.length:=by omega
    repeat (first|refine ⟨_,Blk.cell (bu) (by rfl),?_⟩|refine ⟨_,_,_,Blk.cell (bu) (by rfl),?_⟩)
    obtain ⟨ad,hA,cs,hrep,hcell⟩:=(hh.ext ws6.ext).names.get1 hjl
    have hcs:cs=[.string p.names[j]]:=hrep
    subst hcs
    refine ⟨ad,hA,⟨by omega,by omega⟩,_,hcell 0 _ rfl,?_⟩
    obtain ⟨B,n,d,v,hr,hcall⟩:=ws6.text p.names[j] (by have:=S.names _ (List.getElem_mem hjl);omega) (by rw [List.length_append];omega)
    refine ⟨_,_,_,_,hr,hcall.mono ?_⟩
    rintro _ v2 ⟨A7,c7,rfl,ws7,_⟩
    rw [wi ((j:Int)+1) (by omega) (by omega)]
    have hst:l0++(p.names.take j).flatMap eS++eS p.names[j]=l0++(p.names.take (j+1)).flatMap eS:=by rw [flatS hjl,<- List.append_assoc]
    rw [hst] at ws7 ⊢
    exact ⟨_,_,_,rfl,⟨j+1,by omega,rfl,rfl,ws7⟩,by dsimp only;omega⟩
  obtain rfl:j=p.names.length:=by omega
  rw [List.take_length] at ws6 t6 ⊢
  obtain ⟨l1,hl1⟩:∃ l,l=l0++p.names.flatMap eS:=⟨_,rfl⟩
  rw [<- hl1] at ws6 ⊢
  have hb1:l1.length<=50000:=by rw [hl1,List.length_append];omega
  clear t6 ws5
  -- constants
  repeat (first|refine ⟨_,Blk.cell (bu) (by rfl),?_⟩|refine ⟨_,_,_,Blk.cell (bu) (by rfl),?_⟩)
  intro g7 w7 f7
  refine (ws6.puts (ns:=[(p.consts.length:Int)]) f7 (fun n hn=>by simp only [List.mem_cons,List.not_mem_nil,or_false] at hn;subst hn;unfold okN;omega) (by simp) (by omega) 1).mono ?_
  rintro _ w8 ⟨A8,c8,rfl,ws8,_⟩
  obtain ⟨l2,hl2⟩:∃ l,l=l1++K15.eI p.consts.length:=⟨_,rfl⟩
  rw [flat1,<- hl2] at ws8 ⊢
  refine ⟨_,_,_,rfl,?_⟩
  have hb2:l2.length<=50010:=by
    have:=eI_len (n:=(p.consts.length:Int)) (by unfold okN;omega)
    rw [hl2,List.length_append];omega
  clear f7 ws6 bu
  have hP2:bytesP constE p=l2++(p.consts.flatMap (fun v=>eB (constE v))++(eL eCur p.curs++(eL eSrt p.sorts++(eL eTot p.tots++eL eIns p.code)))):=by
    rw [hl2,hl1,hl0];simp [bytesP,eL,List.append_assoc]
  have hcl:∀ v,(eB (constE v)).length<=1048586:=fun v=>by
    have h1:=constE_len v
    have:=eB_len (l:=constE v) (by omega)
    omega
  refine ⟨fun A n c x u=>∃ j:Nat,j<=p.consts.length/\x=(j:Int)/\n=(l2++(p.consts.take j).flatMap (fun v=>eB (constE v))).length/\MB w2 u A c (l2++(p.consts.take j).flatMap (fun v=>eB (constE v))),fun _ _ _ x _=>((p.consts.length:Int)-x).toNat,⟨0,by omega,rfl,by simp,by simpa using ws8⟩,?_⟩
  rintro A9 _ c9 _ u ⟨j,hj,rfl,rfl,ws9⟩
  have t9:=takeB (f:=fun v=>eB (constE v)) p.consts j S.l2 (fun v _=>hcl v)
  have bu:=bp.ext ws9.ext
  repeat (first|refine ⟨_,Blk.cell (bu) (by rfl),?_⟩|refine ⟨_,_,_,Blk.cell (bu) (by rfl),?_⟩)
  refine brd (fun hlt=>?_) (fun hge=>?_)
  · have hjl:j<p.consts.length:=by omega
    repeat (first|refine ⟨_,Blk.cell (bu) (by rfl),?_⟩|refine ⟨_,_,_,Blk.cell (bu) (by rfl),?_⟩)
    obtain ⟨ad,hA,cs,hrep,hcell⟩:=(hh.ext ws9.ext).consts.get1 hjl
    have hcs:cs=vc p.consts[j]:=hrep
    subst hcs
    have hgv:=gp.consts _ (List.getElem_mem hjl)
    refine ⟨ad,hA,⟨by omega,by omega⟩,_,by rw [add_add];exact hcell 0 _ rfl,_,by rw [add_add];exact hcell 1 _ rfl,_,by rw [add_add];exact hcell 2 _ rfl,?_⟩
    intro gy u3 fy
    have iy:Imm KV NoB u3 (some ⟨gy,0,none⟩) [p.consts[j]]:=fy.imm (fun h=>h) KV_pos rfl (by simp [maxLen]) (by
      intro i a h
      rcases i with _|i
      · simp at h;subst h;rfl
      · simp at h)
    refine (PutR_spec (n:=1) (c:=1) rfl iy (by simp [maxLen]) (fun v hv=>by simp only [List.mem_cons,List.not_mem_nil,or_false] at hv;subst hv;exact hgv)).mono ?_
    rintro _ u4 ⟨B,d,rfl,ho,ey,nB⟩
    have ws10:=ws9.up (fy.ext.trans' ey)
    have hl10:=constE_len p.consts[j]
    refine ⟨_,_,_,_,rfl,?_⟩
    refine (BlobR_spec rfl rfl ws10.own.imm0 ho.imm0 (by rw [List.length_append];show _+(constE p.consts[j]).length<=_;omega)).mono ?_
    rintro _ u5 ⟨A11,c11,rfl,ho11,k11,n11⟩
    have ws12:=ws10.next ho11 k11 n11
    have hst:l2++(p.consts.take j).flatMap (fun v=>eB (constE v))++encB (putR [p.consts[j]]).1=l2++(p.consts.take (j+1)).flatMap (fun v=>eB (constE v)):=by rw [flatS hjl,<- List.append_assoc];rfl
    rw [hst] at ws12 ⊢
    refine ⟨_,_,_,rfl,?_⟩
    refine brd (fun hbig=>?_) (fun _=>?_)
    · have hR:bytesR constE p=([],3):=by
        unfold bytesR
        rw [hc,if_neg (by decide),if_pos]
        have:=takeLe (f:=fun v=>eB (constE v)) p.consts (j+1)
        rw [hP2]
        simp only [List.length_append] at *
        omega
      rw [hR]
      exact ⟨none,0,rfl,OwnB.nil _,e2.trans' ws12.ext,New.none _⟩
    · rw [wi ((j:Int)+1) (by omega) (by omega)]
      exact ⟨⟨j+1,by omega,rfl,rfl,ws12⟩,by dsimp only;omega⟩
  obtain rfl:j=p.consts.length:=by omega
  rw [List.take_length] at ws9 t9 ⊢
  obtain ⟨l3,hl3⟩:∃ l,l=l2++p.consts.flatMap (fun v=>eB (constE v)):=⟨_,rfl⟩
  rw [<- hl3] at ws9 ⊢
  have hb3:l3.length<=2000000000:=by rw [hl3,List.length_append];omega
  clear t9 ws8
  -- cursors
  repeat (first|refine ⟨_,Blk.cell (bu) (by rfl),?_⟩|refine ⟨_,_,_,Blk.cell (bu) (by rfl),?_⟩)
  intro g7 w7 f7
  refine (ws9.puts (ns:=[(p.curs.length:Int)]) f7 (fun n hn=>by simp only [List.mem_cons,List.not_mem_nil,or_false] at hn;subst hn;unfold okN;omega) (by simp) (by omega) 1).mono ?_
  rintro _ w8 ⟨A8,c8,rfl,ws8,_⟩
  obtain ⟨l4,hl4⟩:∃ l,l=l3++K15.eI p.curs.length:=⟨_,rfl⟩
  rw [flat1,<- hl4] at ws8 ⊢
  refine ⟨_,_,_,rfl,?_⟩
  have hb4:l4.length<=2000000010:=by
    have:=eI_len (n:=(p.curs.length:Int)) (by unfold okN;omega)
    rw [hl4,List.length_append];omega
  clear f7 ws9 bu
  refine ⟨fun A n c x u=>∃ j:Nat,j<=p.curs.length/\x=(j:Int)/\n=(l4++(p.curs.take j).flatMap eCur).length/\MB w2 u A c (l4++(p.curs.take j).flatMap eCur),fun _ _ _ x _=>((p.curs.length:Int)-x).toNat,⟨0,by omega,rfl,by simp,by simpa using ws8⟩,?_⟩
  rintro A9 _ c9 _ u ⟨j,hj,rfl,rfl,ws9⟩
  have t9:=takeB (f:=eCur) p.curs j S.l3 (fun c hc=>eCur_len (S.curs c hc))
  have bu:=bp.ext ws9.ext
  repeat (first|refine ⟨_,Blk.cell (bu) (by rfl),?_⟩|refine ⟨_,_,_,Blk.cell (bu) (by rfl),?_⟩)
  refine brd (fun hlt=>?_) (fun hge=>?_)
  · have hjl:j<p.curs.length:=by omega
    repeat (first|refine ⟨_,Blk.cell (bu) (by rfl),?_⟩|refine ⟨_,_,_,Blk.cell (bu) (by rfl),?_⟩)
    obtain ⟨ad,hA,cs,hrep,hcell⟩:=at1 (hh.ext ws9.ext).curs hjl
    have hcs:cs=curC p.curs[j]:=hrep
    subst hcs
    have hsz:=S.curs _ (List.getElem_mem hjl)
    have hes:=eS_len hsz
    refine ⟨ad,hA,⟨by omega,by omega⟩,_,hcell u (.refl _ _) 0 _ rfl,?_⟩
    obtain ⟨B,n,d,v,hr,hcall⟩:=ws9.text p.curs[j].name (by omega) (by rw [List.length_append];omega)
    refine ⟨_,_,_,_,hr,hcall.mono ?_⟩
    rintro _ u3 ⟨A3,c3,rfl,ws3,k3⟩
    have bu3:=bu.ext k3
    refine ⟨_,_,_,rfl,fun v=>Ext u3 v,Fr.drew NoB u3,_,_,_,fun v k=>(bu3.ext k).cell rfl,ad,hA,⟨by omega,by omega⟩,_,fun v k=>hcell v (k3.trans' k) 1 _ rfl,_,_,_,fun v k=>(bu3.ext k).cell rfl,ad,hA,⟨by omega,by omega⟩,_,fun v k=>hcell v (k3.trans' k) 2 _ rfl,?_⟩
    have kd:Ext u3 u3.drew:=Fr.drew NoB u3
    refine (truth_spec _ _).mono ?_
    rintro _ _ ⟨rfl,rfl⟩
    refine ⟨_,rfl,kd,?_⟩
    refine (truth_spec _ _).mono ?_
    rintro _ _ ⟨rfl,rfl⟩
    refine ⟨_,rfl,kd,fun gy u4 fy=>⟨kd.trans' fy.ext,?_⟩⟩
    refine ((ws3.up kd).puts (ns:=[if p.curs[j].ix then 1 else 0,if p.curs[j].wr then 1 else 0]) fy (fun n hn=>?_) (by simp) (by simp only [List.length_append];omega) 2).mono ?_
    · simp only [List.mem_cons,List.not_mem_nil,or_false] at hn
      rcases hn with rfl|rfl
      · exact okF _
      · exact okF _
    rintro _ u5 ⟨A7,c7,rfl,ws7,k7⟩
    rw [wi ((j:Int)+1) (by omega) (by omega)]
    have hst:l4++(p.curs.take j).flatMap eCur++eS p.curs[j].name++[if p.curs[j].ix then 1 else 0,if p.curs[j].wr then 1 else 0].flatMap K15.eI=l4++(p.curs.take (j+1)).flatMap eCur:=by rw [flatS hjl];simp [eCur,eF,List.append_assoc]
    rw [hst] at ws7 ⊢
    exact ⟨_,_,_,rfl,kd.trans' k7,⟨j+1,by omega,rfl,rfl,ws7⟩,by dsimp only;omega⟩
  obtain rfl:j=p.curs.length:=by omega
  rw [List.take_length] at ws9 t9 ⊢
  obtain ⟨l5,hl5⟩:∃ l,l=l4++p.curs.flatMap eCur:=⟨_,rfl⟩
  rw [<- hl5] at ws9 ⊢
  have hb5:l5.length<=2000010000:=by rw [hl5,List.length_append];omega
  clear t9 ws8
  -- sorters
  repeat (first|refine ⟨_,Blk.cell (bu) (by rfl),?_⟩|refine ⟨_,_,_,Blk.cell (bu) (by rfl),?_⟩)
  intro g7 w7 f7
  refine (ws9.puts (ns:=[(p.sorts.length:Int)]) f7 (fun n hn=>by simp only [List.mem_cons,List.not_mem_nil,or_false] at hn;subst hn;unfold okN;omega) (by simp) (by omega) 1).mono ?_
  rintro _ w8 ⟨A8,c8,rfl,ws8,_⟩
  obtain ⟨l6,hl6⟩:∃ l,l=l5++K15.eI p.sorts.length:=⟨_,rfl⟩
  rw [flat1,<- hl6] at ws8 ⊢
  refine ⟨_,_,_,rfl,?_⟩
  have hb6:l6.length<=2000010010:=by
    have:=eI_len (n:=(p.sorts.length:Int)) (by unfold okN;omega)
    rw [hl6,List.length_append];omega
  clear f7 ws9 bu
  refine ⟨fun A n c x u=>∃ j:Nat,j<=p.sorts.length/\x=(j:Int)/\n=(l6++(p.sorts.take j).flatMap eSrt).length/\MB w2 u A c (l6++(p.sorts.take j).flatMap eSrt),fun _ _ _ x _=>((p.sorts.length:Int)-x).toNat,⟨0,by omega,rfl,by simp,by simpa using ws8⟩,?_⟩
  rintro A9 _ c9 _ u ⟨j,hj,rfl,rfl,ws9⟩
  have t9:=takeB (f:=eSrt) p.sorts j S.l4 (fun c hc=>eSrt_len (S.sorts c hc))
  have bu:=bp.ext ws9.ext
  repeat (first|refine ⟨_,Blk.cell (bu) (by rfl),?_⟩|refine ⟨_,_,_,Blk.cell (bu) (by rfl),?_⟩)
  refine brd (fun hlt=>?_) (fun hge=>?_)
  · have hjl:j<p.sorts.length:=by omega
    repeat (first|refine ⟨_,Blk.cell (bu) (by rfl),?_⟩|refine ⟨_,_,_,Blk.cell (bu) (by rfl),?_⟩)
    obtain ⟨ad,hA,cs,hrep,hcell⟩:=at1 (hh.ext ws9.ext).sorts hjl
    obtain ⟨D,dd,hcs,hdd,hD⟩:=id hrep
    subst hcs
    have hsz:=S.sorts _ (List.getElem_mem hjl)
    have hok1:okN (p.sorts[j].desc.length:Int):=by unfold okN;omega
    have hok2:okN p.sorts[j].cols:=by unfold okN;omega
    have hi1:=eI_len hok1
    have hi2:=eI_len hok2
    refine ⟨ad,hA,⟨by omega,by omega⟩,_,_,_,hcell u (.refl _ _) 0 _ rfl,_,hcell u (.refl _ _) 1 _ rfl,_,hcell u (.refl _ _) 2 _ rfl,?_⟩
    intro gx u1 fx
    refine ⟨fx.blk.stOK [Value.slice D p.sorts[j].desc.length dd,.int .i64 p.sorts[j].cols,.bool p.sorts[j].dist] 0 (by simp),fun u2 hu2=>?_⟩
    obtain ⟨bx,qx⟩:=set0 fx.blk hu2 rfl
    have ex:Ext u u2:=fx.ext.trans qx (fun _ _ h=>h) (fun k hk e=>by have:=fx.ge;omega)
    repeat (first|refine ⟨_,Blk.cell (bx) (by rfl),?_⟩|refine ⟨_,_,_,Blk.cell (bx) (by rfl),?_⟩)
    intro gy u4 fy
    refine ((ws9.up ex).puts (ns:=[(p.sorts[j].desc.length:Int)]) fy (fun n hn=>by simp only [List.mem_cons,List.not_mem_nil,or_false] at hn;subst hn;exact hok1) (by simp) (by rw [List.length_append];omega) 1).mono ?_
    rintro _ u5 ⟨A7,c7,rfl,ws7,k7⟩
    obtain ⟨m0,hm0⟩:∃ l,l=l6++(p.sorts.take j).flatMap eSrt++K15.eI p.sorts[j].desc.length:=⟨_,rfl⟩
    rw [flat1,<- hm0] at ws7 ⊢
    have hbm:m0.length<=2000020020:=by rw [hm0];simp only [List.length_append];omega
    have bx5:=bx.ext k7
    refine ⟨_,_,_,rfl,?_⟩
    refine ⟨fun A n c x v=>∃ q:Nat,q<=p.sorts[j].desc.length/\x=(q:Int)/\n=(m0++(p.sorts[j].desc.take q).flatMap eF).length/\MB w2 v A c (m0++(p.sorts[j].desc.take q).flatMap eF)/\Ext u5 v,fun _ _ _ x _=>((p.sorts[j].desc.length:Int)-x).toNat,⟨0,by omega,rfl,by simp,by simpa using ws7,.refl _ _⟩,?_⟩
    rintro Ab _ cb _ v ⟨q,hq,rfl,rfl,wsb,kb⟩
    have hf1:=takeB (f:=eF) (M:=10) p.sorts[j].desc q hsz.1 (fun v _=>eF_len v)
    have bxv:=bx5.ext kb
    repeat (first|refine ⟨_,Blk.cell (bxv) (by rfl),?_⟩|refine ⟨_,_,_,Blk.cell (bxv) (by rfl),?_⟩)
    refine brd (fun hlt2=>?_) (fun hge2=>?_)
    · repeat (first|refine ⟨_,Blk.cell (bxv) (by rfl),?_⟩|refine ⟨_,_,_,Blk.cell (bxv) (by rfl),?_⟩)
      have hql:q<p.sorts[j].desc.length:=by omega
      obtain ⟨ad2,hA2,cs2,hrep2,hcell2⟩:=(hD.ext KBo_pos ((ex.trans' k7).trans' kb)).get1 hql
      obtain rfl:cs2=[.bool p.sorts[j].desc[q]]:=hrep2
      refine ⟨ad2,hA2,⟨by omega,by omega⟩,_,hcell2 0 _ rfl,?_⟩
      refine (truth_spec _ _).mono ?_
      rintro _ _ ⟨rfl,rfl⟩
      refine ⟨_,rfl,fun gz u7 fz=>?_⟩
      refine (wsb.puts (ns:=[if p.sorts[j].desc[q] then 1 else 0]) fz (fun n hn=>by simp only [List.mem_cons,List.not_mem_nil,or_false] at hn;subst hn;exact okF _) (by simp) (by simp only [List.length_append];omega) 1).mono ?_
      rintro _ u8 ⟨Ac,cc,rfl,wsc,kc⟩
      rw [wi ((q:Int)+1) (by omega) (by omega)]
      have hst:m0++(p.sorts[j].desc.take q).flatMap eF++[if p.sorts[j].desc[q] then 1 else 0].flatMap K15.eI=m0++(p.sorts[j].desc.take (q+1)).flatMap eF:=by rw [flatS hql];simp [eF,List.append_assoc]
      rw [hst] at wsc ⊢
      exact ⟨_,_,_,rfl,⟨q+1,by omega,rfl,rfl,wsc,kb.trans' kc⟩,by dsimp only;omega⟩
    · obtain rfl:q=p.sorts[j].desc.length:=by omega
      rw [List.take_length] at wsb hf1 ⊢
      have kd:Ext v v.drew:=Fr.drew NoB v
      refine ⟨fun z=>Ext v z,kd,_,fun z k=>(bxv.ext k).cell rfl,_,fun z k=>(bxv.ext k).cell rfl,?_⟩
      refine (truth_spec _ _).mono ?_
      rintro _ _ ⟨rfl,rfl⟩
      refine ⟨_,rfl,kd,fun gz u7 fz=>?_⟩
      refine ((wsb.up kd).puts (ns:=[p.sorts[j].cols,if p.sorts[j].dist then 1 else 0]) fz (fun n hn=>?_) (by simp) (by simp only [List.length_append];omega) 2).mono ?_
      · simp only [List.mem_cons,List.not_mem_nil,or_false] at hn
        rcases hn with rfl|rfl
        · exact hok2
        · exact okF _
      rintro _ u8 ⟨Ac,cc,rfl,wsc,kc⟩
      rw [wi ((j:Int)+1) (by omega) (by omega)]
      have hst:m0++p.sorts[j].desc.flatMap eF++[p.sorts[j].cols,if p.sorts[j].dist then 1 else 0].flatMap K15.eI=l6++(p.sorts.take (j+1)).flatMap eSrt:=by rw [flatS hjl,hm0];simp [eSrt,eL,eF,List.append_assoc]
      rw [hst] at wsc ⊢
      exact ⟨_,_,_,rfl,⟨j+1,by omega,rfl,rfl,wsc⟩,by dsimp only;omega⟩
  obtain rfl:j=p.sorts.length:=by omega
  rw [List.take_length] at ws9 t9 ⊢
  obtain ⟨l7,hl7⟩:∃ l,l=l6++p.sorts.flatMap eSrt:=⟨_,rfl⟩
  rw [<- hl7] at ws9 ⊢
  have hb7:l7.length<=2000020000:=by rw [hl7,List.length_append];omega
  clear t9 ws8
  -- totals
  repeat (first|refine ⟨_,Blk.cell (bu) (by rfl),?_⟩|refine ⟨_,_,_,Blk.cell (bu) (by rfl),?_⟩)
  intro g7 w7 f7
  refine (ws9.puts (ns:=[(p.tots.length:Int)]) f7 (fun n hn=>by simp only [List.mem_cons,List.not_mem_nil,or_false] at hn;subst hn;unfold okN;omega) (by simp) (by omega) 1).mono ?_
  rintro _ w8 ⟨A8,c8,rfl,ws8,_⟩
  obtain ⟨l8,hl8⟩:∃ l,l=l7++K15.eI p.tots.length:=⟨_,rfl⟩
  rw [flat1,<- hl8] at ws8 ⊢
  refine ⟨_,_,_,rfl,?_⟩
  have hb8:l8.length<=2000020010:=by
    have:=eI_len (n:=(p.tots.length:Int)) (by unfold okN;omega)
    rw [hl8,List.length_append];omega
  clear f7 ws9 bu
  refine ⟨fun A n c x u=>∃ j:Nat,j<=p.tots.length/\x=(j:Int)/\n=(l8++(p.tots.take j).flatMap eTot).length/\MB w2 u A c (l8++(p.tots.take j).flatMap eTot),fun _ _ _ x _=>((p.tots.length:Int)-x).toNat,⟨0,by omega,rfl,by simp,by simpa using ws8⟩,?_⟩
  rintro A9 _ c9 _ u ⟨j,hj,rfl,rfl,ws9⟩
  have t9:=takeB (f:=eTot) p.tots j S.l5 (fun c hc=>eTot_len (S.tots c hc))
  have bu:=bp.ext ws9.ext
  repeat (first|refine ⟨_,Blk.cell (bu) (by rfl),?_⟩|refine ⟨_,_,_,Blk.cell (bu) (by rfl),?_⟩)
  refine brd (fun hlt=>?_) (fun hge=>?_)
  · have hjl:j<p.tots.length:=by omega
    repeat (first|refine ⟨_,Blk.cell (bu) (by rfl),?_⟩|refine ⟨_,_,_,Blk.cell (bu) (by rfl),?_⟩)
    obtain ⟨ad,hA,cs,hrep,hcell⟩:=at1 (hh.ext ws9.ext).tots hjl
    have hcs:cs=totC p.tots[j]:=hrep
    subst hcs
    have hsz:=S.tots _ (List.getElem_mem hjl)
    have hes:=eS_len hsz
    refine ⟨ad,hA,⟨by omega,by omega⟩,_,hcell u (.refl _ _) 0 _ rfl,?_⟩
    obtain ⟨B,n,d,v,hr,hcall⟩:=ws9.text p.tots[j].fn (by omega) (by rw [List.length_append];omega)
    refine ⟨_,_,_,_,hr,hcall.mono ?_⟩
    rintro _ u3 ⟨A3,c3,rfl,ws3,k3⟩
    have bu3:=bu.ext k3
    refine ⟨_,_,_,rfl,?_⟩
    repeat (first|refine ⟨_,Blk.cell (bu3) (by rfl),?_⟩|refine ⟨_,_,_,Blk.cell (bu3) (by rfl),?_⟩)
    refine ⟨ad,hA,⟨by omega,by omega⟩,_,hcell u3 k3 1 _ rfl,?_⟩
    refine (truth_spec _ _).mono ?_
    rintro _ _ ⟨rfl,rfl⟩
    refine ⟨_,rfl,fun gy u4 fy=>?_⟩
    refine (ws3.puts (ns:=[if p.tots[j].dist then 1 else 0]) fy (fun n hn=>by simp only [List.mem_cons,List.not_mem_nil,or_false] at hn;subst hn;exact okF _) (by simp) (by simp only [List.length_append];omega) 1).mono ?_
    rintro _ u5 ⟨A7,c7,rfl,ws7,k7⟩
    rw [wi ((j:Int)+1) (by omega) (by omega)]
    have hst:l8++(p.tots.take j).flatMap eTot++eS p.tots[j].fn++[if p.tots[j].dist then 1 else 0].flatMap K15.eI=l8++(p.tots.take (j+1)).flatMap eTot:=by rw [flatS hjl];simp [eTot,eF,List.append_assoc]
    rw [hst] at ws7 ⊢
    exact ⟨_,_,_,rfl,⟨j+1,by omega,rfl,rfl,ws7⟩,by dsimp only;omega⟩
  obtain rfl:j=p.tots.length:=by omega
  rw [List.take_length] at ws9 t9 ⊢
  obtain ⟨l9,hl9⟩:∃ l,l=l8++p.tots.flatMap eTot:=⟨_,rfl⟩
  rw [<- hl9] at ws9 ⊢
  have hb9:l9.length<=2000040000:=by rw [hl9,List.length_append];omega
  clear t9 ws8
  -- the code
  repeat (first|refine ⟨_,Blk.cell (bu) (by rfl),?_⟩|refine ⟨_,_,_,Blk.cell (bu) (by rfl),?_⟩)
  intro g7 w7 f7
  refine (ws9.puts (ns:=[(p.code.length:Int)]) f7 (fun n hn=>by simp only [List.mem_cons,List.not_mem_nil,or_false] at hn;subst hn;unfold okN;omega) (by simp) (by omega) 1).mono ?_
  rintro _ w8 ⟨A8,c8,rfl,ws8,_⟩
  obtain ⟨l10,hl10⟩:∃ l,l=l9++K15.eI p.code.length:=⟨_,rfl⟩
  rw [flat1,<- hl10] at ws8 ⊢
  refine ⟨_,_,_,rfl,?_⟩
  have hb10:l10.length<=2000040010:=by
    have:=eI_len (n:=(p.code.length:Int)) (by unfold okN;omega)
    rw [hl10,List.length_append];omega
  clear f7 ws9 bu
  refine ⟨fun A n c x u=>∃ j:Nat,j<=p.code.length/\x=(j:Int)/\n=(l10++(p.code.take j).flatMap eIns).length/\MB w2 u A c (l10++(p.code.take j).flatMap eIns),fun _ _ _ x _=>((p.code.length:Int)-x).toNat,⟨0,by omega,rfl,by simp,by simpa using ws8⟩,?_⟩
  rintro A9 _ c9 _ u ⟨j,hj,rfl,rfl,ws9⟩
  have t9:=takeB (f:=eIns) p.code j S.l6 (fun c hc=>eIns_len (FF.code c hc))
  have bu:=bp.ext ws9.ext
  repeat (first|refine ⟨_,Blk.cell (bu) (by rfl),?_⟩|refine ⟨_,_,_,Blk.cell (bu) (by rfl),?_⟩)
  refine brd (fun hlt=>?_) (fun hge=>?_)
  · have hjl:j<p.code.length:=by omega
    obtain ⟨ad,hA,cs,hrep,hcell⟩:=at1 (hh.ext ws9.ext).code hjl
    have hcs:cs=insC p.code[j]:=hrep
    subst hcs
    have hfi:=FF.code _ (List.getElem_mem hjl)
    have hgi:=(gp.code _ (List.getElem_mem hjl)).1
    have kd:Ext u u.drew:=Fr.drew NoB u
    refine ⟨fun z=>Ext u z,kd,_,_,_,fun v k=>(bu.ext k).cell rfl,ad,hA,⟨by omega,by omega⟩,_,fun v k=>hcell v k 0 _ rfl,_,_,_,fun v k=>(bu.ext k).cell rfl,ad,hA,⟨by omega,by omega⟩,_,fun v k=>hcell v k 1 _ rfl,_,_,_,fun v k=>(bu.ext k).cell rfl,ad,hA,⟨by omega,by omega⟩,_,fun v k=>hcell v k 2 _ rfl,
      _,_,_,fun v k=>(bu.ext k).cell rfl,ad,hA,⟨by omega,by omega⟩,_,fun v k=>hcell v k 3 _ rfl,_,_,_,fun v k=>(bu.ext k).cell rfl,ad,hA,⟨by omega,by omega⟩,_,fun v k=>hcell v k 4 _ rfl,?_⟩
    rw [wi p.code[j].op (by omega) (by omega)]
    intro gy u4 fy
    refine ⟨kd.trans' fy.ext,?_⟩
    refine ((ws9.up kd).puts (ns:=[p.code[j].op,p.code[j].a,p.code[j].b,p.code[j].c,p.code[j].d]) fy (fun n hn=>?_) (by simp) (by rw [List.length_append];omega) 5).mono ?_
    · simp only [List.mem_cons,List.not_mem_nil,or_false] at hn
      rcases hn with rfl|rfl|rfl|rfl|rfl
      · exact hfi.1
      · exact hfi.2.1
      · exact hfi.2.2.1
      · exact hfi.2.2.2.1
      · exact hfi.2.2.2.2
    rintro _ u5 ⟨A7,c7,rfl,ws7,k7⟩
    rw [wi ((j:Int)+1) (by omega) (by omega)]
    have hst:l10++(p.code.take j).flatMap eIns++[p.code[j].op,p.code[j].a,p.code[j].b,p.code[j].c,p.code[j].d].flatMap K15.eI=l10++(p.code.take (j+1)).flatMap eIns:=by rw [flatS hjl];simp [eIns,List.append_assoc]
    rw [hst] at ws7 ⊢
    exact ⟨_,_,_,rfl,kd.trans' k7,⟨j+1,by omega,rfl,rfl,ws7⟩,by dsimp only;omega⟩
  obtain rfl:j=p.code.length:=by omega
  rw [List.take_length] at ws9 ⊢
  have hP:l10++p.code.flatMap eIns=bytesP constE p:=by
    rw [hl10,hl9,hl8,hl7,hl6,hl5,hl4,hl3,hl2,hl1,hl0];simp [bytesP,eL,List.append_assoc]
  rw [hP] at ws9 ⊢
  have eR:bytesR constE p=if 1048576<(bytesP constE p).length then ([],3) else (bytesP constE p,0):=by unfold bytesR;rw [hc,if_neg (by decide)]
  rw [eR]
  refine brd (fun hbig=>?_) (fun hsm=>?_)
  · rw [if_pos (by omega)]
    exact ⟨none,0,rfl,OwnB.nil _,e2.trans' ws9.ext,New.none _⟩
  · rw [if_neg (by omega)]
    exact ⟨A9,c9,rfl,ws9.own,e2.trans' ws9.ext,ws9.new.ext e2⟩
end Go.Proofs.YtaifphjenebgoaaGreatDoor
set_option linter.unusedVariables false
set_option linter.unusedSimpArgs false
namespace K15
open Go.Sx R1
abbrev Rd (α:Type):=List UInt8->Option (α×List UInt8)
structure PC {α:Type} (S : α->Prop) (e : α->List UInt8) (r:Rd α):Prop where
  back:∀ x a,S x->r (e x++a)=some (x,a)
  canon:∀ b x a,r b=some (x,a)->b=e x++a/\S x
def numO (most:Nat):Rd Int:=fun b=>match B1.dec 0 b with
  | .ok n u=>if n<=most then some ((n:Int),b.drop u) else none
  | _=>none
def inN (most:Nat) (n:Int):Prop:=0<=n/\n<=most
theorem pc_num {most:Nat} (hm:most<9223372036854775808):PC (inN most) eI (numO most):=⟨fun x a hx=>by
  unfold inN at hx
  have h1:=B1.dec_enc x.toNat 0 a (by omega) (B1.lim64 (by omega)) (fun h=>by omega)
  unfold numO eI
  rw [h1]
  simp only
  rw [if_pos (by omega),List.drop_left]
  congr 2
  omega,fun b x a h=>by
  unfold numO at h
  split at h
  · next n u hd =>
    split at h
    · next hn =>
      simp only [Option.some.injEq,Prod.mk.injEq] at h
      obtain ⟨rfl,rfl⟩:=h
      obtain ⟨_,_,ht,_⟩:=B1.dec_ok b 0 n u (by omega) hd
      refine ⟨?_,by unfold inN;omega⟩
      unfold eI
      rw [Int.toNat_natCast,<- ht,List.take_append_drop]
    · cases h
  · cases h⟩
def seqO {α β:Type} (r:Rd α) (s:Rd β):Rd (α×β):=fun b=>match r b with
  | some (x,a)=>match s a with
    | some (y,c)=>some ((x,y),c)
    | none=>none
  | none=>none
theorem PC.seq {α β:Type} {S : α->Prop} {T : β->Prop} {e : α->List UInt8} {f : β->List UInt8} {r:Rd α} {s:Rd β} (h:PC S e r) (k:PC T f s) :
    PC (fun z : α×β=>S z.1/\T z.2) (fun z=>e z.1++f z.2) (seqO r s):=⟨fun z a hz=>by
  unfold seqO
  rw [List.append_assoc,h.back z.1 _ hz.1]
  simp only
  rw [k.back z.2 _ hz.2],fun b z a hb=>by
  unfold seqO at hb
  split at hb
  · next x c h1 =>
    split at hb
    · next y d h2 =>
      simp only [Option.some.injEq,Prod.mk.injEq] at hb
      obtain ⟨rfl,rfl⟩:=hb
      obtain ⟨e1,s1⟩:=h.canon _ _ _ h1
      obtain ⟨e2,s2⟩:=k.canon _ _ _ h2
      exact ⟨by rw [e1,e2,List.append_assoc],s1,s2⟩
    · cases hb
  · cases hb⟩
def mapO {α β:Type} (f : α->β) (r:Rd α):Rd β:=fun b=>(r b).map fun z=>(f z.1,z.2)
theorem PC.map {α β:Type} {S : α->Prop} {e : α->List UInt8} {r:Rd α} (h:PC S e r) (f : α->β) (g : β->α) (h1:∀ x,S x->g (f x)=x) (h2:∀ y,f (g y)=y) :
    PC (fun y=>S (g y)) (fun y=>e (g y)) (mapO f r):=⟨fun y a hy=>by
  unfold mapO
  rw [h.back _ _ hy]
  simp [h2],fun b y a hb=>by
  unfold mapO at hb
  rw [Option.map_eq_some_iff] at hb
  obtain ⟨⟨x,c⟩,hx,he⟩:=hb
  simp only [Prod.mk.injEq] at he
  obtain ⟨rfl,rfl⟩:=he
  obtain ⟨e1,s1⟩:=h.canon _ _ _ hx
  rw [h1 x s1]
  exact ⟨e1,s1⟩⟩
theorem PC.imp {α:Type} {S T : α->Prop} {e f : α->List UInt8} {r:Rd α} (h:PC S e r) (hs:∀ x,S x<->T x) (he:∀ x,e x=f x):PC T f r :=
  ⟨fun x a hx=>by rw [<- he];exact h.back x a ((hs x).2 hx),fun b x a hb=>by obtain ⟨e1,s1⟩:=h.canon b x a hb;exact ⟨by rw [e1,he],(hs x).1 s1⟩⟩
def blobO (most:Nat):Rd (List UInt8):=fun b=>match numO most b with
  | some (n,a)=>if a.length<n.toNat then none else some (a.take n.toNat,a.drop n.toNat)
  | none=>none
theorem pc_blob {most:Nat} (hm:most<9223372036854775808):PC (fun l=>l.length<=most) eB (blobO most):=⟨fun x a hx=>by
  have h:=(pc_num hm).back (x.length:Int) (x++a) (by unfold inN;omega)
  unfold eI at h
  rw [Int.toNat_natCast] at h
  unfold blobO eB
  rw [List.append_assoc,h]
  simp,fun b x a hb=>by
  unfold blobO at hb
  split at hb
  · next n c h1 =>
    split at hb
    · cases hb
    · next hl =>
      simp only [Option.some.injEq,Prod.mk.injEq] at hb
      obtain ⟨rfl,rfl⟩:=hb
      obtain ⟨e1,s1⟩:=(pc_num hm).canon _ _ _ h1
      unfold inN at s1
      have hlen:(c.take n.toNat).length=n.toNat:=by rw [List.length_take];omega
      refine ⟨?_,by rw [hlen];omega⟩
      unfold eB eI at *
      rw [hlen,List.append_assoc,List.take_append_drop]
      exact e1
  · cases hb⟩
def repO {α:Type} (r:Rd α):Nat->Rd (List α)
  | 0,b=>some ([],b)
  | n+1,b=>match r b with
    | some (x,a)=>match repO r n a with
      | some (l,c)=>some (x::l,c)
      | none=>none
    | none=>none
theorem rep_back {α:Type} {S : α->Prop} {e : α->List UInt8} {r:Rd α} (h:PC S e r):∀ (l:List α) (a:List UInt8),(∀ x∈l,S x)->repO r l.length (l.flatMap e++a)=some (l,a)
  | [],a,_=>by simp [repO]
  | x::l,a,hx=>by
    rw [List.length_cons,repO,List.flatMap_cons,List.append_assoc,h.back x _ (hx x (by simp))]
    simp only
    rw [rep_back h l a (fun y hy=>hx y (by simp [hy]))]
theorem rep_canon {α:Type} {S : α->Prop} {e : α->List UInt8} {r:Rd α} (h:PC S e r):∀ (n:Nat) (b:List UInt8) (l:List α) (a:List UInt8),repO r n b=some (l,a)->b=l.flatMap e++a/\l.length=n/\∀ x∈l,S x
  | 0,b,l,a,hb=>by
    rw [repO] at hb
    simp only [Option.some.injEq,Prod.mk.injEq] at hb
    obtain ⟨rfl,rfl⟩:=hb
    simp
  | n+1,b,l,a,hb=>by
    rw [repO] at hb
    split at hb
    · next x c h1 =>
      split at hb
      · next l' d h2 =>
        simp only [Option.some.injEq,Prod.mk.injEq] at hb
        obtain ⟨rfl,rfl⟩:=hb
        obtain ⟨e1,s1⟩:=h.canon _ _ _ h1
        obtain ⟨e2,n2,s2⟩:=rep_canon h n c l' d h2
        refine ⟨by rw [e1,e2];simp [List.append_assoc],by simp [n2],fun y hy=>?_⟩
        rcases List.mem_cons.1 hy with rfl|hy
        · exact s1
        · exact s2 y hy
      · cases hb
    · cases hb
def someO {α:Type} (most:Nat) (r:Rd α):Rd (List α):=fun b=>match numO most b with
  | some (n,a)=>repO r n.toNat a
  | none=>none
theorem pc_some {α:Type} {S : α->Prop} {e : α->List UInt8} {r:Rd α} {most:Nat} (hm:most<9223372036854775808) (h:PC S e r):PC (fun l=>l.length<=most/\∀ x∈l,S x) (eL e) (someO most r):=⟨fun l a hl=>by
  unfold someO eL
  rw [List.append_assoc,(pc_num hm).back _ _ (by unfold inN;omega)]
  simp only [Int.toNat_natCast]
  exact rep_back h l a hl.2,fun b l a hb=>by
  unfold someO at hb
  split at hb
  · next n c h1 =>
    obtain ⟨e1,s1⟩:=(pc_num hm).canon _ _ _ h1
    obtain ⟨e2,n2,s2⟩:=rep_canon h _ _ _ _ hb
    unfold inN at s1
    refine ⟨?_,by omega,s2⟩
    unfold eL
    rw [e1,e2,n2,List.append_assoc]
    congr 2
    omega
  · cases hb⟩
def flagO:Rd Bool:=mapO (fun n=>decide (n=1)) (numO 1)
theorem pc_flag:PC (fun _=>True) eF flagO :=
  ((pc_num (most:=1) (by decide)).map (fun n=>decide (n=1)) (fun b=>if b then 1 else 0) (fun x hx=>by
    unfold inN at hx
    rcases (show x=0\/x=1 by omega) with rfl|rfl<;>rfl) (fun y=>by cases y<;>rfl)).imp (fun b=>⟨fun _=>trivial,fun _=>by unfold inN;split<;>omega⟩) (fun b=>rfl)
def textO (most:Nat):Rd ByteArray:=mapO (fun l=>⟨l.toArray⟩) (blobO most)
theorem pc_text {most:Nat} (hm:most<9223372036854775808):PC (fun s=>s.size<=most) eS (textO most) :=
  ((pc_blob hm).map (fun l=>(⟨l.toArray⟩:ByteArray)) sb (fun x _=>rfl) (fun y=>rfl)).imp (fun s=>by rw [sb_length]) (fun s=>rfl)
end K15
set_option linter.unusedVariables false
set_option linter.unusedSimpArgs false
namespace K15
open Go.Sx R1
def curO:Rd Cur:=mapO (fun z:ByteArray×(Bool×Bool)=>⟨z.1,z.2.1,z.2.2⟩) (seqO (textO 200) (seqO flagO flagO))
theorem pc_cur:PC (fun c=>c.name.size<=200) eCur curO :=
  (((pc_text (most:=200) (by decide)).seq (pc_flag.seq pc_flag)).map (fun z:ByteArray×(Bool×Bool)=>(⟨z.1,z.2.1,z.2.2⟩:Cur)) (fun c=>(c.name,(c.ix,c.wr))) (fun _ _=>rfl) (fun _=>rfl)).imp
    (fun c=>⟨fun h=>h.1,fun h=>⟨h,trivial,trivial⟩⟩) (fun c=>rfl)
def srtO:Rd Srt:=mapO (fun z:List Bool×(Int×Bool)=>⟨z.1,z.2.1,z.2.2⟩) (seqO (someO 30 flagO) (seqO (numO 60) flagO))
theorem pc_srt:PC (fun s=>s.desc.length<=30/\inN 60 s.cols) eSrt srtO :=
  (((pc_some (most:=30) (by decide) pc_flag).seq ((pc_num (most:=60) (by decide)).seq pc_flag)).map (fun z:List Bool×(Int×Bool)=>(⟨z.1,z.2.1,z.2.2⟩:Srt)) (fun c=>(c.desc,(c.cols,c.dist))) (fun _ _=>rfl) (fun _=>rfl)).imp
    (fun c=>⟨fun h=>⟨h.1.1,h.2.1⟩,fun h=>⟨⟨h.1,fun _ _=>trivial⟩,h.2,trivial⟩⟩) (fun c=>rfl)
def totO:Rd Tot:=mapO (fun z:ByteArray×Bool=>⟨z.1,z.2⟩) (seqO (textO 200) flagO)
theorem pc_tot:PC (fun c=>c.fn.size<=200) eTot totO :=
  (((pc_text (most:=200) (by decide)).seq pc_flag).map (fun z:ByteArray×Bool=>(⟨z.1,z.2⟩:Tot)) (fun c=>(c.fn,c.dist)) (fun _ _=>rfl) (fun _=>rfl)).imp
    (fun c=>⟨fun h=>h.1,fun h=>⟨h,trivial⟩⟩) (fun c=>rfl)
def bigM:Nat:=1099511627776
def insO:Rd Ins:=mapO (fun z:Int×(Int×(Int×(Int×Int)))=>⟨z.1,z.2.1,z.2.2.1,z.2.2.2.1,z.2.2.2.2⟩) (seqO (numO 255) (seqO (numO bigM) (seqO (numO bigM) (seqO (numO bigM) (numO bigM)))))
def limIns (i:Ins):Prop:=inN 255 i.op/\inN bigM i.a/\inN bigM i.b/\inN bigM i.c/\inN bigM i.d
theorem pc_ins:PC limIns eIns insO :=
  (((pc_num (most:=255) (by decide)).seq ((pc_num (most:=bigM) (by decide)).seq ((pc_num (most:=bigM) (by decide)).seq ((pc_num (most:=bigM) (by decide)).seq (pc_num (most:=bigM) (by decide)))))).map
    (fun z:Int×(Int×(Int×(Int×Int)))=>(⟨z.1,z.2.1,z.2.2.1,z.2.2.2.1,z.2.2.2.2⟩:Ins)) (fun i=>(i.op,(i.a,(i.b,(i.c,i.d))))) (fun _ _=>rfl) (fun _=>rfl)).imp
    (fun i=>Iff.rfl) (fun i=>rfl)
def constO (g:List UInt8->Option V):Rd V:=fun b=>match blobO 1048576 b with
  | some (l,a)=>(g l).map fun v=>(v,a)
  | none=>none
structure FG (Sv:V->Prop) (f:V->List UInt8) (g:List UInt8->Option V):Prop where
  len:∀ v,Sv v->(f v).length<=1048576
  back:∀ v,Sv v->g (f v)=some v
  canon:∀ l v,g l=some v->l=f v/\Sv v
section
variable {Sv:V->Prop} {f:V->List UInt8} {g:List UInt8->Option V}
theorem pc_const (H:FG Sv f g):PC Sv (fun v=>eB (f v)) (constO g):=⟨fun v a hv=>by
  unfold constO
  rw [(pc_blob (most:=1048576) (by decide)).back _ _ (H.len v hv)]
  simp only
  rw [H.back v hv];rfl,fun b v a hb=>by
  unfold constO at hb
  split at hb
  · next l c h1 =>
    rw [Option.map_eq_some_iff] at hb
    obtain ⟨x,hx,he⟩:=hb
    simp only [Prod.mk.injEq] at he
    obtain ⟨rfl,rfl⟩:=he
    obtain ⟨e1,_⟩:=(pc_blob (most:=1048576) (by decide)).canon _ _ _ h1
    obtain ⟨e2,s2⟩:=H.canon _ _ hx
    exact ⟨by rw [e1,e2],s2⟩
  · cases hb⟩
abbrev PT:=Int×(Int×(Int×(List ByteArray×(List V×(List Cur×(List Srt×(List Tot×List Ins)))))))
def ofT (z:PT):Prog:=⟨z.1,z.2.1,z.2.2.1,z.2.2.2.1,z.2.2.2.2.1,z.2.2.2.2.2.1,z.2.2.2.2.2.2.1,z.2.2.2.2.2.2.2.1,z.2.2.2.2.2.2.2.2⟩
def toT (p:Prog):PT:=(p.ver,(p.regs,(p.binds,(p.names,(p.consts,(p.curs,(p.sorts,(p.tots,p.code))))))))
def progO (g:List UInt8->Option V):Rd Prog:=mapO ofT (seqO (numO bigM) (seqO (numO 250) (seqO (numO 1000) (seqO (someO 200 (textO 200)) (seqO (someO 1000 (constO g)) (seqO (someO 12 curO) (seqO (someO 6 srtO) (seqO (someO 60 totO) (someO 4000 insO)))))))))
structure Lim (Sv:V->Prop) (p:Prog):Prop where
  ver:inN bigM p.ver
  regs:inN 250 p.regs
  binds:inN 1000 p.binds
  names:p.names.length<=200/\∀ s∈p.names,s.size<=200
  consts:p.consts.length<=1000/\∀ v∈p.consts,Sv v
  curs:p.curs.length<=12/\∀ c∈p.curs,c.name.size<=200
  sorts:p.sorts.length<=6/\∀ s∈p.sorts,s.desc.length<=30/\inN 60 s.cols
  tots:p.tots.length<=60/\∀ t∈p.tots,t.fn.size<=200
  code:p.code.length<=4000/\∀ i∈p.code,limIns i
theorem pc_prog (H:FG Sv f g):PC (Lim Sv) (bytesP f) (progO g) :=
  (((pc_num (most:=bigM) (by decide)).seq ((pc_num (most:=250) (by decide)).seq ((pc_num (most:=1000) (by decide)).seq ((pc_some (most:=200) (by decide) (pc_text (most:=200) (by decide))).seq ((pc_some (most:=1000) (by decide) (pc_const H)).seq ((pc_some (most:=12) (by decide) pc_cur).seq ((pc_some (most:=6) (by decide) pc_srt).seq ((pc_some (most:=60) (by decide) pc_tot).seq (pc_some (most:=4000) (by decide) pc_ins))))))))).map
    ofT toT (fun _ _=>rfl) (fun _=>rfl)).imp
    (fun p=>⟨fun h=>⟨h.1,h.2.1,h.2.2.1,h.2.2.2.1,h.2.2.2.2.1,h.2.2.2.2.2.1,h.2.2.2.2.2.2.1,h.2.2.2.2.2.2.2.1,h.2.2.2.2.2.2.2.2⟩,fun h=>⟨h.ver,h.regs,h.binds,h.names,h.consts,h.curs,h.sorts,h.tots,h.code⟩⟩) (fun p=>rfl)
def readO (g:List UInt8->Option V) (b:List UInt8):Option Prog:=match progO g b with
  | some (p,a)=>if a=[]/\b.length<=1048576/\checkP p=true then some p else none
  | none=>none
theorem read_canon (H:FG Sv f g) {b:List UInt8} {p:Prog} (h:readO g b=some p):b=bytesP f p/\b.length<=1048576/\checkP p=true/\Lim Sv p:=by
  unfold readO at h
  split at h
  · next q a h1 =>
    split at h
    · next hc =>
      cases h
      obtain ⟨e1,s1⟩:=(pc_prog H).canon _ _ _ h1
      rw [hc.1,List.append_nil] at e1
      exact ⟨e1,hc.2.1,hc.2.2,s1⟩
    · cases h
  · cases h
theorem read_back (H:FG Sv f g) {p:Prog} (hl:Lim Sv p) (hc:checkP p=true) (hb:(bytesP f p).length<=1048576):readO g (bytesP f p)=some p:=by
  have h:=(pc_prog H).back p [] hl
  rw [List.append_nil] at h
  unfold readO
  rw [h]
  simp [hb,hc]
end
end K15
set_option linter.unusedVariables false
set_option linter.unusedSimpArgs false
namespace K15
open Go.Sx R1
theorem field_low {p:Prog} (S:Sizes p) {t:Nat} (ht:t<p.code.length) {l n:Int} (h:fieldP p t l n=true):(0<=n/\n<=4000):=by
  obtain ⟨s1,s2,s3,s4,s5,s6,s7⟩:=S
  have b:∀ hi:Int,hi<=4000->below n hi=true->(0<=n/\n<=4000):=fun hi hh h=>by
    unfold below at h
    simp only [Bool.and_eq_true,decide_eq_true_eq] at h
    omega
  unfold fieldP at h
  have c:∀ (q:Prop) [Decidable q] (x y:Bool),(if q then x else y)=true->(x=true->(0<=n/\n<=4000))->(y=true->(0<=n/\n<=4000))->(0<=n/\n<=4000):=fun q _ x y h hx hy=>by
    by_cases hq:q
    · rw [if_pos hq] at h;exact hx h
    · rw [if_neg hq] at h;exact hy h
  refine c _ _ _ h (fun h=>?_) (fun h=>?_)
  · first|exact b _ (by omega) h|exact b _ (by omega) (Bool.and_eq_true_iff.1 h).1|(simp only [Bool.and_eq_true,decide_eq_true_eq] at h;omega)
  refine c _ _ _ h (fun h=>?_) (fun h=>?_)
  · first|exact b _ (by omega) h|exact b _ (by omega) (Bool.and_eq_true_iff.1 h).1|(simp only [Bool.and_eq_true,decide_eq_true_eq] at h;omega)
  refine c _ _ _ h (fun h=>?_) (fun h=>?_)
  · first|exact b _ (by omega) h|exact b _ (by omega) (Bool.and_eq_true_iff.1 h).1|(simp only [Bool.and_eq_true,decide_eq_true_eq] at h;omega)
  refine c _ _ _ h (fun h=>?_) (fun h=>?_)
  · first|exact b _ (by omega) h|exact b _ (by omega) (Bool.and_eq_true_iff.1 h).1|(simp only [Bool.and_eq_true,decide_eq_true_eq] at h;omega)
  refine c _ _ _ h (fun h=>?_) (fun h=>?_)
  · first|exact b _ (by omega) h|exact b _ (by omega) (Bool.and_eq_true_iff.1 h).1|(simp only [Bool.and_eq_true,decide_eq_true_eq] at h;omega)
  refine c _ _ _ h (fun h=>?_) (fun h=>?_)
  · first|exact b _ (by omega) h|exact b _ (by omega) (Bool.and_eq_true_iff.1 h).1|(simp only [Bool.and_eq_true,decide_eq_true_eq] at h;omega)
  refine c _ _ _ h (fun h=>?_) (fun h=>?_)
  · first|exact b _ (by omega) h|exact b _ (by omega) (Bool.and_eq_true_iff.1 h).1|(simp only [Bool.and_eq_true,decide_eq_true_eq] at h;omega)
  refine c _ _ _ h (fun h=>?_) (fun h=>?_)
  · first|exact b _ (by omega) h|exact b _ (by omega) (Bool.and_eq_true_iff.1 h).1|(simp only [Bool.and_eq_true,decide_eq_true_eq] at h;omega)
  refine c _ _ _ h (fun h=>?_) (fun h=>?_)
  · first|exact b _ (by omega) h|exact b _ (by omega) (Bool.and_eq_true_iff.1 h).1|(simp only [Bool.and_eq_true,decide_eq_true_eq] at h;omega)
  refine c _ _ _ h (fun h=>?_) (fun h=>?_)
  · first|exact b _ (by omega) h|exact b _ (by omega) (Bool.and_eq_true_iff.1 h).1|(simp only [Bool.and_eq_true,decide_eq_true_eq] at h;omega)
  refine c _ _ _ h (fun h=>?_) (fun h=>?_)
  · first|exact b _ (by omega) h|exact b _ (by omega) (Bool.and_eq_true_iff.1 h).1|(simp only [Bool.and_eq_true,decide_eq_true_eq] at h;omega)
  refine c _ _ _ h (fun h=>?_) (fun h=>?_)
  · first|exact b _ (by omega) h|exact b _ (by omega) (Bool.and_eq_true_iff.1 h).1|(simp only [Bool.and_eq_true,decide_eq_true_eq] at h;omega)
  refine c _ _ _ h (fun h=>?_) (fun h=>?_)
  · first|exact b _ (by omega) h|exact b _ (by omega) (Bool.and_eq_true_iff.1 h).1|(simp only [Bool.and_eq_true,decide_eq_true_eq] at h;omega)
  refine c _ _ _ h (fun h=>?_) (fun h=>?_)
  · first|exact b _ (by omega) h|exact b _ (by omega) (Bool.and_eq_true_iff.1 h).1|(simp only [Bool.and_eq_true,decide_eq_true_eq] at h;omega)
  refine c _ _ _ h (fun h=>?_) (fun h=>?_)
  · first|exact b _ (by omega) h|exact b _ (by omega) (Bool.and_eq_true_iff.1 h).1|(simp only [Bool.and_eq_true,decide_eq_true_eq] at h;omega)
  refine c _ _ _ h (fun h=>?_) (fun h=>?_)
  · first|exact b _ (by omega) h|exact b _ (by omega) (Bool.and_eq_true_iff.1 h).1|(simp only [Bool.and_eq_true,decide_eq_true_eq] at h;omega)
  refine c _ _ _ h (fun h=>?_) (fun h=>?_)
  · first|exact b _ (by omega) h|exact b _ (by omega) (Bool.and_eq_true_iff.1 h).1|(simp only [Bool.and_eq_true,decide_eq_true_eq] at h;omega)
  refine c _ _ _ h (fun h=>?_) (fun h=>?_)
  · first|exact b _ (by omega) h|exact b _ (by omega) (Bool.and_eq_true_iff.1 h).1|(simp only [Bool.and_eq_true,decide_eq_true_eq] at h;omega)
  cases h
theorem Checked.lim {p:Prog} (h:Checked p) (ho:∀ i∈p.code,0<=i.op/\i.op<256) (hgv:∀ v∈p.consts,good v):Lim (fun v=>right v=true/\good v) p:=by
  have S:=h.sizes
  have F:=h.few
  have FF:=h.fine ho hgv
  have h1:=h.parts
  simp only [partsP,within,Bool.and_eq_true,decide_eq_true_eq] at h1
  obtain ⟨g1,g2,g3,_⟩:=h1
  refine ⟨⟨by omega,by unfold bigM;omega⟩,⟨by omega,by omega⟩,⟨by omega,by omega⟩,⟨F.l1,F.names⟩,⟨F.l2,FF.consts⟩,⟨F.l3,F.curs⟩,⟨F.l4,fun s hs=>?_⟩,⟨F.l5,F.tots⟩,⟨F.l6,fun i hi=>?_⟩⟩
  · have:=F.sorts s hs
    exact ⟨this.1,by omega,by omega⟩
  · have hop:=ho i hi
    obtain ⟨k,hk,rfl⟩:=List.getElem_of_mem hi
    have hi':=h.at_ k hk
    simp only [okAt,Bool.and_eq_true] at hi'
    have hf:=hi'.1
    unfold fieldsP fieldsL at hf
    split at hf
    · simp only [Bool.and_eq_true] at hf
      have c:∀ {l n:Int},fieldP p k l n=true->inN bigM n:=fun h=>by have:=field_low S hk h;unfold inN bigM;omega
      exact ⟨⟨hop.1,by omega⟩,c hf.1,c hf.2.1,c hf.2.2.1,c hf.2.2.2⟩
    · cases hf
end K15
set_option linter.unusedVariables false
set_option linter.unusedSimpArgs false
namespace K15
open Go.Sx R1
def gV (l:List UInt8):Option V:=match getP l with
  | some [v]=>some v
  | _=>none
def constP (v:V):List UInt8:=rowB [v]
theorem constP_eq (v:V):constP v=B1.enc 1++(B1.enc (sort v)++body v):=by
  simp [constP,rowB,sortsB]
theorem fg:FG (fun v=>right v=true/\good v) constP gV:=by
  have hlen:∀ v,right v=true/\good v->(constP v).length<=1048576:=fun v h=>by
    rw [constP_eq]
    have h1:=B1.enc_le_ten (m:=1) (by omega)
    have h2:=B1.enc_le_ten (m:=sort v) (sort_lt' h.1)
    have hs:=right_size h.1
    have h3:(body v).length<=8+v.s.size:=by
      have:=wide_le v.n
      unfold body;split<;>simp [hi_length,sb_length]<;>omega
    simp only [List.length_append];omega
  refine ⟨hlen,fun v h=>?_,fun l v h=>?_⟩
  · have:=get_put (l:=[v]) (by simp) (by intro x hx;simp at hx;subst hx;exact h.1) (by intro x hx;simp at hx;subst hx;exact h.2) [] (by rw [List.append_nil];exact hlen v h)
    rw [List.append_nil,if_pos rfl] at this
    unfold gV constP
    rw [this]
  · unfold gV at h
    split at h
    · next x hx =>
      cases h
      obtain ⟨e,_,_,hr,hg⟩:=get_canon hx
      exact ⟨e,hr v (by simp),hg v (by simp)⟩
    · cases h
end K15
set_option linter.unusedVariables false
set_option linter.unusedSimpArgs false
namespace K15
open Go.Sx R1
section
variable {α β:Type}
def adv (r:Rd α) (s:Option (List UInt8)):Option (List UInt8):=(s.bind r).map (·.2)
def Got (r:Rd α) (s:Option (List UInt8)) (x : α):Prop:=∀ y a,s.bind r=some (y,a)->x=y
theorem Got.bad {r:Rd α} {s:Option (List UInt8)} {x : α} (h:adv r s=none):Got r s x:=fun y a e=>by
  unfold adv at h;rw [e] at h;cases h
theorem adv_bad {r:Rd α} {b:List UInt8} (h:r b=none):adv r (some b)=none:=by
  unfold adv;rw [Option.bind_some,h];rfl
theorem adv_ok {r:Rd α} {b a:List UInt8} {x : α} (h:r b=some (x,a)):adv r (some b)=some a:=by
  unfold adv;rw [Option.bind_some,h];rfl
theorem Got.ok {r:Rd α} {b a:List UInt8} {x : α} (h:r b=some (x,a)):Got r (some b) x:=fun y c e=>by
  rw [Option.bind_some,h] at e;cases e;rfl
theorem adv_map (f : α->β) (r:Rd α) (s:Option (List UInt8)):adv (mapO f r) s=adv r s:=by
  cases s with
  | none=>rfl
  | some b =>
    unfold adv mapO
    simp only [Option.bind_some]
    cases r b<;>rfl
theorem Got.map (f : α->β) {r:Rd α} {s:Option (List UInt8)} {x : α} (h:Got r s x):Got (mapO f r) s (f x):=fun y a e=>by
  cases s with
  | none=>cases e
  | some b =>
    unfold mapO at e
    simp only [Option.bind_some] at e
    cases hr:r b with
    | none=>rw [hr] at e;cases e
    | some z =>
      rw [hr] at e
      cases e
      rw [h z.1 z.2 hr]
theorem adv_seq (r:Rd α) (q:Rd β) (s:Option (List UInt8)):adv (seqO r q) s=adv q (adv r s):=by
  cases s with
  | none=>rfl
  | some b =>
    unfold adv seqO
    simp only [Option.bind_some]
    cases r b with
    | none=>rfl
    | some z =>
      simp only [Option.map_some,Option.bind_some]
      cases q z.2<;>rfl
theorem Got.seq {r:Rd α} {q:Rd β} {s:Option (List UInt8)} {x : α} {y : β} (h:Got r s x) (k:Got q (adv r s) y):Got (seqO r q) s (x,y):=fun z a e=>by
  cases s with
  | none=>cases e
  | some b =>
    simp only [Option.bind_some] at e
    unfold seqO at e
    cases hr:r b with
    | none=>rw [hr] at e;cases e
    | some u =>
      rw [hr] at e
      simp only at e
      have hx:=h u.1 u.2 hr
      rw [adv_ok (x:=u.1) (a:=u.2) hr] at k
      cases hq:q u.2 with
      | none=>rw [hq] at e;cases e
      | some v =>
        rw [hq] at e
        cases e
        rw [hx,k v.1 v.2 hq]
theorem rep_snoc (r:Rd α):∀ (n:Nat) (b:List UInt8),repO r (n+1) b=match repO r n b with
    | some (l,a)=>match r a with
      | some (x,c)=>some (l++[x],c)
      | none=>none
    | none=>none
  | 0,b=>by
    simp only [repO]
    cases r b<;>rfl
  | n+1,b=>by
    rw [repO]
    conv=>rhs;rw [repO]
    cases hr:r b with
    | none=>rfl
    | some z =>
      simp only
      rw [rep_snoc r n z.2]
      cases hq:repO r n z.2 with
      | none=>rfl
      | some u =>
        simp only
        cases r u.2<;>rfl
theorem adv_rep (r:Rd α) (n:Nat) (s:Option (List UInt8)):adv (repO r (n+1)) s=adv r (adv (repO r n) s):=by
  cases s with
  | none=>rfl
  | some b =>
    unfold adv
    simp only [Option.bind_some]
    rw [rep_snoc]
    cases repO r n b with
    | none=>rfl
    | some z =>
      simp only [Option.map_some,Option.bind_some]
      cases r z.2<;>rfl
theorem Got.rep {r:Rd α} {n:Nat} {s:Option (List UInt8)} {l:List α} {x : α} (h:Got (repO r n) s l) (k:Got r (adv (repO r n) s) x):Got (repO r (n+1)) s (l++[x]):=fun z a e=>by
  cases s with
  | none=>cases e
  | some b =>
    simp only [Option.bind_some] at e
    rw [rep_snoc] at e
    cases hr:repO r n b with
    | none=>rw [hr] at e;cases e
    | some u =>
      rw [hr] at e
      simp only at e
      have hx:=h u.1 u.2 hr
      rw [adv_ok (x:=u.1) (a:=u.2) hr] at k
      cases hq:r u.2 with
      | none=>rw [hq] at e;cases e
      | some v =>
        rw [hq] at e
        cases e
        rw [hx,k v.1 v.2 hq]
theorem adv_rep0 (r:Rd α) (s:Option (List UInt8)):adv (repO r 0) s=s:=by cases s<;>rfl
theorem Got.rep0 (r:Rd α) (s:Option (List UInt8)):Got (repO r 0) s []:=fun y a e=>by
  cases s with
  | none=>cases e
  | some b=>cases e;rfl
theorem adv_rep_none {r:Rd α} {s:Option (List UInt8)} {i:Nat} (h:adv (repO r i) s=none):∀ k,adv (repO r (i+k)) s=none
  | 0=>h
  | k+1=>by rw [show i+(k+1)=(i+k)+1 by omega,adv_rep,adv_rep_none h k];rfl
theorem adv_some {most:Nat} {r:Rd α} {s:Option (List UInt8)} {x:Int} (h:Got (numO most) s x):adv (someO most r) s=adv (repO r x.toNat) (adv (numO most) s):=by
  cases s with
  | none=>rfl
  | some b =>
    have h:=h
    unfold adv someO
    simp only [Option.bind_some]
    cases hn:numO most b with
    | none=>rfl
    | some z =>
      rw [h z.1 z.2 hn]
      rfl
theorem Got.some {most:Nat} {r:Rd α} {s:Option (List UInt8)} {x:Int} {l:List α} (h:Got (numO most) s x) (k:Got (repO r x.toNat) (adv (numO most) s) l):Got (someO most r) s l:=fun y a e=>by
  cases s with
  | none=>cases e
  | some b =>
    simp only [Option.bind_some] at e
    unfold someO at e
    cases hn:numO most b with
    | none=>rw [hn] at e;cases e
    | some z =>
      rw [hn] at e
      rw [h z.1 z.2 hn,adv_ok (x:=z.1) (a:=z.2) hn] at k
      exact k y a e
end
theorem adv_text (m:Nat) (s:Option (List UInt8)):adv (textO m) s=adv (blobO m) s:=adv_map _ _ _
theorem Got.text {m:Nat} {s:Option (List UInt8)} {l:List UInt8} (h:Got (blobO m) s l):Got (textO m) s ⟨l.toArray⟩:=Got.map (fun l:List UInt8=>(⟨l.toArray⟩:ByteArray)) h
theorem adv_four (r:Rd Int) (s:Option (List UInt8)):adv (repO r 4) s=adv (seqO r (seqO r (seqO r r))) s:=by
  rw [adv_rep,adv_rep,adv_rep,adv_rep,adv_rep0,adv_seq,adv_seq,adv_seq]
theorem Got.four {r:Rd Int} {s:Option (List UInt8)} {p q t u:Int} (h:Got (repO r 4) s [p,q,t,u]):Got (seqO r (seqO r (seqO r r))) s (p,(q,(t,u))):=fun z a e=>by
  cases s with
  | none=>cases e
  | some b =>
    simp only [Option.bind_some] at e
    unfold seqO at e
    cases h1:r b with
    | none=>rw [h1] at e;cases e
    | some z1 =>
      rw [h1] at e;simp only at e
      cases h2:r z1.2 with
      | none=>rw [h2] at e;cases e
      | some z2 =>
        rw [h2] at e;simp only at e
        cases h3:r z2.2 with
        | none=>rw [h3] at e;cases e
        | some z3 =>
          rw [h3] at e;simp only at e
          cases h4:r z3.2 with
          | none=>rw [h4] at e;cases e
          | some z4 =>
            rw [h4] at e
            simp only [Option.some.injEq,Prod.mk.injEq] at e
            obtain ⟨rfl,rfl⟩:=e
            have:=h [z1.1,z2.1,z3.1,z4.1] z4.2 (by
              simp only [Option.bind_some,repO]
              rw [h1];simp only
              rw [h2];simp only
              rw [h3];simp only
              rw [h4])
            simp only [List.cons.injEq,and_true] at this
            obtain ⟨rfl,rfl,rfl,rfl⟩:=this
            rfl
end K15
set_option linter.unusedVariables false
set_option linter.unusedSimpArgs false
namespace K15
open Go.Sx R1
section
variable {α β:Type}
structure PL (S T : α->Prop) (e : α->List UInt8) (r:Rd α):Prop where
  back:∀ x a,S x->r (e x++a)=some (x,a)
  bnd:∀ b x a,r b=some (x,a)->T x
theorem PC.pl {S : α->Prop} {e : α->List UInt8} {r:Rd α} (h:PC S e r):PL S S e r:=⟨h.back,fun b x a hb=>(h.canon b x a hb).2⟩
theorem PL.seq {S T : α->Prop} {S' T' : β->Prop} {e : α->List UInt8} {f : β->List UInt8} {r:Rd α} {q:Rd β} (h:PL S T e r) (k:PL S' T' f q) :
    PL (fun z : α×β=>S z.1/\S' z.2) (fun z=>T z.1/\T' z.2) (fun z=>e z.1++f z.2) (seqO r q):=⟨fun x a hx=>by
  unfold seqO
  rw [List.append_assoc,h.back _ _ hx.1]
  simp only
  rw [k.back _ _ hx.2],fun b x a hb=>by
  unfold seqO at hb
  split at hb
  · next y c h1 =>
    split at hb
    · next z d h2 =>
      simp only [Option.some.injEq,Prod.mk.injEq] at hb
      obtain ⟨rfl,rfl⟩:=hb
      exact ⟨h.bnd _ _ _ h1,k.bnd _ _ _ h2⟩
    · cases hb
  · cases hb⟩
theorem PL.map {S T : α->Prop} {e : α->List UInt8} {r:Rd α} (h:PL S T e r) (f : α->β) {S' T' : β->Prop} {e' : β->List UInt8} (g : β->α) (h1:∀ y,S' y->S (g y)) (h2:∀ y,S' y->f (g y)=y) (h3:∀ y,S' y->e' y=e (g y)) (h4:∀ x,T x->T' (f x)) :
    PL S' T' e' (mapO f r):=⟨fun y a hy=>by
  unfold mapO
  rw [h3 y hy,h.back _ _ (h1 y hy)]
  simp only [Option.map_some,h2 y hy],fun b y a hb=>by
  unfold mapO at hb
  rw [Option.map_eq_some_iff] at hb
  obtain ⟨z,hz,he⟩:=hb
  simp only [Prod.mk.injEq] at he
  obtain ⟨rfl,rfl⟩:=he
  exact h4 _ (h.bnd _ _ _ hz)⟩
theorem PL.imp {S T S' T' : α->Prop} {e : α->List UInt8} {r:Rd α} (h:PL S T e r) (h1:∀ x,S' x->S x) (h2:∀ x,T x->T' x):PL S' T' e r:=⟨fun x a hx=>h.back x a (h1 x hx),fun b x a hb=>h2 x (h.bnd b x a hb)⟩
theorem repL_back {S T : α->Prop} {e : α->List UInt8} {r:Rd α} (h:PL S T e r):∀ (l:List α) (a:List UInt8),(∀ x∈l,S x)->repO r l.length (l.flatMap e++a)=some (l,a)
  | [],a,_=>rfl
  | x::l,a,hl=>by
    rw [List.length_cons,repO,List.flatMap_cons,List.append_assoc,h.back _ _ (hl x List.mem_cons_self)]
    simp only
    rw [repL_back h l a (fun y hy=>hl y (List.mem_cons_of_mem _ hy))]
theorem repL_bnd {S T : α->Prop} {e : α->List UInt8} {r:Rd α} (h:PL S T e r):∀ (n:Nat) (b:List UInt8) (l:List α) (a:List UInt8),repO r n b=some (l,a)->∀ x∈l,T x
  | 0,b,l,a,hb=>by rw [repO] at hb;cases hb;intro x hx;cases hx
  | n+1,b,l,a,hb=>by
    rw [repO] at hb
    split at hb
    · next x c h1 =>
      split at hb
      · next m d h2 =>
        simp only [Option.some.injEq,Prod.mk.injEq] at hb
        obtain ⟨rfl,rfl⟩:=hb
        intro y hy
        rcases List.mem_cons.1 hy with rfl|hy
        · exact h.bnd _ _ _ h1
        · exact repL_bnd h n _ _ _ h2 y hy
      · cases hb
    · cases hb
theorem repL_len {r:Rd α}:∀ (n:Nat) (b:List UInt8) (l:List α) (a:List UInt8),repO r n b=some (l,a)->l.length=n
  | 0,b,l,a,hb=>by rw [repO] at hb;cases hb;rfl
  | n+1,b,l,a,hb=>by
    rw [repO] at hb
    split at hb
    · next x c h1 =>
      split at hb
      · next m d h2 =>
        simp only [Option.some.injEq,Prod.mk.injEq] at hb
        obtain ⟨rfl,rfl⟩:=hb
        rw [List.length_cons,repL_len n _ _ _ h2]
      · cases hb
    · cases hb
theorem PL.some {S T : α->Prop} {e : α->List UInt8} {r:Rd α} {most:Nat} (hm:most<9223372036854775808) (h:PL S T e r):PL (fun l=>l.length<=most/\∀ x∈l,S x) (fun l=>l.length<=most/\∀ x∈l,T x) (eL e) (someO most r):=⟨fun l a hl=>by
  unfold someO eL
  rw [List.append_assoc,(pc_num hm).back _ _ (show inN most (l.length:Int) from ⟨by omega,by have:=hl.1;omega⟩)]
  simp only
  rw [Int.toNat_natCast]
  exact repL_back h l a hl.2,fun b l a hb=>by
  unfold someO at hb
  split at hb
  · next n c h1 =>
    have h2:=((pc_num hm).canon _ _ _ h1).2
    unfold inN at h2
    exact ⟨by rw [repL_len _ _ _ _ hb];omega,repL_bnd h _ _ _ _ hb⟩
  · cases hb⟩
end
def numL:Rd Int:=numO bigM
def flagL:Rd Bool:=mapO (fun n=>decide (n=1)) numL
def curL:Rd Cur:=mapO (fun z:ByteArray×(Bool×Bool)=>⟨z.1,z.2.1,z.2.2⟩) (seqO (textO 1048576) (seqO flagL flagL))
def srtL:Rd Srt:=mapO (fun z:List Bool×(Int×Bool)=>⟨z.1,z.2.1,z.2.2⟩) (seqO (someO bigM flagL) (seqO numL flagL))
def totL:Rd Tot:=mapO (fun z:ByteArray×Bool=>⟨z.1,z.2⟩) (seqO (textO 1048576) flagL)
theorem bigM_lt:bigM<9223372036854775808:=by decide
theorem pl_num {m:Nat} (hm:m<=bigM):PL (inN m) (inN bigM) eI numL:=(pc_num bigM_lt).pl.imp (fun x hx=>⟨hx.1,by have:=hx.2;omega⟩) (fun _ h=>h)
theorem pl_flag:PL (fun _=>True) (fun _=>True) eF flagL:=(pl_num (m:=1) (by decide)).map (fun n=>decide (n=1)) (fun b=>if b then 1 else 0) (fun b _=>by unfold inN;split<;>omega) (fun b _=>by cases b<;>rfl) (fun _ _=>rfl) (fun _ _=>trivial)
theorem pl_text:PL (fun s:ByteArray=>s.size<=200) (fun s=>s.size<=1048576) eS (textO 1048576):=(pc_text (most:=1048576) (by decide)).pl.imp (fun x hx=>by omega) (fun _ h=>h)
theorem pl_cur:PL (fun c:Cur=>c.name.size<=200) (fun c=>c.name.size<=1048576) eCur curL :=
  (pl_text.seq (pl_flag.seq pl_flag)).map (fun z:ByteArray×(Bool×Bool)=>(⟨z.1,z.2.1,z.2.2⟩:Cur)) (fun c=>(c.name,(c.ix,c.wr))) (fun c h=>⟨h,trivial,trivial⟩) (fun _ _=>rfl) (fun _ _=>rfl) (fun _ h=>h.1)
theorem pl_srt:PL (fun s:Srt=>s.desc.length<=30/\inN 60 s.cols) (fun s=>s.desc.length<=bigM/\inN bigM s.cols) eSrt srtL :=
  ((PL.some bigM_lt pl_flag).seq ((pl_num (m:=60) (by decide)).seq pl_flag)).map (fun z:List Bool×(Int×Bool)=>(⟨z.1,z.2.1,z.2.2⟩:Srt)) (fun c=>(c.desc,(c.cols,c.dist)))
    (fun c h=>⟨⟨Nat.le_trans h.1 (by decide),fun _ _=>trivial⟩,h.2,trivial⟩) (fun _ _=>rfl) (fun _ _=>rfl) (fun _ h=>⟨h.1.1,h.2.1⟩)
theorem pl_tot:PL (fun c:Tot=>c.fn.size<=200) (fun c=>c.fn.size<=1048576) eTot totL :=
  (pl_text.seq pl_flag).map (fun z:ByteArray×Bool=>(⟨z.1,z.2⟩:Tot)) (fun c=>(c.fn,c.dist)) (fun c h=>⟨h,trivial⟩) (fun _ _=>rfl) (fun _ _=>rfl) (fun _ h=>h.1)
def progL:Rd Prog:=mapO ofT (seqO numL (seqO numL (seqO numL (seqO (someO bigM (textO 1048576)) (seqO (someO bigM (constO gV)) (seqO (someO bigM curL) (seqO (someO bigM srtL) (seqO (someO bigM totL) (someO bigM insO)))))))))
structure LimL (p:Prog):Prop where
  ver:inN bigM p.ver
  regs:inN bigM p.regs
  binds:inN bigM p.binds
  names:∀ s∈p.names,s.size<=1048576
  consts:∀ v∈p.consts,right v=true/\good v
  curs:∀ c∈p.curs,c.name.size<=1048576
  sorts:∀ s∈p.sorts,s.desc.length<=bigM/\inN bigM s.cols
  tots:∀ t∈p.tots,t.fn.size<=1048576
  code:∀ i∈p.code,limIns i
theorem pl_prog:PL (Lim (fun v=>right v=true/\good v)) LimL (bytesP constP) progL :=
  ((pl_num (m:=bigM) (Nat.le_refl _)).seq ((pl_num (m:=250) (by decide)).seq ((pl_num (m:=1000) (by decide)).seq ((PL.some bigM_lt pl_text).seq ((PL.some bigM_lt (pc_const fg).pl).seq ((PL.some bigM_lt pl_cur).seq ((PL.some bigM_lt pl_srt).seq ((PL.some bigM_lt pl_tot).seq (PL.some bigM_lt pc_ins.pl))))))))).map
    ofT toT (fun p h=>⟨h.ver,h.regs,h.binds,⟨Nat.le_trans h.names.1 (by decide),h.names.2⟩,⟨Nat.le_trans h.consts.1 (by decide),h.consts.2⟩,⟨Nat.le_trans h.curs.1 (by decide),h.curs.2⟩,⟨Nat.le_trans h.sorts.1 (by decide),h.sorts.2⟩,⟨Nat.le_trans h.tots.1 (by decide),h.tots.2⟩,⟨Nat.le_trans h.code.1 (by decide),h.code.2⟩⟩) (fun _ _=>rfl) (fun _ _=>rfl)
    (fun z h=>⟨h.1,h.2.1,h.2.2.1,h.2.2.2.1.2,h.2.2.2.2.1.2,h.2.2.2.2.2.1.2,h.2.2.2.2.2.2.1.2,h.2.2.2.2.2.2.2.1.2,h.2.2.2.2.2.2.2.2.2⟩)
end K15
set_option linter.unusedVariables false
set_option maxRecDepth 100000
namespace Go.Proofs.YtaifphjenebgoaaGreatDoor
open Go Go.Sx Value IntKind World Addr Builtin
noncomputable def record_Get.W:Option Addr->Nat->Nat->World->(Value->World->Prop)->Prop:=fun b_A b_n b_c w K=>CallsV Tryz.prog 69 #[slice b_A b_n b_c,int i64 0] w fun v w'=>∃ x x_1 x_2,
 v=tuple #[int u64 x,int i64 x_1,int i64 x_2]/\bif !decide (x_2=0) then K (tuple #[slice none 0 0,int i64 10]) w' else bif decide (200<x) then K (tuple #[slice
 none 0 0,int i64 10]) w' else bif decide (1048576<(b_n:Int)) then K (tuple #[slice none 0 0,int i64 10]) w' else ∃ (I:Int->Option Addr->Nat->Nat->Int->World->Prop)
 (μ:Int->Option Addr->Nat->Nat->Int->World->Nat),I x_1 none 0 0 0 w'/\∀ x_3 x_4 x_5 x_6 x_7 w,I x_3 x_4 x_5 x_6 x_7 w->bif decide (x_7<x) then CallsV Tryz.prog 69 #[slice
 b_A b_n b_c,int i64 x_3] w fun v w'=>∃ x x_8 x_9,v=tuple #[int u64 x,int i64 x_8,int i64 x_9]/\bif !decide (x_9=0) then K (tuple #[slice none 0 0,int i64 10]) w' else ∀ g
 w'_1,Fresh w' g w'_1 [int u64 x] 106->∃ x x_10 x_11 w',RunsTo Tryz.prog (append_ (Array.mk [140,140]) 140 #[slice x_4 x_5 x_6,slice (some (mk g 0 none)) 1 1]) w'_1 (slice x x_10
 x_11) w'/\I x_8 x x_10 x_11 (wrap u64 (x_7+1)) w'/\μ x_8 x x_10 x_11 (wrap u64 (x_7+1)) w'<μ x_3 x_4 x_5 x_6 x_7 w else ∃ (I:Int->Option Addr->Nat->Nat->Int->World->Prop) (μ:Int ->
 Option Addr->Nat->Nat->Int->World->Nat),I x_3 none 0 0 0 w/\∀ x x_8 x_9 x_10 x_11 w,I x x_8 x_9 x_10 x_11 w->bif decide (x_11<(x_5:Int)) then ∃ ad,x_4=some ad /\
 (0<=x_11/\x_11<(x_5:Int))/\∃ x_12,cell? w (add ad (Int.toNat x_11*1))=some (int u64 x_12)/\(0<=x/\x<=(b_n:Int))/\CallsV Tryz.prog 127 #[slice (cutAt b_A b_c (Int.toNat x) 1)
 (b_n-Int.toNat x) (b_c-Int.toNat x),int u64 x_12] w fun v w'=>∃ (x_13 x_14:Int) (x_15:ByteArray) (x_16:Int) (x_17:Bool),v=tuple #[agg #[int u8 x_13,int i64 x_14,string x_15],int
 i64 x_16,bool x_17]/\∀ g w'_1,Fresh w' g w'_1 [int u8 0,int i64 0,string (ByteArray.mk #[])] 54->stOK (mk g 0 none) 0 [int u8 x_13,int i64 x_14,string x_15] w'_1/\∀ w',w'=setAll (mk
 g 0 none) 0 [int u8 x_13,int i64 x_14,string x_15] w'_1->bif !x_17 then K (tuple #[slice none 0 0,int i64 10]) w' else ∃ x_18,cell? w' (add (mk g 0 none) 0)=some (int
 u8 x_18)/\∃ x_19,cell? w' (add (mk g 0 none) 1)=some (int i64 x_19)/\∃ (x_20:ByteArray),cell? w' (add (mk g 0 none) 2)=some (string x_20)/\∀ g w'_2,Fresh w' g
 w'_2 [int u8 x_18,int i64 x_19,string x_20] 54->∃ x_21 x_22 x_23 w',RunsTo Tryz.prog (append_ (Array.mk [23,23]) 23 #[slice x_8 x_9 x_10,slice (some (mk g 0 none)) 1 1]) w'_2 (slice
 x_21 x_22 x_23) w'/\I (wrap i64 (x+x_16)) x_21 x_22 x_23 (wrap i64 (x_11+1)) w'/\μ (wrap i64 (x+x_16)) x_21 x_22 x_23 (wrap i64 (x_11+1)) w'<μ x x_8 x_9 x_10 x_11 w else bif
 decide (x<(b_n:Int)) then K (tuple #[slice none 0 0,int i64 10]) w else K (tuple #[slice x_8 x_9 x_10,int i64 0]) w
theorem record_Get.calls (ok:Okay Tryz.prog) {b_A b_n b_c w K} (h:record_Get.W b_A b_n b_c w K):CallsV Tryz.prog 71 #[.slice b_A b_n b_c] w K :=
  fnW_calls ok Tryz.func71 (an:=(.named (.seq .auto (.seq .auto (.seq .auto (.seq .auto (.seq (.seq .auto (.block (.loop [(5,.one (.int .i64)),(7,.one .slc),(35,.one (.int .u64))] .auto))) (.seq .auto (.seq (.seq .auto (.block (.loop [(5,.one (.int .i64)),(11,.one .slc),(54,.one (.int .i64))] .auto))) .auto))))))))) (args:=[.slice b_A b_n b_c]) (Eq.mp (by kernel_rfl) h)
noncomputable def record_got.W:Option Addr->Nat->Nat->Int->World->(Value->World->Prop)->Prop:=fun b_A b_n b_c k w K=>∀ g w',Fresh w g w' [int u8 0,int i64 0,string (ByteArray.mk #[])]
 54->bif decide (k=0) then stOK (mk g 0 none) 0 [int u8 0,int i64 0,string (ByteArray.mk #[])] w'/\∀ w'_1,w'_1=setAll (mk g 0 none) 0 [int u8 0,int i64 0,string
 (ByteArray.mk #[])] w'->∃ x,cell? w'_1 (add (mk g 0 none) 0)=some (int u8 x)/\∃ x_1,cell? w'_1 (add (mk g 0 none) 1)=some (int i64 x_1)/\∃ (x_2:ByteArray),cell?
 w'_1 (add (mk g 0 none) 2)=some (string x_2)/\K (tuple #[agg #[int u8 x,int i64 x_1,string x_2],int i64 0,bool true]) w'_1 else bif decide (k<=8) then bif
 decide (wrap u64 (b_n:Int)<k) then stOK (mk g 0 none) 0 [int u8 0,int i64 0,string (ByteArray.mk #[])] w'/\∀ w'_1,w'_1=setAll (mk g 0 none) 0 [int u8 0,int i64 0,
 string (ByteArray.mk #[])] w'->∃ x,cell? w'_1 (add (mk g 0 none) 0)=some (int u8 x)/\∃ x_1,cell? w'_1 (add (mk g 0 none) 1)=some (int i64 x_1)/\∃ (x_2:ByteArray),
 cell? w'_1 (add (mk g 0 none) 2)=some (string x_2)/\K (tuple #[agg #[int u8 x,int i64 x_1,string x_2],int i64 0,bool false]) w'_1 else (0<=k/\k<=(b_c:Int))/\∃ (I:Int ->
 Int->World->Prop) (μ:Int->Int->World->Nat),I 0 0 w'/\∀ x x_1 w,I x x_1 w->bif decide (x_1<(↑(Int.toNat k-0):Int)) then ∃ ad,cutAt b_A b_c 0 1=some ad/\(0<=x_1 /\
 x_1<(↑(Int.toNat k-0):Int))/\∃ x_2,cell? w (add ad (Int.toNat x_1*1))=some (int u8 x_2)/\(0: Int)<=8/\I (wrap u64 (↑(BitVec.toNat (BitVec.ofInt 64 (wrap u64 (x*2 ^ Min.min
 (Int.toNat 8) 64)) ||| BitVec.ofInt 64 (wrap u64 x_2))):Int)) (wrap i64 (x_1+1)) w/\μ (wrap u64 (↑(BitVec.toNat (BitVec.ofInt 64 (wrap u64 (x*2 ^ Min.min (Int.toNat 8) 64)) ||| BitVec.ofInt 64
 (wrap u64 x_2))):Int)) (wrap i64 (x_1+1)) w<μ x x_1 w else 0<=wrap i64 (64-wrap i64 (8*wrap i64 k))/\0<=wrap i64 (64-wrap i64 (8*wrap i64 k))/\∀ g_1 w',Fresh w g_1 w' [int u8 0,int
 i64 0,string (ByteArray.mk #[])] 54->stOK (mk g_1 0 none) 0 [int u8 1,int i64 (Int.fdiv (wrap i64 (wrap i64 x*2 ^ Min.min (Int.toNat (wrap i64 (64-wrap i64 (8*wrap i64 k)))) 64)) (2 ^
 Min.min (Int.toNat (wrap i64 (64-wrap i64 (8*wrap i64 k)))) 64)),string (ByteArray.mk #[])] w'/\∀ w'_1,w'_1=setAll (mk g_1 0 none) 0 [int u8 1,int i64 (Int.fdiv (wrap i64 (wrap i64 x *
 2 ^ Min.min (Int.toNat (wrap i64 (64-wrap i64 (8*wrap i64 k)))) 64)) (2 ^ Min.min (Int.toNat (wrap i64 (64-wrap i64 (8*wrap i64 k)))) 64)),string (ByteArray.mk #[])] w'->∃ (S:World->Prop),
 S (drew w'_1)/\∃ x,(∀ u,S u->cell? u (add (mk g_1 0 none) 0)=some (int u8 x))/\∃ x_2,(∀ u,S u->cell? u (add (mk g_1 0 none) 1)=some (int i64 x_2))/\∃ (x_3 :
 ByteArray),(∀ u,S u->cell? u (add (mk g_1 0 none) 2)=some (string x_3))/\∃ x_4,(∀ u,S u->cell? u (add (mk g_1 0 none) 1)=some (int i64 x_4))/\CallsV Tryz.prog 67
 #[int i64 x_4] (drew w'_1) fun v w'=>∃ x_5,v=int i64 x_5/\S w'/\stOK (mk g 0 none) 0 [int u8 x,int i64 x_2,string x_3] w'/\∀ w'_2,w'_2=setAll (mk g 0 none) 0 [int u8 x,int
 i64 x_2,string x_3] w'->∃ x,cell? w'_2 (add (mk g 0 none) 0)=some (int u8 x)/\∃ x_6,cell? w'_2 (add (mk g 0 none) 1)=some (int i64 x_6)/\∃ (x_7:ByteArray),cell?
 w'_2 (add (mk g 0 none) 2)=some (string x_7)/\K (tuple #[agg #[int u8 x,int i64 x_6,string x_7],int i64 (wrap i64 k),bool (decide (x_5=wrap i64 k))]) w'_2 else bif
 decide (k=9) then stOK (mk g 0 none) 0 [int u8 0,int i64 0,string (ByteArray.mk #[])] w'/\∀ w'_1,w'_1=setAll (mk g 0 none) 0 [int u8 0,int i64 0,string (ByteArray.mk
 #[])] w'->∃ x,cell? w'_1 (add (mk g 0 none) 0)=some (int u8 x)/\∃ x_1,cell? w'_1 (add (mk g 0 none) 1)=some (int i64 x_1)/\∃ (x_2:ByteArray),cell? w'_1 (add (mk
 g 0 none) 2)=some (string x_2)/\K (tuple #[agg #[int u8 x,int i64 x_1,string x_2],int i64 0,bool false]) w'_1 else (2: Int)≠0/\bif decide (65536<wrap u64
 (Int.tdiv (wrap u64 (k-10)) 2)) then stOK (mk g 0 none) 0 [int u8 0,int i64 0,string (ByteArray.mk #[])] w'/\∀ w'_1,w'_1=setAll (mk g 0 none) 0 [int u8 0,int i64 0,string
 (ByteArray.mk #[])] w'->∃ x,cell? w'_1 (add (mk g 0 none) 0)=some (int u8 x)/\∃ x_1,cell? w'_1 (add (mk g 0 none) 1)=some (int i64 x_1)/\∃ (x_2:ByteArray),cell?
 w'_1 (add (mk g 0 none) 2)=some (string x_2)/\K (tuple #[agg #[int u8 x,int i64 x_1,string x_2],int i64 0,bool false]) w'_1 else (2: Int)≠0/\bif decide (wrap u64
 (b_n:Int)<wrap u64 (Int.tdiv (wrap u64 (k-10)) 2)) then stOK (mk g 0 none) 0 [int u8 0,int i64 0,string (ByteArray.mk #[])] w'/\∀ w'_1,w'_1=setAll (mk g 0 none) 0 [int u8 0,
 int i64 0,string (ByteArray.mk #[])] w'->∃ x,cell? w'_1 (add (mk g 0 none) 0)=some (int u8 x)/\∃ x_1,cell? w'_1 (add (mk g 0 none) 1)=some (int i64 x_1)/\∃ (x_2 :
 ByteArray),cell? w'_1 (add (mk g 0 none) 2)=some (string x_2)/\K (tuple #[agg #[int u8 x,int i64 x_1,string x_2],int i64 0,bool false]) w'_1 else (2: Int)≠0/\(2: Int)≠0
 /\ bif decide (Int.tmod k (2: Int)=1) then (0<=wrap i64 (Int.tdiv (wrap i64 (wrap u64 (k-10))) 2)/\wrap i64 (Int.tdiv (wrap i64 (wrap u64 (k-10))) 2)<=(b_c:Int))/\∃ (x:ByteArray)
 (w'_1:World),RunsTo Tryz.prog (convert 32 9 (slice (cutAt b_A b_c 0 1) (Int.toNat (wrap i64 (Int.tdiv (wrap i64 (wrap u64 (k-10))) 2))-0) (b_c-0))) w' (string x) w'_1/\stOK (mk g 0
 none) 0 [int u8 2,int i64 0,string x] w'_1/\∀ w',w'=setAll (mk g 0 none) 0 [int u8 2,int i64 0,string x] w'_1->∃ x,cell? w' (add (mk g 0 none) 0)=some (int u8 x)
 /\ ∃ x_1,cell? w' (add (mk g 0 none) 1)=some (int i64 x_1)/\∃ (x_2:ByteArray),cell? w' (add (mk g 0 none) 2)=some (string x_2)/\K (tuple #[agg #[int u8 x,int i64
 x_1,string x_2],int i64 (wrap i64 (Int.tdiv (wrap i64 (wrap u64 (k-10))) 2)),bool true]) w' else (0<=wrap i64 (Int.tdiv (wrap i64 (wrap u64 (k-10))) 2)/\wrap i64 (Int.tdiv (wrap i64 (wrap
 u64 (k-10))) 2)<=(b_c:Int))/\∃ (x:ByteArray) (w'_1:World),RunsTo Tryz.prog (convert 32 9 (slice (cutAt b_A b_c 0 1) (Int.toNat (wrap i64 (Int.tdiv (wrap i64 (wrap u64 (k-10))) 2))-0)
 (b_c-0))) w' (string x) w'_1/\stOK (mk g 0 none) 0 [int u8 3,int i64 0,string x] w'_1/\∀ w',w'=setAll (mk g 0 none) 0 [int u8 3,int i64 0,string x] w'_1->∃ x,cell? w' (add
 (mk g 0 none) 0)=some (int u8 x)/\∃ x_1,cell? w' (add (mk g 0 none) 1)=some (int i64 x_1)/\∃ (x_2:ByteArray),cell? w' (add (mk g 0 none) 2)=some
 (string x_2)/\K (tuple #[agg #[int u8 x,int i64 x_1,string x_2],int i64 (wrap i64 (Int.tdiv (wrap i64 (wrap u64 (k-10))) 2)),bool true]) w'
theorem record_got.calls (ok:Okay Tryz.prog) {b_A b_n b_c k w K} (h:record_got.W b_A b_n b_c k w K):CallsV Tryz.prog 127 #[.slice b_A b_n b_c,.int .u64 k] w K :=
  fnW_calls ok Tryz.func127 (an:=(.named (.seq .auto (.seq (.block (.seq .auto (.cond .auto (.seq .auto (.cond (.seq .auto (.seq .auto (.seq (.seq .auto (.block (.loop [(7,.one (.int .u64)),(31,.one (.int .i64))] .auto))) .auto))) .auto))))) .auto)))) (args:=[.slice b_A b_n b_c,.int .u64 k]) (Eq.mp (by kernel_rfl) h)
end Go.Proofs.YtaifphjenebgoaaGreatDoor
set_option linter.unusedVariables false
set_option linter.unusedSimpArgs false
namespace Go.Proofs.YtaifphjenebgoaaGreatDoor
open Go Go.Sx R1
def agW (v:V):Value:=.agg #[.int .u8 v.k,.int .i64 v.n,.string v.s]
theorem setW3 {w:World} {g:Nat} {x y z:Value} (b:Blk w g [x,y,z]) (p q r:Value):Blk (setAll ⟨g,0,none⟩ 0 [p,q,r] w) g [p,q,r]:=Blk.setAll (o:=0) [p,q,r] 0 b
theorem okW3 {w:World} {g:Nat} {x y z:Value} (b:Blk w g [x,y,z]) (p q r:Value):stOK ⟨g,0,none⟩ 0 [p,q,r] w:=b.stOK [p,q,r] 0 (by simp)
theorem or_byte {x c:Nat} (hx:x<72057594037927936) (hc:c<256):IntKind.u64.wrap ((BitVec.toNat (BitVec.ofInt 64 (IntKind.u64.wrap ((x:Int)*2 ^ min (Int.toNat 8) 64)) ||| BitVec.ofInt 64 (IntKind.u64.wrap (c:Int))):Nat):Int)=((x*256+c:Nat):Int):=by
  have e8:min (Int.toNat 8) 64=8:=by decide
  rw [e8,show (2:Int) ^ 8=256 by decide,wu ((x:Int)*256) (by omega) (by omega),wu (c:Int) (by omega) (by omega)]
  rw [BitVec.toNat_or,BitVec.toNat_ofInt,BitVec.toNat_ofInt]
  have e64:((2 ^ 64:Nat):Int)=18446744073709551616:=by decide
  rw [e64]
  have e1:((x:Int)*256 % 18446744073709551616).toNat=2 ^ 8*x:=by omega
  have e2:((c:Int) % 18446744073709551616).toNat=c:=by omega
  rw [e1,e2,<- Nat.two_pow_add_eq_or_of_lt (by omega:c<2 ^ 8),wu _ (by omega) (by omega)]
  omega
theorem sgn_shift {k m:Nat} (hk : 1<=k) (hk':k<=8) (hm:m<256 ^ k) :
    Int.fdiv (IntKind.i64.wrap (IntKind.i64.wrap (m:Int)*2 ^ min (Int.toNat (IntKind.i64.wrap (64-IntKind.i64.wrap (8*IntKind.i64.wrap (k:Int))))) 64)) (2 ^ min (Int.toNat (IntKind.i64.wrap (64-IntKind.i64.wrap (8*IntKind.i64.wrap (k:Int))))) 64)=sgn k m:=by
  have e:IntKind.i64.wrap (64-IntKind.i64.wrap (8*IntKind.i64.wrap (k:Int)))=((64-8*k:Nat):Int):=by
    rw [wi (k:Int) (by omega) (by omega),wi (8*(k:Int)) (by omega) (by omega),wi _ (by omega) (by omega)];omega
  rw [e,Int.toNat_natCast,IntKind.wrap_i64,IntKind.wrap_i64,Int.fdiv_eq_ediv_of_nonneg _ (by exact Int.le_of_lt (Int.pow_pos (by decide)))]
  unfold sgn
  obtain rfl|rfl|rfl|rfl|rfl|rfl|rfl|rfl:k=1\/k=2\/k=3\/k=4\/k=5\/k=6\/k=7\/k=8:=by omega
  all_goals
    simp only [Nat.reduceMul,Nat.reduceSub,Nat.reducePow,Int.reducePow,show min 56 64=56 from rfl,show min 48 64=48 from rfl,show min 40 64=40 from rfl,show min 32 64=32 from rfl,show min 24 64=24 from rfl,show min 16 64=16 from rfl,show min 8 64=8 from rfl,show min 0 64=0 from rfl,Int.cast_ofNat_Int] at hm ⊢
    split<;>omega
theorem sgn_range {k m:Nat} (hk : 1<=k) (hk':k<=8) (hm:m<256 ^ k) : -9223372036854775808<=sgn k m/\sgn k m<=9223372036854775807:=by
  unfold sgn
  obtain rfl|rfl|rfl|rfl|rfl|rfl|rfl|rfl:k=1\/k=2\/k=3\/k=4\/k=5\/k=6\/k=7\/k=8:=by omega
  all_goals
    simp only [Nat.reduceMul,Nat.reduceSub,Nat.reducePow,Int.cast_ofNat_Int] at hm ⊢
    split<;>omega
def TellsV (w:World) (o:Option (V×Nat)) (r:Value) (w':World):Prop:=∃ v n,r=.tuple #[agW v,.int .i64 (n:Nat),.bool o.isSome]/\(∀ x,o=some x->x=(v,n))/\Ext w w'
theorem take_snoc8 (l:List UInt8) (j:Nat) (h:j<l.length):l.take (j+1)=l.take j++[l.getD j 0]:=by
  rw [List.take_add_one];simp [List.getD,h]
theorem cutZ {A:Option Addr} {m sz:Nat}:cutAt A m 0 sz=A:=by
  unfold cutAt
  split
  · rfl
  · cases A<;>simp [add_zero']
theorem itemB8 {Ω:Nat->Prop} {w:World} {A:Option Addr} {l:List UInt8} (h:Imm KB Ω w A l) {j:Nat} (h1:j<l.length) :
    ∃ ad,A=some ad/\w.cell? (ad.add (j*1))=some (.int .u8 ((l.getD j 0).toNat:Int)):=by
  have hg:l[j]?=some (l.getD j 0):=by simp [List.getD,h1]
  obtain ⟨ad,hA,hn,cs,hr,hcell⟩:=h j _ hg
  have hr:cs=[u8 (l.getD j 0)]:=hr
  subst hr
  exact ⟨ad,hA,hcell 0 _ rfl⟩
theorem got_spec {w:World} {A:Option Addr} {c n:Nat} {b:List UInt8} (hn:n=b.length) (h:Imm KB NoB w A b) (hl:b.length<=1048576) (hc:b.length<=c) (k:Nat) (hk:k<18446744073709551616) :
    CallsV Tryz.prog 127 #[.slice A n c,.int .u64 (k:Int)] w fun r w'=>TellsV w (got b k) r w':=by
  subst hn
  refine record_got.calls okay ?_
  unfold record_got.W got
  intro g w1 f1
  have b1:=f1.blk
  have e1:=f1.ext
  have none':∀ (o:Option (V×Nat)),o=none->stOK (⟨g,0,none⟩:Addr) 0 [.int .u8 0,.int .i64 0,.string (ByteArray.mk #[])] w1/\∀ w2,w2=setAll ⟨g,0,none⟩ 0 [.int .u8 0,.int .i64 0,.string (ByteArray.mk #[])] w1 ->
      ∃ x,w2.cell? ((⟨g,0,none⟩:Addr).add 0)=some (.int .u8 x)/\∃ x_1,w2.cell? ((⟨g,0,none⟩:Addr).add (0+1))=some (.int .i64 x_1)/\∃ x_2,w2.cell? ((⟨g,0,none⟩:Addr).add (0+1+1))=some (.string x_2)/\TellsV w o (.tuple #[.agg #[.int .u8 x,.int .i64 x_1,.string x_2],.int .i64 0,.bool false]) w2:=by
    rintro o rfl
    refine ⟨okW3 b1 _ _ _,?_⟩
    rintro w2 rfl
    have b2:=setW3 b1 (.int .u8 0) (.int .i64 0) (.string (ByteArray.mk #[]))
    exact ⟨_,b2.cell rfl,_,b2.cell rfl,_,b2.cell rfl,⟨0,0,ByteArray.mk #[]⟩,0,rfl,fun x hx=>(by cases hx),e1.setAll f1.ge _ _⟩
  refine brd (fun h0=>?_) (fun h0=>?_)
  · rw [if_pos (by omega)]
    refine ⟨okW3 b1 _ _ _,?_⟩
    rintro w2 rfl
    have b2:=setW3 b1 (.int .u8 0) (.int .i64 0) (.string (ByteArray.mk #[]))
    exact ⟨_,b2.cell rfl,_,b2.cell rfl,_,b2.cell rfl,⟨0,0,ByteArray.mk #[]⟩,0,rfl,fun x hx=>(by cases hx;rfl),e1.setAll f1.ge _ _⟩
  rw [if_neg (by omega)]
  have wl:IntKind.u64.wrap (b.length:Int)=(b.length:Int):=wu _ (by omega) (by omega)
  refine brd (fun h8=>?_) (fun h8=>?_)
  · rw [if_pos (by omega),wl]
    refine brd (fun hs=>none' _ (by rw [if_pos (by omega)])) (fun hs=>?_)
    rw [if_neg (by omega)]
    refine ⟨⟨by omega,by omega⟩,?_⟩
    simp only [Int.toNat_natCast,Nat.sub_zero,cutZ]
    refine ⟨fun x y u=>∃ j:Nat,j<=k/\y=(j:Int)/\x=(be (b.take j):Int)/\u=w1,fun _ y _=>(k-y).toNat,⟨0,by omega,rfl,rfl,rfl⟩,?_⟩
    rintro _ _ u ⟨j,hj,rfl,rfl,rfl⟩
    have hbl:=be_lt (b.take j)
    rw [List.length_take,Nat.min_eq_left (by omega)] at hbl
    refine brd (fun hlt=>?_) (fun hge=>?_)
    · obtain ⟨ad,hA,hcl⟩:=itemB8 (h.ext KB_pos e1) (j:=j) (by omega)
      have h7 : 256 ^ j<=256 ^ 7:=Nat.pow_le_pow_right (by decide) (by omega)
      have hb:=(b.getD j 0).toNat_lt
      refine ⟨ad,hA,⟨by omega,by omega⟩,_,by rw [Int.toNat_natCast];exact hcl,by omega,?_⟩
      rw [or_byte (Nat.lt_of_lt_of_le hbl h7) hb,wi _ (by omega) (by omega)]
      refine ⟨⟨j+1,by omega,rfl,?_,rfl⟩,by dsimp only;omega⟩
      rw [take_snoc8 _ _ (by omega),be_snoc]
    · obtain rfl:j=k:=by omega
      have e8:IntKind.i64.wrap (64-IntKind.i64.wrap (8*IntKind.i64.wrap (j:Int)))=((64-8*j:Nat):Int):=by
        rw [wi (j:Int) (by omega) (by omega),wi (8*(j:Int)) (by omega) (by omega),wi _ (by omega) (by omega)];omega
      rw [sgn_shift (by omega) (by omega) hbl]
      obtain ⟨hr1,hr2⟩:=sgn_range (by omega) (show j<=8 by omega) hbl
      generalize sgn j (be (b.take j))=N at *
      refine ⟨by rw [e8];omega,by rw [e8];omega,?_⟩
      intro g2 w2 f2
      refine ⟨okW3 f2.blk _ _ _,?_⟩
      rintro w3 hw3
      have b3:=setW3 f2.blk (.int .u8 1) (.int .i64 N) (.string (ByteArray.mk #[]))
      have e3:Ext u w3:=by rw [hw3];exact f2.ext.setAll f2.ge _ _
      rw [<- hw3] at b3
      have ed:Ext w3 w3.drew:=Fr.drew NoB w3
      refine ⟨fun z=>Blk z g2 [.int .u8 1,.int .i64 N,.string (ByteArray.mk #[])],b3.ext ed,_,fun z hz=>hz.cell rfl,_,fun z hz=>hz.cell rfl,_,fun z hz=>hz.cell rfl,_,fun z hz=>hz.cell rfl,?_⟩
      refine (wide_spec _ N hr1 hr2).same ⟨_,rfl,b3.ext ed,?_⟩
      have b1':=b1.ext (e3.trans' ed)
      refine ⟨okW3 b1' _ _ _,?_⟩
      rintro w4 rfl
      have b4:=setW3 b1' (.int .u8 1) (.int .i64 N) (.string (ByteArray.mk #[]))
      have hj8:IntKind.i64.wrap (j:Int)=(j:Int):=wi _ (by omega) (by omega)
      refine ⟨_,b4.cell rfl,_,b4.cell rfl,_,b4.cell rfl,⟨1,N,ByteArray.mk #[]⟩,j,?_,?_,(e1.trans' (e3.trans' ed)).setAll f1.ge _ _⟩
      · rw [hj8]
        by_cases hw:wide N=j
        · rw [if_pos hw,hw];simp [agW]
        · rw [if_neg hw,decide_eq_false (by omega)];rfl
      · intro x hx
        split at hx
        · cases hx;rfl
        · cases hx
  rw [if_neg (by omega)]
  refine brd (fun h9=>none' _ (by rw [if_pos (by omega)])) (fun h9=>?_)
  rw [if_neg (by omega)]
  have wk:IntKind.u64.wrap ((k:Int)-10)=((k-10:Nat):Int):=by rw [wu _ (by omega) (by omega)];omega
  have td:Int.tdiv ((k-10:Nat):Int) 2=(((k-10) / 2:Nat):Int):=by rw [Int.tdiv_eq_ediv_of_nonneg (by omega)];rfl
  have wt:IntKind.u64.wrap (((k-10) / 2:Nat):Int)=(((k-10) / 2:Nat):Int):=wu _ (by omega) (by omega)
  rw [wk,td,wt,wl]
  refine ⟨by decide,brd (fun hb=>none' _ (by rw [if_pos (by omega)])) (fun hb=>?_)⟩
  rw [if_neg (by omega)]
  refine ⟨by decide,brd (fun hb=>none' _ (by rw [if_pos (by omega)])) (fun hb2=>?_)⟩
  rw [if_neg (by omega)]
  have wi2:IntKind.i64.wrap ((k-10:Nat):Int)=((k-10:Nat):Int):=wi _ (by omega) (by omega)
  have wi3:IntKind.i64.wrap (((k-10) / 2:Nat):Int)=(((k-10) / 2:Nat):Int):=wi _ (by omega) (by omega)
  have tm:Int.tmod (k:Int) 2=((k % 2:Nat):Int):=by rw [Int.tmod_eq_emod_of_nonneg (by omega)];rfl
  rw [wi2,td,wi3,tm]
  simp only [Int.toNat_natCast,Nat.sub_zero,cutZ]
  have hcut:Imm KB NoB w1 A (b.take ((k-10) / 2)):=by
    have:=(h.ext KB_pos e1).cut (lo:=0) (hi:=(k-10) / 2) (m:=c) (by omega)
    rw [List.drop_zero] at this
    rwa [show cutAt A c 0 KB.size=A from cutZ] at this
  have hstr:=to_str bt hcut c
  have hlen:(b.take ((k-10) / 2)).length=(k-10) / 2:=by rw [List.length_take];omega
  rw [hlen] at hstr
  refine ⟨by decide,by decide,brd (fun h2=>?_) (fun h2=>?_)⟩
  all_goals
    refine ⟨⟨by omega,by omega⟩,_,_,hstr,okW3 b1 _ _ _,?_⟩
    rintro w4 rfl
  · have b4:=setW3 b1 (.int .u8 2) (.int .i64 0) (.string ⟨(b.take ((k-10) / 2)).toArray⟩)
    refine ⟨_,b4.cell rfl,_,b4.cell rfl,_,b4.cell rfl,⟨2,0,⟨(b.take ((k-10) / 2)).toArray⟩⟩,(k-10) / 2,rfl,fun x hx=>?_,e1.setAll f1.ge _ _⟩
    rw [if_pos (by omega)] at hx;cases hx;rfl
  · have b4:=setW3 b1 (.int .u8 3) (.int .i64 0) (.string ⟨(b.take ((k-10) / 2)).toArray⟩)
    refine ⟨_,b4.cell rfl,_,b4.cell rfl,_,b4.cell rfl,⟨3,0,⟨(b.take ((k-10) / 2)).toArray⟩⟩,(k-10) / 2,rfl,fun x hx=>?_,e1.setAll f1.ge _ _⟩
    rw [if_neg (by omega)] at hx;cases hx;rfl
end Go.Proofs.YtaifphjenebgoaaGreatDoor
set_option linter.unusedVariables false
set_option linter.unusedSimpArgs false
namespace Go.Proofs.YtaifphjenebgoaaGreatDoor
open Go Go.Sx R1
theorem getU_ok {l:List UInt8} {at_:Int} (h:(B1.getU l at_).2.2=0) : 0<=at_/\(B1.getU l at_).1<18446744073709551616/\at_<(B1.getU l at_).2.1/\(B1.getU l at_).2.1<=l.length:=by
  unfold B1.getU at h ⊢
  by_cases hr:at_<0\/(l.length:Int)<at_
  · rw [if_pos hr] at h;cases h
  · rw [if_neg hr] at h ⊢
    have hd:=B1.dec_eq (l.drop at_.toNat) 0
    by_cases hs:B1.scan 0 (l.drop at_.toNat)<(l.drop at_.toNat).length
    · rw [if_pos hs] at hd
      by_cases hb:(0<0+B1.scan 0 (l.drop at_.toNat)/\((l.drop at_.toNat).getD (B1.scan 0 (l.drop at_.toNat)) 0).toNat=0)\/(0+B1.scan 0 (l.drop at_.toNat)=9/\2<=((l.drop at_.toNat).getD (B1.scan 0 (l.drop at_.toNat)) 0).toNat)
      · rw [if_pos hb] at hd
        rw [hd] at h;cases h
      · rw [if_neg hb] at hd
        rw [hd]
        have hv:=B1.vt_lt_u64 hs (fun h=>hb (.inr ⟨by omega,h.2⟩))
        rw [List.length_drop] at hs
        simp only [B1.Dec.at]
        refine ⟨by omega,hv,by omega,by omega⟩
    · rw [if_neg hs] at hd
      rw [hd] at h;cases h
theorem got_le {b:List UInt8} {k:Nat} {v:V} {n:Nat} (h:got b k=some (v,n)):n<=b.length:=by
  unfold got at h
  split at h
  · cases h;omega
  · split at h
    · split at h
      · cases h
      · split at h
        · cases h;omega
        · cases h
    · split at h
      · cases h
      · split at h
        · cases h
        · split at h
          · cases h
          · cases h;omega
theorem slV:SlT Tryz.prog 23 54 3 32 [.int .u8 0,.int .i64 0,.string ByteArray.empty]:=⟨by kernel_rfl,⟨Tryz.t54,by kernel_rfl,by kernel_rfl,by kernel_rfl,.agg #[.int .u8 0,.int .i64 0,.string ByteArray.empty],by kernel_rfl,by kernel_rfl⟩,rfl,by decide⟩
theorem slU:SlT Tryz.prog 140 106 1 8 [.int .u64 0]:=⟨by kernel_rfl,⟨Tryz.t106,by kernel_rfl,by kernel_rfl,by kernel_rfl,.int .u64 0,by kernel_rfl,by kernel_rfl⟩,rfl,by decide⟩
abbrev KU:Kd Int:=Kd.int .u64
theorem KU_pos : 0<KU.size:=by decide
def getR (b:List UInt8):List V×Int:=match getP b with|none=>([],10)|some row=>(row,0)
def TellsR (w:World) (r:List V×Int) (v:Value) (w':World):Prop:=∃ A c,v=.tuple #[.slice A r.1.length c,.int .i64 r.2]/\OwnK KV w' A c r.1/\Ext w w'/\New w A
theorem TellsR.nil {w w':World} (e:Ext w w') (x:Int):TellsR w ([],x) (.tuple #[.slice none 0 0,.int .i64 x]) w':=⟨none,0,rfl,OwnK.nil _ _,e,New.none _⟩
def natI (k:Nat):Int:=(k:Int)
theorem getN {l:List Nat} {i:Nat} (h:i<l.length):(l.map natI)[i]?=some ((l.getD i 0:Nat):Int):=by simp [List.getD,h,natI]
theorem dropN (l:List Nat) (i:Nat) (h:i<l.length):l.drop i=l.getD i 0::l.drop (i+1):=by rw [List.drop_eq_getElem_cons h];simp [List.getD,h]
theorem Get_spec {w:World} {A:Option Addr} {c n:Nat} {b:List UInt8} (hn:n=b.length) (h:Imm KB NoB w A b) (hl:b.length<=140737488355328) (hc:b.length<=c) :
    CallsV Tryz.prog 71 #[.slice A n c] w fun r w'=>TellsR w (getR b) r w':=by
  subst hn
  refine record_Get.calls okay ?_
  unfold record_Get.W
  have bad:∀ {w'},getP b=none->Ext w w'->TellsR w (getR b) (.tuple #[.slice none 0 0,.int .i64 10]) w':=by
    intro w' hp e
    unfold getR;rw [hp];exact TellsR.nil e 10
  refine (GetUint_spec h hl 0).mono ?_
  rintro _ w1 ⟨rfl,e1⟩
  refine ⟨_,_,_,rfl,?_⟩
  refine brn (fun he=>bad (by unfold getP;rw [if_pos (.inl he)]) e1) (fun he=>brd (fun h2=>bad (by unfold getP;rw [if_pos (.inr (.inl (by omega)))]) e1) (fun h2=>brd (fun h3=>bad (by unfold getP;rw [if_pos (.inr (.inr (by omega)))]) e1) (fun h3=>?_)))
  obtain ⟨_,hm0,ha0,hb0⟩:=getU_ok he
  have hP:getP b=match sortsP b (B1.getU b 0).1 (B1.getU b 0).2.1 with
    | none=>none
    | some (ks,at_)=>match rowsP b ks at_.toNat with
      | none=>none
      | some (row,e)=>if e<b.length then none else some row:=by
    unfold getP;rw [if_neg (by rintro (h|h|h)<;>omega)]<;>rfl
  generalize (B1.getU b 0).2.1=at0 at *
  generalize (B1.getU b 0).1=N at *
  have hN:N<=200:=by omega
  have hbl:b.length<=1048576:=by omega
  refine ⟨fun x x4 x5 x6 y u=>∃ (i:Nat) (dn:List Nat),i<=N/\y=(i:Int)/\dn.length=i/\x5=(dn.map natI).length/\(∀ k∈dn,k<18446744073709551616)/\0<=x/\x<=b.length/\sortsP b N at0=(sortsP b (N-i) x).map (fun r=>(dn++r.1,r.2))/\OwnK KU u x4 x6 (dn.map natI)/\Ext w u/\New w x4,
    fun _ _ _ _ y _=>(N-y).toNat,⟨0,[],by omega,rfl,rfl,rfl,fun _ h=>(by cases h),by omega,by omega,by cases hh:sortsP b N at0<;>simp [hh],OwnK.nil _ _,e1,New.none _⟩,?_⟩
  rintro x x4 _ x6 _ u ⟨i,dn,hi,rfl,hdl,rfl,hdn,hx0,hxl,hso,ho,eu,nu⟩
  refine brd (fun hlt=>?_) (fun hge=>?_)
  · refine (GetUint_spec (h.ext KB_pos eu) hl x).mono ?_
    rintro _ u1 ⟨rfl,a1⟩
    have e1':=eu.trans' a1
    refine ⟨_,_,_,rfl,?_⟩
    have hst:sortsP b (N-i) x=if (B1.getU b x).2.2≠0 then none else (sortsP b (N-(i+1)) (B1.getU b x).2.1).map fun r=>((B1.getU b x).1::r.1,r.2):=by
      rw [show N-i=(N-(i+1))+1 by omega,sortsP]
    refine brn (fun hne=>bad (by rw [hP,hso,hst,if_pos hne];rfl) e1') (fun heq=>?_)
    rw [if_neg (by simpa using heq)] at hst
    obtain ⟨_,g1,g2,g3⟩:=getU_ok heq
    generalize (B1.getU b x).1=k at *
    generalize (B1.getU b x).2.1=nx at *
    intro gn u2 f2
    obtain ⟨rfl,rfl⟩:=f2
    have hlen:(dn.map natI).length=i:=by rw [List.length_map];exact hdl
    obtain ⟨y,y2,u3,hr3,ho3,g3'⟩:=(ho.ext a1).push slU (ty:=140) (K:=KU) (a:=(k:Int)) (cs:=[.int .u64 (k:Int)]) (e':=106) rfl (by simp [Value.oneCell']) (by simp only [maxLen];omega) (by omega)
    have hsn:(dn++[k]).map natI=dn.map natI++[(k:Int)]:=by simp [natI]
    rw [<- hsn] at hr3 ho3
    refine ⟨_,_,_,_,hr3,?_⟩
    rw [wu _ (by omega) (by omega)]
    refine ⟨⟨i+1,dn++[k],by omega,rfl,by simp [hdl],rfl,fun q hq=>?_,by omega,by omega,?_,ho3,g3'.ext e1' nu,g3'.new e1' nu⟩,by dsimp only;omega⟩
    · rcases List.mem_append.1 hq with hq|hq
      · exact hdn q hq
      · rw [List.mem_singleton.1 hq];exact g1
    · rw [hso,hst]
      cases sortsP b (N-(i+1)) nx<;>simp
  · obtain rfl:i=N:=by omega
    rw [Nat.sub_self] at hso
    have hso':sortsP b i at0=some (dn,x):=by rw [hso];simp [sortsP]
    rw [hso'] at hP
    dsimp only at hP
    have iK:=ho.imm KU_pos
    refine ⟨fun y x8 x9 x10 q v=>∃ (j at_:Nat) (row:List V),j<=dn.length/\q=(j:Int)/\y=(at_:Int)/\at_<=b.length/\x9=row.length/\row.length=j/\rowsP b dn x.toNat=(rowsP b (dn.drop j) at_).map (fun r=>(row++r.1,r.2))/\OwnK KV v x8 x10 row/\Ext u v/\New u x8,
      fun _ _ _ _ q _=>(dn.length-q).toNat,⟨0,x.toNat,[],by omega,rfl,by omega,by omega,rfl,rfl,by cases hh:rowsP b dn x.toNat<;>simp [hh],OwnK.nil _ _,.refl _ _,New.none _⟩,?_⟩
    rintro _ x8 _ x10 _ v ⟨j,at_,row,hj,rfl,rfl,hat,rfl,hrl,hro,hoR,ev,nv⟩
    have ewv:=eu.trans' ev
    refine brd (fun hlt=>?_) (fun hge=>?_)
    · have hjl:j<dn.length:=by simp at hlt;omega
      obtain ⟨ad,hA,hno,cs,hr,hcl⟩:=iK j _ (getN hjl)
      have hr:cs=[.int .u64 ((dn.getD j 0:Nat):Int)]:=hr
      subst hr
      have hcell:=ev.cell (fun h=>h) (hcl 0 _ rfl)
      have hkk:dn.getD j 0<18446744073709551616:=hdn _ (by simp [List.getD,hjl])
      have hdrop:=dropN dn j hjl
      rw [hdrop] at hro
      generalize dn.getD j 0=k at *
      simp only [Int.toNat_natCast]
      have hcut:Imm KB NoB v (cutAt A c at_ 1) (b.drop at_):=by
        have:=(h.ext KB_pos ewv).cut (lo:=at_) (hi:=b.length) (m:=c) hc
        rwa [List.take_length] at this
      refine ⟨ad,hA,⟨by omega,by omega⟩,_,hcell,⟨by omega,by omega⟩,?_⟩
      refine (got_spec (by rw [List.length_drop]) hcut (by rw [List.length_drop];omega) (by rw [List.length_drop];omega) k hkk).mono ?_
      rintro _ v1 ⟨val,nn,rfl,hval,a1⟩
      refine ⟨_,_,_,_,_,rfl,?_⟩
      intro g v2 f2
      refine ⟨okW3 f2.blk _ _ _,?_⟩
      intro v3 hv3
      have b3:=setW3 f2.blk (.int .u8 val.k) (.int .i64 val.n) (.string val.s)
      have e3:Ext v1 v3:=by rw [hv3];exact f2.ext.setAll f2.ge _ _
      rw [<- hv3] at b3
      have ev3:=ev.trans' (a1.trans' e3)
      cases hgot:got (b.drop at_) k with
      | none =>
        refine brnb (fun _=>bad ?_ (eu.trans' ev3)) (fun h=>by cases h)
        rw [hP,hro,rowsP,hgot];rfl
      | some pr =>
        obtain ⟨val',n'⟩:=pr
        have:=hval _ hgot
        cases this
        have hle:=got_le hgot
        rw [List.length_drop] at hle
        refine brnb (fun h=>by cases h) (fun _=>⟨_,b3.cell rfl,_,b3.cell rfl,_,b3.cell rfl,?_⟩)
        intro g4 v4 f4
        obtain ⟨rfl,rfl⟩:=f4
        obtain ⟨y,y2,v5,hr5,ho5,g5⟩:=(hoR.ext (a1.trans' e3)).push slV (ty:=23) (K:=KV) (a:=val) (cs:=vc val) (e':=54) rfl (KV_one (fun _=>False) v3 val (vc val) rfl) (by simp only [maxLen];omega) (by omega)
        refine ⟨_,_,_,_,hr5,?_⟩
        rw [wi _ (by omega) (by omega),wi _ (by omega) (by omega)]
        refine ⟨⟨j+1,at_+nn,row++[val],by omega,rfl,by omega,by omega,rfl,by simp [hrl],?_,ho5,g5.ext ev3 nv,g5.new ev3 nv⟩,by omega⟩
        rw [hro,rowsP,hgot]
        dsimp only
        cases rowsP b (dn.drop (j+1)) (at_+nn)<;>simp
    · have hjl:j=dn.length:=by simp at hge;omega
      subst hjl
      rw [List.drop_length] at hro
      have hro':rowsP b dn x.toNat=some (row,at_):=by rw [hro];simp [rowsP]
      rw [hro'] at hP
      dsimp only at hP
      refine brd (fun hlt=>bad (by rw [hP,if_pos (by omega)]) ewv) (fun hge2=>?_)
      unfold getR
      rw [hP,if_neg (by omega)]
      exact ⟨x8,x10,rfl,hoR,ewv,nv.ext eu⟩
end Go.Proofs.YtaifphjenebgoaaGreatDoor
set_option linter.unusedVariables false
set_option linter.unusedSimpArgs false
namespace Go.Proofs.YtaifphjenebgoaaGreatDoor
open Go Go.Sx R1
theorem sameR_spec {w:World} {A B:Option Addr} {c d n m:Nat} {a b:List UInt8} (hn:n=a.length) (hm:m=b.length) (hA:Imm KB NoB w A a) (hB:Imm KB NoB w B b) (hl:a.length<=1000000000000) :
    CallsV Tryz.prog 109 #[.slice A n c,.slice B m d] w fun r w'=>r=.bool (decide (a=b))/\Ext w w':=by
  subst hn;subst hm
  refine cardindexref03_same.calls okay ?_
  unfold cardindexref03_same.W
  refine brn (fun hne=>⟨by rw [decide_eq_false];rintro rfl;exact hne rfl,.refl _ _⟩) (fun heq=>?_)
  refine ⟨fun i u=>∃ j:Nat,j<=a.length/\i=(j:Int)/\(∀ q,q<j->a.getD q 0=b.getD q 0)/\Ext w u,fun i _=>(a.length-i).toNat,⟨0,by omega,rfl,fun q h=>by omega,.refl _ _⟩,?_⟩
  rintro _ u ⟨j,hj,rfl,hall,e⟩
  have ed:=e.trans' (Fr.drew NoB u)
  refine brd (fun hlt=>?_) (fun hge=>?_)
  · obtain ⟨ad,hA',ca⟩:=itemBx hA (j:=j) (by omega)
    obtain ⟨bd,hB',cb⟩:=itemBx hB (j:=j) (by omega)
    rw [Int.toNat_natCast]
    refine ⟨ad,hA',⟨by omega,by omega⟩,fun z=>Ext w z,ed,_,fun z hz=>ca z hz,bd,hB',⟨by omega,by omega⟩,_,fun z hz=>cb z hz,?_⟩
    refine brn (fun hne=>⟨by rw [decide_eq_false];rintro rfl;exact hne rfl,ed⟩) (fun heq=>?_)
    rw [wi _ (by omega) (by omega)]
    refine ⟨⟨j+1,by omega,rfl,fun q hq=>?_,ed⟩,by dsimp only;omega⟩
    rcases Nat.lt_or_ge q j with h'|h'
    · exact hall q h'
    · have:q=j:=by omega
      rw [this];exact UInt8.toNat_inj.1 (by omega)
  · obtain rfl:j=a.length:=by omega
    refine ⟨?_,e⟩
    rw [decide_eq_true]
    apply List.ext_getElem (by omega)
    intro i h1 h2
    have:=hall i h1
    simpa [List.getD,h1,h2] using this
theorem getP_some {b:List UInt8} {l:List V} (h:getP b=some l):∃ ks j e,sortsP b (B1.getU b 0).1 (B1.getU b 0).2.1=some (ks,((j:Nat):Int))/\j<=b.length/\rowsP b ks j=some (l,e)/\¬ e<b.length/\l.map sort=ks:=by
  unfold getP at h
  split at h
  · cases h
  · rename_i hc
    simp only [not_or,Classical.not_not] at hc
    obtain ⟨i,u,h0,hx,hle,ht⟩:=getU_canon hc.1
    have:i=0:=by omega
    subst this
    rw [hx] at h ⊢
    generalize (B1.getU b 0).1=N at *
    cases hs:sortsP b N ((0+u:Nat):Int) with
    | none=>rw [hs] at h;cases h
    | some r =>
      obtain ⟨ks,e⟩:=r
      rw [hs] at h
      dsimp only at h
      obtain ⟨q1,j,rfl,q3,q4,q5⟩:=sorts_canon N b (0+u) ks e hle hs
      rw [Int.toNat_natCast] at h
      cases hs2:rowsP b ks j with
      | none=>rw [hs2] at h;cases h
      | some r2 =>
        obtain ⟨row,e2⟩:=r2
        rw [hs2] at h
        dsimp only at h
        split at h
        · cases h
        · cases h
          obtain ⟨p1,p2,p3,p4,p5⟩:=rows_canon ks b j l e2 q4 hs2
          exact ⟨ks,j,e2,rfl,q4,hs2,by assumption,p3⟩
theorem size_le {b:List UInt8} {l:List V} (h:getP b=some l) {v:V} (hv:v∈l):sort v<=2*b.length+11:=by
  obtain ⟨q1,-,-,q4,-⟩:=get_canon h
  have h1:(body v).length<=(l.flatMap body).length:=by
    clear h q1 q4
    induction l with
    | nil=>cases hv
    | cons x l ih =>
      rw [List.flatMap_cons,List.length_append]
      rcases List.mem_cons.1 hv with rfl|hv
      · omega
      · have:=ih hv;omega
  have h2:(l.flatMap body).length<=b.length:=by rw [q1];unfold rowB;rw [List.length_append];omega
  have h3:v.s.size<=(body v).length:=by unfold body;rw [List.length_append,sb_length];omega
  have:=wide_le v.n
  unfold sort
  split
  · omega
  · split
    · omega
    · split<;>omega
def longOf (k:Nat):Nat:=if 10<=k then (k-10) / 2 else k
def valOf (r:List UInt8) (k:Nat):V:=if k=0 then ⟨0,0,ByteArray.mk #[]⟩ else if k<=8 then ⟨1,sgn k (be (r.take k)),ByteArray.mk #[]⟩ else ⟨if k % 2=1 then 2 else 3,0,⟨(r.take (longOf k)).toArray⟩⟩
theorem got_ref {r:List UInt8} {k:Nat} {v:V} {n:Nat} (h:got r k=some (v,n)):k≠9/\n=longOf k/\longOf k<=r.length/\v=valOf r k:=by
  unfold got at h
  split at h
  · rename_i hk;cases h;subst hk;exact ⟨by decide,rfl,Nat.zero_le _,rfl⟩
  · rename_i h0
    split at h
    · rename_i h8
      split at h
      · cases h
      · split at h
        · cases h
          have:longOf k=k:=by unfold longOf;rw [if_neg (by omega)]
          refine ⟨by omega,this.symm,by omega,?_⟩
          unfold valOf;rw [if_neg h0,if_pos h8]
        · cases h
    · rename_i h8
      split at h
      · cases h
      · split at h
        · cases h
        · split at h
          · cases h
          · cases h
            have:longOf k=(k-10) / 2:=by unfold longOf;rw [if_pos (by omega)]
            refine ⟨by omega,this.symm,by omega,?_⟩
            unfold valOf;rw [if_neg h0,if_neg h8,this]
def numT (r:List UInt8) (q:Nat):Int:=if 128<=(r.getD 0 0).toNat then (be (r.take q):Int)-((256 ^ q:Nat):Int) else (be (r.take q):Int)
theorem numT_sgn {r:List UInt8} {q:Nat} (h1 : 1<=q) (h8:q<=8) (hl:q<=r.length):numT r q=sgn q (be (r.take q)):=by
  match r,hl with
  | [],hl=>simp at hl;omega
  | c::t,hl =>
    obtain ⟨p,rfl⟩:∃ p,q=p+1:=⟨q-1,by omega⟩
    have hbt:=be_lt (t.take p)
    have htl:(t.take p).length=p:=by rw [List.length_take];simp at hl;omega
    rw [htl] at hbt
    have hb:be ((c::t).take (p+1))=c.toNat*256 ^ p+be (t.take p):=by rw [List.take_succ_cons,be_cons,htl]
    unfold numT sgn
    rw [hb]
    have hp : 2 ^ (8*(p+1)-1)=128*256 ^ p:=by
      rw [show 8*(p+1)-1=7+8*p by omega,Nat.pow_add,Nat.pow_mul]
    have hp2 : 2 ^ (8*(p+1))=256 ^ (p+1):=by rw [Nat.pow_mul]
    rw [hp,hp2]
    show (if 128<=c.toNat then _ else _)=_
    by_cases hc : 128<=c.toNat
    · have : 128*256 ^ p<=c.toNat*256 ^ p:=Nat.mul_le_mul_right _ hc
      rw [if_pos hc,if_neg (by omega)]
    · have:(c.toNat+1)*256 ^ p<=128*256 ^ p:=Nat.mul_le_mul_right _ (by omega)
      rw [Nat.add_mul,Nat.one_mul] at this
      rw [if_neg hc,if_pos (by omega)]
theorem numT_step {r:List UInt8} {q:Nat} (hl:q<r.length):numT r (q+1)=numT r q*256+((r.getD q 0).toNat:Int):=by
  have hb:be (r.take (q+1))=be (r.take q)*256+(r.getD q 0).toNat:=by rw [take_snoc8 r q hl,be_snoc]
  unfold numT
  rw [hb,Nat.pow_succ]
  split
  · have:((256 ^ q*256:Nat):Int)=((256 ^ q:Nat):Int)*256:=by simp
    rw [this]
    omega
  · omega
theorem w_add {a c:Int} (h0 : 0<=c) (h1:c<256) (h2 : -9223372036854775808<=a+c) (h3:a+c<=9223372036854775807):IntKind.i64.wrap (IntKind.i64.wrap a+IntKind.i64.wrap c)=a+c:=by
  rw [wi c (by omega) (by omega)]
  rw [IntKind.wrap_i64,IntKind.wrap_i64];omega
theorem set1 {w:World} {g i:Nat} {cur:List Value} (b:Blk w g cur) (hi:i<cur.length) (v:Value):stOK ((⟨g,0,none⟩:Addr).add i) 0 [v] w/\∀ w',w'=setAll ((⟨g,0,none⟩:Addr).add i) 0 [v] w->Blk w' g (cur.set i v)/\Fr (fun k=>k=g) w w':=by
  rw [add_new,Nat.zero_add]
  refine ⟨b.stOK [v] 0 (by simp;omega),?_⟩
  rintro w' rfl
  exact ⟨Blk.setAll (o:=i) [v] 0 b,Fr.setAll [v] 0 w⟩
theorem cut_drop {α:Type} (b:List α) (i n:Nat):(b.take (i+n)).drop i=(b.drop i).take n:=by
  rw [List.drop_take];congr 1;omega
theorem putR_ok {row:List V} (h:(putR row).2=0):rightRow row=0/\(putL row).length<=1048576/\putR row=(putL row,0):=by
  unfold putR at h ⊢
  by_cases h1:rightRow row≠0
  · rw [if_pos h1] at h;exact absurd h h1
  · rw [if_neg h1] at h ⊢
    by_cases h2 : 1048576<(putL row).length
    · rw [if_pos h2] at h;cases h
    · rw [if_neg h2]
      exact ⟨by simpa using h1,by omega,rfl⟩
theorem get_of_put {row:List V} {b:List UInt8} (h1:(putR row).2=0) (h2:(putR row).1=b) (hg:∀ v∈row,good v):getP b=some row:=by
  obtain ⟨q1,q2,q3⟩:=putR_ok h1
  rw [q3] at h2
  obtain ⟨p1,p2⟩:=rightRow_zero q1
  rw [List.all_eq_true] at p2
  have:=get_put p1 p2 hg [] (by rw [List.append_nil];exact q2)
  rw [List.append_nil,if_pos rfl] at this
  rw [<- h2];exact this
theorem sort_in {b:List UInt8} {l:List V} (h:getP b=some l) {at0:Int} {N:Nat} (hN:N=(B1.getU b 0).1) (ha:at0=(B1.getU b 0).2.1) {ks:List Nat} {k:Nat} {e:Int} (hs:sortsP b N at0=some (ks,e)) (hk:k∈ks):k<=2*b.length+11:=by
  obtain ⟨ks',j,e',q1,q2,q3,q4,q5⟩:=getP_some h
  subst hN;subst ha
  rw [hs] at q1
  cases q1
  rw [<- q5] at hk
  obtain ⟨v,hv,rfl⟩:=List.mem_map.1 hk
  exact size_le h hv
end Go.Proofs.YtaifphjenebgoaaGreatDoor
set_option linter.unusedVariables false
set_option linter.unusedSimpArgs false
namespace Go.Proofs.YtaifphjenebgoaaGreatDoor
open Go Go.Sx R1
theorem rightRow_of {l:List V} (h:l.length<=200) (h2:∀ v∈l,right v=true):rightRow l=0:=by
  unfold rightRow
  rw [if_neg (by omega),if_pos (List.all_eq_true.2 h2)]
theorem putR_get {b:List UInt8} {a:List V} (h:getP b=some a):putR a=(b,0):=by
  obtain ⟨q1,q2,q3,q4,q5⟩:=get_canon h
  have hb:putL a=b:=q1.symm
  unfold putR
  rw [rightRow_of q2 q4,if_neg (by simp),hb,if_neg (by omega)]
set_option maxRecDepth 100000 in
theorem GetR_spec {w:World} {A:Option Addr} {c n:Nat} {b:List UInt8} (hn:n=b.length) (h:Imm KB NoB w A b) (hl:b.length<=1000000000000) (hc:b.length<=c) :
    CallsV Tryz.prog 55 #[.slice A n c] w fun r w'=>TellsR w (getR b) r w':=by
  subst hn
  refine cardindexref03_Get.calls okay ?_
  unfold cardindexref03_Get.W
  have bad:∀ {w'},getP b=none->Ext w w'->TellsR w (getR b) (.tuple #[.slice none 0 0,.int .i64 10]) w':=by
    intro w' hp e
    unfold getR;rw [hp];exact TellsR.nil e 10
  have cont:∀ {Q:Prop},(getP b≠none->False)->getP b=none:=fun hh=>Classical.byContradiction hh
  refine (GetUintR_spec rfl h hl 0).mono ?_
  rintro _ w1 ⟨rfl,e1⟩
  refine ⟨_,_,_,rfl,?_⟩
  refine brn (fun he=>bad (by unfold getP;rw [if_pos (.inl he)]) e1) (fun he=>brd (fun h2=>bad (by unfold getP;rw [if_pos (.inr (.inl (by omega)))]) e1) (fun h2=>brd (fun h3=>bad (by unfold getP;rw [if_pos (.inr (.inr (by omega)))]) e1) (fun h3=>?_)))
  obtain ⟨_,hm0,ha0,hb0⟩:=getU_ok he
  have hP:getP b=match sortsP b (B1.getU b 0).1 (B1.getU b 0).2.1 with
    | none=>none
    | some (ks,at_)=>match rowsP b ks at_.toNat with
      | none=>none
      | some (row,e)=>if e<b.length then none else some row:=by
    unfold getP;rw [if_neg (by rintro (h|h|h)<;>omega)];rfl
  have hin:∀ {l ks k e},getP b=some l->sortsP b (B1.getU b 0).1 (B1.getU b 0).2.1=some (ks,e)->k∈ks->k<=2*b.length+11:=fun hg hs hk=>sort_in hg rfl rfl hs hk
  generalize (B1.getU b 0).2.1=at0 at *
  generalize (B1.getU b 0).1=N at *
  have hN:N<=200:=by omega
  have hbl:b.length<=1048576:=by omega
  have wN:IntKind.i64.wrap (N:Int)=(N:Int):=wi _ (by omega) (by omega)
  have wL:IntKind.u64.wrap (IntKind.i64.wrap (IntKind.i64.wrap (2*(b.length:Int))+11))=((2*b.length+11:Nat):Int):=by
    rw [wi (2*(b.length:Int)) (by omega) (by omega),wi _ (by omega) (by omega),wu _ (by omega) (by omega)];omega
  rw [wN,wL]
  refine ⟨fun x x4 x5 x6 y u=>∃ (i:Nat) (dn:List Nat),i<=N/\y=(i:Int)/\dn.length=i/\x5=(dn.map natI).length/\(∀ k∈dn,k<=2*b.length+11)/\0<=x/\x<=b.length/\sortsP b N at0=(sortsP b (N-i) x).map (fun r=>(dn++r.1,r.2))/\OwnK KU u x4 x6 (dn.map natI)/\Ext w u/\New w x4,
    fun _ _ _ _ y _=>(N-y).toNat,⟨0,[],by omega,rfl,rfl,rfl,fun _ h=>(by cases h),by omega,by omega,by cases hh:sortsP b N at0<;>simp [hh],OwnK.nil _ _,e1,New.none _⟩,?_⟩
  rintro x x4 _ x6 _ u ⟨i,dn,hi,rfl,hdl,rfl,hdn,hx0,hxl,hso,ho,eu,nu⟩
  refine brd (fun hlt=>?_) (fun hge=>?_)
  · refine (GetUintR_spec rfl (h.ext KB_pos eu) hl x).mono ?_
    rintro _ u1 ⟨rfl,a1⟩
    have e1':=eu.trans' a1
    refine ⟨_,_,_,rfl,?_⟩
    have hst:sortsP b (N-i) x=if (B1.getU b x).2.2≠0 then none else (sortsP b (N-(i+1)) (B1.getU b x).2.1).map fun r=>((B1.getU b x).1::r.1,r.2):=by
      rw [show N-i=(N-(i+1))+1 by omega,sortsP]
    refine brn (fun hne=>bad (by rw [hP,hso,hst,if_pos hne];rfl) e1') (fun heq=>?_)
    rw [if_neg (by simpa using heq)] at hst
    obtain ⟨_,g1,g2,g3⟩:=getU_ok heq
    generalize (B1.getU b x).1=k at *
    generalize (B1.getU b x).2.1=nx at *
    refine brd (fun hbig=>bad ?_ e1') (fun hbig=>?_)
    · cases hg:getP b with
      | none=>rfl
      | some l =>
        exfalso
        rw [hst] at hso
        cases hs2:sortsP b (N-(i+1)) nx with
        | none =>
          rw [hs2] at hso
          rw [hso] at hP
          rw [hg] at hP
          cases hP
        | some r2 =>
          rw [hs2] at hso
          have:=hin (k:=k) hg hso (by simp)
          omega
    intro gn u2 f2
    obtain ⟨rfl,rfl⟩:=f2
    have hlen:(dn.map natI).length=i:=by rw [List.length_map];exact hdl
    obtain ⟨y,y2,u3,hr3,ho3,g3'⟩:=(ho.ext a1).push slU (ty:=140) (K:=KU) (a:=(k:Int)) (cs:=[.int .u64 (k:Int)]) (e':=106) rfl (by simp [Value.oneCell']) (by simp only [maxLen];omega) (by omega)
    have hsn:(dn++[k]).map natI=dn.map natI++[(k:Int)]:=by simp [natI]
    rw [<- hsn] at hr3 ho3
    refine ⟨_,_,_,_,hr3,?_⟩
    rw [wi _ (by omega) (by omega)]
    refine ⟨⟨i+1,dn++[k],by omega,rfl,by simp [hdl],rfl,fun q hq=>?_,by omega,by omega,?_,ho3,g3'.ext e1' nu,g3'.new e1' nu⟩,by dsimp only;omega⟩
    · rcases List.mem_append.1 hq with hq|hq
      · exact hdn q hq
      · rw [List.mem_singleton.1 hq];omega
    · rw [hso,hst]
      cases sortsP b (N-(i+1)) nx<;>simp
  · obtain rfl:i=N:=by omega
    rw [Nat.sub_self] at hso
    have hso':sortsP b i at0=some (dn,x):=by rw [hso];simp [sortsP]
    rw [hso'] at hP
    dsimp only at hP
    have iK:=ho.imm KU_pos
    have hrow:getP b≠none->rowsP b dn x.toNat≠none:=by
      intro hh hr
      rw [hr] at hP
      exact hh hP
    refine ⟨fun y x8 x9 x10 q v=>∃ (j at_:Nat) (row:List V),j<=dn.length/\q=(j:Int)/\y=(at_:Int)/\at_<=b.length/\x9=row.length/\row.length=j/\(∀ v∈row,good v)/\(getP b≠none->rowsP b dn x.toNat=(rowsP b (dn.drop j) at_).map (fun r=>(row++r.1,r.2)))/\OwnK KV v x8 x10 row/\Ext u v/\New u x8,
      fun _ _ _ _ q _=>(dn.length-q).toNat,⟨0,x.toNat,[],by omega,rfl,by omega,by omega,rfl,rfl,fun _ h=>(by cases h),fun _=>by cases hh:rowsP b dn x.toNat<;>simp [hh],OwnK.nil _ _,.refl _ _,New.none _⟩,?_⟩
    rintro _ x8 _ x10 _ v ⟨j,at_,row,hj,rfl,rfl,hat,rfl,hrl,hrg,hro,hoR,ev,nv⟩
    have ewv:=eu.trans' ev
    refine brd (fun hlt=>?_) (fun hge=>?_)
    · have hjl:j<dn.length:=by simp at hlt;omega
      refine ⟨fun y x8 x9 x10 v=>∃ (at_:Nat) (row:List V),y=(at_:Int)/\at_<=b.length/\x9=row.length/\row.length=j+1/\(∀ v∈row,good v)/\(getP b≠none->rowsP b dn x.toNat=(rowsP b (dn.drop (j+1)) at_).map (fun r=>(row++r.1,r.2)))/\OwnK KV v x8 x10 row/\Ext u v/\New u x8,?_,?_⟩
      · rintro y x8' _ x10' v' ⟨at',row',rfl,hat',rfl,hrl',hrg',hro',hoR',ev',nv'⟩
        rw [wi _ (by omega) (by omega)]
        exact ⟨⟨j+1,at',row',by omega,rfl,rfl,hat',rfl,hrl',hrg',hro',hoR',ev',nv'⟩,by dsimp only;omega⟩
      obtain ⟨ad,hA,hno,cs,hr,hcl⟩:=iK j _ (getN hjl)
      have hr:cs=[.int .u64 ((dn.getD j 0:Nat):Int)]:=hr
      subst hr
      have hcell:=ev.cell (fun h=>h) (hcl 0 _ rfl)
      have hkk:dn.getD j 0<=2*b.length+11:=hdn _ (by simp [List.getD,hjl])
      have hdrop:=dropN dn j hjl
      rw [hdrop] at hro
      generalize dn.getD j 0=k at *
      have wk:IntKind.i64.wrap (k:Int)=(k:Int):=wi _ (by omega) (by omega)
      refine ⟨ad,hA,⟨by omega,by omega⟩,_,by rw [Int.toNat_natCast];exact hcell,?_⟩
      rw [wk]
      have hH:getP b≠none->k≠9/\longOf k<=b.length-at_/\got (b.drop at_) k=some (valOf (b.drop at_) k,longOf k):=by
        intro hh
        have h1:=hrow hh
        rw [hro hh,rowsP] at h1
        cases hg:got (b.drop at_) k with
        | none=>rw [hg] at h1;exact absurd rfl h1
        | some p =>
          obtain ⟨v',n'⟩:=p
          obtain ⟨q1,q2,q3,q4⟩:=got_ref hg
          rw [List.length_drop] at q3
          exact ⟨q1,q3,by rw [<- q2,<- q4]⟩
      have hlr:(b.drop at_).length=b.length-at_:=List.length_drop
      have hcutr:∀ q,(b.drop at_).getD q 0=b.getD (at_+q) 0:=fun q=>B1.getD_drop b at_ q 0
      have hcutb:longOf k<=b.length-at_->Imm KB NoB v (cutAt A c at_ 1) ((b.drop at_).take (longOf k)):=by
        intro hle
        have:=(h.ext KB_pos ewv).cut (lo:=at_) (hi:=at_+longOf k) (m:=c) (by omega)
        rw [cut_drop] at this;exact this
      have hgood:good (valOf (b.drop at_) k):=by
        unfold valOf
        split
        · exact rightZ.2
        · split
          · rename_i h0 h8
            have hbe:=be_lt ((b.drop at_).take k)
            have hlt2:be ((b.drop at_).take k)<256 ^ k:=Nat.lt_of_lt_of_le hbe (Nat.pow_le_pow_right (by decide) (by rw [List.length_take];omega))
            obtain ⟨_,q2,q3⟩:=hi_sgn (x:=be ((b.drop at_).take k)) (k:=k) (by omega) h8 hlt2
            exact (rightN q2 q3).2
          · refine ⟨?_,⟨by dsimp only;omega,by dsimp only;omega⟩,?_⟩
            · dsimp only;split<;>constructor<;>decide
            · rw [sb_size,List.length_take];simp only [maxLen];omega
      refine ⟨fun L v'=>L=((longOf k:Nat):Int)/\v'=v,?_,?_⟩
      · rintro _ v' ⟨rfl,rfl⟩
        have nob:(¬ (k≠9/\longOf k<=b.length-at_))->getP b=none:=by
          intro hh
          exact Classical.byContradiction fun hg=>hh ⟨(hH hg).1,(hH hg).2.1⟩
        have wa:IntKind.i64.wrap ((b.length:Int)-(at_:Int))=((b.length-at_:Nat):Int):=by rw [wi _ (by omega) (by omega)];omega
        rw [wa]
        refine brd (fun h9=>bad (nob (by omega)) ewv) (fun h9=>brd (fun hL=>bad (nob (by omega)) ewv) (fun hL=>?_))
        have hLr:longOf k<=b.length-at_:=by omega
        have hcb:=hcutb hLr
        intro g v1 f1
        refine ⟨okW3 f1.blk _ _ _,?_⟩
        intro v2 hv2
        have b2:=setW3 f1.blk (.int .u8 0) (.int .i64 0) (.string (ByteArray.mk #[]))
        have e2:Ext v' v2:=by rw [hv2];exact f1.ext.setAll f1.ge _ _
        rw [<- hv2] at b2
        have hgv:=f1.ge
        have hge2:∀ k,k<v'.heap.size->¬ (k=g):=fun k hk he=>by omega
        have wal:IntKind.i64.wrap ((at_:Int)+((longOf k:Nat):Int))=((at_+longOf k:Nat):Int):=by rw [wi _ (by omega) (by omega)];omega
        rw [wal]
        simp only [Int.toNat_natCast]
        refine ⟨fun z=>Blk z g [.int .u8 (if 1<=k/\k<=8 then 1 else 0),.int .i64 (if 1<=k/\k<=8 then numT (b.drop at_) k else 0),.string (ByteArray.mk #[])]/\Ext v' z,?_,?_⟩
        · rintro v3 ⟨b3,e3⟩
          refine ⟨fun z=>Blk z g [.int .u8 (valOf (b.drop at_) k).k,.int .i64 (valOf (b.drop at_) k).n,.string (valOf (b.drop at_) k).s]/\Ext v' z,?_,?_⟩
          · rintro v4 ⟨b4,e4⟩
            refine ⟨_,b4.cell rfl,_,b4.cell rfl,_,b4.cell rfl,?_⟩
            intro g5 v5 f5
            obtain ⟨rfl,rfl⟩:=f5
            obtain ⟨y,y2,v6,hr6,ho6,g6⟩:=(hoR.ext e4).push slV (ty:=23) (K:=KV) (a:=valOf (b.drop at_) k) (cs:=vc (valOf (b.drop at_) k)) (e':=54) rfl (KV_one (fun _=>False) v4 _ _ rfl) (by simp only [maxLen];omega) (by omega)
            refine ⟨_,_,_,_,hr6,?_⟩
            refine ⟨at_+longOf k,row++[valOf (b.drop at_) k],rfl,by omega,rfl,by simp [hrl],?_,?_,ho6,g6.ext (ev.trans' e4) nv,g6.new (ev.trans' e4) nv⟩
            · intro v hv
              rcases List.mem_append.1 hv with hv|hv
              · exact hrg v hv
              · rw [List.mem_singleton.1 hv];exact hgood
            · intro hh
              rw [hro hh,rowsP,(hH hh).2.2]
              dsimp only
              cases rowsP b (dn.drop (j+1)) (at_+longOf k)<;>simp
          · refine brd (fun h10=>?_) (fun h10=>?_)
            · obtain ⟨o5,s5⟩:=set1 b3 (i:=0) (by simp) (.int .u8 3)
              refine ⟨o5,fun v5 hv5=>⟨by decide,?_⟩⟩
              obtain ⟨b5,f5⟩:=s5 v5 hv5
              have e5:Ext v' v5:=e3.trans f5 (fun _ _ h=>h) (fun q hq he=>hge2 q hq he)
              have hN0:(if 1<=k/\k<=8 then numT (b.drop at_) k else 0)=0:=if_neg (by omega)
              rw [hN0] at b5
              have tm:Int.tmod (k:Int) 2=((k % 2:Nat):Int):=by rw [Int.tmod_eq_emod_of_nonneg (by omega)];rfl
              rw [tm]
              have hval:valOf (b.drop at_) k=⟨if k % 2=1 then 2 else 3,0,⟨((b.drop at_).take (longOf k)).toArray⟩⟩:=by
                unfold valOf;rw [if_neg (by omega),if_neg (by omega)]
              have hlen:((b.drop at_).take (longOf k)).length=at_+longOf k-at_:=by rw [List.length_take];omega
              have str:∀ z,Ext v' z->RunsTo Tryz.prog (convert 32 9 (.slice (cutAt A c at_ 1) (at_+longOf k-at_) (c-at_))) z (.string ⟨((b.drop at_).take (longOf k)).toArray⟩) z:=by
                intro z hz
                have:=to_str_all btF hcb (c-at_) z hz
                rw [hlen] at this;exact this
              refine brd (fun hodd=>?_) (fun hev=>?_)
              · obtain ⟨o6,s6⟩:=set1 b5 (i:=0) (by simp) (.int .u8 2)
                refine ⟨o6,fun v6 hv6=>?_⟩
                obtain ⟨b6,f6⟩:=s6 v6 hv6
                have e6:Ext v' v6:=e5.trans f6 (fun _ _ h=>h) (fun q hq he=>hge2 q hq he)
                obtain ⟨o7,s7⟩:=set1 b6 (i:=2) (by simp) (.string ⟨((b.drop at_).take (longOf k)).toArray⟩)
                refine ⟨⟨by omega,by omega⟩,⟨by omega,by omega⟩,_,_,str v6 e6,o7,fun v7 hv7=>?_⟩
                obtain ⟨b7,f7⟩:=s7 v7 hv7
                refine ⟨?_,e6.trans f7 (fun _ _ h=>h) (fun q hq he=>hge2 q hq he)⟩
                rw [hval,if_pos (by omega)]
                exact b7
              · obtain ⟨o7,s7⟩:=set1 b5 (i:=2) (by simp) (.string ⟨((b.drop at_).take (longOf k)).toArray⟩)
                refine ⟨⟨by omega,by omega⟩,⟨by omega,by omega⟩,_,_,str v5 e5,o7,fun v7 hv7=>?_⟩
                obtain ⟨b7,f7⟩:=s7 v7 hv7
                refine ⟨?_,e5.trans f7 (fun _ _ h=>h) (fun q hq he=>hge2 q hq he)⟩
                rw [hval,if_neg (by omega)]
                exact b7
            · refine ⟨?_,e3⟩
              by_cases h0:k=0
              · subst h0
                exact b3
              · have hk8 : 1<=k/\k<=8:=by omega
                rw [if_pos hk8,if_pos hk8] at b3
                unfold valOf
                rw [if_neg h0,if_pos hk8.2]
                have hL8:longOf k=k:=by unfold longOf;rw [if_neg (by omega)]
                rw [numT_sgn hk8.1 hk8.2 (by omega)] at b3
                exact b3
        · have zero : ¬ (1<=k/\k<=8)->Blk v2 g [.int .u8 (if 1<=k/\k<=8 then 1 else 0),.int .i64 (if 1<=k/\k<=8 then numT (b.drop at_) k else 0),.string (ByteArray.mk #[])]/\Ext v' v2:=by
            intro hk
            rw [if_neg hk,if_neg hk]
            exact ⟨b2,e2⟩
          refine brd (fun hk1=>brd (fun hk8=>?_) (fun hk8=>zero (by omega))) (fun hk1=>zero (by omega))
          have hL8:longOf k=k:=by unfold longOf;rw [if_neg (by omega)]
          have k1 : 1<=k:=by omega
          have k8:k<=8:=by omega
          rw [if_pos ⟨k1,k8⟩,if_pos ⟨k1,k8⟩]
          obtain ⟨o3,s3⟩:=set1 b2 (i:=0) (by simp) (.int .u8 1)
          refine ⟨o3,fun v3 hv3=>?_⟩
          obtain ⟨b3,f3⟩:=s3 v3 hv3
          have e3:Ext v' v3:=e2.trans f3 (fun _ _ h=>h) (fun q hq he=>hge2 q hq he)
          have hw3:=ewv.trans' e3
          have hT0:numT (b.drop at_) 0=if 128<=((b.drop at_).getD 0 0).toNat then -1 else 0:=by
            unfold numT
            show (if _ then ((0:Nat):Int)-((1:Nat):Int) else ((0:Nat):Int))=_
            rfl
          refine ⟨fun z=>Blk z g [.int .u8 1,.int .i64 (numT (b.drop at_) 0),.string (ByteArray.mk #[])]/\Ext v' z,?_,?_⟩
          · rintro v4 ⟨b4,e4⟩
            refine ⟨fun y z=>∃ q:Nat,q<=k/\y=(q:Int)/\Blk z g [.int .u8 1,.int .i64 (numT (b.drop at_) q),.string (ByteArray.mk #[])]/\Ext v' z,fun y _=>(k-y).toNat,⟨0,by omega,rfl,b4,e4⟩,?_⟩
            rintro _ z ⟨q,hq,rfl,bz,ez⟩
            refine brd (fun hlt3=>?_) (fun hge3=>?_)
            · have hql:q<(b.drop at_).length:=by omega
              have hqk:q<k:=by omega
              obtain ⟨bd,hB,hcB⟩:=itemBx h (j:=at_+q) (by omega)
              rw [<- hcutr q] at hcB
              have waq:IntKind.i64.wrap ((at_:Int)+(q:Int))=((at_+q:Nat):Int):=by rw [wi _ (by omega) (by omega)];omega
              rw [waq]
              simp only [Int.toNat_natCast]
              have ed:Ext z z.drew:=Fr.drew NoB z
              have hst:=numT_step hql
              have hsg:=numT_sgn (r:=b.drop at_) (q:=q+1) (by omega) (by omega) (by omega)
              have hbe:=be_lt ((b.drop at_).take (q+1))
              have hlt2:be ((b.drop at_).take (q+1))<256 ^ (q+1):=Nat.lt_of_lt_of_le hbe (Nat.pow_le_pow_right (by decide) (by rw [List.length_take];omega))
              obtain ⟨_,r1,r2⟩:=hi_sgn (x:=be ((b.drop at_).take (q+1))) (k:=q+1) (by omega) (by omega) hlt2
              rw [<- hsg] at r1 r2
              have hb256:=((b.drop at_).getD q 0).toNat_lt
              have hval:IntKind.i64.wrap (IntKind.i64.wrap (numT (b.drop at_) q*256)+IntKind.i64.wrap (((b.drop at_).getD q 0).toNat:Int))=numT (b.drop at_) (q+1):=by
                rw [hst] at r1 r2 ⊢
                exact w_add (by omega) (by omega) r1 r2
              have bzd:=bz.ext ed
              obtain ⟨o5,s5⟩:=set1 bzd (i:=1) (by simp) (.int .i64 (numT (b.drop at_) (q+1)))
              refine ⟨fun y=>Ext z y,ed,_,fun y hy=>(bz.ext hy).cell rfl,bd,hB,⟨by omega,by omega⟩,_,fun y hy=>hcB y ((ewv.trans' ez).trans' hy),?_⟩
              rw [hval]
              refine ⟨o5,fun z2 hz2=>?_⟩
              obtain ⟨b5,f5⟩:=s5 z2 hz2
              rw [wi _ (by omega) (by omega)]
              exact ⟨⟨q+1,by omega,rfl,b5,(ez.trans' ed).trans f5 (fun _ _ h=>h) (fun q hq he=>hge2 q hq he)⟩,by omega⟩
            · obtain rfl:q=k:=by omega
              exact ⟨bz,ez⟩
          · obtain ⟨bd,hB,hcB⟩:=itemBx h (j:=at_) (by omega)
            have h00:=hcutr 0
            rw [Nat.add_zero] at h00
            rw [<- h00] at hcB
            simp only [Int.toNat_natCast]
            refine ⟨bd,hB,⟨by omega,by omega⟩,_,hcB v3 hw3,?_⟩
            refine brd (fun hneg=>?_) (fun hpos=>?_)
            · obtain ⟨o5,s5⟩:=set1 b3 (i:=1) (by simp) (.int .i64 (-1))
              refine ⟨o5,fun v5 hv5=>?_⟩
              obtain ⟨b5,f5⟩:=s5 v5 hv5
              rw [hT0,if_pos (by omega)]
              exact ⟨b5,e3.trans f5 (fun _ _ h=>h) (fun q hq he=>hge2 q hq he)⟩
            · rw [hT0,if_neg (by omega)]
              exact ⟨b3,e3⟩
      · have t10:∀ (m:Nat),Int.tdiv (m:Int) 2=((m / 2:Nat):Int):=fun m=>by rw [Int.tdiv_eq_ediv_of_nonneg (by omega)];rfl
        refine brd (fun h10=>⟨by decide,?_,rfl⟩) (fun h10=>⟨?_,rfl⟩)
        · have:IntKind.i64.wrap ((k:Int)-10)=((k-10:Nat):Int):=by rw [wi _ (by omega) (by omega)];omega
          rw [this,t10,wi _ (by omega) (by omega)]
          unfold longOf;rw [if_pos (by omega)]
        · unfold longOf;rw [if_neg (by omega)]
    · have hjl:j=dn.length:=by simp at hge;omega
      subst hjl
      rw [List.drop_length] at hro
      have hfin:getP b≠none->getP b=some row:=by
        intro hh
        have h1:=hro hh
        rw [h1] at hP
        simp only [rowsP,Option.map_some,List.append_nil] at hP
        rw [hP] at hh ⊢
        split at hh
        · exact absurd rfl hh
        · rw [if_neg (by assumption)]
      have hno : ¬ ((putR row).2=0/\(putR row).1=b)->getP b=none:=by
        intro hh
        refine Classical.byContradiction fun hg=>hh ?_
        have:=putR_get (hfin hg)
        rw [this]
        exact ⟨rfl,rfl⟩
      refine (PutR_spec rfl (hoR.imm KV_pos) (by simp only [maxLen];omega) hrg).mono ?_
      rintro _ v1 ⟨Z,cZ,rfl,oZ,e2,nZ⟩
      refine ⟨_,_,_,_,rfl,?_⟩
      have e3:=ewv.trans' e2
      refine brn (fun hne=>bad (hno (fun hh=>hne hh.1)) e3) (fun he0=>?_)
      have hpl:=(putR_ok he0).2.1
      have hpe:=(putR_ok he0).2.2
      refine (sameR_spec rfl rfl oZ.imm0 (h.ext KB_pos e3) (by rw [hpe];dsimp only;omega)).mono ?_
      rintro _ v2 ⟨rfl,e4⟩
      refine ⟨_,rfl,brnb (fun hne=>bad (hno (fun hh=>of_decide_eq_false hne hh.2)) (e3.trans' e4)) (fun heq=>?_)⟩
      have hget:=get_of_put he0 (of_decide_eq_true heq) hrg
      unfold getR
      rw [hget]
      exact ⟨x8,x10,rfl,hoR.ext (e2.trans' e4),e3.trans' e4,nv.ext eu⟩
end Go.Proofs.YtaifphjenebgoaaGreatDoor
set_option linter.unusedVariables false
set_option maxRecDepth 100000
namespace Go.Proofs.YtaifphjenebgoaaGreatDoor
open Go Go.Sx Value IntKind World Addr Builtin
noncomputable def bytes_Equal.W:Option Addr->Nat->Nat->Option Addr->Nat->Nat->World->(Value->World->Prop)->Prop:=fun a_A a_n a_c b_A b_n b_c w K=>∃ (x:ByteArray) (w':World),RunsTo
 Tryz.prog (convert 32 9 (slice a_A a_n a_c)) w (string x) w'/\∃ (x_1:ByteArray) (w'_1:World),RunsTo Tryz.prog (convert 32 9 (slice b_A b_n b_c)) w' (string x_1) w'_1/\K (bool (ByteArray.toList x
 == ByteArray.toList x_1)) w'_1
theorem bytes_Equal.calls (ok:Okay Tryz.prog) {a_A a_n a_c b_A b_n b_c w K} (h:bytes_Equal.W a_A a_n a_c b_A b_n b_c w K):CallsV Tryz.prog 13 #[.slice a_A a_n a_c,.slice b_A b_n b_c] w K :=
  fnW_calls ok Tryz.func13 (an:=(.named .auto)) (args:=[.slice a_A a_n a_c,.slice b_A b_n b_c]) (Eq.mp (by kernel_rfl) h)
end Go.Proofs.YtaifphjenebgoaaGreatDoor
set_option linter.unusedVariables false
set_option maxRecDepth 100000
namespace Go.Proofs.YtaifphjenebgoaaGreatDoor
open Go Go.Sx Value IntKind World Addr Builtin
noncomputable def cardindexlaw15_CodeCuts.W:Int->Int->Int->Option Addr->Nat->Nat->Option Addr->Nat->Nat->Option Addr->Nat->Nat->Option Addr->Nat->Nat->Option Addr->Nat->Nat->Option
 Addr->Nat->Nat->Int->Int->World->(Value->World->Prop)->Prop:=fun p0 p1 p2 p3_A p3_n p3_c p4_A p4_n p4_c p5_A p5_n p5_c p6_A p6_n p6_c p7_A p7_n p7_c p8_A p8_n p8_c cut more w K=>∀ g w',
 Fresh w g w' [int i64 p0,int i64 p1,int i64 p2,slice p3_A p3_n p3_c,slice p4_A p4_n p4_c,slice p5_A p5_n p5_c,slice p6_A p6_n p6_c,slice p7_A p7_n p7_c,slice p8_A p8_n p8_c] 29->∃ x,cell? w'
 (add (mk g 0 none) 0)=some (int i64 x)/\∃ x_1,cell? w' (add (mk g 0 none) 1)=some (int i64 x_1)/\∃ x_2,cell? w' (add (mk g 0 none) 2)=some (int i64
 x_2)/\∃ x_3 x_4 x_5,cell? w' (add (mk g 0 none) 3)=some (slice x_3 x_4 x_5)/\∃ x_6 x_7 x_8,cell? w' (add (mk g 0 none) 4)=some (slice x_6 x_7 x_8)/\∃ x_9 x_10 x_11,
 cell? w' (add (mk g 0 none) 5)=some (slice x_9 x_10 x_11)/\∃ x_12 x_13 x_14,cell? w' (add (mk g 0 none) 6)=some (slice x_12 x_13 x_14)/\∃ x_15 x_16 x_17,cell? w'
 (add (mk g 0 none) 7)=some (slice x_15 x_16 x_17)/\∃ x_18 x_19 x_20,cell? w' (add (mk g 0 none) 8)=some (slice x_18 x_19 x_20)/\CallsV Tryz.prog 6 #[agg #[int i64 x,
 int i64 x_1,int i64 x_2,slice x_3 x_4 x_5,slice x_6 x_7 x_8,slice x_9 x_10 x_11,slice x_12 x_13 x_14,slice x_15 x_16 x_17,slice x_18 x_19 x_20]] w' fun v w'=>∃ x,v=bool x/\bif x then
 CallsV Tryz.prog 7 #[] w' fun v w'=>∃ x,v=bool x/\K (bool x) w' else ∃ x,cell? w' (add (mk g 0 none) 0)=some (int i64 x)/\∃ x_21,cell? w' (add (mk g 0 none) 1) =
 some (int i64 x_21)/\∃ x_22,cell? w' (add (mk g 0 none) 2)=some (int i64 x_22)/\∃ x_23 x_24 x_25,cell? w' (add (mk g 0 none) 3)=some (slice x_23 x_24 x_25) /\
 ∃ x_26 x_27 x_28,cell? w' (add (mk g 0 none) 4)=some (slice x_26 x_27 x_28)/\∃ x_29 x_30 x_31,cell? w' (add (mk g 0 none) 5)=some (slice x_29 x_30 x_31)/\∃ x_32 x_33
 x_34,cell? w' (add (mk g 0 none) 6)=some (slice x_32 x_33 x_34)/\∃ x_35 x_36 x_37,cell? w' (add (mk g 0 none) 7)=some (slice x_35 x_36 x_37)/\∃ x_38 x_39 x_40,cell?
 w' (add (mk g 0 none) 8)=some (slice x_38 x_39 x_40)/\CallsV Tryz.prog 8 #[agg #[int i64 x,int i64 x_21,int i64 x_22,slice x_23 x_24 x_25,slice x_26 x_27 x_28,slice x_29 x_30
 x_31,slice x_32 x_33 x_34,slice x_35 x_36 x_37,slice x_38 x_39 x_40]] w' fun v w'=>∃ x x_41 x_42 x_43,v=tuple #[slice x x_41 x_42,int i64 x_43]/\bif !decide (x_43=0) then bif
 decide ((x_41:Int)=0) then CallsV Tryz.prog 7 #[] w' fun v w'=>∃ x,v=bool x/\K (bool x) w' else K (bool false) w' else CallsV Tryz.prog 10 #[int i64 cut,int i64 (x_41:Int)]
 w' fun v w'=>∃ x_44,v=int i64 x_44/\(0<=x_44/\x_44<=(x_42:Int))/\CallsV Tryz.prog 9 #[slice (cutAt x x_42 0 1) (Int.toNat x_44-0) (x_42-0)] w' fun v w'=>∃ x_45 x_46 x_47 x_48 x_49
 x_50 x_51 x_52 x_53 x_54 x_55 x_56 x_57 x_58 x_59 x_60 x_61 x_62 x_63 x_64 x_65 x_66,v=tuple #[agg #[int i64 x_45,int i64 x_46,int i64 x_47,slice x_48 x_49 x_50,slice x_51 x_52 x_53,slice x_54
 x_55 x_56,slice x_57 x_58 x_59,slice x_60 x_61 x_62,slice x_63 x_64 x_65],int i64 x_66]/\∀ g w'_1,Fresh w' g w'_1 [int i64 0,int i64 0,int i64 0,slice none 0 0,slice none 0 0,
 slice none 0 0,slice none 0 0,slice none 0 0,slice none 0 0] 29->stOK (mk g 0 none) 0 [int i64 x_45,int i64 x_46,int i64 x_47,slice x_48 x_49 x_50,slice x_51
 x_52 x_53,slice x_54 x_55 x_56,slice x_57 x_58 x_59,slice x_60 x_61 x_62,slice x_63 x_64 x_65] w'_1/\∀ w',w'=setAll (mk g 0 none) 0 [int i64 x_45,int i64 x_46,int i64 x_47,slice x_48
 x_49 x_50,slice x_51 x_52 x_53,slice x_54 x_55 x_56,slice x_57 x_58 x_59,slice x_60 x_61 x_62,slice x_63 x_64 x_65] w'_1->∀ g w'_2,Fresh w' g w'_2 [] 5->∃ x_67 x_68 x_69 w',RunsTo Tryz.prog
 (append_ (Array.mk [32,32]) 32 #[slice (some (mk g 0 none)) 0 0,slice x x_41 x_42]) w'_2 (slice x_67 x_68 x_69) w'/\∀ g w'_3,Fresh w' g w'_3 [int u8 more] 5->∃ x x_70 x_71 w',RunsTo
 Tryz.prog (append_ (Array.mk [32,32]) 32 #[slice x_67 x_68 x_69,slice (some (mk g 0 none)) 1 1]) w'_3 (slice x x_70 x_71) w'/\CallsV Tryz.prog 9 #[slice x x_70 x_71] w' fun v w'=>∃ x
 x_72 x_73 x_74 x_75 x_76 x_77 x_78 x_79 x_80 x_81 x_82 x_83 x_84 x_85 x_86 x_87 x_88 x_89 x_90 x_91 x_92,v=tuple #[agg #[int i64 x,int i64 x_72,int i64 x_73,slice x_74 x_75 x_76,slice x_77 x_78
 x_79,slice x_80 x_81 x_82,slice x_83 x_84 x_85,slice x_86 x_87 x_88,slice x_89 x_90 x_91],int i64 x_92]/\∀ g w'_4,Fresh w' g w'_4 [int i64 0,int i64 0,int i64 0,slice none 0 0,slice
 none 0 0,slice none 0 0,slice none 0 0,slice none 0 0,slice none 0 0] 29->stOK (mk g 0 none) 0 [int i64 x,int i64 x_72,int i64 x_73,slice x_74 x_75
 x_76,slice x_77 x_78 x_79,slice x_80 x_81 x_82,slice x_83 x_84 x_85,slice x_86 x_87 x_88,slice x_89 x_90 x_91] w'_4/\∀ w',w'=setAll (mk g 0 none) 0 [int i64 x,int i64 x_72,int i64
 x_73,slice x_74 x_75 x_76,slice x_77 x_78 x_79,slice x_80 x_81 x_82,slice x_83 x_84 x_85,slice x_86 x_87 x_88,slice x_89 x_90 x_91] w'_4->bif decide (x_66=140) then bif
 decide (x_92=140) then CallsV Tryz.prog 7 #[] w' fun v w'=>∃ x,v=bool x/\K (bool x) w' else K (bool false) w' else K (bool false) w'
theorem cardindexlaw15_CodeCuts.calls (ok:Okay Tryz.prog) {p0 p1 p2 p3_A p3_n p3_c p4_A p4_n p4_c p5_A p5_n p5_c p6_A p6_n p6_c p7_A p7_n p7_c p8_A p8_n p8_c cut more w K} (h:cardindexlaw15_CodeCuts.W p0 p1 p2 p3_A p3_n p3_c p4_A p4_n p4_c p5_A p5_n p5_c p6_A p6_n p6_c p7_A p7_n p7_c p8_A p8_n p8_c cut more w K):CallsV Tryz.prog 3 #[.agg #[.int .i64 p0,.int .i64 p1,.int .i64 p2,.slice p3_A p3_n p3_c,.slice p4_A p4_n p4_c,.slice p5_A p5_n p5_c,.slice p6_A p6_n p6_c,.slice p7_A p7_n p7_c,.slice p8_A p8_n p8_c],.int .i64 cut,.int .u8 more] w K :=
  fnW_calls ok Tryz.func3 (an:=(.named .auto)) (args:=[.agg #[.int .i64 p0,.int .i64 p1,.int .i64 p2,.slice p3_A p3_n p3_c,.slice p4_A p4_n p4_c,.slice p5_A p5_n p5_c,.slice p6_A p6_n p6_c,.slice p7_A p7_n p7_c,.slice p8_A p8_n p8_c],.int .i64 cut,.int .u8 more]) (Eq.mp (by kernel_rfl) h)
noncomputable def cardindexlaw15_CodeBack.W:Int->Int->Int->Option Addr->Nat->Nat->Option Addr->Nat->Nat->Option Addr->Nat->Nat->Option Addr->Nat->Nat->Option Addr->Nat->Nat->Option
 Addr->Nat->Nat->Option Addr->Nat->Nat->World->(Value->World->Prop)->Prop:=fun p0 p1 p2 p3_A p3_n p3_c p4_A p4_n p4_c p5_A p5_n p5_c p6_A p6_n p6_c p7_A p7_n p7_c p8_A p8_n p8_c b_A b_n b_c
 w K=>∀ g w',Fresh w g w' [int i64 p0,int i64 p1,int i64 p2,slice p3_A p3_n p3_c,slice p4_A p4_n p4_c,slice p5_A p5_n p5_c,slice p6_A p6_n p6_c,slice p7_A p7_n p7_c,slice p8_A p8_n p8_c] 29 ->
 ∃ x,cell? w' (add (mk g 0 none) 0)=some (int i64 x)/\∃ x_1,cell? w' (add (mk g 0 none) 1)=some (int i64 x_1)/\∃ x_2,cell? w' (add (mk g 0 none) 2) =
 some (int i64 x_2)/\∃ x_3 x_4 x_5,cell? w' (add (mk g 0 none) 3)=some (slice x_3 x_4 x_5)/\∃ x_6 x_7 x_8,cell? w' (add (mk g 0 none) 4)=some (slice x_6 x_7
 x_8)/\∃ x_9 x_10 x_11,cell? w' (add (mk g 0 none) 5)=some (slice x_9 x_10 x_11)/\∃ x_12 x_13 x_14,cell? w' (add (mk g 0 none) 6)=some (slice x_12 x_13 x_14)/\∃ x_15
 x_16 x_17,cell? w' (add (mk g 0 none) 7)=some (slice x_15 x_16 x_17)/\∃ x_18 x_19 x_20,cell? w' (add (mk g 0 none) 8)=some (slice x_18 x_19 x_20)/\CallsV Tryz.prog 6
 #[agg #[int i64 x,int i64 x_1,int i64 x_2,slice x_3 x_4 x_5,slice x_6 x_7 x_8,slice x_9 x_10 x_11,slice x_12 x_13 x_14,slice x_15 x_16 x_17,slice x_18 x_19 x_20]] w' fun v w'=>∃ x,v=bool x
 /\ bif x then CallsV Tryz.prog 7 #[] w' fun v w'=>∃ x,v=bool x/\K (bool x) w' else bif decide (20000<(b_n:Int)) then CallsV Tryz.prog 7 #[] w' fun v w'=>∃ x,v=bool x/\K (bool
 x) w' else ∃ (J:World->Prop),(∀ w,J w->CallsV Tryz.prog 9 #[slice b_A b_n b_c] w fun v w'=>∃ x x_21 x_22 x_23 x_24 x_25 x_26 x_27 x_28 x_29 x_30 x_31 x_32 x_33 x_34 x_35 x_36 x_37 x_38 x_39
 x_40 x_41,v=tuple #[agg #[int i64 x,int i64 x_21,int i64 x_22,slice x_23 x_24 x_25,slice x_26 x_27 x_28,slice x_29 x_30 x_31,slice x_32 x_33 x_34,slice x_35 x_36 x_37,slice x_38 x_39 x_40],
 int i64 x_41]/\∀ g w'_1,Fresh w' g w'_1 [int i64 0,int i64 0,int i64 0,slice none 0 0,slice none 0 0,slice none 0 0,slice none 0 0,slice none 0 0,slice
 none 0 0] 29->stOK (mk g 0 none) 0 [int i64 x,int i64 x_21,int i64 x_22,slice x_23 x_24 x_25,slice x_26 x_27 x_28,slice x_29 x_30 x_31,slice x_32 x_33 x_34,slice x_35 x_36 x_37,
 slice x_38 x_39 x_40] w'_1/\∀ w',w'=setAll (mk g 0 none) 0 [int i64 x,int i64 x_21,int i64 x_22,slice x_23 x_24 x_25,slice x_26 x_27 x_28,slice x_29 x_30 x_31,slice x_32 x_33 x_34,
 slice x_35 x_36 x_37,slice x_38 x_39 x_40] w'_1->bif !decide (x_41=0) then bif decide (x_41=140) then ∃ x,cell? w' (add (mk g 0 none) 0)=some (int i64 x)/\∃
 x_42,cell? w' (add (mk g 0 none) 1)=some (int i64 x_42)/\∃ x_43,cell? w' (add (mk g 0 none) 2)=some (int i64 x_43)/\∃ x_44 x_45 x_46,cell? w' (add (mk g 0
 none) 3)=some (slice x_44 x_45 x_46)/\∃ x_47 x_48 x_49,cell? w' (add (mk g 0 none) 4)=some (slice x_47 x_48 x_49)/\∃ x_50 x_51 x_52,cell? w' (add (mk g 0
 none) 5)=some (slice x_50 x_51 x_52)/\∃ x_53 x_54 x_55,cell? w' (add (mk g 0 none) 6)=some (slice x_53 x_54 x_55)/\∃ x_56 x_57 x_58,cell? w' (add (mk g 0
 none) 7)=some (slice x_56 x_57 x_58)/\∃ x_59 x_60 x_61,cell? w' (add (mk g 0 none) 8)=some (slice x_59 x_60 x_61)/\CallsV Tryz.prog 11 #[agg #[int i64 x,int i64
 x_42,int i64 x_43,slice x_44 x_45 x_46,slice x_47 x_48 x_49,slice x_50 x_51 x_52,slice x_53 x_54 x_55,slice x_56 x_57 x_58,slice x_59 x_60 x_61],agg #[int i64 0,int i64 0,int i64 0,slice
 none 0 0,slice none 0 0,slice none 0 0,slice none 0 0,slice none 0 0,slice none 0 0]] w' fun v w'=>∃ x,v=bool x/\bif x then CallsV Tryz.prog 7 #[]
 w' fun v w'=>∃ x,v=bool x/\K (bool x) w' else K (bool false) w' else K (bool false) w' else ∃ x,cell? w' (add (mk g 0 none) 0)=some (int i64 x)/\∃ x_42,cell? w' (add
 (mk g 0 none) 1)=some (int i64 x_42)/\∃ x_43,cell? w' (add (mk g 0 none) 2)=some (int i64 x_43)/\∃ x_44 x_45 x_46,cell? w' (add (mk g 0 none) 3)=some
 (slice x_44 x_45 x_46)/\∃ x_47 x_48 x_49,cell? w' (add (mk g 0 none) 4)=some (slice x_47 x_48 x_49)/\∃ x_50 x_51 x_52,cell? w' (add (mk g 0 none) 5)=some (slice x_50
 x_51 x_52)/\∃ x_53 x_54 x_55,cell? w' (add (mk g 0 none) 6)=some (slice x_53 x_54 x_55)/\∃ x_56 x_57 x_58,cell? w' (add (mk g 0 none) 7)=some (slice x_56 x_57 x_58)
 /\ ∃ x_59 x_60 x_61,cell? w' (add (mk g 0 none) 8)=some (slice x_59 x_60 x_61)/\CallsV Tryz.prog 8 #[agg #[int i64 x,int i64 x_42,int i64 x_43,slice x_44 x_45 x_46,slice x_47 x_48
 x_49,slice x_50 x_51 x_52,slice x_53 x_54 x_55,slice x_56 x_57 x_58,slice x_59 x_60 x_61]] w' fun v w'=>∃ x x_62 x_63 x_64,v=tuple #[slice x x_62 x_63,int i64 x_64]/\bif decide
 (x_64=0) then CallsV Tryz.prog 13 #[slice x x_62 x_63,slice b_A b_n b_c] w' fun v w'=>∃ x,v=bool x/\bif x then ∃ x,cell? w' (add (mk g 0 none) 0)=some (int i64 x)/\∃ x_65,
 cell? w' (add (mk g 0 none) 1)=some (int i64 x_65)/\∃ x_66,cell? w' (add (mk g 0 none) 2)=some (int i64 x_66)/\∃ x_67 x_68 x_69,cell? w' (add (mk g 0 none) 3)
 = some (slice x_67 x_68 x_69)/\∃ x_70 x_71 x_72,cell? w' (add (mk g 0 none) 4)=some (slice x_70 x_71 x_72)/\∃ x_73 x_74 x_75,cell? w' (add (mk g 0 none) 5) =
 some (slice x_73 x_74 x_75)/\∃ x_76 x_77 x_78,cell? w' (add (mk g 0 none) 6)=some (slice x_76 x_77 x_78)/\∃ x_79 x_80 x_81,cell? w' (add (mk g 0 none) 7)=some
 (slice x_79 x_80 x_81)/\∃ x_82 x_83 x_84,cell? w' (add (mk g 0 none) 8)=some (slice x_82 x_83 x_84)/\CallsV Tryz.prog 12 #[agg #[int i64 x,int i64 x_65,int i64 x_66,slice x_67
 x_68 x_69,slice x_70 x_71 x_72,slice x_73 x_74 x_75,slice x_76 x_77 x_78,slice x_79 x_80 x_81,slice x_82 x_83 x_84]] w' fun v w'=>∃ x,v=int i64 x/\bif decide (x=0) then CallsV
 Tryz.prog 7 #[] w' fun v w'=>∃ x,v=bool x/\K (bool x) w' else K (bool false) w' else K (bool false) w' else K (bool false) w')/\∃ x,cell? w' (add (mk g 0 none) 0) =
 some (int i64 x)/\∃ x_21,cell? w' (add (mk g 0 none) 1)=some (int i64 x_21)/\∃ x_22,cell? w' (add (mk g 0 none) 2)=some (int i64 x_22)/\∃ x_23 x_24 x_25,
 cell? w' (add (mk g 0 none) 3)=some (slice x_23 x_24 x_25)/\∃ x_26 x_27 x_28,cell? w' (add (mk g 0 none) 4)=some (slice x_26 x_27 x_28)/\∃ x_29 x_30 x_31,cell? w'
 (add (mk g 0 none) 5)=some (slice x_29 x_30 x_31)/\∃ x_32 x_33 x_34,cell? w' (add (mk g 0 none) 6)=some (slice x_32 x_33 x_34)/\∃ x_35 x_36 x_37,cell? w' (add (mk g
 0 none) 7)=some (slice x_35 x_36 x_37)/\∃ x_38 x_39 x_40,cell? w' (add (mk g 0 none) 8)=some (slice x_38 x_39 x_40)/\CallsV Tryz.prog 8 #[agg #[int i64 x,int i64
 x_21,int i64 x_22,slice x_23 x_24 x_25,slice x_26 x_27 x_28,slice x_29 x_30 x_31,slice x_32 x_33 x_34,slice x_35 x_36 x_37,slice x_38 x_39 x_40]] w' fun v w'=>∃ x x_41 x_42 x_43,v=tuple
 #[slice x x_41 x_42,int i64 x_43]/\bif decide (x_43=0) then CallsV Tryz.prog 9 #[slice x x_41 x_42] w' fun v w'=>∃ x x_44 x_45 x_46 x_47 x_48 x_49 x_50 x_51 x_52 x_53 x_54 x_55 x_56
 x_57 x_58 x_59 x_60 x_61 x_62 x_63 x_64,v=tuple #[agg #[int i64 x,int i64 x_44,int i64 x_45,slice x_46 x_47 x_48,slice x_49 x_50 x_51,slice x_52 x_53 x_54,slice x_55 x_56 x_57,slice x_58 x_59
 x_60,slice x_61 x_62 x_63],int i64 x_64]/\∀ g_1 w'_1,Fresh w' g_1 w'_1 [int i64 0,int i64 0,int i64 0,slice none 0 0,slice none 0 0,slice none 0 0,slice none 0 0,
 slice none 0 0,slice none 0 0] 29->stOK (mk g_1 0 none) 0 [int i64 x,int i64 x_44,int i64 x_45,slice x_46 x_47 x_48,slice x_49 x_50 x_51,slice x_52 x_53 x_54,slice x_55
 x_56 x_57,slice x_58 x_59 x_60,slice x_61 x_62 x_63] w'_1/\∀ w',w'=setAll (mk g_1 0 none) 0 [int i64 x,int i64 x_44,int i64 x_45,slice x_46 x_47 x_48,slice x_49 x_50 x_51,slice x_52
 x_53 x_54,slice x_55 x_56 x_57,slice x_58 x_59 x_60,slice x_61 x_62 x_63] w'_1->bif !decide (x_64=0) then K (bool false) w' else ∃ x,cell? w' (add (mk g 0 none) 0) =
 some (int i64 x)/\∃ x_65,cell? w' (add (mk g 0 none) 1)=some (int i64 x_65)/\∃ x_66,cell? w' (add (mk g 0 none) 2)=some (int i64 x_66)/\∃ x_67 x_68 x_69,
 cell? w' (add (mk g 0 none) 3)=some (slice x_67 x_68 x_69)/\∃ x_70 x_71 x_72,cell? w' (add (mk g 0 none) 4)=some (slice x_70 x_71 x_72)/\∃ x_73 x_74 x_75,cell? w'
 (add (mk g 0 none) 5)=some (slice x_73 x_74 x_75)/\∃ x_76 x_77 x_78,cell? w' (add (mk g 0 none) 6)=some (slice x_76 x_77 x_78)/\∃ x_79 x_80 x_81,cell? w' (add (mk g
 0 none) 7)=some (slice x_79 x_80 x_81)/\∃ x_82 x_83 x_84,cell? w' (add (mk g 0 none) 8)=some (slice x_82 x_83 x_84)/\∃ x_85,cell? w' (add (mk g_1 0 none) 0) =
 some (int i64 x_85)/\∃ x_86,cell? w' (add (mk g_1 0 none) 1)=some (int i64 x_86)/\∃ x_87,cell? w' (add (mk g_1 0 none) 2)=some (int i64 x_87)/\∃ x_88 x_89
 x_90,cell? w' (add (mk g_1 0 none) 3)=some (slice x_88 x_89 x_90)/\∃ x_91 x_92 x_93,cell? w' (add (mk g_1 0 none) 4)=some (slice x_91 x_92 x_93)/\∃ x_94 x_95 x_96,
 cell? w' (add (mk g_1 0 none) 5)=some (slice x_94 x_95 x_96)/\∃ x_97 x_98 x_99,cell? w' (add (mk g_1 0 none) 6)=some (slice x_97 x_98 x_99)/\∃ x_100 x_101 x_102,
 cell? w' (add (mk g_1 0 none) 7)=some (slice x_100 x_101 x_102)/\∃ x_103 x_104 x_105,cell? w' (add (mk g_1 0 none) 8)=some (slice x_103 x_104 x_105)/\CallsV Tryz.prog
 11 #[agg #[int i64 x,int i64 x_65,int i64 x_66,slice x_67 x_68 x_69,slice x_70 x_71 x_72,slice x_73 x_74 x_75,slice x_76 x_77 x_78,slice x_79 x_80 x_81,slice x_82 x_83 x_84],agg #[int i64
 x_85,int i64 x_86,int i64 x_87,slice x_88 x_89 x_90,slice x_91 x_92 x_93,slice x_94 x_95 x_96,slice x_97 x_98 x_99,slice x_100 x_101 x_102,slice x_103 x_104 x_105]] w' fun v w'=>∃ x,v=bool
 x/\bif !x then K (bool false) w' else J w' else ∃ x,cell? w' (add (mk g 0 none) 0)=some (int i64 x)/\∃ x_44,cell? w' (add (mk g 0 none) 1)=some (int i64 x_44) /\
 ∃ x_45,cell? w' (add (mk g 0 none) 2)=some (int i64 x_45)/\∃ x_46 x_47 x_48,cell? w' (add (mk g 0 none) 3)=some (slice x_46 x_47 x_48)/\∃ x_49 x_50 x_51,cell? w'
 (add (mk g 0 none) 4)=some (slice x_49 x_50 x_51)/\∃ x_52 x_53 x_54,cell? w' (add (mk g 0 none) 5)=some (slice x_52 x_53 x_54)/\∃ x_55 x_56 x_57,cell? w' (add (mk g
 0 none) 6)=some (slice x_55 x_56 x_57)/\∃ x_58 x_59 x_60,cell? w' (add (mk g 0 none) 7)=some (slice x_58 x_59 x_60)/\∃ x_61 x_62 x_63,cell? w' (add (mk g 0
 none) 8)=some (slice x_61 x_62 x_63)/\CallsV Tryz.prog 12 #[agg #[int i64 x,int i64 x_44,int i64 x_45,slice x_46 x_47 x_48,slice x_49 x_50 x_51,slice x_52 x_53 x_54,slice x_55
 x_56 x_57,slice x_58 x_59 x_60,slice x_61 x_62 x_63]] w' fun v w'=>∃ x,v=int i64 x/\bif !decide (decide (x_43=140)=!decide (x=0)) then K (bool false) w'
 else J w'
theorem cardindexlaw15_CodeBack.calls (ok:Okay Tryz.prog) {p0 p1 p2 p3_A p3_n p3_c p4_A p4_n p4_c p5_A p5_n p5_c p6_A p6_n p6_c p7_A p7_n p7_c p8_A p8_n p8_c b_A b_n b_c w K} (h:cardindexlaw15_CodeBack.W p0 p1 p2 p3_A p3_n p3_c p4_A p4_n p4_c p5_A p5_n p5_c p6_A p6_n p6_c p7_A p7_n p7_c p8_A p8_n p8_c b_A b_n b_c w K):CallsV Tryz.prog 4 #[.agg #[.int .i64 p0,.int .i64 p1,.int .i64 p2,.slice p3_A p3_n p3_c,.slice p4_A p4_n p4_c,.slice p5_A p5_n p5_c,.slice p6_A p6_n p6_c,.slice p7_A p7_n p7_c,.slice p8_A p8_n p8_c],.slice b_A b_n b_c] w K :=
  fnW_calls ok Tryz.func4 (an:=(.named (.seq .auto (.seq .auto (.join [] .auto .auto))))) (args:=[.agg #[.int .i64 p0,.int .i64 p1,.int .i64 p2,.slice p3_A p3_n p3_c,.slice p4_A p4_n p4_c,.slice p5_A p5_n p5_c,.slice p6_A p6_n p6_c,.slice p7_A p7_n p7_c,.slice p8_A p8_n p8_c],.slice b_A b_n b_c]) (Eq.mp (by kernel_rfl) h)
end Go.Proofs.YtaifphjenebgoaaGreatDoor
set_option linter.unusedVariables false
set_option maxRecDepth 100000
namespace Go.Proofs.YtaifphjenebgoaaGreatDoor
open Go Go.Sx Value IntKind World Addr Builtin
noncomputable def code_Read.W:Option Addr->Nat->Nat->World->(Value->World->Prop)->Prop:=fun b_A b_n b_c w K=>∀ g w',Fresh w g w' [int i64 0,int i64 0,int i64 0,slice none 0 0,
 slice none 0 0,slice none 0 0,slice none 0 0,slice none 0 0,slice none 0 0] 29->∀ g_1 w'_1,Fresh w' g_1 w'_1 [slice b_A b_n b_c,int i64 0,bool false] 72
 -> ∀ g_2 w',Fresh w'_1 g_2 w' [pointer none] 70->stOK (mk g_2 0 none) 0 [pointer (some (mk g_1 0 none))] w'/\∀ w'_2,w'_2=setAll (mk g_2 0 none) 0 [pointer
 (some (mk g_1 0 none))] w'->∀ g_3 w',Fresh w'_2 g_3 w' [int i64 0,int i64 0,int i64 0,slice none 0 0,slice none 0 0,slice none 0 0,slice none 0 0,
 slice none 0 0,slice none 0 0] 29->∃ x,cell? w' (mk g_2 0 none)=some (pointer x)/\CallsV Tryz.prog 30 #[pointer x,int i64 1099511627776] w' fun v w'=>∃ x,v=int
 i64 x/\stOK (add (mk g_3 0 none) 0) 0 [int i64 x] w'/\∀ w'_3,w'_3=setAll (add (mk g_3 0 none) 0) 0 [int i64 x] w'->∃ x,cell? w'_3 (mk g_2 0 none)=some (pointer x) /\
 CallsV Tryz.prog 30 #[pointer x,int i64 250] w'_3 fun v w'=>∃ x,v=int i64 x/\stOK (add (mk g_3 0 none) 1) 0 [int i64 x] w'/\∀ w'_4,w'_4=setAll (add (mk g_3 0 none) 1) 0 [int
 i64 x] w'->∃ x,cell? w'_4 (mk g_2 0 none)=some (pointer x)/\CallsV Tryz.prog 30 #[pointer x,int i64 1000] w'_4 fun v w'=>∃ x,v=int i64 x/\stOK (add (mk g_3 0 none) 2) 0
 [int i64 x] w'/\∀ w'_5,w'_5=setAll (add (mk g_3 0 none) 2) 0 [int i64 x] w'->∃ x,cell? w'_5 (mk g_2 0 none)=some (pointer x)/\CallsV Tryz.prog 31 #[pointer x,int i64 200,
 func (Fn.func 32) #[] #[pointer (some (mk g_2 0 none))]] w'_5 fun v w'=>∃ x x_1 x_2,v=slice x x_1 x_2/\stOK (add (mk g_3 0 none) 3) 0 [slice x x_1 x_2] w'/\∀ w'_6,w'_6 =
 setAll (add (mk g_3 0 none) 3) 0 [slice x x_1 x_2] w'->∃ x,cell? w'_6 (mk g_2 0 none)=some (pointer x)/\∃ x_3,cell? w'_6 (mk g_2 0 none)=some (pointer x_3) /\
 CallsV Tryz.prog 34 #[pointer x,int i64 1000,func (Fn.func 35) #[pointer x_3] #[]] w'_6 fun v w'=>∃ x x_4 x_5,v=slice x x_4 x_5/\stOK (add (mk g_3 0 none) 4) 0 [slice x x_4 x_5] w'/\∀
 w'_7,w'_7=setAll (add (mk g_3 0 none) 4) 0 [slice x x_4 x_5] w'->∃ x,cell? w'_7 (mk g_2 0 none)=some (pointer x)/\∃ x_6,cell? w'_7 (mk g_2 0 none)=some
 (pointer x_6)/\CallsV Tryz.prog 36 #[pointer x,int i64 12,func (Fn.func 37) #[pointer x_6] #[]] w'_7 fun v w'=>∃ x x_7 x_8,v=slice x x_7 x_8/\stOK (add (mk g_3 0 none) 5) 0 [slice x x_7
 x_8] w'/\∀ w'_8,w'_8=setAll (add (mk g_3 0 none) 5) 0 [slice x x_7 x_8] w'->∃ x,cell? w'_8 (mk g_2 0 none)=some (pointer x)/\∃ x_9,cell? w'_8 (mk g_2 0 none) =
 some (pointer x_9)/\CallsV Tryz.prog 38 #[pointer x,int i64 6,func (Fn.func 39) #[pointer x_9] #[]] w'_8 fun v w'=>∃ x x_10 x_11,v=slice x x_10 x_11/\stOK (add (mk g_3 0 none) 6)
 0 [slice x x_10 x_11] w'/\∀ w'_9,w'_9=setAll (add (mk g_3 0 none) 6) 0 [slice x x_10 x_11] w'->∃ x,cell? w'_9 (mk g_2 0 none)=some (pointer x)/\∃ x_12,cell? w'_9 (mk g_2
 0 none)=some (pointer x_12)/\CallsV Tryz.prog 40 #[pointer x,int i64 60,func (Fn.func 41) #[pointer x_12] #[]] w'_9 fun v w'=>∃ x x_13 x_14,v=slice x x_13 x_14/\stOK (add (mk
 g_3 0 none) 7) 0 [slice x x_13 x_14] w'/\∀ w'_10,w'_10=setAll (add (mk g_3 0 none) 7) 0 [slice x x_13 x_14] w'->∃ x,cell? w'_10 (mk g_2 0 none)=some (pointer x)/\∃
 x_15,cell? w'_10 (mk g_2 0 none)=some (pointer x_15)/\CallsV Tryz.prog 42 #[pointer x,int i64 4000,func (Fn.func 43) #[pointer x_15] #[]] w'_10 fun v w'=>∃ x x_16 x_17,v=slice
 x x_16 x_17/\stOK (add (mk g_3 0 none) 8) 0 [slice x x_16 x_17] w'/\∀ w'_11,w'_11=setAll (add (mk g_3 0 none) 8) 0 [slice x x_16 x_17] w'->∃ x,cell? w'_11 (mk g_2 0 none) =
 some (pointer x)/\∃ a,x=some a/\∃ x,cell? w'_11 (add a 2)=some (bool x)/\bif x then stOK (mk g 0 none) 0 [int i64 0,int i64 0,int i64 0,slice none 0 0,
 slice none 0 0,slice none 0 0,slice none 0 0,slice none 0 0,slice none 0 0] w'_11/\∀ w',w'=setAll (mk g 0 none) 0 [int i64 0,int i64 0,int i64 0,
 slice none 0 0,slice none 0 0,slice none 0 0,slice none 0 0,slice none 0 0,slice none 0 0] w'_11->∃ x,cell? w' (add (mk g 0 none) 0) =
 some (int i64 x)/\∃ x_18,cell? w' (add (mk g 0 none) 1)=some (int i64 x_18)/\∃ x_19,cell? w' (add (mk g 0 none) 2)=some (int i64 x_19)/\∃ x_20 x_21 x_22,
 cell? w' (add (mk g 0 none) 3)=some (slice x_20 x_21 x_22)/\∃ x_23 x_24 x_25,cell? w' (add (mk g 0 none) 4)=some (slice x_23 x_24 x_25)/\∃ x_26 x_27 x_28,cell? w'
 (add (mk g 0 none) 5)=some (slice x_26 x_27 x_28)/\∃ x_29 x_30 x_31,cell? w' (add (mk g 0 none) 6)=some (slice x_29 x_30 x_31)/\∃ x_32 x_33 x_34,cell? w' (add (mk g
 0 none) 7)=some (slice x_32 x_33 x_34)/\∃ x_35 x_36 x_37,cell? w' (add (mk g 0 none) 8)=some (slice x_35 x_36 x_37)/\K (tuple #[agg #[int i64 x,int i64 x_18,int i64
 x_19,slice x_20 x_21 x_22,slice x_23 x_24 x_25,slice x_26 x_27 x_28,slice x_29 x_30 x_31,slice x_32 x_33 x_34,slice x_35 x_36 x_37],int i64 140]) w' else ∃ x,cell? w'_11 (mk g_2 0 none)
 = some (pointer x)/\∃ a,x=some a/\∃ x,cell? w'_11 (add a 1)=some (int i64 x)/\bif !decide (x=(b_n:Int)) then stOK (mk g 0 none) 0 [int i64 0,int i64
 0,int i64 0,slice none 0 0,slice none 0 0,slice none 0 0,slice none 0 0,slice none 0 0,slice none 0 0] w'_11/\∀ w',w'=setAll (mk g 0 none) 0
 [int i64 0,int i64 0,int i64 0,slice none 0 0,slice none 0 0,slice none 0 0,slice none 0 0,slice none 0 0,slice none 0 0] w'_11->∃ x,cell? w' (add
 (mk g 0 none) 0)=some (int i64 x)/\∃ x_18,cell? w' (add (mk g 0 none) 1)=some (int i64 x_18)/\∃ x_19,cell? w' (add (mk g 0 none) 2)=some (int i64
 x_19)/\∃ x_20 x_21 x_22,cell? w' (add (mk g 0 none) 3)=some (slice x_20 x_21 x_22)/\∃ x_23 x_24 x_25,cell? w' (add (mk g 0 none) 4)=some (slice x_23 x_24 x_25)/\∃
 x_26 x_27 x_28,cell? w' (add (mk g 0 none) 5)=some (slice x_26 x_27 x_28)/\∃ x_29 x_30 x_31,cell? w' (add (mk g 0 none) 6)=some (slice x_29 x_30 x_31)/\∃ x_32 x_33
 x_34,cell? w' (add (mk g 0 none) 7)=some (slice x_32 x_33 x_34)/\∃ x_35 x_36 x_37,cell? w' (add (mk g 0 none) 8)=some (slice x_35 x_36 x_37)/\K (tuple #[agg #[int
 i64 x,int i64 x_18,int i64 x_19,slice x_20 x_21 x_22,slice x_23 x_24 x_25,slice x_26 x_27 x_28,slice x_29 x_30 x_31,slice x_32 x_33 x_34,slice x_35 x_36 x_37],int i64 140]) w' else bif
 decide (1048576<(b_n:Int)) then stOK (mk g 0 none) 0 [int i64 0,int i64 0,int i64 0,slice none 0 0,slice none 0 0,slice none 0 0,slice none 0 0,
 slice none 0 0,slice none 0 0] w'_11/\∀ w',w'=setAll (mk g 0 none) 0 [int i64 0,int i64 0,int i64 0,slice none 0 0,slice none 0 0,slice none 0 0,
 slice none 0 0,slice none 0 0,slice none 0 0] w'_11->∃ x,cell? w' (add (mk g 0 none) 0)=some (int i64 x)/\∃ x_18,cell? w' (add (mk g 0 none) 1) =
 some (int i64 x_18)/\∃ x_19,cell? w' (add (mk g 0 none) 2)=some (int i64 x_19)/\∃ x_20 x_21 x_22,cell? w' (add (mk g 0 none) 3)=some (slice x_20 x_21 x_22) /\
 ∃ x_23 x_24 x_25,cell? w' (add (mk g 0 none) 4)=some (slice x_23 x_24 x_25)/\∃ x_26 x_27 x_28,cell? w' (add (mk g 0 none) 5)=some (slice x_26 x_27 x_28)/\∃ x_29 x_30
 x_31,cell? w' (add (mk g 0 none) 6)=some (slice x_29 x_30 x_31)/\∃ x_32 x_33 x_34,cell? w' (add (mk g 0 none) 7)=some (slice x_32 x_33 x_34)/\∃ x_35 x_36 x_37,cell?
 w' (add (mk g 0 none) 8)=some (slice x_35 x_36 x_37)/\K (tuple #[agg #[int i64 x,int i64 x_18,int i64 x_19,slice x_20 x_21 x_22,slice x_23 x_24 x_25,slice x_26 x_27 x_28,slice
 x_29 x_30 x_31,slice x_32 x_33 x_34,slice x_35 x_36 x_37],int i64 140]) w' else ∃ x,cell? w'_11 (add (mk g_3 0 none) 0)=some (int i64 x)/\∃ x_18,cell? w'_11 (add (mk g_3 0
 none) 1)=some (int i64 x_18)/\∃ x_19,cell? w'_11 (add (mk g_3 0 none) 2)=some (int i64 x_19)/\∃ x_20 x_21 x_22,cell? w'_11 (add (mk g_3 0 none) 3) =
 some (slice x_20 x_21 x_22)/\∃ x_23 x_24 x_25,cell? w'_11 (add (mk g_3 0 none) 4)=some (slice x_23 x_24 x_25)/\∃ x_26 x_27 x_28,cell? w'_11 (add (mk g_3 0 none) 5) =
 some (slice x_26 x_27 x_28)/\∃ x_29 x_30 x_31,cell? w'_11 (add (mk g_3 0 none) 6)=some (slice x_29 x_30 x_31)/\∃ x_32 x_33 x_34,cell? w'_11 (add (mk g_3 0 none) 7) =
 some (slice x_32 x_33 x_34)/\∃ x_35 x_36 x_37,cell? w'_11 (add (mk g_3 0 none) 8)=some (slice x_35 x_36 x_37)/\CallsV Tryz.prog 12 #[agg #[int i64 x,int i64 x_18,int i64
 x_19,slice x_20 x_21 x_22,slice x_23 x_24 x_25,slice x_26 x_27 x_28,slice x_29 x_30 x_31,slice x_32 x_33 x_34,slice x_35 x_36 x_37]] w'_11 fun v w'=>∃ x,v=int i64 x/\bif !decide
 (x=0) then stOK (mk g 0 none) 0 [int i64 0,int i64 0,int i64 0,slice none 0 0,slice none 0 0,slice none 0 0,slice none 0 0,slice none 0 0,slice
 none 0 0] w'/\∀ w'_12,w'_12=setAll (mk g 0 none) 0 [int i64 0,int i64 0,int i64 0,slice none 0 0,slice none 0 0,slice none 0 0,slice none 0 0,slice
 none 0 0,slice none 0 0] w'->∃ x,cell? w'_12 (add (mk g 0 none) 0)=some (int i64 x)/\∃ x_38,cell? w'_12 (add (mk g 0 none) 1)=some (int i64 x_38)/\∃
 x_39,cell? w'_12 (add (mk g 0 none) 2)=some (int i64 x_39)/\∃ x_40 x_41 x_42,cell? w'_12 (add (mk g 0 none) 3)=some (slice x_40 x_41 x_42)/\∃ x_43 x_44 x_45,cell?
 w'_12 (add (mk g 0 none) 4)=some (slice x_43 x_44 x_45)/\∃ x_46 x_47 x_48,cell? w'_12 (add (mk g 0 none) 5)=some (slice x_46 x_47 x_48)/\∃ x_49 x_50 x_51,cell? w'_12
 (add (mk g 0 none) 6)=some (slice x_49 x_50 x_51)/\∃ x_52 x_53 x_54,cell? w'_12 (add (mk g 0 none) 7)=some (slice x_52 x_53 x_54)/\∃ x_55 x_56 x_57,cell? w'_12 (add
 (mk g 0 none) 8)=some (slice x_55 x_56 x_57)/\K (tuple #[agg #[int i64 x,int i64 x_38,int i64 x_39,slice x_40 x_41 x_42,slice x_43 x_44 x_45,slice x_46 x_47 x_48,slice x_49 x_50
 x_51,slice x_52 x_53 x_54,slice x_55 x_56 x_57],int i64 140]) w'_12 else ∃ x,cell? w' (add (mk g_3 0 none) 0)=some (int i64 x)/\∃ x_38,cell? w' (add (mk g_3 0 none) 1) =
 some (int i64 x_38)/\∃ x_39,cell? w' (add (mk g_3 0 none) 2)=some (int i64 x_39)/\∃ x_40 x_41 x_42,cell? w' (add (mk g_3 0 none) 3)=some (slice x_40 x_41
 x_42)/\∃ x_43 x_44 x_45,cell? w' (add (mk g_3 0 none) 4)=some (slice x_43 x_44 x_45)/\∃ x_46 x_47 x_48,cell? w' (add (mk g_3 0 none) 5)=some (slice x_46 x_47 x_48) /\
 ∃ x_49 x_50 x_51,cell? w' (add (mk g_3 0 none) 6)=some (slice x_49 x_50 x_51)/\∃ x_52 x_53 x_54,cell? w' (add (mk g_3 0 none) 7)=some (slice x_52 x_53 x_54)/\∃ x_55
 x_56 x_57,cell? w' (add (mk g_3 0 none) 8)=some (slice x_55 x_56 x_57)/\stOK (mk g 0 none) 0 [int i64 x,int i64 x_38,int i64 x_39,slice x_40 x_41 x_42,slice x_43 x_44 x_45,
 slice x_46 x_47 x_48,slice x_49 x_50 x_51,slice x_52 x_53 x_54,slice x_55 x_56 x_57] w'/\∀ w'_12,w'_12=setAll (mk g 0 none) 0 [int i64 x,int i64 x_38,int i64 x_39,slice x_40 x_41 x_42,
 slice x_43 x_44 x_45,slice x_46 x_47 x_48,slice x_49 x_50 x_51,slice x_52 x_53 x_54,slice x_55 x_56 x_57] w'->∃ x,cell? w'_12 (add (mk g 0 none) 0)=some (int i64 x)/\∃ x_58,
 cell? w'_12 (add (mk g 0 none) 1)=some (int i64 x_58)/\∃ x_59,cell? w'_12 (add (mk g 0 none) 2)=some (int i64 x_59)/\∃ x_60 x_61 x_62,cell? w'_12 (add (mk g 0
 none) 3)=some (slice x_60 x_61 x_62)/\∃ x_63 x_64 x_65,cell? w'_12 (add (mk g 0 none) 4)=some (slice x_63 x_64 x_65)/\∃ x_66 x_67 x_68,cell? w'_12 (add (mk g 0
 none) 5)=some (slice x_66 x_67 x_68)/\∃ x_69 x_70 x_71,cell? w'_12 (add (mk g 0 none) 6)=some (slice x_69 x_70 x_71)/\∃ x_72 x_73 x_74,cell? w'_12 (add (mk g 0
 none) 7)=some (slice x_72 x_73 x_74)/\∃ x_75 x_76 x_77,cell? w'_12 (add (mk g 0 none) 8)=some (slice x_75 x_76 x_77)/\K (tuple #[agg #[int i64 x,int i64 x_58,int
 i64 x_59,slice x_60 x_61 x_62,slice x_63 x_64 x_65,slice x_66 x_67 x_68,slice x_69 x_70 x_71,slice x_72 x_73 x_74,slice x_75 x_76 x_77],int i64 0]) w'_12
theorem code_Read.calls (ok:Okay Tryz.prog) {b_A b_n b_c w K} (h:code_Read.W b_A b_n b_c w K):CallsV Tryz.prog 9 #[.slice b_A b_n b_c] w K :=
  fnW_calls ok Tryz.func9 (an:=(.named .auto)) (args:=[.slice b_A b_n b_c]) (Eq.mp (by kernel_rfl) h)
end Go.Proofs.YtaifphjenebgoaaGreatDoor
set_option linter.unusedVariables false
set_option maxRecDepth 100000
namespace Go.Proofs.YtaifphjenebgoaaGreatDoor
open Go Go.Sx Value IntKind World Addr Builtin
noncomputable def code_some_string.W:Option Addr->Int->Value->World->(Value->World->Prop)->Prop:=fun r most one w K=>CallsV Tryz.prog 30 #[pointer r,int i64 most] w fun v w'=>∃ x,v =
 int i64 x/\∃ (I:Option Addr->Nat->Nat->Int->World->Prop) (μ:Option Addr->Nat->Nat->Int->World->Nat),I none 0 0 x w'/\∀ x x_1 x_2 x_3 w,I x x_1 x_2 x_3 w->bif decide
 (0<x_3) then ∃ a,r=some a/\∃ x_4,cell? w (add a 2)=some (bool x_4)/\bif !x_4 then ∃ (fid:Nat) (first captured:Array Value),one=func (Fn.func fid) first captured/\bodied
 Tryz.prog fid=true/\CallsV Tryz.prog fid (List.toArray (Array.toList first++([]++Array.toList captured))) w fun r w'=>∃ (x_5:ByteArray),r=string x_5/\∀ g w'_1,Fresh w' g w'_1
 [string x_5] 9->∃ x_6 x_7 x_8 w',RunsTo Tryz.prog (append_ (Array.mk [22,22]) 22 #[slice x x_1 x_2,slice (some (mk g 0 none)) 1 1]) w'_1 (slice x_6 x_7 x_8) w'/\I x_6 x_7 x_8 (wrap
 i64 (x_3-1)) w'/\μ x_6 x_7 x_8 (wrap i64 (x_3-1)) w'<μ x x_1 x_2 x_3 w else K (slice x x_1 x_2) w else K (slice x x_1 x_2) w
theorem code_some_string.calls (ok:Okay Tryz.prog) {r most one w K} (h:code_some_string.W r most one w K):CallsV Tryz.prog 31 #[.pointer r,.int .i64 most,one] w K :=
  fnW_calls ok Tryz.func31 (an:=(.named (.named (.seq .auto (.seq .auto (.seq (.seq .auto (.block (.loop [(7,.one .slc),(8,.one (.int .i64))] .auto))) .auto)))))) (args:=[.pointer r,.int .i64 most,one]) (Eq.mp (by kernel_rfl) h)
noncomputable def code_some_api_Value.W:Option Addr->Int->Value->World->(Value->World->Prop)->Prop:=fun r most one w K=>CallsV Tryz.prog 30 #[pointer r,int i64 most] w fun v w'=>∃ x,v
 = int i64 x/\∃ (I:Option Addr->Nat->Nat->Int->World->Prop) (μ:Option Addr->Nat->Nat->Int->World->Nat),I none 0 0 x w'/\∀ x x_1 x_2 x_3 w,I x x_1 x_2 x_3 w->bif
 decide (0<x_3) then ∃ a,r=some a/\∃ x_4,cell? w (add a 2)=some (bool x_4)/\bif !x_4 then ∃ (fid:Nat) (first captured:Array Value),one=func (Fn.func fid) first
 captured/\bodied Tryz.prog fid=true/\CallsV Tryz.prog fid (List.toArray (Array.toList first++([]++Array.toList captured))) w fun r w'=>∃ (x_5 x_6:Int) (x_7:ByteArray),r=agg #[int
 u8 x_5,int i64 x_6,string x_7]/\∀ g w'_1,Fresh w' g w'_1 [int u8 x_5,int i64 x_6,string x_7] 54->∃ x_8 x_9 x_10 w',RunsTo Tryz.prog (append_ (Array.mk [23,23]) 23 #[slice x x_1 x_2,slice
 (some (mk g 0 none)) 1 1]) w'_1 (slice x_8 x_9 x_10) w'/\I x_8 x_9 x_10 (wrap i64 (x_3-1)) w'/\μ x_8 x_9 x_10 (wrap i64 (x_3-1)) w'<μ x x_1 x_2 x_3 w else K (slice x x_1 x_2) w
 else K (slice x x_1 x_2) w
theorem code_some_api_Value.calls (ok:Okay Tryz.prog) {r most one w K} (h:code_some_api_Value.W r most one w K):CallsV Tryz.prog 34 #[.pointer r,.int .i64 most,one] w K :=
  fnW_calls ok Tryz.func34 (an:=(.named (.named (.seq .auto (.seq .auto (.seq (.seq .auto (.block (.loop [(7,.one .slc),(8,.one (.int .i64))] .auto))) .auto)))))) (args:=[.pointer r,.int .i64 most,one]) (Eq.mp (by kernel_rfl) h)
noncomputable def code_some_api_Cur.W:Option Addr->Int->Value->World->(Value->World->Prop)->Prop:=fun r most one w K=>CallsV Tryz.prog 30 #[pointer r,int i64 most] w fun v w'=>∃ x,v =
 int i64 x/\∃ (I:Option Addr->Nat->Nat->Int->World->Prop) (μ:Option Addr->Nat->Nat->Int->World->Nat),I none 0 0 x w'/\∀ x x_1 x_2 x_3 w,I x x_1 x_2 x_3 w->bif decide
 (0<x_3) then ∃ a,r=some a/\∃ x_4,cell? w (add a 2)=some (bool x_4)/\bif !x_4 then ∃ (fid:Nat) (first captured:Array Value),one=func (Fn.func fid) first captured/\bodied
 Tryz.prog fid=true/\CallsV Tryz.prog fid (List.toArray (Array.toList first++([]++Array.toList captured))) w fun r w'=>∃ (x_5:ByteArray) (x_6 x_7:Bool),r=agg #[string x_5,bool x_6,
 bool x_7]/\∀ g w'_1,Fresh w' g w'_1 [string x_5,bool x_6,bool x_7] 56->∃ x_8 x_9 x_10 w',RunsTo Tryz.prog (append_ (Array.mk [24,24]) 24 #[slice x x_1 x_2,slice (some (mk g 0
 none)) 1 1]) w'_1 (slice x_8 x_9 x_10) w'/\I x_8 x_9 x_10 (wrap i64 (x_3-1)) w'/\μ x_8 x_9 x_10 (wrap i64 (x_3-1)) w'<μ x x_1 x_2 x_3 w else K (slice x x_1 x_2) w else K (slice x x_1
 x_2) w
theorem code_some_api_Cur.calls (ok:Okay Tryz.prog) {r most one w K} (h:code_some_api_Cur.W r most one w K):CallsV Tryz.prog 36 #[.pointer r,.int .i64 most,one] w K :=
  fnW_calls ok Tryz.func36 (an:=(.named (.named (.seq .auto (.seq .auto (.seq (.seq .auto (.block (.loop [(7,.one .slc),(8,.one (.int .i64))] .auto))) .auto)))))) (args:=[.pointer r,.int .i64 most,one]) (Eq.mp (by kernel_rfl) h)
noncomputable def code_some_api_Sort.W:Option Addr->Int->Value->World->(Value->World->Prop)->Prop:=fun r most one w K=>CallsV Tryz.prog 30 #[pointer r,int i64 most] w fun v w'=>∃ x,v =
 int i64 x/\∃ (I:Option Addr->Nat->Nat->Int->World->Prop) (μ:Option Addr->Nat->Nat->Int->World->Nat),I none 0 0 x w'/\∀ x x_1 x_2 x_3 w,I x x_1 x_2 x_3 w->bif decide
 (0<x_3) then ∃ a,r=some a/\∃ x_4,cell? w (add a 2)=some (bool x_4)/\bif !x_4 then ∃ (fid:Nat) (first captured:Array Value),one=func (Fn.func fid) first captured/\bodied
 Tryz.prog fid=true/\CallsV Tryz.prog fid (List.toArray (Array.toList first++([]++Array.toList captured))) w fun r w'=>∃ x_5 x_6 x_7 x_8 x_9,r=agg #[slice x_5 x_6 x_7,int i64 x_8,bool
 x_9]/\∀ g w'_1,Fresh w' g w'_1 [slice x_5 x_6 x_7,int i64 x_8,bool x_9] 59->∃ x_10 x_11 x_12 w',RunsTo Tryz.prog (append_ (Array.mk [25,25]) 25 #[slice x x_1 x_2,slice (some (mk g 0
 none)) 1 1]) w'_1 (slice x_10 x_11 x_12) w'/\I x_10 x_11 x_12 (wrap i64 (x_3-1)) w'/\μ x_10 x_11 x_12 (wrap i64 (x_3-1)) w'<μ x x_1 x_2 x_3 w else K (slice x x_1 x_2) w else K (slice x
 x_1 x_2) w
theorem code_some_api_Sort.calls (ok:Okay Tryz.prog) {r most one w K} (h:code_some_api_Sort.W r most one w K):CallsV Tryz.prog 38 #[.pointer r,.int .i64 most,one] w K :=
  fnW_calls ok Tryz.func38 (an:=(.named (.named (.seq .auto (.seq .auto (.seq (.seq .auto (.block (.loop [(7,.one .slc),(8,.one (.int .i64))] .auto))) .auto)))))) (args:=[.pointer r,.int .i64 most,one]) (Eq.mp (by kernel_rfl) h)
noncomputable def code_some_api_Acc.W:Option Addr->Int->Value->World->(Value->World->Prop)->Prop:=fun r most one w K=>CallsV Tryz.prog 30 #[pointer r,int i64 most] w fun v w'=>∃ x,v =
 int i64 x/\∃ (I:Option Addr->Nat->Nat->Int->World->Prop) (μ:Option Addr->Nat->Nat->Int->World->Nat),I none 0 0 x w'/\∀ x x_1 x_2 x_3 w,I x x_1 x_2 x_3 w->bif decide
 (0<x_3) then ∃ a,r=some a/\∃ x_4,cell? w (add a 2)=some (bool x_4)/\bif !x_4 then ∃ (fid:Nat) (first captured:Array Value),one=func (Fn.func fid) first captured/\bodied
 Tryz.prog fid=true/\CallsV Tryz.prog fid (List.toArray (Array.toList first++([]++Array.toList captured))) w fun r w'=>∃ (x_5:ByteArray) (x_6:Bool),r=agg #[string x_5,bool x_6]/\∀
 g w'_1,Fresh w' g w'_1 [string x_5,bool x_6] 61->∃ x_7 x_8 x_9 w',RunsTo Tryz.prog (append_ (Array.mk [26,26]) 26 #[slice x x_1 x_2,slice (some (mk g 0 none)) 1 1]) w'_1 (slice x_7
 x_8 x_9) w'/\I x_7 x_8 x_9 (wrap i64 (x_3-1)) w'/\μ x_7 x_8 x_9 (wrap i64 (x_3-1)) w'<μ x x_1 x_2 x_3 w else K (slice x x_1 x_2) w else K (slice x x_1 x_2) w
theorem code_some_api_Acc.calls (ok:Okay Tryz.prog) {r most one w K} (h:code_some_api_Acc.W r most one w K):CallsV Tryz.prog 40 #[.pointer r,.int .i64 most,one] w K :=
  fnW_calls ok Tryz.func40 (an:=(.named (.named (.seq .auto (.seq .auto (.seq (.seq .auto (.block (.loop [(7,.one .slc),(8,.one (.int .i64))] .auto))) .auto)))))) (args:=[.pointer r,.int .i64 most,one]) (Eq.mp (by kernel_rfl) h)
noncomputable def code_some_api_Instr.W:Option Addr->Int->Value->World->(Value->World->Prop)->Prop:=fun r most one w K=>CallsV Tryz.prog 30 #[pointer r,int i64 most] w fun v w'=>∃ x,v
 = int i64 x/\∃ (I:Option Addr->Nat->Nat->Int->World->Prop) (μ:Option Addr->Nat->Nat->Int->World->Nat),I none 0 0 x w'/\∀ x x_1 x_2 x_3 w,I x x_1 x_2 x_3 w->bif
 decide (0<x_3) then ∃ a,r=some a/\∃ x_4,cell? w (add a 2)=some (bool x_4)/\bif !x_4 then ∃ (fid:Nat) (first captured:Array Value),one=func (Fn.func fid) first
 captured/\bodied Tryz.prog fid=true/\CallsV Tryz.prog fid (List.toArray (Array.toList first++([]++Array.toList captured))) w fun r w'=>∃ x_5 x_6 x_7 x_8 x_9,r=agg #[int u8 x_5,int
 i64 x_6,int i64 x_7,int i64 x_8,int i64 x_9]/\∀ g w'_1,Fresh w' g w'_1 [int u8 x_5,int i64 x_6,int i64 x_7,int i64 x_8,int i64 x_9] 46->∃ x_10 x_11 x_12 w',RunsTo Tryz.prog (append_
 (Array.mk [27,27]) 27 #[slice x x_1 x_2,slice (some (mk g 0 none)) 1 1]) w'_1 (slice x_10 x_11 x_12) w'/\I x_10 x_11 x_12 (wrap i64 (x_3-1)) w'/\μ x_10 x_11 x_12 (wrap i64 (x_3 -
 1)) w'<μ x x_1 x_2 x_3 w else K (slice x x_1 x_2) w else K (slice x x_1 x_2) w
theorem code_some_api_Instr.calls (ok:Okay Tryz.prog) {r most one w K} (h:code_some_api_Instr.W r most one w K):CallsV Tryz.prog 42 #[.pointer r,.int .i64 most,one] w K :=
  fnW_calls ok Tryz.func42 (an:=(.named (.named (.seq .auto (.seq .auto (.seq (.seq .auto (.block (.loop [(7,.one .slc),(8,.one (.int .i64))] .auto))) .auto)))))) (args:=[.pointer r,.int .i64 most,one]) (Eq.mp (by kernel_rfl) h)
noncomputable def code_some_bool.W:Option Addr->Int->Value->World->(Value->World->Prop)->Prop:=fun r most one w K=>CallsV Tryz.prog 30 #[pointer r,int i64 most] w fun v w'=>∃ x,v=int
 i64 x/\∃ (I:Option Addr->Nat->Nat->Int->World->Prop) (μ:Option Addr->Nat->Nat->Int->World->Nat),I none 0 0 x w'/\∀ x x_1 x_2 x_3 w,I x x_1 x_2 x_3 w->bif decide (0 <
 x_3) then ∃ a,r=some a/\∃ x_4,cell? w (add a 2)=some (bool x_4)/\bif !x_4 then ∃ (fid:Nat) (first captured:Array Value),one=func (Fn.func fid) first captured/\bodied
 Tryz.prog fid=true/\CallsV Tryz.prog fid (List.toArray (Array.toList first++([]++Array.toList captured))) w fun r w'=>∃ x_5,r=bool x_5/\∀ g w'_1,Fresh w' g w'_1 [bool x_5] 4->∃ x_6
 x_7 x_8 w',RunsTo Tryz.prog (append_ (Array.mk [57,57]) 57 #[slice x x_1 x_2,slice (some (mk g 0 none)) 1 1]) w'_1 (slice x_6 x_7 x_8) w'/\I x_6 x_7 x_8 (wrap i64 (x_3-1)) w'/\μ
 x_6 x_7 x_8 (wrap i64 (x_3-1)) w'<μ x x_1 x_2 x_3 w else K (slice x x_1 x_2) w else K (slice x x_1 x_2) w
theorem code_some_bool.calls (ok:Okay Tryz.prog) {r most one w K} (h:code_some_bool.W r most one w K):CallsV Tryz.prog 73 #[.pointer r,.int .i64 most,one] w K :=
  fnW_calls ok Tryz.func73 (an:=(.named (.named (.seq .auto (.seq .auto (.seq (.seq .auto (.block (.loop [(7,.one .slc),(8,.one (.int .i64))] .auto))) .auto)))))) (args:=[.pointer r,.int .i64 most,one]) (Eq.mp (by kernel_rfl) h)
end Go.Proofs.YtaifphjenebgoaaGreatDoor
set_option linter.unusedVariables false
set_option maxRecDepth 100000
namespace Go.Proofs.YtaifphjenebgoaaGreatDoor
open Go Go.Sx Value IntKind World Addr Builtin
noncomputable def code_reader_number.W:Option Addr->Int->World->(Value->World->Prop)->Prop:=fun r most w K=>∃ a,r=some a/\∃ x,cell? w (add a 2)=some (bool x)/\bif x
 then K (int i64 0) w else ∃ a,r=some a/\∃ (S:World->Prop),S (drew w)/\∃ x x_1 x_2,(∀ u,S u->cell? u (add a 0)=some (slice x x_1 x_2))/\∃ a,r=some a/\∃ x_3,(∀ u,
 S u->cell? u (add a 1)=some (int i64 x_3))/\CallsV Tryz.prog 69 #[slice x x_1 x_2,int i64 x_3] (drew w) fun v w'=>∃ x x_4 x_5,v=tuple #[int u64 x,int i64 x_4,int i64 x_5]/\bif
 !decide (x_5=0) then ∃ a,r=some a/\stOK (add a 2) 0 [bool true] w'/\∀ w'_1,w'_1=setAll (add a 2) 0 [bool true] w'->K (int i64 0) w'_1 else bif decide
 (wrap u64 most<x) then ∃ a,r=some a/\stOK (add a 2) 0 [bool true] w'/\∀ w'_1,w'_1=setAll (add a 2) 0 [bool true] w'->K (int i64 0) w'_1 else ∃ a,r=some a/\stOK
 (add a 1) 0 [int i64 x_4] w'/\∀ w'_1,w'_1=setAll (add a 1) 0 [int i64 x_4] w'->K (int i64 (wrap i64 x)) w'_1
theorem code_reader_number.calls (ok:Okay Tryz.prog) {r most w K} (h:code_reader_number.W r most w K):CallsV Tryz.prog 30 #[.pointer r,.int .i64 most] w K :=
  fnW_calls ok Tryz.func30 (an:=(.named .auto)) (args:=[.pointer r,.int .i64 most]) (Eq.mp (by kernel_rfl) h)
noncomputable def code_reader_flag.W:Option Addr->World->(Value->World->Prop)->Prop:=fun r w K=>CallsV Tryz.prog 30 #[pointer r,int i64 1] w fun v w'=>∃ x,v=int i64 x/\K (bool
 (decide (x=1))) w'
theorem code_reader_flag.calls (ok:Okay Tryz.prog) {r w K} (h:code_reader_flag.W r w K):CallsV Tryz.prog 72 #[.pointer r] w K :=
  fnW_calls ok Tryz.func72 (an:=(.named .auto)) (args:=[.pointer r]) (Eq.mp (by kernel_rfl) h)
noncomputable def code_reader_blob.W:Option Addr->Int->World->(Value->World->Prop)->Prop:=fun r most w K=>∃ a,r=some a/\∃ x,cell? w (add a 2)=some (bool x)/\bif x then
 K (slice none 0 0) w else ∃ a,r=some a/\∃ (S:World->Prop),S (drew w)/\∃ x x_1 x_2,(∀ u,S u->cell? u (add a 0)=some (slice x x_1 x_2))/\∃ a,r=some a/\∃
 x_3,(∀ u,S u->cell? u (add a 1)=some (int i64 x_3))/\CallsV Tryz.prog 70 #[slice x x_1 x_2,int i64 x_3,int i64 most] (drew w) fun v w'=>∃ x x_4 x_5 x_6 x_7,v=tuple #[slice x x_4
 x_5,int i64 x_6,int i64 x_7]/\bif !decide (x_7=0) then ∃ a,r=some a/\stOK (add a 2) 0 [bool true] w'/\∀ w'_1,w'_1=setAll (add a 2) 0 [bool true] w'->K (slice
 none 0 0) w'_1 else ∃ a,r=some a/\stOK (add a 1) 0 [int i64 x_6] w'/\∀ w'_1,w'_1=setAll (add a 1) 0 [int i64 x_6] w'->K (slice x x_4 x_5) w'_1
theorem code_reader_blob.calls (ok:Okay Tryz.prog) {r most w K} (h:code_reader_blob.W r most w K):CallsV Tryz.prog 33 #[.pointer r,.int .i64 most] w K :=
  fnW_calls ok Tryz.func33 (an:=(.named .auto)) (args:=[.pointer r,.int .i64 most]) (Eq.mp (by kernel_rfl) h)
noncomputable def code_Read_1.W:Addr->World->(Value->World->Prop)->Prop:=fun a0 w K=>∃ x,cell? w a0=some (pointer x)/\CallsV Tryz.prog 33 #[pointer x,int i64 200] w fun v w'=>∃
 x x_1 x_2,v=slice x x_1 x_2/\∃ (x_3:ByteArray) (w'_1:World),RunsTo Tryz.prog (convert 32 9 (slice x x_1 x_2)) w' (string x_3) w'_1/\K (string x_3) w'_1
theorem code_Read_1.calls (ok:Okay Tryz.prog) {a0 w K} (h:code_Read_1.W a0 w K):CallsV Tryz.prog 32 #[.pointer (some a0)] w K :=
  fnW_calls ok Tryz.func32 (an:=(.named .auto)) (args:=[.pointer (some a0)]) (Eq.mp (by kernel_rfl) h)
noncomputable def code_reader_constant.W:Option Addr->World->(Value->World->Prop)->Prop:=fun r w K=>∀ g w',Fresh w g w' [int u8 0,int i64 0,string (ByteArray.mk #[])] 54->CallsV
 Tryz.prog 33 #[pointer r,int i64 1048576] w' fun v w'=>∃ x x_1 x_2,v=slice x x_1 x_2/\CallsV Tryz.prog 71 #[slice x x_1 x_2] w' fun v w'=>∃ x x_3 x_4 x_5,v=tuple #[slice x x_3 x_4,int i64
 x_5]/\bif !decide (x_5=0) then ∃ a,r=some a/\stOK (add a 2) 0 [bool true] w'/\∀ w'_1,w'_1=setAll (add a 2) 0 [bool true] w'->stOK (mk g 0 none) 0 [int u8
 0,int i64 0,string (ByteArray.mk #[])] w'_1/\∀ w',w'=setAll (mk g 0 none) 0 [int u8 0,int i64 0,string (ByteArray.mk #[])] w'_1->∃ x,cell? w' (add (mk g 0 none) 0)=some
 (int u8 x)/\∃ x_6,cell? w' (add (mk g 0 none) 1)=some (int i64 x_6)/\∃ (x_7:ByteArray),cell? w' (add (mk g 0 none) 2)=some (string x_7)/\K (agg #[int u8 x,int
 i64 x_6,string x_7]) w' else bif !decide ((x_3:Int)=1) then ∃ a,r=some a/\stOK (add a 2) 0 [bool true] w'/\∀ w'_1,w'_1=setAll (add a 2) 0 [bool true] w'->stOK
 (mk g 0 none) 0 [int u8 0,int i64 0,string (ByteArray.mk #[])] w'_1/\∀ w',w'=setAll (mk g 0 none) 0 [int u8 0,int i64 0,string (ByteArray.mk #[])] w'_1->∃ x,cell? w' (add (mk g
 0 none) 0)=some (int u8 x)/\∃ x_6,cell? w' (add (mk g 0 none) 1)=some (int i64 x_6)/\∃ (x_7:ByteArray),cell? w' (add (mk g 0 none) 2)=some (string
 x_7)/\K (agg #[int u8 x,int i64 x_6,string x_7]) w' else ∃ ad,x=some ad/\((0: Int)<=0/\0<(x_3:Int))/\∃ x,cell? w' (add (add ad (Int.toNat (0: Int)*3)) 0)=some (int u8
 x)/\∃ x_6,cell? w' (add (add ad (Int.toNat (0: Int)*3)) 1)=some (int i64 x_6)/\∃ (x_7:ByteArray),cell? w' (add (add ad (Int.toNat (0: Int)*3)) 2)=some (string x_7)/\stOK
 (mk g 0 none) 0 [int u8 x,int i64 x_6,string x_7] w'/\∀ w'_1,w'_1=setAll (mk g 0 none) 0 [int u8 x,int i64 x_6,string x_7] w'->∃ x,cell? w'_1 (add (mk g 0 none) 0) =
 some (int u8 x)/\∃ x_8,cell? w'_1 (add (mk g 0 none) 1)=some (int i64 x_8)/\∃ (x_9:ByteArray),cell? w'_1 (add (mk g 0 none) 2)=some (string x_9)/\K (agg
 #[int u8 x,int i64 x_8,string x_9]) w'_1
theorem code_reader_constant.calls (ok:Okay Tryz.prog) {r w K} (h:code_reader_constant.W r w K):CallsV Tryz.prog 35 #[.pointer r] w K :=
  fnW_calls ok Tryz.func35 (an:=(.named .auto)) (args:=[.pointer r]) (Eq.mp (by kernel_rfl) h)
noncomputable def code_reader_cursor.W:Option Addr->World->(Value->World->Prop)->Prop:=fun r w K=>∀ g w',Fresh w g w' [string (ByteArray.mk #[]),bool false,bool false] 56 ->
 CallsV Tryz.prog 33 #[pointer r,int i64 200] w' fun v w'=>∃ x x_1 x_2,v=slice x x_1 x_2/\∃ (x_3:ByteArray) (w'_1:World),RunsTo Tryz.prog (convert 32 9 (slice x x_1 x_2)) w' (string x_3)
 w'_1/\∀ g_1 w',Fresh w'_1 g_1 w' [string (ByteArray.mk #[]),bool false,bool false] 56->stOK (mk g_1 0 none) 0 [string x_3,bool false,bool false] w'/\∀ w'_2,w'_2 =
 setAll (mk g_1 0 none) 0 [string x_3,bool false,bool false] w'->CallsV Tryz.prog 72 #[pointer r] w'_2 fun v w'=>∃ x,v=bool x/\stOK (add (mk g_1 0 none) 1) 0 [bool x] w'
 /\ ∀ w'_3,w'_3=setAll (add (mk g_1 0 none) 1) 0 [bool x] w'->CallsV Tryz.prog 72 #[pointer r] w'_3 fun v w'=>∃ x,v=bool x/\stOK (add (mk g_1 0 none) 2) 0 [bool x] w'/\∀ w'_4,
 w'_4=setAll (add (mk g_1 0 none) 2) 0 [bool x] w'->∃ (x:ByteArray),cell? w'_4 (add (mk g_1 0 none) 0)=some (string x)/\∃ x_4,cell? w'_4 (add (mk g_1 0 none) 1) =
 some (bool x_4)/\∃ x_5,cell? w'_4 (add (mk g_1 0 none) 2)=some (bool x_5)/\stOK (mk g 0 none) 0 [string x,bool x_4,bool x_5] w'_4/\∀ w',w'=setAll (mk g 0
 none) 0 [string x,bool x_4,bool x_5] w'_4->∃ (x:ByteArray),cell? w' (add (mk g 0 none) 0)=some (string x)/\∃ x_6,cell? w' (add (mk g 0 none) 1)=some (bool
 x_6)/\∃ x_7,cell? w' (add (mk g 0 none) 2)=some (bool x_7)/\K (agg #[string x,bool x_6,bool x_7]) w'
theorem code_reader_cursor.calls (ok:Okay Tryz.prog) {r w K} (h:code_reader_cursor.W r w K):CallsV Tryz.prog 37 #[.pointer r] w K :=
  fnW_calls ok Tryz.func37 (an:=(.named .auto)) (args:=[.pointer r]) (Eq.mp (by kernel_rfl) h)
noncomputable def code_reader_sorter.W:Option Addr->World->(Value->World->Prop)->Prop:=fun r w K=>∀ g w',Fresh w g w' [slice none 0 0,int i64 0,bool false] 59->CallsV
 Tryz.prog 73 #[pointer r,int i64 30,func (Fn.func 72) #[pointer r] #[]] w' fun v w'=>∃ x x_1 x_2,v=slice x x_1 x_2/\∀ g_1 w'_1,Fresh w' g_1 w'_1 [slice none 0 0,int i64 0,bool
 false] 59->stOK (mk g_1 0 none) 0 [slice x x_1 x_2,int i64 0,bool false] w'_1/\∀ w',w'=setAll (mk g_1 0 none) 0 [slice x x_1 x_2,int i64 0,bool false] w'_1 ->
 CallsV Tryz.prog 30 #[pointer r,int i64 60] w' fun v w'=>∃ x,v=int i64 x/\stOK (add (mk g_1 0 none) 1) 0 [int i64 x] w'/\∀ w'_2,w'_2=setAll (add (mk g_1 0 none) 1) 0 [int i64
 x] w'->CallsV Tryz.prog 72 #[pointer r] w'_2 fun v w'=>∃ x,v=bool x/\stOK (add (mk g_1 0 none) 2) 0 [bool x] w'/\∀ w'_3,w'_3=setAll (add (mk g_1 0 none) 2) 0 [bool x] w'->∃ x
 x_3 x_4,cell? w'_3 (add (mk g_1 0 none) 0)=some (slice x x_3 x_4)/\∃ x_5,cell? w'_3 (add (mk g_1 0 none) 1)=some (int i64 x_5)/\∃ x_6,cell? w'_3 (add (mk g_1 0
 none) 2)=some (bool x_6)/\stOK (mk g 0 none) 0 [slice x x_3 x_4,int i64 x_5,bool x_6] w'_3/\∀ w',w'=setAll (mk g 0 none) 0 [slice x x_3 x_4,int i64 x_5,bool x_6]
 w'_3->∃ x x_7 x_8,cell? w' (add (mk g 0 none) 0)=some (slice x x_7 x_8)/\∃ x_9,cell? w' (add (mk g 0 none) 1)=some (int i64 x_9)/\∃ x_10,cell? w' (add (mk g 0
 none) 2)=some (bool x_10)/\K (agg #[slice x x_7 x_8,int i64 x_9,bool x_10]) w'
theorem code_reader_sorter.calls (ok:Okay Tryz.prog) {r w K} (h:code_reader_sorter.W r w K):CallsV Tryz.prog 39 #[.pointer r] w K :=
  fnW_calls ok Tryz.func39 (an:=(.named .auto)) (args:=[.pointer r]) (Eq.mp (by kernel_rfl) h)
noncomputable def code_reader_total.W:Option Addr->World->(Value->World->Prop)->Prop:=fun r w K=>∀ g w',Fresh w g w' [string (ByteArray.mk #[]),bool false] 61->CallsV Tryz.prog 33
 #[pointer r,int i64 200] w' fun v w'=>∃ x x_1 x_2,v=slice x x_1 x_2/\∃ (x_3:ByteArray) (w'_1:World),RunsTo Tryz.prog (convert 32 9 (slice x x_1 x_2)) w' (string x_3) w'_1/\∀ g_1 w',Fresh
 w'_1 g_1 w' [string (ByteArray.mk #[]),bool false] 61->stOK (mk g_1 0 none) 0 [string x_3,bool false] w'/\∀ w'_2,w'_2=setAll (mk g_1 0 none) 0 [string x_3,bool
 false] w'->CallsV Tryz.prog 72 #[pointer r] w'_2 fun v w'=>∃ x,v=bool x/\stOK (add (mk g_1 0 none) 1) 0 [bool x] w'/\∀ w'_3,w'_3=setAll (add (mk g_1 0 none) 1) 0 [bool x]
 w'->∃ (x:ByteArray),cell? w'_3 (add (mk g_1 0 none) 0)=some (string x)/\∃ x_4,cell? w'_3 (add (mk g_1 0 none) 1)=some (bool x_4)/\stOK (mk g 0 none) 0
 [string x,bool x_4] w'_3/\∀ w',w'=setAll (mk g 0 none) 0 [string x,bool x_4] w'_3->∃ (x:ByteArray),cell? w' (add (mk g 0 none) 0)=some (string x)/\∃ x_5,cell? w' (add
 (mk g 0 none) 1)=some (bool x_5)/\K (agg #[string x,bool x_5]) w'
theorem code_reader_total.calls (ok:Okay Tryz.prog) {r w K} (h:code_reader_total.W r w K):CallsV Tryz.prog 41 #[.pointer r] w K :=
  fnW_calls ok Tryz.func41 (an:=(.named .auto)) (args:=[.pointer r]) (Eq.mp (by kernel_rfl) h)
noncomputable def code_reader_instr.W:Option Addr->World->(Value->World->Prop)->Prop:=fun r w K=>∀ g w',Fresh w g w' [int u8 0,int i64 0,int i64 0,int i64 0,int i64 0] 46->∀ g_1 w'_1,
 Fresh w' g_1 w'_1 [int u8 0,int i64 0,int i64 0,int i64 0,int i64 0] 46->CallsV Tryz.prog 30 #[pointer r,int i64 255] w'_1 fun v w'=>∃ x,v=int i64 x/\stOK (add (mk g_1 0 none) 0) 0
 [int u8 (wrap u8 x)] w'/\∀ w'_2,w'_2=setAll (add (mk g_1 0 none) 0) 0 [int u8 (wrap u8 x)] w'->∃ (I:Int->World->Prop) (μ:Int->World->Nat),I 0 w'_2/\∀ x w,I x w->bif
 decide (x<4) then (0<=x/\x<(↑4:Int))/\bif decide (x=(↑0:Int)) then CallsV Tryz.prog 30 #[pointer r,int i64 1099511627776] w fun v w'=>∃ x_1,v=int i64 x_1/\∃ a,
 some (add (mk g_1 0 none) 1)=some a/\stOK a 0 [int i64 x_1] w'/\∀ w'_3,w'_3=setAll a 0 [int i64 x_1] w'->I (wrap i64 (x+1)) w'_3/\μ (wrap i64 (x+1)) w'_3<μ x w else
 bif decide (x=(↑1:Int)) then CallsV Tryz.prog 30 #[pointer r,int i64 1099511627776] w fun v w'=>∃ x_1,v=int i64 x_1/\∃ a,some (add (mk g_1 0 none) 2)=some a
 /\ stOK a 0 [int i64 x_1] w'/\∀ w'_3,w'_3=setAll a 0 [int i64 x_1] w'->I (wrap i64 (x+1)) w'_3/\μ (wrap i64 (x+1)) w'_3<μ x w else bif decide (x=(↑2:Int)) then CallsV Tryz.prog
 30 #[pointer r,int i64 1099511627776] w fun v w'=>∃ x_1,v=int i64 x_1/\∃ a,some (add (mk g_1 0 none) 3)=some a/\stOK a 0 [int i64 x_1] w'/\∀ w'_3,w'_3=setAll a 0
 [int i64 x_1] w'->I (wrap i64 (x+1)) w'_3/\μ (wrap i64 (x+1)) w'_3<μ x w else bif decide (x=(↑3:Int)) then CallsV Tryz.prog 30 #[pointer r,int i64 1099511627776] w fun v w'=>∃
 x_1,v=int i64 x_1/\∃ a,some (add (mk g_1 0 none) 4)=some a/\stOK a 0 [int i64 x_1] w'/\∀ w'_3,w'_3=setAll a 0 [int i64 x_1] w'->I (wrap i64 (x+1)) w'_3/\μ (wrap i64
 (x+1)) w'_3<μ x w else False else ∃ x,cell? w (add (mk g_1 0 none) 0)=some (int u8 x)/\∃ x_1,cell? w (add (mk g_1 0 none) 1)=some (int i64 x_1)/\∃ x_2,cell? w
 (add (mk g_1 0 none) 2)=some (int i64 x_2)/\∃ x_3,cell? w (add (mk g_1 0 none) 3)=some (int i64 x_3)/\∃ x_4,cell? w (add (mk g_1 0 none) 4)=some (int
 i64 x_4)/\stOK (mk g 0 none) 0 [int u8 x,int i64 x_1,int i64 x_2,int i64 x_3,int i64 x_4] w/\∀ w',w'=setAll (mk g 0 none) 0 [int u8 x,int i64 x_1,int i64 x_2,int i64 x_3,int
 i64 x_4] w->∃ x,cell? w' (add (mk g 0 none) 0)=some (int u8 x)/\∃ x_5,cell? w' (add (mk g 0 none) 1)=some (int i64 x_5)/\∃ x_6,cell? w' (add (mk g 0 none)
 2)=some (int i64 x_6)/\∃ x_7,cell? w' (add (mk g 0 none) 3)=some (int i64 x_7)/\∃ x_8,cell? w' (add (mk g 0 none) 4)=some (int i64 x_8)/\K (agg #[int u8 x,
 int i64 x_5,int i64 x_6,int i64 x_7,int i64 x_8]) w'
theorem code_reader_instr.calls (ok:Okay Tryz.prog) {r w K} (h:code_reader_instr.W r w K):CallsV Tryz.prog 43 #[.pointer r] w K :=
  fnW_calls ok Tryz.func43 (an:=(.named (.seq .auto (.seq .auto (.seq .auto (.seq (.seq .auto (.block (.loop [(15,.one (.int .i64))] .auto))) .auto)))))) (args:=[.pointer r]) (Eq.mp (by kernel_rfl) h)
end Go.Proofs.YtaifphjenebgoaaGreatDoor
