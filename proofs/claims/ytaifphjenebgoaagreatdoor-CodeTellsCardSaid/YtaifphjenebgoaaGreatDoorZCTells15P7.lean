/- Part 7 of the texts of this claim: the engine, contracts, plain laws. -/
import Derived.Test.YtaifphjenebgoaaGreatDoorZCTells15P6
import Derived.Test.YtaifphjenebgoaaGreatDoorZCTells15P5
import Derived.Test.YtaifphjenebgoaaGreatDoorZCTells15P4
import Derived.Test.YtaifphjenebgoaaGreatDoorZCTells15P3
import Derived.Lib.Fields
import Derived.Lib.ItoaNum
import Derived.Lib.ItoaLen
import Derived.Lib.IndexMore
import Derived.Lib.Strings
import Derived.Shelf.Strconv.Itoa0
import Derived.Shelf.Strconv.Itoa1
import Derived.Shelf.LaysM
import Derived.Shelf.Strconv.Itoa2
import Derived.Shelf.Strconv.Itoa3
import Derived.Shelf.Strings.Fields
import Derived.Shelf.Strings.SplitShaped
import Derived.Shelf.Unicode.Latin
import Derived.Shelf.Unicode.Is16White
import Derived.Shelf.Unicode.IsSpaceAny
import Derived.Shelf.Unicode.Is16Any
import Derived.Shelf.Unicode.Is32Any
import Derived.Shelf.Unicode.ExclAny
import Derived.Test.YtaifphjenebgoaaGreatDoorProg
import Derived.Lib.ItoaMem
import Derived.Test.YtaifphjenebgoaaGreatDoorZCTells15P2
import Derived.Handed
import Derived.Shelf.Vars
set_option linter.unusedVariables false
set_option linter.unusedSimpArgs false
namespace Go.Proofs.YtaifphjenebgoaaGreatDoor
open Go Go.Sx R1 K15
structure Rdr (b:List UInt8) (A:Option Addr) (c:Nat) (w0 w:World) (g:Nat) (s:Option (List UInt8)):Prop where
  imm:Imm KB NoB w0 A b
  lc:b.length<=c
  ln:b.length<=140737488355328
  ge:w0.heap.size<=g
  ext:Ext w0 w
  st:∃ a:Nat,a<=b.length/\Blk w g [.slice A b.length c,.int .i64 (a:Int),.bool s.isNone]/\∀ r,s=some r->r=b.drop a
abbrev At (g:Nat):Nat->Prop:=fun k=>k=g
section
variable {b:List UInt8} {A:Option Addr} {c:Nat} {w0 w w':World} {g:Nat} {s:Option (List UInt8)}
theorem Rdr.fr (h:Rdr b A c w0 w g s) {S:Nat->Prop} (f:Fr S w w') (hg : ¬ S g) (h0:∀ k,k<w0.heap.size->¬ S k):Rdr b A c w0 w' g s:=by
  obtain ⟨a,ha,bk,hs⟩:=h.st
  exact ⟨h.imm,h.lc,h.ln,h.ge,h.ext.trans f (fun _ _ h=>h) (fun k hk hS=>h0 k hk hS),a,ha,bk.keep f hg,hs⟩
theorem Rdr.lt (h:Rdr b A c w0 w g s):g<w.heap.size:=by obtain ⟨a,ha,bk,hs⟩:=h.st;exact bk.lt
theorem Rdr.ex (h:Rdr b A c w0 w g s) (e:Ext w w'):Rdr b A c w0 w' g s:=h.fr e (fun h=>h) (fun _ _ h=>h)
theorem Rdr.now (h:Rdr b A c w0 w g s):Imm KB NoB w A b:=h.imm.ext KB_pos h.ext
theorem Rdr.fail (h:Rdr b A c w0 w g s) (e:Ext w w') {u:World} (hu:u=setAll ((⟨g,0,none⟩:Addr).add 2) 0 [.bool true] w'):Rdr b A c w0 u g none/\Fr (At g) w u:=by
  obtain ⟨a,ha,bk,hs⟩:=(h.ex e).st
  obtain ⟨b1,q⟩:=cellSet bk hu
  exact ⟨⟨h.imm,h.lc,h.ln,h.ge,(h.ext.trans' e).trans q (fun _ _ h=>h) (fun k hk hS=>by have:=h.ge;have hS:k=g:=hS;omega),a,ha,b1,fun r hr=>by cases hr⟩,e.trans q (fun _ _ h=>h.elim) (fun _ _ h=>h)⟩
theorem Rdr.failOK (h:Rdr b A c w0 w g s) (e:Ext w w') (v:Value):stOK ((⟨g,0,none⟩:Addr).add 2) 0 [v] w':=by
  obtain ⟨a,ha,bk,hs⟩:=(h.ex e).st
  exact cellOK bk (by simp)
theorem Rdr.go {p:Nat} (h:Rdr b A c w0 w g (some (b.drop p))) (hp:p<=b.length) {q:Nat} (hq:q<=b.length) (e:Ext w w') {u:World} (hu:u=setAll ((⟨g,0,none⟩:Addr).add 1) 0 [.int .i64 (q:Int)] w') :
    Rdr b A c w0 u g (some (b.drop q))/\Fr (At g) w u:=by
  obtain ⟨a,ha,bk,hs⟩:=(h.ex e).st
  obtain ⟨b1,f⟩:=cellSet bk hu
  exact ⟨⟨h.imm,h.lc,h.ln,h.ge,(h.ext.trans' e).trans f (fun _ _ h=>h) (fun k hk hS=>by have:=h.ge;have hS:k=g:=hS;omega),q,hq,b1,fun r hr=>by cases hr;rfl⟩,e.trans f (fun _ _ h=>h.elim) (fun _ _ h=>h)⟩
theorem Rdr.goOK (h:Rdr b A c w0 w g s) (e:Ext w w') (v:Value):stOK ((⟨g,0,none⟩:Addr).add 1) 0 [v] w':=by
  obtain ⟨a,ha,bk,hs⟩:=(h.ex e).st
  exact cellOK bk (by simp)
theorem getU_dec {b:List UInt8} {a:Nat} (ha:a<=b.length):B1.getU b (a:Int)=(B1.dec 0 (b.drop a)).at (a:Int):=by
  unfold B1.getU
  rw [if_neg (by omega),Int.toNat_natCast]
theorem rnum_spec (h:Rdr b A c w0 w g s) (most:Nat) (hm:most<9223372036854775808) :
    CallsV Tryz.prog 30 #[.pointer (some ⟨g,0,none⟩),.int .i64 most] w fun v w'=>∃ x:Int,v=.int .i64 x/\Rdr b A c w0 w' g (adv (numO most) s)/\Got (numO most) s x/\(0<=x/\x<=most)/\Fr (At g) w w':=by
  refine code_reader_number.calls okay ?_
  unfold code_reader_number.W
  obtain ⟨a,ha,bk,hs⟩:=h.st
  refine ⟨_,rfl,_,bk.cell rfl,br (fun hb=>?_) (fun hb=>?_)⟩
  · obtain rfl:s=none:=by cases s with|none=>rfl|some x=>cases hb
    exact ⟨0,rfl,h,Got.bad rfl,⟨by omega,by omega⟩,.refl _ _⟩
  obtain ⟨r,rfl⟩:∃ r,s=some r:=by cases s with|none=>cases hb|some x=>exact ⟨x,rfl⟩
  obtain rfl:=hs r rfl
  refine ⟨_,rfl,fun u=>Ext w u,Fr.drew NoB w,_,_,_,fun u e=>(bk.ext e).cell rfl,_,rfl,_,fun u e=>(bk.ext e).cell rfl,?_⟩
  have hd:Ext w w.drew:=Fr.drew NoB w
  refine (GetUint_spec (h.now.ext KB_pos hd) h.ln (a:Int)).mono ?_
  rintro _ w1 ⟨rfl,e1⟩
  have e1:Ext w w1:=hd.trans' e1
  refine ⟨_,_,_,rfl,?_⟩
  rw [getU_dec ha]
  have bad:∀ u,numO most (b.drop a)=none->u=setAll ((⟨g,0,none⟩:Addr).add 2) 0 [.bool true] w1->∃ x:Int,Value.int .i64 0=.int .i64 x/\Rdr b A c w0 u g (adv (numO most) (some (b.drop a)))/\Got (numO most) (some (b.drop a)) x/\(0<=x/\x<=most)/\Fr (At g) w u:=fun u hn hu=>by
    obtain ⟨q1,q2⟩:=h.fail e1 hu
    exact ⟨0,rfl,by rw [adv_bad hn];exact q1,Got.bad (adv_bad hn),⟨by omega,by omega⟩,q2⟩
  have ok1:=h.failOK e1 (.bool true)
  cases hc:B1.dec 0 (b.drop a) with
  | short=>exact brn (fun _=>⟨_,rfl,ok1,fun u hu=>bad u (by unfold numO;rw [hc]) hu⟩) (fun h0=>by simp [B1.Dec.at] at h0)
  | bad=>exact brn (fun _=>⟨_,rfl,ok1,fun u hu=>bad u (by unfold numO;rw [hc]) hu⟩) (fun h0=>by simp [B1.Dec.at] at h0)
  | ok n k =>
    refine brn (fun h0=>by simp [B1.Dec.at] at h0) (fun _=>?_)
    simp only [B1.Dec.at]
    rw [wu (most:Int) (by omega) (by omega)]
    refine brd (fun hgt=>⟨_,rfl,ok1,fun u hu=>bad u (by unfold numO;rw [hc];simp only;rw [if_neg (by omega)]) hu⟩) (fun hle=>?_)
    obtain ⟨_,hk,_⟩:=B1.dec_ok _ 0 n k (by omega) hc
    rw [List.length_drop] at hk
    have hn:numO most (b.drop a)=some ((n:Int),b.drop (a+k)):=by unfold numO;rw [hc];simp only;rw [if_pos (by omega),List.drop_drop]
    rw [show (a:Int)+(k:Int)=((a+k:Nat):Int) by omega]
    refine ⟨_,rfl,h.goOK e1 _,fun u hu=>?_⟩
    obtain ⟨q1,q2⟩:=h.go (b:=b) (p:=a) ha (q:=a+k) (by omega) e1 hu
    rw [wi (n:Int) (by omega) (by omega)]
    exact ⟨n,rfl,by rw [adv_ok hn];exact q1,Got.ok hn,⟨by omega,by omega⟩,q2⟩
theorem rflag_spec (h:Rdr b A c w0 w g s) :
    CallsV Tryz.prog 72 #[.pointer (some ⟨g,0,none⟩)] w fun v w'=>∃ x:Bool,v=.bool x/\Rdr b A c w0 w' g (adv flagO s)/\Got flagO s x/\Fr (At g) w w':=by
  refine code_reader_flag.calls okay ?_
  unfold code_reader_flag.W
  refine (rnum_spec h 1 (by omega)).mono ?_
  rintro _ w1 ⟨x,rfl,h1,q1,_,f1⟩
  exact ⟨_,rfl,_,rfl,by unfold flagO;rw [adv_map];exact h1,q1.map (fun n=>decide (n=1)),f1⟩
abbrev Old (w:World):Nat->Prop:=fun k=>k<w.heap.size
theorem rblob_spec (h:Rdr b A c w0 w g s) (most:Nat) (hm:most<9223372036854775808) :
    CallsV Tryz.prog 33 #[.pointer (some ⟨g,0,none⟩),.int .i64 most] w fun v w'=>∃ (B:Option Addr) (d:Nat) (l:List UInt8),v=.slice B l.length d/\OwnB w' B d l/\New w B/\Rdr b A c w0 w' g (adv (blobO most) s)/\Got (blobO most) s l /\
      l.length<=most/\Fr (At g) w w':=by
  refine code_reader_blob.calls okay ?_
  unfold code_reader_blob.W
  obtain ⟨a,ha,bk,hs⟩:=h.st
  refine ⟨_,rfl,_,bk.cell rfl,br (fun hb=>?_) (fun hb=>?_)⟩
  · obtain rfl:s=none:=by cases s with|none=>rfl|some x=>cases hb
    exact ⟨none,0,[],rfl,OwnB.nil _,New.none _,h,Got.bad rfl,Nat.zero_le _,.refl _ _⟩
  obtain ⟨r,rfl⟩:∃ r,s=some r:=by cases s with|none=>cases hb|some x=>exact ⟨x,rfl⟩
  obtain rfl:=hs r rfl
  refine ⟨_,rfl,fun u=>Ext w u,Fr.drew NoB w,_,_,_,fun u e=>(bk.ext e).cell rfl,_,rfl,_,fun u e=>(bk.ext e).cell rfl,?_⟩
  have hd:Ext w w.drew:=Fr.drew NoB w
  refine (GetBlob_spec (h.now.ext KB_pos hd) h.ln h.lc (a:Int) most (by omega)).mono ?_
  rintro _ w1 ⟨B,d,rfl,ho,e1,nB⟩
  have e1:Ext w w1:=hd.trans' e1
  refine ⟨_,_,_,_,_,rfl,?_⟩
  have hB:∀ (n q:Nat) (e:Int),B1.getU b (a:Int)=(n,(q:Int),e)->getB b (a:Int) most=if e≠0 then ([],0,e) else if (most:Int)<0\/(most:Int)<(n:Int) then ([],0,3) else if b.length-q<n then ([],0,11)
    else ((b.drop q).take n,(q:Int)+n,0):=fun n q e he=>by unfold getB;rw [he];rfl
  rw [getU_dec ha] at hB
  have bad:∀ u,blobO most (b.drop a)=none->u=setAll ((⟨g,0,none⟩:Addr).add 2) 0 [.bool true] w1->∃ (B:Option Addr) (d:Nat) (l:List UInt8),Value.slice none 0 0=.slice B l.length d/\OwnB u B d l/\New w B/\Rdr b A c w0 u g (adv (blobO most) (some (b.drop a)))/\Got (blobO most) (some (b.drop a)) l /\
      l.length<=most/\Fr (At g) w u:=fun u hn hu=>by
    obtain ⟨q1,q2⟩:=h.fail e1 hu
    exact ⟨none,0,[],rfl,OwnB.nil _,New.none _,by rw [adv_bad hn];exact q1,Got.bad (adv_bad hn),Nat.zero_le _,q2⟩
  have ok1:=h.failOK e1 (.bool true)
  cases hc:B1.dec 0 (b.drop a) with
  | short=>exact brn (fun _=>⟨_,rfl,ok1,fun u hu=>bad u (by unfold blobO numO;rw [hc]) hu⟩) (fun h0=>by rw [hB 0 0 11 (by rw [hc];rfl),if_pos (by decide)] at h0;simp at h0)
  | bad=>exact brn (fun _=>⟨_,rfl,ok1,fun u hu=>bad u (by unfold blobO numO;rw [hc]) hu⟩) (fun h0=>by rw [hB 0 0 10 (by rw [hc];rfl),if_pos (by decide)] at h0;simp at h0)
  | ok n k =>
    have hB:=hB n (a+k) 0 (by rw [hc];show (n,(a:Int)+(k:Int),(0:Int))=_;rw [show (a:Int)+(k:Int)=((a+k:Nat):Int) by omega])
    rw [if_neg (by decide)] at hB
    obtain ⟨_,hk,_⟩:=B1.dec_ok _ 0 n k (by omega) hc
    rw [List.length_drop] at hk
    by_cases h1:(most:Int)<0\/(most:Int)<(n:Int)
    · rw [if_pos h1] at hB
      rw [hB]
      exact brn (fun _=>⟨_,rfl,ok1,fun u hu=>bad u (by unfold blobO numO;rw [hc];simp only;rw [if_neg (by omega)]) hu⟩) (fun h0=>by simp at h0)
    rw [if_neg h1] at hB
    have hn:numO most (b.drop a)=some ((n:Int),b.drop (a+k)):=by unfold numO;rw [hc];simp only;rw [if_pos (by omega),List.drop_drop]
    by_cases h2:b.length-(a+k)<n
    · rw [if_pos h2] at hB
      rw [hB]
      exact brn (fun _=>⟨_,rfl,ok1,fun u hu=>bad u (by unfold blobO;rw [hn];simp only;rw [if_pos (by rw [List.length_drop];omega)]) hu⟩) (fun h0=>by simp at h0)
    rw [if_neg h2] at hB
    rw [hB] at ho ⊢
    have hbl:blobO most (b.drop a)=some ((b.drop (a+k)).take n,b.drop (a+k+n)):=by
      unfold blobO;rw [hn];simp only;rw [if_neg (by rw [List.length_drop];omega),Int.toNat_natCast,List.drop_drop]
    refine brn (fun h0=>absurd rfl h0) (fun _=>?_)
    rw [show ((a+k:Nat):Int)+(n:Int)=((a+k+n:Nat):Int) by omega]
    refine ⟨_,rfl,h.goOK e1 _,fun u hu=>?_⟩
    obtain ⟨q1,q2⟩:=h.go (b:=b) (p:=a) ha (q:=a+k+n) (by omega) e1 hu
    obtain ⟨_,fu⟩:=cellSet (h.ex e1).st.choose_spec.2.1 hu
    exact ⟨B,d,_,rfl,ho.keep fu (fun j hj hg=>by have h3:w.heap.size<=j:=nB j hj;have h4:=h.lt;have hg:j=g:=hg;omega),nB,by rw [adv_ok hbl];exact q1,Got.ok hbl,(by rw [List.length_take];omega),q2⟩
end
end Go.Proofs.YtaifphjenebgoaaGreatDoor
set_option linter.unusedVariables false
set_option linter.unusedSimpArgs false
namespace Go.Proofs.YtaifphjenebgoaaGreatDoor
open Go Go.Sx R1 K15
section
variable {b:List UInt8} {A:Option Addr} {c:Nat} {w0 w w':World} {g:Nat} {s:Option (List UInt8)}
theorem Rdr.new {s':Option (List UInt8)} (h:Rdr b A c w0 w g s) {g1:Nat} (hg:w.heap.size<=g1) {S:World} (f:Fr (At g1) w' S) (h':Rdr b A c w0 w' g s'):Rdr b A c w0 S g s' :=
  h'.fr f (fun e=>by have e:g=g1:=e;have:=h.lt;omega) (fun k hk e=>by have e:k=g1:=e;have:=h.ge;have:=h.lt;omega)
theorem Fr.new {g1:Nat} {S:World} (f:Fr (At g) w w') (hg:w.heap.size<=g1) (q:Fr (At g1) w' S):Fr (At g) w S :=
  f.trans q (fun _ _ h=>h) (fun k hk e=>by have e:k=g1:=e;omega)
theorem constO_ok {l:List UInt8} {v:V} (h:Got (blobO 1048576) s l) (hv:gV l=some v):adv (K15.constO gV) s=adv (blobO 1048576) s/\Got (K15.constO gV) s v:=by
  cases s with
  | none=>exact ⟨rfl,Got.bad rfl⟩
  | some b =>
    cases hb:blobO 1048576 b with
    | none =>
      have:K15.constO gV b=none:=by unfold K15.constO;rw [hb]
      exact ⟨by rw [adv_bad hb,adv_bad this],Got.bad (adv_bad this)⟩
    | some z =>
      obtain rfl:=h z.1 z.2 hb
      have:K15.constO gV b=some (v,z.2):=by unfold K15.constO;rw [hb];simp only;rw [hv];rfl
      exact ⟨by rw [adv_ok (x:=z.1) (a:=z.2) hb,adv_ok this],Got.ok this⟩
theorem constO_bad {l:List UInt8} (h:Got (blobO 1048576) s l) (hv:gV l=none):adv (K15.constO gV) s=none:=by
  cases s with
  | none=>rfl
  | some b =>
    cases hb:blobO 1048576 b with
    | none=>exact adv_bad (by unfold K15.constO;rw [hb])
    | some z =>
      obtain rfl:=h z.1 z.2 hb
      exact adv_bad (by unfold K15.constO;rw [hb];simp only;rw [hv];rfl)
theorem rtextf_spec (h:Rdr b A c w0 w g s) {g2:Nat} (hb:Blk w g2 [.pointer (some ⟨g,0,none⟩)]) :
    CallsV Tryz.prog 32 #[.pointer (some ⟨g2,0,none⟩)] w fun v w'=>∃ x:ByteArray,v=.string x/\Rdr b A c w0 w' g (adv (textO 200) s)/\Got (textO 200) s x/\Fr (At g) w w':=by
  refine code_Read_1.calls okay ?_
  unfold code_Read_1.W
  refine ⟨_,hb.cell (o:=0) (i:=0) rfl,?_⟩
  refine (rblob_spec h 200 (by omega)).mono ?_
  rintro _ w1 ⟨B,d,l,rfl,ho,_,h1,q1,_,f1⟩
  exact ⟨_,_,_,rfl,_,_,to_str bt (ho.imm (Ω:=NoB) (fun _ _ h=>h)) d,_,rfl,by rw [adv_text];exact h1,q1.text,f1⟩
theorem rconst_spec (h:Rdr b A c w0 w g s) :
    CallsV Tryz.prog 35 #[.pointer (some ⟨g,0,none⟩)] w fun v w'=>∃ x:V,v=.agg #[.int .u8 x.k,.int .i64 x.n,.string x.s]/\Rdr b A c w0 w' g (adv (K15.constO gV) s)/\Got (K15.constO gV) s x/\Fr (At g) w w':=by
  refine code_reader_constant.calls okay ?_
  unfold code_reader_constant.W
  intro g1 w1 f1
  have hg1:=f1.ge
  refine (rblob_spec (h.ex f1.ext) 1048576 (by omega)).mono ?_
  rintro _ w2 ⟨B,d,l,rfl,ho,nB,h2,q2,hl,f2⟩
  refine ⟨_,_,_,rfl,?_⟩
  have gne : ¬ At g g1:=fun e=>by have e:g1=g:=e;have:=h.lt;omega
  refine (Get_spec (n:=l.length) rfl (ho.imm (Ω:=NoB) (fun _ _ h=>h)) (by omega) ho.le).mono ?_
  rintro _ w3 ⟨C,e,rfl,hC,e3,_⟩
  refine ⟨_,_,_,_,rfl,?_⟩
  have bk3:Blk w3 g1 [.int .u8 0,.int .i64 0,.string (ByteArray.mk #[])]:=(f1.blk.keep f2 gne).ext e3
  have fw3:Fr (At g) w w3:=(f1.ext.fr.trans f2 (fun _ _ h=>h) (fun _ _ h=>h)).ext e3.fr
  have bad:gV l=none->∃ a,(some ⟨g,0,none⟩:Option Addr)=some a/\stOK (a.add 2) 0 [.bool true] w3/\∀ w'_1,w'_1=setAll (a.add 2) 0 [.bool true] w3 ->
      stOK ⟨g1,0,none⟩ 0 [.int .u8 0,.int .i64 0,.string (ByteArray.mk #[])] w'_1/\∀ w',w'=setAll ⟨g1,0,none⟩ 0 [.int .u8 0,.int .i64 0,.string (ByteArray.mk #[])] w'_1 ->
        ∃ x,w'.cell? ((⟨g1,0,none⟩:Addr).add 0)=some (.int .u8 x)/\∃ x_6,w'.cell? ((⟨g1,0,none⟩:Addr).add 1)=some (.int .i64 x_6)/\∃ x_7,w'.cell? ((⟨g1,0,none⟩:Addr).add 2)=some (.string x_7) /\
          ∃ y:V,Value.agg #[.int .u8 x,.int .i64 x_6,.string x_7]=.agg #[.int .u8 y.k,.int .i64 y.n,.string y.s]/\Rdr b A c w0 w' g (adv (K15.constO gV) s)/\Got (K15.constO gV) s y/\Fr (At g) w w':=fun hv=>by
    refine ⟨_,rfl,h2.failOK e3 _,fun w4 hw4=>?_⟩
    obtain ⟨h4,f4⟩:=h2.fail e3 hw4
    have bk4:Blk w4 g1 [.int .u8 0,.int .i64 0,.string (ByteArray.mk #[])]:=((f1.blk.keep f2 gne).keep f4 gne)
    refine ⟨bk4.stOK _ 0 (by simp),fun w5 hw5=>?_⟩
    obtain ⟨bk5,f5⟩:=set0 bk4 hw5 rfl
    have ha:=constO_bad q2 hv
    refine ⟨_,bk5.cell rfl,_,bk5.cell rfl,_,bk5.cell rfl,⟨0,0,ByteArray.mk #[]⟩,rfl,?_,Got.bad ha,?_⟩
    · rw [ha]
      exact h.new hg1 f5 h4
    · exact Fr.new (f1.ext.fr.trans (f2.trans f4 (fun _ _ h=>h) (fun _ _ h=>h)) (fun _ _ h=>h) (fun _ _ h=>h)) hg1 f5
  cases hp:getP l with
  | none =>
    have hr:getR l=([],10):=by unfold getR;rw [hp]
    refine brn (fun _=>bad (by unfold gV;rw [hp])) (fun h0=>by rw [hr] at h0;cases h0)
  | some row =>
    have hr:getR l=(row,0):=by unfold getR;rw [hp]
    rw [hr] at hC ⊢
    refine brn (fun h0=>absurd rfl h0) (fun _=>brn (fun h1=>bad ?_) (fun h1=>?_))
    · unfold gV;rw [hp]
      match row,h1 with
      | [],_=>rfl
      | [v],h1=>exact absurd rfl h1
      | _::_::_,_=>rfl
    obtain ⟨v,rfl⟩:∃ v,row=[v]:=by
      match row,h1 with
      | [v],_=>exact ⟨v,rfl⟩
      | [],h1=>cases h1
      | _::_::r,h1=>simp only [List.length_cons] at h1;omega
    obtain ⟨ad,rfl,cs,hrep,hcell⟩:=at1 (hC.imm KV_pos) (j:=0) (by simp)
    obtain rfl:cs=vc v:=hrep
    refine ⟨ad,rfl,⟨by omega,by simp⟩,_,hcell w3 (.refl _ _) 0 _ rfl,_,hcell w3 (.refl _ _) 1 _ rfl,_,hcell w3 (.refl _ _) 2 _ rfl,bk3.stOK _ 0 (by simp),fun w4 hw4=>?_⟩
    obtain ⟨bk4,f4⟩:=set0 bk3 hw4 rfl
    obtain ⟨ha,hgot⟩:=constO_ok q2 (show gV l=some v by unfold gV;rw [hp])
    refine ⟨_,bk4.cell rfl,_,bk4.cell rfl,_,bk4.cell rfl,v,rfl,?_,hgot,Fr.new fw3 hg1 f4⟩
    rw [ha]
    exact h.new hg1 f4 (h2.ex e3)
theorem rcur_spec (h:Rdr b A c w0 w g s) :
    CallsV Tryz.prog 37 #[.pointer (some ⟨g,0,none⟩)] w fun v w'=>∃ x:Cur,v=.agg #[.string x.name,.bool x.ix,.bool x.wr]/\Rdr b A c w0 w' g (adv curO s)/\Got curO s x/\Fr (At g) w w':=by
  refine code_reader_cursor.calls okay ?_
  unfold code_reader_cursor.W
  intro g1 w1 f1
  have hg1:=f1.ge
  have gne : ¬ At g g1:=fun e=>by have e:g1=g:=e;have:=h.lt;omega
  refine (rblob_spec (h.ex f1.ext) 200 (by omega)).mono ?_
  rintro _ w2 ⟨B,d,l,rfl,ho,_,h2,q2,hl,f2⟩
  refine ⟨_,_,_,rfl,_,_,to_str bt (ho.imm (Ω:=NoB) (fun _ _ h=>h)) d,?_⟩
  intro g2 w3 f3
  have hg2:=f3.ge
  have sz:w.heap.size<=w2.heap.size:=Nat.le_trans f1.ext.size f2.size
  have gne2 : ¬ At g g2:=fun e=>by have e:g2=g:=e;have:=h.lt;omega
  have g12:g1≠g2:=by have:=f1.lt;have:=f2.size;omega
  have p3:Fr (At g) w w3:=((f1.ext.fr.trans f2 (fun _ _ h=>h) (fun _ _ h=>h)).ext f3.ext.fr)
  have bk1:Blk w3 g1 _:=(f1.blk.keep f2 gne).ext f3.ext
  refine ⟨f3.blk.stOK _ 0 (by simp),fun w4 hw4=>?_⟩
  obtain ⟨b4,f4⟩:=set0 f3.blk hw4 rfl
  have h4:=h.new (by omega) f4 (h2.ex f3.ext)
  have p4:=Fr.new p3 (by omega) f4
  have bk1:=bk1.keep f4 (fun e=>g12 e)
  refine (rflag_spec h4).mono ?_
  rintro _ w5 ⟨x,rfl,h5,q5,f5⟩
  have b5:=b4.keep f5 gne2
  have bk1:=bk1.keep f5 gne
  refine ⟨_,rfl,cellOK b5 (by simp),fun w6 hw6=>?_⟩
  obtain ⟨b6,f6⟩:=cellSet b5 hw6
  have p5:=p4.trans f5 (fun _ _ h=>h) (fun _ _ h=>h)
  have h6:=h.new (by omega) f6 h5
  have p6:=Fr.new p5 (by omega) f6
  have bk1:=bk1.keep f6 (fun e=>g12 e)
  refine (rflag_spec h6).mono ?_
  rintro _ w7 ⟨y,rfl,h7,q7,f7⟩
  have b7:=b6.keep f7 gne2
  have bk1:=bk1.keep f7 gne
  refine ⟨_,rfl,cellOK b7 (by simp),fun w8 hw8=>?_⟩
  obtain ⟨b8,f8⟩:=cellSet b7 hw8
  have p7:=p6.trans f7 (fun _ _ h=>h) (fun _ _ h=>h)
  have h8:=h.new (by omega) f8 h7
  have p8:=Fr.new p7 (by omega) f8
  have bk1:=bk1.keep f8 (fun e=>g12 e)
  refine ⟨_,b8.cell rfl,_,b8.cell rfl,_,b8.cell rfl,bk1.stOK _ 0 (by simp),fun w9 hw9=>?_⟩
  obtain ⟨b9,f9⟩:=set0 bk1 hw9 rfl
  refine ⟨_,b9.cell rfl,_,b9.cell rfl,_,b9.cell rfl,⟨⟨l.toArray⟩,x,y⟩,rfl,?_,?_,Fr.new p8 hg1 f9⟩
  · unfold curO
    rw [adv_map,adv_seq,adv_seq,adv_text]
    exact h.new hg1 f9 h8
  · exact Got.map (fun z:ByteArray×(Bool×Bool)=>(⟨z.1,z.2.1,z.2.2⟩:Cur)) (q2.text.seq (Got.seq (by rw [adv_text];exact q5) (by rw [adv_text];exact q7)))
theorem rtot_spec (h:Rdr b A c w0 w g s) :
    CallsV Tryz.prog 41 #[.pointer (some ⟨g,0,none⟩)] w fun v w'=>∃ x:Tot,v=.agg #[.string x.fn,.bool x.dist]/\Rdr b A c w0 w' g (adv totO s)/\Got totO s x/\Fr (At g) w w':=by
  refine code_reader_total.calls okay ?_
  unfold code_reader_total.W
  intro g1 w1 f1
  have hg1:=f1.ge
  have gne : ¬ At g g1:=fun e=>by have e:g1=g:=e;have:=h.lt;omega
  refine (rblob_spec (h.ex f1.ext) 200 (by omega)).mono ?_
  rintro _ w2 ⟨B,d,l,rfl,ho,_,h2,q2,hl,f2⟩
  refine ⟨_,_,_,rfl,_,_,to_str bt (ho.imm (Ω:=NoB) (fun _ _ h=>h)) d,?_⟩
  intro g2 w3 f3
  have hg2:=f3.ge
  have sz:w.heap.size<=w2.heap.size:=Nat.le_trans f1.ext.size f2.size
  have gne2 : ¬ At g g2:=fun e=>by have e:g2=g:=e;have:=h.lt;omega
  have g12:g1≠g2:=by have:=f1.lt;have:=f2.size;omega
  have p3:Fr (At g) w w3:=((f1.ext.fr.trans f2 (fun _ _ h=>h) (fun _ _ h=>h)).ext f3.ext.fr)
  have bk1:Blk w3 g1 _:=(f1.blk.keep f2 gne).ext f3.ext
  refine ⟨f3.blk.stOK _ 0 (by simp),fun w4 hw4=>?_⟩
  obtain ⟨b4,f4⟩:=set0 f3.blk hw4 rfl
  have h4:=h.new (by omega) f4 (h2.ex f3.ext)
  have p4:=Fr.new p3 (by omega) f4
  have bk1:=bk1.keep f4 (fun e=>g12 e)
  refine (rflag_spec h4).mono ?_
  rintro _ w5 ⟨x,rfl,h5,q5,f5⟩
  have b5:=b4.keep f5 gne2
  have bk1:=bk1.keep f5 gne
  refine ⟨_,rfl,cellOK b5 (by simp),fun w6 hw6=>?_⟩
  obtain ⟨b6,f6⟩:=cellSet b5 hw6
  have p5:=p4.trans f5 (fun _ _ h=>h) (fun _ _ h=>h)
  have h6:=h.new (by omega) f6 h5
  have p6:=Fr.new p5 (by omega) f6
  have bk1:=bk1.keep f6 (fun e=>g12 e)
  refine ⟨_,b6.cell rfl,_,b6.cell rfl,bk1.stOK _ 0 (by simp),fun w9 hw9=>?_⟩
  obtain ⟨b9,f9⟩:=set0 bk1 hw9 rfl
  refine ⟨_,b9.cell rfl,_,b9.cell rfl,⟨⟨l.toArray⟩,x⟩,rfl,?_,?_,Fr.new p6 hg1 f9⟩
  · unfold totO
    rw [adv_map,adv_seq,adv_text]
    exact h.new hg1 f9 h6
  · exact Got.map (fun z:ByteArray×Bool=>(⟨z.1,z.2⟩:Tot)) (q2.text.seq (by rw [adv_text];exact q5))
theorem rins_spec (h:Rdr b A c w0 w g s) :
    CallsV Tryz.prog 43 #[.pointer (some ⟨g,0,none⟩)] w fun v w'=>∃ x:Ins,v=.agg #[.int .u8 x.op,.int .i64 x.a,.int .i64 x.b,.int .i64 x.c,.int .i64 x.d]/\Rdr b A c w0 w' g (adv insO s)/\Got insO s x/\Fr (At g) w w':=by
  refine code_reader_instr.calls okay ?_
  unfold code_reader_instr.W
  intro g1 w1 f1 g2 w2 f2
  have hg1:=f1.ge
  have hg2:=f2.ge
  have z1:=f1.ext.size
  have gne : ¬ At g g1:=fun e=>by have e:g1=g:=e;have:=h.lt;omega
  have gne2 : ¬ At g g2:=fun e=>by have e:g2=g:=e;have:=h.lt;omega
  have g12:g1≠g2:=by have:=f1.lt;omega
  refine (rnum_spec ((h.ex f1.ext).ex f2.ext) 255 (by omega)).mono ?_
  rintro _ w3 ⟨op,rfl,h3,q3,hop,f3⟩
  have b3:=f2.blk.keep f3 gne2
  have bk1:=(f1.blk.ext f2.ext).keep f3 gne
  refine ⟨_,rfl,?_⟩
  rw [w8 op (by omega) (by omega)]
  refine ⟨cellOK b3 (by simp),fun w4 hw4=>?_⟩
  obtain ⟨b4,f4⟩:=cellSet b3 hw4
  have p3:Fr (At g) w w3:=(f1.ext.fr.ext f2.ext.fr).trans f3 (fun _ _ h=>h) (fun _ _ h=>h)
  have h4:=h.new (by omega) f4 h3
  have p4:=Fr.new p3 (by omega) f4
  have bk1:=bk1.keep f4 (fun e=>g12 e)
  have b4':Blk w4 g2 (.int .u8 op::List.map (Value.int .i64) (([]:List Int)++List.replicate (4-([]:List Int).length) (0:Int))):=b4
  obtain ⟨s1,hs1⟩:∃ s1,s1=adv (numO 255) s:=⟨_,rfl⟩
  rw [<- hs1] at h4
  refine ⟨fun x u=>∃ l:List Int,l.length<=4/\x=(l.length:Int)/\Blk u g2 (.int .u8 op::(l++List.replicate (4-l.length) 0).map (Value.int .i64))/\Blk u g1 [.int .u8 0,.int .i64 0,.int .i64 0,.int .i64 0,.int .i64 0] /\
    Rdr b A c w0 u g (adv (repO (numO bigM) l.length) s1)/\Got (repO (numO bigM) l.length) s1 l/\Fr (At g) w u,fun x _=>(4-x).toNat,⟨[],by simp,rfl,b4',bk1,by rw [List.length_nil,adv_rep0];exact h4,Got.rep0 _ _,p4⟩,?_⟩
  rintro _ u ⟨l,hl,rfl,bu,bk1,hu,qu,pu⟩
  have step:∀ (k:Nat),l.length=k->k<4->CallsV Tryz.prog 30 #[.pointer (some ⟨g,0,none⟩),.int .i64 1099511627776] u fun v w'=>∃ x_1,v=.int .i64 x_1 /\
      ∃ a,(some ((⟨g2,0,none⟩:Addr).add (k+1)):Option Addr)=some a/\stOK a 0 [.int .i64 x_1] w'/\∀ w'_3,w'_3=setAll a 0 [.int .i64 x_1] w' ->
        (∃ l:List Int,l.length<=4/\IntKind.i64.wrap (((k:Nat):Int)+1)=(l.length:Int)/\Blk w'_3 g2 (.int .u8 op::(l++List.replicate (4-l.length) 0).map (Value.int .i64))/\Blk w'_3 g1 [.int .u8 0,.int .i64 0,.int .i64 0,.int .i64 0,.int .i64 0] /\
          Rdr b A c w0 w'_3 g (adv (repO (numO bigM) l.length) s1)/\Got (repO (numO bigM) l.length) s1 l/\Fr (At g) w w'_3)/\(4-IntKind.i64.wrap (((k:Nat):Int)+1)).toNat<(4-((k:Nat):Int)).toNat:=by
    intro k hk hk4
    refine (rnum_spec hu 1099511627776 (by omega)).mono ?_
    rintro _ v ⟨x,rfl,hv,qv,_,fv⟩
    have bv:=bu.keep fv gne2
    have bk1:=bk1.keep fv gne
    refine ⟨_,rfl,_,rfl,cellOK bv (by simp;omega),fun y hy=>?_⟩
    obtain ⟨by_,fy⟩:=cellSet bv hy
    rw [wi ((k:Int)+1) (by omega) (by omega)]
    refine ⟨⟨l++[x],by simp;omega,by simp;omega,?_,bk1.keep fy (fun e=>g12 e),?_,?_,Fr.new (pu.trans fv (fun _ _ h=>h) (fun _ _ h=>h)) (by omega) fy⟩,by omega⟩
    · have:(Value.int .u8 op::(l++List.replicate (4-l.length) 0).map (Value.int .i64)).set (k+1) (.int .i64 x)=.int .u8 op::(l++[x]++List.replicate (4-(l++[x]).length) 0).map (Value.int .i64):=by
        rw [List.set_cons_succ]
        congr 1
        subst hk
        rw [List.map_append,List.set_append_right _ _ (by simp),List.length_map,Nat.sub_self,List.length_append,List.length_singleton,show 4-l.length=(4-(l.length+1))+1 by omega,List.replicate_succ]
        simp
      rw [<- this];exact by_
    · rw [List.length_append,List.length_singleton,adv_rep]
      exact h.new (by omega) fy hv
    · rw [List.length_append,List.length_singleton]
      exact qu.rep qv
  refine brd (fun hlt=>⟨⟨by omega,by omega⟩,?_⟩) (fun hge=>?_)
  · refine brd (fun h0=>?_) (fun h0=>brd (fun h1=>?_) (fun h1=>brd (fun h2=>?_) (fun h2=>brd (fun h3=>?_) (fun h3=>by omega))))
    · have hk:l.length=0:=by omega
      rw [hk];exact step 0 hk (by omega)
    · have hk:l.length=1:=by omega
      rw [hk];exact step 1 hk (by omega)
    · have hk:l.length=2:=by omega
      rw [hk];exact step 2 hk (by omega)
    · have hk:l.length=3:=by omega
      rw [hk];exact step 3 hk (by omega)
  · obtain ⟨p,q,t,z,rfl⟩:∃ p q t z,l=[p,q,t,z]:=by
      match l,hl,hge with
      | [p,q,t,z],_,_=>exact ⟨p,q,t,z,rfl⟩
      | [],_,hge=>simp at hge
      | [_],_,hge=>simp at hge
      | [_,_],_,hge=>simp at hge
      | [_,_,_],_,hge=>simp at hge
      | _::_::_::_::_::r,hl,_=>simp only [List.length_cons] at hl;omega
    refine ⟨_,bu.cell rfl,_,bu.cell rfl,_,bu.cell rfl,_,bu.cell rfl,_,bu.cell rfl,bk1.stOK _ 0 (by simp),fun w9 hw9=>?_⟩
    obtain ⟨b9,f9⟩:=set0 bk1 hw9 rfl
    refine ⟨_,b9.cell rfl,_,b9.cell rfl,_,b9.cell rfl,_,b9.cell rfl,_,b9.cell rfl,⟨op,p,q,t,z⟩,rfl,?_,?_,Fr.new pu hg1 f9⟩
    · unfold insO
      rw [adv_map,adv_seq,<- hs1,<- adv_four]
      exact h.new hg1 f9 hu
    · exact Got.map (fun z:Int×(Int×(Int×(Int×Int)))=>(⟨z.1,z.2.1,z.2.2.1,z.2.2.2.1,z.2.2.2.2⟩:Ins)) (q3.seq (by rw [<- hs1];exact Got.four qu))
end
end Go.Proofs.YtaifphjenebgoaaGreatDoor
set_option linter.unusedVariables false
set_option linter.unusedSimpArgs false
namespace Go.Proofs.YtaifphjenebgoaaGreatDoor
open Go Go.Sx R1 K15
section
variable {b:List UInt8} {A:Option Addr} {c:Nat} {w0 w w':World} {g:Nat} {s:Option (List UInt8)}
theorem own_old {α:Type} {K:Kd α} (hz : 0<K.size) {u:World} {B:Option Addr} {d:Nat} {l:List α} (h:OwnK (Kd.out (Old w) K) u B d l) (n:New w B):Imm K (Old w) u B l:=by
  obtain ⟨xs,ho,hr⟩:=h
  exact Own.imm (K:=K) hz ho (fun k hk ho=>absurd ho (Nat.not_lt.2 (n k hk))) (fun i a ha=>K.keep (hr i a ha) ⟨Nat.le_refl _,fun _ _ _=>rfl,fun k hk h=>.inr h⟩)
theorem own_fr {α:Type} {K:Kd α} {u u1:World} {B:Option Addr} {d:Nat} {l:List α} (hg:g<w.heap.size) (h:OwnK (Kd.out (Old w) K) u B d l) (n:New w B) (f:Fr (At g) u u1):OwnK (Kd.out (Old w) K) u1 B d l :=
  h.fr f (fun k hk e=>by have e:k=g:=e;have:=n k hk;omega) (fun a cs _ hr=>K.keep hr (f.step (fun k hk e=>.inr (by have e:k=g:=e;show k<w.heap.size;omega)) (fun _ _ h=>h)))
theorem rep_old {α:Type} {K:Kd α} {u u1:World} {B:Option Addr} {d:Nat} {l:List α} {y : α} {cs:List Value} (hs:w.heap.size<=u.heap.size) (ho:OwnK (Kd.out (Old w) K) u B d l) (h:K.rep (Old u) u1 y cs):(Kd.out (Old w) K).rep (ownB B) u1 y cs :=
  K.keep h ⟨Nat.le_refl _,fun _ _ _=>rfl,fun k hk hh=>hh.elim (fun hB=>ho.lt k hB) (fun hw=>Nat.lt_of_lt_of_le hw hs)⟩
theorem slE_bool:SlT Tryz.prog 57 4 1 1 [.bool false]:=⟨by kernel_rfl,⟨Tryz.t4,by kernel_rfl,by kernel_rfl,by kernel_rfl,.bool false,by kernel_rfl,by kernel_rfl⟩,rfl,by decide⟩
theorem some_bool_spec (h:Rdr b A c w0 w g s) (most:Nat) (hm:most<=5000) {r:Rd Bool} {fid:Nat} {first cap:Array Value} (hb:bodied Tryz.prog fid=true)
    (hE:∀ u s,Rdr b A c w0 u g s->Fr (At g) w u->CallsV Tryz.prog fid (first.toList++([]++cap.toList)).toArray u fun v u'=>∃ x:Bool,v=.bool x/\Rdr b A c w0 u' g (adv r s)/\Got r s x/\Fr (At g) u u') :
    CallsV Tryz.prog 73 #[.pointer (some ⟨g,0,none⟩),.int .i64 most,.func (.func fid) first cap] w fun v w'=>∃ (B:Option Addr) (d:Nat) (l:List Bool),v=.slice B l.length d/\l.length<=d/\l.length<=most/\Imm Kd.bool (Old w) w' B l /\
      Rdr b A c w0 w' g (adv (someO most r) s)/\Got (someO most r) s l/\Fr (At g) w w':=by
  refine code_some_bool.calls okay ?_
  unfold code_some_bool.W
  have hgw:=h.lt
  have h0w:=h.ext.size
  refine (rnum_spec h most (by omega)).mono ?_
  rintro _ w1 ⟨x,rfl,h1,qx,hx,f1⟩
  refine ⟨_,rfl,?_⟩
  obtain ⟨s1,hs1⟩:∃ s1,s1=adv (numO most) s:=⟨_,rfl⟩
  have hsm:=adv_some (r:=r) qx
  rw [<- hs1] at h1 hsm
  refine ⟨fun B n d k u=>∃ (l:List Bool) (j:Nat),n=l.length/\k=(j:Int)/\l.length+j=x.toNat/\OwnK (Kd.out (Old w) Kd.bool) u B d l/\New w B/\Rdr b A c w0 u g (adv (repO r l.length) s1)/\Got (repO r l.length) s1 l/\Fr (At g) w u,fun _ _ _ k _=>k.toNat,
    ⟨[],x.toNat,rfl,by omega,by simp,OwnK.nil _ _,New.none _,by rw [List.length_nil,adv_rep0];exact h1,Got.rep0 _ _,f1⟩,?_⟩
  rintro B _ d _ u ⟨l,j,rfl,rfl,hlj,hown,hnew,hu,qu,pu⟩
  have zu:=pu.size
  have done:adv (repO r l.length) s1=adv (repO r x.toNat) s1->Got (repO r x.toNat) s1 l->∃ (B':Option Addr) (d':Nat) (l':List Bool),Value.slice B l.length d=.slice B' l'.length d'/\l'.length<=d'/\l'.length<=most/\Imm Kd.bool (Old w) u B' l' /\
      Rdr b A c w0 u g (adv (someO most r) s)/\Got (someO most r) s l'/\Fr (At g) w u:=fun he hq =>
    ⟨B,d,l,rfl,hown.le,by omega,own_old KBo_pos hown hnew,by rw [hsm,<- he];exact hu,qx.some (by rw [<- hs1];exact hq),pu⟩
  refine brd (fun hj=>?_) (fun hj=>?_)
  · obtain ⟨a,ha,bk,hst⟩:=hu.st
    refine ⟨_,rfl,_,bk.cell rfl,brnb (fun hf=>?_) (fun ht=>?_)⟩
    · refine ⟨fid,first,cap,rfl,hb,?_⟩
      refine (hE u _ hu pu).mono ?_
      rintro _ u1 ⟨y,rfl,h1,q1,f1⟩
      have hrep:Kd.bool.rep (Old u) u1 y [.bool y]:=rfl
      refine ⟨_,rfl,fun g3 u2 f3=>?_⟩
      obtain ⟨rfl,rfl⟩:=f3
      have hown1:=own_fr hgw hown hnew f1
      obtain ⟨B',d',u3,hrun,hown3,hgr⟩:=OwnK.push (K:=Kd.out (Old w) Kd.bool) slE_bool (ty:=57) hown1 (rep_old zu hown hrep) (by
        intro v hv
        simp only [List.mem_cons,List.not_mem_nil,or_false] at hv
        rcases hv with rfl<;>rfl) (e':=4) (by simp only [maxLen];omega) (by omega)
      refine ⟨_,_,_,_,hrun,?_⟩
      rw [wi ((j:Int)-1) (by omega) (by omega)]
      have z1:=f1.size
      have hnew':New w B':=fun k hk=>(hgr.sub k hk).elim (fun h=>hnew k h) (fun h=>by have h:u1.heap.size<=k:=h;omega)
      refine ⟨⟨l++[y],j-1,rfl,by omega,by rw [List.length_append,List.length_singleton];omega,hown3,hnew',?_,?_,?_⟩,by dsimp only;omega⟩
      · rw [List.length_append,List.length_singleton,adv_rep]
        exact h1.fr hgr.fr (fun hk=>by have:=hnew g hk;omega) (fun k hk hB=>by have:=hnew k hB;omega)
      · rw [List.length_append,List.length_singleton];exact qu.rep q1
      · exact (pu.trans f1 (fun _ _ h=>h) (fun _ _ h=>h)).trans hgr.fr (fun _ _ h=>h) (fun k hk hB=>by have:=hnew k hB;omega)
    · have hn:adv (repO r l.length) s1=none:=by cases hq:adv (repO r l.length) s1 with|none=>rfl|some z=>rw [hq] at ht;cases ht
      have hn':adv (repO r x.toNat) s1=none:=by rw [<- hlj];exact adv_rep_none hn j
      exact done (by rw [hn,hn']) (Got.bad hn')
  · have hj0:l.length=x.toNat:=by omega
    exact done (by rw [hj0]) (by rw [<- hj0];exact qu)
theorem slE_string:SlT Tryz.prog 22 9 1 16 [.string ByteArray.empty]:=⟨by kernel_rfl,⟨Tryz.t9,by kernel_rfl,by kernel_rfl,by kernel_rfl,.string ByteArray.empty,by kernel_rfl,by kernel_rfl⟩,rfl,by decide⟩
theorem some_string_spec (h:Rdr b A c w0 w g s) (most:Nat) (hm:most<=5000) {r:Rd ByteArray} {fid:Nat} {first cap:Array Value} (hb:bodied Tryz.prog fid=true)
    (hE:∀ u s,Rdr b A c w0 u g s->Fr (At g) w u->CallsV Tryz.prog fid (first.toList++([]++cap.toList)).toArray u fun v u'=>∃ x:ByteArray,v=.string x/\Rdr b A c w0 u' g (adv r s)/\Got r s x/\Fr (At g) u u') :
    CallsV Tryz.prog 31 #[.pointer (some ⟨g,0,none⟩),.int .i64 most,.func (.func fid) first cap] w fun v w'=>∃ (B:Option Addr) (d:Nat) (l:List ByteArray),v=.slice B l.length d/\l.length<=d/\l.length<=most/\Imm Kd.str (Old w) w' B l /\
      Rdr b A c w0 w' g (adv (someO most r) s)/\Got (someO most r) s l/\Fr (At g) w w':=by
  refine code_some_string.calls okay ?_
  unfold code_some_string.W
  have hgw:=h.lt
  have h0w:=h.ext.size
  refine (rnum_spec h most (by omega)).mono ?_
  rintro _ w1 ⟨x,rfl,h1,qx,hx,f1⟩
  refine ⟨_,rfl,?_⟩
  obtain ⟨s1,hs1⟩:∃ s1,s1=adv (numO most) s:=⟨_,rfl⟩
  have hsm:=adv_some (r:=r) qx
  rw [<- hs1] at h1 hsm
  refine ⟨fun B n d k u=>∃ (l:List ByteArray) (j:Nat),n=l.length/\k=(j:Int)/\l.length+j=x.toNat/\OwnK (Kd.out (Old w) Kd.str) u B d l/\New w B/\Rdr b A c w0 u g (adv (repO r l.length) s1)/\Got (repO r l.length) s1 l/\Fr (At g) w u,fun _ _ _ k _=>k.toNat,
    ⟨[],x.toNat,rfl,by omega,by simp,OwnK.nil _ _,New.none _,by rw [List.length_nil,adv_rep0];exact h1,Got.rep0 _ _,f1⟩,?_⟩
  rintro B _ d _ u ⟨l,j,rfl,rfl,hlj,hown,hnew,hu,qu,pu⟩
  have zu:=pu.size
  have done:adv (repO r l.length) s1=adv (repO r x.toNat) s1->Got (repO r x.toNat) s1 l->∃ (B':Option Addr) (d':Nat) (l':List ByteArray),Value.slice B l.length d=.slice B' l'.length d'/\l'.length<=d'/\l'.length<=most/\Imm Kd.str (Old w) u B' l' /\
      Rdr b A c w0 u g (adv (someO most r) s)/\Got (someO most r) s l'/\Fr (At g) w u:=fun he hq =>
    ⟨B,d,l,rfl,hown.le,by omega,own_old KStr_pos hown hnew,by rw [hsm,<- he];exact hu,qx.some (by rw [<- hs1];exact hq),pu⟩
  refine brd (fun hj=>?_) (fun hj=>?_)
  · obtain ⟨a,ha,bk,hst⟩:=hu.st
    refine ⟨_,rfl,_,bk.cell rfl,brnb (fun hf=>?_) (fun ht=>?_)⟩
    · refine ⟨fid,first,cap,rfl,hb,?_⟩
      refine (hE u _ hu pu).mono ?_
      rintro _ u1 ⟨y,rfl,h1,q1,f1⟩
      have hrep:Kd.str.rep (Old u) u1 y [.string y]:=rfl
      refine ⟨_,rfl,fun g3 u2 f3=>?_⟩
      obtain ⟨rfl,rfl⟩:=f3
      have hown1:=own_fr hgw hown hnew f1
      obtain ⟨B',d',u3,hrun,hown3,hgr⟩:=OwnK.push (K:=Kd.out (Old w) Kd.str) slE_string (ty:=22) hown1 (rep_old zu hown hrep) (by
        intro v hv
        simp only [List.mem_cons,List.not_mem_nil,or_false] at hv
        rcases hv with rfl<;>rfl) (e':=9) (by simp only [maxLen];omega) (by omega)
      refine ⟨_,_,_,_,hrun,?_⟩
      rw [wi ((j:Int)-1) (by omega) (by omega)]
      have z1:=f1.size
      have hnew':New w B':=fun k hk=>(hgr.sub k hk).elim (fun h=>hnew k h) (fun h=>by have h:u1.heap.size<=k:=h;omega)
      refine ⟨⟨l++[y],j-1,rfl,by omega,by rw [List.length_append,List.length_singleton];omega,hown3,hnew',?_,?_,?_⟩,by dsimp only;omega⟩
      · rw [List.length_append,List.length_singleton,adv_rep]
        exact h1.fr hgr.fr (fun hk=>by have:=hnew g hk;omega) (fun k hk hB=>by have:=hnew k hB;omega)
      · rw [List.length_append,List.length_singleton];exact qu.rep q1
      · exact (pu.trans f1 (fun _ _ h=>h) (fun _ _ h=>h)).trans hgr.fr (fun _ _ h=>h) (fun k hk hB=>by have:=hnew k hB;omega)
    · have hn:adv (repO r l.length) s1=none:=by cases hq:adv (repO r l.length) s1 with|none=>rfl|some z=>rw [hq] at ht;cases ht
      have hn':adv (repO r x.toNat) s1=none:=by rw [<- hlj];exact adv_rep_none hn j
      exact done (by rw [hn,hn']) (Got.bad hn')
  · have hj0:l.length=x.toNat:=by omega
    exact done (by rw [hj0]) (by rw [<- hj0];exact qu)
theorem slE_api_Value:SlT Tryz.prog 23 54 3 32 [.int .u8 0,.int .i64 0,.string ByteArray.empty]:=⟨by kernel_rfl,⟨Tryz.t54,by kernel_rfl,by kernel_rfl,by kernel_rfl,.agg #[.int .u8 0,.int .i64 0,.string ByteArray.empty],by kernel_rfl,by kernel_rfl⟩,rfl,by decide⟩
theorem some_api_Value_spec (h:Rdr b A c w0 w g s) (most:Nat) (hm:most<=5000) {r:Rd V} {fid:Nat} {first cap:Array Value} (hb:bodied Tryz.prog fid=true)
    (hE:∀ u s,Rdr b A c w0 u g s->Fr (At g) w u->CallsV Tryz.prog fid (first.toList++([]++cap.toList)).toArray u fun v u'=>∃ x:V,v=.agg #[.int .u8 x.k,.int .i64 x.n,.string x.s]/\Rdr b A c w0 u' g (adv r s)/\Got r s x/\Fr (At g) u u') :
    CallsV Tryz.prog 34 #[.pointer (some ⟨g,0,none⟩),.int .i64 most,.func (.func fid) first cap] w fun v w'=>∃ (B:Option Addr) (d:Nat) (l:List V),v=.slice B l.length d/\l.length<=d/\l.length<=most/\Imm KV (Old w) w' B l /\
      Rdr b A c w0 w' g (adv (someO most r) s)/\Got (someO most r) s l/\Fr (At g) w w':=by
  refine code_some_api_Value.calls okay ?_
  unfold code_some_api_Value.W
  have hgw:=h.lt
  have h0w:=h.ext.size
  refine (rnum_spec h most (by omega)).mono ?_
  rintro _ w1 ⟨x,rfl,h1,qx,hx,f1⟩
  refine ⟨_,rfl,?_⟩
  obtain ⟨s1,hs1⟩:∃ s1,s1=adv (numO most) s:=⟨_,rfl⟩
  have hsm:=adv_some (r:=r) qx
  rw [<- hs1] at h1 hsm
  refine ⟨fun B n d k u=>∃ (l:List V) (j:Nat),n=l.length/\k=(j:Int)/\l.length+j=x.toNat/\OwnK (Kd.out (Old w) KV) u B d l/\New w B/\Rdr b A c w0 u g (adv (repO r l.length) s1)/\Got (repO r l.length) s1 l/\Fr (At g) w u,fun _ _ _ k _=>k.toNat,
    ⟨[],x.toNat,rfl,by omega,by simp,OwnK.nil _ _,New.none _,by rw [List.length_nil,adv_rep0];exact h1,Got.rep0 _ _,f1⟩,?_⟩
  rintro B _ d _ u ⟨l,j,rfl,rfl,hlj,hown,hnew,hu,qu,pu⟩
  have zu:=pu.size
  have done:adv (repO r l.length) s1=adv (repO r x.toNat) s1->Got (repO r x.toNat) s1 l->∃ (B':Option Addr) (d':Nat) (l':List V),Value.slice B l.length d=.slice B' l'.length d'/\l'.length<=d'/\l'.length<=most/\Imm KV (Old w) u B' l' /\
      Rdr b A c w0 u g (adv (someO most r) s)/\Got (someO most r) s l'/\Fr (At g) w u:=fun he hq =>
    ⟨B,d,l,rfl,hown.le,by omega,own_old KV_pos hown hnew,by rw [hsm,<- he];exact hu,qx.some (by rw [<- hs1];exact hq),pu⟩
  refine brd (fun hj=>?_) (fun hj=>?_)
  · obtain ⟨a,ha,bk,hst⟩:=hu.st
    refine ⟨_,rfl,_,bk.cell rfl,brnb (fun hf=>?_) (fun ht=>?_)⟩
    · refine ⟨fid,first,cap,rfl,hb,?_⟩
      refine (hE u _ hu pu).mono ?_
      rintro _ u1 ⟨y,rfl,h1,q1,f1⟩
      have hrep:KV.rep (Old u) u1 y [.int .u8 y.k,.int .i64 y.n,.string y.s]:=rfl
      refine ⟨_,_,_,rfl,fun g3 u2 f3=>?_⟩
      obtain ⟨rfl,rfl⟩:=f3
      have hown1:=own_fr hgw hown hnew f1
      obtain ⟨B',d',u3,hrun,hown3,hgr⟩:=OwnK.push (K:=Kd.out (Old w) KV) slE_api_Value (ty:=23) hown1 (rep_old zu hown hrep) (by
        intro v hv
        simp only [List.mem_cons,List.not_mem_nil,or_false] at hv
        rcases hv with rfl|rfl|rfl<;>rfl) (e':=54) (by simp only [maxLen];omega) (by omega)
      refine ⟨_,_,_,_,hrun,?_⟩
      rw [wi ((j:Int)-1) (by omega) (by omega)]
      have z1:=f1.size
      have hnew':New w B':=fun k hk=>(hgr.sub k hk).elim (fun h=>hnew k h) (fun h=>by have h:u1.heap.size<=k:=h;omega)
      refine ⟨⟨l++[y],j-1,rfl,by omega,by rw [List.length_append,List.length_singleton];omega,hown3,hnew',?_,?_,?_⟩,by dsimp only;omega⟩
      · rw [List.length_append,List.length_singleton,adv_rep]
        exact h1.fr hgr.fr (fun hk=>by have:=hnew g hk;omega) (fun k hk hB=>by have:=hnew k hB;omega)
      · rw [List.length_append,List.length_singleton];exact qu.rep q1
      · exact (pu.trans f1 (fun _ _ h=>h) (fun _ _ h=>h)).trans hgr.fr (fun _ _ h=>h) (fun k hk hB=>by have:=hnew k hB;omega)
    · have hn:adv (repO r l.length) s1=none:=by cases hq:adv (repO r l.length) s1 with|none=>rfl|some z=>rw [hq] at ht;cases ht
      have hn':adv (repO r x.toNat) s1=none:=by rw [<- hlj];exact adv_rep_none hn j
      exact done (by rw [hn,hn']) (Got.bad hn')
  · have hj0:l.length=x.toNat:=by omega
    exact done (by rw [hj0]) (by rw [<- hj0];exact qu)
theorem slE_api_Cur:SlT Tryz.prog 24 56 3 24 [.string ByteArray.empty,.bool false,.bool false]:=⟨by kernel_rfl,⟨Tryz.t56,by kernel_rfl,by kernel_rfl,by kernel_rfl,.agg #[.string ByteArray.empty,.bool false,.bool false],by kernel_rfl,by kernel_rfl⟩,rfl,by decide⟩
theorem some_api_Cur_spec (h:Rdr b A c w0 w g s) (most:Nat) (hm:most<=5000) {r:Rd Cur} {fid:Nat} {first cap:Array Value} (hb:bodied Tryz.prog fid=true)
    (hE:∀ u s,Rdr b A c w0 u g s->Fr (At g) w u->CallsV Tryz.prog fid (first.toList++([]++cap.toList)).toArray u fun v u'=>∃ x:Cur,v=.agg #[.string x.name,.bool x.ix,.bool x.wr]/\Rdr b A c w0 u' g (adv r s)/\Got r s x/\Fr (At g) u u') :
    CallsV Tryz.prog 36 #[.pointer (some ⟨g,0,none⟩),.int .i64 most,.func (.func fid) first cap] w fun v w'=>∃ (B:Option Addr) (d:Nat) (l:List Cur),v=.slice B l.length d/\l.length<=d/\l.length<=most/\Imm KCur (Old w) w' B l /\
      Rdr b A c w0 w' g (adv (someO most r) s)/\Got (someO most r) s l/\Fr (At g) w w':=by
  refine code_some_api_Cur.calls okay ?_
  unfold code_some_api_Cur.W
  have hgw:=h.lt
  have h0w:=h.ext.size
  refine (rnum_spec h most (by omega)).mono ?_
  rintro _ w1 ⟨x,rfl,h1,qx,hx,f1⟩
  refine ⟨_,rfl,?_⟩
  obtain ⟨s1,hs1⟩:∃ s1,s1=adv (numO most) s:=⟨_,rfl⟩
  have hsm:=adv_some (r:=r) qx
  rw [<- hs1] at h1 hsm
  refine ⟨fun B n d k u=>∃ (l:List Cur) (j:Nat),n=l.length/\k=(j:Int)/\l.length+j=x.toNat/\OwnK (Kd.out (Old w) KCur) u B d l/\New w B/\Rdr b A c w0 u g (adv (repO r l.length) s1)/\Got (repO r l.length) s1 l/\Fr (At g) w u,fun _ _ _ k _=>k.toNat,
    ⟨[],x.toNat,rfl,by omega,by simp,OwnK.nil _ _,New.none _,by rw [List.length_nil,adv_rep0];exact h1,Got.rep0 _ _,f1⟩,?_⟩
  rintro B _ d _ u ⟨l,j,rfl,rfl,hlj,hown,hnew,hu,qu,pu⟩
  have zu:=pu.size
  have done:adv (repO r l.length) s1=adv (repO r x.toNat) s1->Got (repO r x.toNat) s1 l->∃ (B':Option Addr) (d':Nat) (l':List Cur),Value.slice B l.length d=.slice B' l'.length d'/\l'.length<=d'/\l'.length<=most/\Imm KCur (Old w) u B' l' /\
      Rdr b A c w0 u g (adv (someO most r) s)/\Got (someO most r) s l'/\Fr (At g) w u:=fun he hq =>
    ⟨B,d,l,rfl,hown.le,by omega,own_old KCur_pos hown hnew,by rw [hsm,<- he];exact hu,qx.some (by rw [<- hs1];exact hq),pu⟩
  refine brd (fun hj=>?_) (fun hj=>?_)
  · obtain ⟨a,ha,bk,hst⟩:=hu.st
    refine ⟨_,rfl,_,bk.cell rfl,brnb (fun hf=>?_) (fun ht=>?_)⟩
    · refine ⟨fid,first,cap,rfl,hb,?_⟩
      refine (hE u _ hu pu).mono ?_
      rintro _ u1 ⟨y,rfl,h1,q1,f1⟩
      have hrep:KCur.rep (Old u) u1 y [.string y.name,.bool y.ix,.bool y.wr]:=rfl
      refine ⟨_,_,_,rfl,fun g3 u2 f3=>?_⟩
      obtain ⟨rfl,rfl⟩:=f3
      have hown1:=own_fr hgw hown hnew f1
      obtain ⟨B',d',u3,hrun,hown3,hgr⟩:=OwnK.push (K:=Kd.out (Old w) KCur) slE_api_Cur (ty:=24) hown1 (rep_old zu hown hrep) (by
        intro v hv
        simp only [List.mem_cons,List.not_mem_nil,or_false] at hv
        rcases hv with rfl|rfl|rfl<;>rfl) (e':=56) (by simp only [maxLen];omega) (by omega)
      refine ⟨_,_,_,_,hrun,?_⟩
      rw [wi ((j:Int)-1) (by omega) (by omega)]
      have z1:=f1.size
      have hnew':New w B':=fun k hk=>(hgr.sub k hk).elim (fun h=>hnew k h) (fun h=>by have h:u1.heap.size<=k:=h;omega)
      refine ⟨⟨l++[y],j-1,rfl,by omega,by rw [List.length_append,List.length_singleton];omega,hown3,hnew',?_,?_,?_⟩,by dsimp only;omega⟩
      · rw [List.length_append,List.length_singleton,adv_rep]
        exact h1.fr hgr.fr (fun hk=>by have:=hnew g hk;omega) (fun k hk hB=>by have:=hnew k hB;omega)
      · rw [List.length_append,List.length_singleton];exact qu.rep q1
      · exact (pu.trans f1 (fun _ _ h=>h) (fun _ _ h=>h)).trans hgr.fr (fun _ _ h=>h) (fun k hk hB=>by have:=hnew k hB;omega)
    · have hn:adv (repO r l.length) s1=none:=by cases hq:adv (repO r l.length) s1 with|none=>rfl|some z=>rw [hq] at ht;cases ht
      have hn':adv (repO r x.toNat) s1=none:=by rw [<- hlj];exact adv_rep_none hn j
      exact done (by rw [hn,hn']) (Got.bad hn')
  · have hj0:l.length=x.toNat:=by omega
    exact done (by rw [hj0]) (by rw [<- hj0];exact qu)
theorem slE_api_Sort:SlT Tryz.prog 25 59 3 40 [.slice none 0 0,.int .i64 0,.bool false]:=⟨by kernel_rfl,⟨Tryz.t59,by kernel_rfl,by kernel_rfl,by kernel_rfl,.agg #[.slice none 0 0,.int .i64 0,.bool false],by kernel_rfl,by kernel_rfl⟩,rfl,by decide⟩
theorem some_api_Sort_spec (h:Rdr b A c w0 w g s) (most:Nat) (hm:most<=5000) {r:Rd Srt} {fid:Nat} {first cap:Array Value} (hb:bodied Tryz.prog fid=true)
    (hE:∀ u s,Rdr b A c w0 u g s->Fr (At g) w u->CallsV Tryz.prog fid (first.toList++([]++cap.toList)).toArray u fun v u'=>∃ (x:Srt) (B1:Option Addr) (d1:Nat),v=.agg #[.slice B1 x.desc.length d1,.int .i64 x.cols,.bool x.dist]/\x.desc.length<=d1/\Imm Kd.bool (Old u) u' B1 x.desc/\Rdr b A c w0 u' g (adv r s)/\Got r s x/\Fr (At g) u u') :
    CallsV Tryz.prog 38 #[.pointer (some ⟨g,0,none⟩),.int .i64 most,.func (.func fid) first cap] w fun v w'=>∃ (B:Option Addr) (d:Nat) (l:List Srt),v=.slice B l.length d/\l.length<=d/\l.length<=most/\Imm KSrt (Old w) w' B l /\
      Rdr b A c w0 w' g (adv (someO most r) s)/\Got (someO most r) s l/\Fr (At g) w w':=by
  refine code_some_api_Sort.calls okay ?_
  unfold code_some_api_Sort.W
  have hgw:=h.lt
  have h0w:=h.ext.size
  refine (rnum_spec h most (by omega)).mono ?_
  rintro _ w1 ⟨x,rfl,h1,qx,hx,f1⟩
  refine ⟨_,rfl,?_⟩
  obtain ⟨s1,hs1⟩:∃ s1,s1=adv (numO most) s:=⟨_,rfl⟩
  have hsm:=adv_some (r:=r) qx
  rw [<- hs1] at h1 hsm
  refine ⟨fun B n d k u=>∃ (l:List Srt) (j:Nat),n=l.length/\k=(j:Int)/\l.length+j=x.toNat/\OwnK (Kd.out (Old w) KSrt) u B d l/\New w B/\Rdr b A c w0 u g (adv (repO r l.length) s1)/\Got (repO r l.length) s1 l/\Fr (At g) w u,fun _ _ _ k _=>k.toNat,
    ⟨[],x.toNat,rfl,by omega,by simp,OwnK.nil _ _,New.none _,by rw [List.length_nil,adv_rep0];exact h1,Got.rep0 _ _,f1⟩,?_⟩
  rintro B _ d _ u ⟨l,j,rfl,rfl,hlj,hown,hnew,hu,qu,pu⟩
  have zu:=pu.size
  have done:adv (repO r l.length) s1=adv (repO r x.toNat) s1->Got (repO r x.toNat) s1 l->∃ (B':Option Addr) (d':Nat) (l':List Srt),Value.slice B l.length d=.slice B' l'.length d'/\l'.length<=d'/\l'.length<=most/\Imm KSrt (Old w) u B' l' /\
      Rdr b A c w0 u g (adv (someO most r) s)/\Got (someO most r) s l'/\Fr (At g) w u:=fun he hq =>
    ⟨B,d,l,rfl,hown.le,by omega,own_old KSrt_pos hown hnew,by rw [hsm,<- he];exact hu,qx.some (by rw [<- hs1];exact hq),pu⟩
  refine brd (fun hj=>?_) (fun hj=>?_)
  · obtain ⟨a,ha,bk,hst⟩:=hu.st
    refine ⟨_,rfl,_,bk.cell rfl,brnb (fun hf=>?_) (fun ht=>?_)⟩
    · refine ⟨fid,first,cap,rfl,hb,?_⟩
      refine (hE u _ hu pu).mono ?_
      rintro _ u1 ⟨y,B1,d1,rfl,hd1,hi1,h1,q1,f1⟩
      have hrep:KSrt.rep (Old u) u1 y [.slice B1 y.desc.length d1,.int .i64 y.cols,.bool y.dist]:=⟨B1,d1,rfl,hd1,hi1⟩
      refine ⟨_,_,_,_,_,rfl,fun g3 u2 f3=>?_⟩
      obtain ⟨rfl,rfl⟩:=f3
      have hown1:=own_fr hgw hown hnew f1
      obtain ⟨B',d',u3,hrun,hown3,hgr⟩:=OwnK.push (K:=Kd.out (Old w) KSrt) slE_api_Sort (ty:=25) hown1 (rep_old zu hown hrep) (by
        intro v hv
        simp only [List.mem_cons,List.not_mem_nil,or_false] at hv
        rcases hv with rfl|rfl|rfl<;>rfl) (e':=59) (by simp only [maxLen];omega) (by omega)
      refine ⟨_,_,_,_,hrun,?_⟩
      rw [wi ((j:Int)-1) (by omega) (by omega)]
      have z1:=f1.size
      have hnew':New w B':=fun k hk=>(hgr.sub k hk).elim (fun h=>hnew k h) (fun h=>by have h:u1.heap.size<=k:=h;omega)
      refine ⟨⟨l++[y],j-1,rfl,by omega,by rw [List.length_append,List.length_singleton];omega,hown3,hnew',?_,?_,?_⟩,by dsimp only;omega⟩
      · rw [List.length_append,List.length_singleton,adv_rep]
        exact h1.fr hgr.fr (fun hk=>by have:=hnew g hk;omega) (fun k hk hB=>by have:=hnew k hB;omega)
      · rw [List.length_append,List.length_singleton];exact qu.rep q1
      · exact (pu.trans f1 (fun _ _ h=>h) (fun _ _ h=>h)).trans hgr.fr (fun _ _ h=>h) (fun k hk hB=>by have:=hnew k hB;omega)
    · have hn:adv (repO r l.length) s1=none:=by cases hq:adv (repO r l.length) s1 with|none=>rfl|some z=>rw [hq] at ht;cases ht
      have hn':adv (repO r x.toNat) s1=none:=by rw [<- hlj];exact adv_rep_none hn j
      exact done (by rw [hn,hn']) (Got.bad hn')
  · have hj0:l.length=x.toNat:=by omega
    exact done (by rw [hj0]) (by rw [<- hj0];exact qu)
theorem slE_api_Acc:SlT Tryz.prog 26 61 2 24 [.string ByteArray.empty,.bool false]:=⟨by kernel_rfl,⟨Tryz.t61,by kernel_rfl,by kernel_rfl,by kernel_rfl,.agg #[.string ByteArray.empty,.bool false],by kernel_rfl,by kernel_rfl⟩,rfl,by decide⟩
theorem some_api_Acc_spec (h:Rdr b A c w0 w g s) (most:Nat) (hm:most<=5000) {r:Rd Tot} {fid:Nat} {first cap:Array Value} (hb:bodied Tryz.prog fid=true)
    (hE:∀ u s,Rdr b A c w0 u g s->Fr (At g) w u->CallsV Tryz.prog fid (first.toList++([]++cap.toList)).toArray u fun v u'=>∃ x:Tot,v=.agg #[.string x.fn,.bool x.dist]/\Rdr b A c w0 u' g (adv r s)/\Got r s x/\Fr (At g) u u') :
    CallsV Tryz.prog 40 #[.pointer (some ⟨g,0,none⟩),.int .i64 most,.func (.func fid) first cap] w fun v w'=>∃ (B:Option Addr) (d:Nat) (l:List Tot),v=.slice B l.length d/\l.length<=d/\l.length<=most/\Imm KTot (Old w) w' B l /\
      Rdr b A c w0 w' g (adv (someO most r) s)/\Got (someO most r) s l/\Fr (At g) w w':=by
  refine code_some_api_Acc.calls okay ?_
  unfold code_some_api_Acc.W
  have hgw:=h.lt
  have h0w:=h.ext.size
  refine (rnum_spec h most (by omega)).mono ?_
  rintro _ w1 ⟨x,rfl,h1,qx,hx,f1⟩
  refine ⟨_,rfl,?_⟩
  obtain ⟨s1,hs1⟩:∃ s1,s1=adv (numO most) s:=⟨_,rfl⟩
  have hsm:=adv_some (r:=r) qx
  rw [<- hs1] at h1 hsm
  refine ⟨fun B n d k u=>∃ (l:List Tot) (j:Nat),n=l.length/\k=(j:Int)/\l.length+j=x.toNat/\OwnK (Kd.out (Old w) KTot) u B d l/\New w B/\Rdr b A c w0 u g (adv (repO r l.length) s1)/\Got (repO r l.length) s1 l/\Fr (At g) w u,fun _ _ _ k _=>k.toNat,
    ⟨[],x.toNat,rfl,by omega,by simp,OwnK.nil _ _,New.none _,by rw [List.length_nil,adv_rep0];exact h1,Got.rep0 _ _,f1⟩,?_⟩
  rintro B _ d _ u ⟨l,j,rfl,rfl,hlj,hown,hnew,hu,qu,pu⟩
  have zu:=pu.size
  have done:adv (repO r l.length) s1=adv (repO r x.toNat) s1->Got (repO r x.toNat) s1 l->∃ (B':Option Addr) (d':Nat) (l':List Tot),Value.slice B l.length d=.slice B' l'.length d'/\l'.length<=d'/\l'.length<=most/\Imm KTot (Old w) u B' l' /\
      Rdr b A c w0 u g (adv (someO most r) s)/\Got (someO most r) s l'/\Fr (At g) w u:=fun he hq =>
    ⟨B,d,l,rfl,hown.le,by omega,own_old KTot_pos hown hnew,by rw [hsm,<- he];exact hu,qx.some (by rw [<- hs1];exact hq),pu⟩
  refine brd (fun hj=>?_) (fun hj=>?_)
  · obtain ⟨a,ha,bk,hst⟩:=hu.st
    refine ⟨_,rfl,_,bk.cell rfl,brnb (fun hf=>?_) (fun ht=>?_)⟩
    · refine ⟨fid,first,cap,rfl,hb,?_⟩
      refine (hE u _ hu pu).mono ?_
      rintro _ u1 ⟨y,rfl,h1,q1,f1⟩
      have hrep:KTot.rep (Old u) u1 y [.string y.fn,.bool y.dist]:=rfl
      refine ⟨_,_,rfl,fun g3 u2 f3=>?_⟩
      obtain ⟨rfl,rfl⟩:=f3
      have hown1:=own_fr hgw hown hnew f1
      obtain ⟨B',d',u3,hrun,hown3,hgr⟩:=OwnK.push (K:=Kd.out (Old w) KTot) slE_api_Acc (ty:=26) hown1 (rep_old zu hown hrep) (by
        intro v hv
        simp only [List.mem_cons,List.not_mem_nil,or_false] at hv
        rcases hv with rfl|rfl<;>rfl) (e':=61) (by simp only [maxLen];omega) (by omega)
      refine ⟨_,_,_,_,hrun,?_⟩
      rw [wi ((j:Int)-1) (by omega) (by omega)]
      have z1:=f1.size
      have hnew':New w B':=fun k hk=>(hgr.sub k hk).elim (fun h=>hnew k h) (fun h=>by have h:u1.heap.size<=k:=h;omega)
      refine ⟨⟨l++[y],j-1,rfl,by omega,by rw [List.length_append,List.length_singleton];omega,hown3,hnew',?_,?_,?_⟩,by dsimp only;omega⟩
      · rw [List.length_append,List.length_singleton,adv_rep]
        exact h1.fr hgr.fr (fun hk=>by have:=hnew g hk;omega) (fun k hk hB=>by have:=hnew k hB;omega)
      · rw [List.length_append,List.length_singleton];exact qu.rep q1
      · exact (pu.trans f1 (fun _ _ h=>h) (fun _ _ h=>h)).trans hgr.fr (fun _ _ h=>h) (fun k hk hB=>by have:=hnew k hB;omega)
    · have hn:adv (repO r l.length) s1=none:=by cases hq:adv (repO r l.length) s1 with|none=>rfl|some z=>rw [hq] at ht;cases ht
      have hn':adv (repO r x.toNat) s1=none:=by rw [<- hlj];exact adv_rep_none hn j
      exact done (by rw [hn,hn']) (Got.bad hn')
  · have hj0:l.length=x.toNat:=by omega
    exact done (by rw [hj0]) (by rw [<- hj0];exact qu)
theorem slE_api_Instr:SlT Tryz.prog 27 46 5 40 [.int .u8 0,.int .i64 0,.int .i64 0,.int .i64 0,.int .i64 0]:=⟨by kernel_rfl,⟨Tryz.t46,by kernel_rfl,by kernel_rfl,by kernel_rfl,.agg #[.int .u8 0,.int .i64 0,.int .i64 0,.int .i64 0,.int .i64 0],by kernel_rfl,by kernel_rfl⟩,rfl,by decide⟩
theorem some_api_Instr_spec (h:Rdr b A c w0 w g s) (most:Nat) (hm:most<=5000) {r:Rd Ins} {fid:Nat} {first cap:Array Value} (hb:bodied Tryz.prog fid=true)
    (hE:∀ u s,Rdr b A c w0 u g s->Fr (At g) w u->CallsV Tryz.prog fid (first.toList++([]++cap.toList)).toArray u fun v u'=>∃ x:Ins,v=.agg #[.int .u8 x.op,.int .i64 x.a,.int .i64 x.b,.int .i64 x.c,.int .i64 x.d]/\Rdr b A c w0 u' g (adv r s)/\Got r s x/\Fr (At g) u u') :
    CallsV Tryz.prog 42 #[.pointer (some ⟨g,0,none⟩),.int .i64 most,.func (.func fid) first cap] w fun v w'=>∃ (B:Option Addr) (d:Nat) (l:List Ins),v=.slice B l.length d/\l.length<=d/\l.length<=most/\Imm KIns (Old w) w' B l /\
      Rdr b A c w0 w' g (adv (someO most r) s)/\Got (someO most r) s l/\Fr (At g) w w':=by
  refine code_some_api_Instr.calls okay ?_
  unfold code_some_api_Instr.W
  have hgw:=h.lt
  have h0w:=h.ext.size
  refine (rnum_spec h most (by omega)).mono ?_
  rintro _ w1 ⟨x,rfl,h1,qx,hx,f1⟩
  refine ⟨_,rfl,?_⟩
  obtain ⟨s1,hs1⟩:∃ s1,s1=adv (numO most) s:=⟨_,rfl⟩
  have hsm:=adv_some (r:=r) qx
  rw [<- hs1] at h1 hsm
  refine ⟨fun B n d k u=>∃ (l:List Ins) (j:Nat),n=l.length/\k=(j:Int)/\l.length+j=x.toNat/\OwnK (Kd.out (Old w) KIns) u B d l/\New w B/\Rdr b A c w0 u g (adv (repO r l.length) s1)/\Got (repO r l.length) s1 l/\Fr (At g) w u,fun _ _ _ k _=>k.toNat,
    ⟨[],x.toNat,rfl,by omega,by simp,OwnK.nil _ _,New.none _,by rw [List.length_nil,adv_rep0];exact h1,Got.rep0 _ _,f1⟩,?_⟩
  rintro B _ d _ u ⟨l,j,rfl,rfl,hlj,hown,hnew,hu,qu,pu⟩
  have zu:=pu.size
  have done:adv (repO r l.length) s1=adv (repO r x.toNat) s1->Got (repO r x.toNat) s1 l->∃ (B':Option Addr) (d':Nat) (l':List Ins),Value.slice B l.length d=.slice B' l'.length d'/\l'.length<=d'/\l'.length<=most/\Imm KIns (Old w) u B' l' /\
      Rdr b A c w0 u g (adv (someO most r) s)/\Got (someO most r) s l'/\Fr (At g) w u:=fun he hq =>
    ⟨B,d,l,rfl,hown.le,by omega,own_old KIns_pos hown hnew,by rw [hsm,<- he];exact hu,qx.some (by rw [<- hs1];exact hq),pu⟩
  refine brd (fun hj=>?_) (fun hj=>?_)
  · obtain ⟨a,ha,bk,hst⟩:=hu.st
    refine ⟨_,rfl,_,bk.cell rfl,brnb (fun hf=>?_) (fun ht=>?_)⟩
    · refine ⟨fid,first,cap,rfl,hb,?_⟩
      refine (hE u _ hu pu).mono ?_
      rintro _ u1 ⟨y,rfl,h1,q1,f1⟩
      have hrep:KIns.rep (Old u) u1 y [.int .u8 y.op,.int .i64 y.a,.int .i64 y.b,.int .i64 y.c,.int .i64 y.d]:=rfl
      refine ⟨_,_,_,_,_,rfl,fun g3 u2 f3=>?_⟩
      obtain ⟨rfl,rfl⟩:=f3
      have hown1:=own_fr hgw hown hnew f1
      obtain ⟨B',d',u3,hrun,hown3,hgr⟩:=OwnK.push (K:=Kd.out (Old w) KIns) slE_api_Instr (ty:=27) hown1 (rep_old zu hown hrep) (by
        intro v hv
        simp only [List.mem_cons,List.not_mem_nil,or_false] at hv
        rcases hv with rfl|rfl|rfl|rfl|rfl<;>rfl) (e':=46) (by simp only [maxLen];omega) (by omega)
      refine ⟨_,_,_,_,hrun,?_⟩
      rw [wi ((j:Int)-1) (by omega) (by omega)]
      have z1:=f1.size
      have hnew':New w B':=fun k hk=>(hgr.sub k hk).elim (fun h=>hnew k h) (fun h=>by have h:u1.heap.size<=k:=h;omega)
      refine ⟨⟨l++[y],j-1,rfl,by omega,by rw [List.length_append,List.length_singleton];omega,hown3,hnew',?_,?_,?_⟩,by dsimp only;omega⟩
      · rw [List.length_append,List.length_singleton,adv_rep]
        exact h1.fr hgr.fr (fun hk=>by have:=hnew g hk;omega) (fun k hk hB=>by have:=hnew k hB;omega)
      · rw [List.length_append,List.length_singleton];exact qu.rep q1
      · exact (pu.trans f1 (fun _ _ h=>h) (fun _ _ h=>h)).trans hgr.fr (fun _ _ h=>h) (fun k hk hB=>by have:=hnew k hB;omega)
    · have hn:adv (repO r l.length) s1=none:=by cases hq:adv (repO r l.length) s1 with|none=>rfl|some z=>rw [hq] at ht;cases ht
      have hn':adv (repO r x.toNat) s1=none:=by rw [<- hlj];exact adv_rep_none hn j
      exact done (by rw [hn,hn']) (Got.bad hn')
  · have hj0:l.length=x.toNat:=by omega
    exact done (by rw [hj0]) (by rw [<- hj0];exact qu)
end
end Go.Proofs.YtaifphjenebgoaaGreatDoor
set_option linter.unusedVariables false
set_option linter.unusedSimpArgs false
namespace Go.Proofs.YtaifphjenebgoaaGreatDoor
open Go Go.Sx R1 K15
section
variable {b:List UInt8} {A:Option Addr} {c:Nat} {w0 w w':World} {g:Nat} {s:Option (List UInt8)}
theorem rsrt_spec (h:Rdr b A c w0 w g s) :
    CallsV Tryz.prog 39 #[.pointer (some ⟨g,0,none⟩)] w fun v w'=>∃ (x:Srt) (B1:Option Addr) (d1:Nat),v=.agg #[.slice B1 x.desc.length d1,.int .i64 x.cols,.bool x.dist]/\x.desc.length<=d1/\Imm Kd.bool (Old w) w' B1 x.desc /\
      Rdr b A c w0 w' g (adv srtO s)/\Got srtO s x/\Fr (At g) w w':=by
  refine code_reader_sorter.calls okay ?_
  unfold code_reader_sorter.W
  intro g1 w1 f1
  have hg1:=f1.ge
  have hgw:=h.lt
  have gne : ¬ At g g1:=fun e=>by have e:g1=g:=e;omega
  refine (some_bool_spec (h.ex f1.ext) 30 (by omega) (r:=flagO) (fid:=72) (first:=#[.pointer (some ⟨g,0,none⟩)]) (cap:=#[]) (by kernel_rfl) (fun u s hu fu=>rflag_spec hu)).mono ?_
  rintro _ w2 ⟨B,d,l,rfl,hd,hl,hi,h2,q2,f2⟩
  refine ⟨_,_,_,rfl,?_⟩
  intro g2 w3 f3
  have hg2:=f3.ge
  have z1:=f1.ext.size
  have z2:=f2.size
  have lt1:=f1.lt
  have gne2 : ¬ At g g2:=fun e=>by have e:g2=g:=e;omega
  have g12:g1≠g2:=by omega
  have hi3:Imm Kd.bool (fun k=>k<w1.heap.size\/k=g2) w3 B l:=hi.keep (by decide) ⟨f3.ext.size,fun k hk _=>f3.ext.block k hk (fun h=>h),fun k hk hh=>hh.elim (fun h=>h) (fun e=>by omega)⟩
  have p3:Fr (At g) w w3:=((f1.ext.fr.trans f2 (fun _ _ h=>h) (fun _ _ h=>h)).ext f3.ext.fr)
  have bk1:Blk w3 g1 _:=(f1.blk.keep f2 gne).ext f3.ext
  refine ⟨f3.blk.stOK _ 0 (by simp),fun w4 hw4=>?_⟩
  obtain ⟨b4,f4⟩:=set0 f3.blk hw4 rfl
  have h4:=h.new (by omega) f4 (h2.ex f3.ext)
  have p4:=Fr.new p3 (by omega) f4
  have bk1:=bk1.keep f4 (fun e=>g12 e)
  have keepG:∀ {u v:World},Fr (At g) u v->Imm Kd.bool (fun k=>k<w1.heap.size\/k=g2) u B l->Imm Kd.bool (fun k=>k<w1.heap.size\/k=g2) v B l:=fun f hi =>
    hi.keep (by decide) (f.step (fun k _ e=>.inl (by have e:k=g:=e;omega)) (fun _ _ h=>h))
  have keep2:∀ {u v:World},Fr (At g2) u v->Imm Kd.bool (fun k=>k<w1.heap.size\/k=g2) u B l->Imm Kd.bool (fun k=>k<w1.heap.size\/k=g2) v B l:=fun f hi =>
    hi.keep (by decide) (f.step (fun k _ e=>.inr e) (fun _ _ h=>h))
  have keep1:∀ {u v:World},Fr (At g1) u v->Imm Kd.bool (fun k=>k<w1.heap.size\/k=g2) u B l->Imm Kd.bool (fun k=>k<w1.heap.size\/k=g2) v B l:=fun f hi =>
    hi.keep (by decide) (f.step (fun k _ e=>.inl (by have e:k=g1:=e;omega)) (fun _ _ h=>h))
  have hi4:=keep2 f4 hi3
  refine (rnum_spec h4 60 (by omega)).mono ?_
  rintro _ w5 ⟨x,rfl,h5,q5,hx,f5⟩
  have b5:=b4.keep f5 gne2
  have bk1:=bk1.keep f5 gne
  have hi5:=keepG f5 hi4
  refine ⟨_,rfl,cellOK b5 (by simp),fun w6 hw6=>?_⟩
  obtain ⟨b6,f6⟩:=cellSet b5 hw6
  have p5:=p4.trans f5 (fun _ _ h=>h) (fun _ _ h=>h)
  have h6:=h.new (by omega) f6 h5
  have p6:=Fr.new p5 (by omega) f6
  have bk1:=bk1.keep f6 (fun e=>g12 e)
  have hi6:=keep2 f6 hi5
  refine (rflag_spec h6).mono ?_
  rintro _ w7 ⟨y,rfl,h7,q7,f7⟩
  have b7:=b6.keep f7 gne2
  have bk1:=bk1.keep f7 gne
  have hi7:=keepG f7 hi6
  refine ⟨_,rfl,cellOK b7 (by simp),fun w8 hw8=>?_⟩
  obtain ⟨b8,f8⟩:=cellSet b7 hw8
  have p7:=p6.trans f7 (fun _ _ h=>h) (fun _ _ h=>h)
  have h8:=h.new (by omega) f8 h7
  have p8:=Fr.new p7 (by omega) f8
  have bk1:=bk1.keep f8 (fun e=>g12 e)
  have hi8:=keep2 f8 hi7
  refine ⟨_,_,_,b8.cell rfl,_,b8.cell rfl,_,b8.cell rfl,bk1.stOK _ 0 (by simp),fun w9 hw9=>?_⟩
  obtain ⟨b9,f9⟩:=set0 bk1 hw9 rfl
  have hi9:=keep1 f9 hi8
  refine ⟨_,_,_,b9.cell rfl,_,b9.cell rfl,_,b9.cell rfl,⟨l,x,y⟩,B,d,rfl,hd,?_,?_,?_,Fr.new p8 hg1 f9⟩
  · exact hi9.keep (by decide) ⟨Nat.le_refl _,fun _ _ _=>rfl,fun k _ hk=>.inl (by have hk:k<w.heap.size:=hk;omega)⟩
  · unfold srtO
    rw [adv_map,adv_seq,adv_seq]
    exact h.new hg1 f9 h8
  · exact Got.map (fun z:List Bool×(Int×Bool)=>(⟨z.1,z.2.1,z.2.2⟩:Srt)) (q2.seq (Got.seq q5 q7))
end
end Go.Proofs.YtaifphjenebgoaaGreatDoor
set_option linter.unusedVariables false
set_option linter.unusedSimpArgs false
namespace Go.Proofs.YtaifphjenebgoaaGreatDoor
open Go Go.Sx R1 K15
def PZ:Prog:=⟨0,0,0,[],[],[],[],[],[]⟩
def AZ:PAd:=⟨none,0,none,0,none,0,none,0,none,0,none,0⟩
theorem PIm.zero (w:World):PIm w PZ AZ:=⟨Imm.nil _ _ _ _,Imm.nil _ _ _ _,Imm.nil _ _ _ _,Imm.nil _ _ _ _,Imm.nil _ _ _ _,Imm.nil _ _ _ _,Nat.zero_le _,Nat.zero_le _,Nat.zero_le _,Nat.zero_le _,Nat.zero_le _,Nat.zero_le _,Nat.zero_le _⟩
section
variable {b:List UInt8} {A:Option Addr} {c:Nat} {w w5 u v z:World} {g g1 g2 g3:Nat} {s s':Option (List UInt8)} {cs:List Value}
structure RSt (b:List UInt8) (A:Option Addr) (c:Nat) (w w5 u:World) (g g1 g2 g3:Nat) (s:Option (List UInt8)) (cs:List Value):Prop where
  rd:Rdr b A c w u g1 s
  b0:Blk u g (pcs PZ AZ)
  b2:Blk u g2 [.pointer (some ⟨g1,0,none⟩)]
  b3:Blk u g3 cs
  le:w5.heap.size<=u.heap.size
  o0:w.heap.size<=g
  o1:g<g1
  o2:g1<g2
  o3:g2<g3
  o4:g3<w5.heap.size
theorem RSt.ok (h:RSt b A c w w5 u g g1 g2 g3 s cs) (f:Fr (At g1) u v) {k:Nat} (hk:k<cs.length) (x:Value):stOK ((⟨g3,0,none⟩:Addr).add k) 0 [x] v:=by
  have o2:=h.o2
  have o3:=h.o3
  exact cellOK (h.b3.keep f (fun e=>by have e:g3=g1:=e;omega)) hk
theorem RSt.next (h:RSt b A c w w5 u g g1 g2 g3 s cs) (f:Fr (At g1) u v) (rd:Rdr b A c w v g1 s') {k:Nat} {x:Value} (hz:z=setAll ((⟨g3,0,none⟩:Addr).add k) 0 [x] v) :
    RSt b A c w w5 z g g1 g2 g3 s' (cs.set k x)/\Fr (Old w5) u z:=by
  have o0:=h.o0
  have o1:=h.o1
  have o2:=h.o2
  have o3:=h.o3
  have o4:=h.o4
  have hb:=h.b3.keep f (fun e=>by have e:g3=g1:=e;omega)
  obtain ⟨b3,q⟩:=cellSet hb hz
  have n1:∀ {k:Nat},k<g3->¬ At g3 k:=fun hk e=>by have e : _=g3:=e;omega
  have n2:∀ {k:Nat},k≠g1->¬ At g1 k:=fun hk e=>hk e
  have g3l:(Fr (At g3)) v z:=q
  refine ⟨⟨rd.fr q (n1 (by omega)) (fun k hk=>n1 (by omega)),(h.b0.keep f (n2 (by omega))).keep q (n1 (by omega)),(h.b2.keep f (n2 (by omega))).keep q (n1 o3),b3,Nat.le_trans h.le (Nat.le_trans f.size q.size),o0,o1,o2,o3,o4⟩,?_⟩
  exact f.trans q (fun k _ e=>by have e:k=g1:=e;show k<w5.heap.size;omega) (fun k _ e=>by have e:k=g3:=e;show k<w5.heap.size;omega)
theorem imm_old {α:Type} {K:Kd α} (hz : 0<K.size) (h:w5.heap.size<=u.heap.size) {B:Option Addr} {l:List α} (hi:Imm K (Old u) v B l):Imm K (Old w5) v B l :=
  hi.keep hz ⟨Nat.le_refl _,fun _ _ _=>rfl,fun k _ hk=>Nat.lt_of_lt_of_le hk h⟩
theorem imm_fr {α:Type} {K:Kd α} (hz : 0<K.size) {B:Option Addr} {l:List α} (hi:Imm K (Old w5) u B l) (f:Fr (Old w5) u v):Imm K (Old w5) v B l :=
  hi.keep hz (f.step (fun _ _ h=>h) (fun _ _ h=>h))
theorem imm_no {α:Type} {K:Kd α} (hz : 0<K.size) {B:Option Addr} {l:List α} (hi:Imm K (Old w5) u B l):Imm K NoB u B l :=
  hi.keep hz ⟨Nat.le_refl _,fun _ _ _=>rfl,fun _ _ h=>h.elim⟩
set_option maxRecDepth 20000 in
set_option maxHeartbeats 4000000 in
theorem Read_spec (hb:Imm KB NoB w A b) (hc:b.length<=c) (hl:b.length<=140737488355328) (hT:Tab w) :
    CallsV Tryz.prog 9 #[.slice A b.length c] w fun v w'=>∃ (q:Prog) (a:PAd) (e:Int),v=.tuple #[pagg q a,.int .i64 e]/\PIm w' q a/\Ext w w'/\((readO gV b=some q/\e=0)\/(readO gV b=none/\q=PZ/\e=140)):=by
  refine code_Read.calls okay ?_
  unfold code_Read.W
  intro g w1 f0 g1 w2 f1 g2 w3 f2
  have y0:=f0.ge
  have y1:=f1.ge
  have y2:=f2.ge
  have l0:=f0.lt
  have l1:=f1.lt
  have l2:=f2.lt
  refine ⟨f2.blk.stOK _ 0 (by simp),fun w4 hw4=>?_⟩
  obtain ⟨b2,q2⟩:=set0 f2.blk hw4 rfl
  intro g3 w5 f3
  have y3:=f3.ge
  have l3:=f3.lt
  have z4:=q2.size
  have n2:∀ {k:Nat},k<g2->¬ At g2 k:=fun hk e=>by have e : _=g2:=e;omega
  have e3:Ext w w3:=(f0.ext.trans' f1.ext).trans' f2.ext
  have e4:Ext w w4:=e3.trans q2 (fun _ _ h=>h) (fun k hk e=>by have e:k=g2:=e;omega)
  have st:RSt b A c w w5 w5 g g1 g2 g3 (some b) (pcs PZ AZ) :=
    ⟨⟨hb,hc,hl,by omega,e4.trans' f3.ext,0,Nat.zero_le _,((f1.blk.ext f2.ext).keep q2 (n2 (by omega))).ext f3.ext,fun r hr=>by cases hr;rfl⟩,
      (((f0.blk.ext f1.ext).ext f2.ext).keep q2 (n2 (by omega))).ext f3.ext,b2.ext f3.ext,f3.blk,Nat.le_refl _,by omega,by omega,by omega,by omega,l3⟩
  clear q2 b2 f0 f1 f2 f3 hw4
  have zz:=st.le
  refine ⟨_,st.b2.cell0 rfl,?_⟩
  refine (rnum_spec st.rd 1099511627776 (by omega)).mono ?_
  rintro _ v1 ⟨x1,rfl,d1,k1,r1,h1⟩
  refine ⟨_,rfl,st.ok h1 (by simp) _,fun u1 hu=>?_⟩
  obtain ⟨st,F1⟩:=st.next h1 d1 hu
  refine ⟨_,st.b2.cell0 rfl,?_⟩
  refine (rnum_spec st.rd 250 (by omega)).mono ?_
  rintro _ v2 ⟨x2,rfl,d2,k2,r2,h2⟩
  refine ⟨_,rfl,st.ok h2 (by simp) _,fun u2 hu=>?_⟩
  obtain ⟨st,F2⟩:=st.next h2 d2 hu
  refine ⟨_,st.b2.cell0 rfl,?_⟩
  refine (rnum_spec st.rd 1000 (by omega)).mono ?_
  rintro _ v3 ⟨x3,rfl,d3,k3,r3,h3⟩
  refine ⟨_,rfl,st.ok h3 (by simp) _,fun u3 hu=>?_⟩
  obtain ⟨st,F3⟩:=st.next h3 d3 hu
  clear F1 F2 F3
  have ne21 : ¬ At g1 g2:=fun e=>by have e:g2=g1:=e;have:=st.o2;omega
  refine ⟨_,st.b2.cell0 rfl,?_⟩
  refine (some_string_spec st.rd 200 (by omega) (r:=textO 200) (fid:=32) (first:=#[]) (cap:=#[.pointer (some ⟨g2,0,none⟩)]) (by kernel_rfl) (fun u s hu fu=>rtextf_spec hu (st.b2.keep fu ne21))).mono ?_
  rintro _ v4 ⟨B4,c4,m4,rfl,hc4,hm4,i4,d4,k4,h4⟩
  have i4:=imm_old KStr_pos st.le i4
  refine ⟨_,_,_,rfl,st.ok h4 (by simp) _,fun u4 hu=>?_⟩
  have f4:=(cellSet (st.b3.keep h4 (fun e=>by have e:g3=g1:=e;have:=st.o2;have:=st.o3;omega)) hu).2
  have o4:=st.o4
  have o3:=st.o3
  have set3:∀ {u v:World},Fr (fun k=>k=g3) u v->Fr (Old w5) u v:=fun f=>f.mono (fun k _ e=>by show k<w5.heap.size;omega)
  have i4:=imm_fr KStr_pos i4 (set3 f4)
  obtain ⟨st,F4⟩:=st.next h4 d4 hu
  refine ⟨_,st.b2.cell0 rfl,_,st.b2.cell0 rfl,?_⟩
  refine (some_api_Value_spec st.rd 1000 (by omega) (r:=K15.constO gV) (fid:=35) (first:=#[.pointer (some ⟨g1,0,none⟩)]) (cap:=#[]) (by kernel_rfl) (fun u s hu fu=>rconst_spec hu)).mono ?_
  rintro _ v5 ⟨B5,c5,m5,rfl,hc5,hm5,i5,d5,k5,h5⟩
  have i5:=imm_old KV_pos st.le i5
  refine ⟨_,_,_,rfl,st.ok h5 (by simp) _,fun u5 hu=>?_⟩
  have i5:=imm_fr KV_pos i5 (set3 (cellSet (st.b3.keep h5 (fun e=>by have e:g3=g1:=e;have:=st.o2;omega)) hu).2)
  obtain ⟨st,F5⟩:=st.next h5 d5 hu
  have i4:=imm_fr KStr_pos i4 F5
  refine ⟨_,st.b2.cell0 rfl,_,st.b2.cell0 rfl,?_⟩
  refine (some_api_Cur_spec st.rd 12 (by omega) (r:=curO) (fid:=37) (first:=#[.pointer (some ⟨g1,0,none⟩)]) (cap:=#[]) (by kernel_rfl) (fun u s hu fu=>rcur_spec hu)).mono ?_
  rintro _ v6 ⟨B6,c6,m6,rfl,hc6,hm6,i6,d6,k6,h6⟩
  have i6:=imm_old KCur_pos st.le i6
  refine ⟨_,_,_,rfl,st.ok h6 (by simp) _,fun u6 hu=>?_⟩
  have i6:=imm_fr KCur_pos i6 (set3 (cellSet (st.b3.keep h6 (fun e=>by have e:g3=g1:=e;have:=st.o2;omega)) hu).2)
  obtain ⟨st,F6⟩:=st.next h6 d6 hu
  have i4:=imm_fr KStr_pos i4 F6
  have i5:=imm_fr KV_pos i5 F6
  refine ⟨_,st.b2.cell0 rfl,_,st.b2.cell0 rfl,?_⟩
  refine (some_api_Sort_spec st.rd 6 (by omega) (r:=srtO) (fid:=39) (first:=#[.pointer (some ⟨g1,0,none⟩)]) (cap:=#[]) (by kernel_rfl) (fun u s hu fu=>rsrt_spec hu)).mono ?_
  rintro _ v7 ⟨B7,c7,m7,rfl,hc7,hm7,i7,d7,k7,h7⟩
  have i7:=imm_old KSrt_pos st.le i7
  refine ⟨_,_,_,rfl,st.ok h7 (by simp) _,fun u7 hu=>?_⟩
  have i7:=imm_fr KSrt_pos i7 (set3 (cellSet (st.b3.keep h7 (fun e=>by have e:g3=g1:=e;have:=st.o2;omega)) hu).2)
  obtain ⟨st,F7⟩:=st.next h7 d7 hu
  have i4:=imm_fr KStr_pos i4 F7
  have i5:=imm_fr KV_pos i5 F7
  have i6:=imm_fr KCur_pos i6 F7
  refine ⟨_,st.b2.cell0 rfl,_,st.b2.cell0 rfl,?_⟩
  refine (some_api_Acc_spec st.rd 60 (by omega) (r:=totO) (fid:=41) (first:=#[.pointer (some ⟨g1,0,none⟩)]) (cap:=#[]) (by kernel_rfl) (fun u s hu fu=>rtot_spec hu)).mono ?_
  rintro _ v8 ⟨B8,c8,m8,rfl,hc8,hm8,i8,d8,k8,h8⟩
  have i8:=imm_old KTot_pos st.le i8
  refine ⟨_,_,_,rfl,st.ok h8 (by simp) _,fun u8 hu=>?_⟩
  have i8:=imm_fr KTot_pos i8 (set3 (cellSet (st.b3.keep h8 (fun e=>by have e:g3=g1:=e;have:=st.o2;omega)) hu).2)
  obtain ⟨st,F8⟩:=st.next h8 d8 hu
  have i4:=imm_fr KStr_pos i4 F8
  have i5:=imm_fr KV_pos i5 F8
  have i6:=imm_fr KCur_pos i6 F8
  have i7:=imm_fr KSrt_pos i7 F8
  refine ⟨_,st.b2.cell0 rfl,_,st.b2.cell0 rfl,?_⟩
  refine (some_api_Instr_spec st.rd 4000 (by omega) (r:=insO) (fid:=43) (first:=#[.pointer (some ⟨g1,0,none⟩)]) (cap:=#[]) (by kernel_rfl) (fun u s hu fu=>rins_spec hu)).mono ?_
  rintro _ v9 ⟨B9,c9,m9,rfl,hc9,hm9,i9,d9,k9,h9⟩
  have i9:=imm_old KIns_pos st.le i9
  refine ⟨_,_,_,rfl,st.ok h9 (by simp) _,fun u9 hu=>?_⟩
  have i9:=imm_fr KIns_pos i9 (set3 (cellSet (st.b3.keep h9 (fun e=>by have e:g3=g1:=e;have:=st.o2;omega)) hu).2)
  obtain ⟨st,F9⟩:=st.next h9 d9 hu
  have i4:=imm_fr KStr_pos i4 F9
  have i5:=imm_fr KV_pos i5 F9
  have i6:=imm_fr KCur_pos i6 F9
  have i7:=imm_fr KSrt_pos i7 F9
  have i8:=imm_fr KTot_pos i8 F9
  clear F4 F5 F6 F7 F8 F9 h1 h2 h3 h4 h5 h6 h7 h8 h9
  -- what was read,as one
  have got:Got (progO gV) (some b) ⟨x1,x2,x3,m4,m5,m6,m7,m8,m9⟩:=Got.map ofT (x:=(x1,(x2,(x3,(m4,(m5,(m6,(m7,(m8,m9))))))))) (Got.seq k1 (Got.seq k2 (Got.seq k3 (Got.seq k4 (Got.seq k5 (Got.seq k6 (Got.seq k7 (Got.seq k8 k9))))))))
  have hs:adv (progO gV) (some b)=adv (someO 4000 insO) (adv (someO 60 totO) (adv (someO 6 srtO) (adv (someO 12 curO) (adv (someO 1000 (K15.constO gV)) (adv (someO 200 (textO 200)) (adv (numO 1000) (adv (numO 250) (adv (numO bigM) (some b))))))))):=by
    unfold progO
    rw [adv_map,adv_seq,adv_seq,adv_seq,adv_seq,adv_seq,adv_seq,adv_seq,adv_seq]
  have hs':=hs.symm
  have rd:=st.rd
  have b0:=st.b0
  have b2:=st.b2
  have b3:=st.b3
  have w0g:=st.o0
  change Rdr b A c w u9 g1 (adv (someO 4000 insO) (adv (someO 60 totO) (adv (someO 6 srtO) (adv (someO 12 curO) (adv (someO 1000 (K15.constO gV)) (adv (someO 200 (textO 200)) (adv (numO 1000) (adv (numO 250) (adv (numO bigM) (some b)))))))))) at rd
  rw [hs'] at rd
  have b3:Blk u9 g3 (pcs ⟨x1,x2,x3,m4,m5,m6,m7,m8,m9⟩ ⟨B4,c4,B5,c5,B6,c6,B7,c7,B8,c8,B9,c9⟩):=b3
  have hp:∀ z,Fr (Old w5) u9 z->PIm z ⟨x1,x2,x3,m4,m5,m6,m7,m8,m9⟩ ⟨B4,c4,B5,c5,B6,c6,B7,c7,B8,c8,B9,c9⟩:=fun z f=>⟨imm_no KStr_pos (imm_fr KStr_pos i4 f),imm_no KV_pos (imm_fr KV_pos i5 f),imm_no KCur_pos (imm_fr KCur_pos i6 f),imm_no KSrt_pos (imm_fr KSrt_pos i7 f),imm_no KTot_pos (imm_fr KTot_pos i8 f),imm_no KIns_pos (imm_fr KIns_pos i9 f),
    by simp only [maxLen];omega,by simp only [maxLen];omega,by simp only [maxLen];omega,by simp only [maxLen];omega,by simp only [maxLen];omega,by simp only [maxLen];omega,hc9⟩
  generalize (⟨x1,x2,x3,m4,m5,m6,m7,m8,m9⟩:Prog)=p at *
  generalize (⟨B4,c4,B5,c5,B6,c6,B7,c7,B8,c8,B9,c9⟩:PAd)=a at *
  clear st i4 i5 i6 i7 i8 i9 k1 k2 k3 k4 k5 k6 k7 k8 k9 d1 d2 d3 d4 d5 d6 d7 d8 d9 hs hs'
  have hd:g≠g3:=by omega
  have none_:∀ (u:World) (e:Ext w u) (bz:Blk u g (pcs PZ AZ)),readO gV b=none->stOK ⟨g,0,none⟩ 0 (pcs PZ AZ) u/\∀ z,z=setAll ⟨g,0,none⟩ 0 (pcs PZ AZ) u->Blk z g (pcs PZ AZ) /\
      ∃ (q:Prog) (a:PAd) (e:Int),Value.tuple #[pagg PZ AZ,.int .i64 140]=.tuple #[pagg q a,.int .i64 e]/\PIm z q a/\Ext w z/\((readO gV b=some q/\e=0)\/(readO gV b=none/\q=PZ/\e=140)):=fun u e bz hn=>by
    refine ⟨bz.stOK _ 0 (by simp),fun z hz=>?_⟩
    obtain ⟨b1,f1⟩:=set0 bz hz rfl
    exact ⟨b1,PZ,AZ,140,rfl,PIm.zero z,e.trans f1 (fun _ _ h=>h) (fun k hk e=>by have e:k=g:=e;omega),.inr ⟨hn,rfl,rfl⟩⟩
  obtain ⟨at_,hat,bk,hrest⟩:=rd.st
  have ew:=rd.ext
  refine ⟨_,b2.cell0 rfl,_,rfl,_,bk.cell rfl,br (fun hbad=>?_) (fun hbad=>?_)⟩
  · have hn:readO gV b=none:=by
      unfold readO
      cases hq:progO gV b with
      | none=>rfl
      | some y=>rw [adv_ok (x:=y.1) (a:=y.2) hq] at hbad;cases hbad
    obtain ⟨n1,n2⟩:=none_ u9 ew b0 hn
    refine ⟨n1,fun z hz=>?_⟩
    obtain ⟨b1,n3⟩:=n2 z hz
    repeat (first|refine ⟨_,Blk.cell (b1) (by rfl),?_⟩|refine ⟨_,_,_,Blk.cell (b1) (by rfl),?_⟩)
    exact n3
  obtain ⟨y,hq⟩:∃ y,progO gV b=some y:=by
    cases hq:progO gV b with
    | none=>rw [adv_bad hq] at hbad;cases hbad
    | some y=>exact ⟨y,rfl⟩
  have hrest:=hrest y.2 (adv_ok (x:=y.1) (a:=y.2) hq)
  obtain rfl:p=y.1:=got y.1 y.2 hq
  have hre:readO gV b=if y.2=[]/\b.length<=1048576/\checkP y.1=true then some y.1 else none:=by unfold readO;rw [hq]
  refine ⟨_,b2.cell0 rfl,_,rfl,_,bk.cell rfl,brn (fun hne=>?_) (fun heq=>?_)⟩
  · obtain ⟨n1,n2⟩:=none_ u9 ew b0 (by rw [hre,if_neg (fun h=>hne (by
      have h:=h.1
      rw [hrest] at h
      have:=congrArg List.length h
      rw [List.length_drop] at this
      simp only [List.length_nil] at this
      omega))])
    refine ⟨n1,fun z hz=>?_⟩
    obtain ⟨b1,n3⟩:=n2 z hz
    repeat (first|refine ⟨_,Blk.cell (b1) (by rfl),?_⟩|refine ⟨_,_,_,Blk.cell (b1) (by rfl),?_⟩)
    exact n3
  refine brd (fun hlong=>?_) (fun hlong=>?_)
  · obtain ⟨n1,n2⟩:=none_ u9 ew b0 (by rw [hre,if_neg (fun h=>by have:=h.2.1;omega)])
    refine ⟨n1,fun z hz=>?_⟩
    obtain ⟨b1,n3⟩:=n2 z hz
    repeat (first|refine ⟨_,Blk.cell (b1) (by rfl),?_⟩|refine ⟨_,_,_,Blk.cell (b1) (by rfl),?_⟩)
    exact n3
  repeat (first|refine ⟨_,Blk.cell (b3) (by rfl),?_⟩|refine ⟨_,_,_,Blk.cell (b3) (by rfl),?_⟩)
  refine (Check_spec (hp u9 (.refl _ _)) (hT.ext ew)).mono ?_
  rintro _ v ⟨rfl,k⟩
  have b0:=b0.ext k
  have b3:=b3.ext k
  have ev:=ew.trans' k
  refine ⟨_,rfl,brn (fun hbad2=>?_) (fun hok=>?_)⟩
  · obtain ⟨n1,n2⟩:=none_ v ev b0 (by rw [hre,if_neg (fun h=>hbad2 (by rw [if_pos h.2.2]))])
    refine ⟨n1,fun z hz=>?_⟩
    obtain ⟨b1,n3⟩:=n2 z hz
    repeat (first|refine ⟨_,Blk.cell (b1) (by rfl),?_⟩|refine ⟨_,_,_,Blk.cell (b1) (by rfl),?_⟩)
    exact n3
  have hck:checkP y.1=true:=by
    cases hh:checkP y.1 with
    | true=>rfl
    | false=>rw [hh] at hok;simp at hok
  repeat (first|refine ⟨_,Blk.cell (b3) (by rfl),?_⟩|refine ⟨_,_,_,Blk.cell (b3) (by rfl),?_⟩)
  refine ⟨b0.stOK (pcs y.1 a) 0 (by simp),fun z hz=>?_⟩
  obtain ⟨b1,f1⟩:=set0 b0 hz (by simp)
  have ez:=ev.trans f1 (fun _ _ h=>h) (fun k hk e=>by have e:k=g:=e;omega)
  repeat (first|refine ⟨_,Blk.cell (b1) (by rfl),?_⟩|refine ⟨_,_,_,Blk.cell (b1) (by rfl),?_⟩)
  refine ⟨y.1,a,0,rfl,?_,ez,.inl ⟨?_,rfl⟩⟩
  · exact hp z ((k.fr (S:=Old w5)).trans f1 (fun _ _ h=>h) (fun k _ e=>by have e:k=g:=e;show k<w5.heap.size;omega))
  · have h0:y.2=[]:=by rw [hrest,show at_=b.length by omega];exact List.drop_length
    rw [hre,if_pos ⟨h0,by omega,hck⟩]
end
end Go.Proofs.YtaifphjenebgoaaGreatDoor
set_option linter.unusedVariables false
set_option linter.unusedSimpArgs false
namespace Go.Proofs.YtaifphjenebgoaaGreatDoor
open Go Go.Sx R1 K15
theorem bytesE_P {p:Prog} (h:Lim (fun v=>right v=true/\good v) p):bytesP constE p=bytesP constP p:=by
  have:p.consts.flatMap (fun v=>K15.eB (constE v))=p.consts.flatMap (fun v=>K15.eB (constP v)):=by
    have e:∀ l:List V,(∀ v∈l,right v=true/\good v)->l.flatMap (fun v=>K15.eB (constE v))=l.flatMap (fun v=>K15.eB (constP v)):=fun l=>by
      induction l with
      | nil=>intro _;rfl
      | cons v l ih =>
        intro hl
        rw [List.flatMap_cons,List.flatMap_cons,ih (fun x hx=>hl x (List.mem_cons_of_mem _ hx)),constE_eq (hl v List.mem_cons_self).1,constP_eq]
    exact e _ h.consts.2
  unfold bytesP K15.eL
  rw [this]
theorem wrote {p:Prog} (gp:gProg p) (h:(bytesR constE p).2=0):Lim (fun v=>right v=true/\good v) p/\checkP p=true/\(bytesR constE p).1=bytesP constP p/\(bytesP constP p).length<=1048576/\0<(bytesP constP p).length:=by
  obtain ⟨c1,l1⟩:=bytesR_ok h
  have lim:=(checked c1).lim (fun i hi=>(gp.code i hi).1) gp.consts
  have he:=bytesE_P lim
  refine ⟨lim,c1,by rw [l1,he],?_,?_⟩
  · rw [<- he]
    unfold bytesR at h
    rw [if_neg (by rw [c1];decide)] at h
    by_cases hb : 1048576<(bytesP constE p).length
    · rw [if_pos hb] at h;exact absurd h (by decide)
    · omega
  · unfold bytesP
    rw [List.length_append]
    have:=B1.enc_length_pos p.ver.toNat
    unfold K15.eI
    omega
end Go.Proofs.YtaifphjenebgoaaGreatDoor
set_option linter.unusedVariables false
set_option linter.unusedSimpArgs false
namespace Go.Proofs.YtaifphjenebgoaaGreatDoor
open Go Go.Sx R1 K15
theorem Equal_spec {w:World} {A B:Option Addr} {c d:Nat} {l m:List UInt8} (hl:Imm KB NoB w A l) (hm:Imm KB NoB w B m) :
    CallsV Tryz.prog 13 #[.slice A l.length c,.slice B m.length d] w fun r w'=>r=.bool (decide (l=m))/\w'=w:=by
  refine bytes_Equal.calls okay ?_
  unfold bytes_Equal.W
  exact ⟨_,_,to_str bt hl c,_,_,to_str bt hm d,by rw [eq_str],rfl⟩
theorem lim_g {p:Prog} (h:Lim (fun v=>right v=true/\good v) p):gProg p:=by
  have big:(bigM:Int)=1099511627776:=rfl
  have iN:∀ {m:Nat} {n:Int},m<=9223372036854775807->inN m n->isI n:=fun hm hn=>by unfold inN at hn;unfold isI;omega
  refine ⟨iN (by decide) h.ver,iN (by decide) h.regs,iN (by decide) h.binds,fun s hs=>?_,fun v hv=>(h.consts.2 v hv).2,fun c hc=>?_,fun s hs=>?_,fun t ht=>?_,fun i hi=>?_⟩
  · have:=h.names.2 s hs;simp only [maxLen];omega
  · have:=h.curs.2 c hc;unfold gCur;simp only [maxLen];omega
  · have:=h.sorts.2 s hs;exact ⟨by simp only [maxLen];omega,iN (by decide) this.2⟩
  · have:=h.tots.2 t ht;unfold gTot;simp only [maxLen];omega
  · obtain ⟨h1,h2,h3,h4,h5⟩:=h.code.2 i hi
    exact ⟨by unfold inN at h1;omega,iN (by decide) h2,iN (by decide) h3,iN (by decide) h4,iN (by decide) h5⟩
theorem gPZ:gProg PZ:=⟨(show isI 0 from ⟨by decide,by decide⟩),(show isI 0 from ⟨by decide,by decide⟩),(show isI 0 from ⟨by decide,by decide⟩),(fun _ h=>by cases h),(fun _ h=>by cases h),(fun _ h=>by cases h),(fun _ h=>by cases h),(fun _ h=>by cases h),(fun _ h=>by cases h)⟩
theorem var_set {w w1 w2 w3:World} {g:Nat} {p q:Prog} {a aq:PAd} {e:TypeId} (k:Ext w w1) (f:Fresh w1 g w2 (pcs q aq) e) (h:w3=setAll ⟨g,0,none⟩ 0 (pcs p a) w2):Blk w3 g (pcs p a)/\Ext w1 w3/\Ext w w3:=by
  obtain ⟨b,q⟩:=set0 f.blk h (by simp)
  have:=f.ge
  have e1:Ext w1 w3:=f.ext.trans q (fun _ _ h=>h) (fun k hk e=>by have e:k=g:=e;omega)
  exact ⟨b,e1,k.trans' e1⟩
end Go.Proofs.YtaifphjenebgoaaGreatDoor
set_option linter.unusedVariables false
set_option linter.unusedSimpArgs false
namespace Go.Proofs.YtaifphjenebgoaaGreatDoor
open Go Go.Sx R1 K15
section
variable {b:List UInt8} {A:Option Addr} {c:Nat} {w0 w w':World} {g:Nat} {s:Option (List UInt8)}
theorem RNum_spec (hbs:b.length<=100000) (h:Rdr b A c w0 w g s) :
    CallsV Tryz.prog 53 #[.pointer (some ⟨g,0,none⟩)] w fun v w'=>∃ x:Int,v=.int .i64 x/\Rdr b A c w0 w' g (adv numL s)/\Got numL s x/\(0<=x/\x<=1099511627776)/\Fr (At g) w w':=by
  refine cardindexref15_reader_num.calls okay ?_
  unfold cardindexref15_reader_num.W
  obtain ⟨a,ha,bk,hs⟩:=h.st
  refine ⟨_,rfl,fun u=>Ext w u,Fr.drew NoB w,_,_,_,fun u e=>(bk.ext e).cell rfl,_,rfl,_,fun u e=>(bk.ext e).cell rfl,?_⟩
  have hd:Ext w w.drew:=Fr.drew NoB w
  have hln:=h.ln
  refine (GetUintR_spec rfl (h.now.ext KB_pos hd) (by omega) (a:Int)).mono ?_
  rintro _ w1 ⟨rfl,e1⟩
  have e1:Ext w w1:=hd.trans' e1
  refine ⟨_,_,_,rfl,_,rfl,_,(bk.ext e1).cell rfl,?_⟩
  have ok1:=h.failOK e1 (.bool true)
  have bad:∀ u,adv numL s=none->u=setAll ((⟨g,0,none⟩:Addr).add 2) 0 [.bool true] w1->∃ x:Int,Value.int .i64 0=.int .i64 x/\Rdr b A c w0 u g (adv numL s)/\Got numL s x/\(0<=x/\x<=1099511627776)/\Fr (At g) w u:=fun u hn hu=>by
    obtain ⟨q1,q2⟩:=h.fail e1 hu
    exact ⟨0,rfl,by rw [hn];exact q1,Got.bad hn,⟨by omega,by omega⟩,q2⟩
  refine br (fun hb=>?_) (fun hb=>?_)
  · obtain rfl:s=none:=by cases s with|none=>rfl|some x=>cases hb
    exact ⟨_,rfl,ok1,fun u hu=>bad u rfl hu⟩
  obtain ⟨r,rfl⟩:∃ r,s=some r:=by cases s with|none=>cases hb|some x=>exact ⟨x,rfl⟩
  obtain rfl:=hs r rfl
  rw [getU_dec ha]
  have bad1:∀ u,numO bigM (b.drop a)=none->u=setAll ((⟨g,0,none⟩:Addr).add 2) 0 [.bool true] w1->∃ x:Int,Value.int .i64 0=.int .i64 x/\Rdr b A c w0 u g (adv numL (some (b.drop a)))/\Got numL (some (b.drop a)) x/\(0<=x/\x<=1099511627776)/\Fr (At g) w u:=fun u hn hu=>bad u (adv_bad hn) hu
  cases hc:B1.dec 0 (b.drop a) with
  | short=>exact brn (fun _=>⟨_,rfl,ok1,fun u hu=>bad1 u (by unfold numO;rw [hc]) hu⟩) (fun h0=>by simp [B1.Dec.at] at h0)
  | bad=>exact brn (fun _=>⟨_,rfl,ok1,fun u hu=>bad1 u (by unfold numO;rw [hc]) hu⟩) (fun h0=>by simp [B1.Dec.at] at h0)
  | ok n k =>
    refine brn (fun h0=>by simp [B1.Dec.at] at h0) (fun _=>?_)
    simp only [B1.Dec.at]
    have hM:bigM=1099511627776:=rfl
    refine brd (fun hgt=>⟨_,rfl,ok1,fun u hu=>bad1 u (by unfold numO;rw [hc];simp only;rw [if_neg (by omega)]) hu⟩) (fun hle=>?_)
    obtain ⟨_,hk,_⟩:=B1.dec_ok _ 0 n k (by omega) hc
    rw [List.length_drop] at hk
    have hn:numL (b.drop a)=some ((n:Int),b.drop (a+k)):=by unfold numL numO;rw [hc];simp only;rw [if_pos (by omega),List.drop_drop]
    rw [show (a:Int)+(k:Int)=((a+k:Nat):Int) by omega]
    refine ⟨_,rfl,h.goOK e1 _,fun u hu=>?_⟩
    obtain ⟨q1,q2⟩:=h.go (b:=b) (p:=a) ha (q:=a+k) (by omega) e1 hu
    rw [wi (n:Int) (by omega) (by omega)]
    exact ⟨n,rfl,by rw [adv_ok hn];exact q1,Got.ok hn,⟨by omega,by omega⟩,q2⟩
theorem RText_spec (hbs:b.length<=100000) (h:Rdr b A c w0 w g s) :
    CallsV Tryz.prog 54 #[.pointer (some ⟨g,0,none⟩)] w fun v w'=>∃ x:ByteArray,v=.string x/\x.size<=1048576/\Rdr b A c w0 w' g (adv (textO 1048576) s)/\Got (textO 1048576) s x/\Fr (At g) w w':=by
  refine cardindexref15_reader_text.calls okay ?_
  unfold cardindexref15_reader_text.W
  obtain ⟨a,ha,bk,hs⟩:=h.st
  refine ⟨_,rfl,fun u=>Ext w u,Fr.drew NoB w,_,_,_,fun u e=>(bk.ext e).cell rfl,_,rfl,_,fun u e=>(bk.ext e).cell rfl,?_⟩
  have hd:Ext w w.drew:=Fr.drew NoB w
  have hln:=h.ln
  refine (GetBlobR_spec rfl (h.now.ext KB_pos hd) (by omega) h.lc (a:Int) 1048576 (by omega)).mono ?_
  rintro _ w1 ⟨B,d,rfl,ho,e1,nB⟩
  have e1:Ext w w1:=hd.trans' e1
  refine ⟨_,_,_,_,_,rfl,_,rfl,_,(bk.ext e1).cell rfl,?_⟩
  have ok1:=h.failOK e1 (.bool true)
  have bad:∀ u,adv (blobO 1048576) s=none->u=setAll ((⟨g,0,none⟩:Addr).add 2) 0 [.bool true] w1->∃ x:ByteArray,Value.string (ByteArray.mk #[])=.string x/\x.size<=1048576/\Rdr b A c w0 u g (adv (textO 1048576) s)/\Got (textO 1048576) s x/\Fr (At g) w u:=fun u hn hu=>by
    obtain ⟨q1,q2⟩:=h.fail e1 hu
    exact ⟨ByteArray.mk #[],rfl,by decide,by rw [adv_text,hn];exact q1,Got.bad (by rw [adv_text,hn]),q2⟩
  refine br (fun hb=>?_) (fun hb=>?_)
  · obtain rfl:s=none:=by cases s with|none=>rfl|some x=>cases hb
    exact ⟨_,rfl,ok1,fun u hu=>bad u rfl hu⟩
  obtain ⟨r,rfl⟩:∃ r,s=some r:=by cases s with|none=>cases hb|some x=>exact ⟨x,rfl⟩
  obtain rfl:=hs r rfl
  have hB:∀ (n q:Nat) (e:Int),B1.getU b (a:Int)=(n,(q:Int),e)->getB b (a:Int) 1048576=if e≠0 then ([],0,e) else if (1048576:Int)<0\/(1048576:Int)<(n:Int) then ([],0,3) else if b.length-q<n then ([],0,11)
    else ((b.drop q).take n,(q:Int)+n,0):=fun n q e he=>by unfold getB;rw [he];rfl
  rw [getU_dec ha] at hB
  have bad1:∀ u,blobO 1048576 (b.drop a)=none->u=setAll ((⟨g,0,none⟩:Addr).add 2) 0 [.bool true] w1->∃ x:ByteArray,Value.string (ByteArray.mk #[])=.string x/\x.size<=1048576/\Rdr b A c w0 u g (adv (textO 1048576) (some (b.drop a)))/\Got (textO 1048576) (some (b.drop a)) x/\Fr (At g) w u:=fun u hn hu=>bad u (adv_bad hn) hu
  cases hc:B1.dec 0 (b.drop a) with
  | short=>exact brn (fun _=>⟨_,rfl,ok1,fun u hu=>bad1 u (by unfold blobO numO;rw [hc]) hu⟩) (fun h0=>by rw [hB 0 0 11 (by rw [hc];rfl),if_pos (by decide)] at h0;simp at h0)
  | bad=>exact brn (fun _=>⟨_,rfl,ok1,fun u hu=>bad1 u (by unfold blobO numO;rw [hc]) hu⟩) (fun h0=>by rw [hB 0 0 10 (by rw [hc];rfl),if_pos (by decide)] at h0;simp at h0)
  | ok n k =>
    have hB:=hB n (a+k) 0 (by rw [hc];show (n,(a:Int)+(k:Int),(0:Int))=_;rw [show (a:Int)+(k:Int)=((a+k:Nat):Int) by omega])
    rw [if_neg (by decide)] at hB
    obtain ⟨_,hk,_⟩:=B1.dec_ok _ 0 n k (by omega) hc
    rw [List.length_drop] at hk
    by_cases h1:(1048576:Int)<0\/(1048576:Int)<(n:Int)
    · rw [if_pos h1] at hB
      rw [hB]
      exact brn (fun _=>⟨_,rfl,ok1,fun u hu=>bad1 u (by unfold blobO numO;rw [hc];simp only;rw [if_neg (by omega)]) hu⟩) (fun h0=>by simp at h0)
    rw [if_neg h1] at hB
    have hn:numO 1048576 (b.drop a)=some ((n:Int),b.drop (a+k)):=by unfold numO;rw [hc];simp only;rw [if_pos (by omega),List.drop_drop]
    by_cases h2:b.length-(a+k)<n
    · rw [if_pos h2] at hB
      rw [hB]
      exact brn (fun _=>⟨_,rfl,ok1,fun u hu=>bad1 u (by unfold blobO;rw [hn];simp only;rw [if_pos (by rw [List.length_drop];omega)]) hu⟩) (fun h0=>by simp at h0)
    rw [if_neg h2] at hB
    rw [hB] at ho ⊢
    have hbl:blobO 1048576 (b.drop a)=some ((b.drop (a+k)).take n,b.drop (a+k+n)):=by
      unfold blobO;rw [hn];simp only;rw [if_neg (by rw [List.length_drop];omega),Int.toNat_natCast,List.drop_drop]
    refine brn (fun h0=>absurd rfl h0) (fun _=>?_)
    rw [show ((a+k:Nat):Int)+(n:Int)=((a+k+n:Nat):Int) by omega]
    refine ⟨_,rfl,h.goOK e1 _,fun u hu=>?_⟩
    obtain ⟨q1,q2⟩:=h.go (b:=b) (p:=a) ha (q:=a+k+n) (by omega) e1 hu
    obtain ⟨_,fu⟩:=cellSet (h.ex e1).st.choose_spec.2.1 hu
    have ho':=ho.keep fu (fun j hj hg=>by have h3:w.heap.size<=j:=nB j hj;have h4:=h.lt;have hg:j=g:=hg;omega)
    refine ⟨_,_,to_str bt (ho'.imm (Ω:=NoB) (fun _ _ h=>h)) d,_,rfl,?_,by rw [adv_text,adv_ok hbl];exact q1,(Got.ok hbl).text,q2⟩
    show ((b.drop (a+k)).take n).toArray.size<=1048576
    simp;omega
end
end Go.Proofs.YtaifphjenebgoaaGreatDoor
set_option linter.unusedVariables false
set_option linter.unusedSimpArgs false
namespace Go.Proofs.YtaifphjenebgoaaGreatDoor
open Go Go.Sx R1 K15
def Lp {α:Type} (r:Rd α) (s1:Option (List UInt8)) (n:Nat) (l:List α) (s:Option (List UInt8)) (j:Nat):Prop :=
  l.length+j<=n/\((s=adv (repO r l.length) s1/\Got (repO r l.length) s1 l/\l.length+j=n)\/(s=none/\adv (repO r n) s1=none))
section
variable {α:Type} {r:Rd α} {s1 s s':Option (List UInt8)} {n j:Nat} {l:List α} {y : α}
theorem Lp.start (r:Rd α) (s1:Option (List UInt8)) (n:Nat):Lp r s1 n [] s1 n:=⟨by simp,.inl ⟨by rw [List.length_nil,adv_rep0],Got.rep0 _ _,by simp⟩⟩
theorem Lp.step (h:Lp r s1 n l s j) (hs:s.isNone=false) (hj : 0<j) (e:s'=adv r s) (q:Got r s y):Lp r s1 n (l++[y]) s' (j-1):=by
  obtain ⟨h0,⟨h1,h2,h3⟩|⟨h1,_⟩⟩:=h
  · refine ⟨by rw [List.length_append,List.length_singleton];omega,.inl ⟨?_,?_,by rw [List.length_append,List.length_singleton];omega⟩⟩
    · rw [List.length_append,List.length_singleton,adv_rep,<- h1,e]
    · rw [List.length_append,List.length_singleton];exact h2.rep (by rw [<- h1];exact q)
  · rw [h1] at hs;cases hs
theorem Lp.fail (h:Lp r s1 n l s j) (hs:s.isNone=false) (hj : 0<j) (e:adv r s=none):Lp r s1 n l none (j-1):=by
  obtain ⟨h0,⟨h1,h2,h3⟩|⟨h1,_⟩⟩:=h
  · refine ⟨by omega,.inr ⟨rfl,?_⟩⟩
    have:=adv_rep_none (r:=r) (s:=s1) (i:=l.length+1) (by rw [adv_rep,<- h1];exact e) (j-1)
    rwa [show l.length+1+(j-1)=n by omega] at this
  · rw [h1] at hs;cases hs
theorem Lp.done (h:Lp r s1 n l s j) (hd:j=0\/s=none):s=adv (repO r n) s1/\Got (repO r n) s1 l:=by
  obtain ⟨h0,⟨h1,h2,h3⟩|⟨h1,h2⟩⟩:=h
  · rcases hd with hd|hd
    · obtain rfl:l.length=n:=by omega
      exact ⟨h1,h2⟩
    · have:=adv_rep_none (r:=r) (s:=s1) (i:=l.length) (by rw [<- h1,hd]) j
      rw [h3] at this
      exact ⟨by rw [hd,this],Got.bad this⟩
  · exact ⟨by rw [h1,h2],Got.bad h2⟩
end
section
variable {b:List UInt8} {A:Option Addr} {c:Nat} {w w5 u v z:World} {g g1 g2:Nat} {s s':Option (List UInt8)} {cs:List Value}
structure DS (b:List UInt8) (A:Option Addr) (c:Nat) (w w5 u:World) (g g1 g2:Nat) (s:Option (List UInt8)) (cs:List Value):Prop where
  rd:Rdr b A c w u g1 s
  b0:Blk u g (pcs PZ AZ)
  b2:Blk u g2 cs
  le:w5.heap.size<=u.heap.size
  o0:w.heap.size<=g
  o1:g<g1
  o2:g1<g2
  o4:g2<w5.heap.size
theorem DS.read (h:DS b A c w w5 u g g1 g2 s cs) (f:Fr (At g1) u v) (rd:Rdr b A c w v g1 s'):DS b A c w w5 v g g1 g2 s' cs/\Fr (Old w5) u v:=by
  have o1:=h.o1
  have o2:=h.o2
  have o4:=h.o4
  exact ⟨⟨rd,h.b0.keep f (fun e=>by have e:g=g1:=e;omega),h.b2.keep f (fun e=>by have e:g2=g1:=e;omega),Nat.le_trans h.le f.size,h.o0,o1,o2,o4⟩,f.mono (fun k _ e=>by have e:k=g1:=e;show k<w5.heap.size;omega)⟩
theorem DS.ex (h:DS b A c w w5 u g g1 g2 s cs) (e:Ext u v):DS b A c w w5 v g g1 g2 s cs :=
  ⟨h.rd.ex e,h.b0.ext e,h.b2.ext e,Nat.le_trans h.le e.size,h.o0,h.o1,h.o2,h.o4⟩
theorem DS.fr (h:DS b A c w w5 u g g1 g2 s cs) {S:Nat->Prop} (f:Fr S u v) (hS:∀ k,k<w5.heap.size->¬ S k):DS b A c w w5 v g g1 g2 s cs:=by
  have o0:=h.o0
  have o1:=h.o1
  have o2:=h.o2
  have o4:=h.o4
  exact ⟨h.rd.fr f (hS _ (by omega)) (fun k hk=>hS k (by omega)),h.b0.keep f (hS _ (by omega)),h.b2.keep f (hS _ (by omega)),Nat.le_trans h.le f.size,o0,o1,o2,o4⟩
theorem DS.set (h:DS b A c w w5 u g g1 g2 s cs) {k:Nat} {x:Value} (hz:z=setAll ((⟨g2,0,none⟩:Addr).add k) 0 [x] u):DS b A c w w5 z g g1 g2 s (cs.set k x)/\Fr (Old w5) u z:=by
  have o0:=h.o0
  have o1:=h.o1
  have o2:=h.o2
  have o4:=h.o4
  obtain ⟨b2,q⟩:=cellSet h.b2 hz
  exact ⟨⟨h.rd.fr q (fun e=>by have e:g1=g2:=e;omega) (fun k hk e=>by have e:k=g2:=e;omega),h.b0.keep q (fun e=>by have e:g=g2:=e;omega),b2,Nat.le_trans h.le q.size,o0,o1,o2,o4⟩,
    q.mono (fun k _ e=>by have e:k=g2:=e;show k<w5.heap.size;omega)⟩
structure Gr {α:Type} (K:Kd α) (w5:World) (M:Nat) (u:World) (B:Option Addr) (d:Nat) (l:List α):Prop where
  own:OwnK (Kd.out (Old w5) K) u B d l
  new:∀ k,ownB B k->M<=k
  le:w5.heap.size<=M
theorem Gr.fr {α:Type} {K:Kd α} {M:Nat} {B:Option Addr} {d:Nat} {l:List α} (h:Gr K w5 M u B d l) {S:Nat->Prop} (f:Fr S u v) (hS:∀ k,k<u.heap.size->S k->k<w5.heap.size):Gr K w5 M v B d l :=
  ⟨h.own.fr f (fun k hk hs=>by have h1:=h.new k hk;have h2:=hS k (h.own.lt k hk) hs;have h3:=h.le;omega) (fun a cs _ hr=>K.keep hr (f.step (fun k hk e=>.inr (hS k hk e)) (fun _ _ h=>h))),h.new,h.le⟩
theorem Gr.nil {α:Type} (K:Kd α) (w5 u:World) (M:Nat) (h:w5.heap.size<=M):Gr K w5 M u none 0 ([]:List α):=⟨OwnK.nil _ _,fun k hk=>(ownB_none k hk).elim,h⟩
theorem Gr.imm {α:Type} {K:Kd α} (hz : 0<K.size) {M:Nat} {B:Option Addr} {d:Nat} {l:List α} (h:Gr K w5 M u B d l):Imm K (Old w5) u B l:=by
  obtain ⟨⟨xs,ho,hr⟩,hn,hle⟩:=h
  exact Own.imm (K:=K) hz ho (fun k hk ho=>by have h1:=hn k hk;have ho:k<w5.heap.size:=ho;omega) (fun i a ha=>K.keep (hr i a ha) ⟨Nat.le_refl _,fun _ _ _=>rfl,fun k hk h=>.inr h⟩)
theorem DS.push {α:Type} {K:Kd α} {t e by_ M k:Nat} {zz:List Value} (T:SlT Tryz.prog t e K.size by_ zz) {ty e':TypeId} {B:Option Addr} {d:Nat} {l:List α} {y : α} {ys:List Value} (h:DS b A c w w5 v g g1 g2 s cs) (ho:Gr K w5 M v B d l)
    (hMv:M<=v.heap.size) (hk:k<cs.length) (hrep:(Kd.out (Old w5) K).rep (ownB B) v y ys) (h1:∀ x∈ys,x.oneCell'=true) (hl:l.length+1<=maxLen) (hl2:(l.length+1)*by_<=140737488355328) :
    ∃ B' d' v2,RunsTo Tryz.prog (Builtin.append_ #[t,t] ty #[.slice B l.length d,.slice (some ⟨v.heap.size,0,none⟩) 1 1]) (v.alloc (.cells ys.toArray e')) (.slice B' (l++[y]).length d') v2/\stOK ((⟨g2,0,none⟩:Addr).add k) 0 [.slice B' (l++[y]).length d'] v2 /\
      ∀ z,z=setAll ((⟨g2,0,none⟩:Addr).add k) 0 [.slice B' (l++[y]).length d'] v2->DS b A c w w5 z g g1 g2 s (cs.set k (.slice B' (l++[y]).length d'))/\Gr K w5 M z B' d' (l++[y])/\∀ u0,u0.heap.size=M->Fr (Old w5) u0 v->Fr (Old w5) u0 z:=by
  obtain ⟨B',d',v2,hrun,hown,hgr⟩:=OwnK.push (K:=Kd.out (Old w5) K) T (ty:=ty) ho.own hrep h1 (e':=e') hl hl2
  have hle:=ho.le
  have hvM:∀ k,ownB B' k->M<=k:=fun k hk=>(hgr.sub k hk).elim (fun h=>ho.new k h) (fun h2=>Nat.le_trans hMv h2)
  have h2:=h.fr hgr.fr (fun k hk hB=>by have:=ho.new k hB;omega)
  refine ⟨B',d',v2,hrun,cellOK h2.b2 hk,fun z hz=>?_⟩
  obtain ⟨h3,f3⟩:=h2.set hz
  refine ⟨h3,(Gr.fr (u:=v2) ⟨hown,hvM,hle⟩ f3 (fun k _ hk=>hk)),fun u0 hu0 f0=>?_⟩
  exact (f0.trans hgr.fr (fun _ _ h=>h) (fun k hk hB=>by have:=ho.new k hB;omega)).trans f3 (fun _ _ h=>h) (fun _ _ h=>h)
end
end Go.Proofs.YtaifphjenebgoaaGreatDoor
set_option linter.unusedVariables false
set_option linter.unusedSimpArgs false
namespace Go.Proofs.YtaifphjenebgoaaGreatDoor
open Go Go.Sx R1 K15
theorem frN {S:Nat->Prop} {u v z:World} {g:Nat} (F:Fr S u v) (hg:u.heap.size<=g) (q:Fr (At g) v z):Fr S u z:=F.trans q (fun _ _ h=>h) (fun k hk e=>by have e:k=g:=e;omega)
theorem adv_flagL (s:Option (List UInt8)):adv flagL s=adv numL s:=adv_map _ _ _
theorem Got.flagL {s:Option (List UInt8)} {x:Int} (h:Got numL s x):Got flagL s (decide (x=1)):=Got.map (fun n:Int=>decide (n=1)) h
theorem Got.untext {s:Option (List UInt8)} {y:ByteArray} (h:Got (textO 1048576) s y):Got (blobO 1048576) s (sb y):=fun l a e=>by
  cases s with
  | none=>cases e
  | some b =>
    simp only [Option.bind_some] at e
    have:=h ⟨l.toArray⟩ a (by simp only [Option.bind_some];unfold textO mapO;rw [e];rfl)
    rw [this];rfl
theorem num255_ok {s:Option (List UInt8)} {x:Int} (h:Got numL s x) (hx:x<=255):adv (numO 255) s=adv numL s/\Got (numO 255) s x:=by
  cases s with
  | none=>exact ⟨rfl,Got.bad rfl⟩
  | some b =>
    have key:numO 255 b=numL b:=by
      have h:=h
      unfold Got at h
      simp only [Option.bind_some] at h
      unfold numL numO at h ⊢
      cases hd:B1.dec 0 b with
      | short=>rfl
      | bad=>rfl
      | ok n k =>
        rw [hd] at h
        simp only at h ⊢
        have hM:bigM=1099511627776:=rfl
        by_cases h1:n<=bigM
        · rw [if_pos h1] at h ⊢
          have:=h _ _ rfl
          rw [if_pos (by omega)]
        · rw [if_neg h1,if_neg (by omega)]
    unfold adv Got at *
    simp only [Option.bind_some] at *
    rw [key]
    exact ⟨rfl,h⟩
theorem num255_bad {s:Option (List UInt8)} {x:Int} (h:Got numL s x) (hx : 255<x):adv (numO 255) s=none:=by
  cases s with
  | none=>rfl
  | some b =>
    have key:numO 255 b=none:=by
      have h:=h
      unfold Got at h
      simp only [Option.bind_some] at h
      unfold numL numO at h
      unfold numO
      cases hd:B1.dec 0 b with
      | short=>rfl
      | bad=>rfl
      | ok n k =>
        rw [hd] at h
        simp only at h ⊢
        have hM:bigM=1099511627776:=rfl
        by_cases h1:n<=bigM
        · rw [if_pos h1] at h
          have:=h _ _ rfl
          rw [if_neg (by omega)]
        · rw [if_neg (by omega)]
    exact adv_bad key
theorem limL_g {p:Prog} (h:LimL p):gProg p:=by
  have iN:∀ {n:Int},inN bigM n->isI n:=fun hn=>by
    have hM:bigM=1099511627776:=rfl
    unfold inN at hn;unfold isI;omega
  refine ⟨iN h.ver,iN h.regs,iN h.binds,fun s hs=>?_,fun v hv=>(h.consts v hv).2,fun c hc=>?_,fun s hs=>?_,fun t ht=>?_,fun i hi=>?_⟩
  · have:=h.names s hs;simp only [maxLen];omega
  · have:=h.curs c hc;unfold gCur;simp only [maxLen];omega
  · exact ⟨Nat.le_trans (h.sorts s hs).1 (by decide),iN (h.sorts s hs).2⟩
  · have:=h.tots t ht;unfold gTot;simp only [maxLen];omega
  · obtain ⟨h1,h2,h3,h4,h5⟩:=h.code i hi
    exact ⟨by unfold inN at h1;omega,iN h2,iN h3,iN h4,iN h5⟩
section
variable {b:List UInt8} {A:Option Addr} {c:Nat} {w:World}
set_option maxRecDepth 20000 in
set_option maxHeartbeats 8000000 in
theorem RRead_spec (hb:Imm KB NoB w A b) (hc:b.length<=c) (hl:b.length<=20000) :
    CallsV Tryz.prog 15 #[.slice A b.length c] w fun v w'=>∃ (q:Prog) (a:PAd) (e:Int),v=.tuple #[pagg q a,.int .i64 e]/\PIm w' q a/\Ext w w'/\((readO gV b=some q/\e=0)\/(readO gV b=none/\q=PZ/\e=140)):=by
  refine cardindexref15_Read.calls okay ?_
  unfold cardindexref15_Read.W
  have hb5:b.length<=100000:=by omega
  have hM:bigM=1099511627776:=rfl
  intro g w1 f0 g1 w2 f1
  have y0:=f0.ge
  have y1:=f1.ge
  have l0:=f0.lt
  have l1:=f1.lt
  have rd0:Rdr b A c w w2 g1 (some b):=⟨hb,hc,by omega,by have:=f0.ext.size;omega,f0.ext.trans' f1.ext,0,Nat.zero_le _,f1.blk,fun r hr=>by cases hr;rfl⟩
  have z0:Blk w2 g (pcs PZ AZ):=f0.blk.ext f1.ext
  refine (RNum_spec hb5 rd0).mono ?_
  rintro _ v1 ⟨x1,rfl,d1,k1,r1,h1⟩
  refine ⟨_,rfl,fun g2 w3 f3=>?_⟩
  have y3:=f3.ge
  have zv:=h1.size
  refine ⟨f3.blk.stOK (pcs ⟨x1,0,0,[],[],[],[],[],[]⟩ AZ) 0 (by simp),fun w5 hw5=>?_⟩
  obtain ⟨bp,q5⟩:=set0 f3.blk hw5 rfl
  have n2:∀ {k:Nat},k<g2->¬ At g2 k:=fun hk e=>by have e : _=g2:=e;omega
  have st:DS b A c w w5 w5 g g1 g2 (adv numL (some b)) (pcs ⟨x1,0,0,[],[],[],[],[],[]⟩ AZ) :=
    ⟨(d1.ex f3.ext).fr q5 (n2 (by omega)) (fun k hk=>n2 (by omega)),(((z0.keep h1 (fun e=>by have e:g=g1:=e;omega)).ext f3.ext).keep q5 (n2 (by omega))),bp,Nat.le_refl _,by omega,by omega,by omega,bp.lt⟩
  clear d1 rd0 z0 bp q5 hw5 f0 f1 f3
  refine (RNum_spec hb5 st.rd).mono ?_
  rintro _ v2 ⟨x2,rfl,d2,k2,r2,h2⟩
  obtain ⟨st,_⟩:=st.read h2 d2
  refine ⟨_,rfl,cellOK st.b2 (by simp),fun w6 hw6=>?_⟩
  obtain ⟨st,_⟩:=st.set hw6
  refine (RNum_spec hb5 st.rd).mono ?_
  rintro _ v3 ⟨x3,rfl,d3,k3,r3,h3⟩
  obtain ⟨st,_⟩:=st.read h3 d3
  refine ⟨_,rfl,cellOK st.b2 (by simp),fun w7 hw7=>?_⟩
  obtain ⟨st,_⟩:=st.set hw7
  obtain ⟨s3,hs3⟩:∃ s3,s3=adv numL (adv numL (adv numL (some b))):=⟨_,rfl⟩
  rw [<- hs3] at st
  have st:DS b A c w w5 w7 g g1 g2 s3 (pcs ⟨x1,x2,x3,[],[],[],[],[],[]⟩ AZ):=st
  clear d2 d3 h1 h2 h3 hw6 hw7
  -- names
  refine ⟨fun u=>(∃ (m:List ByteArray) (B:Option Addr) (d:Nat),DS b A c w w5 u g g1 g2 (adv (someO bigM (textO 1048576)) s3) (pcs ⟨x1,x2,x3,m,[],[],[],[],[]⟩ ⟨B,d,none,0,none,0,none,0,none,0,none,0⟩)/\Got (someO bigM (textO 1048576)) s3 m/\Imm Kd.str (Old w5) u B m/\m.length<=d/\m.length<=bigM),?_,?_⟩
  rotate_left
  · refine (RNum_spec hb5 st.rd).mono ?_
    rintro _ v0 ⟨n,rfl,d0,k0,hn,f0⟩
    obtain ⟨st,F0⟩:=st.read f0 d0
    refine ⟨_,rfl,?_⟩
    obtain ⟨s',hs'⟩:∃ s',s'=adv numL s3:=⟨_,rfl⟩
    rw [<- hs'] at st
    refine ⟨fun x u=>∃ (l:List ByteArray) (B:Option Addr) (d j:Nat) (s2:Option (List UInt8)),x=(j:Int)/\Lp (textO 1048576) s' n.toNat l s2 j/\DS b A c w w5 u g g1 g2 s2 (pcs ⟨x1,x2,x3,l,[],[],[],[],[]⟩ ⟨B,d,none,0,none,0,none,0,none,0,none,0⟩)/\Gr Kd.str w5 v0.heap.size u B d l/\Fr (Old w5) v0 u,fun x _=>x.toNat,⟨[],none,0,n.toNat,s',by omega,Lp.start _ _ _,st,Gr.nil _ _ _ _ st.le,.refl _ _⟩,?_⟩
    rintro _ u ⟨l,B,d,j,s2,rfl,lp,st,gr,F⟩
    have hlj:=lp.1
    have fin:(j=0\/s2=none)->(∃ (m:List ByteArray) (B:Option Addr) (d:Nat),DS b A c w w5 u g g1 g2 (adv (someO bigM (textO 1048576)) s3) (pcs ⟨x1,x2,x3,m,[],[],[],[],[]⟩ ⟨B,d,none,0,none,0,none,0,none,0,none,0⟩)/\Got (someO bigM (textO 1048576)) s3 m/\Imm Kd.str (Old w5) u B m/\m.length<=d/\m.length<=bigM):=fun hd=>by
      obtain ⟨e1,q1⟩:=lp.done hd
      exact ⟨l,B,d,by rw [adv_some (show Got (numO bigM) s3 n from k0),show adv (numO bigM) s3=s' from hs'.symm,<- e1];exact st,Got.some (show Got (numO bigM) s3 n from k0) (by rw [show adv (numO bigM) s3=s' from hs'.symm];exact q1),gr.imm KStr_pos,gr.own.le,by omega⟩
    refine brd (fun hj=>?_) (fun hj=>fin (.inl (by omega)))
    obtain ⟨a0,ha0,bk,hst0⟩:=st.rd.st
    refine ⟨_,rfl,_,bk.cell rfl,brnb (fun hf=>?_) (fun ht=>fin (.inr (by cases s2 with|none=>rfl|some x=>cases ht)))⟩
    · clear fin
      have kd:Ext u u.drew:=Fr.drew NoB u
      have hlen:l.length+1<=1099511627776:=by omega
      refine ⟨fun z=>Blk z g2 (pcs ⟨x1,x2,x3,l,[],[],[],[],[]⟩ ⟨B,d,none,0,none,0,none,0,none,0,none,0⟩),st.b2.ext kd,_,_,_,fun z bz=>bz.cell rfl,?_⟩
      refine (RText_spec hb5 (st.ex kd).rd).mono ?_
      rintro _ v2 ⟨y,rfl,hy,rd2,q2,f2⟩
      obtain ⟨st2,F2⟩:=(st.ex kd).read f2 rd2
      have gr2:=(gr.fr (kd.fr (S:=NoB)) (fun _ _ h=>h.elim)).fr F2 (fun _ _ h=>h)
      have FF2:Fr (Old w5) v0 v2:=(F.ext kd.fr).trans F2 (fun _ _ h=>h) (fun _ _ h=>h)
      refine ⟨_,rfl,st2.b2,fun g3 v3 f3=>⟨st2.b2.ext f3.ext,?_⟩⟩
      obtain ⟨rfl,rfl⟩:=f3
      obtain ⟨B',d',v4,hrun,hok,hset⟩:=DS.push (K:=Kd.str) slE_string (ty:=22) (e':=9) st2 gr2 (FF2.size) (k:=3) (by simp) (y:=y) (ys:=[.string y]) rfl (by
        intro v hv
        simp only [List.mem_cons,List.not_mem_nil,or_false] at hv
        rcases hv with rfl<;>rfl) (Nat.le_trans hlen (by decide)) (Nat.le_trans (Nat.mul_le_mul_right _ hlen) (by decide))
      refine ⟨_,_,_,_,hrun,hok,fun z hz=>?_⟩
      obtain ⟨st9,gr9,F9⟩:=hset z hz
      rw [wi ((j:Int)-1) (by omega) (by omega)]
      exact ⟨⟨l++[y],B',d',j-1,_,by omega,lp.step hf (by omega) rfl q2,st9,gr9,F9 v0 rfl FF2⟩,by dsimp only;omega⟩
  rintro u0 ⟨m0,D0,c0,st,kk0,i0,hd0,hm0⟩
  obtain ⟨t0,ht0⟩:∃ t,t=adv (someO bigM (textO 1048576)) s3:=⟨_,rfl⟩
  rw [<- ht0] at st
  -- consts
  refine ⟨fun u=>(∃ (m:List V) (B:Option Addr) (d:Nat),DS b A c w w5 u g g1 g2 (adv (someO bigM (K15.constO gV)) t0) (pcs ⟨x1,x2,x3,m0,m,[],[],[],[]⟩ ⟨D0,c0,B,d,none,0,none,0,none,0,none,0⟩)/\Got (someO bigM (K15.constO gV)) t0 m/\Imm KV (Old w5) u B m/\m.length<=d/\m.length<=bigM/\Imm Kd.str (Old w5) u D0 m0),?_,?_⟩
  rotate_left
  · refine (RNum_spec hb5 st.rd).mono ?_
    rintro _ v0 ⟨n,rfl,d0,k0,hn,f0⟩
    obtain ⟨st,F0⟩:=st.read f0 d0
    refine ⟨_,rfl,?_⟩
    obtain ⟨s',hs'⟩:∃ s',s'=adv numL t0:=⟨_,rfl⟩
    rw [<- hs'] at st
    refine ⟨fun x u=>∃ (l:List V) (B:Option Addr) (d j:Nat) (s2:Option (List UInt8)),x=(j:Int)/\Lp (K15.constO gV) s' n.toNat l s2 j/\DS b A c w w5 u g g1 g2 s2 (pcs ⟨x1,x2,x3,m0,l,[],[],[],[]⟩ ⟨D0,c0,B,d,none,0,none,0,none,0,none,0⟩)/\Gr KV w5 v0.heap.size u B d l/\Fr (Old w5) v0 u,fun x _=>x.toNat,⟨[],none,0,n.toNat,s',by omega,Lp.start _ _ _,st,Gr.nil _ _ _ _ st.le,.refl _ _⟩,?_⟩
    rintro _ u ⟨l,B,d,j,s2,rfl,lp,st,gr,F⟩
    have hlj:=lp.1
    have fin:(j=0\/s2=none)->(∃ (m:List V) (B:Option Addr) (d:Nat),DS b A c w w5 u g g1 g2 (adv (someO bigM (K15.constO gV)) t0) (pcs ⟨x1,x2,x3,m0,m,[],[],[],[]⟩ ⟨D0,c0,B,d,none,0,none,0,none,0,none,0⟩)/\Got (someO bigM (K15.constO gV)) t0 m/\Imm KV (Old w5) u B m/\m.length<=d/\m.length<=bigM/\Imm Kd.str (Old w5) u D0 m0):=fun hd=>by
      obtain ⟨e1,q1⟩:=lp.done hd
      exact ⟨l,B,d,by rw [adv_some (show Got (numO bigM) t0 n from k0),show adv (numO bigM) t0=s' from hs'.symm,<- e1];exact st,Got.some (show Got (numO bigM) t0 n from k0) (by rw [show adv (numO bigM) t0=s' from hs'.symm];exact q1),gr.imm KV_pos,gr.own.le,by omega,imm_fr KStr_pos i0 (F0.trans F (fun _ _ h=>h) (fun _ _ h=>h))⟩
    refine brd (fun hj=>?_) (fun hj=>fin (.inl (by omega)))
    obtain ⟨a0,ha0,bk,hst0⟩:=st.rd.st
    refine ⟨_,rfl,_,bk.cell rfl,brnb (fun hf=>?_) (fun ht=>fin (.inr (by cases s2 with|none=>rfl|some x=>cases ht)))⟩
    · clear fin
      have kd:Ext u u.drew:=Fr.drew NoB u
      have hlen:l.length+1<=1099511627776:=by omega
      refine (RText_spec hb5 st.rd).mono ?_
      rintro _ v2 ⟨y1,rfl,hy,rd2,q2,f2⟩
      obtain ⟨st,F2⟩:=st.read f2 rd2
      have qb:=Got.untext q2
      obtain ⟨Bq,dq,v3,hrq,hoq,e3,_,_⟩:=to_bytes bt v2 y1 (by simp only [maxLen];omega)
      refine ⟨_,rfl,_,_,_,_,hrq,?_⟩
      refine (GetR_spec (by rw [sb_length]) hoq.imm0 (by rw [sb_length];omega) hoq.le).mono ?_
      rintro _ v4 ⟨Cq,eq_,rfl,hC,e4,_⟩
      have st:=(st.ex e3).ex e4
      have FU:=(F2.ext e3.fr).ext e4.fr
      cases hp:getP (sb y1) with
      | none =>
        have hr:getR (sb y1)=([],10):=by unfold getR;rw [hp]
        have hg:gV (sb y1)=none:=by unfold gV;rw [hp]
        refine ⟨_,_,_,_,rfl,brn (fun _=>?_) (fun h0=>by rw [hr] at h0;cases h0)⟩
        refine ⟨_,rfl,st.rd.failOK (.refl _ _) _,fun vf hvf=>?_⟩
        obtain ⟨rdf,ff⟩:=st.rd.fail (.refl _ _) hvf
        obtain ⟨stf,Ff⟩:=st.read ff rdf
        have FF:=FU.trans Ff (fun _ _ h=>h) (fun _ _ h=>h)
        rw [wi ((j:Int)-1) (by omega) (by omega)]
        exact ⟨⟨l,B,d,j-1,none,by omega,lp.fail hf (by omega) (constO_bad qb hg),stf,gr.fr FF (fun _ _ h=>h),F.trans FF (fun _ _ h=>h) (fun _ _ h=>h)⟩,by dsimp only;omega⟩
      | some row =>
        have hr:getR (sb y1)=(row,0):=by unfold getR;rw [hp]
        rw [hr] at hC ⊢
        refine ⟨_,_,_,_,rfl,brn (fun h0=>absurd rfl h0) (fun _=>brn (fun h1=>?_) (fun h1=>?_))⟩
        · have hg:gV (sb y1)=none:=by
            unfold gV;rw [hp]
            match row,h1 with
            | [],_=>rfl
            | [v],h1=>exact absurd rfl h1
            | _::_::_,_=>rfl
          refine ⟨_,rfl,st.rd.failOK (.refl _ _) _,fun vf hvf=>?_⟩
          obtain ⟨rdf,ff⟩:=st.rd.fail (.refl _ _) hvf
          obtain ⟨stf,Ff⟩:=st.read ff rdf
          have FF:=FU.trans Ff (fun _ _ h=>h) (fun _ _ h=>h)
          rw [wi ((j:Int)-1) (by omega) (by omega)]
          exact ⟨⟨l,B,d,j-1,none,by omega,lp.fail hf (by omega) (constO_bad qb hg),stf,gr.fr FF (fun _ _ h=>h),F.trans FF (fun _ _ h=>h) (fun _ _ h=>h)⟩,by dsimp only;omega⟩
        obtain ⟨y,rfl⟩:∃ v,row=[v]:=by
          match row,h1 with
          | [v],_=>exact ⟨v,rfl⟩
          | [],h1=>cases h1
          | _::_::r,h1=>simp only [List.length_cons] at h1;omega
        have hg:gV (sb y1)=some y:=by unfold gV;rw [hp]
        obtain ⟨ad,rfl,cs,hrep,hcell⟩:=at1 (hC.imm KV_pos) (j:=0) (by simp)
        obtain rfl:cs=vc y:=hrep
        have kd4:Ext v4 v4.drew:=Fr.drew NoB v4
        refine ⟨fun z=>Ext v4 z,kd4,_,_,_,fun z k=>(st.b2.ext k).cell rfl,ad,rfl,⟨by omega,by simp⟩,_,fun z k=>hcell z k 0 _ rfl,_,fun z k=>hcell z k 1 _ rfl,_,fun z k=>hcell z k 2 _ rfl,fun g9 v9 f9=>⟨kd4.trans' f9.ext,?_⟩⟩
        obtain ⟨rfl,rfl⟩:=f9
        have st:=st.ex kd4
        have FU:=FU.ext kd4.fr
        have gr:=gr.fr FU (fun _ _ h=>h)
        have FF:=F.trans FU (fun _ _ h=>h) (fun _ _ h=>h)
        obtain ⟨B',d',v4,hrun,hok,hset⟩:=DS.push (K:=KV) slE_api_Value (ty:=23) (e':=54) st gr (FF.size) (k:=4) (by simp) (y:=y) (ys:=[.int .u8 y.k,.int .i64 y.n,.string y.s]) rfl (by
          intro v hv
          simp only [List.mem_cons,List.not_mem_nil,or_false] at hv
          rcases hv with rfl|rfl|rfl<;>rfl) (Nat.le_trans hlen (by decide)) (Nat.le_trans (Nat.mul_le_mul_right _ hlen) (by decide))
        refine ⟨_,_,_,_,hrun,hok,fun z hz=>?_⟩
        obtain ⟨st9,gr9,F9⟩:=hset z hz
        rw [wi ((j:Int)-1) (by omega) (by omega)]
        exact ⟨⟨l++[y],B',d',j-1,_,by omega,lp.step hf (by omega) (by rw [(constO_ok qb hg).1,adv_text]) (constO_ok qb hg).2,st9,gr9,F9 v0 rfl FF⟩,by dsimp only;omega⟩
  rintro u1 ⟨m1,D1,c1,st,kk1,i1,hd1,hm1,i0⟩
  obtain ⟨t1,ht1⟩:∃ t,t=adv (someO bigM (K15.constO gV)) t0:=⟨_,rfl⟩
  rw [<- ht1] at st
  -- curs
  refine ⟨fun u=>(∃ (m:List Cur) (B:Option Addr) (d:Nat),DS b A c w w5 u g g1 g2 (adv (someO bigM curL) t1) (pcs ⟨x1,x2,x3,m0,m1,m,[],[],[]⟩ ⟨D0,c0,D1,c1,B,d,none,0,none,0,none,0⟩)/\Got (someO bigM curL) t1 m/\Imm KCur (Old w5) u B m/\m.length<=d/\m.length<=bigM/\Imm Kd.str (Old w5) u D0 m0/\Imm KV (Old w5) u D1 m1),?_,?_⟩
  rotate_left
  · refine (RNum_spec hb5 st.rd).mono ?_
    rintro _ v0 ⟨n,rfl,d0,k0,hn,f0⟩
    obtain ⟨st,F0⟩:=st.read f0 d0
    refine ⟨_,rfl,?_⟩
    obtain ⟨s',hs'⟩:∃ s',s'=adv numL t1:=⟨_,rfl⟩
    rw [<- hs'] at st
    refine ⟨fun x u=>∃ (l:List Cur) (B:Option Addr) (d j:Nat) (s2:Option (List UInt8)),x=(j:Int)/\Lp curL s' n.toNat l s2 j/\DS b A c w w5 u g g1 g2 s2 (pcs ⟨x1,x2,x3,m0,m1,l,[],[],[]⟩ ⟨D0,c0,D1,c1,B,d,none,0,none,0,none,0⟩)/\Gr KCur w5 v0.heap.size u B d l/\Fr (Old w5) v0 u,fun x _=>x.toNat,⟨[],none,0,n.toNat,s',by omega,Lp.start _ _ _,st,Gr.nil _ _ _ _ st.le,.refl _ _⟩,?_⟩
    rintro _ u ⟨l,B,d,j,s2,rfl,lp,st,gr,F⟩
    have hlj:=lp.1
    have fin:(j=0\/s2=none)->(∃ (m:List Cur) (B:Option Addr) (d:Nat),DS b A c w w5 u g g1 g2 (adv (someO bigM curL) t1) (pcs ⟨x1,x2,x3,m0,m1,m,[],[],[]⟩ ⟨D0,c0,D1,c1,B,d,none,0,none,0,none,0⟩)/\Got (someO bigM curL) t1 m/\Imm KCur (Old w5) u B m/\m.length<=d/\m.length<=bigM/\Imm Kd.str (Old w5) u D0 m0/\Imm KV (Old w5) u D1 m1):=fun hd=>by
      obtain ⟨e1,q1⟩:=lp.done hd
      exact ⟨l,B,d,by rw [adv_some (show Got (numO bigM) t1 n from k0),show adv (numO bigM) t1=s' from hs'.symm,<- e1];exact st,Got.some (show Got (numO bigM) t1 n from k0) (by rw [show adv (numO bigM) t1=s' from hs'.symm];exact q1),gr.imm KCur_pos,gr.own.le,by omega,imm_fr KStr_pos i0 (F0.trans F (fun _ _ h=>h) (fun _ _ h=>h)),imm_fr KV_pos i1 (F0.trans F (fun _ _ h=>h) (fun _ _ h=>h))⟩
    refine brd (fun hj=>?_) (fun hj=>fin (.inl (by omega)))
    obtain ⟨a0,ha0,bk,hst0⟩:=st.rd.st
    refine ⟨_,rfl,_,bk.cell rfl,brnb (fun hf=>?_) (fun ht=>fin (.inr (by cases s2 with|none=>rfl|some x=>cases ht)))⟩
    · clear fin
      have kd:Ext u u.drew:=Fr.drew NoB u
      have hlen:l.length+1<=1099511627776:=by omega
      refine (RText_spec hb5 st.rd).mono ?_
      rintro _ v2 ⟨y1,rfl,hy,rd2,q2,f2⟩
      obtain ⟨st,F2⟩:=st.read f2 rd2
      have FU:=F2
      refine ⟨_,rfl,fun g3 v3 f3=>?_⟩
      have y3:u.heap.size<=g3:=Nat.le_trans F2.size f3.ge
      have y5:w5.heap.size<=g3:=Nat.le_trans st.le f3.ge
      have g31 : ¬ At g1 g3:=fun e=>by have e:g3=g1:=e;have:=st.o2;have:=st.o4;omega
      have st:=st.ex f3.ext
      have FU:=FU.ext f3.ext.fr
      refine ⟨f3.blk.stOK [.string y1,.bool false,.bool false] 0 (by simp),fun v4 hv4=>?_⟩
      obtain ⟨bx,q4⟩:=set0 f3.blk hv4 rfl
      have nw:∀ k,k<w5.heap.size->¬ At g3 k:=fun k hk e=>by have e:k=g3:=e;omega
      have st:=st.fr q4 nw
      have FU:=frN FU y3 q4
      refine (RNum_spec hb5 st.rd).mono ?_
      rintro _ w1a ⟨n1,rfl,rd1,qn1,rn1,fn1⟩
      obtain ⟨st,Fn1⟩:=st.read fn1 rd1
      have FU:=FU.trans Fn1 (fun _ _ h=>h) (fun _ _ h=>h)
      have bx:=bx.keep fn1 g31
      refine ⟨_,rfl,cellOK bx (by simp),fun w1b hw1=>?_⟩
      obtain ⟨bx,qx1⟩:=cellSet bx hw1
      have st:=st.fr qx1 nw
      have FU:=frN FU y3 qx1
      refine (RNum_spec hb5 st.rd).mono ?_
      rintro _ w2a ⟨n2,rfl,rd2,qn2,rn2,fn2⟩
      obtain ⟨st,Fn2⟩:=st.read fn2 rd2
      have FU:=FU.trans Fn2 (fun _ _ h=>h) (fun _ _ h=>h)
      have bx:=bx.keep fn2 g31
      refine ⟨_,rfl,cellOK bx (by simp),fun w2b hw2=>?_⟩
      obtain ⟨bx,qx2⟩:=cellSet bx hw2
      have st:=st.fr qx2 nw
      have FU:=frN FU y3 qx2
      refine ⟨_,_,_,st.b2.cell rfl,_,bx.cell rfl,_,bx.cell rfl,_,bx.cell rfl,fun g9 v9 f9=>?_⟩
      obtain ⟨rfl,rfl⟩:=f9
      have gr:=gr.fr FU (fun _ _ h=>h)
      have FF:=F.trans FU (fun _ _ h=>h) (fun _ _ h=>h)
      obtain ⟨y,hy0⟩:∃ y:Cur,y=⟨y1,decide (n1=1),decide (n2=1)⟩:=⟨_,rfl⟩
      obtain ⟨B',d',v4,hrun,hok,hset⟩:=DS.push (K:=KCur) slE_api_Cur (ty:=24) (e':=56) st gr (FF.size) (k:=5) (by simp) (y:=y) (ys:=[.string y1,.bool (decide (n1=1)),.bool (decide (n2=1))]) (by subst hy0;rfl) (by
        intro v hv
        simp only [List.mem_cons,List.not_mem_nil,or_false] at hv
        rcases hv with rfl|rfl|rfl<;>rfl) (Nat.le_trans hlen (by decide)) (Nat.le_trans (Nat.mul_le_mul_right _ hlen) (by decide))
      refine ⟨_,_,_,_,hrun,hok,fun z hz=>?_⟩
      obtain ⟨st9,gr9,F9⟩:=hset z hz
      rw [wi ((j:Int)-1) (by omega) (by omega)]
      exact ⟨⟨l++[y],B',d',j-1,_,by omega,lp.step hf (by omega) (by unfold curL;rw [adv_map,adv_seq,adv_seq,adv_flagL,adv_flagL]) (by rw [hy0];exact Got.map (fun z:ByteArray×(Bool×Bool)=>(⟨z.1,z.2.1,z.2.2⟩:Cur)) (q2.seq (Got.seq (Got.flagL qn1) (by rw [adv_flagL];exact (Got.flagL qn2))))),st9,gr9,F9 v0 rfl FF⟩,by dsimp only;omega⟩
  rintro u2 ⟨m2,D2,c2,st,kk2,i2,hd2,hm2,i0,i1⟩
  obtain ⟨t2,ht2⟩:∃ t,t=adv (someO bigM curL) t1:=⟨_,rfl⟩
  rw [<- ht2] at st
  -- sorts
  refine ⟨fun u=>(∃ (m:List Srt) (B:Option Addr) (d:Nat),DS b A c w w5 u g g1 g2 (adv (someO bigM srtL) t2) (pcs ⟨x1,x2,x3,m0,m1,m2,m,[],[]⟩ ⟨D0,c0,D1,c1,D2,c2,B,d,none,0,none,0⟩)/\Got (someO bigM srtL) t2 m/\Imm KSrt (Old w5) u B m/\m.length<=d/\m.length<=bigM/\Imm Kd.str (Old w5) u D0 m0/\Imm KV (Old w5) u D1 m1/\Imm KCur (Old w5) u D2 m2),?_,?_⟩
  rotate_left
  · refine (RNum_spec hb5 st.rd).mono ?_
    rintro _ v0 ⟨n,rfl,d0,k0,hn,f0⟩
    obtain ⟨st,F0⟩:=st.read f0 d0
    refine ⟨_,rfl,?_⟩
    obtain ⟨s',hs'⟩:∃ s',s'=adv numL t2:=⟨_,rfl⟩
    rw [<- hs'] at st
    refine ⟨fun x u=>∃ (l:List Srt) (B:Option Addr) (d j:Nat) (s2:Option (List UInt8)),x=(j:Int)/\Lp srtL s' n.toNat l s2 j/\DS b A c w w5 u g g1 g2 s2 (pcs ⟨x1,x2,x3,m0,m1,m2,l,[],[]⟩ ⟨D0,c0,D1,c1,D2,c2,B,d,none,0,none,0⟩)/\Gr KSrt w5 v0.heap.size u B d l/\Fr (Old w5) v0 u,fun x _=>x.toNat,⟨[],none,0,n.toNat,s',by omega,Lp.start _ _ _,st,Gr.nil _ _ _ _ st.le,.refl _ _⟩,?_⟩
    rintro _ u ⟨l,B,d,j,s2,rfl,lp,st,gr,F⟩
    have hlj:=lp.1
    have fin:(j=0\/s2=none)->(∃ (m:List Srt) (B:Option Addr) (d:Nat),DS b A c w w5 u g g1 g2 (adv (someO bigM srtL) t2) (pcs ⟨x1,x2,x3,m0,m1,m2,m,[],[]⟩ ⟨D0,c0,D1,c1,D2,c2,B,d,none,0,none,0⟩)/\Got (someO bigM srtL) t2 m/\Imm KSrt (Old w5) u B m/\m.length<=d/\m.length<=bigM/\Imm Kd.str (Old w5) u D0 m0/\Imm KV (Old w5) u D1 m1/\Imm KCur (Old w5) u D2 m2):=fun hd=>by
      obtain ⟨e1,q1⟩:=lp.done hd
      exact ⟨l,B,d,by rw [adv_some (show Got (numO bigM) t2 n from k0),show adv (numO bigM) t2=s' from hs'.symm,<- e1];exact st,Got.some (show Got (numO bigM) t2 n from k0) (by rw [show adv (numO bigM) t2=s' from hs'.symm];exact q1),gr.imm KSrt_pos,gr.own.le,by omega,imm_fr KStr_pos i0 (F0.trans F (fun _ _ h=>h) (fun _ _ h=>h)),imm_fr KV_pos i1 (F0.trans F (fun _ _ h=>h) (fun _ _ h=>h)),imm_fr KCur_pos i2 (F0.trans F (fun _ _ h=>h) (fun _ _ h=>h))⟩
    refine brd (fun hj=>?_) (fun hj=>fin (.inl (by omega)))
    obtain ⟨a0,ha0,bk,hst0⟩:=st.rd.st
    refine ⟨_,rfl,_,bk.cell rfl,brnb (fun hf=>?_) (fun ht=>fin (.inr (by cases s2 with|none=>rfl|some x=>cases ht)))⟩
    · clear fin
      have kd:Ext u u.drew:=Fr.drew NoB u
      have hlen:l.length+1<=1099511627776:=by omega
      refine fun g3 v3 f3=>?_
      have y3:u.heap.size<=g3:=f3.ge
      have y5:w5.heap.size<=g3:=Nat.le_trans st.le f3.ge
      have l3:=f3.lt
      have g31 : ¬ At g1 g3:=fun e=>by have e:g3=g1:=e;have:=st.o2;have:=st.o4;omega
      have nw:∀ k,k<w5.heap.size->¬ At g3 k:=fun k hk e=>by have e:k=g3:=e;omega
      have st:=st.ex f3.ext
      have FU:Fr (Old w5) u v3:=f3.ext.fr
      have o2':=st.o2
      have o4':=st.o4
      refine ⟨fun z=>∃ (m:List Bool) (B1:Option Addr) (d1:Nat),DS b A c w w5 z g g1 g2 (adv (someO bigM flagL) s2) (pcs ⟨x1,x2,x3,m0,m1,m2,l,[],[]⟩ ⟨D0,c0,D1,c1,D2,c2,B,d,none,0,none,0⟩)/\Got (someO bigM flagL) s2 m/\Blk z g3 [.slice B1 m.length d1,.int .i64 0,.bool false]/\OwnK Kd.bool z B1 d1 m/\(∀ k,ownB B1 k->v3.heap.size<=k)/\Fr (Old w5) u z,?_,?_⟩
      rotate_left
      · refine (RNum_spec hb5 st.rd).mono ?_
        rintro _ v4 ⟨nn,rfl,rd4,k4,hnn,f4⟩
        obtain ⟨st4,F4⟩:=st.read f4 rd4
        have bx4:=f3.blk.keep f4 g31
        have FU4:=FU.trans F4 (fun _ _ h=>h) (fun _ _ h=>h)
        refine ⟨_,rfl,?_⟩
        obtain ⟨s5,hs5⟩:∃ s5,s5=adv numL s2:=⟨_,rfl⟩
        rw [<- hs5] at st4
        refine ⟨fun x z=>∃ (m:List Bool) (B1:Option Addr) (d1 i:Nat) (s6:Option (List UInt8)),x=(i:Int)/\Lp flagL s5 nn.toNat m s6 i/\DS b A c w w5 z g g1 g2 s6 (pcs ⟨x1,x2,x3,m0,m1,m2,l,[],[]⟩ ⟨D0,c0,D1,c1,D2,c2,B,d,none,0,none,0⟩)/\Blk z g3 [.slice B1 m.length d1,.int .i64 0,.bool false]/\OwnK Kd.bool z B1 d1 m/\(∀ k,ownB B1 k->v3.heap.size<=k)/\Fr (Old w5) u z/\v3.heap.size<=z.heap.size,fun x _=>x.toNat,
          ⟨[],none,0,nn.toNat,s5,by omega,Lp.start _ _ _,st4,bx4,OwnK.nil _ _,fun k hk=>(ownB_none k hk).elim,FU4,f4.size⟩,?_⟩
        rintro _ z ⟨m,B1,d1,i,s6,rfl,lp2,stz,bz,oz,nz,Fz,zz⟩
        have hmi:=lp2.1
        have fin2:(i=0\/s6=none)->(∃ (m:List Bool) (B1:Option Addr) (d1:Nat),DS b A c w w5 z g g1 g2 (adv (someO bigM flagL) s2) (pcs ⟨x1,x2,x3,m0,m1,m2,l,[],[]⟩ ⟨D0,c0,D1,c1,D2,c2,B,d,none,0,none,0⟩)/\Got (someO bigM flagL) s2 m/\Blk z g3 [.slice B1 m.length d1,.int .i64 0,.bool false]/\OwnK Kd.bool z B1 d1 m/\(∀ k,ownB B1 k->v3.heap.size<=k)/\Fr (Old w5) u z):=fun hd=>by
          obtain ⟨e1,q1⟩:=lp2.done hd
          exact ⟨m,B1,d1,by rw [adv_some (show Got (numO bigM) s2 nn from k4),show adv (numO bigM) s2=s5 from hs5.symm,<- e1];exact stz,Got.some (show Got (numO bigM) s2 nn from k4) (by rw [show adv (numO bigM) s2=s5 from hs5.symm];exact q1),bz,oz,nz,Fz⟩
        refine brd (fun hi=>?_) (fun hi=>fin2 (.inl (by omega)))
        obtain ⟨a1,ha1,bk1,_⟩:=stz.rd.st
        refine ⟨_,rfl,_,bk1.cell rfl,brnb (fun hf2=>?_) (fun ht=>fin2 (.inr (by cases s6 with|none=>rfl|some x=>cases ht)))⟩
        clear fin2
        have hlen2:m.length+1<=1099511627776:=by omega
        have kz:Ext z z.drew:=Fr.drew NoB z
        refine ⟨fun y=>Blk y g3 [.slice B1 m.length d1,.int .i64 0,.bool false],bz.ext kz,_,_,_,fun y hy=>hy.cell rfl,?_⟩
        refine (RNum_spec hb5 (stz.ex kz).rd).mono ?_
        rintro _ z1 ⟨fl,rfl,rdz,qz,_,fz⟩
        obtain ⟨stz1,Fz1⟩:=(stz.ex kz).read fz rdz
        have bz1:=(bz.ext kz).keep fz g31
        have vw:w5.heap.size<=v3.heap.size:=st.le
        have oz1:OwnK Kd.bool z1 B1 d1 m:=(oz.ext kz).fr fz (fun k hk e=>by have:=nz k hk;have e:k=g1:=e;omega) (fun a cs _ hr=>hr)
        refine ⟨_,rfl,bz1,fun g5 z2 f5=>⟨bz1.ext f5.ext,?_⟩⟩
        obtain ⟨rfl,rfl⟩:=f5
        obtain ⟨B2,d2,z3,hrun,oz3,hgr⟩:=OwnK.push (K:=Kd.bool) slE_bool (ty:=57) oz1 (a:=decide (fl=1)) (cs:=[.bool (decide (fl=1))]) rfl (by
          intro v hv
          simp only [List.mem_cons,List.not_mem_nil,or_false] at hv
          rcases hv with rfl<;>rfl) (e':=4) (Nat.le_trans hlen2 (by decide)) (Nat.le_trans (Nat.mul_le_mul_right _ hlen2) (by decide))
        have bz3:Blk z3 g3 [.slice B1 m.length d1,.int .i64 0,.bool false]:=bz1.keep hgr.fr (fun hB=>by have:=nz g3 hB;omega)
        have stz3:=stz1.fr hgr.fr (fun k hk hB=>by have:=nz k hB;omega)
        have zz1:v3.heap.size<=z1.heap.size:=Nat.le_trans zz (Nat.le_trans kz.size fz.size)
        have nz2:∀ k,ownB B2 k->v3.heap.size<=k:=fun k hk=>(hgr.sub k hk).elim (fun h=>nz k h) (fun h=>Nat.le_trans zz1 h)
        refine ⟨_,_,_,_,hrun,cellOK bz3 (by simp),fun z4 hz4=>?_⟩
        obtain ⟨bz4,q4⟩:=cellSet bz3 hz4
        have FF3:Fr (Old w5) u z3:=((Fz.ext kz.fr).trans Fz1 (fun _ _ h=>h) (fun _ _ h=>h)).trans hgr.fr (fun _ _ h=>h) (fun k hk hB=>by have:=nz k hB;have:=f3.ext.size;omega)
        rw [wi ((i:Int)-1) (by omega) (by omega)]
        exact ⟨⟨m++[decide (fl=1)],B2,d2,i-1,_,by omega,lp2.step hf2 (by omega) (by rw [adv_flagL]) (Got.flagL qz),stz3.fr q4 nw,bz4,oz3.fr q4 (fun k hk e=>by have:=nz2 k hk;have e:k=g3:=e;omega) (fun a cs _ hr=>hr),nz2,frN FF3 y3 q4,Nat.le_trans zz1 (Nat.le_trans hgr.fr.size q4.size)⟩,by dsimp only;omega⟩
      rintro z ⟨m,B1,d1,st,qm,bx,oz,nz,FU⟩
      have hmd:=oz.le
      have im0:Imm Kd.bool (fun k=>k<v3.heap.size) z B1 m:=by
        obtain ⟨xs,hox,hrx⟩:=oz
        exact Own.imm (K:=Kd.bool) (by decide) hox (fun k hk ho=>by have h1:=nz k hk;have ho:k<v3.heap.size:=ho;omega) (fun i a ha=>hrx i a ha)
      have ik:∀ {p q:World},Fr (At g1) p q->Imm Kd.bool (fun k=>k<v3.heap.size) p B1 m->Imm Kd.bool (fun k=>k<v3.heap.size) q B1 m:=fun f hi=>hi.keep (by decide) (f.step (fun k _ e=>by have e:k=g1:=e;show k<v3.heap.size;omega) (fun _ _ h=>h))
      have ik3:∀ {p q:World},Fr (At g3) p q->Imm Kd.bool (fun k=>k<v3.heap.size) p B1 m->Imm Kd.bool (fun k=>k<v3.heap.size) q B1 m:=fun f hi=>hi.keep (by decide) (f.step (fun k _ e=>by have e:k=g3:=e;show k<v3.heap.size;omega) (fun _ _ h=>h))
      refine (RNum_spec hb5 st.rd).mono ?_
      rintro _ w1a ⟨n1,rfl,rd1,qn1,rn1,fn1⟩
      obtain ⟨st,Fn1⟩:=st.read fn1 rd1
      have FU:=FU.trans Fn1 (fun _ _ h=>h) (fun _ _ h=>h)
      have bx:=bx.keep fn1 g31
      refine ⟨_,rfl,cellOK bx (by simp),fun w1b hw1=>?_⟩
      obtain ⟨bx,qx1⟩:=cellSet bx hw1
      have st:=st.fr qx1 nw
      have FU:=frN FU y3 qx1
      refine (RNum_spec hb5 st.rd).mono ?_
      rintro _ w2a ⟨n2,rfl,rd2,qn2,rn2,fn2⟩
      obtain ⟨st,Fn2⟩:=st.read fn2 rd2
      have FU:=FU.trans Fn2 (fun _ _ h=>h) (fun _ _ h=>h)
      have bx:=bx.keep fn2 g31
      refine ⟨_,rfl,cellOK bx (by simp),fun w2b hw2=>?_⟩
      obtain ⟨bx,qx2⟩:=cellSet bx hw2
      have st:=st.fr qx2 nw
      have FU:=frN FU y3 qx2
      have im1:=ik3 qx2 (ik fn2 (ik3 qx1 (ik fn1 im0)))
      have gl:=gr.own.lt
      have vu:=f3.ext.size
      have vw:w5.heap.size<=v3.heap.size:=by omega
      have im2:Imm Kd.bool (fun k=>ownB B k\/Old w5 k) w2b B1 m:=im1.keep (by decide) ⟨Nat.le_refl _,fun _ _ _=>rfl,fun k _ hk=>hk.elim (fun hB=>by have:=gl k hB;show k<v3.heap.size;omega) (fun hw=>by have hw:k<w5.heap.size:=hw;show k<v3.heap.size;omega)⟩
      refine ⟨_,_,_,st.b2.cell rfl,_,_,_,bx.cell rfl,_,bx.cell rfl,_,bx.cell rfl,fun g9 v9 f9=>?_⟩
      obtain ⟨rfl,rfl⟩:=f9
      have gr:=gr.fr FU (fun _ _ h=>h)
      have FF:=F.trans FU (fun _ _ h=>h) (fun _ _ h=>h)
      obtain ⟨y,hy0⟩:∃ y:Srt,y=⟨m,n1,decide (n2=1)⟩:=⟨_,rfl⟩
      obtain ⟨B',d',v4,hrun,hok,hset⟩:=DS.push (K:=KSrt) slE_api_Sort (ty:=25) (e':=59) st gr (FF.size) (k:=6) (by simp) (y:=y) (ys:=[.slice B1 m.length d1,.int .i64 n1,.bool (decide (n2=1))]) (by subst hy0;exact ⟨B1,d1,rfl,hmd,im2⟩) (by
        intro v hv
        simp only [List.mem_cons,List.not_mem_nil,or_false] at hv
        rcases hv with rfl|rfl|rfl<;>rfl) (Nat.le_trans hlen (by decide)) (Nat.le_trans (Nat.mul_le_mul_right _ hlen) (by decide))
      refine ⟨_,_,_,_,hrun,hok,fun z hz=>?_⟩
      obtain ⟨st9,gr9,F9⟩:=hset z hz
      rw [wi ((j:Int)-1) (by omega) (by omega)]
      exact ⟨⟨l++[y],B',d',j-1,_,by omega,lp.step hf (by omega) (by unfold srtL;rw [adv_map,adv_seq,adv_seq,adv_flagL]) (by rw [hy0];exact Got.map (fun z:List Bool×(Int×Bool)=>(⟨z.1,z.2.1,z.2.2⟩:Srt)) (qm.seq (Got.seq qn1 (Got.flagL qn2)))),st9,gr9,F9 v0 rfl FF⟩,by dsimp only;omega⟩
  rintro u3 ⟨m3,D3,c3,st,kk3,i3,hd3,hm3,i0,i1,i2⟩
  obtain ⟨t3,ht3⟩:∃ t,t=adv (someO bigM srtL) t2:=⟨_,rfl⟩
  rw [<- ht3] at st
  -- tots
  refine ⟨fun u=>(∃ (m:List Tot) (B:Option Addr) (d:Nat),DS b A c w w5 u g g1 g2 (adv (someO bigM totL) t3) (pcs ⟨x1,x2,x3,m0,m1,m2,m3,m,[]⟩ ⟨D0,c0,D1,c1,D2,c2,D3,c3,B,d,none,0⟩)/\Got (someO bigM totL) t3 m/\Imm KTot (Old w5) u B m/\m.length<=d/\m.length<=bigM/\Imm Kd.str (Old w5) u D0 m0/\Imm KV (Old w5) u D1 m1/\Imm KCur (Old w5) u D2 m2/\Imm KSrt (Old w5) u D3 m3),?_,?_⟩
  rotate_left
  · refine (RNum_spec hb5 st.rd).mono ?_
    rintro _ v0 ⟨n,rfl,d0,k0,hn,f0⟩
    obtain ⟨st,F0⟩:=st.read f0 d0
    refine ⟨_,rfl,?_⟩
    obtain ⟨s',hs'⟩:∃ s',s'=adv numL t3:=⟨_,rfl⟩
    rw [<- hs'] at st
    refine ⟨fun x u=>∃ (l:List Tot) (B:Option Addr) (d j:Nat) (s2:Option (List UInt8)),x=(j:Int)/\Lp totL s' n.toNat l s2 j/\DS b A c w w5 u g g1 g2 s2 (pcs ⟨x1,x2,x3,m0,m1,m2,m3,l,[]⟩ ⟨D0,c0,D1,c1,D2,c2,D3,c3,B,d,none,0⟩)/\Gr KTot w5 v0.heap.size u B d l/\Fr (Old w5) v0 u,fun x _=>x.toNat,⟨[],none,0,n.toNat,s',by omega,Lp.start _ _ _,st,Gr.nil _ _ _ _ st.le,.refl _ _⟩,?_⟩
    rintro _ u ⟨l,B,d,j,s2,rfl,lp,st,gr,F⟩
    have hlj:=lp.1
    have fin:(j=0\/s2=none)->(∃ (m:List Tot) (B:Option Addr) (d:Nat),DS b A c w w5 u g g1 g2 (adv (someO bigM totL) t3) (pcs ⟨x1,x2,x3,m0,m1,m2,m3,m,[]⟩ ⟨D0,c0,D1,c1,D2,c2,D3,c3,B,d,none,0⟩)/\Got (someO bigM totL) t3 m/\Imm KTot (Old w5) u B m/\m.length<=d/\m.length<=bigM/\Imm Kd.str (Old w5) u D0 m0/\Imm KV (Old w5) u D1 m1/\Imm KCur (Old w5) u D2 m2/\Imm KSrt (Old w5) u D3 m3):=fun hd=>by
      obtain ⟨e1,q1⟩:=lp.done hd
      exact ⟨l,B,d,by rw [adv_some (show Got (numO bigM) t3 n from k0),show adv (numO bigM) t3=s' from hs'.symm,<- e1];exact st,Got.some (show Got (numO bigM) t3 n from k0) (by rw [show adv (numO bigM) t3=s' from hs'.symm];exact q1),gr.imm KTot_pos,gr.own.le,by omega,imm_fr KStr_pos i0 (F0.trans F (fun _ _ h=>h) (fun _ _ h=>h)),imm_fr KV_pos i1 (F0.trans F (fun _ _ h=>h) (fun _ _ h=>h)),imm_fr KCur_pos i2 (F0.trans F (fun _ _ h=>h) (fun _ _ h=>h)),imm_fr KSrt_pos i3 (F0.trans F (fun _ _ h=>h) (fun _ _ h=>h))⟩
    refine brd (fun hj=>?_) (fun hj=>fin (.inl (by omega)))
    obtain ⟨a0,ha0,bk,hst0⟩:=st.rd.st
    refine ⟨_,rfl,_,bk.cell rfl,brnb (fun hf=>?_) (fun ht=>fin (.inr (by cases s2 with|none=>rfl|some x=>cases ht)))⟩
    · clear fin
      have kd:Ext u u.drew:=Fr.drew NoB u
      have hlen:l.length+1<=1099511627776:=by omega
      refine (RText_spec hb5 st.rd).mono ?_
      rintro _ v2 ⟨y1,rfl,hy,rd2,q2,f2⟩
      obtain ⟨st,F2⟩:=st.read f2 rd2
      have FU:=F2
      refine ⟨_,rfl,fun g3 v3 f3=>?_⟩
      have y3:u.heap.size<=g3:=Nat.le_trans F2.size f3.ge
      have y5:w5.heap.size<=g3:=Nat.le_trans st.le f3.ge
      have g31 : ¬ At g1 g3:=fun e=>by have e:g3=g1:=e;have:=st.o2;have:=st.o4;omega
      have st:=st.ex f3.ext
      have FU:=FU.ext f3.ext.fr
      refine ⟨f3.blk.stOK [.string y1,.bool false] 0 (by simp),fun v4 hv4=>?_⟩
      obtain ⟨bx,q4⟩:=set0 f3.blk hv4 rfl
      have nw:∀ k,k<w5.heap.size->¬ At g3 k:=fun k hk e=>by have e:k=g3:=e;omega
      have st:=st.fr q4 nw
      have FU:=frN FU y3 q4
      refine (RNum_spec hb5 st.rd).mono ?_
      rintro _ w1a ⟨n1,rfl,rd1,qn1,rn1,fn1⟩
      obtain ⟨st,Fn1⟩:=st.read fn1 rd1
      have FU:=FU.trans Fn1 (fun _ _ h=>h) (fun _ _ h=>h)
      have bx:=bx.keep fn1 g31
      refine ⟨_,rfl,cellOK bx (by simp),fun w1b hw1=>?_⟩
      obtain ⟨bx,qx1⟩:=cellSet bx hw1
      have st:=st.fr qx1 nw
      have FU:=frN FU y3 qx1
      refine ⟨_,_,_,st.b2.cell rfl,_,bx.cell rfl,_,bx.cell rfl,fun g9 v9 f9=>?_⟩
      obtain ⟨rfl,rfl⟩:=f9
      have gr:=gr.fr FU (fun _ _ h=>h)
      have FF:=F.trans FU (fun _ _ h=>h) (fun _ _ h=>h)
      obtain ⟨y,hy0⟩:∃ y:Tot,y=⟨y1,decide (n1=1)⟩:=⟨_,rfl⟩
      obtain ⟨B',d',v4,hrun,hok,hset⟩:=DS.push (K:=KTot) slE_api_Acc (ty:=26) (e':=61) st gr (FF.size) (k:=7) (by simp) (y:=y) (ys:=[.string y1,.bool (decide (n1=1))]) (by subst hy0;rfl) (by
        intro v hv
        simp only [List.mem_cons,List.not_mem_nil,or_false] at hv
        rcases hv with rfl|rfl<;>rfl) (Nat.le_trans hlen (by decide)) (Nat.le_trans (Nat.mul_le_mul_right _ hlen) (by decide))
      refine ⟨_,_,_,_,hrun,hok,fun z hz=>?_⟩
      obtain ⟨st9,gr9,F9⟩:=hset z hz
      rw [wi ((j:Int)-1) (by omega) (by omega)]
      exact ⟨⟨l++[y],B',d',j-1,_,by omega,lp.step hf (by omega) (by unfold totL;rw [adv_map,adv_seq,adv_flagL]) (by rw [hy0];exact Got.map (fun z:ByteArray×Bool=>(⟨z.1,z.2⟩:Tot)) (q2.seq (Got.flagL qn1))),st9,gr9,F9 v0 rfl FF⟩,by dsimp only;omega⟩
  rintro u4 ⟨m4,D4,c4,st,kk4,i4,hd4,hm4,i0,i1,i2,i3⟩
  obtain ⟨t4,ht4⟩:∃ t,t=adv (someO bigM totL) t3:=⟨_,rfl⟩
  rw [<- ht4] at st
  -- code
  refine ⟨fun u=>(∃ (m:List Ins) (B:Option Addr) (d:Nat),DS b A c w w5 u g g1 g2 (adv (someO bigM insO) t4) (pcs ⟨x1,x2,x3,m0,m1,m2,m3,m4,m⟩ ⟨D0,c0,D1,c1,D2,c2,D3,c3,D4,c4,B,d⟩)/\Got (someO bigM insO) t4 m/\Imm KIns (Old w5) u B m/\m.length<=d/\m.length<=bigM/\Imm Kd.str (Old w5) u D0 m0/\Imm KV (Old w5) u D1 m1/\Imm KCur (Old w5) u D2 m2/\Imm KSrt (Old w5) u D3 m3/\Imm KTot (Old w5) u D4 m4),?_,?_⟩
  rotate_left
  · refine (RNum_spec hb5 st.rd).mono ?_
    rintro _ v0 ⟨n,rfl,d0,k0,hn,f0⟩
    obtain ⟨st,F0⟩:=st.read f0 d0
    refine ⟨_,rfl,?_⟩
    obtain ⟨s',hs'⟩:∃ s',s'=adv numL t4:=⟨_,rfl⟩
    rw [<- hs'] at st
    refine ⟨fun x u=>∃ (l:List Ins) (B:Option Addr) (d j:Nat) (s2:Option (List UInt8)),x=(j:Int)/\Lp insO s' n.toNat l s2 j/\DS b A c w w5 u g g1 g2 s2 (pcs ⟨x1,x2,x3,m0,m1,m2,m3,m4,l⟩ ⟨D0,c0,D1,c1,D2,c2,D3,c3,D4,c4,B,d⟩)/\Gr KIns w5 v0.heap.size u B d l/\Fr (Old w5) v0 u,fun x _=>x.toNat,⟨[],none,0,n.toNat,s',by omega,Lp.start _ _ _,st,Gr.nil _ _ _ _ st.le,.refl _ _⟩,?_⟩
    rintro _ u ⟨l,B,d,j,s2,rfl,lp,st,gr,F⟩
    have hlj:=lp.1
    have fin:(j=0\/s2=none)->(∃ (m:List Ins) (B:Option Addr) (d:Nat),DS b A c w w5 u g g1 g2 (adv (someO bigM insO) t4) (pcs ⟨x1,x2,x3,m0,m1,m2,m3,m4,m⟩ ⟨D0,c0,D1,c1,D2,c2,D3,c3,D4,c4,B,d⟩)/\Got (someO bigM insO) t4 m/\Imm KIns (Old w5) u B m/\m.length<=d/\m.length<=bigM/\Imm Kd.str (Old w5) u D0 m0/\Imm KV (Old w5) u D1 m1/\Imm KCur (Old w5) u D2 m2/\Imm KSrt (Old w5) u D3 m3/\Imm KTot (Old w5) u D4 m4):=fun hd=>by
      obtain ⟨e1,q1⟩:=lp.done hd
      exact ⟨l,B,d,by rw [adv_some (show Got (numO bigM) t4 n from k0),show adv (numO bigM) t4=s' from hs'.symm,<- e1];exact st,Got.some (show Got (numO bigM) t4 n from k0) (by rw [show adv (numO bigM) t4=s' from hs'.symm];exact q1),gr.imm KIns_pos,gr.own.le,by omega,imm_fr KStr_pos i0 (F0.trans F (fun _ _ h=>h) (fun _ _ h=>h)),imm_fr KV_pos i1 (F0.trans F (fun _ _ h=>h) (fun _ _ h=>h)),imm_fr KCur_pos i2 (F0.trans F (fun _ _ h=>h) (fun _ _ h=>h)),imm_fr KSrt_pos i3 (F0.trans F (fun _ _ h=>h) (fun _ _ h=>h)),imm_fr KTot_pos i4 (F0.trans F (fun _ _ h=>h) (fun _ _ h=>h))⟩
    refine brd (fun hj=>?_) (fun hj=>fin (.inl (by omega)))
    obtain ⟨a0,ha0,bk,hst0⟩:=st.rd.st
    refine ⟨_,rfl,_,bk.cell rfl,brnb (fun hf=>?_) (fun ht=>fin (.inr (by cases s2 with|none=>rfl|some x=>cases ht)))⟩
    · clear fin
      have kd:Ext u u.drew:=Fr.drew NoB u
      have hlen:l.length+1<=1099511627776:=by omega
      refine (RNum_spec hb5 st.rd).mono ?_
      rintro _ v2 ⟨op,rfl,rd2,q2,rop,f2⟩
      obtain ⟨st,F2⟩:=st.read f2 rd2
      refine ⟨_,rfl,?_⟩
      refine (RNum_spec hb5 st.rd).mono ?_
      rintro _ v2a ⟨n1,rfl,rd2a,qn1,rn1,f2a⟩
      obtain ⟨st,F2a⟩:=st.read f2a rd2a
      have FU:=F2.trans F2a (fun _ _ h=>h) (fun _ _ h=>h)
      refine ⟨_,rfl,fun g3 v3 f3=>?_⟩
      have y3:u.heap.size<=g3:=Nat.le_trans FU.size f3.ge
      have y5:w5.heap.size<=g3:=Nat.le_trans st.le f3.ge
      have g31 : ¬ At g1 g3:=fun e=>by have e:g3=g1:=e;have:=st.o2;have:=st.o4;omega
      have st:=st.ex f3.ext
      have FU:=FU.ext f3.ext.fr
      refine ⟨f3.blk.stOK [.int .u8 (IntKind.u8.wrap op),.int .i64 n1,.int .i64 0,.int .i64 0,.int .i64 0] 0 (by simp),fun v4 hv4=>?_⟩
      obtain ⟨bx,q4⟩:=set0 f3.blk hv4 rfl
      have nw:∀ k,k<w5.heap.size->¬ At g3 k:=fun k hk e=>by have e:k=g3:=e;omega
      have st:=st.fr q4 nw
      have FU:=frN FU y3 q4
      refine (RNum_spec hb5 st.rd).mono ?_
      rintro _ w2a ⟨n2,rfl,rd2,qn2,rn2,fn2⟩
      obtain ⟨st,Fn2⟩:=st.read fn2 rd2
      have FU:=FU.trans Fn2 (fun _ _ h=>h) (fun _ _ h=>h)
      have bx:=bx.keep fn2 g31
      refine ⟨_,rfl,cellOK bx (by simp),fun w2b hw2=>?_⟩
      obtain ⟨bx,qx2⟩:=cellSet bx hw2
      have st:=st.fr qx2 nw
      have FU:=frN FU y3 qx2
      refine (RNum_spec hb5 st.rd).mono ?_
      rintro _ w3a ⟨n3,rfl,rd3,qn3,rn3,fn3⟩
      obtain ⟨st,Fn3⟩:=st.read fn3 rd3
      have FU:=FU.trans Fn3 (fun _ _ h=>h) (fun _ _ h=>h)
      have bx:=bx.keep fn3 g31
      refine ⟨_,rfl,cellOK bx (by simp),fun w3b hw3=>?_⟩
      obtain ⟨bx,qx3⟩:=cellSet bx hw3
      have st:=st.fr qx3 nw
      have FU:=frN FU y3 qx3
      refine (RNum_spec hb5 st.rd).mono ?_
      rintro _ w4a ⟨n4,rfl,rd4,qn4,rn4,fn4⟩
      obtain ⟨st,Fn4⟩:=st.read fn4 rd4
      have FU:=FU.trans Fn4 (fun _ _ h=>h) (fun _ _ h=>h)
      have bx:=bx.keep fn4 g31
      refine ⟨_,rfl,cellOK bx (by simp),fun w4b hw4=>?_⟩
      obtain ⟨bx,qx4⟩:=cellSet bx hw4
      have st:=st.fr qx4 nw
      have FU:=frN FU y3 qx4
      refine brd (fun hop=>?_) (fun hop=>?_)
      · refine ⟨_,rfl,st.rd.failOK (.refl _ _) _,fun vf hvf=>?_⟩
        obtain ⟨rdf,ff⟩:=st.rd.fail (.refl _ _) hvf
        obtain ⟨st,Ff⟩:=st.read ff rdf
        have FU:=FU.trans Ff (fun _ _ h=>h) (fun _ _ h=>h)
        have bx:=bx.keep ff g31
        refine ⟨_,_,_,st.b2.cell rfl,_,bx.cell rfl,_,bx.cell rfl,_,bx.cell rfl,_,bx.cell rfl,_,bx.cell rfl,fun g9 v9 f9=>?_⟩
        obtain ⟨rfl,rfl⟩:=f9
        have gr:=gr.fr FU (fun _ _ h=>h)
        have FF:=F.trans FU (fun _ _ h=>h) (fun _ _ h=>h)
        obtain ⟨y,hy0⟩:∃ y:Ins,y=⟨IntKind.u8.wrap op,n1,n2,n3,n4⟩:=⟨_,rfl⟩
        obtain ⟨B',d',v4,hrun,hok,hset⟩:=DS.push (K:=KIns) slE_api_Instr (ty:=27) (e':=46) st gr (FF.size) (k:=8) (by simp) (y:=y) (ys:=[.int .u8 (IntKind.u8.wrap op),.int .i64 n1,.int .i64 n2,.int .i64 n3,.int .i64 n4]) (by subst hy0;rfl) (by
          intro v hv
          simp only [List.mem_cons,List.not_mem_nil,or_false] at hv
          rcases hv with rfl|rfl|rfl|rfl|rfl<;>rfl) (Nat.le_trans hlen (by decide)) (Nat.le_trans (Nat.mul_le_mul_right _ hlen) (by decide))
        refine ⟨_,_,_,_,hrun,hok,fun z hz=>?_⟩
        obtain ⟨st9,gr9,F9⟩:=hset z hz
        rw [wi ((j:Int)-1) (by omega) (by omega)]
        exact ⟨⟨l++[y],B',d',j-1,_,by omega,lp.step hf (by omega) (by unfold insO;rw [adv_map,adv_seq,num255_bad q2 hop];rfl) (Got.bad (by unfold insO;rw [adv_map,adv_seq,num255_bad q2 hop];rfl)),st9,gr9,F9 v0 rfl FF⟩,by dsimp only;omega⟩
      · have hw:IntKind.u8.wrap op=op:=w8 op (by omega) (by omega)
        have hok:=num255_ok q2 (by omega)
        rw [hw] at bx
        refine ⟨_,_,_,st.b2.cell rfl,_,bx.cell rfl,_,bx.cell rfl,_,bx.cell rfl,_,bx.cell rfl,_,bx.cell rfl,fun g9 v9 f9=>?_⟩
        obtain ⟨rfl,rfl⟩:=f9
        have gr:=gr.fr FU (fun _ _ h=>h)
        have FF:=F.trans FU (fun _ _ h=>h) (fun _ _ h=>h)
        obtain ⟨y,hy0⟩:∃ y:Ins,y=⟨op,n1,n2,n3,n4⟩:=⟨_,rfl⟩
        obtain ⟨B',d',v4,hrun,hokS,hset⟩:=DS.push (K:=KIns) slE_api_Instr (ty:=27) (e':=46) st gr (FF.size) (k:=8) (by simp) (y:=y) (ys:=[.int .u8 op,.int .i64 n1,.int .i64 n2,.int .i64 n3,.int .i64 n4]) (by subst hy0;rfl) (by
          intro v hv
          simp only [List.mem_cons,List.not_mem_nil,or_false] at hv
          rcases hv with rfl|rfl|rfl|rfl|rfl<;>rfl) (Nat.le_trans hlen (by decide)) (Nat.le_trans (Nat.mul_le_mul_right _ hlen) (by decide))
        refine ⟨_,_,_,_,hrun,hokS,fun z hz=>?_⟩
        obtain ⟨st9,gr9,F9⟩:=hset z hz
        rw [wi ((j:Int)-1) (by omega) (by omega)]
        exact ⟨⟨l++[y],B',d',j-1,_,by omega,lp.step hf (by omega) (by unfold insO;rw [adv_map,adv_seq,adv_seq,adv_seq,adv_seq,hok.1];rfl) (by rw [hy0];exact Got.map (fun z:Int×(Int×(Int×(Int×Int)))=>(⟨z.1,z.2.1,z.2.2.1,z.2.2.2.1,z.2.2.2.2⟩:Ins)) (hok.2.seq (Got.seq (by rw [hok.1];exact qn1) (Got.seq (by rw [hok.1];exact qn2) (Got.seq (by rw [hok.1];exact qn3) (by rw [hok.1];exact qn4)))))),st9,gr9,F9 v0 rfl FF⟩,by dsimp only;omega⟩
  rintro u5 ⟨m5,D5,c5,st,kk5,i5,hd5,hm5,i0,i1,i2,i3,i4⟩
  obtain ⟨t5,ht5⟩:∃ t,t=adv (someO bigM insO) t4:=⟨_,rfl⟩
  rw [<- ht5] at st
  have got:Got progL (some b) ⟨x1,x2,x3,m0,m1,m2,m3,m4,m5⟩:=Got.map ofT (x:=(x1,(x2,(x3,(m0,(m1,(m2,(m3,(m4,m5))))))))) (Got.seq k1 (Got.seq k2 (Got.seq k3 (Got.seq (by rw [<- hs3];exact kk0) (Got.seq (by rw [<- hs3,<- ht0];exact kk1) (Got.seq (by rw [<- hs3,<- ht0,<- ht1];exact kk2) (Got.seq (by rw [<- hs3,<- ht0,<- ht1,<- ht2];exact kk3) (Got.seq (by rw [<- hs3,<- ht0,<- ht1,<- ht2,<- ht3];exact kk4) (by rw [<- hs3,<- ht0,<- ht1,<- ht2,<- ht3,<- ht4];exact kk5)))))))))
  have hadv:adv progL (some b)=t5:=by
    unfold progL
    rw [adv_map,adv_seq,adv_seq,adv_seq,adv_seq,adv_seq,adv_seq,adv_seq,adv_seq,<- hs3,<- ht0,<- ht1,<- ht2,<- ht3,<- ht4,<- ht5]
  have hp:∀ z,Fr (Old w5) u5 z->PIm z ⟨x1,x2,x3,m0,m1,m2,m3,m4,m5⟩ ⟨D0,c0,D1,c1,D2,c2,D3,c3,D4,c4,D5,c5⟩:=fun z f=>⟨imm_no KStr_pos (imm_fr KStr_pos i0 f),imm_no KV_pos (imm_fr KV_pos i1 f),imm_no KCur_pos (imm_fr KCur_pos i2 f),imm_no KSrt_pos (imm_fr KSrt_pos i3 f),imm_no KTot_pos (imm_fr KTot_pos i4 f),imm_no KIns_pos (imm_fr KIns_pos i5 f),
    by simp only [maxLen];omega,by simp only [maxLen];omega,by simp only [maxLen];omega,by simp only [maxLen];omega,by simp only [maxLen];omega,by simp only [maxLen];omega,hd5⟩
  have rd:=st.rd
  have b0:=st.b0
  have b3:=st.b2
  have w0g:=st.o0
  have og:=st.o1
  have og2:=st.o2
  have og4:=st.o4
  have ew:=rd.ext
  generalize (⟨x1,x2,x3,m0,m1,m2,m3,m4,m5⟩:Prog)=p at *
  generalize (⟨D0,c0,D1,c1,D2,c2,D3,c3,D4,c4,D5,c5⟩:PAd)=a at *
  clear st i0 i1 i2 i3 i4 i5 kk0 kk1 kk2 kk3 kk4 kk5 k1 k2 k3
  have key:∀ q,readO gV b=some q->progL b=some (q,[])/\bytesR constE q=(b,0):=fun q hq=>by
    obtain ⟨hbe,hbl,hck,lim⟩:=read_canon fg hq
    refine ⟨?_,?_⟩
    · have:=pl_prog.back q [] lim
      rw [List.append_nil,<- hbe] at this
      exact this
    · unfold bytesR
      rw [if_neg (by rw [hck];decide),bytesE_P lim,<- hbe,if_neg (by omega)]
  have none_:∀ (u:World) (e:Ext w u) (bz:Blk u g (pcs PZ AZ)),(∀ q,readO gV b=some q->False)->stOK ⟨g,0,none⟩ 0 (pcs PZ AZ) u/\∀ z,z=setAll ⟨g,0,none⟩ 0 (pcs PZ AZ) u->Blk z g (pcs PZ AZ) /\
      ∃ (q:Prog) (a:PAd) (e:Int),Value.tuple #[pagg PZ AZ,.int .i64 140]=.tuple #[pagg q a,.int .i64 e]/\PIm z q a/\Ext w z/\((readO gV b=some q/\e=0)\/(readO gV b=none/\q=PZ/\e=140)):=fun u e bz hn=>by
    have hn:readO gV b=none:=by
      cases hq:readO gV b with
      | none=>rfl
      | some q=>exact (hn q hq).elim
    refine ⟨bz.stOK _ 0 (by simp),fun z hz=>?_⟩
    obtain ⟨b1,f1⟩:=set0 bz hz rfl
    exact ⟨b1,PZ,AZ,140,rfl,PIm.zero z,e.trans f1 (fun _ _ h=>h) (fun k hk e=>by have e:k=g:=e;omega),.inr ⟨hn,rfl,rfl⟩⟩
  obtain ⟨at_,hat,bk,hrest⟩:=rd.st
  refine ⟨_,rfl,_,bk.cell rfl,br (fun hbad=>?_) (fun hbad=>?_)⟩
  · obtain ⟨n1,n2⟩:=none_ u5 ew b0 (fun q hq=>by
      have:=(key q hq).1
      rw [adv_ok this] at hadv
      rw [<- hadv] at hbad;cases hbad)
    refine ⟨n1,fun z hz=>?_⟩
    obtain ⟨b1,n3⟩:=n2 z hz
    repeat (first|refine ⟨_,Blk.cell (b1) (by rfl),?_⟩|refine ⟨_,_,_,Blk.cell (b1) (by rfl),?_⟩)
    exact n3
  obtain ⟨y,hy⟩:∃ y,progL b=some y:=by
    cases hq:progL b with
    | none=>rw [adv_bad hq] at hadv;rw [<- hadv] at hbad;cases hbad
    | some y=>exact ⟨y,rfl⟩
  obtain rfl:p=y.1:=got y.1 y.2 hy
  have gp:gProg y.1:=limL_g (pl_prog.bnd b y.1 y.2 hy)
  have same:∀ q,readO gV b=some q->bytesR constE y.1=(b,0):=fun q hq=>by
    obtain ⟨h1,h2⟩:=key q hq
    rw [hy] at h1
    have h1:=Option.some.inj h1
    rw [h1];exact h2
  repeat (first|refine ⟨_,Blk.cell (b3) (by rfl),?_⟩|refine ⟨_,_,_,Blk.cell (b3) (by rfl),?_⟩)
  refine (RBytes_spec (hp u5 (.refl _ _)) gp).mono ?_
  rintro _ v ⟨X,cX,rfl,hX,k,_⟩
  have b0:=b0.ext k
  have b3:=b3.ext k
  have ev:=ew.trans' k
  refine ⟨_,_,_,_,rfl,brn (fun hne=>?_) (fun h0=>?_)⟩
  · obtain ⟨n1,n2⟩:=none_ v ev b0 (fun q hq=>hne (by rw [same q hq]))
    refine ⟨n1,fun z hz=>?_⟩
    obtain ⟨b1,n3⟩:=n2 z hz
    repeat (first|refine ⟨_,Blk.cell (b1) (by rfl),?_⟩|refine ⟨_,_,_,Blk.cell (b1) (by rfl),?_⟩)
    exact n3
  refine ⟨_,_,to_str bt (hX.imm (Ω:=NoB) (fun _ _ h=>h)) cX,_,_,to_str bt (hb.ext KB_pos ev) c,brnS (fun hne=>?_) (fun heq=>?_)⟩
  · obtain ⟨n1,n2⟩:=none_ v ev b0 (fun q hq=>hne (by rw [same q hq]))
    refine ⟨n1,fun z hz=>?_⟩
    obtain ⟨b1,n3⟩:=n2 z hz
    repeat (first|refine ⟨_,Blk.cell (b1) (by rfl),?_⟩|refine ⟨_,_,_,Blk.cell (b1) (by rfl),?_⟩)
    exact n3
  repeat (first|refine ⟨_,Blk.cell (b3) (by rfl),?_⟩|refine ⟨_,_,_,Blk.cell (b3) (by rfl),?_⟩)
  refine ⟨b0.stOK (pcs y.1 a) 0 (by simp),fun z hz=>?_⟩
  obtain ⟨b1,f1⟩:=set0 b0 hz (by simp)
  have ez:=ev.trans f1 (fun _ _ h=>h) (fun k hk e=>by have e:k=g:=e;omega)
  repeat (first|refine ⟨_,Blk.cell (b1) (by rfl),?_⟩|refine ⟨_,_,_,Blk.cell (b1) (by rfl),?_⟩)
  refine ⟨y.1,a,0,rfl,hp z ((k.fr (S:=Old w5)).trans f1 (fun _ _ h=>h) (fun k _ e=>by have e:k=g:=e;show k<w5.heap.size;omega)),ez,.inl ⟨?_,rfl⟩⟩
  obtain ⟨lim,hck,hw,hlen,_⟩:=wrote gp h0
  rw [hw] at heq
  have:=read_back fg lim hck hlen
  rwa [heq] at this
end
end Go.Proofs.YtaifphjenebgoaaGreatDoor
set_option linter.unusedVariables false
set_option linter.unusedSimpArgs false
namespace K15
open Go
/-! digits -/
/-! words of no blank -/
def tailS:List (List UInt8)->List UInt8
  | []=>[]
  | t::l=>32::(t++tailS l)
/-! no two blanks -/
/-! how an instruction is shown -/
def wordsL:List (List UInt8):=[[99,111,110,115,116],[98,105,110,100],[109,111,118,101],[116,119,111],[111,110,101],[105,115],[99,97,115,116],[99,97,108,108],[109,117,115,116],[106,117,109,112],[105,102],[100,105,102,102,101,114],[102,105,114,115,116],[115,101,101,107],[110,101,120,116],[112,97,115,116],[102,105,110,100],[99,111,108],[114,111,119,105,100],[97,100,100],[115,111,114,116,101,100],[97,102,116,101,114],[116,97,107,101],[99,108,101,97,114],[115,116,101,112],[116,111,116,97,108],[114,111,119],[110,101,119,105,100],[105,110,115,101,114,116],[100,101,108,101,116,101],[100,101,102,105,110,101],[98,101,103,105,110],[99,111,109,109,105,116],[98,97,99,107],[104,97,108,116]]
def wordO (o:Int):List UInt8:=if 1<=o/\o<=35 then wordsL.getD (o-1).toNat [] else []
def wordP (o:Int):List UInt8:=if wordO o=[] then [111,112]++Lib.itoa o else wordO o
def showP (i:Ins):List UInt8:=wordP i.op++tailS [Lib.itoa i.a,Lib.itoa i.b,Lib.itoa i.c,Lib.itoa i.d]
def okW (t:List UInt8):Bool:=decide (t≠[]) && (t.all (fun x=>!Lib.isSp x) && (decide (t.take 2≠[111,112]) && (decide (t.length<=7) && t.all (fun x=>decide (x.toNat<128)))))
theorem words_ok:wordsL.all okW=true:=by decide +kernel
theorem words_get {k:Nat} (h:k<35):okW (wordsL.getD k [])=true:=by
  have hk:k<wordsL.length:=h
  rw [List.getD_eq_getElem?_getD,List.getElem?_eq_getElem hk,Option.getD_some]
  exact List.all_eq_true.1 words_ok _ (List.getElem_mem hk)
theorem wordO_in {o:Int} (h : 1<=o/\o<=35):wordO o≠[]/\(∀ x∈wordO o,Lib.isSp x=false)/\(wordO o).take 2≠[111,112]/\(wordO o).length<=7/\(∀ x∈wordO o,x.toNat<128):=by
  unfold wordO
  rw [if_pos h]
  have:=words_get (k:=(o-1).toNat) (by omega)
  unfold okW at this
  simp only [Bool.and_eq_true,decide_eq_true_eq,List.all_eq_true,Bool.not_eq_true'] at this
  exact ⟨this.1,this.2.1,this.2.2.1,this.2.2.2.1,this.2.2.2.2⟩
theorem wordO_out {o:Int} (h : ¬ (1<=o/\o<=35)):wordO o=[]:=by unfold wordO;rw [if_neg h]
theorem wordP_in {o:Int} (h : 1<=o/\o<=35):wordP o=wordO o:=by unfold wordP;rw [if_neg (wordO_in h).1]
theorem wordP_out {o:Int} (h : ¬ (1<=o/\o<=35)):wordP o=[111,112]++Lib.itoa o:=by unfold wordP;rw [if_pos (wordO_out h)]
theorem itoa_len {n:Int} (h : -9223372036854775808<=n/\n<=9223372036854775807):(Lib.itoa n).length<=21:=Lib.itoa_length_le n h.1 h.2
theorem word_len {o:Int} (h : 0<=o/\o<256):(wordP o).length<=23:=by
  by_cases h1 : 1<=o/\o<=35
  · rw [wordP_in h1];have:=(wordO_in h1).2.2.2.1;omega
  · rw [wordP_out h1];have:=itoa_len (n:=o) ⟨by omega,by omega⟩;simp only [List.length_append,List.length_cons,List.length_nil];omega
def numsL (i:Ins):List (List UInt8):=[Lib.itoa i.a,Lib.itoa i.b,Lib.itoa i.c,Lib.itoa i.d]
def showK (i:Ins) (k:Nat):List UInt8:=wordP i.op++tailS ((numsL i).take k)
theorem showK_zero (i:Ins):showK i 0=wordP i.op:=by simp [showK,tailS]
theorem tailS_append (l:List (List UInt8)) (t:List UInt8):tailS (l++[t])=tailS l++32::t:=by
  induction l with
  | nil=>simp [tailS]
  | cons x l ih=>simp [tailS,ih]
theorem showK_step (i:Ins) {k:Nat} {t:List UInt8} (h:(numsL i)[k]?=some t):showK i (k+1)=showK i k++([32]++t):=by
  unfold showK
  rw [List.take_add_one,h,Option.toList_some,tailS_append,List.append_assoc];rfl
theorem tailS_len:∀ (l:List (List UInt8)) (n:Nat),(∀ t∈l,t.length<=n)->(tailS l).length<=l.length*(n+1)
  | [],n,_=>by simp [tailS]
  | t::l,n,h=>by
    have h1:=tailS_len l n (fun y hy=>h y (by simp [hy]))
    have h2:=h t (by simp)
    simp only [tailS,List.length_cons,List.length_append,Nat.add_mul] at *
    omega
structure okI (i:Ins):Prop where
  op : 0<=i.op/\i.op<256
  a : -9223372036854775808<=i.a/\i.a<=9223372036854775807
  b : -9223372036854775808<=i.b/\i.b<=9223372036854775807
  c : -9223372036854775808<=i.c/\i.c<=9223372036854775807
  d : -9223372036854775808<=i.d/\i.d<=9223372036854775807
theorem showK_len {i:Ins} (h:okI i) {k:Nat} (hk:k<=4):(showK i k).length<=111:=by
  have h1:=word_len h.op
  have h2:=tailS_len ((numsL i).take k) 21 (fun t ht=>by
    have ht:=List.mem_of_mem_take ht
    simp only [numsL,List.mem_cons,List.not_mem_nil,or_false] at ht
    rcases ht with rfl|rfl|rfl|rfl
    · exact itoa_len h.a
    · exact itoa_len h.b
    · exact itoa_len h.c
    · exact itoa_len h.d)
  have h3:((numsL i).take k).length<=4:=by rw [List.length_take];omega
  have h4:=Nat.mul_le_mul_right 22 h3
  unfold showK
  rw [List.length_append]
  omega
end K15
namespace Go.Proofs
open Go.Shelf
def Tryz.laysM171_ren:Go.Shelf.Ren:=⟨fun|171=>61|243=>124|246=>138|283=>140|284=>141|285=>142|286=>143|129=>147|317=>146|318=>148|319=>149|320=>150|337=>151|338=>152|n=>n,fun|3=>3|9=>9|2=>2|4=>4|171=>169|0=>0|53=>106|37=>32|5=>5|173=>172|212=>185|51=>166|20=>20|213=>186|46=>158|232=>191|233=>192|n=>n,fun|17=>2|18=>3|19=>4|n=>n⟩
theorem Tryz.laysM171:Go.Proofs.LaysM.n171 Tryz.prog Tryz.laysM171_ren:={
  mixed:=by kernel_rfl
  f129:=Tryz.func147.trans (congrArg some (by kernel_rfl))
  f171:=Tryz.func61.trans (congrArg some (by kernel_rfl))
  f243:=Tryz.func124.trans (congrArg some (by kernel_rfl))
  f246:=Tryz.func138.trans (congrArg some (by kernel_rfl))
  f283:=Tryz.func140.trans (congrArg some (by kernel_rfl))
  f284:=Tryz.func141.trans (congrArg some (by kernel_rfl))
  f285:=Tryz.func142.trans (congrArg some (by kernel_rfl))
  f286:=Tryz.func143.trans (congrArg some (by kernel_rfl))
  f317:=Tryz.func146.trans (congrArg some (by kernel_rfl))
  f318:=Tryz.func148.trans (congrArg some (by kernel_rfl))
  f319:=Tryz.func149.trans (congrArg some (by kernel_rfl))
  f320:=Tryz.func150.trans (congrArg some (by kernel_rfl))
  f337:=Tryz.func151.trans (congrArg some (by kernel_rfl))
  f338:=Tryz.func152.trans (congrArg some (by kernel_rfl))
  t0:=Tryz.underlying0
  a0:=Tryz.isAgg0
  z0:=Tryz.sizeOf0
  v0:=Tryz.zeroValue0
  t2:=Tryz.underlying2
  a2:=Tryz.isAgg2
  z2:=Tryz.sizeOf2
  v2:=Tryz.zeroValue2
  t3:=Tryz.underlying3
  a3:=Tryz.isAgg3
  z3:=Tryz.sizeOf3
  v3:=Tryz.zeroValue3
  t4:=Tryz.underlying4
  a4:=Tryz.isAgg4
  z4:=Tryz.sizeOf4
  v4:=Tryz.zeroValue4
  t5:=Tryz.underlying5
  a5:=Tryz.isAgg5
  z5:=Tryz.sizeOf5
  v5:=Tryz.zeroValue5
  t9:=Tryz.underlying9
  a9:=Tryz.isAgg9
  z9:=Tryz.sizeOf9
  v9:=Tryz.zeroValue9
  t20:=Tryz.underlying20
  a20:=Tryz.isAgg20
  z20:=Tryz.sizeOf20
  v20:=Tryz.zeroValue20
  t37:=Tryz.underlying32
  a37:=Tryz.isAgg32
  z37:=Tryz.sizeOf32
  v37:=Tryz.zeroValue32
  t46:=Tryz.underlying158
  a46:=Tryz.isAgg158
  z46:=Tryz.sizeOf158
  v46:=Tryz.zeroValue158
  t51:=Tryz.underlying166
  a51:=Tryz.isAgg166
  z51:=Tryz.sizeOf166
  v51:=Tryz.zeroValue166
  t53:=Tryz.underlying106
  a53:=Tryz.isAgg106
  z53:=Tryz.sizeOf106
  v53:=Tryz.zeroValue106
  t171:=Tryz.underlying169
  a171:=Tryz.isAgg169
  z171:=Tryz.sizeOf169
  v171:=Tryz.zeroValue169
  t173:=Tryz.underlying172
  a173:=Tryz.isAgg172
  z173:=Tryz.sizeOf172
  v173:=Tryz.zeroValue172
  t212:=Tryz.underlying185
  a212:=Tryz.isAgg185
  z212:=Tryz.sizeOf185
  v212:=Tryz.zeroValue185
  t213:=Tryz.underlying186
  a213:=Tryz.isAgg186
  z213:=Tryz.sizeOf186
  t232:=Tryz.underlying191
  a232:=Tryz.isAgg191
  z232:=Tryz.sizeOf191
  v232:=Tryz.zeroValue191
  t233:=Tryz.underlying192
  a233:=Tryz.isAgg192
  z233:=Tryz.sizeOf192
  v233:=Tryz.zeroValue192
  g17:=by kernel_rfl
  g18:=by kernel_rfl
  g19:=by kernel_rfl
  i0:=by kernel_rfl
  i2:=by kernel_rfl
  i3:=by kernel_rfl
  i4:=by kernel_rfl
  i5:=by kernel_rfl
  i9:=by kernel_rfl
  i20:=by kernel_rfl
  i37:=by kernel_rfl
  i46:=by kernel_rfl
  i51:=by kernel_rfl
  i53:=by kernel_rfl
  i171:=by kernel_rfl
  i173:=by kernel_rfl
  i212:=by kernel_rfl
  i232:=by kernel_rfl
  i233:=by kernel_rfl
  m17:=by kernel_rfl
  m18:=by kernel_rfl
  m19:=by kernel_rfl }
open Go.RowKit Go.Sort Go.Lib in
theorem Tryz.strconv_Itoa (n : Int) (h0 : -9223372036854775808 ≤ n) (h1 : n ≤ 9223372036854775807) (w : World) (htab : Lib.TabIs Tryz.prog w "internal/strconv.uint64pow10" .u64 Lib.pow10Tab) :
    Calls Tryz.prog 61 #[.int .i64 n] w fun e w'=>e=.returned (.string ⟨(Lib.itoa n).toArray⟩)/\∃ k os,w'=grow (w.drewN k) os:=Any.strconv_Itoa Tryz.laysM171 n h0 h1 w htab
end Go.Proofs
set_option linter.unusedVariables false
set_option linter.unusedSimpArgs false
namespace Go.Proofs.YtaifphjenebgoaaGreatDoor
open Go Go.Sx R1 K15
def Tab10 (w : World) : Prop := Lib.TabIs Tryz.prog w "internal/strconv.uint64pow10" .u64 Lib.pow10Tab
theorem Tab10.ext {w w':World} (h:Tab10 w) (e:Ext w w'):Tab10 w':=by
  unfold Tab10 Lib.TabIs World.var? at *
  cases hg : Tryz.prog.globalNamed "internal/strconv.uint64pow10" with
  | none=>rw [hg] at h;cases h
  | some g =>
    rw [hg] at h
    simp only [Option.bind_some] at h ⊢
    cases hb:w.heap[g]? with
    | none=>rw [hb] at h;cases h
    | some o =>
      rw [(e.block g (Array.getElem?_eq_some_iff.1 hb).1 (fun h=>h)),hb]
      rw [hb] at h
      exact h
theorem growExt (w:World) (k:Nat) (os:Array Obj):Ext w (Sort.grow (w.drewN k) os):=by
  refine ⟨rfl,rfl,rfl,by simp [Sort.grow,World.drewN],fun q hq _=>?_⟩
  simp only [Sort.grow,World.drewN]
  rw [Array.getElem?_append_left hq]
theorem bs_app (a b:List UInt8):bs a++bs b=bs (a++b):=by
  apply ByteArray.ext
  simp [bs]
theorem size_bs (l:List UInt8):(bs l).size=l.length:=by simp [bs,ByteArray.size]
theorem ItoaW_spec {w:World} (h10:Tab10 w) (n:Int) (hn : -9223372036854775808<=n/\n<=9223372036854775807):CallsV Tryz.prog 61 #[.int .i64 n] w fun r w'=>r=.string (bs (Lib.itoa n))/\Ext w w':=by
  refine Calls.mono (Tryz.strconv_Itoa n hn.1 hn.2 w h10) ?_
  rintro e w' ⟨he,k,os,rfl⟩
  exact ⟨_,he,rfl,growExt w k os⟩
theorem oFields:Lib.fields (sb oWords)=wordsL:=by decide +kernel
theorem Word_spec {w:World} (hT:Tab w) {o:Int} (ho : 0<=o/\o<256):CallsV Tryz.prog 23 #[.int .u8 o] w fun r w'=>r=.string (bs (wordO o))/\Ext w w':=by
  refine code_Word.calls okay ?_
  unfold code_Word.W
  rw [wi o (by omega) (by omega),wi (o-1) (by omega) (by omega)]
  refine (named_spec hT oWords (by decide +kernel) oAscii (o-1)).mono ?_
  rw [oFields]
  rintro _ w1 ⟨rfl,e⟩
  refine ⟨_,_,rfl,?_,e⟩
  have hl:wordsL.length=35:=rfl
  unfold nth wordO
  rw [hl]
  by_cases h : 1<=o/\o<=35
  · rw [if_neg (by omega),if_pos h]
  · rw [if_pos (by omega),if_neg h]
theorem step_ok {i:Ins} (g:okI i) {k:Nat} {t:List UInt8} (hk:k<4) (h:(numsL i)[k]?=some t) :
    (ByteArray.mk #[32]).size+(bs t).size<=9223372036854775807/\(bs (showK i k)).size+(ByteArray.mk #[32]++bs t).size<=9223372036854775807/\bs (showK i k)++(ByteArray.mk #[32]++bs t)=bs (showK i (k+1)):=by
  have e:(ByteArray.mk #[32]++bs t)=bs ([32]++t):=bs_app [32] t
  have h1:=showK_len g (show k+1<=4 by omega)
  rw [showK_step i h] at h1 ⊢
  rw [e,bs_app,size_bs,size_bs,size_bs,show (ByteArray.mk #[32]).size=1 by rfl]
  simp only [List.length_append,List.length_cons,List.length_nil] at *
  exact ⟨by omega,by omega,trivial⟩
theorem Show_spec {w:World} {i:Ins} (hT:Tab w) (h10:Tab10 w) (gi:okI i):CallsV Tryz.prog 21 #[.agg #[.int .u8 i.op,.int .i64 i.a,.int .i64 i.b,.int .i64 i.c,.int .i64 i.d]] w fun r w'=>r=.string (bs (showP i))/\Ext w w':=by
  have go:=gi.op
  refine code_Show.calls okay ?_
  unfold code_Show.W
  intro g w1 f
  have b:Blk w1 g (insC i):=f.blk
  repeat (first|refine ⟨_,Blk.cell (b) (by rfl),?_⟩|refine ⟨_,_,_,Blk.cell (b) (by rfl),?_⟩)
  refine (Word_spec (hT.ext f.ext) gi.op).mono ?_
  rintro _ w2 ⟨rfl,k2⟩
  have e2:=f.ext.trans' k2
  have b:=b.ext k2
  clear f
  refine ⟨_,rfl,fun x u=>x=bs (wordP i.op)/\Ext w2 u,?_,brS (fun h=>?_) (fun h=>?_)⟩
  · rintro x u ⟨rfl,e⟩
    repeat (first|refine ⟨_,Blk.cell (b.ext e) (by rfl),?_⟩|refine ⟨_,_,_,Blk.cell (b.ext e) (by rfl),?_⟩)
    have eu:=e2.trans' e
    refine ⟨fun x y v=>∃ k:Nat,k<=4/\y=(k:Int)/\x=bs (showK i k)/\Ext u v,fun x y v=>(4-y).toNat,⟨0,by omega,rfl,by rw [showK_zero],.refl _ _⟩,?_⟩
    rintro x _ v ⟨k,hk,rfl,rfl,ev⟩
    have h10v:=h10.ext (eu.trans' ev)
    refine brd (fun hlt=>⟨⟨by omega,by omega⟩,?_⟩) (fun hge=>?_)
    · refine brd (fun h=>?_) (fun n0=>brd (fun h=>?_) (fun n1=>brd (fun h=>?_) (fun n2=>brd (fun h=>?_) (fun n3=>by omega))))
      · obtain rfl:k=0:=by omega
        refine (ItoaW_spec h10v i.a gi.a).mono ?_
        rintro _ v1 ⟨rfl,hv⟩
        obtain ⟨s1,s2,s3⟩:=step_ok gi (k:=0) (by omega) rfl
        exact ⟨_,rfl,s1,s2,⟨1,by omega,rfl,s3,ev.trans' hv⟩,by dsimp only;decide⟩
      · obtain rfl:k=1:=by omega
        refine (ItoaW_spec h10v i.b gi.b).mono ?_
        rintro _ v1 ⟨rfl,hv⟩
        obtain ⟨s1,s2,s3⟩:=step_ok gi (k:=1) (by omega) rfl
        exact ⟨_,rfl,s1,s2,⟨2,by omega,rfl,s3,ev.trans' hv⟩,by dsimp only;decide⟩
      · obtain rfl:k=2:=by omega
        refine (ItoaW_spec h10v i.c gi.c).mono ?_
        rintro _ v1 ⟨rfl,hv⟩
        obtain ⟨s1,s2,s3⟩:=step_ok gi (k:=2) (by omega) rfl
        exact ⟨_,rfl,s1,s2,⟨3,by omega,rfl,s3,ev.trans' hv⟩,by dsimp only;decide⟩
      · obtain rfl:k=3:=by omega
        refine (ItoaW_spec h10v i.d gi.d).mono ?_
        rintro _ v1 ⟨rfl,hv⟩
        obtain ⟨s1,s2,s3⟩:=step_ok gi (k:=3) (by omega) rfl
        exact ⟨_,rfl,s1,s2,⟨4,by omega,rfl,s3,ev.trans' hv⟩,by dsimp only;decide⟩
    · obtain rfl:k=4:=by omega
      exact ⟨rfl,eu.trans' ev⟩
  · repeat (first|refine ⟨_,Blk.cell (b) (by rfl),?_⟩|refine ⟨_,_,_,Blk.cell (b) (by rfl),?_⟩)
    rw [wi i.op (by omega) (by omega)]
    refine (ItoaW_spec (h10.ext e2) i.op ⟨by omega,by omega⟩).mono ?_
    rintro _ w3 ⟨rfl,e⟩
    have hl:=itoa_len (n:=i.op) ⟨by omega,by omega⟩
    refine ⟨_,rfl,by rw [size_bs,show (ByteArray.mk #[111,112]).size=2 by rfl];omega,?_,e⟩
    unfold wordP
    rw [if_pos h]
    exact bs_app [111,112] _
  · refine ⟨?_,.refl _ _⟩
    unfold wordP
    rw [if_neg h]
end Go.Proofs.YtaifphjenebgoaaGreatDoor
set_option linter.unusedVariables false
set_option linter.unusedSimpArgs false
namespace Go.Proofs.YtaifphjenebgoaaGreatDoor
open Go Go.Sx R1 K15
theorem dec_len (u:Nat) (hu:u<=9223372036854775807):(Lib.decDigits u).length<=21:=by
  have:=Lib.itoa_length_le (u:Int) (by omega) (by omega)
  rwa [Lib.itoa_nonneg] at this
theorem dec_small {u:Nat} (h:u<10):Lib.decDigits u=[UInt8.ofNat (48+u)]:=by rw [Lib.decDigits,dif_pos h]
theorem dec_big {u:Nat} (h : ¬ u<10):Lib.decDigits u=Lib.decDigits (u / 10)++Lib.decDigits (u % 10):=by
  rw [dec_small (u:=u % 10) (by omega)]
  conv=>lhs;rw [Lib.decDigits,dif_neg h]
theorem digits_nn (u:Nat):u<=9223372036854775807->∀ w:World,CallsV Tryz.prog 62 #[.int .i64 (u:Int)] w fun r w'=>r=.string (bs (Lib.decDigits u))/\Ext w w':=by
  induction u using Nat.strongRecOn with
  | ind u ih =>
    intro hu w
    refine cardindexref15_digits.calls okay ?_
    unfold cardindexref15_digits.W
    refine brd (fun h=>by omega) (fun _=>brd (fun h10=>?_) (fun h10=>?_))
    · rw [wi (48+(u:Int)) (by omega) (by omega),w8 (48+(u:Int)) (by omega) (by omega)]
      intro g w1 f
      have e:=f.ext
      obtain ⟨rfl,rfl⟩:=f
      have hv:Value.int .u8 (48+(u:Int))=u8 (UInt8.ofNat (48+u)):=by
        unfold u8
        congr 1
        rw [UInt8.toNat_ofNat']
        omega
      have ho:OwnB (w.alloc (.cells #[.int .u8 (48+(u:Int))] 5)) (some ⟨w.heap.size,0,none⟩) 1 [UInt8.ofNat (48+u)]:=by
        rw [hv];exact ownB_lit (w:=w) (l:=[UInt8.ofNat (48+u)]) (by simp [maxLen])
      refine ⟨_,_,to_str bt (ho.imm (Ω:=NoB) (fun _ _ h=>h)) 1,?_,e⟩
      rw [dec_small (by omega)];rfl
    · refine ⟨by decide,?_⟩
      rw [show Int.tdiv (u:Int) 10=((u / 10:Nat):Int) from rfl,show Int.tmod (u:Int) 10=((u % 10:Nat):Int) from rfl,wi _ (by omega) (by omega)]
      refine (ih (u / 10) (by omega) (by omega) w).mono ?_
      rintro _ w1 ⟨rfl,k1⟩
      refine ⟨_,rfl,by decide,(ih (u % 10) (by omega) (by omega) w1).mono ?_⟩
      rintro _ w2 ⟨rfl,k2⟩
      have h1:=dec_len (u / 10) (by omega)
      have h2:=dec_len (u % 10) (by omega)
      refine ⟨_,rfl,by rw [size_bs,size_bs];omega,?_,k1.trans' k2⟩
      rw [bs_app,<- dec_big (by omega)]
theorem digits_neg (m:Nat) : 1<=m->m<=9223372036854775808->∀ w:World,CallsV Tryz.prog 62 #[.int .i64 (-(m:Int))] w fun r w'=>r=.string (bs (45::Lib.decDigits m))/\Ext w w':=by
  induction m using Nat.strongRecOn with
  | ind m ih =>
    intro h1 hm w
    refine cardindexref15_digits.calls okay ?_
    unfold cardindexref15_digits.W
    have td:Int.tdiv (-(m:Int)) 10=-((m / 10:Nat):Int):=by rw [Int.neg_tdiv];rfl
    have tm:Int.tmod (-(m:Int)) 10=-((m % 10:Nat):Int):=by rw [Int.neg_tmod];rfl
    rw [td,tm,wi (-((m / 10:Nat):Int)) (by omega) (by omega)]
    refine brd (fun _=>⟨by decide,brd (fun h10=>?_) (fun h10=>?_)⟩) (fun h=>by omega)
    · rw [show (0:Int) - -(m:Int)=(m:Int) by omega,wi (m:Int) (by omega) (by omega)]
      refine (digits_nn m (by omega) w).mono ?_
      rintro _ w1 ⟨rfl,k1⟩
      have h2:=dec_len m (by omega)
      refine ⟨_,rfl,by rw [size_bs,show (ByteArray.mk #[45]).size=1 from rfl];omega,?_,k1⟩
      rw [show ByteArray.mk #[45]=bs [45] from rfl,bs_app];rfl
    · refine ⟨by decide,(ih (m / 10) (by omega) (by omega) (by omega) w).mono ?_⟩
      rintro _ w1 ⟨rfl,k1⟩
      rw [show (0:Int) - -((m % 10:Nat):Int)=((m % 10:Nat):Int) by omega,wi _ (by omega) (by omega)]
      refine ⟨_,rfl,by decide,(digits_nn (m % 10) (by omega) w1).mono ?_⟩
      rintro _ w2 ⟨rfl,k2⟩
      have h2:=dec_len (m / 10) (by omega)
      have h3:=dec_len (m % 10) (by omega)
      refine ⟨_,rfl,by rw [size_bs,size_bs,List.length_cons];omega,?_,k1.trans' k2⟩
      rw [bs_app,List.cons_append,<- dec_big (by omega)]
theorem digits_spec (w:World) (n:Int) (h1 : -9223372036854775808<=n) (h2:n<=9223372036854775807):CallsV Tryz.prog 62 #[.int .i64 n] w fun r w'=>r=.string (bs (Lib.itoa n))/\Ext w w':=by
  by_cases h:n<0
  · obtain ⟨m,rfl⟩:∃ m:Nat,n=-(m:Int):=⟨n.natAbs,by omega⟩
    rw [Lib.itoa_neg m (by omega)]
    exact digits_neg m (by omega) (by omega) w
  · obtain ⟨m,rfl⟩:∃ m:Nat,n=(m:Int):=⟨n.toNat,by omega⟩
    rw [Lib.itoa_nonneg]
    exact digits_nn m (by omega) w
theorem rword (o:Int) (h0 : 0<=o):(nth rWords o).1=wordO o:=by
  unfold nth wordO
  have hl:((rWords.length:Nat):Int)=36:=rfl
  by_cases h : 1<=o/\o<=35
  · rw [if_neg (by omega),if_pos h]
    obtain ⟨k,rfl⟩:∃ k:Nat,o=(k:Int)+1:=⟨(o-1).toNat,by omega⟩
    rw [show ((k:Int)+1).toNat=k+1 by omega,show ((k:Int)+1-1).toNat=k by omega]
    rfl
  · rw [if_neg h]
    by_cases h2:o<0\/((rWords.length:Nat):Int)<=o
    · rw [if_pos h2]
    · obtain rfl:o=0:=by omega
      rw [if_neg h2];rfl
theorem wordP_len (o:Int) (h : -9223372036854775808<=o/\o<=9223372036854775807):(wordP o).length<=30:=by
  have h1:=Lib.itoa_length_le o h.1 h.2
  unfold wordP
  split
  · simp only [List.length_append,List.length_cons,List.length_nil];omega
  · unfold wordO
    split
    · next hk =>
      have:∀ x∈wordsL,x.length<=7:=by decide
      have hl:wordsL.length=35:=rfl
      rw [List.getD_eq_getElem?_getD,List.getElem?_eq_getElem (show (o-1).toNat<wordsL.length by omega)]
      have:=this _ (List.getElem_mem (show (o-1).toNat<wordsL.length by omega))
      show (wordsL[(o-1).toNat]).length<=30
      omega
    · simp
set_option maxRecDepth 10000 in
theorem RShow_spec {w:World} {i:Ins} (gi:okI i):CallsV Tryz.prog 22 #[.agg #[.int .u8 i.op,.int .i64 i.a,.int .i64 i.b,.int .i64 i.c,.int .i64 i.d]] w fun r w'=>r=.string (bs (showP i))/\Ext w w':=by
  obtain ⟨g1,g2,g3,g4,g5⟩:=gi
  refine cardindexref15_Show.calls okay ?_
  unfold cardindexref15_Show.W
  intro g w1 f
  have bx:=f.blk
  refine ⟨_,bx.cell rfl,?_⟩
  refine (RWord_spec w1 i.op g1.1 g1.2).mono ?_
  rintro _ w2 ⟨rfl,k2⟩
  have bx:=bx.ext k2
  have e2:=f.ext.trans' k2
  refine ⟨_,rfl,?_⟩
  rw [rword i.op g1.1]
  refine ⟨fun x u=>x=bs (wordP i.op)/\Ext w2 u,?_,?_⟩
  rotate_left
  · refine brS (l:=wordO i.op) (l':=[]) (fun h=>?_) (fun h=>?_)
    · refine ⟨_,bx.cell rfl,?_⟩
      rw [wi i.op (by omega) (by omega)]
      refine (digits_spec w2 i.op (by omega) (by omega)).mono ?_
      rintro _ w3 ⟨rfl,k3⟩
      have h1:=Lib.itoa_length_le i.op (by omega) (by omega)
      refine ⟨_,rfl,?_,?_,k3⟩
      · rw [size_bs,show (ByteArray.mk #[111,112]).size=2 from rfl];omega
      · rw [show ByteArray.mk #[111,112]=bs [111,112] from rfl,bs_app]
        unfold wordP;rw [if_pos h]
    · exact ⟨by unfold wordP;rw [if_neg h]<;>rfl,.refl _ _⟩
  rintro x u ⟨rfl,k⟩
  have bx:=bx.ext k
  have e:=e2.trans' k
  have kd:Ext u u.drew:=Fr.drew NoB u
  have hw:=wordP_len i.op ⟨by omega,by omega⟩
  have ha:=Lib.itoa_length_le i.a g2.1 g2.2
  have hb:=Lib.itoa_length_le i.b g3.1 g3.2
  have hc:=Lib.itoa_length_le i.c g4.1 g4.2
  have hd:=Lib.itoa_length_le i.d g5.1 g5.2
  rw [show ByteArray.mk #[32]=bs [32] from rfl]
  refine ⟨by simp only [size_bs,List.length_cons,List.length_nil];omega,fun z=>Ext u z,kd,_,fun z k=>(bx.ext k).cell rfl,_,fun z k=>(bx.ext k).cell rfl,_,fun z k=>(bx.ext k).cell rfl,_,fun z k=>(bx.ext k).cell rfl,?_⟩
  refine (digits_spec u.drew i.a g2.1 g2.2).mono ?_
  rintro _ w4 ⟨rfl,k4⟩
  have k4:=kd.trans' k4
  refine ⟨_,rfl,k4,?_⟩
  simp only [bs_app,size_bs,List.length_append,List.length_cons,List.length_nil]
  refine ⟨by omega,by omega,?_⟩
  refine (digits_spec w4 i.b g3.1 g3.2).mono ?_
  rintro _ w5 ⟨rfl,k5⟩
  have k5:=k4.trans' k5
  refine ⟨_,rfl,k5,?_⟩
  simp only [bs_app,size_bs,List.length_append,List.length_cons,List.length_nil]
  refine ⟨by omega,by omega,?_⟩
  refine (digits_spec w5 i.c g4.1 g4.2).mono ?_
  rintro _ w6 ⟨rfl,k6⟩
  have k6:=k5.trans' k6
  refine ⟨_,rfl,k6,?_⟩
  simp only [bs_app,size_bs,List.length_append,List.length_cons,List.length_nil]
  refine ⟨by omega,by omega,?_⟩
  refine (digits_spec w6 i.d g5.1 g5.2).mono ?_
  rintro _ w7 ⟨rfl,k7⟩
  refine ⟨_,rfl,?_⟩
  simp only [bs_app,size_bs,List.length_append,List.length_cons,List.length_nil]
  refine ⟨by omega,?_,e.trans' (k6.trans' k7)⟩
  congr 1
  simp [showP,tailS,List.append_assoc]
end Go.Proofs.YtaifphjenebgoaaGreatDoor
set_option linter.unusedVariables false
set_option linter.unusedSimpArgs false
namespace Go.Proofs.YtaifphjenebgoaaGreatDoor
open Go Go.Sx R1 K15
theorem brE {l l':List UInt8} {P Q:Prop} (h:l=l') (h1:P):cond (ByteArray.toList (bs l) == ByteArray.toList (bs l')) P Q:=brS (l:=l) (l':=l') (fun _=>h1) (fun hn=>absurd h hn)
set_option maxRecDepth 20000 in
set_option maxHeartbeats 8000000 in
theorem CodeTells_holds {w:World} {p:Prog} {a:PAd} (hp:PIm w p a) (gp:gProg p) {B:Option Addr} {d:Nat} {b:List UInt8} (hB:Imm KB NoB w B b) (hd:b.length<=d) {i:Ins} (gi:okI i) (hT:Tab w) (h10:Tab10 w) :
    CallsV Tryz.prog 5 #[pagg p a,.slice B b.length d,.agg #[.int .u8 i.op,.int .i64 i.a,.int .i64 i.b,.int .i64 i.c,.int .i64 i.d]] w fun r w'=>r=.bool true/\Ext w w':=by
  refine cardindexlaw15_CodeTells.calls okay ?_
  unfold cardindexlaw15_CodeTells.W
  intro g w1 f g1 w2 f1
  have bp:Blk w2 g (pcs p a):=f.blk.ext f1.ext
  have bi:Blk w2 g1 [.int .u8 i.op,.int .i64 i.a,.int .i64 i.b,.int .i64 i.c,.int .i64 i.d]:=f1.blk
  have e2:=f.ext.trans' f1.ext
  clear f f1
  have fin:∀ u,Ext w u->CallsV Tryz.prog 7 #[] u fun v w'=>∃ x,v=.bool x/\(Value.bool x=.bool true/\Ext w w'):=fun u e=>by
    refine (awake_spec (hT.ext e)).mono ?_
    rintro _ u1 ⟨rfl,e1⟩
    exact ⟨_,rfl,rfl,e.trans' e1⟩
  repeat (first|refine ⟨_,Blk.cell (bp) (by rfl),?_⟩|refine ⟨_,_,_,Blk.cell (bp) (by rfl),?_⟩)
  refine (Great_spec (hp.ext e2)).mono ?_
  rintro _ w3 ⟨gr,rfl,k3⟩
  have e3:=e2.trans' k3
  refine ⟨_,rfl,br (fun _=>fin w3 e3) (fun _=>brd (fun _=>fin w3 e3) (fun hsm=>?_))⟩
  have bp:=bp.ext k3
  have bi:=bi.ext k3
  repeat (first|refine ⟨_,Blk.cell (bp) (by rfl),?_⟩|refine ⟨_,_,_,Blk.cell (bp) (by rfl),?_⟩)
  refine (Bytes_spec (hp.ext e3) (hT.ext e3) gp).mono ?_
  rintro _ w4 ⟨X,cX,rfl,hX,k4,_⟩
  have e4:=e3.trans' k4
  have bp:=bp.ext k4
  have bi:=bi.ext k4
  refine ⟨_,_,_,_,rfl,?_⟩
  repeat (first|refine ⟨_,Blk.cell (bp) (by rfl),?_⟩|refine ⟨_,_,_,Blk.cell (bp) (by rfl),?_⟩)
  refine (RBytes_spec (hp.ext e4) gp).mono ?_
  rintro _ w5 ⟨Y,cY,rfl,hY,k5,_⟩
  have e5:=e4.trans' k5
  have bp:=bp.ext k5
  have bi:=bi.ext k5
  have hX:=hX.ext k5
  refine ⟨_,_,_,_,rfl,?_⟩
  refine (Read_spec (hB.ext KB_pos e5) hd (by omega) (hT.ext e5)).mono ?_
  rintro _ w6 ⟨q,aq,x,rfl,hq,k6,hr⟩
  have e6:=e5.trans' k6
  have bp:=bp.ext k6
  have bi:=bi.ext k6
  have hX:=hX.ext k6
  have hY:=hY.ext k6
  refine ⟨_,_,_,_,_,_,_,_,_,_,_,_,_,_,_,_,_,_,_,_,_,_,rfl,?_⟩
  intro g2 w7 f7
  refine ⟨f7.blk.stOK (pcs q aq) 0 (by simp),fun w8 hw8=>?_⟩
  have nz:=f7.ge
  obtain ⟨b2,k8,e8⟩:=var_set (q:=PZ) (aq:=AZ) e6 f7 hw8
  have bp:=bp.ext k8
  have bi:=bi.ext k8
  have hX:=hX.ext k8
  have hY:=hY.ext k8
  have hq:=hq.ext k8
  refine (RRead_spec (hB.ext KB_pos e8) hd (by omega)).mono ?_
  rintro _ w9 ⟨q',aq',x',rfl,hq',k9,hr'⟩
  have e9:=e8.trans' k9
  have bp:=bp.ext k9
  have bi:=bi.ext k9
  have b2:=b2.ext k9
  have hX:=hX.ext k9
  have hY:=hY.ext k9
  have hq:=hq.ext k9
  have same:q=q'/\x=x'/\gProg q:=by
    rcases hr with ⟨h1,h2⟩|⟨h1,h2,h3⟩
    · have gq:=lim_g (read_canon fg h1).2.2.2
      rcases hr' with ⟨h4,h5⟩|⟨h4,_,_⟩
      · exact ⟨Option.some.inj (h1.symm.trans h4),by rw [h2,h5],gq⟩
      · rw [h4] at h1;cases h1
    · rcases hr' with ⟨h4,_⟩|⟨_,h5,h6⟩
      · rw [h4] at h1;cases h1
      · exact ⟨by rw [h2,h5],by rw [h3,h6],by rw [h2];exact gPZ⟩
  obtain ⟨rfl,rfl,gq⟩:=same
  refine ⟨_,_,_,_,_,_,_,_,_,_,_,_,_,_,_,_,_,_,_,_,_,_,rfl,?_⟩
  intro g3 w10 f10
  refine ⟨f10.blk.stOK (pcs q aq') 0 (by simp),fun w11 hw11=>?_⟩
  obtain ⟨b3,k11,e11⟩:=var_set (q:=PZ) (aq:=AZ) e9 f10 hw11
  have bp:=bp.ext k11
  have bi:=bi.ext k11
  have b2:=b2.ext k11
  have hX:=hX.ext k11
  have hY:=hY.ext k11
  have hq:=hq.ext k11
  have hq':=hq'.ext k11
  repeat (first|refine ⟨_,Blk.cell (bi) (by rfl),?_⟩|refine ⟨_,_,_,Blk.cell (bi) (by rfl),?_⟩)
  refine (Sign_spec (hT.ext e11) i.d).mono ?_
  rintro _ w12 ⟨rfl,k12⟩
  have e12:=e11.trans' k12
  refine ⟨_,_,rfl,?_⟩
  have bi:=bi.ext k12
  repeat (first|refine ⟨_,Blk.cell (bi) (by rfl),?_⟩|refine ⟨_,_,_,Blk.cell (bi) (by rfl),?_⟩)
  refine (RSign_spec w12 i.d).mono ?_
  rintro _ w13 ⟨rfl,k13⟩
  have e13:=e12.trans' k13
  refine ⟨_,_,rfl,?_⟩
  have bi:=bi.ext k13
  repeat (first|refine ⟨_,Blk.cell (bi) (by rfl),?_⟩|refine ⟨_,_,_,Blk.cell (bi) (by rfl),?_⟩)
  refine (Func_spec (hT.ext e13) i.d).mono ?_
  rintro _ w14 ⟨rfl,k14⟩
  have e14:=e13.trans' k14
  refine ⟨_,_,rfl,?_⟩
  have bi:=bi.ext k14
  repeat (first|refine ⟨_,Blk.cell (bi) (by rfl),?_⟩|refine ⟨_,_,_,Blk.cell (bi) (by rfl),?_⟩)
  refine (RFunc_spec w14 i.d).mono ?_
  rintro _ w15 ⟨rfl,k15⟩
  have e15:=e14.trans' k15
  refine ⟨_,_,rfl,?_⟩
  have bi:=bi.ext k15
  have kk:=((k12.trans' k13).trans' k14).trans' k15
  have bp:=bp.ext kk
  have b2:=b2.ext kk
  have b3:=b3.ext kk
  have hX:=hX.ext kk
  have hY:=hY.ext kk
  have hq:=hq.ext kk
  have hq':=hq'.ext kk
  refine ⟨fun z=>Ext w15 z,Fr.drew NoB w15,?_⟩
  repeat (first|refine ⟨_,fun u e=>Blk.cell (Blk.ext (bp) e) (by rfl),?_⟩|refine ⟨_,_,_,fun u e=>Blk.cell (Blk.ext (bp) e) (by rfl),?_⟩)
  have kd:Ext w15 w15.drew:=Fr.drew NoB w15
  refine (Check_spec (hp.ext (e15.trans' kd)) (hT.ext (e15.trans' kd))).mono ?_
  rintro _ w16 ⟨rfl,k16⟩
  have k16:=kd.trans' k16
  refine ⟨_,rfl,k16,?_⟩
  refine (RCheck_spec (hp.ext (e15.trans' k16))).mono ?_
  rintro _ w17 ⟨rfl,k17⟩
  have k17:=k16.trans' k17
  have e17:=e15.trans' k17
  refine ⟨_,rfl,brd (fun _=>?_) (fun h=>absurd rfl h)⟩
  refine (Equal_spec ((hX.ext k17).imm (Ω:=NoB) (fun _ _ h=>h)) ((hY.ext k17).imm (Ω:=NoB) (fun _ _ h=>h))).mono ?_
  rintro _ w18 ⟨rfl,hw⟩
  subst hw
  refine ⟨_,rfl,brd (fun _=>brd (fun _=>?_) (fun h=>absurd rfl h)) (fun h=>absurd rfl h)⟩
  have b2:=b2.ext k17
  have b3:=b3.ext k17
  have bi:=bi.ext k17
  refine ⟨fun z=>Ext w18 z,.refl _ _,?_⟩
  repeat (first|refine ⟨_,fun u e=>Blk.cell (Blk.ext (b2) e) (by rfl),?_⟩|refine ⟨_,_,_,fun u e=>Blk.cell (Blk.ext (b2) e) (by rfl),?_⟩|refine ⟨_,fun u e=>Blk.cell (Blk.ext (b3) e) (by rfl),?_⟩|refine ⟨_,_,_,fun u e=>Blk.cell (Blk.ext (b3) e) (by rfl),?_⟩)
  refine (Same_spec (hq.ext k17) (hq'.ext k17) gq).mono ?_
  rintro _ w19 ⟨⟨y,rfl,hy⟩,k19⟩
  obtain rfl:y=true:=hy.2 rfl
  have e19:=e17.trans' k19
  have bi:=bi.ext k19
  refine ⟨_,rfl,brd (fun _=>brE rfl (brd (fun _=>brE rfl (brd (fun _=>?_) (fun h=>absurd rfl h))) (fun h=>absurd rfl h))) (fun h=>absurd rfl h)⟩
  refine ⟨fun z=>Ext w19 z,.refl _ _,?_⟩
  repeat (first|refine ⟨_,fun u e=>Blk.cell (Blk.ext (bi) e) (by rfl),?_⟩|refine ⟨_,_,_,fun u e=>Blk.cell (Blk.ext (bi) e) (by rfl),?_⟩)
  refine (Show_spec (hT.ext e19) (h10.ext e19) gi).mono ?_
  rintro _ w20 ⟨rfl,k20⟩
  refine ⟨_,rfl,k20,?_⟩
  refine (RShow_spec gi).mono ?_
  rintro _ w21 ⟨rfl,k21⟩
  have e21:=(e19.trans' k20).trans' k21
  have bi:=(bi.ext k20).ext k21
  refine ⟨_,rfl,brE rfl ?_⟩
  refine ⟨fun z=>Ext w21 z,.refl _ _,?_⟩
  repeat (first|refine ⟨_,fun u e=>Blk.cell (Blk.ext (bi) e) (by rfl),?_⟩|refine ⟨_,_,_,fun u e=>Blk.cell (Blk.ext (bi) e) (by rfl),?_⟩)
  refine (Word_spec (hT.ext e21) gi.1).mono ?_
  rintro _ w22 ⟨rfl,k22⟩
  refine ⟨_,rfl,k22,?_⟩
  refine (RWord_spec w22 i.op gi.1.1 gi.1.2).mono ?_
  rintro _ w23 ⟨rfl,k23⟩
  refine ⟨_,rfl,brE (rword i.op gi.1.1).symm ?_⟩
  exact fin w23 ((e21.trans' k22).trans' k23)
end Go.Proofs.YtaifphjenebgoaaGreatDoor
set_option linter.unusedVariables false
set_option linter.unusedSimpArgs false
namespace Go.Proofs.YtaifphjenebgoaaGreatDoor
open Go Go.Sx Go.ChangeShapes Go.WideShapes Go.ChangeAt Go.RowKit R1 K15
theorem returns_shaped {H:Type} {enc:TypeId×Value->H} {a:Assume} {C:Checked} {os:Os} {f:FuncId} {fn:Func} {s:ChangeSpec} {apart fresh handsOn again:Bool} {X:World->Array Value->Prop}
    (hX:∀ (w w':World) (args:Array Value),w.heap=w'.heap->X w args->X w' args)
    (own:ownKnob C.prog.godebug=none) (started:os.Started) (noInit:C.prog.inits.idxOf? f=none) (hfn:C.prog.funcs[f]?=some fn)
    (witness:∃ (w:World) (tape:Tape) (i:Input),w.os=os/\(w.forCall tape i).Shaped C.prog/\i.vars=[]/\Input.okWide C.prog (w.forCall tape i) .any w.heap.size f i /\
      ((s.pre enc C.prog fn [] apart (w.forCall tape i).memory i.args/\X (w.forCall tape i).memory i.args)/\sizedMet enc C.prog fn (OpenSpec.ofChange s) apart (w.forCall tape i).memory i.args)/\a.holds C.prog (lone (Frame.enter C.prog f i.args .normal) [] (w.forCall tape i)))
    (walk:∀ (W:World) (base:Nat) (args:Array Value) (ds gs:List (DataW H)) (before:List MemPlace),
      (∀ (j:Nat) t v,fn.params[j]?=some t->args[j]?=some v->Value.okWide C.prog W .any base t v) ->
      DataW.Whole enc C.prog fn.params.toList s.vars apart W args.toList ds gs before->X W args->W.ShapedOpen C.prog ->
      Calls C.prog f args W fun e W'=>∃ v,e=.returned v/\s.post enc C.prog fn apart fresh handsOn again W args v W') :
    ReturnsInHanded a C os f .any (fun w args=>(s.pre enc C.prog fn [] apart w args/\X w args)/\sizedMet enc C.prog fn (OpenSpec.ofChange s) apart w args) (s.post enc C.prog fn apart fresh handsOn again):=by
  refine returnsInHanded_of_calls own started noInit witness fun w tape i _ hsh _ hok hpre _=>?_
  obtain ⟨_,_,_,g,hg,_,_,_,_,hval⟩:=hok
  obtain rfl:g=fn:=Option.some.inj (hg.symm.trans hfn)
  obtain ⟨⟨⟨ds,gs,before,hW,_⟩,hx⟩,_⟩:=hpre
  refine (walk (w.forCall tape i) w.heap.size i.args ds gs before hval (DataW.Whole.of_heap (w':=w.forCall tape i) (by rfl) hW) (hX _ _ _ (by rfl) hx) hsh).mono fun e W' h=>?_
  obtain ⟨v,rfl,hp⟩:=h
  exact ChangeSpec.post_blind hp
set_option maxRecDepth 10000 in
theorem arg_ins {H:Type} {enc:TypeId×Value->H} {W:World} {r:Reach} {base:Nat} {v:Value} {d:DataW H} {ps:List MemPlace}
    (hval:Value.okWide Tryz.prog W r base 46 v) (h:DataW.Trod enc Tryz.prog W 0 (fun _=>true) true 46 v d ps):∃ i:Ins,v=.agg #[.int .u8 i.op,.int .i64 i.a,.int .i64 i.b,.int .i64 i.c,.int .i64 i.d]/\okI i:=by
  obtain ⟨arr,rfl,hs⟩:=okWide_struct (fs:=sfs Tryz.prog 46) (by kernel_rfl) hval
  obtain ⟨fuel,hf⟩:=h
  obtain ⟨i,hr,g⟩:=opens_Ins enc W fuel _ _ hf
  obtain ⟨cs⟩:=arr
  have hr:cs=insC i:=hr
  subst hr
  exact ⟨i,rfl,⟨g.1,g.2.1,g.2.2.1,g.2.2.2.1,g.2.2.2.2⟩⟩
end Go.Proofs.YtaifphjenebgoaaGreatDoor
