/- Part 5 of the texts of this claim: the engine, contracts, plain laws. -/
import Derived.Test.YtaifphjenebgoaaGreatDoorZCTells15P4
import Derived.Test.YtaifphjenebgoaaGreatDoorZCTells15P3
import Derived.Test.YtaifphjenebgoaaGreatDoorZCTells15P2
import Derived.Test.YtaifphjenebgoaaGreatDoorProg
import Derived.Test.YtaifphjenebgoaaGreatDoorZCTells15P1
import Derived.Lib.Bytealg
set_option linter.unusedVariables false
set_option linter.unusedSimpArgs false
namespace Go.Proofs.YtaifphjenebgoaaGreatDoor
open Go Go.Sx R1 K15
abbrev hHalt:Ins:=⟨35,0,0,0,0⟩
abbrev hJump (a:Int):Ins:=⟨10,a,0,0,0⟩
abbrev hP (l:List Ins):Prog:=⟨1,1,0,[],[],[],[],[],l⟩
abbrev hA (A:Option Addr) (c:Nat):PAd:=⟨none,0,none,0,none,0,none,0,none,0,A,c⟩
theorem hPim {w:World} {A:Option Addr} {c:Nat} {l:List Ins} (h:Imm KIns NoB w A l) (hl:l.length<=2) (hc:l.length<=c):PIm w (hP l) (hA A c) :=
  ⟨Imm.nil _ _ _ _,Imm.nil _ _ _ _,Imm.nil _ _ _ _,Imm.nil _ _ _ _,Imm.nil _ _ _ _,h,Nat.zero_le _,Nat.zero_le _,Nat.zero_le _,Nat.zero_le _,Nat.zero_le _,Nat.le_trans hl (by simp [maxLen]),hc⟩
theorem cellSet {u v:World} {g o:Nat} {x:Value} {cs:List Value} (hb:Blk u g cs) (hv:v=setAll ((⟨g,0,none⟩:Addr).add o) 0 [x] u):Blk v g (cs.set o x)/\Fr (fun k=>k=g) u v:=by
  rw [add_new] at hv
  have h1:Blk v g (cs.set (0+o) x):=by rw [hv];exact Blk.setAll (o:=0+o) [x] 0 hb
  rw [Nat.zero_add] at h1
  exact ⟨h1,by rw [hv];exact Fr.setAll _ _ _⟩
theorem cellOK {u:World} {g o:Nat} {x:Value} {cs:List Value} (hb:Blk u g cs) (ho:o<cs.length):stOK ((⟨g,0,none⟩:Addr).add o) 0 [x] u:=by
  rw [add_new];exact hb.stOK (o:=0+o) [x] 0 (by simp;omega)
theorem two_imm {w w':World} {g:Nat} {a:Int} {Ω:Nat->Prop} (f:Fresh w g w' [.int .u8 10,.int .i64 a,.int .i64 0,.int .i64 0,.int .i64 0,.int .u8 35,.int .i64 0,.int .i64 0,.int .i64 0,.int .i64 0] 46) (h : ¬ Ω g):Imm KIns Ω w' (some ⟨g,0,none⟩) [hJump a,hHalt] :=
  f.imm h KIns_pos rfl (by simp [maxLen]) (by
    intro i a h
    rcases i with _|_|i
    · simp at h;subst h;rfl
    · simp at h;subst h;rfl
    · simp at h)
theorem chk0:checkP (hP [hHalt])=true:=by decide +kernel
theorem chk1:checkP (hP [hJump 0,hHalt])=false:=by decide +kernel
theorem chk2:checkP (hP [hJump 1,hHalt])=true:=by decide +kernel
set_option maxRecDepth 20000 in
set_option maxHeartbeats 4000000 in
theorem awake_spec {w:World} (hT:Tab w):CallsV Tryz.prog 7 #[] w fun r w'=>r=.bool true/\Ext w w':=by
  refine cardindexlaw15_awake.calls okay ?_
  unfold cardindexlaw15_awake.W
  intro g0 w1 f0 g1 w2 f1
  refine ⟨f1.blk.stOK (pcs (hP [hHalt]) (hA (some ⟨g0,0,none⟩) 1)) 0 (by simp),fun w3 hw=>?_⟩
  obtain ⟨b1,q⟩:=set0 f1.blk hw rfl
  have z0:=f0.ge
  have z1:=f1.ge
  have z2:=f0.lt
  have e3:Ext w w3:=(f0.ext.trans' f1.ext).trans q (fun _ _ h=>h) (fun k hk e=>by have:=f0.ext.size;omega)
  have i0:Imm KIns (fun k=>k=g1) w1 (some ⟨g0,0,none⟩) [hHalt]:=f0.imm (fun h=>by omega) KIns_pos rfl (by simp [maxLen]) (by
    intro i a h
    rcases i with _|i
    · simp at h;subst h;rfl
    · simp at h)
  have i0:Imm KIns NoB w3 (some ⟨g0,0,none⟩) [hHalt]:=(i0.ext KIns_pos f1.ext).keep KIns_pos (q.step (fun _ _ h=>h) (fun _ _ h=>h.elim))
  clear hw f0 f1 q z0 z1 z2
  refine ⟨fun u=>Ext w3 u,Fr.drew NoB w3,?_⟩
  repeat (first|refine ⟨_,fun u e=>Blk.cell (Blk.ext (b1) e) (by rfl),?_⟩|refine ⟨_,_,_,fun u e=>Blk.cell (Blk.ext (b1) e) (by rfl),?_⟩)
  refine ⟨?_,?_⟩
  case' refine_1 =>
    intro gq w4 f4
    have x4:Ext w3 w4:=Ext.drew0 f4.ext
    refine ⟨x4,?_⟩
    intro gr w5 f5
    have x5:=x4.trans' f5.ext
    have hq:w3.heap.size<=gq:=f4.ge
    have hr:w3.heap.size<=gr:=Nat.le_trans x4.size f5.ge
    have hn:gq≠gr:=by have:=f4.lt;have:=f5.ge;omega
    refine ⟨x5,(f4.blk.ext f5.ext).stOK (pcs (hP [hHalt]) (hA (some ⟨g0,0,none⟩) 1)) 0 (by simp),fun w6 hw6=>?_⟩
    obtain ⟨bq,q6⟩:=set0 (f4.blk.ext f5.ext) hw6 rfl
    have br:=f5.blk.keep q6 (fun e=>hn e.symm)
    have x6:Ext w3 w6:=x5.trans q6 (fun _ _ h=>h) (fun k hk e=>by omega)
    refine ⟨x6,br.stOK (pcs (hP [hHalt]) (hA (some ⟨g0,0,none⟩) 1)) 0 (by simp),fun w7 hw7=>?_⟩
    obtain ⟨br,q7⟩:=set0 br hw7 rfl
    have bq:=bq.keep q7 hn
    have x7:Ext w3 w7:=x6.trans q7 (fun _ _ h=>h) (fun k hk e=>by omega)
    clear hw7 hw6 q7 q6 x6 x5 f5 x4 f4
  case' refine_2 =>
    intro gr w4 f4
    have x4:Ext w3 w4:=Ext.drew0 f4.ext
    refine ⟨x4,?_⟩
    intro gq w5 f5
    have x5:=x4.trans' f5.ext
    have hr:w3.heap.size<=gr:=f4.ge
    have hq:w3.heap.size<=gq:=Nat.le_trans x4.size f5.ge
    have hn:gq≠gr:=by have:=f4.lt;have:=f5.ge;omega
    refine ⟨x5,f5.blk.stOK (pcs (hP [hHalt]) (hA (some ⟨g0,0,none⟩) 1)) 0 (by simp),fun w6 hw6=>?_⟩
    obtain ⟨bq,q6⟩:=set0 f5.blk hw6 rfl
    have br:=(f4.blk.ext f5.ext).keep q6 (fun e=>hn e.symm)
    have x6:Ext w3 w6:=x5.trans q6 (fun _ _ h=>h) (fun k hk e=>by omega)
    refine ⟨x6,br.stOK (pcs (hP [hHalt]) (hA (some ⟨g0,0,none⟩) 1)) 0 (by simp),fun w7 hw7=>?_⟩
    obtain ⟨br,q7⟩:=set0 br hw7 rfl
    have bq:=bq.keep q7 hn
    have x7:Ext w3 w7:=x6.trans q7 (fun _ _ h=>h) (fun k hk e=>by omega)
    clear hw7 hw6 q7 q6 x6 x5 f5 x4 f4
  all_goals
    intro g8 w8 f8
    have y8:=f8.ge
    have l8:=f8.lt
    have lq:=bq.lt
    have lr:=br.lt
    have sz7:=x7.size
    have i8:Imm KIns (fun k=>k=gq\/k=gr) w8 (some ⟨g8,0,none⟩) [hJump 0,hHalt]:=two_imm f8 (fun h=>by omega)
    refine ⟨cellOK (bq.ext f8.ext) (by simp),fun w9 hw9=>?_⟩
    obtain ⟨bq9,q9⟩:=cellSet (bq.ext f8.ext) hw9
    have i9:Imm KIns (fun k=>k=gr) w9 (some ⟨g8,0,none⟩) [hJump 0,hHalt]:=i8.keep KIns_pos (q9.step (fun _ _ h=>.inl h) (fun _ _ h=>.inr h))
    have br9:=(br.ext f8.ext).keep q9 (fun e=>hn e.symm)
    have lr9:=br9.lt
    intro g10 w10 f10
    have y10:=f10.ge
    have i10:Imm KIns (fun k=>k=gr) w10 (some ⟨g10,0,none⟩) [hJump 1,hHalt]:=two_imm f10 (fun h=>by omega)
    refine ⟨cellOK (br9.ext f10.ext) (by simp),fun w11 hw11=>?_⟩
    obtain ⟨br11,q11⟩:=cellSet (br9.ext f10.ext) hw11
    have bq11:=(bq9.ext f10.ext).keep q11 hn
    have x9:Ext w3 w9:=(x7.trans' f8.ext).trans q9 (fun _ _ h=>h) (fun k hk e=>by omega)
    have x11:Ext w3 w11:=(x9.trans' f10.ext).trans q11 (fun _ _ h=>h) (fun k hk e=>by omega)
    have j1:Imm KIns NoB w11 (some ⟨g8,0,none⟩) [hJump 0,hHalt]:=(i9.ext KIns_pos f10.ext).keep KIns_pos (q11.step (fun _ _ h=>h) (fun _ _ h=>h.elim))
    have j2:Imm KIns NoB w11 (some ⟨g10,0,none⟩) [hJump 1,hHalt]:=i10.keep KIns_pos (q11.step (fun _ _ h=>h) (fun _ _ h=>h.elim))
    have p0:PIm w11 (hP [hHalt]) (hA (some ⟨g0,0,none⟩) 1):=hPim (i0.ext KIns_pos x11) (by simp) (by simp)
    have p1:PIm w11 (hP [hJump 0,hHalt]) (hA (some ⟨g8,0,none⟩) 2):=hPim j1 (by simp) (by simp)
    have p2:PIm w11 (hP [hJump 1,hHalt]) (hA (some ⟨g10,0,none⟩) 2):=hPim j2 (by simp) (by simp)
    have e11:=e3.trans' x11
    have b11:=b1.ext x11
    clear x9 x11 q9 q11 f8 f10 i8 i9 i10 hw9 hw11 br9 bq9 j1 j2
    refine (ShowTwo_spec (hT.ext e11)).mono ?_
    rintro _ w12 ⟨rfl,k12⟩
    refine ⟨_,rfl,brS (fun _=>?_) (fun h=>absurd rfl h)⟩
    repeat (first|refine ⟨_,Blk.cell (b11.ext k12) (by rfl),?_⟩|refine ⟨_,_,_,Blk.cell (b11.ext k12) (by rfl),?_⟩)
    refine (Check_spec (p0.ext k12) (hT.ext (e11.trans' k12))).mono ?_
    rintro _ w13 ⟨rfl,k13⟩
    rw [chk0]
    refine ⟨_,rfl,brd (fun _=>?_) (fun h=>absurd rfl h)⟩
    have k:=k12.trans' k13
    repeat (first|refine ⟨_,Blk.cell (bq11.ext k) (by rfl),?_⟩|refine ⟨_,_,_,Blk.cell (bq11.ext k) (by rfl),?_⟩)
    refine (Check_spec (p1.ext k) (hT.ext (e11.trans' k))).mono ?_
    rintro _ w14 ⟨rfl,k14⟩
    rw [chk1]
    refine ⟨_,rfl,brd (fun _=>?_) (fun h=>absurd rfl h)⟩
    have k':=k.trans' k14
    repeat (first|refine ⟨_,Blk.cell (br11.ext k') (by rfl),?_⟩|refine ⟨_,_,_,Blk.cell (br11.ext k') (by rfl),?_⟩)
    refine (Check_spec (p2.ext k') (hT.ext (e11.trans' k'))).mono ?_
    rintro _ w15 ⟨rfl,k15⟩
    rw [chk2]
    exact ⟨_,rfl,rfl,e11.trans' (k'.trans' k15)⟩
end Go.Proofs.YtaifphjenebgoaaGreatDoor
set_option linter.unusedVariables false
set_option linter.unusedSimpArgs false
namespace Go.Proofs.YtaifphjenebgoaaGreatDoor
open Go Go.Sx R1 K15
def KI:Kd Int:=Kd.int .i64
theorem KI_pos : 0<KI.size:=by decide
theorem KBo_pos : 0<Kd.bool.size:=by decide
theorem ints_fresh {w w':World} {g:Nat} {e:TypeId} {Ω:Nat->Prop} {ns:List Int} (f:Fresh w g w' (ns.map (Value.int .i64)) e) (hΩ : ¬ Ω g) (hl:ns.length<=100):Imm KI Ω w' (some ⟨g,0,none⟩) ns :=
  f.imm hΩ KI_pos (by simp [KI,Kd.int]) (by simp only [maxLen];omega) (fun i a h=>by
    show ((ns.map (Value.int .i64)).drop (i*1)).take 1=[.int .i64 a]
    rw [Nat.mul_one]
    exact part1 (by rw [List.getElem?_map,h];rfl))
theorem bools_fresh {w w':World} {g:Nat} {e:TypeId} {Ω:Nat->Prop} {ns:List Bool} (f:Fresh w g w' (ns.map Value.bool) e) (hΩ : ¬ Ω g) (hl:ns.length<=100):Imm Kd.bool Ω w' (some ⟨g,0,none⟩) ns :=
  f.imm hΩ KBo_pos (by simp [Kd.bool]) (by simp only [maxLen];omega) (fun i a h=>by
    show ((ns.map Value.bool).drop (i*1)).take 1=[.bool a]
    rw [Nat.mul_one]
    exact part1 (by rw [List.getElem?_map,h];rfl))
structure Wr (w:World) (g:Nat) (A:Option Addr) (c:Nat) (l:List UInt8):Prop where
  own:OwnB w A c l
  blk:Blk w g [.slice A l.length c]
  off : ¬ ownB A g
abbrev WO (g:Nat) (A:Option Addr):Nat->Prop:=fun k=>k=g\/ownB A k
structure WG (g:Nat) (A A':Option Addr) (w w':World):Prop where
  fr:Fr (WO g A) w w'
  sub:∀ k,ownB A' k->ownB A k\/w.heap.size<=k
theorem WG.trans {g:Nat} {A B C:Option Addr} {a b c:World} (h:WG g A B a b) (h':WG g B C b c):WG g A C a c :=
  ⟨h.fr.trans h'.fr (fun _ _ h=>h) (fun k hk hb=>hb.elim .inl (fun hB=>(h.sub k hB).elim .inr (fun hge=>absurd hk (Nat.not_lt.2 hge)))),
    fun k hk=>(h'.sub k hk).elim (fun h1=>h.sub k h1) (fun h1=>.inr (Nat.le_trans h.fr.size h1))⟩
theorem WG.ofExt {g:Nat} {A:Option Addr} {w w':World} (e:Ext w w'):WG g A A w w':=⟨e.mono (fun _ _ h=>h.elim),fun _ h=>.inl h⟩
theorem WG.refl (g:Nat) (A:Option Addr) (w:World):WG g A A w w:=WG.ofExt (.refl _ _)
section
variable {w w':World} {g:Nat} {A A':Option Addr} {c c':Nat} {l l':List UInt8}
theorem Wr.ext (h:Wr w g A c l) (e:Ext w w'):Wr w' g A c l:=⟨h.own.keep e (fun _ _ h=>h),h.blk.ext e,h.off⟩
theorem Wr.lt (h:Wr w g A c l):∀ k,WO g A k->k<w.heap.size:=fun k hk=>hk.elim (fun e=>e▸h.blk.lt) (fun hA=>Own.lt h.own k hA)
theorem Wr.push (h:Wr w g A c l) (ho:OwnB w' A' c' l') (hg:Grew A A' w w') :
    stOK ((⟨g,0,none⟩:Addr).add 0) 0 [.slice A' l'.length c'] w'/\∀ u,u=setAll ((⟨g,0,none⟩:Addr).add 0) 0 [.slice A' l'.length c'] w'->Wr u g A' c' l'/\WG g A A' w u:=by
  have b':=h.blk.keep hg.fr h.off
  have off' : ¬ ownB A' g:=fun hk=>(hg.sub g hk).elim h.off (fun hge=>absurd h.blk.lt (Nat.not_lt.2 hge))
  refine ⟨cellOK b' (by simp),fun u hu=>?_⟩
  obtain ⟨b2,q⟩:=cellSet b' hu
  exact ⟨⟨ho.keep q (fun k hk e=>off' (e▸hk)),b2,off'⟩,hg.fr.trans q (fun _ _ h=>.inr h) (fun _ _ h=>.inl h),hg.sub⟩
theorem WG.imm {α:Type} {K:Kd α} {B:Option Addr} {xs:List α} (hg:WG g A A' w w') (hz : 0<K.size) (h:Imm K (WO g A) w B xs):Imm K NoB w' B xs :=
  h.keep hz (hg.fr.step (fun _ _ h=>h) (fun _ _ h=>h.elim))
theorem wput_spec (h:Wr w g A c l) {B:Option Addr} {d:Nat} {ns:List Int} (hB:Imm KI (WO g A) w B ns) (hn:∀ n∈ns,0<=n/\n<9223372036854775808) (hl:l.length+10*ns.length+10<=140737488355328) :
    CallsV Tryz.prog 25 #[.pointer (some ⟨g,0,none⟩),.slice B ns.length d] w fun r w'=>r=.tuple #[]/\∃ A' c',Wr w' g A' c' (l++ns.flatMap K15.eI)/\WG g A A' w w':=by
  refine code_writer_put.calls okay ?_
  unfold code_writer_put.W
  refine ⟨fun x u=>∃ j:Nat,j<=ns.length/\x=(j:Int)/\∃ A1 c1,Wr u g A1 c1 (l++(ns.take j).flatMap K15.eI)/\WG g A A1 w u,fun x _=>((ns.length:Int)-x).toNat,⟨0,by omega,rfl,A,c,by simpa using h,.refl _ _ _⟩,?_⟩
  rintro _ u ⟨j,hj,rfl,A1,c1,h1,hg⟩
  refine brd (fun hlt=>?_) (fun hge=>?_)
  · have hjl:j<ns.length:=by omega
    obtain ⟨ad,hA,cs,hrep,hc⟩:=(hg.imm KI_pos hB).get1 hjl
    have hcs:cs=[.int .i64 ns[j]]:=hrep
    subst hcs
    have hnj:=hn _ (List.getElem_mem hjl)
    have hlen:=flatB (f:=K15.eI) (M:=10) (ns.take j) (fun v hv=>eI_len (hn v (List.mem_of_mem_take hv)))
    rw [List.length_take,Nat.min_eq_left hj] at hlen
    refine ⟨ad,hA,⟨by omega,by omega⟩,_,hc 0 _ rfl,_,rfl,_,_,_,h1.blk.cell rfl,?_⟩
    rw [wu _ (by omega) (by omega),show ns[j]=((ns[j].toNat:Nat):Int) by omega]
    refine (Uint_spec h1.own ns[j].toNat (by omega) (by rw [List.length_append];omega)).mono ?_
    rintro _ u1 ⟨A2,c2,rfl,ho,hg2,_⟩
    obtain ⟨s1,s2⟩:=h1.push ho hg2
    refine ⟨_,_,_,rfl,_,rfl,s1,fun v hv=>?_⟩
    obtain ⟨q1,q2⟩:=s2 v hv
    rw [wi ((j:Int)+1) (by omega) (by omega)]
    refine ⟨⟨j+1,by omega,rfl,A2,c2,?_,hg.trans q2⟩,by dsimp only;omega⟩
    rw [flatS hjl,<- List.append_assoc]
    exact q1
  · obtain rfl:j=ns.length:=by omega
    rw [List.take_length] at h1
    exact ⟨rfl,A1,c1,h1,hg⟩
theorem wflag_spec (h:Wr w g A c l) {B:Option Addr} {d:Nat} {bs:List Bool} (hB:Imm Kd.bool (WO g A) w B bs) (hl:l.length+10*bs.length+30<=140737488355328) :
    CallsV Tryz.prog 29 #[.pointer (some ⟨g,0,none⟩),.slice B bs.length d] w fun r w'=>r=.tuple #[]/\∃ A' c',Wr w' g A' c' (l++bs.flatMap eF)/\WG g A A' w w':=by
  refine code_writer_flag.calls okay ?_
  unfold code_writer_flag.W
  refine ⟨fun x u=>∃ j:Nat,j<=bs.length/\x=(j:Int)/\∃ A1 c1,Wr u g A1 c1 (l++(bs.take j).flatMap eF)/\WG g A A1 w u,fun x _=>((bs.length:Int)-x).toNat,⟨0,by omega,rfl,A,c,by simpa using h,.refl _ _ _⟩,?_⟩
  rintro _ u ⟨j,hj,rfl,A1,c1,h1,hg⟩
  refine brd (fun hlt=>?_) (fun hge=>?_)
  · have hjl:j<bs.length:=by omega
    obtain ⟨ad,hA,cs,hrep,hc⟩:=(hg.imm KBo_pos hB).get1 hjl
    have hcs:cs=[.bool bs[j]]:=hrep
    subst hcs
    have hlen:=flatB (f:=eF) (M:=10) (bs.take j) (fun v hv=>eF_len v)
    rw [List.length_take,Nat.min_eq_left hj] at hlen
    have step:∀ (n:Int) (g3:Nat) (u1:World),(0<=n/\n<9223372036854775808)->eF bs[j]=K15.eI n->Fresh u g3 u1 ([n].map (Value.int .i64)) 3 ->
        CallsV Tryz.prog 25 #[.pointer (some ⟨g,0,none⟩),.slice (some ⟨g3,0,none⟩) 1 1] u1 fun v v'=>v=.tuple #[]/\(∃ j':Nat,j'<=bs.length/\IntKind.i64.wrap ((j:Int)+1)=(j':Int)/\∃ A1 c1,Wr v' g A1 c1 (l++(bs.take j').flatMap eF)/\WG g A A1 w v') /\
          ((bs.length:Int)-IntKind.i64.wrap ((j:Int)+1)).toNat<((bs.length:Int)-(j:Int)).toNat:=fun n g3 u1 hn he f3=>by
      have hge3:=f3.ge
      have hi:Imm KI (WO g A1) u1 (some ⟨g3,0,none⟩) [n]:=ints_fresh f3 (fun h=>by have:=h1.lt _ h;omega) (by simp)
      refine (wput_spec (h1.ext f3.ext) (ns:=[n]) hi (fun m hm=>by simp at hm;subst hm;exact hn) (by rw [List.length_append];simp only [List.length_cons,List.length_nil];omega)).mono ?_
      rintro _ v ⟨rfl,A2,c2,h2,hg2⟩
      rw [wi ((j:Int)+1) (by omega) (by omega)]
      refine ⟨rfl,⟨j+1,by omega,rfl,A2,c2,?_,hg.trans ((WG.ofExt f3.ext).trans hg2)⟩,by omega⟩
      rw [flatS hjl,<- List.append_assoc,he]
      simpa using h2
    refine ⟨ad,hA,⟨by omega,by omega⟩,_,hc 0 _ rfl,br (fun hb=>?_) (fun hb=>?_)⟩
    · exact fun g3 u1 f3=>step 1 g3 u1 (by decide) (by rw [hb];rfl) f3
    · exact fun g3 u1 f3=>step 0 g3 u1 (by decide) (by rw [hb];rfl) f3
  · obtain rfl:j=bs.length:=by omega
    rw [List.take_length] at h1
    exact ⟨rfl,A1,c1,h1,hg⟩
theorem wtext_spec (h:Wr w g A c l) (s:ByteArray) (hl:l.length+s.size+10<=140737488355328) :
    CallsV Tryz.prog 26 #[.pointer (some ⟨g,0,none⟩),.string s] w fun r w'=>r=.tuple #[]/\∃ A' c',Wr w' g A' c' (l++eS s)/\WG g A A' w w':=by
  refine code_writer_text.calls okay ?_
  unfold code_writer_text.W
  refine ⟨_,rfl,_,_,_,h.blk.cell rfl,?_⟩
  obtain ⟨B,d,w1,hr,ho,e,hn,_⟩:=to_bytes bt w s (by simp only [maxLen];omega)
  have h1:=h.ext e
  refine ⟨B,_,d,w1,hr,?_⟩
  refine (Blob_spec h1.own (ho.imm (Ω:=ownB A) (fun k hk hA=>absurd (h.lt k (.inr hA)) (Nat.not_lt.2 (hn k hk)))) (by rw [sb_length];omega)).mono ?_
  rintro _ w2 ⟨A',c',rfl,ho2,hg⟩
  obtain ⟨s1,s2⟩:=h1.push ho2 hg
  refine ⟨_,_,_,rfl,_,rfl,s1,fun u hu=>?_⟩
  obtain ⟨q1,q2⟩:=s2 u hu
  exact ⟨rfl,_,_,q1,(WG.ofExt e).trans q2⟩
end
end Go.Proofs.YtaifphjenebgoaaGreatDoor
set_option linter.unusedVariables false
namespace Go.Proofs.YtaifphjenebgoaaGreatDoor
open Go Go.Sx R1
theorem opens_V:Opens Tryz.prog 54 KV good:=by
  intro H enc w fuel cs x hx
  obtain ⟨hl,hf⟩:=opens_fields (by kernel_rfl) hx
  obtain ⟨k,hk,gk⟩:=hf 0 (ft:=52) (off:=0) (K:=Kd.int .u8) (by kernel_rfl) (by kernel_rfl) (opens_int (by kernel_rfl))
  obtain ⟨n,hn,gn⟩:=hf 1 (ft:=2) (off:=1) (K:=Kd.int .i64) (by kernel_rfl) (by kernel_rfl) (opens_int (by kernel_rfl))
  obtain ⟨s,hs,gs⟩:=hf 2 (ft:=9) (off:=2) (K:=Kd.str) (by kernel_rfl) (by kernel_rfl) (opens_str (by kernel_rfl))
  have hl3:cs.length=3:=hl.trans (by kernel_rfl)
  match cs,hl3 with
  | [a,b,c],_ =>
    have hk : [a]=[.int .u8 k]:=hk
    have hn : [b]=[.int .i64 n]:=hn
    have hs : [c]=[.string s]:=hs
    obtain ⟨m,rfl,hm⟩:=u8_nat gk
    exact ⟨⟨(m:Int),n,s⟩,by cases hk;cases hn;cases hs;rfl,⟨by dsimp only;omega,by dsimp only;omega⟩,i64_range gn,gs⟩
end Go.Proofs.YtaifphjenebgoaaGreatDoor
set_option linter.unusedVariables false
set_option linter.unusedSimpArgs false
namespace Go.Proofs.YtaifphjenebgoaaGreatDoor
open Go Go.Sx R1 K15
def isI (x:Int):Prop:=-9223372036854775808<=x/\x<=9223372036854775807
def gCur (c:Cur):Prop:=c.name.size<=maxLen
def gSrt (s:Srt):Prop:=s.desc.length<=maxLen/\isI s.cols
def gTot (t:Tot):Prop:=t.fn.size<=maxLen
def gIns (i:Ins):Prop:=(0<=i.op/\i.op<256)/\isI i.a/\isI i.b/\isI i.c/\isI i.d
theorem opens_Cur:Opens Tryz.prog 56 KCur gCur:=by
  intro H enc w fuel cs x hx
  obtain ⟨hl,hf⟩:=opens_fields (by kernel_rfl) hx
  obtain ⟨a,ha,g1⟩:=hf 0 (ft:=9) (off:=0) (K:=Kd.str) (by kernel_rfl) (by kernel_rfl) (opens_str (by kernel_rfl))
  obtain ⟨b,hb,_⟩:=hf 1 (ft:=4) (off:=1) (K:=Kd.bool) (by kernel_rfl) (by kernel_rfl) (opens_bool (by kernel_rfl))
  obtain ⟨c,hc,_⟩:=hf 2 (ft:=4) (off:=2) (K:=Kd.bool) (by kernel_rfl) (by kernel_rfl) (opens_bool (by kernel_rfl))
  have hl3:cs.length=3:=hl.trans (by kernel_rfl)
  match cs,hl3 with
  | [x,y,z],_ =>
    have ha : [x]=[.string a]:=ha
    have hb : [y]=[.bool b]:=hb
    have hc : [z]=[.bool c]:=hc
    exact ⟨⟨a,b,c⟩,by cases ha;cases hb;cases hc;rfl,g1⟩
theorem opens_Tot:Opens Tryz.prog 61 KTot gTot:=by
  intro H enc w fuel cs x hx
  obtain ⟨hl,hf⟩:=opens_fields (by kernel_rfl) hx
  obtain ⟨a,ha,g1⟩:=hf 0 (ft:=9) (off:=0) (K:=Kd.str) (by kernel_rfl) (by kernel_rfl) (opens_str (by kernel_rfl))
  obtain ⟨b,hb,_⟩:=hf 1 (ft:=4) (off:=1) (K:=Kd.bool) (by kernel_rfl) (by kernel_rfl) (opens_bool (by kernel_rfl))
  have hl3:cs.length=2:=hl.trans (by kernel_rfl)
  match cs,hl3 with
  | [x,y],_ =>
    have ha : [x]=[.string a]:=ha
    have hb : [y]=[.bool b]:=hb
    exact ⟨⟨a,b⟩,by cases ha;cases hb;rfl,g1⟩
theorem opens_Srt:Opens Tryz.prog 59 KSrt gSrt:=by
  intro H enc w fuel cs x hx
  obtain ⟨hl,hf⟩:=opens_fields (by kernel_rfl) hx
  obtain ⟨a,ha,g1,_⟩:=hf 0 (ft:=57) (off:=0) (K:=Kd.slice Kd.bool (by decide)) (by kernel_rfl) (by kernel_rfl) (opens_slice (by kernel_rfl) (by kernel_rfl) (by decide) (opens_bool (t:=4) (by kernel_rfl)))
  obtain ⟨b,hb,g2⟩:=hf 1 (ft:=3) (off:=1) (K:=Kd.int .i64) (by kernel_rfl) (by kernel_rfl) (opens_int (by kernel_rfl))
  obtain ⟨c,hc,_⟩:=hf 2 (ft:=4) (off:=2) (K:=Kd.bool) (by kernel_rfl) (by kernel_rfl) (opens_bool (by kernel_rfl))
  have hl3:cs.length=3:=hl.trans (by kernel_rfl)
  match cs,hl3 with
  | [x,y,z],_ =>
    obtain ⟨A,d,ha,hd,hi⟩:=ha
    have ha : [x]=[.slice A a.length d]:=ha
    have hb : [y]=[.int .i64 b]:=hb
    have hc : [z]=[.bool c]:=hc
    exact ⟨⟨a,b,c⟩,⟨A,d,by cases ha;cases hb;cases hc;rfl,hd,hi⟩,g1,i64_range g2⟩
theorem opens_Ins:Opens Tryz.prog 46 KIns gIns:=by
  intro H enc w fuel cs x hx
  obtain ⟨hl,hf⟩:=opens_fields (by kernel_rfl) hx
  obtain ⟨a,ha,g1⟩:=hf 0 (ft:=44) (off:=0) (K:=Kd.int .u8) (by kernel_rfl) (by kernel_rfl) (opens_int (by kernel_rfl))
  obtain ⟨b,hb,g2⟩:=hf 1 (ft:=3) (off:=1) (K:=Kd.int .i64) (by kernel_rfl) (by kernel_rfl) (opens_int (by kernel_rfl))
  obtain ⟨c,hc,g3⟩:=hf 2 (ft:=3) (off:=2) (K:=Kd.int .i64) (by kernel_rfl) (by kernel_rfl) (opens_int (by kernel_rfl))
  obtain ⟨d,hd,g4⟩:=hf 3 (ft:=3) (off:=3) (K:=Kd.int .i64) (by kernel_rfl) (by kernel_rfl) (opens_int (by kernel_rfl))
  obtain ⟨e,he,g5⟩:=hf 4 (ft:=3) (off:=4) (K:=Kd.int .i64) (by kernel_rfl) (by kernel_rfl) (opens_int (by kernel_rfl))
  have hl3:cs.length=5:=hl.trans (by kernel_rfl)
  match cs,hl3 with
  | [x,y,z,u,v],_ =>
    have ha : [x]=[.int .u8 a]:=ha
    have hb : [y]=[.int .i64 b]:=hb
    have hc : [z]=[.int .i64 c]:=hc
    have hd : [u]=[.int .i64 d]:=hd
    have he : [v]=[.int .i64 e]:=he
    obtain ⟨m,rfl,hm⟩:=u8_nat g1
    exact ⟨⟨(m:Int),b,c,d,e⟩,by cases ha;cases hb;cases hc;cases hd;cases he;rfl,⟨by dsimp only;omega,by dsimp only;omega⟩,i64_range g2,i64_range g3,i64_range g4,i64_range g5⟩
structure gProg (p:Prog):Prop where
  ver:isI p.ver
  regs:isI p.regs
  binds:isI p.binds
  names:∀ s∈p.names,s.size<=maxLen
  consts:∀ v∈p.consts,good v
  curs:∀ c∈p.curs,gCur c
  sorts:∀ s∈p.sorts,gSrt s
  tots:∀ t∈p.tots,gTot t
  code:∀ i∈p.code,gIns i
theorem okWide_struct {P:Program} {w:World} {r:Reach} {base:Nat} {t:TypeId} {fs:Array Field} {v:Value} (ht:P.underlying t=some (.struct fs)) (h:Value.okWide P w r base t v):∃ cs,v=.agg cs/\cs.size=P.cellsOf t:=by
  unfold Value.okWide at h
  rw [ht] at h
  cases v<;>simp at h
  exact ⟨_,rfl,h.1⟩
set_option maxRecDepth 10000 in
theorem arg_prog {H:Type} {enc:TypeId×Value->H} {W:World} {r:Reach} {base:Nat} {v:Value} {d:DataW H} {ps:List MemPlace}
    (hval:Value.okWide Tryz.prog W r base 29 v) (h:DataW.Trod enc Tryz.prog W 0 (fun _=>true) true 29 v d ps):∃ p a,v=pagg p a/\PIm W p a/\gProg p:=by
  obtain ⟨arr,rfl,hs⟩:=okWide_struct (fs:=sfs Tryz.prog 29) (by kernel_rfl) hval
  obtain ⟨fuel,hf⟩:=h
  obtain ⟨hl,hf⟩:=opens_fields (by kernel_rfl) hf
  obtain ⟨ver,h0,g0⟩:=hf 0 (ft:=3) (off:=0) (K:=Kd.int .i64) (by kernel_rfl) (by kernel_rfl) (opens_int (by kernel_rfl))
  obtain ⟨regs,h1,g1⟩:=hf 1 (ft:=3) (off:=1) (K:=Kd.int .i64) (by kernel_rfl) (by kernel_rfl) (opens_int (by kernel_rfl))
  obtain ⟨binds,h2,g2⟩:=hf 2 (ft:=3) (off:=2) (K:=Kd.int .i64) (by kernel_rfl) (by kernel_rfl) (opens_int (by kernel_rfl))
  obtain ⟨names,⟨A3,c3,h3,k3,i3⟩,m3,g3⟩:=hf 3 (ft:=22) (off:=3) (K:=Kd.slice Kd.str KStr_pos) (by kernel_rfl) (by kernel_rfl) (opens_slice (by kernel_rfl) (by kernel_rfl) KStr_pos (opens_str (t:=9) (by kernel_rfl)))
  obtain ⟨consts,⟨A4,c4,h4,k4,i4⟩,m4,g4⟩:=hf 4 (ft:=23) (off:=4) (K:=Kd.slice KV KV_pos) (by kernel_rfl) (by kernel_rfl) (opens_slice (by kernel_rfl) (by kernel_rfl) KV_pos opens_V)
  obtain ⟨curs,⟨A5,c5,h5,k5,i5⟩,m5,g5⟩:=hf 5 (ft:=24) (off:=5) (K:=Kd.slice KCur KCur_pos) (by kernel_rfl) (by kernel_rfl) (opens_slice (by kernel_rfl) (by kernel_rfl) KCur_pos opens_Cur)
  obtain ⟨sorts,⟨A6,c6,h6,k6,i6⟩,m6,g6⟩:=hf 6 (ft:=25) (off:=6) (K:=Kd.slice KSrt KSrt_pos) (by kernel_rfl) (by kernel_rfl) (opens_slice (by kernel_rfl) (by kernel_rfl) KSrt_pos opens_Srt)
  obtain ⟨tots,⟨A7,c7,h7,k7,i7⟩,m7,g7⟩:=hf 7 (ft:=26) (off:=7) (K:=Kd.slice KTot KTot_pos) (by kernel_rfl) (by kernel_rfl) (opens_slice (by kernel_rfl) (by kernel_rfl) KTot_pos opens_Tot)
  obtain ⟨code,⟨A8,c8,h8,k8,i8⟩,m8,g8⟩:=hf 8 (ft:=27) (off:=8) (K:=Kd.slice KIns KIns_pos) (by kernel_rfl) (by kernel_rfl) (opens_slice (by kernel_rfl) (by kernel_rfl) KIns_pos opens_Ins)
  have hl9:arr.size=9:=hs.trans (by kernel_rfl)
  obtain ⟨cs⟩:=arr
  have hl9:cs.length=9:=hl9
  match cs,hl9 with
  | [x0,x1,x2,x3,x4,x5,x6,x7,x8],_ =>
    have h0 : [x0]=[.int .i64 ver]:=h0
    have h1 : [x1]=[.int .i64 regs]:=h1
    have h2 : [x2]=[.int .i64 binds]:=h2
    have h3 : [x3]=[.slice A3 names.length c3]:=h3
    have h4 : [x4]=[.slice A4 consts.length c4]:=h4
    have h5 : [x5]=[.slice A5 curs.length c5]:=h5
    have h6 : [x6]=[.slice A6 sorts.length c6]:=h6
    have h7 : [x7]=[.slice A7 tots.length c7]:=h7
    have h8 : [x8]=[.slice A8 code.length c8]:=h8
    exact ⟨⟨ver,regs,binds,names,consts,curs,sorts,tots,code⟩,⟨A3,c3,A4,c4,A5,c5,A6,c6,A7,c7,A8,c8⟩,by cases h0;cases h1;cases h2;cases h3;cases h4;cases h5;cases h6;cases h7;cases h8;rfl,
      ⟨i3,i4,i5,i6,i7,i8,m3,m4,m5,m6,m7,m8,k8⟩,⟨i64_range g0,i64_range g1,i64_range g2,g3,g4,g5,g6,g7,g8⟩⟩
end Go.Proofs.YtaifphjenebgoaaGreatDoor
set_option linter.unusedVariables false
set_option linter.unusedSimpArgs false
namespace Go.Proofs.YtaifphjenebgoaaGreatDoor
open Go Go.Sx R1 K15
def constE (v:V):List UInt8:=(putR [v]).1
theorem constE_len (v:V):(constE v).length<=1048576:=by
  unfold constE putR
  split
  · simp
  · split
    · simp
    · dsimp only;omega
structure WS (wb u:World) (g:Nat) (A:Option Addr) (c:Nat) (l:List UInt8):Prop where
  wr:Wr u g A c l
  ext:Ext wb u
  new:New wb A
  ge:wb.heap.size<=g
section
variable {wb u v:World} {g:Nat} {A A':Option Addr} {c c':Nat} {l l':List UInt8}
theorem WS.step (h:WS wb u g A c l) (h':Wr v g A' c' l') (q:WG g A A' u v):WS wb v g A' c' l' :=
  ⟨h',h.ext.trans q.fr (fun _ _ h=>h) (fun k hk hb=>hb.elim (fun e=>by have:=h.ge;omega) (fun hA=>absurd hk (Nat.not_lt.2 (h.new k hA)))),fun k hk=>(q.sub k hk).elim (h.new k) (fun hge=>Nat.le_trans h.ext.size hge),h.ge⟩
theorem WS.up (h:WS wb u g A c l) (e:Ext u v):WS wb v g A c l:=⟨h.wr.ext e,h.ext.trans' e,h.new,h.ge⟩
theorem WG.off (q:WG g A A' u v) {k:Nat} (hn : ¬ WO g A k) (hlt:k<u.heap.size) : ¬ WO g A' k:=fun h=>h.elim (fun e=>hn (.inl e)) (fun hA=>(q.sub k hA).elim (fun h=>hn (.inr h)) (fun hge=>absurd hlt (Nat.not_lt.2 hge)))
theorem WS.puts (h:WS wb u g A c l) {ns:List Int} {e g2:Nat} {u2:World} (f:Fresh u g2 u2 (ns.map (Value.int .i64)) e) (hn:∀ n∈ns,okN n) (h100:ns.length<=100) (hl:l.length<=100000000000000) {d:Nat} :
    CallsV Tryz.prog 25 #[.pointer (some ⟨g,0,none⟩),.slice (some ⟨g2,0,none⟩) ns.length d] u2 fun r w'=>r=.tuple #[]/\∃ A' c',WS wb w' g A' c' (l++ns.flatMap K15.eI)/\WG g A A' u w':=by
  have hge:=f.ge
  refine (wput_spec (h.wr.ext f.ext) (ints_fresh f (fun hk=>by have:=h.wr.lt _ hk;omega) h100) hn (by omega)).mono ?_
  rintro _ w' ⟨rfl,A',c',h',q⟩
  exact ⟨rfl,A',c',(h.up f.ext).step h' q,(WG.ofExt f.ext).trans q⟩
theorem WS.flags (h:WS wb u g A c l) {bs:List Bool} {e g2:Nat} {u2:World} (f:Fresh u g2 u2 (bs.map Value.bool) e) (h100:bs.length<=100) (hl:l.length<=100000000000000) {d:Nat} :
    CallsV Tryz.prog 29 #[.pointer (some ⟨g,0,none⟩),.slice (some ⟨g2,0,none⟩) bs.length d] u2 fun r w'=>r=.tuple #[]/\∃ A' c',WS wb w' g A' c' (l++bs.flatMap eF)/\WG g A A' u w':=by
  have hge:=f.ge
  refine (wflag_spec (h.wr.ext f.ext) (bools_fresh f (fun hk=>by have:=h.wr.lt _ hk;omega) h100) (by omega)).mono ?_
  rintro _ w' ⟨rfl,A',c',h',q⟩
  exact ⟨rfl,A',c',(h.up f.ext).step h' q,(WG.ofExt f.ext).trans q⟩
theorem WS.text (h:WS wb u g A c l) (s:ByteArray) (hs:s.size<=1000) (hl:l.length<=100000000000000) :
    CallsV Tryz.prog 26 #[.pointer (some ⟨g,0,none⟩),.string s] u fun r w'=>r=.tuple #[]/\∃ A' c',WS wb w' g A' c' (l++eS s)/\WG g A A' u w':=by
  refine (wtext_spec h.wr s (by omega)).mono ?_
  rintro _ w' ⟨rfl,A',c',h',q⟩
  exact ⟨rfl,A',c',h.step h' q,q⟩
end
end Go.Proofs.YtaifphjenebgoaaGreatDoor
set_option linter.unusedVariables false
set_option linter.unusedSimpArgs false
namespace Go.Proofs.YtaifphjenebgoaaGreatDoor
open Go Go.Sx R1 K15
theorem flat1 (n:Int) : [n].flatMap K15.eI=K15.eI n:=by simp
theorem takeLe {α:Type} {f : α->List UInt8} (xs:List α) (m:Nat):((xs.take m).flatMap f).length<=(xs.flatMap f).length:=by
  conv=>rhs;rw [<- List.take_append_drop m xs,List.flatMap_append,List.length_append]
  omega
abbrev curC (c:Cur):List Value:=[.string c.name,.bool c.ix,.bool c.wr]
abbrev totC (c:Tot):List Value:=[.string c.fn,.bool c.dist]
theorem WS.offNew {wb u:World} {g:Nat} {A:Option Addr} {c:Nat} {l:List UInt8} (h:WS wb u g A c l):∀ k,k<wb.heap.size->¬ WO g A k:=fun k hk hb=>hb.elim (fun e=>by have:=h.ge;omega) (fun hA=>absurd hk (Nat.not_lt.2 (h.new k hA)))
set_option maxRecDepth 20000 in
set_option maxHeartbeats 4000000 in
theorem Bytes_spec {w:World} {p:Prog} {a:PAd} (h:PIm w p a) (hT:Tab w) (gp:gProg p) :
    CallsV Tryz.prog 8 #[pagg p a] w fun r w'=>∃ A c,r=.tuple #[.slice A (bytesR constE p).1.length c,.int .i64 (bytesR constE p).2]/\OwnB w' A c (bytesR constE p).1/\Ext w w'/\New w A:=by
  refine code_Bytes.calls okay ?_
  unfold code_Bytes.W
  intro g w1 f
  repeat (first|refine ⟨_,Blk.cell (f.blk) (by rfl),?_⟩|refine ⟨_,_,_,Blk.cell (f.blk) (by rfl),?_⟩)
  refine (Check_spec (h.ext f.ext) (hT.ext f.ext)).mono ?_
  rintro _ w2 ⟨rfl,k2⟩
  have e2:=f.ext.trans' k2
  have bp:=f.blk.ext k2
  clear f
  cases hc:checkP p with
  | false =>
    have hR:bytesR constE p=([],140):=by unfold bytesR;rw [if_pos hc]
    rw [hR]
    exact ⟨_,rfl,brn (fun _=>⟨none,0,rfl,OwnB.nil _,e2,New.none _⟩) (fun h=>absurd h (by decide))⟩
  | true =>
  have C:=checked hc
  have S:=C.few
  have FF:=C.fine (fun i hi=>(gp.code i hi).1) gp.consts
  have s1:=S.l1
  have s2:=S.l2
  have s3:=S.l3
  have s4:=S.l4
  have s5:=S.l5
  have s6:=S.l6
  refine ⟨_,rfl,brn (fun h=>absurd rfl h) (fun _=>?_)⟩
  have hh:=h.ext e2
  intro g1 w3 f3
  have ws:WS w2 w3 g1 none 0 []:=⟨⟨OwnB.nil _,f3.blk,fun h=>(ownB_none _ h).elim⟩,f3.ext,New.none _,f3.ge⟩
  repeat (first|refine ⟨_,Blk.cell (bp.ext f3.ext) (by rfl),?_⟩|refine ⟨_,_,_,Blk.cell (bp.ext f3.ext) (by rfl),?_⟩)
  intro g2 w4 f4
  refine (ws.puts (ns:=[p.ver,p.regs,p.binds,(p.names.length:Int)]) f4 (fun n hn=>?_) (by simp) (by simp)).mono ?_
  · simp only [List.mem_cons,List.not_mem_nil,or_false] at hn
    rcases hn with rfl|rfl|rfl|rfl
    · exact FF.ver
    · exact FF.regs
    · exact FF.binds
    · unfold okN;omega
  rintro _ w5 ⟨rfl,A5,c5,ws5,_⟩
  refine ⟨rfl,?_⟩
  obtain ⟨l0,hl0⟩:∃ l,l=K15.eI p.ver++(K15.eI p.regs++(K15.eI p.binds++K15.eI p.names.length)):=⟨_,rfl⟩
  rw [show []++[p.ver,p.regs,p.binds,(p.names.length:Int)].flatMap K15.eI=l0 by rw [hl0];simp] at ws5
  have hb0:l0.length<=40:=by
    have h1:=eI_len FF.ver
    have h2:=eI_len FF.regs
    have h3:=eI_len FF.binds
    have h4:=eI_len (n:=(p.names.length:Int)) (by unfold okN;omega)
    rw [hl0];simp only [List.length_append];omega
  clear f3 f4 ws
  repeat (first|refine ⟨_,Blk.cell (bp.ext ws5.ext) (by rfl),?_⟩|refine ⟨_,_,_,Blk.cell (bp.ext ws5.ext) (by rfl),?_⟩)
  refine ⟨fun x u=>∃ j:Nat,j<=p.names.length/\x=(j:Int)/\∃ A c,WS w2 u g1 A c (l0++(p.names.take j).flatMap eS),fun x _=>((p.names.length:Int)-x).toNat,⟨0,by omega,rfl,A5,c5,by simpa using ws5⟩,?_⟩
  rintro _ u ⟨j,hj,rfl,A6,c6,ws6⟩
  have t6:=takeB (f:=eS) p.names j S.l1 (fun s hs=>eS_len (S.names s hs))
  refine brd (fun hlt=>?_) (fun hge=>?_)
  · have hjl:j<p.names.length:=by omega
    obtain ⟨ad,hA,cs,hrep,hcell⟩:=(hh.ext ws6.ext).names.get1 hjl
    have hcs:cs=[.string p.names[j]]:=hrep
    subst hcs
    refine ⟨ad,hA,⟨by omega,by omega⟩,_,hcell 0 _ rfl,?_⟩
    refine (ws6.text p.names[j] (by have:=S.names _ (List.getElem_mem hjl);omega) (by rw [List.length_append];omega)).mono ?_
    rintro _ v ⟨rfl,A7,c7,ws7,_⟩
    rw [wi ((j:Int)+1) (by omega) (by omega)]
    refine ⟨rfl,⟨j+1,by omega,rfl,A7,c7,?_⟩,by dsimp only;omega⟩
    rw [flatS hjl,<- List.append_assoc];exact ws7
  obtain rfl:j=p.names.length:=by omega
  rw [List.take_length] at ws6 t6
  obtain ⟨l1,hl1⟩:∃ l,l=l0++p.names.flatMap eS:=⟨_,rfl⟩
  rw [<- hl1] at ws6
  have hb1:l1.length<=50000:=by rw [hl1,List.length_append];omega
  clear t6 ws5
  -- constants
  repeat (first|refine ⟨_,Blk.cell (bp.ext ws6.ext) (by rfl),?_⟩|refine ⟨_,_,_,Blk.cell (bp.ext ws6.ext) (by rfl),?_⟩)
  intro g7 w7 f7
  refine (ws6.puts (ns:=[(p.consts.length:Int)]) f7 (fun n hn=>by simp only [List.mem_cons,List.not_mem_nil,or_false] at hn;subst hn;unfold okN;omega) (by simp) (by omega)).mono ?_
  rintro _ w8 ⟨rfl,A8,c8,ws8,_⟩
  refine ⟨rfl,?_⟩
  obtain ⟨l2,hl2⟩:∃ l,l=l1++K15.eI p.consts.length:=⟨_,rfl⟩
  rw [flat1,<- hl2] at ws8
  have hb2:l2.length<=50010:=by
    have:=eI_len (n:=(p.consts.length:Int)) (by unfold okN;omega)
    rw [hl2,List.length_append];omega
  clear f7 ws6
  have hP2:bytesP constE p=l2++(p.consts.flatMap (fun v=>eB (constE v))++(eL eCur p.curs++(eL eSrt p.sorts++(eL eTot p.tots++eL eIns p.code)))):=by
    rw [hl2,hl1,hl0];simp [bytesP,eL,List.append_assoc]
  have hcl:∀ v,(eB (constE v)).length<=1048586:=fun v=>by
    have h1:=constE_len v
    have:=eB_len (l:=constE v) (by omega)
    omega
  repeat (first|refine ⟨_,Blk.cell (bp.ext ws8.ext) (by rfl),?_⟩|refine ⟨_,_,_,Blk.cell (bp.ext ws8.ext) (by rfl),?_⟩)
  refine ⟨fun x u=>∃ j:Nat,j<=p.consts.length/\x=(j:Int)/\∃ A c,WS w2 u g1 A c (l2++(p.consts.take j).flatMap (fun v=>eB (constE v))),fun x _=>((p.consts.length:Int)-x).toNat,⟨0,by omega,rfl,A8,c8,by simpa using ws8⟩,?_⟩
  rintro _ u ⟨j,hj,rfl,A9,c9,ws9⟩
  have t9:=takeB (f:=fun v=>eB (constE v)) p.consts j S.l2 (fun v _=>hcl v)
  refine brd (fun hlt=>?_) (fun hge=>?_)
  · have hjl:j<p.consts.length:=by omega
    obtain ⟨ad,hA,cs,hrep,hcell⟩:=(hh.ext ws9.ext).consts.get1 hjl
    have hcs:cs=vc p.consts[j]:=hrep
    subst hcs
    have hgv:=gp.consts _ (List.getElem_mem hjl)
    refine ⟨ad,hA,⟨by omega,by omega⟩,_,by rw [add_add];exact hcell 0 _ rfl,_,by rw [add_add];exact hcell 1 _ rfl,_,by rw [add_add];exact hcell 2 _ rfl,?_⟩
    intro gx u1 fx
    refine ⟨fx.blk.stOK (vc p.consts[j]) 0 (by simp [vc]),fun u2 hu2=>?_⟩
    obtain ⟨bx,qx⟩:=set0 fx.blk (cs:=vc p.consts[j]) hu2 rfl
    have ex:Ext u u2:=fx.ext.trans qx (fun _ _ h=>h) (fun k hk e=>by have:=fx.ge;omega)
    repeat (first|refine ⟨_,Blk.cell (bx) (by rfl),?_⟩|refine ⟨_,_,_,Blk.cell (bx) (by rfl),?_⟩)
    intro gy u3 fy
    have iy:Imm KV NoB u3 (some ⟨gy,0,none⟩) [p.consts[j]]:=fy.imm (fun h=>h) KV_pos rfl (by simp [maxLen]) (by
      intro i a h
      rcases i with _|i
      · simp at h;subst h;rfl
      · simp at h)
    refine (Put_spec iy (by simp [maxLen]) (fun v hv=>by simp only [List.mem_cons,List.not_mem_nil,or_false] at hv;subst hv;exact hgv)).mono ?_
    rintro _ u4 ⟨B,d,rfl,ho,ey,nB⟩
    have ws10:=ws9.up ((ex.trans' fy.ext).trans' ey)
    have hl10:=constE_len p.consts[j]
    refine ⟨_,_,_,_,rfl,_,rfl,_,_,_,ws10.wr.blk.cell rfl,?_⟩
    refine (Blob_spec ws10.wr.own (ho.imm (Ω:=ownB A9) (fun k hk hA=>by have h1:=nB k hk;have h2:=ws9.wr.lt k (.inr hA);have h3:=(ex.trans' fy.ext).size;omega)) (by rw [List.length_append];show _+(constE p.consts[j]).length+10<=_;omega)).mono ?_
    rintro _ u5 ⟨A11,c11,rfl,ho11,hg11⟩
    obtain ⟨q0,q1⟩:=ws10.wr.push ho11 hg11
    refine ⟨_,_,_,rfl,_,rfl,q0,fun u6 hu6=>?_⟩
    obtain ⟨q1,q2⟩:=q1 u6 hu6
    have ws12:=ws10.step q1 q2
    have hst:l2++(p.consts.take j).flatMap (fun v=>eB (constE v))++encB (putR [p.consts[j]]).1=l2++(p.consts.take (j+1)).flatMap (fun v=>eB (constE v)):=by rw [flatS hjl,<- List.append_assoc];rfl
    rw [hst] at ws12
    refine ⟨_,rfl,_,_,_,q1.blk.cell rfl,?_⟩
    rw [hst]
    refine brd (fun hbig=>?_) (fun _=>?_)
    · have hR:bytesR constE p=([],3):=by
        unfold bytesR
        rw [hc,if_neg (by decide),if_pos]
        have:=takeLe (f:=fun v=>eB (constE v)) p.consts (j+1)
        rw [hP2]
        simp only [List.length_append] at *
        omega
      rw [hR]
      exact ⟨none,0,rfl,OwnB.nil _,e2.trans' ws12.ext,New.none _⟩
    · rw [wi ((j:Int)+1) (by omega) (by omega)]
      exact ⟨⟨j+1,by omega,rfl,A11,c11,ws12⟩,by dsimp only;omega⟩
  obtain rfl:j=p.consts.length:=by omega
  rw [List.take_length] at ws9 t9
  obtain ⟨l3,hl3⟩:∃ l,l=l2++p.consts.flatMap (fun v=>eB (constE v)):=⟨_,rfl⟩
  rw [<- hl3] at ws9
  have hb3:l3.length<=2000000000:=by rw [hl3,List.length_append];omega
  clear t9 ws8
  -- cursors
  repeat (first|refine ⟨_,Blk.cell (bp.ext ws9.ext) (by rfl),?_⟩|refine ⟨_,_,_,Blk.cell (bp.ext ws9.ext) (by rfl),?_⟩)
  intro g7 w7 f7
  refine (ws9.puts (ns:=[(p.curs.length:Int)]) f7 (fun n hn=>by simp only [List.mem_cons,List.not_mem_nil,or_false] at hn;subst hn;unfold okN;omega) (by simp) (by omega)).mono ?_
  rintro _ w8 ⟨rfl,A8,c8,ws8,_⟩
  refine ⟨rfl,?_⟩
  obtain ⟨l4,hl4⟩:∃ l,l=l3++K15.eI p.curs.length:=⟨_,rfl⟩
  rw [flat1,<- hl4] at ws8
  have hb4:l4.length<=2000000010:=by
    have:=eI_len (n:=(p.curs.length:Int)) (by unfold okN;omega)
    rw [hl4,List.length_append];omega
  clear f7 ws9
  repeat (first|refine ⟨_,Blk.cell (bp.ext ws8.ext) (by rfl),?_⟩|refine ⟨_,_,_,Blk.cell (bp.ext ws8.ext) (by rfl),?_⟩)
  refine ⟨fun x u=>∃ j:Nat,j<=p.curs.length/\x=(j:Int)/\∃ A c,WS w2 u g1 A c (l4++(p.curs.take j).flatMap eCur),fun x _=>((p.curs.length:Int)-x).toNat,⟨0,by omega,rfl,A8,c8,by simpa using ws8⟩,?_⟩
  rintro _ u ⟨j,hj,rfl,A9,c9,ws9⟩
  have t9:=takeB (f:=eCur) p.curs j S.l3 (fun c hc=>eCur_len (S.curs c hc))
  refine brd (fun hlt=>?_) (fun hge=>?_)
  · have hjl:j<p.curs.length:=by omega
    obtain ⟨ad,hA,cs,hrep,hcell⟩:=(hh.ext ws9.ext).curs.get1 hjl
    have hcs:cs=curC p.curs[j]:=hrep
    subst hcs
    have hsz:=S.curs _ (List.getElem_mem hjl)
    have hes:=eS_len hsz
    refine ⟨ad,hA,⟨by omega,by omega⟩,_,by rw [add_add];exact hcell 0 _ rfl,_,by rw [add_add];exact hcell 1 _ rfl,_,by rw [add_add];exact hcell 2 _ rfl,?_⟩
    intro gx u1 fx
    refine ⟨fx.blk.stOK (curC p.curs[j]) 0 (by simp),fun u2 hu2=>?_⟩
    obtain ⟨bx,qx⟩:=set0 fx.blk (cs:=curC p.curs[j]) hu2 rfl
    have ex:Ext u u2:=fx.ext.trans qx (fun _ _ h=>h) (fun k hk e=>by have:=fx.ge;omega)
    have nx : ¬ WO g1 A9 gx:=fun hk=>by have:=ws9.wr.lt _ hk;have:=fx.ge;omega
    repeat (first|refine ⟨_,Blk.cell (bx) (by rfl),?_⟩|refine ⟨_,_,_,Blk.cell (bx) (by rfl),?_⟩)
    refine ((ws9.up ex).text p.curs[j].name (by omega) (by rw [List.length_append];omega)).mono ?_
    rintro _ u3 ⟨rfl,A3,c3,ws3,q3⟩
    have bx3:=bx.keep q3.fr nx
    refine ⟨rfl,?_⟩
    repeat (first|refine ⟨_,Blk.cell (bx3) (by rfl),?_⟩|refine ⟨_,_,_,Blk.cell (bx3) (by rfl),?_⟩)
    intro gy u4 fy
    refine (ws3.flags (bs:=[p.curs[j].ix,p.curs[j].wr]) fy (by simp) (by simp only [List.length_append];omega)).mono ?_
    rintro _ u5 ⟨rfl,A7,c7,ws7,_⟩
    rw [wi ((j:Int)+1) (by omega) (by omega)]
    refine ⟨rfl,⟨j+1,by omega,rfl,A7,c7,?_⟩,by dsimp only;omega⟩
    have hst:l4++(p.curs.take j).flatMap eCur++eS p.curs[j].name++[p.curs[j].ix,p.curs[j].wr].flatMap eF=l4++(p.curs.take (j+1)).flatMap eCur:=by rw [flatS hjl];simp [eCur,List.append_assoc]
    rw [hst] at ws7
    exact ws7
  obtain rfl:j=p.curs.length:=by omega
  rw [List.take_length] at ws9 t9
  obtain ⟨l5,hl5⟩:∃ l,l=l4++p.curs.flatMap eCur:=⟨_,rfl⟩
  rw [<- hl5] at ws9
  have hb5:l5.length<=2000010000:=by rw [hl5,List.length_append];omega
  clear t9 ws8
  -- sorters
  repeat (first|refine ⟨_,Blk.cell (bp.ext ws9.ext) (by rfl),?_⟩|refine ⟨_,_,_,Blk.cell (bp.ext ws9.ext) (by rfl),?_⟩)
  intro g7 w7 f7
  refine (ws9.puts (ns:=[(p.sorts.length:Int)]) f7 (fun n hn=>by simp only [List.mem_cons,List.not_mem_nil,or_false] at hn;subst hn;unfold okN;omega) (by simp) (by omega)).mono ?_
  rintro _ w8 ⟨rfl,A8,c8,ws8,_⟩
  refine ⟨rfl,?_⟩
  obtain ⟨l6,hl6⟩:∃ l,l=l5++K15.eI p.sorts.length:=⟨_,rfl⟩
  rw [flat1,<- hl6] at ws8
  have hb6:l6.length<=2000010010:=by
    have:=eI_len (n:=(p.sorts.length:Int)) (by unfold okN;omega)
    rw [hl6,List.length_append];omega
  clear f7 ws9
  repeat (first|refine ⟨_,Blk.cell (bp.ext ws8.ext) (by rfl),?_⟩|refine ⟨_,_,_,Blk.cell (bp.ext ws8.ext) (by rfl),?_⟩)
  refine ⟨fun x u=>∃ j:Nat,j<=p.sorts.length/\x=(j:Int)/\∃ A c,WS w2 u g1 A c (l6++(p.sorts.take j).flatMap eSrt),fun x _=>((p.sorts.length:Int)-x).toNat,⟨0,by omega,rfl,A8,c8,by simpa using ws8⟩,?_⟩
  rintro _ u ⟨j,hj,rfl,A9,c9,ws9⟩
  have t9:=takeB (f:=eSrt) p.sorts j S.l4 (fun c hc=>eSrt_len (S.sorts c hc))
  refine brd (fun hlt=>?_) (fun hge=>?_)
  · have hjl:j<p.sorts.length:=by omega
    obtain ⟨ad,hA,cs,hrep,hcell⟩:=hh.sorts.get1 hjl
    obtain ⟨D,dd,hcs,hdd,hD⟩:=id hrep
    subst hcs
    have hcell:∀ (q:Nat) (y:Value),[Value.slice D p.sorts[j].desc.length dd,.int .i64 p.sorts[j].cols,.bool p.sorts[j].dist][q]?=some y->u.cell? (ad.add (j*KSrt.size+q))=some y:=fun q y hy=>Fr.cell ws9.ext (fun h=>h) (hcell q y hy)
    have hsz:=S.sorts _ (List.getElem_mem hjl)
    have hf1:=flatB (f:=eF) (M:=10) p.sorts[j].desc (fun v _=>eF_len v)
    have hok1:okN (p.sorts[j].desc.length:Int):=by unfold okN;omega
    have hok2:okN p.sorts[j].cols:=by unfold okN;omega
    have hi1:=eI_len hok1
    have hi2:=eI_len hok2
    refine ⟨ad,hA,⟨by omega,by omega⟩,_,_,_,by rw [add_add];exact hcell 0 _ rfl,_,by rw [add_add];exact hcell 1 _ rfl,_,by rw [add_add];exact hcell 2 _ rfl,?_⟩
    intro gx u1 fx
    refine ⟨fx.blk.stOK [Value.slice D p.sorts[j].desc.length dd,.int .i64 p.sorts[j].cols,.bool p.sorts[j].dist] 0 (by simp),fun u2 hu2=>?_⟩
    obtain ⟨bx,qx⟩:=set0 fx.blk hu2 rfl
    have ex:Ext u u2:=fx.ext.trans qx (fun _ _ h=>h) (fun k hk e=>by have:=fx.ge;omega)
    have nx : ¬ WO g1 A9 gx:=fun hk=>by have:=ws9.wr.lt _ hk;have:=fx.ge;omega
    repeat (first|refine ⟨_,Blk.cell (bx) (by rfl),?_⟩|refine ⟨_,_,_,Blk.cell (bx) (by rfl),?_⟩)
    intro gy u4 fy
    have wsa:=ws9.up ex
    refine (wsa.puts (ns:=[(p.sorts[j].desc.length:Int)]) fy (fun n hn=>by simp only [List.mem_cons,List.not_mem_nil,or_false] at hn;subst hn;exact hok1) (by simp) (by rw [List.length_append];omega)).mono ?_
    rintro _ u5 ⟨rfl,A7,c7,ws7,q7⟩
    rw [flat1] at ws7
    have bx7:=bx.keep q7.fr nx
    have nx7:=q7.off nx bx.lt
    refine ⟨rfl,?_⟩
    repeat (first|refine ⟨_,Blk.cell (bx7) (by rfl),?_⟩|refine ⟨_,_,_,Blk.cell (bx7) (by rfl),?_⟩)
    refine (wflag_spec ws7.wr (bs:=p.sorts[j].desc) (hD.keep KBo_pos (ws7.ext.stepTo ws7.offNew)) (by simp only [List.length_append];omega)).mono ?_
    rintro _ u6 ⟨rfl,Ab,cb,wrb,qb⟩
    have wsb:=ws7.step wrb qb
    have bxb:=bx7.keep qb.fr nx7
    have nxb:=qb.off nx7 bx7.lt
    refine ⟨rfl,?_⟩
    repeat (first|refine ⟨_,Blk.cell (bxb) (by rfl),?_⟩|refine ⟨_,_,_,Blk.cell (bxb) (by rfl),?_⟩)
    intro gz u7 fz
    refine (wsb.puts (ns:=[p.sorts[j].cols]) fz (fun n hn=>by simp only [List.mem_cons,List.not_mem_nil,or_false] at hn;subst hn;exact hok2) (by simp) (by simp only [List.length_append];omega)).mono ?_
    rintro _ u8 ⟨rfl,Ac,cc,wsc,qc⟩
    rw [flat1] at wsc
    have bxc:=bxb.keep qc.fr nxb
    refine ⟨rfl,?_⟩
    repeat (first|refine ⟨_,Blk.cell (bxc) (by rfl),?_⟩|refine ⟨_,_,_,Blk.cell (bxc) (by rfl),?_⟩)
    intro gv u9 fv
    refine (wsc.flags (bs:=[p.sorts[j].dist]) fv (by simp) (by simp only [List.length_append];omega)).mono ?_
    rintro _ u10 ⟨rfl,Ad,cd,wsd,_⟩
    rw [wi ((j:Int)+1) (by omega) (by omega)]
    refine ⟨rfl,⟨j+1,by omega,rfl,Ad,cd,?_⟩,by dsimp only;omega⟩
    have hst:l6++(p.sorts.take j).flatMap eSrt++K15.eI p.sorts[j].desc.length++p.sorts[j].desc.flatMap eF++K15.eI p.sorts[j].cols++[p.sorts[j].dist].flatMap eF=l6++(p.sorts.take (j+1)).flatMap eSrt:=by rw [flatS hjl];simp [eSrt,eL,List.append_assoc]
    rw [hst] at wsd
    exact wsd
  obtain rfl:j=p.sorts.length:=by omega
  rw [List.take_length] at ws9 t9
  obtain ⟨l7,hl7⟩:∃ l,l=l6++p.sorts.flatMap eSrt:=⟨_,rfl⟩
  rw [<- hl7] at ws9
  have hb7:l7.length<=2000020000:=by rw [hl7,List.length_append];omega
  clear t9 ws8
  -- totals
  repeat (first|refine ⟨_,Blk.cell (bp.ext ws9.ext) (by rfl),?_⟩|refine ⟨_,_,_,Blk.cell (bp.ext ws9.ext) (by rfl),?_⟩)
  intro g7 w7 f7
  refine (ws9.puts (ns:=[(p.tots.length:Int)]) f7 (fun n hn=>by simp only [List.mem_cons,List.not_mem_nil,or_false] at hn;subst hn;unfold okN;omega) (by simp) (by omega)).mono ?_
  rintro _ w8 ⟨rfl,A8,c8,ws8,_⟩
  refine ⟨rfl,?_⟩
  obtain ⟨l8,hl8⟩:∃ l,l=l7++K15.eI p.tots.length:=⟨_,rfl⟩
  rw [flat1,<- hl8] at ws8
  have hb8:l8.length<=2000020010:=by
    have:=eI_len (n:=(p.tots.length:Int)) (by unfold okN;omega)
    rw [hl8,List.length_append];omega
  clear f7 ws9
  repeat (first|refine ⟨_,Blk.cell (bp.ext ws8.ext) (by rfl),?_⟩|refine ⟨_,_,_,Blk.cell (bp.ext ws8.ext) (by rfl),?_⟩)
  refine ⟨fun x u=>∃ j:Nat,j<=p.tots.length/\x=(j:Int)/\∃ A c,WS w2 u g1 A c (l8++(p.tots.take j).flatMap eTot),fun x _=>((p.tots.length:Int)-x).toNat,⟨0,by omega,rfl,A8,c8,by simpa using ws8⟩,?_⟩
  rintro _ u ⟨j,hj,rfl,A9,c9,ws9⟩
  have t9:=takeB (f:=eTot) p.tots j S.l5 (fun c hc=>eTot_len (S.tots c hc))
  refine brd (fun hlt=>?_) (fun hge=>?_)
  · have hjl:j<p.tots.length:=by omega
    obtain ⟨ad,hA,cs,hrep,hcell⟩:=(hh.ext ws9.ext).tots.get1 hjl
    have hcs:cs=totC p.tots[j]:=hrep
    subst hcs
    have hsz:=S.tots _ (List.getElem_mem hjl)
    have hes:=eS_len hsz
    refine ⟨ad,hA,⟨by omega,by omega⟩,_,by rw [add_add];exact hcell 0 _ rfl,_,by rw [add_add];exact hcell 1 _ rfl,?_⟩
    intro gx u1 fx
    refine ⟨fx.blk.stOK (totC p.tots[j]) 0 (by simp),fun u2 hu2=>?_⟩
    obtain ⟨bx,qx⟩:=set0 fx.blk (cs:=totC p.tots[j]) hu2 rfl
    have ex:Ext u u2:=fx.ext.trans qx (fun _ _ h=>h) (fun k hk e=>by have:=fx.ge;omega)
    have nx : ¬ WO g1 A9 gx:=fun hk=>by have:=ws9.wr.lt _ hk;have:=fx.ge;omega
    repeat (first|refine ⟨_,Blk.cell (bx) (by rfl),?_⟩|refine ⟨_,_,_,Blk.cell (bx) (by rfl),?_⟩)
    refine ((ws9.up ex).text p.tots[j].fn (by omega) (by rw [List.length_append];omega)).mono ?_
    rintro _ u3 ⟨rfl,A3,c3,ws3,q3⟩
    have bx3:=bx.keep q3.fr nx
    refine ⟨rfl,?_⟩
    repeat (first|refine ⟨_,Blk.cell (bx3) (by rfl),?_⟩|refine ⟨_,_,_,Blk.cell (bx3) (by rfl),?_⟩)
    intro gy u4 fy
    refine (ws3.flags (bs:=[p.tots[j].dist]) fy (by simp) (by simp only [List.length_append];omega)).mono ?_
    rintro _ u5 ⟨rfl,A7,c7,ws7,_⟩
    rw [wi ((j:Int)+1) (by omega) (by omega)]
    refine ⟨rfl,⟨j+1,by omega,rfl,A7,c7,?_⟩,by dsimp only;omega⟩
    have hst:l8++(p.tots.take j).flatMap eTot++eS p.tots[j].fn++[p.tots[j].dist].flatMap eF=l8++(p.tots.take (j+1)).flatMap eTot:=by rw [flatS hjl];simp [eTot,List.append_assoc]
    rw [hst] at ws7
    exact ws7
  obtain rfl:j=p.tots.length:=by omega
  rw [List.take_length] at ws9 t9
  obtain ⟨l9,hl9⟩:∃ l,l=l8++p.tots.flatMap eTot:=⟨_,rfl⟩
  rw [<- hl9] at ws9
  have hb9:l9.length<=2000040000:=by rw [hl9,List.length_append];omega
  clear t9 ws8
  -- the code
  repeat (first|refine ⟨_,Blk.cell (bp.ext ws9.ext) (by rfl),?_⟩|refine ⟨_,_,_,Blk.cell (bp.ext ws9.ext) (by rfl),?_⟩)
  intro g7 w7 f7
  refine (ws9.puts (ns:=[(p.code.length:Int)]) f7 (fun n hn=>by simp only [List.mem_cons,List.not_mem_nil,or_false] at hn;subst hn;unfold okN;omega) (by simp) (by omega)).mono ?_
  rintro _ w8 ⟨rfl,A8,c8,ws8,_⟩
  refine ⟨rfl,?_⟩
  obtain ⟨l10,hl10⟩:∃ l,l=l9++K15.eI p.code.length:=⟨_,rfl⟩
  rw [flat1,<- hl10] at ws8
  have hb10:l10.length<=2000040010:=by
    have:=eI_len (n:=(p.code.length:Int)) (by unfold okN;omega)
    rw [hl10,List.length_append];omega
  clear f7 ws9
  repeat (first|refine ⟨_,Blk.cell (bp.ext ws8.ext) (by rfl),?_⟩|refine ⟨_,_,_,Blk.cell (bp.ext ws8.ext) (by rfl),?_⟩)
  refine ⟨fun x u=>∃ j:Nat,j<=p.code.length/\x=(j:Int)/\∃ A c,WS w2 u g1 A c (l10++(p.code.take j).flatMap eIns),fun x _=>((p.code.length:Int)-x).toNat,⟨0,by omega,rfl,A8,c8,by simpa using ws8⟩,?_⟩
  rintro _ u ⟨j,hj,rfl,A9,c9,ws9⟩
  have t9:=takeB (f:=eIns) p.code j S.l6 (fun c hc=>eIns_len (FF.code c hc))
  refine brd (fun hlt=>?_) (fun hge=>?_)
  · have hjl:j<p.code.length:=by omega
    obtain ⟨ad,hA,cs,hrep,hcell⟩:=(hh.ext ws9.ext).code.get1 hjl
    have hcs:cs=insC p.code[j]:=hrep
    subst hcs
    have hfi:=FF.code _ (List.getElem_mem hjl)
    have hgi:=(gp.code _ (List.getElem_mem hjl)).1
    refine ⟨ad,hA,⟨by omega,by omega⟩,_,by rw [add_add];exact hcell 0 _ rfl,_,by rw [add_add];exact hcell 1 _ rfl,_,by rw [add_add];exact hcell 2 _ rfl,_,by rw [add_add];exact hcell 3 _ rfl,_,by rw [add_add];exact hcell 4 _ rfl,?_⟩
    intro gx u1 fx
    refine ⟨fx.blk.stOK (insC p.code[j]) 0 (by simp),fun u2 hu2=>?_⟩
    obtain ⟨bx,qx⟩:=set0 fx.blk (cs:=insC p.code[j]) hu2 rfl
    have ex:Ext u u2:=fx.ext.trans qx (fun _ _ h=>h) (fun k hk e=>by have:=fx.ge;omega)
    repeat (first|refine ⟨_,Blk.cell (bx) (by rfl),?_⟩|refine ⟨_,_,_,Blk.cell (bx) (by rfl),?_⟩)
    rw [wi p.code[j].op (by omega) (by omega)]
    intro gy u4 fy
    refine ((ws9.up ex).puts (ns:=[p.code[j].op,p.code[j].a,p.code[j].b,p.code[j].c,p.code[j].d]) fy (fun n hn=>?_) (by simp) (by rw [List.length_append];omega)).mono ?_
    · simp only [List.mem_cons,List.not_mem_nil,or_false] at hn
      rcases hn with rfl|rfl|rfl|rfl|rfl
      · exact hfi.1
      · exact hfi.2.1
      · exact hfi.2.2.1
      · exact hfi.2.2.2.1
      · exact hfi.2.2.2.2
    rintro _ u5 ⟨rfl,A7,c7,ws7,_⟩
    rw [wi ((j:Int)+1) (by omega) (by omega)]
    refine ⟨rfl,⟨j+1,by omega,rfl,A7,c7,?_⟩,by dsimp only;omega⟩
    have hst:l10++(p.code.take j).flatMap eIns++[p.code[j].op,p.code[j].a,p.code[j].b,p.code[j].c,p.code[j].d].flatMap K15.eI=l10++(p.code.take (j+1)).flatMap eIns:=by rw [flatS hjl];simp [eIns,List.append_assoc]
    rw [hst] at ws7
    exact ws7
  obtain rfl:j=p.code.length:=by omega
  rw [List.take_length] at ws9
  have hP:l10++p.code.flatMap eIns=bytesP constE p:=by
    rw [hl10,hl9,hl8,hl7,hl6,hl5,hl4,hl3,hl2,hl1,hl0];simp [bytesP,eL,List.append_assoc]
  rw [hP] at ws9
  refine ⟨_,rfl,_,_,_,ws9.wr.blk.cell rfl,?_⟩
  have eR:bytesR constE p=if 1048576<(bytesP constE p).length then ([],3) else (bytesP constE p,0):=by unfold bytesR;rw [hc,if_neg (by decide)]
  rw [eR]
  refine brd (fun hbig=>?_) (fun hsm=>?_)
  · rw [if_pos (by omega)]
    exact ⟨none,0,rfl,OwnB.nil _,e2.trans' ws9.ext,New.none _⟩
  · rw [if_neg (by omega)]
    exact ⟨_,rfl,_,_,_,ws9.wr.blk.cell rfl,A9,c9,rfl,ws9.wr.own,e2.trans' ws9.ext,ws9.new.ext e2⟩
end Go.Proofs.YtaifphjenebgoaaGreatDoor
set_option linter.unusedVariables false
set_option linter.unusedSimpArgs false
namespace Go.Proofs.YtaifphjenebgoaaGreatDoor
open Go Go.Sx R1 K15
theorem str_iff (x y:ByteArray):(ByteArray.toList x == ByteArray.toList y)=true<->x=y:=by
  obtain ⟨⟨l⟩⟩:=x;obtain ⟨⟨m⟩⟩:=y
  rw [show (ByteArray.toList ⟨⟨l⟩⟩ == ByteArray.toList ⟨⟨m⟩⟩)=decide (l=m) from eq_str l m]
  simp
theorem takes_eq {α:Type} {l m:List α} {j:Nat} (h:l.take j=m.take j) (h1:l.length<=j) (h2:m.length<=j):l=m:=by
  rw [List.take_of_length_le h1,List.take_of_length_le h2] at h;exact h
theorem takes_step {α:Type} {l m:List α} {j:Nat} (h:l.take j=m.take j) (h1:j<l.length) (h2:j<m.length) (he:l[j]=m[j]):l.take (j+1)=m.take (j+1):=by
  rw [List.take_add_one,List.take_add_one,h,List.getElem?_eq_getElem h1,List.getElem?_eq_getElem h2,he]
theorem at1 {α:Type} {K:Kd α} {w:World} {A:Option Addr} {l:List α} (h:Imm K NoB w A l) {j:Nat} (hj:j<l.length) :
    ∃ ad,A=some ad/\∃ cs,K.rep NoB w l[j] cs/\∀ v,Ext w v->∀ (q:Nat) (y:Value),cs[q]?=some y->v.cell? ((ad.add (j*K.size)).add q)=some y:=by
  obtain ⟨ad,hA,cs,hr,hc⟩:=h.get1 hj
  exact ⟨ad,hA,cs,hr,fun v e q y hy=>by rw [add_add];exact Fr.cell e (fun h=>h) (hc q y hy)⟩
theorem SameTexts_spec {w:World} {A B:Option Addr} {c d:Nat} {l m:List ByteArray} (hl:Imm Kd.str NoB w A l) (hm:Imm Kd.str NoB w B m) (hx:l.length<=maxLen) :
    CallsV Tryz.prog 44 #[.slice A l.length c,.slice B m.length d] w fun r w'=>(∃ b,r=.bool b/\(b=true<->l=m))/\Ext w w':=by
  simp only [maxLen] at hx
  refine cardindexkit_SameTexts.calls okay ?_
  unfold cardindexkit_SameTexts.W
  have no:∀ u,Ext w u->l≠m->(∃ b,Value.bool false=.bool b/\(b=true<->l=m))/\Ext w u:=fun u e hne=>⟨⟨false,rfl,⟨fun h=>absurd h (by decide),fun h=>absurd h hne⟩⟩,e⟩
  refine brn (fun hne=>no w (.refl _ _) (fun h=>hne (by rw [h]))) (fun hlen=>?_)
  refine ⟨fun x u=>∃ j:Nat,j<=l.length/\x=(j:Int)/\l.take j=m.take j/\Ext w u,fun x _=>((l.length:Int)-x).toNat,⟨0,by omega,rfl,rfl,.refl _ _⟩,?_⟩
  rintro _ u ⟨j,hj,rfl,ht,e⟩
  refine brd (fun hlt=>?_) (fun hge=>?_)
  · have h1:j<l.length:=by omega
    have h2:j<m.length:=by omega
    obtain ⟨ad,hA,cs,hrep,hc⟩:=(hl.ext KStr_pos e).get1 h1
    obtain rfl:cs=[.string l[j]]:=hrep
    obtain ⟨ad',hA',cs',hrep',hc'⟩:=(hm.ext KStr_pos e).get1 h2
    obtain rfl:cs'=[.string m[j]]:=hrep'
    refine ⟨ad,hA,⟨by omega,by omega⟩,fun v=>Ext u v,Fr.drew NoB u,_,fun v k=>Fr.cell k (fun h=>h) (hc 0 _ rfl),ad',hA',⟨by omega,by omega⟩,_,fun v k=>Fr.cell k (fun h=>h) (hc' 0 _ rfl),brnb (fun hf=>?_) (fun hs=>?_)⟩
    · refine no _ e.drew (fun h=>?_)
      subst h
      simp at hf
    · rw [wi ((j:Int)+1) (by omega) (by omega)]
      exact ⟨⟨j+1,by omega,rfl,takes_step ht h1 h2 ((str_iff _ _).1 hs),e.drew⟩,by dsimp only;omega⟩
  · exact ⟨⟨true,rfl,fun _=>takes_eq ht (by omega) (by omega),fun _=>rfl⟩,e⟩
set_option maxRecDepth 20000 in
set_option maxHeartbeats 4000000 in
theorem Same_spec {w:World} {p q:Prog} {a a':PAd} (hp:PIm w p a) (hq:PIm w q a') (gp:gProg p) :
    CallsV Tryz.prog 11 #[pagg p a,pagg q a'] w fun r w'=>(∃ b,r=.bool b/\(b=true<->p=q))/\Ext w w':=by
  have m1:=hp.l1
  have m2:=hp.l2
  have m3:=hp.l3
  have m4:=hp.l4
  have m5:=hp.l5
  have m6:=hp.l6
  simp only [maxLen] at m1 m2 m3 m4 m5 m6
  refine cardindexlaw15_Same.calls okay ?_
  unfold cardindexlaw15_Same.W
  have no:∀ u,Ext w u->p≠q->(∃ b,Value.bool false=.bool b/\(b=true<->p=q))/\Ext w u:=fun u e hne=>⟨⟨false,rfl,⟨fun h=>absurd h (by decide),fun h=>absurd h hne⟩⟩,e⟩
  intro g w1 f g1 w2 f1
  have bp:Blk w2 g (pcs p a):=f.blk.ext f1.ext
  have bq:Blk w2 g1 (pcs q a'):=f1.blk
  have e2:=f.ext.trans' f1.ext
  clear f f1
  repeat (first|refine ⟨_,Blk.cell (bp) (by rfl),?_⟩|refine ⟨_,_,_,Blk.cell (bp) (by rfl),?_⟩|refine ⟨_,Blk.cell (bq) (by rfl),?_⟩|refine ⟨_,_,_,Blk.cell (bq) (by rfl),?_⟩)
  refine brn (fun hne=>no _ e2 (fun h=>hne (by rw [h]))) (fun q1=>?_)
  repeat (first|refine ⟨_,Blk.cell (bp) (by rfl),?_⟩|refine ⟨_,_,_,Blk.cell (bp) (by rfl),?_⟩|refine ⟨_,Blk.cell (bq) (by rfl),?_⟩|refine ⟨_,_,_,Blk.cell (bq) (by rfl),?_⟩)
  refine brn (fun hne=>no _ e2 (fun h=>hne (by rw [h]))) (fun q2=>?_)
  repeat (first|refine ⟨_,Blk.cell (bp) (by rfl),?_⟩|refine ⟨_,_,_,Blk.cell (bp) (by rfl),?_⟩|refine ⟨_,Blk.cell (bq) (by rfl),?_⟩|refine ⟨_,_,_,Blk.cell (bq) (by rfl),?_⟩)
  refine brn (fun hne=>no _ e2 (fun h=>hne (by rw [h]))) (fun q3=>?_)
  repeat (first|refine ⟨_,Blk.cell (bp) (by rfl),?_⟩|refine ⟨_,_,_,Blk.cell (bp) (by rfl),?_⟩|refine ⟨_,Blk.cell (bq) (by rfl),?_⟩|refine ⟨_,_,_,Blk.cell (bq) (by rfl),?_⟩)
  refine (SameTexts_spec (hp.ext e2).names (hq.ext e2).names hp.l1).mono ?_
  rintro _ w3 ⟨⟨b,rfl,hb⟩,k3⟩
  have e3:=e2.trans' k3
  have bp:=bp.ext k3
  have bq:=bq.ext k3
  refine ⟨_,rfl,brnb (fun hf=>no _ e3 (fun h=>by have:=hb.2 (by rw [h]);rw [this] at hf;cases hf)) (fun ht=>?_)⟩
  have q4:=hb.1 ht
  repeat (first|refine ⟨_,Blk.cell (bp) (by rfl),?_⟩|refine ⟨_,_,_,Blk.cell (bp) (by rfl),?_⟩|refine ⟨_,Blk.cell (bq) (by rfl),?_⟩|refine ⟨_,_,_,Blk.cell (bq) (by rfl),?_⟩)
  refine brn (fun hne=>no _ e3 (fun h=>hne (by rw [h]))) (fun n5=>?_)
  repeat (first|refine ⟨_,Blk.cell (bp) (by rfl),?_⟩|refine ⟨_,_,_,Blk.cell (bp) (by rfl),?_⟩|refine ⟨_,Blk.cell (bq) (by rfl),?_⟩|refine ⟨_,_,_,Blk.cell (bq) (by rfl),?_⟩)
  refine brn (fun hne=>no _ e3 (fun h=>hne (by rw [h]))) (fun n6=>?_)
  repeat (first|refine ⟨_,Blk.cell (bp) (by rfl),?_⟩|refine ⟨_,_,_,Blk.cell (bp) (by rfl),?_⟩|refine ⟨_,Blk.cell (bq) (by rfl),?_⟩|refine ⟨_,_,_,Blk.cell (bq) (by rfl),?_⟩)
  refine brn (fun hne=>no _ e3 (fun h=>hne (by rw [h]))) (fun n7=>?_)
  repeat (first|refine ⟨_,Blk.cell (bp) (by rfl),?_⟩|refine ⟨_,_,_,Blk.cell (bp) (by rfl),?_⟩|refine ⟨_,Blk.cell (bq) (by rfl),?_⟩|refine ⟨_,_,_,Blk.cell (bq) (by rfl),?_⟩)
  refine brn (fun hne=>no _ e3 (fun h=>hne (by rw [h]))) (fun n8=>?_)
  repeat (first|refine ⟨_,Blk.cell (bp) (by rfl),?_⟩|refine ⟨_,_,_,Blk.cell (bp) (by rfl),?_⟩|refine ⟨_,Blk.cell (bq) (by rfl),?_⟩|refine ⟨_,_,_,Blk.cell (bq) (by rfl),?_⟩)
  refine brn (fun hne=>no _ e3 (fun h=>hne (by rw [h]))) (fun n9=>?_)
  repeat (first|refine ⟨_,Blk.cell (bp) (by rfl),?_⟩|refine ⟨_,_,_,Blk.cell (bp) (by rfl),?_⟩)
  have hp:=hp.ext e3
  have hq:=hq.ext e3
  -- constants
  refine ⟨fun x u=>∃ j:Nat,j<=p.consts.length/\x=(j:Int)/\p.consts.take j=q.consts.take j/\Ext w3 u,fun x _=>((p.consts.length:Int)-x).toNat,⟨0,by omega,rfl,rfl,.refl _ _⟩,?_⟩
  rintro _ u ⟨j,hj,rfl,ht,e⟩
  refine brd (fun hlt=>?_) (fun hge=>?_)
  · have h1:j<p.consts.length:=by omega
    have h2:j<q.consts.length:=by omega
    obtain ⟨ad,hA,cs,hrep,hc⟩:=at1 (hp.ext e).consts h1
    obtain rfl:cs=vc p.consts[j]:=hrep
    obtain ⟨ad',hA',cs',hrep',hc'⟩:=at1 (hq.ext e).consts h2
    obtain rfl:cs'=vc q.consts[j]:=hrep'
    refine ⟨fun v=>Ext u v,Fr.drew NoB u,_,_,_,fun v k=>(bp.ext (e.trans' k)).cell rfl,ad,hA,⟨by omega,by omega⟩,_,fun v k=>hc v k 0 _ rfl,_,fun v k=>hc v k 1 _ rfl,_,fun v k=>hc v k 2 _ rfl,
      _,_,_,fun v k=>(bq.ext (e.trans' k)).cell rfl,ad',hA',⟨by omega,by omega⟩,_,fun v k=>hc' v k 0 _ rfl,_,fun v k=>hc' v k 1 _ rfl,_,fun v k=>hc' v k 2 _ rfl,brf (by kernel_rfl) (brnb (fun hf=>?_) (fun hs=>?_))⟩
    · refine no _ (e3.trans' e).drew (fun h=>?_)
      subst h
      simp at hf
    · rw [wi ((j:Int)+1) (by omega) (by omega)]
      refine ⟨⟨j+1,by omega,rfl,takes_step ht h1 h2 ?_,e.drew⟩,by dsimp only;omega⟩
      simp only [Bool.and_eq_true,decide_eq_true_eq,str_iff,and_true] at hs
      generalize p.consts[j]=x at hs ⊢
      generalize q.consts[j]=y at hs ⊢
      cases x;cases y
      obtain ⟨r1,r2,r3⟩:=hs
      simp only at r1 r2 r3
      subst r1;subst r2;subst r3;rfl
  have q5:=takes_eq ht (by omega) (by omega)
  clear ht hge hj
  have e3:=e3.trans' e
  have bp:=bp.ext e
  have bq:=bq.ext e
  have hp:=hp.ext e
  have hq:=hq.ext e
  clear e
  repeat (first|refine ⟨_,Blk.cell (bp) (by rfl),?_⟩|refine ⟨_,_,_,Blk.cell (bp) (by rfl),?_⟩)
  -- cursors
  refine ⟨fun x v=>∃ j:Nat,j<=p.curs.length/\x=(j:Int)/\p.curs.take j=q.curs.take j/\Ext u v,fun x _=>((p.curs.length:Int)-x).toNat,⟨0,by omega,rfl,rfl,.refl _ _⟩,?_⟩
  rintro _ v ⟨j,hj,rfl,ht,e⟩
  refine brd (fun hlt=>?_) (fun hge=>?_)
  · have h1:j<p.curs.length:=by omega
    have h2:j<q.curs.length:=by omega
    obtain ⟨ad,hA,cs,hrep,hc⟩:=at1 (hp.ext e).curs h1
    obtain rfl:cs=curC p.curs[j]:=hrep
    obtain ⟨ad',hA',cs',hrep',hc'⟩:=at1 (hq.ext e).curs h2
    obtain rfl:cs'=curC q.curs[j]:=hrep'
    refine ⟨fun v'=>Ext v v',Fr.drew NoB v,_,_,_,fun v k=>(bp.ext (e.trans' k)).cell rfl,ad,hA,⟨by omega,by omega⟩,_,fun v k=>hc v k 0 _ rfl,_,fun v k=>hc v k 1 _ rfl,_,fun v k=>hc v k 2 _ rfl,
      _,_,_,fun v k=>(bq.ext (e.trans' k)).cell rfl,ad',hA',⟨by omega,by omega⟩,_,fun v k=>hc' v k 0 _ rfl,_,fun v k=>hc' v k 1 _ rfl,_,fun v k=>hc' v k 2 _ rfl,brf (by kernel_rfl) (brnb (fun hf=>?_) (fun hs=>?_))⟩
    · refine no _ (e3.trans' e).drew (fun h=>?_)
      subst h
      simp at hf
    · rw [wi ((j:Int)+1) (by omega) (by omega)]
      refine ⟨⟨j+1,by omega,rfl,takes_step ht h1 h2 ?_,e.drew⟩,by dsimp only;omega⟩
      simp only [Bool.and_eq_true,decide_eq_true_eq,str_iff,and_true] at hs
      generalize p.curs[j]=x at hs ⊢
      generalize q.curs[j]=y at hs ⊢
      cases x;cases y
      obtain ⟨r1,r2,r3⟩:=hs
      simp only at r1 r2 r3
      subst r1;subst r2;subst r3;rfl
  have q6:=takes_eq ht (by omega) (by omega)
  clear ht hge hj
  have e3:=e3.trans' e
  have bp:=bp.ext e
  have bq:=bq.ext e
  have hp:=hp.ext e
  have hq:=hq.ext e
  clear e
  repeat (first|refine ⟨_,Blk.cell (bp) (by rfl),?_⟩|refine ⟨_,_,_,Blk.cell (bp) (by rfl),?_⟩)
  -- sorters
  refine ⟨fun x u'=>∃ j:Nat,j<=p.sorts.length/\x=(j:Int)/\p.sorts.take j=q.sorts.take j/\Ext v u',fun x _=>((p.sorts.length:Int)-x).toNat,⟨0,by omega,rfl,rfl,.refl _ _⟩,?_⟩
  rintro _ u2 ⟨j,hj,rfl,ht,e⟩
  refine brd (fun hlt=>?_) (fun hge=>?_)
  · have h1:j<p.sorts.length:=by omega
    have h2:j<q.sorts.length:=by omega
    obtain ⟨ad,hA,cs,hrep,hc⟩:=at1 (hp.ext e).sorts h1
    obtain ⟨D,dd,hcs,hdd,hD⟩:=id hrep
    subst hcs
    obtain ⟨ad',hA',cs',hrep',hc'⟩:=at1 (hq.ext e).sorts h2
    obtain ⟨D',dd',hcs',hdd',hD'⟩:=id hrep'
    subst hcs'
    have toks:∀ (b:Prop),(p=q->b)->¬ b->p≠q:=fun b hb hn h=>hn (hb h)
    have hdl:=(gp.sorts _ (List.getElem_mem h1)).1
    simp only [maxLen] at hdl
    have eq1:p=q->p.sorts[j]=q.sorts[j]:=fun h=>by subst h;rfl
    have nx:p.sorts.take j=q.sorts.take j:=ht
    generalize hX:p.sorts[j]=X at *
    generalize hY:q.sorts[j]=Y at *
    refine ⟨fun v'=>Ext u2 v',Fr.drew NoB u2,_,_,_,fun v k=>(bp.ext (e.trans' k)).cell rfl,ad,hA,⟨by omega,by omega⟩,_,_,_,fun v k=>hc v k 0 _ rfl,_,fun v k=>hc v k 1 _ rfl,_,fun v k=>hc v k 2 _ rfl,
      _,_,_,fun v k=>(bq.ext (e.trans' k)).cell rfl,ad',hA',⟨by omega,by omega⟩,_,_,_,fun v k=>hc' v k 0 _ rfl,_,fun v k=>hc' v k 1 _ rfl,_,fun v k=>hc' v k 2 _ rfl,?_⟩
    refine ⟨?_,?_⟩
    case' refine_1 =>
      intro gq w4 f4
      have x4:Ext u2 w4:=Ext.drew0 f4.ext
      refine ⟨x4,?_⟩
      intro gr w5 f5
      have x5:=x4.trans' f5.ext
      have hq':u2.heap.size<=gq:=f4.ge
      have hr':u2.heap.size<=gr:=Nat.le_trans x4.size f5.ge
      have hn:gq≠gr:=by have:=f4.lt;have:=f5.ge;omega
      refine ⟨x5,(f4.blk.ext f5.ext).stOK [Value.slice D X.desc.length dd,.int .i64 X.cols,.bool X.dist] 0 (by simp),fun w6 hw6=>?_⟩
      obtain ⟨bx,q6'⟩:=set0 (f4.blk.ext f5.ext) hw6 rfl
      have by_:=f5.blk.keep q6' (fun e=>hn e.symm)
      have x6:Ext u2 w6:=x5.trans q6' (fun _ _ h=>h) (fun k hk e=>by omega)
      refine ⟨x6,by_.stOK [Value.slice D' Y.desc.length dd',.int .i64 Y.cols,.bool Y.dist] 0 (by simp),fun w7 hw7=>?_⟩
      obtain ⟨by_,q7'⟩:=set0 by_ hw7 rfl
      have bx:=bx.keep q7' hn
      have x7:Ext u2 w7:=x6.trans q7' (fun _ _ h=>h) (fun k hk e=>by omega)
      clear hw7 hw6 q7' q6' x6 x5 f5 x4 f4
    case' refine_2 =>
      intro gr w4 f4
      have x4:Ext u2 w4:=Ext.drew0 f4.ext
      refine ⟨x4,?_⟩
      intro gq w5 f5
      have x5:=x4.trans' f5.ext
      have hr':u2.heap.size<=gr:=f4.ge
      have hq':u2.heap.size<=gq:=Nat.le_trans x4.size f5.ge
      have hn:gq≠gr:=by have:=f4.lt;have:=f5.ge;omega
      refine ⟨x5,f5.blk.stOK [Value.slice D X.desc.length dd,.int .i64 X.cols,.bool X.dist] 0 (by simp),fun w6 hw6=>?_⟩
      obtain ⟨bx,q6'⟩:=set0 f5.blk hw6 rfl
      have by_:=(f4.blk.ext f5.ext).keep q6' (fun e=>hn e.symm)
      have x6:Ext u2 w6:=x5.trans q6' (fun _ _ h=>h) (fun k hk e=>by omega)
      refine ⟨x6,by_.stOK [Value.slice D' Y.desc.length dd',.int .i64 Y.cols,.bool Y.dist] 0 (by simp),fun w7 hw7=>?_⟩
      obtain ⟨by_,q7'⟩:=set0 by_ hw7 rfl
      have bx:=bx.keep q7' hn
      have x7:Ext u2 w7:=x6.trans q7' (fun _ _ h=>h) (fun k hk e=>by omega)
      clear hw7 hw6 q7' q6' x6 x5 f5 x4 f4
    all_goals
      have e7:=(e3.trans' e).trans' x7
      repeat (first|refine ⟨_,Blk.cell (bx) (by rfl),?_⟩|refine ⟨_,_,_,Blk.cell (bx) (by rfl),?_⟩|refine ⟨_,Blk.cell (by_) (by rfl),?_⟩|refine ⟨_,_,_,Blk.cell (by_) (by rfl),?_⟩)
      refine brn (fun hne=>no _ e7 (fun h=>hne (by rw [eq1 h]))) (fun d1=>?_)
      repeat (first|refine ⟨_,Blk.cell (bx) (by rfl),?_⟩|refine ⟨_,_,_,Blk.cell (bx) (by rfl),?_⟩|refine ⟨_,Blk.cell (by_) (by rfl),?_⟩|refine ⟨_,_,_,Blk.cell (by_) (by rfl),?_⟩)
      refine brn (fun hne=>no _ e7 (fun h=>hne (by rw [eq1 h]))) (fun d2=>?_)
      repeat (first|refine ⟨_,Blk.cell (bx) (by rfl),?_⟩|refine ⟨_,_,_,Blk.cell (bx) (by rfl),?_⟩|refine ⟨_,Blk.cell (by_) (by rfl),?_⟩|refine ⟨_,_,_,Blk.cell (by_) (by rfl),?_⟩)
      refine brn (fun hne=>no _ e7 (fun h=>hne (by rw [eq1 h]))) (fun d3=>?_)
      repeat (first|refine ⟨_,Blk.cell (bx) (by rfl),?_⟩|refine ⟨_,_,_,Blk.cell (bx) (by rfl),?_⟩)
      refine ⟨fun x u'=>∃ i:Nat,i<=X.desc.length/\x=(i:Int)/\X.desc.take i=Y.desc.take i/\Ext w7 u',fun x _=>((X.desc.length:Int)-x).toNat,⟨0,by omega,rfl,rfl,.refl _ _⟩,?_⟩
      rintro _ u8 ⟨i,hi,rfl,hti,e8⟩
      refine brd (fun hlt=>?_) (fun hge=>?_)
      · have i1:i<X.desc.length:=by omega
        have i2:i<Y.desc.length:=by omega
        have x8:=x7.trans' e8
        obtain ⟨ad2,hA2,cs2,hrep2,hc2⟩:=(hD.ext KBo_pos x8).get1 i1
        obtain rfl:cs2=[.bool X.desc[i]]:=hrep2
        obtain ⟨ad3,hA3,cs3,hrep3,hc3⟩:=(hD'.ext KBo_pos x8).get1 i2
        obtain rfl:cs3=[.bool Y.desc[i]]:=hrep3
        refine ⟨fun v'=>Ext u8 v',Fr.drew NoB u8,_,_,_,fun v k=>(bx.ext (e8.trans' k)).cell rfl,ad2,hA2,⟨by omega,by omega⟩,_,fun v k=>Fr.cell k (fun h=>h) (hc2 0 _ rfl),
          _,_,_,fun v k=>(by_.ext (e8.trans' k)).cell rfl,ad3,hA3,⟨by omega,by omega⟩,_,fun v k=>Fr.cell k (fun h=>h) (hc3 0 _ rfl),brn (fun hne=>?_) (fun hs=>?_)⟩
        · refine no _ (e7.trans' e8).drew (fun h=>hne ?_)
          have:=eq1 h
          subst this;rfl
        · rw [wi ((i:Int)+1) (by omega) (by omega)]
          exact ⟨⟨i+1,by omega,rfl,takes_step hti i1 i2 hs,e8.drew⟩,by dsimp only;omega⟩
      · have hdesc:=takes_eq hti (by omega) (by omega)
        rw [wi ((j:Int)+1) (by omega) (by omega)]
        refine ⟨⟨j+1,by omega,rfl,takes_step nx h1 h2 ?_,(e.trans' x7).trans' e8⟩,by dsimp only;omega⟩
        rw [hX,hY]
        cases X;cases Y
        simp only at d1 d2 hdesc
        subst d1;subst d2;subst hdesc;rfl
  have q7:=takes_eq ht (by omega) (by omega)
  clear ht hge hj
  have e3:=e3.trans' e
  have bp:=bp.ext e
  have bq:=bq.ext e
  have hp:=hp.ext e
  have hq:=hq.ext e
  clear e
  repeat (first|refine ⟨_,Blk.cell (bp) (by rfl),?_⟩|refine ⟨_,_,_,Blk.cell (bp) (by rfl),?_⟩)
  -- totals
  refine ⟨fun x v=>∃ j:Nat,j<=p.tots.length/\x=(j:Int)/\p.tots.take j=q.tots.take j/\Ext u2 v,fun x _=>((p.tots.length:Int)-x).toNat,⟨0,by omega,rfl,rfl,.refl _ _⟩,?_⟩
  rintro _ u3 ⟨j,hj,rfl,ht,e⟩
  refine brd (fun hlt=>?_) (fun hge=>?_)
  · have h1:j<p.tots.length:=by omega
    have h2:j<q.tots.length:=by omega
    obtain ⟨ad,hA,cs,hrep,hc⟩:=at1 (hp.ext e).tots h1
    obtain rfl:cs=totC p.tots[j]:=hrep
    obtain ⟨ad',hA',cs',hrep',hc'⟩:=at1 (hq.ext e).tots h2
    obtain rfl:cs'=totC q.tots[j]:=hrep'
    refine ⟨fun v'=>Ext u3 v',Fr.drew NoB u3,_,_,_,fun v k=>(bp.ext (e.trans' k)).cell rfl,ad,hA,⟨by omega,by omega⟩,_,fun v k=>hc v k 0 _ rfl,_,fun v k=>hc v k 1 _ rfl,
      _,_,_,fun v k=>(bq.ext (e.trans' k)).cell rfl,ad',hA',⟨by omega,by omega⟩,_,fun v k=>hc' v k 0 _ rfl,_,fun v k=>hc' v k 1 _ rfl,brf (by kernel_rfl) (brnb (fun hf=>?_) (fun hs=>?_))⟩
    · refine no _ (e3.trans' e).drew (fun h=>?_)
      subst h
      simp at hf
    · rw [wi ((j:Int)+1) (by omega) (by omega)]
      refine ⟨⟨j+1,by omega,rfl,takes_step ht h1 h2 ?_,e.drew⟩,by dsimp only;omega⟩
      simp only [Bool.and_eq_true,decide_eq_true_eq,str_iff,and_true] at hs
      generalize p.tots[j]=x at hs ⊢
      generalize q.tots[j]=y at hs ⊢
      cases x;cases y
      obtain ⟨r1,r2⟩:=hs
      simp only at r1 r2
      subst r1;subst r2;rfl
  have q8:=takes_eq ht (by omega) (by omega)
  clear ht hge hj
  have e3:=e3.trans' e
  have bp:=bp.ext e
  have bq:=bq.ext e
  have hp:=hp.ext e
  have hq:=hq.ext e
  clear e
  repeat (first|refine ⟨_,Blk.cell (bp) (by rfl),?_⟩|refine ⟨_,_,_,Blk.cell (bp) (by rfl),?_⟩)
  -- the code
  refine ⟨fun x v=>∃ j:Nat,j<=p.code.length/\x=(j:Int)/\p.code.take j=q.code.take j/\Ext u3 v,fun x _=>((p.code.length:Int)-x).toNat,⟨0,by omega,rfl,rfl,.refl _ _⟩,?_⟩
  rintro _ u4 ⟨j,hj,rfl,ht,e⟩
  refine brd (fun hlt=>?_) (fun hge=>?_)
  · have h1:j<p.code.length:=by omega
    have h2:j<q.code.length:=by omega
    obtain ⟨ad,hA,cs,hrep,hc⟩:=at1 (hp.ext e).code h1
    obtain rfl:cs=insC p.code[j]:=hrep
    obtain ⟨ad',hA',cs',hrep',hc'⟩:=at1 (hq.ext e).code h2
    obtain rfl:cs'=insC q.code[j]:=hrep'
    refine ⟨fun v'=>Ext u4 v',Fr.drew NoB u4,_,_,_,fun v k=>(bp.ext (e.trans' k)).cell rfl,ad,hA,⟨by omega,by omega⟩,_,fun v k=>hc v k 0 _ rfl,_,fun v k=>hc v k 1 _ rfl,_,fun v k=>hc v k 2 _ rfl,_,fun v k=>hc v k 3 _ rfl,_,fun v k=>hc v k 4 _ rfl,
      _,_,_,fun v k=>(bq.ext (e.trans' k)).cell rfl,ad',hA',⟨by omega,by omega⟩,_,fun v k=>hc' v k 0 _ rfl,_,fun v k=>hc' v k 1 _ rfl,_,fun v k=>hc' v k 2 _ rfl,_,fun v k=>hc' v k 3 _ rfl,_,fun v k=>hc' v k 4 _ rfl,brf (by kernel_rfl) (brnb (fun hf=>?_) (fun hs=>?_))⟩
    · refine no _ (e3.trans' e).drew (fun h=>?_)
      subst h
      simp at hf
    · rw [wi ((j:Int)+1) (by omega) (by omega)]
      refine ⟨⟨j+1,by omega,rfl,takes_step ht h1 h2 ?_,e.drew⟩,by dsimp only;omega⟩
      simp only [Bool.and_eq_true,decide_eq_true_eq,str_iff,and_true] at hs
      generalize p.code[j]=x at hs ⊢
      generalize q.code[j]=y at hs ⊢
      cases x;cases y
      obtain ⟨r1,r2,r3,r4,r5⟩:=hs
      simp only at r1 r2 r3 r4 r5
      subst r1;subst r2;subst r3;subst r4;subst r5;rfl
  have q9:=takes_eq ht (by omega) (by omega)
  refine ⟨⟨true,rfl,fun _=>?_,fun _=>rfl⟩,e3.trans' e⟩
  clear hb no hp hq bp bq gp
  cases p;cases q
  simp only at q1 q2 q3 q4 q5 q6 q7 q8 q9
  subst q1;subst q2;subst q3;subst q4;subst q5;subst q6;subst q7;subst q8;subst q9;rfl
end Go.Proofs.YtaifphjenebgoaaGreatDoor
set_option linter.unusedVariables false
set_option linter.unusedSimpArgs false
namespace Go.Proofs.YtaifphjenebgoaaGreatDoor
open Go Go.Sx R1 K15
abbrev lagg (p:Prog) (a:PAd) (t:Int):Value:=.agg #[.int .i64 p.ver,.int .i64 p.regs,.int .i64 p.binds,.slice a.nA p.names.length a.nc,.slice a.cA p.consts.length a.cc,.slice a.uA p.curs.length a.uc,.slice a.sA p.sorts.length a.sc,.slice a.tA p.tots.length a.tc,.slice a.dA p.code.length a.dc,.int .i64 t]
abbrev lcs (p:Prog) (a:PAd) (t:Int):List Value:=[.int .i64 p.ver,.int .i64 p.regs,.int .i64 p.binds,.slice a.nA p.names.length a.nc,.slice a.cA p.consts.length a.cc,.slice a.uA p.curs.length a.uc,.slice a.sA p.sorts.length a.sc,.slice a.tA p.tots.length a.tc,.slice a.dA p.code.length a.dc,.int .i64 t]
section
variable {w:World} {p:Prog} {a:PAd} {t n:Int}
theorem in_spec (w:World) (n lo hi:Int):CallsV Tryz.prog 57 #[.int .i64 n,.int .i64 lo,.int .i64 hi] w fun r w'=>r=.bool (inB n lo hi)/\Ext w w':=by
  refine cardindexref15_in.calls okay ?_
  unfold cardindexref15_in.W
  exact brd (fun h=>⟨by unfold inB;simp [h],.refl _ _⟩) (fun h=>⟨by unfold inB;simp [h],.refl _ _⟩)
theorem look_r_spec:CallsV Tryz.prog 112 #[lagg p a t,.int .i64 n] w fun r w'=>r=.bool (rB p n)/\Ext w w':=by
  refine cardindexref15_look_r.calls okay ?_
  unfold cardindexref15_look_r.W
  intro g w1 f
  refine ⟨_,Blk.cell' f.blk rfl,?_⟩
  refine (in_spec w1 n 0 p.regs).mono ?_
  rintro _ w2 ⟨rfl,e⟩
  exact ⟨_,rfl,rfl,f.ext.trans' e⟩
theorem look_k_spec:CallsV Tryz.prog 113 #[lagg p a t,.int .i64 n] w fun r w'=>r=.bool (kB p n)/\Ext w w':=by
  refine cardindexref15_look_k.calls okay ?_
  unfold cardindexref15_look_k.W
  intro g w1 f
  refine ⟨_,_,_,Blk.cell' f.blk rfl,?_⟩
  refine (in_spec w1 n 0 p.consts.length).mono ?_
  rintro _ w2 ⟨rfl,e⟩
  exact ⟨_,rfl,rfl,f.ext.trans' e⟩
theorem look_c_spec:CallsV Tryz.prog 117 #[lagg p a t,.int .i64 n] w fun r w'=>r=.bool (cB p n)/\Ext w w':=by
  refine cardindexref15_look_c.calls okay ?_
  unfold cardindexref15_look_c.W
  intro g w1 f
  refine ⟨_,_,_,Blk.cell' f.blk rfl,?_⟩
  refine (in_spec w1 n 0 p.curs.length).mono ?_
  rintro _ w2 ⟨rfl,e⟩
  exact ⟨_,rfl,rfl,f.ext.trans' e⟩
theorem look_s_spec:CallsV Tryz.prog 121 #[lagg p a t,.int .i64 n] w fun r w'=>r=.bool (sB p n)/\Ext w w':=by
  refine cardindexref15_look_s.calls okay ?_
  unfold cardindexref15_look_s.W
  intro g w1 f
  refine ⟨_,_,_,Blk.cell' f.blk rfl,?_⟩
  refine (in_spec w1 n 0 p.sorts.length).mono ?_
  rintro _ w2 ⟨rfl,e⟩
  exact ⟨_,rfl,rfl,f.ext.trans' e⟩
theorem look_t_spec:CallsV Tryz.prog 122 #[lagg p a t,.int .i64 n] w fun r w'=>r=.bool (tB p n)/\Ext w w':=by
  refine cardindexref15_look_t.calls okay ?_
  unfold cardindexref15_look_t.W
  intro g w1 f
  refine ⟨_,_,_,Blk.cell' f.blk rfl,?_⟩
  refine (in_spec w1 n 0 p.tots.length).mono ?_
  rintro _ w2 ⟨rfl,e⟩
  exact ⟨_,rfl,rfl,f.ext.trans' e⟩
theorem look_j_spec:CallsV Tryz.prog 116 #[lagg p a t,.int .i64 n] w fun r w'=>r=.bool (jB p t n)/\Ext w w':=by
  refine cardindexref15_look_j.calls okay ?_
  unfold cardindexref15_look_j.W
  intro g w1 f
  refine ⟨_,Blk.cell f.blk rfl,?_⟩
  refine brd (fun h=>⟨_,_,_,Blk.cell' f.blk rfl,?_⟩) (fun h=>?_)
  · exact ⟨by unfold jB;simp [h],f.ext⟩
  · exact ⟨by unfold jB;simp [h],f.ext⟩
theorem look_back_spec:CallsV Tryz.prog 119 #[lagg p a t,.int .i64 n] w fun r w'=>r=.bool (backB t n)/\Ext w w':=by
  refine cardindexref15_look_back.calls okay ?_
  unfold cardindexref15_look_back.W
  intro g w1 f
  refine brd (fun h=>⟨_,Blk.cell f.blk rfl,?_⟩) (fun h=>?_)
  · exact ⟨by unfold backB;simp [h],f.ext⟩
  · exact ⟨by unfold backB;simp [h],f.ext⟩
theorem look_many_spec (hr : 0<=p.regs/\p.regs<=250) (c:Int):CallsV Tryz.prog 114 #[lagg p a t,.int .i64 n,.int .i64 c] w fun r w'=>r=.bool (manyB p n c)/\Ext w w':=by
  refine cardindexref15_look_many.calls okay ?_
  unfold cardindexref15_look_many.W
  intro g w1 f
  have b:=f.blk
  repeat (first|refine ⟨_,Blk.cell (b) (by rfl),?_⟩|refine ⟨_,_,_,Blk.cell (b) (by rfl),?_⟩)
  refine (look_r_spec (p:=p) (a:=a) (t:=t) (n:=n)).mono ?_
  rintro _ w2 ⟨rfl,e⟩
  have b:=b.ext e
  refine ⟨_,rfl,br (fun h=>⟨_,Blk.cell' b rfl,?_⟩) (fun h=>?_)⟩
  · have h':=h
    unfold rB below at h'
    simp only [Bool.and_eq_true,decide_eq_true_eq] at h'
    rw [wi (p.regs-n) (by omega) (by omega)]
    exact ⟨by unfold manyB;rw [h];rfl,f.ext.trans' e⟩
  · exact ⟨by unfold manyB;rw [h];rfl,f.ext.trans' e⟩
theorem cur_at (h:PIm w p a) (hc:cB p n=true):∃ ad,a.uA=some ad/\(0<=n/\n<(p.curs.length:Int))/\∀ v,Ext w v->v.cell? ((ad.add (n.toNat*3)).add 1)=some (.bool (curAt p n).ix)/\v.cell? ((ad.add (n.toNat*3)).add 2)=some (.bool (curAt p n).wr):=by
  unfold cB below at hc
  simp only [Bool.and_eq_true,decide_eq_true_eq] at hc
  obtain ⟨ad,hA,cs,hrep,hcell⟩:=at1 h.curs (j:=n.toNat) (by omega)
  obtain rfl:cs=[.string p.curs[n.toNat].name,.bool p.curs[n.toNat].ix,.bool p.curs[n.toNat].wr]:=hrep
  have he:curAt p n=p.curs[n.toNat]:=by unfold curAt;rw [List.getD_eq_getElem?_getD,List.getElem?_eq_getElem (by omega)];rfl
  rw [he]
  exact ⟨ad,hA,hc,fun v e=>⟨hcell v e 1 _ rfl,hcell v e 2 _ rfl⟩⟩
theorem look_index_spec (h:PIm w p a):CallsV Tryz.prog 118 #[lagg p a t,.int .i64 n] w fun r w'=>r=.bool (ixB p n)/\Ext w w':=by
  refine cardindexref15_look_index.calls okay ?_
  unfold cardindexref15_look_index.W
  intro g w1 f
  have b:=f.blk
  repeat (first|refine ⟨_,Blk.cell (b) (by rfl),?_⟩|refine ⟨_,_,_,Blk.cell (b) (by rfl),?_⟩)
  refine (look_c_spec (p:=p) (a:=a) (t:=t) (n:=n)).mono ?_
  rintro _ w2 ⟨rfl,e⟩
  have b:=b.ext e
  refine ⟨_,rfl,br (fun hc=>?_) (fun hc=>?_)⟩
  · obtain ⟨ad,hA,hn,hcell⟩:=cur_at h hc
    refine ⟨_,_,_,Blk.cell' b rfl,ad,hA,hn,_,(hcell w2 (f.ext.trans' e)).1,?_⟩
    exact ⟨by unfold ixB;rw [hc];rfl,f.ext.trans' e⟩
  · exact ⟨by unfold ixB;rw [hc];rfl,f.ext.trans' e⟩
theorem look_table_spec (h:PIm w p a):CallsV Tryz.prog 120 #[lagg p a t,.int .i64 n] w fun r w'=>r=.bool (tabB p n)/\Ext w w':=by
  refine cardindexref15_look_table.calls okay ?_
  unfold cardindexref15_look_table.W
  intro g w1 f
  have b:=f.blk
  repeat (first|refine ⟨_,Blk.cell (b) (by rfl),?_⟩|refine ⟨_,_,_,Blk.cell (b) (by rfl),?_⟩)
  refine (look_c_spec (p:=p) (a:=a) (t:=t) (n:=n)).mono ?_
  rintro _ w2 ⟨rfl,e⟩
  have b:=b.ext e
  refine ⟨_,rfl,br (fun hc=>?_) (fun hc=>?_)⟩
  · obtain ⟨ad,hA,hn,hcell⟩:=cur_at h hc
    refine ⟨_,_,_,Blk.cell' b rfl,ad,hA,hn,_,(hcell w2 (f.ext.trans' e)).1,?_⟩
    exact ⟨by unfold tabB;rw [hc];rfl,f.ext.trans' e⟩
  · exact ⟨by unfold tabB;rw [hc];rfl,f.ext.trans' e⟩
theorem look_written_spec (h:PIm w p a):CallsV Tryz.prog 123 #[lagg p a t,.int .i64 n] w fun r w'=>r=.bool (wrB p n)/\Ext w w':=by
  refine cardindexref15_look_written.calls okay ?_
  unfold cardindexref15_look_written.W
  intro g w1 f
  have b:=f.blk
  repeat (first|refine ⟨_,Blk.cell (b) (by rfl),?_⟩|refine ⟨_,_,_,Blk.cell (b) (by rfl),?_⟩)
  refine (look_table_spec (p:=p) (a:=a) (t:=t) (n:=n) (h.ext f.ext)).mono ?_
  rintro _ w2 ⟨rfl,e⟩
  have b:=b.ext e
  refine ⟨_,rfl,br (fun hc=>?_) (fun hc=>?_)⟩
  · have hc':cB p n=true:=by unfold tabB at hc;simp only [Bool.and_eq_true] at hc;exact hc.1
    obtain ⟨ad,hA,hn,hcell⟩:=cur_at h hc'
    refine ⟨_,_,_,Blk.cell' b rfl,ad,hA,hn,_,(hcell w2 (f.ext.trans' e)).2,?_⟩
    exact ⟨by unfold wrB;rw [hc];rfl,f.ext.trans' e⟩
  · exact ⟨by unfold wrB;rw [hc];rfl,f.ext.trans' e⟩
end
end Go.Proofs.YtaifphjenebgoaaGreatDoor
set_option linter.unusedVariables false
set_option linter.unusedSimpArgs false
namespace Go.Proofs.YtaifphjenebgoaaGreatDoor
open Go Go.Sx R1 K15
theorem RKnown_spec (w:World) (n:List UInt8) (c:Int):CallsV Tryz.prog 115 #[.string (bs n),.int .i64 c] w fun r w'=>r=.bool (knownF n c)/\w'=w:=by
  refine cardindexref02_Known.calls okay ?_
  unfold cardindexref02_Known.W knownF
  refine ⟨fun x u=>x=decide (n=[108,101,110,103,116,104]\/n=[117,112,112,101,114]\/n=[108,111,119,101,114]\/n=[97,98,115]\/n=[116,121,112,101,111,102]\/n=[104,101,120])/\u=w,?_,?_⟩
  · rintro x u ⟨rfl,hu⟩
    obtain rfl:w=u:=hu.symm
    by_cases h1:n=[108,101,110,103,116,104]\/n=[117,112,112,101,114]\/n=[108,111,119,101,114]\/n=[97,98,115]\/n=[116,121,112,101,111,102]\/n=[104,101,120]
    · rw [decide_eq_true h1,cond_true,if_pos h1];exact ⟨rfl,rfl⟩
    · rw [decide_eq_false h1,cond_false,if_neg h1]
      refine ⟨fun x u=>x=decide (n=[105,102,110,117,108,108]\/n=[105,110,115,116,114])/\u=w,?_,?_⟩
      · rintro x u ⟨rfl,hu⟩
        obtain rfl:w=u:=hu.symm
        by_cases h2:n=[105,102,110,117,108,108]\/n=[105,110,115,116,114]
        · rw [decide_eq_true h2,cond_true,if_pos h2];exact ⟨rfl,rfl⟩
        · rw [decide_eq_false h2,cond_false,if_neg h2]
          refine brS (fun h=>?_) (fun h=>?_)
          · rw [if_pos h]
            exact brd (fun h3=>⟨by rw [decide_eq_true h3];rfl,rfl⟩) (fun h3=>⟨by rw [decide_eq_false h3];rfl,rfl⟩)
          · rw [if_neg h]
            refine brS (fun h4=>?_) (fun h4=>?_)
            · rw [if_pos h4]
              exact brd (fun h3=>⟨by rw [decide_eq_true h3];rfl,rfl⟩) (fun h3=>⟨by rw [decide_eq_false h3];rfl,rfl⟩)
            · rw [if_neg h4];exact ⟨rfl,rfl⟩
      · refine brS (fun h=>⟨?_,rfl⟩) (fun h=>⟨?_,rfl⟩)
        · exact (eq_str n [105,102,110,117,108,108]).trans (by rw [decide_eq_true h,decide_eq_true (.inl h)])
        · refine (eq_str n [105,110,115,116,114]).trans ?_
          exact decide_eq_decide.2 ⟨.inr,fun q=>q.resolve_left h⟩
  · have fin:∀ {x:Bool} {p:Prop} [Decidable p],x=decide p->(p<->(n=[108,101,110,103,116,104]\/n=[117,112,112,101,114]\/n=[108,111,119,101,114]\/n=[97,98,115]\/n=[116,121,112,101,111,102]\/n=[104,101,120]))->x=decide (n=[108,101,110,103,116,104]\/n=[117,112,112,101,114]\/n=[108,111,119,101,114]\/n=[97,98,115]\/n=[116,121,112,101,111,102]\/n=[104,101,120]):=fun h1 h2=>by rw [h1];exact decide_eq_decide.2 h2
    refine brS (fun h=>⟨fin (eq_str n _) ⟨fun q=>.inl q,fun _=>h⟩,rfl⟩) (fun h1=>?_)
    refine brS (fun h=>⟨fin (eq_str n _) ⟨fun q=>.inr (.inl q),fun _=>h⟩,rfl⟩) (fun h2=>?_)
    refine brS (fun h=>⟨fin (eq_str n _) ⟨fun q=>.inr (.inr (.inl q)),fun _=>h⟩,rfl⟩) (fun h3=>?_)
    refine brS (fun h=>⟨fin (eq_str n _) ⟨fun q=>.inr (.inr (.inr (.inl q))),fun _=>h⟩,rfl⟩) (fun h4=>?_)
    refine brS (fun h=>⟨fin (eq_str n _) ⟨fun q=>.inr (.inr (.inr (.inr (.inl q)))),fun _=>h⟩,rfl⟩) (fun h5=>?_)
    refine ⟨fin (eq_str n _) ⟨fun q=>.inr (.inr (.inr (.inr (.inr q)))),fun q=>?_⟩,rfl⟩
    rcases q with q|q|q|q|q|q
    · exact absurd q h1
    · exact absurd q h2
    · exact absurd q h3
    · exact absurd q h4
    · exact absurd q h5
    · exact q
theorem RaggKnown_spec (w:World) (n:List UInt8):CallsV Tryz.prog 111 #[.string (bs n)] w fun r w'=>r=.bool (knownT n)/\w'=w:=by
  refine cardindexref08_Known.calls okay ?_
  unfold cardindexref08_Known.W knownT
  have t:∀ {p:Prop} [Decidable p],p->(Value.bool true=.bool (decide p)/\w=w):=fun h=>⟨by rw [decide_eq_true h],rfl⟩
  refine brS (fun h=>t (.inl h)) (fun h1=>?_)
  refine brS (fun h=>t (.inr (.inl h))) (fun h2=>?_)
  refine brS (fun h=>t (.inr (.inr (.inl h)))) (fun h3=>?_)
  refine brS (fun h=>t (.inr (.inr (.inr (.inl h))))) (fun h4=>?_)
  refine brS (fun h=>t (.inr (.inr (.inr (.inr (.inl h)))))) (fun h5=>?_)
  refine brS (fun h=>t (.inr (.inr (.inr (.inr (.inr (.inl h))))))) (fun h6=>⟨?_,rfl⟩)
  refine congrArg Value.bool ((eq_str n [103,114,111,117,112,95,99,111,110,99,97,116]).trans (decide_eq_decide.2 ⟨fun q=>.inr (.inr (.inr (.inr (.inr (.inr q))))),?_⟩))
  rintro (h|h|h|h|h|h|h)
  · exact absurd h h1
  · exact absurd h h2
  · exact absurd h h3
  · exact absurd h h4
  · exact absurd h h5
  · exact absurd h h6
  · exact h
theorem RNew_spec (w:World) (n:List UInt8) (d:Bool):CallsV Tryz.prog 59 #[.string (bs n),.bool d] w fun r w'=>r=.int .i64 (newT n d)/\w'=w:=by
  refine cardindexref08_New.calls okay ?_
  unfold cardindexref08_New.W newT
  refine (RaggKnown_spec w n).mono ?_
  rintro _ u ⟨rfl,hu⟩
  obtain rfl:w=u:=hu.symm
  refine ⟨_,rfl,brnb (fun h=>⟨by rw [h];rfl,rfl⟩) (fun hk=>?_)⟩
  rw [if_pos hk]
  cases d with
  | true=>exact brS (fun h=>⟨by rw [if_pos (by simp [h])],rfl⟩) (fun h=>⟨by rw [if_neg (by simp [h])],rfl⟩)
  | false=>exact ⟨by rw [if_neg (by simp)],rfl⟩
theorem word_at {w w1:World} {g:Nat} {e:TypeId} {l:List (List UInt8)} (f:Fresh w g w1 (l.map fun x=>Value.string (bs x)) e) {d:Int} (h0 : 0<=d) (h1:d<(l.length:Int)) :
    w1.cell? ((⟨g,0,none⟩:Addr).add (d.toNat*1))=some (.string (bs (l.getD d.toNat []))):=by
  refine Blk.cell f.blk ?_
  rw [Nat.zero_add,Nat.mul_one,List.getElem?_map,List.getElem?_eq_getElem (show d.toNat<l.length by omega),List.getD_eq_getElem?_getD,List.getElem?_eq_getElem (show d.toNat<l.length by omega)]
  rfl
theorem nth_in {l:List (List UInt8)} {d:Int} (h0 : ¬ d<0) (h1 : ¬ (l.length:Int)<=d):nth l d=(l.getD d.toNat [],true):=by unfold nth;rw [if_neg (by omega)]
def signNames:List (List UInt8):=[[43],[45],[42],[47],[37],[124,124],[61],[60,62],[60],[60,61],[62],[62,61],[97,110,100],[111,114],[108,105,107,101]]
theorem RFunc_spec (w:World) (d:Int):CallsV Tryz.prog 19 #[.int .i64 d] w fun r w'=>r=.tuple #[.string (bs (nth fNames d).1),.bool (nth fNames d).2]/\Ext w w':=by
  refine cardindexref15_Func.calls okay ?_
  unfold cardindexref15_Func.W
  intro g w1 f
  have f:Fresh w g w1 (fNames.map fun x=>Value.string (bs x)) _:=f
  refine brd (fun h=>⟨by unfold nth;rw [if_pos (.inl h)];rfl,f.ext⟩) (fun h1=>brd (fun h=>⟨by unfold nth;rw [if_pos (.inr h)];rfl,f.ext⟩) (fun h2=>?_))
  refine ⟨_,rfl,⟨by omega,by omega⟩,_,word_at f (by omega) (by show d<(10:Int);omega),?_,f.ext⟩
  rw [nth_in (l:=fNames) h1 h2]
theorem RSign_spec (w:World) (d:Int):CallsV Tryz.prog 17 #[.int .i64 d] w fun r w'=>r=.tuple #[.string (bs (nth signNames d).1),.bool (nth signNames d).2]/\Ext w w':=by
  refine cardindexref15_Sign.calls okay ?_
  unfold cardindexref15_Sign.W
  intro g w1 f
  have f:Fresh w g w1 (signNames.map fun x=>Value.string (bs x)) _:=f
  refine brd (fun h=>⟨by unfold nth;rw [if_pos (.inl h)];rfl,f.ext⟩) (fun h1=>brd (fun h=>⟨by unfold nth;rw [if_pos (.inr h)];rfl,f.ext⟩) (fun h2=>?_))
  refine ⟨_,rfl,⟨by omega,by omega⟩,_,word_at f (by omega) (by show d<(15:Int);omega),?_,f.ext⟩
  rw [nth_in (l:=signNames) h1 h2]
def sWords:ByteArray:=ByteArray.mk #[43,32,45,32,42,32,47,32,37,32,124,124,32,61,32,60,62,32,60,32,60,61,32,62,32,62,61,32,97,110,100,32,111,114,32,108,105,107,101]
theorem sFields:Lib.fields (sb sWords)=signNames:=by decide +kernel
theorem sAscii:∀ b∈sb sWords,b.toNat<128:=by decide +kernel
theorem Sign_spec {w:World} (hT:Tab w) (d:Int):CallsV Tryz.prog 16 #[.int .i64 d] w fun r w'=>r=.tuple #[.string (bs (nth signNames d).1),.bool (nth signNames d).2]/\Ext w w':=by
  refine code_Sign.calls okay ?_
  unfold code_Sign.W
  refine (named_spec hT sWords (by decide) sAscii d).mono ?_
  rw [sFields]
  rintro _ w1 ⟨rfl,e⟩
  exact ⟨_,_,rfl,rfl,e⟩
def rWords:List (List UInt8):=[]::[[99,111,110,115,116],[98,105,110,100],[109,111,118,101],[116,119,111],[111,110,101],[105,115],[99,97,115,116],[99,97,108,108],[109,117,115,116],[106,117,109,112],[105,102],[100,105,102,102,101,114],[102,105,114,115,116],[115,101,101,107],[110,101,120,116],[112,97,115,116],[102,105,110,100],[99,111,108],[114,111,119,105,100],[97,100,100],[115,111,114,116,101,100],[97,102,116,101,114],[116,97,107,101],[99,108,101,97,114],[115,116,101,112],[116,111,116,97,108],[114,111,119],[110,101,119,105,100],[105,110,115,101,114,116],[100,101,108,101,116,101],[100,101,102,105,110,101],[98,101,103,105,110],[99,111,109,109,105,116],[98,97,99,107],[104,97,108,116]]
theorem RWord_spec (w:World) (o:Int) (h0 : 0<=o) (h1:o<256):CallsV Tryz.prog 24 #[.int .u8 o] w fun r w'=>r=.string (bs (nth rWords o).1)/\Ext w w':=by
  refine cardindexref15_Word.calls okay ?_
  unfold cardindexref15_Word.W
  rw [wi o (by omega) (by omega)]
  intro g w1 f
  refine brd (fun h=>⟨by unfold nth;rw [if_pos (.inr h)];rfl,f.ext⟩) (fun h2=>?_)
  refine ⟨_,rfl,⟨by omega,by omega⟩,_,word_at (l:=rWords) f h0 (by show o<(36:Int);omega),?_,f.ext⟩
  rw [nth_in (l:=rWords) (by omega) h2]
end Go.Proofs.YtaifphjenebgoaaGreatDoor
set_option linter.unusedVariables false
set_option linter.unusedSimpArgs false
namespace Go.Proofs.YtaifphjenebgoaaGreatDoor
open Go Go.Sx R1 K15
structure ISt (p:Prog) (a:PAd) (t:Int) (i:Ins) (w u:World) (g g1 g2 g3:Nat):Prop where
  e:Ext w u
  b0:Blk u g (pcs p a)
  b1:Blk u g1 [.int .u8 i.op,.int .i64 i.a,.int .i64 i.b,.int .i64 i.c,.int .i64 i.d]
  b2:Blk u g2 (lcs p a t)
  b3:Blk u g3 [.bool (zB i.a),.bool (zB i.b),.bool (zB i.c),.bool (zB i.d)]
theorem ISt.ex {p:Prog} {a:PAd} {t:Int} {i:Ins} {w u v:World} {g g1 g2 g3:Nat} (h:ISt p a t i w u g g1 g2 g3) (k:Ext u v):ISt p a t i w v g g1 g2 g3 :=
  ⟨h.e.trans' k,h.b0.ext k,h.b1.ext k,h.b2.ext k,h.b3.ext k⟩
section
variable {p:Prog} {a:PAd} {t:Int} {i:Ins}
theorem okJ_other (h:∀ k:Nat,1<=k->k<=35->i.op≠(k:Int)):okJ p t i=false:=by
  have:shapeP i.op=[]:=by
    unfold shapeP shapes
    simp only [lookS]
    rw [if_neg (show ¬ i.op=1 from fun e=>h 1 (by decide) (by decide) e)]
    rw [if_neg (show ¬ i.op=2 from fun e=>h 2 (by decide) (by decide) e)]
    rw [if_neg (show ¬ i.op=3 from fun e=>h 3 (by decide) (by decide) e)]
    rw [if_neg (show ¬ i.op=4 from fun e=>h 4 (by decide) (by decide) e)]
    rw [if_neg (show ¬ i.op=5 from fun e=>h 5 (by decide) (by decide) e)]
    rw [if_neg (show ¬ i.op=6 from fun e=>h 6 (by decide) (by decide) e)]
    rw [if_neg (show ¬ i.op=7 from fun e=>h 7 (by decide) (by decide) e)]
    rw [if_neg (show ¬ i.op=8 from fun e=>h 8 (by decide) (by decide) e)]
    rw [if_neg (show ¬ i.op=9 from fun e=>h 9 (by decide) (by decide) e)]
    rw [if_neg (show ¬ i.op=10 from fun e=>h 10 (by decide) (by decide) e)]
    rw [if_neg (show ¬ i.op=11 from fun e=>h 11 (by decide) (by decide) e)]
    rw [if_neg (show ¬ i.op=12 from fun e=>h 12 (by decide) (by decide) e)]
    rw [if_neg (show ¬ i.op=13 from fun e=>h 13 (by decide) (by decide) e)]
    rw [if_neg (show ¬ i.op=14 from fun e=>h 14 (by decide) (by decide) e)]
    rw [if_neg (show ¬ i.op=15 from fun e=>h 15 (by decide) (by decide) e)]
    rw [if_neg (show ¬ i.op=16 from fun e=>h 16 (by decide) (by decide) e)]
    rw [if_neg (show ¬ i.op=17 from fun e=>h 17 (by decide) (by decide) e)]
    rw [if_neg (show ¬ i.op=18 from fun e=>h 18 (by decide) (by decide) e)]
    rw [if_neg (show ¬ i.op=19 from fun e=>h 19 (by decide) (by decide) e)]
    rw [if_neg (show ¬ i.op=20 from fun e=>h 20 (by decide) (by decide) e)]
    rw [if_neg (show ¬ i.op=21 from fun e=>h 21 (by decide) (by decide) e)]
    rw [if_neg (show ¬ i.op=22 from fun e=>h 22 (by decide) (by decide) e)]
    rw [if_neg (show ¬ i.op=23 from fun e=>h 23 (by decide) (by decide) e)]
    rw [if_neg (show ¬ i.op=24 from fun e=>h 24 (by decide) (by decide) e)]
    rw [if_neg (show ¬ i.op=25 from fun e=>h 25 (by decide) (by decide) e)]
    rw [if_neg (show ¬ i.op=26 from fun e=>h 26 (by decide) (by decide) e)]
    rw [if_neg (show ¬ i.op=27 from fun e=>h 27 (by decide) (by decide) e)]
    rw [if_neg (show ¬ i.op=28 from fun e=>h 28 (by decide) (by decide) e)]
    rw [if_neg (show ¬ i.op=29 from fun e=>h 29 (by decide) (by decide) e)]
    rw [if_neg (show ¬ i.op=30 from fun e=>h 30 (by decide) (by decide) e)]
    rw [if_neg (show ¬ i.op=31 from fun e=>h 31 (by decide) (by decide) e)]
    rw [if_neg (show ¬ i.op=32 from fun e=>h 32 (by decide) (by decide) e)]
    rw [if_neg (show ¬ i.op=33 from fun e=>h 33 (by decide) (by decide) e)]
    rw [if_neg (show ¬ i.op=34 from fun e=>h 34 (by decide) (by decide) e)]
    rw [if_neg (show ¬ i.op=35 from fun e=>h 35 (by decide) (by decide) e)]
  unfold okJ fieldsP
  rw [this]
  rfl
theorem const_at {w:World} {n:Int} (h:PIm w p a) (hc:kB p n=true):∃ ad,a.cA=some ad/\(0<=n/\n<(p.consts.length:Int))/\∀ v,Ext w v->v.cell? ((ad.add (n.toNat*3)).add 0)=some (.int .u8 (constAt p n).k):=by
  unfold kB below at hc
  simp only [Bool.and_eq_true,decide_eq_true_eq] at hc
  obtain ⟨ad,hA,cs,hrep,hcell⟩:=at1 h.consts (j:=n.toNat) (by omega)
  obtain rfl:cs=vc p.consts[n.toNat]:=hrep
  have he:constAt p n=p.consts[n.toNat]:=by unfold constAt;rw [List.getD_eq_getElem?_getD,List.getElem?_eq_getElem (by omega)];rfl
  rw [he]
  exact ⟨ad,hA,hc,fun v e=>hcell v e 0 _ rfl⟩
theorem srt_at {w:World} {n:Int} (h:PIm w p a) (hc:sB p n=true):∃ ad,a.sA=some ad/\(0<=n/\n<(p.sorts.length:Int))/\∃ B d,∀ v,Ext w v->v.cell? ((ad.add (n.toNat*3)).add 0)=some (.slice B (srtAt p n).desc.length d)/\v.cell? ((ad.add (n.toNat*3)).add 1)=some (.int .i64 (srtAt p n).cols):=by
  unfold sB below at hc
  simp only [Bool.and_eq_true,decide_eq_true_eq] at hc
  obtain ⟨ad,hA,cs,hrep,hcell⟩:=at1 h.sorts (j:=n.toNat) (by omega)
  obtain ⟨B,d,rfl,_,_⟩:=hrep
  have he:srtAt p n=p.sorts[n.toNat]:=by unfold srtAt;rw [List.getD_eq_getElem?_getD,List.getElem?_eq_getElem (by omega)];rfl
  rw [he]
  exact ⟨ad,hA,hc,B,d,fun v e=>⟨hcell v e 0 _ rfl,hcell v e 1 _ rfl⟩⟩
theorem nth_below (d:Int):below d 10=(nth fNames d).2:=by
  unfold nth below
  by_cases h:d<0\/((fNames.length:Nat):Int)<=d
  · rw [if_pos h]
    have h:d<0\/(10:Int)<=d:=h
    simp;omega
  · rw [if_neg h]
    have h : ¬ (d<0\/(10:Int)<=d):=h
    simp;omega
theorem nth_fnAt (d:Int):fnAt d=(nth fNames d).1:=by
  unfold nth fnAt
  by_cases h:d<0\/((fNames.length:Nat):Int)<=d
  · rw [if_pos h,if_pos h]
  · rw [if_neg h,if_neg h]
theorem okJ_m5 (h:i.op=5\/i.op=6\/i.op=7):okJ p t i=(rB p i.a && (rB p i.b && (zB i.c && (inB i.d 0 2)))):=by
  rcases h with h|h|h
  · exact okJ_5 h
  · exact okJ_6 h
  · exact okJ_7 h
theorem okJ_m14 (h:i.op=14\/i.op=16):okJ p t i=(ixB p i.a && (jB p t i.b && (decide (1<=i.d) && (manyB p i.c i.d)))):=by
  rcases h with h|h
  · exact okJ_14 h
  · exact okJ_16 h
theorem okJ_m32 (h:i.op=32\/i.op=33\/i.op=34):okJ p t i=(zB i.a && (zB i.b && (zB i.c && (zB i.d && (decide (t=0) && (decide (p.code.length=2))))))):=by
  rcases h with h|h|h
  · exact okJ_32 h
  · exact okJ_33 h
  · exact okJ_34 h
set_option maxRecDepth 20000 in
set_option maxHeartbeats 8000000 in
theorem RInstr_spec {w:World} (hp:PIm w p a) (hr : 0<=p.regs/\p.regs<=250) (hs:∀ n,(srtAt p n).cols<=60) {j:Nat} (hj:j<p.code.length) :
    CallsV Tryz.prog 60 #[pagg p a,.int .i64 (j:Int)] w fun r w'=>r=.bool (okAt p j p.code[j])/\Ext w w':=by
  refine cardindexref15_instr.calls okay ?_
  unfold cardindexref15_instr.W
  intro g w1 f
  obtain ⟨ad,hA,cs,hrep,hcell⟩:=at1 (hp.ext f.ext).code hj
  rw [okJ_at]
  obtain ⟨t,ht⟩:∃ t:Int,t=(j:Int):=⟨_,rfl⟩
  have hjn:j=((j:Int)).toNat:=rfl
  generalize p.code[j]=i at *
  obtain rfl:cs=[.int .u8 i.op,.int .i64 i.a,.int .i64 i.b,.int .i64 i.c,.int .i64 i.d]:=hrep
  have c1:=fun q y hy=>hcell w1 (.refl _ _) q y hy
  refine ⟨_,_,_,f.blk.cell rfl,ad,hA,⟨by omega,by omega⟩,_,c1 0 _ rfl,_,c1 1 _ rfl,_,c1 2 _ rfl,_,c1 3 _ rfl,_,c1 4 _ rfl,?_⟩
  intro g1 w2 f1
  refine ⟨f1.blk.stOK [.int .u8 i.op,.int .i64 i.a,.int .i64 i.b,.int .i64 i.c,.int .i64 i.d] 0 (by simp),fun w3 hw3=>?_⟩
  obtain ⟨b1,q1⟩:=set0 f1.blk hw3 rfl
  have y1:=f1.ge
  have y0:=f.lt
  have l1:=f1.lt
  have e0:=f.ext
  have e3:Ext w w3:=(e0.trans' f1.ext).trans q1 (fun _ _ h=>h) (fun k hk e=>by have e:k=g1:=e;have:=e0.size;omega)
  have b0:Blk w3 g (pcs p a):=(f.blk.ext f1.ext).keep q1 (fun e=>by have e:g=g1:=e;omega)
  have z3:=q1.size
  repeat (first|refine ⟨_,Blk.cell (b0) (by rfl),?_⟩|refine ⟨_,_,_,Blk.cell (b0) (by rfl),?_⟩)
  intro g2 w4 f2
  refine ⟨f2.blk.stOK (lcs p a (j:Int)) 0 (by simp),fun w5 hw5=>?_⟩
  obtain ⟨b2,q2⟩:=set0 f2.blk hw5 rfl
  have y2:=f2.ge
  have l2:=f2.lt
  have e5:Ext w w5:=(e3.trans' f2.ext).trans q2 (fun _ _ h=>h) (fun k hk e=>by have e:k=g2:=e;have:=e3.size;omega)
  have b0:=(b0.ext f2.ext).keep q2 (fun e=>by have e:g=g2:=e;omega)
  have b1:=(b1.ext f2.ext).keep q2 (fun e=>by have e:g1=g2:=e;omega)
  repeat (first|refine ⟨_,Blk.cell (b1) (by rfl),?_⟩|refine ⟨_,_,_,Blk.cell (b1) (by rfl),?_⟩)
  intro g3 u f3
  have h:ISt p a (j:Int) i w u g g1 g2 g3:=⟨e5.trans' f3.ext,b0.ext f3.ext,b1.ext f3.ext,b2.ext f3.ext,f3.blk⟩
  rw [<- ht] at *
  clear b0 b1 b2 q1 q2 f f1 f2 f3 e0 e3 e5 hw3 hw5 hcell c1 hA
  refine ⟨_,h.b1.cell rfl,?_⟩
  refine brd (fun hop=>?_) (fun n1=>?_)
  · repeat (first|refine ⟨_,Blk.cell (h.b2) (by rfl),?_⟩|refine ⟨_,_,_,Blk.cell (h.b2) (by rfl),?_⟩|refine ⟨_,Blk.cell (h.b1) (by rfl),?_⟩|refine ⟨_,_,_,Blk.cell (h.b1) (by rfl),?_⟩)
    refine (look_r_spec (p:=p) (a:=a) (t:=t) (n:=i.a)).mono ?_
    rintro _ u1 ⟨rfl,k⟩
    have h:=h.ex k
    refine ⟨_,rfl,br (fun (h1:rB p i.a=true)=>?_) (fun (h1:rB p i.a=false)=>⟨by rw [okJ_1 hop];simp [h1],h.e⟩)⟩
    repeat (first|refine ⟨_,Blk.cell (h.b2) (by rfl),?_⟩|refine ⟨_,_,_,Blk.cell (h.b2) (by rfl),?_⟩|refine ⟨_,Blk.cell (h.b1) (by rfl),?_⟩|refine ⟨_,_,_,Blk.cell (h.b1) (by rfl),?_⟩)
    refine (look_k_spec (p:=p) (a:=a) (t:=t) (n:=i.b)).mono ?_
    rintro _ u2 ⟨rfl,k⟩
    have h:=h.ex k
    refine ⟨_,rfl,br (fun (h2:kB p i.b=true)=>?_) (fun (h2:kB p i.b=false)=>⟨by rw [okJ_1 hop];simp [h1,h2],h.e⟩)⟩
    refine ⟨_,rfl,⟨by omega,by omega⟩,_,h.b3.cell rfl,?_⟩
    refine br (fun (h3:zB i.c=true)=>?_) (fun (h3:zB i.c=false)=>⟨by rw [okJ_1 hop];simp [h1,h2,h3],h.e⟩)
    refine ⟨_,rfl,⟨by omega,by omega⟩,_,h.b3.cell rfl,?_⟩
    exact ⟨by show Value.bool (zB i.d)=_;rw [okJ_1 hop];simp [h1,h2,h3],h.e⟩
  refine brd (fun hop=>?_) (fun n2=>?_)
  · repeat (first|refine ⟨_,Blk.cell (h.b2) (by rfl),?_⟩|refine ⟨_,_,_,Blk.cell (h.b2) (by rfl),?_⟩|refine ⟨_,Blk.cell (h.b1) (by rfl),?_⟩|refine ⟨_,_,_,Blk.cell (h.b1) (by rfl),?_⟩)
    refine (look_r_spec (p:=p) (a:=a) (t:=t) (n:=i.a)).mono ?_
    rintro _ u1 ⟨rfl,k⟩
    have h:=h.ex k
    refine ⟨_,rfl,br (fun (h1:rB p i.a=true)=>?_) (fun (h1:rB p i.a=false)=>⟨by rw [okJ_2 hop];simp [h1],h.e⟩)⟩
    repeat (first|refine ⟨_,Blk.cell (h.b1) (by rfl),?_⟩|refine ⟨_,_,_,Blk.cell (h.b1) (by rfl),?_⟩|refine ⟨_,Blk.cell (h.b0) (by rfl),?_⟩|refine ⟨_,_,_,Blk.cell (h.b0) (by rfl),?_⟩)
    refine (in_spec _ _ _ _).mono ?_
    rintro _ u2 ⟨rfl,k⟩
    have h:=h.ex k
    refine ⟨_,rfl,br (fun (h2:inB i.b 0 p.binds=true)=>?_) (fun (h2:inB i.b 0 p.binds=false)=>⟨by rw [okJ_2 hop];simp [h1,h2],h.e⟩)⟩
    refine ⟨_,rfl,⟨by omega,by omega⟩,_,h.b3.cell rfl,?_⟩
    refine br (fun (h3:zB i.c=true)=>?_) (fun (h3:zB i.c=false)=>⟨by rw [okJ_2 hop];simp [h1,h2,h3],h.e⟩)
    refine ⟨_,rfl,⟨by omega,by omega⟩,_,h.b3.cell rfl,?_⟩
    exact ⟨by show Value.bool (zB i.d)=_;rw [okJ_2 hop];simp [h1,h2,h3],h.e⟩
  refine brd (fun hop=>?_) (fun n3=>?_)
  · repeat (first|refine ⟨_,Blk.cell (h.b2) (by rfl),?_⟩|refine ⟨_,_,_,Blk.cell (h.b2) (by rfl),?_⟩|refine ⟨_,Blk.cell (h.b1) (by rfl),?_⟩|refine ⟨_,_,_,Blk.cell (h.b1) (by rfl),?_⟩)
    refine (look_r_spec (p:=p) (a:=a) (t:=t) (n:=i.a)).mono ?_
    rintro _ u1 ⟨rfl,k⟩
    have h:=h.ex k
    refine ⟨_,rfl,br (fun (h1:rB p i.a=true)=>?_) (fun (h1:rB p i.a=false)=>⟨by rw [okJ_3 hop];simp [h1],h.e⟩)⟩
    repeat (first|refine ⟨_,Blk.cell (h.b2) (by rfl),?_⟩|refine ⟨_,_,_,Blk.cell (h.b2) (by rfl),?_⟩|refine ⟨_,Blk.cell (h.b1) (by rfl),?_⟩|refine ⟨_,_,_,Blk.cell (h.b1) (by rfl),?_⟩)
    refine (look_r_spec (p:=p) (a:=a) (t:=t) (n:=i.b)).mono ?_
    rintro _ u2 ⟨rfl,k⟩
    have h:=h.ex k
    refine ⟨_,rfl,br (fun (h2:rB p i.b=true)=>?_) (fun (h2:rB p i.b=false)=>⟨by rw [okJ_3 hop];simp [h1,h2],h.e⟩)⟩
    refine ⟨_,rfl,⟨by omega,by omega⟩,_,h.b3.cell rfl,?_⟩
    refine br (fun (h3:zB i.c=true)=>?_) (fun (h3:zB i.c=false)=>⟨by rw [okJ_3 hop];simp [h1,h2,h3],h.e⟩)
    refine ⟨_,rfl,⟨by omega,by omega⟩,_,h.b3.cell rfl,?_⟩
    exact ⟨by show Value.bool (zB i.d)=_;rw [okJ_3 hop];simp [h1,h2,h3],h.e⟩
  refine brd (fun hop=>?_) (fun n4=>?_)
  · repeat (first|refine ⟨_,Blk.cell (h.b2) (by rfl),?_⟩|refine ⟨_,_,_,Blk.cell (h.b2) (by rfl),?_⟩|refine ⟨_,Blk.cell (h.b1) (by rfl),?_⟩|refine ⟨_,_,_,Blk.cell (h.b1) (by rfl),?_⟩)
    refine (look_r_spec (p:=p) (a:=a) (t:=t) (n:=i.a)).mono ?_
    rintro _ u1 ⟨rfl,k⟩
    have h:=h.ex k
    refine ⟨_,rfl,br (fun (h1:rB p i.a=true)=>?_) (fun (h1:rB p i.a=false)=>⟨by rw [okJ_4 hop];simp [h1],h.e⟩)⟩
    repeat (first|refine ⟨_,Blk.cell (h.b2) (by rfl),?_⟩|refine ⟨_,_,_,Blk.cell (h.b2) (by rfl),?_⟩|refine ⟨_,Blk.cell (h.b1) (by rfl),?_⟩|refine ⟨_,_,_,Blk.cell (h.b1) (by rfl),?_⟩)
    refine (look_r_spec (p:=p) (a:=a) (t:=t) (n:=i.b)).mono ?_
    rintro _ u2 ⟨rfl,k⟩
    have h:=h.ex k
    refine ⟨_,rfl,br (fun (h2:rB p i.b=true)=>?_) (fun (h2:rB p i.b=false)=>⟨by rw [okJ_4 hop];simp [h1,h2],h.e⟩)⟩
    repeat (first|refine ⟨_,Blk.cell (h.b2) (by rfl),?_⟩|refine ⟨_,_,_,Blk.cell (h.b2) (by rfl),?_⟩|refine ⟨_,Blk.cell (h.b1) (by rfl),?_⟩|refine ⟨_,_,_,Blk.cell (h.b1) (by rfl),?_⟩)
    refine (look_r_spec (p:=p) (a:=a) (t:=t) (n:=i.c)).mono ?_
    rintro _ u3 ⟨rfl,k⟩
    have h:=h.ex k
    refine ⟨_,rfl,br (fun (h3:rB p i.c=true)=>?_) (fun (h3:rB p i.c=false)=>⟨by rw [okJ_4 hop];simp [h1,h2,h3],h.e⟩)⟩
    repeat (first|refine ⟨_,Blk.cell (h.b1) (by rfl),?_⟩|refine ⟨_,_,_,Blk.cell (h.b1) (by rfl),?_⟩|refine ⟨_,Blk.cell (h.b0) (by rfl),?_⟩|refine ⟨_,_,_,Blk.cell (h.b0) (by rfl),?_⟩)
    refine (in_spec _ _ _ _).mono ?_
    rintro _ u4 ⟨rfl,k⟩
    have h:=h.ex k
    exact ⟨_,rfl,by show Value.bool (inB i.d 0 15)=_;rw [okJ_4 hop];simp [h1,h2,h3],h.e⟩
  refine ⟨fun x v=>(x=true<->(i.op=5\/i.op=6\/i.op=7))/\v=u,?_,?_⟩
  rotate_left
  · exact brd (fun m5=>⟨by simp [m5],rfl⟩) (fun m5=>brd (fun m6=>⟨by simp [m6],rfl⟩) (fun m6=>⟨by simp [m5,m6],rfl⟩))
  rintro x5 u ⟨hx,rfl⟩
  refine br (fun hx1=>?_) (fun hx0=>?_)
  · repeat (first|refine ⟨_,Blk.cell (h.b2) (by rfl),?_⟩|refine ⟨_,_,_,Blk.cell (h.b2) (by rfl),?_⟩|refine ⟨_,Blk.cell (h.b1) (by rfl),?_⟩|refine ⟨_,_,_,Blk.cell (h.b1) (by rfl),?_⟩)
    refine (look_r_spec (p:=p) (a:=a) (t:=t) (n:=i.a)).mono ?_
    rintro _ u1 ⟨rfl,k⟩
    have h:=h.ex k
    refine ⟨_,rfl,br (fun (h1:rB p i.a=true)=>?_) (fun (h1:rB p i.a=false)=>⟨by rw [okJ_m5 (hx.1 hx1)];simp [h1],h.e⟩)⟩
    repeat (first|refine ⟨_,Blk.cell (h.b2) (by rfl),?_⟩|refine ⟨_,_,_,Blk.cell (h.b2) (by rfl),?_⟩|refine ⟨_,Blk.cell (h.b1) (by rfl),?_⟩|refine ⟨_,_,_,Blk.cell (h.b1) (by rfl),?_⟩)
    refine (look_r_spec (p:=p) (a:=a) (t:=t) (n:=i.b)).mono ?_
    rintro _ u2 ⟨rfl,k⟩
    have h:=h.ex k
    refine ⟨_,rfl,br (fun (h2:rB p i.b=true)=>?_) (fun (h2:rB p i.b=false)=>⟨by rw [okJ_m5 (hx.1 hx1)];simp [h1,h2],h.e⟩)⟩
    refine ⟨_,rfl,⟨by omega,by omega⟩,_,h.b3.cell rfl,?_⟩
    refine br (fun (h3:zB i.c=true)=>?_) (fun (h3:zB i.c=false)=>⟨by rw [okJ_m5 (hx.1 hx1)];simp [h1,h2,h3],h.e⟩)
    repeat (first|refine ⟨_,Blk.cell (h.b1) (by rfl),?_⟩|refine ⟨_,_,_,Blk.cell (h.b1) (by rfl),?_⟩|refine ⟨_,Blk.cell (h.b0) (by rfl),?_⟩|refine ⟨_,_,_,Blk.cell (h.b0) (by rfl),?_⟩)
    refine (in_spec _ _ _ _).mono ?_
    rintro _ u4 ⟨rfl,k⟩
    have h:=h.ex k
    exact ⟨_,rfl,by show Value.bool (inB i.d 0 2)=_;rw [okJ_m5 (hx.1 hx1)];simp [h1,h2,h3],h.e⟩
  have n5 : ¬ (i.op=5\/i.op=6\/i.op=7):=fun q=>by rw [hx.2 q] at hx0;cases hx0
  clear hx hx0
  refine brd (fun hop=>?_) (fun n8=>?_)
  · repeat (first|refine ⟨_,Blk.cell (h.b1) (by rfl),?_⟩|refine ⟨_,_,_,Blk.cell (h.b1) (by rfl),?_⟩)
    refine (RFunc_spec _ _).mono ?_
    rintro _ u0 ⟨rfl,k⟩
    have h:=h.ex k
    refine ⟨_,_,rfl,?_⟩
    repeat (first|refine ⟨_,Blk.cell (h.b2) (by rfl),?_⟩|refine ⟨_,_,_,Blk.cell (h.b2) (by rfl),?_⟩|refine ⟨_,Blk.cell (h.b1) (by rfl),?_⟩|refine ⟨_,_,_,Blk.cell (h.b1) (by rfl),?_⟩)
    refine (look_r_spec (p:=p) (a:=a) (t:=t) (n:=i.a)).mono ?_
    rintro _ u1 ⟨rfl,k⟩
    have h:=h.ex k
    refine ⟨_,rfl,br (fun (h1:rB p i.a=true)=>?_) (fun (h1:rB p i.a=false)=>⟨by rw [okJ_8 hop];simp [h1],h.e⟩)⟩
    repeat (first|refine ⟨_,Blk.cell (h.b1) (by rfl),?_⟩|refine ⟨_,_,_,Blk.cell (h.b1) (by rfl),?_⟩)
    refine (in_spec _ _ _ _).mono ?_
    rintro _ u2 ⟨rfl,k⟩
    have h:=h.ex k
    refine ⟨_,rfl,br (fun (h2:inB i.c 1 101=true)=>?_) (fun (h2:inB i.c 1 101=false)=>⟨by rw [okJ_8 hop];simp [h1,h2],h.e⟩)⟩
    repeat (first|refine ⟨_,Blk.cell (h.b2) (by rfl),?_⟩|refine ⟨_,_,_,Blk.cell (h.b2) (by rfl),?_⟩|refine ⟨_,Blk.cell (h.b1) (by rfl),?_⟩|refine ⟨_,_,_,Blk.cell (h.b1) (by rfl),?_⟩)
    refine (look_many_spec (p:=p) (a:=a) (t:=t) (n:=i.b) hr _).mono ?_
    rintro _ u3 ⟨rfl,k⟩
    have h:=h.ex k
    refine ⟨_,rfl,br (fun (h3:manyB p i.b i.c=true)=>?_) (fun (h3:manyB p i.b i.c=false)=>⟨by rw [okJ_8 hop];simp [h1,h2,h3],h.e⟩)⟩
    refine br (fun (h4:(nth fNames i.d).2=true)=>?_) (fun (h4:(nth fNames i.d).2=false)=>⟨by rw [okJ_8 hop];simp [h1,h2,h3,nth_below,h4],h.e⟩)
    repeat (first|refine ⟨_,Blk.cell (h.b1) (by rfl),?_⟩|refine ⟨_,_,_,Blk.cell (h.b1) (by rfl),?_⟩)
    refine (RKnown_spec _ _ _).mono ?_
    rintro _ u4 ⟨rfl,k⟩
    exact ⟨_,rfl,by rw [okJ_8 hop];simp [h1,h2,h3,nth_below,nth_fnAt,h4],by rw [k];exact h.e⟩
  refine brd (fun hop=>?_) (fun n9=>?_)
  · repeat (first|refine ⟨_,Blk.cell (h.b2) (by rfl),?_⟩|refine ⟨_,_,_,Blk.cell (h.b2) (by rfl),?_⟩|refine ⟨_,Blk.cell (h.b1) (by rfl),?_⟩|refine ⟨_,_,_,Blk.cell (h.b1) (by rfl),?_⟩)
    refine (look_r_spec (p:=p) (a:=a) (t:=t) (n:=i.a)).mono ?_
    rintro _ u1 ⟨rfl,k⟩
    have h:=h.ex k
    refine ⟨_,rfl,br (fun (h1:rB p i.a=true)=>?_) (fun (h1:rB p i.a=false)=>⟨by rw [okJ_9 hop];simp [h1],h.e⟩)⟩
    refine ⟨_,rfl,⟨by omega,by omega⟩,_,h.b3.cell rfl,?_⟩
    refine br (fun (h2:zB i.b=true)=>?_) (fun (h2:zB i.b=false)=>⟨by rw [okJ_9 hop];simp [h1,h2],h.e⟩)
    refine ⟨_,rfl,⟨by omega,by omega⟩,_,h.b3.cell rfl,?_⟩
    refine br (fun (h3:zB i.c=true)=>?_) (fun (h3:zB i.c=false)=>⟨by rw [okJ_9 hop];simp [h1,h2,h3],h.e⟩)
    repeat (first|refine ⟨_,Blk.cell (h.b1) (by rfl),?_⟩|refine ⟨_,_,_,Blk.cell (h.b1) (by rfl),?_⟩|refine ⟨_,Blk.cell (h.b0) (by rfl),?_⟩|refine ⟨_,_,_,Blk.cell (h.b0) (by rfl),?_⟩)
    refine (in_spec _ _ _ _).mono ?_
    rintro _ u4 ⟨rfl,k⟩
    have h:=h.ex k
    exact ⟨_,rfl,by show Value.bool (inB i.d 0 2)=_;rw [okJ_9 hop];simp [h1,h2,h3],h.e⟩
  refine brd (fun hop=>?_) (fun n10=>?_)
  · repeat (first|refine ⟨_,Blk.cell (h.b2) (by rfl),?_⟩|refine ⟨_,_,_,Blk.cell (h.b2) (by rfl),?_⟩|refine ⟨_,Blk.cell (h.b1) (by rfl),?_⟩|refine ⟨_,_,_,Blk.cell (h.b1) (by rfl),?_⟩)
    refine (look_j_spec (p:=p) (a:=a) (t:=t) (n:=i.a)).mono ?_
    rintro _ u1 ⟨rfl,k⟩
    have h:=h.ex k
    refine ⟨_,rfl,br (fun (h1:jB p t i.a=true)=>?_) (fun (h1:jB p t i.a=false)=>⟨by rw [okJ_10 hop];simp [h1],h.e⟩)⟩
    refine ⟨_,rfl,⟨by omega,by omega⟩,_,h.b3.cell rfl,?_⟩
    refine br (fun (h2:zB i.b=true)=>?_) (fun (h2:zB i.b=false)=>⟨by rw [okJ_10 hop];simp [h1,h2],h.e⟩)
    refine ⟨_,rfl,⟨by omega,by omega⟩,_,h.b3.cell rfl,?_⟩
    refine br (fun (h3:zB i.c=true)=>?_) (fun (h3:zB i.c=false)=>⟨by rw [okJ_10 hop];simp [h1,h2,h3],h.e⟩)
    refine ⟨_,rfl,⟨by omega,by omega⟩,_,h.b3.cell rfl,?_⟩
    exact ⟨by show Value.bool (zB i.d)=_;rw [okJ_10 hop];simp [h1,h2,h3],h.e⟩
  refine brd (fun hop=>?_) (fun n11=>?_)
  · repeat (first|refine ⟨_,Blk.cell (h.b2) (by rfl),?_⟩|refine ⟨_,_,_,Blk.cell (h.b2) (by rfl),?_⟩|refine ⟨_,Blk.cell (h.b1) (by rfl),?_⟩|refine ⟨_,_,_,Blk.cell (h.b1) (by rfl),?_⟩)
    refine (look_j_spec (p:=p) (a:=a) (t:=t) (n:=i.a)).mono ?_
    rintro _ u1 ⟨rfl,k⟩
    have h:=h.ex k
    refine ⟨_,rfl,br (fun (h1:jB p t i.a=true)=>?_) (fun (h1:jB p t i.a=false)=>⟨by rw [okJ_11 hop];simp [h1],h.e⟩)⟩
    repeat (first|refine ⟨_,Blk.cell (h.b2) (by rfl),?_⟩|refine ⟨_,_,_,Blk.cell (h.b2) (by rfl),?_⟩|refine ⟨_,Blk.cell (h.b1) (by rfl),?_⟩|refine ⟨_,_,_,Blk.cell (h.b1) (by rfl),?_⟩)
    refine (look_r_spec (p:=p) (a:=a) (t:=t) (n:=i.b)).mono ?_
    rintro _ u2 ⟨rfl,k⟩
    have h:=h.ex k
    refine ⟨_,rfl,br (fun (h2:rB p i.b=true)=>?_) (fun (h2:rB p i.b=false)=>⟨by rw [okJ_11 hop];simp [h1,h2],h.e⟩)⟩
    refine ⟨_,rfl,⟨by omega,by omega⟩,_,h.b3.cell rfl,?_⟩
    refine br (fun (h3:zB i.c=true)=>?_) (fun (h3:zB i.c=false)=>⟨by rw [okJ_11 hop];simp [h1,h2,h3],h.e⟩)
    refine ⟨_,rfl,⟨by omega,by omega⟩,_,h.b3.cell rfl,?_⟩
    exact ⟨by show Value.bool (zB i.d)=_;rw [okJ_11 hop];simp [h1,h2,h3],h.e⟩
  refine brd (fun hop=>?_) (fun n12=>?_)
  · repeat (first|refine ⟨_,Blk.cell (h.b2) (by rfl),?_⟩|refine ⟨_,_,_,Blk.cell (h.b2) (by rfl),?_⟩|refine ⟨_,Blk.cell (h.b1) (by rfl),?_⟩|refine ⟨_,_,_,Blk.cell (h.b1) (by rfl),?_⟩)
    refine (look_j_spec (p:=p) (a:=a) (t:=t) (n:=i.a)).mono ?_
    rintro _ u1 ⟨rfl,k⟩
    have h:=h.ex k
    refine ⟨_,rfl,br (fun (h1:jB p t i.a=true)=>?_) (fun (h1:jB p t i.a=false)=>⟨by rw [okJ_12 hop];simp [h1],h.e⟩)⟩
    repeat (first|refine ⟨_,Blk.cell (h.b1) (by rfl),?_⟩|refine ⟨_,_,_,Blk.cell (h.b1) (by rfl),?_⟩)
    refine brd (fun (h2 : 1<=i.d)=>?_) (fun h2=>⟨by rw [okJ_12 hop];simp [h1,h2],h.e⟩)
    repeat (first|refine ⟨_,Blk.cell (h.b2) (by rfl),?_⟩|refine ⟨_,_,_,Blk.cell (h.b2) (by rfl),?_⟩|refine ⟨_,Blk.cell (h.b1) (by rfl),?_⟩|refine ⟨_,_,_,Blk.cell (h.b1) (by rfl),?_⟩)
    refine (look_many_spec (p:=p) (a:=a) (t:=t) (n:=i.b) hr _).mono ?_
    rintro _ u3 ⟨rfl,k⟩
    have h:=h.ex k
    refine ⟨_,rfl,br (fun (h3:manyB p i.b i.d=true)=>?_) (fun (h3:manyB p i.b i.d=false)=>⟨by rw [okJ_12 hop];simp [h1,h2,h3],h.e⟩)⟩
    repeat (first|refine ⟨_,Blk.cell (h.b2) (by rfl),?_⟩|refine ⟨_,_,_,Blk.cell (h.b2) (by rfl),?_⟩|refine ⟨_,Blk.cell (h.b1) (by rfl),?_⟩|refine ⟨_,_,_,Blk.cell (h.b1) (by rfl),?_⟩)
    refine (look_many_spec (p:=p) (a:=a) (t:=t) (n:=i.c) hr _).mono ?_
    rintro _ u4 ⟨rfl,k⟩
    have h:=h.ex k
    exact ⟨_,rfl,by show Value.bool (manyB p i.c i.d)=_;rw [okJ_12 hop];simp [h1,h2,h3],h.e⟩
  refine brd (fun hop=>?_) (fun n13=>?_)
  · repeat (first|refine ⟨_,Blk.cell (h.b2) (by rfl),?_⟩|refine ⟨_,_,_,Blk.cell (h.b2) (by rfl),?_⟩|refine ⟨_,Blk.cell (h.b1) (by rfl),?_⟩|refine ⟨_,_,_,Blk.cell (h.b1) (by rfl),?_⟩)
    refine (look_c_spec (p:=p) (a:=a) (t:=t) (n:=i.a)).mono ?_
    rintro _ u1 ⟨rfl,k⟩
    have h:=h.ex k
    refine ⟨_,rfl,br (fun (h1:cB p i.a=true)=>?_) (fun (h1:cB p i.a=false)=>⟨by rw [okJ_13 hop];simp [h1],h.e⟩)⟩
    repeat (first|refine ⟨_,Blk.cell (h.b2) (by rfl),?_⟩|refine ⟨_,_,_,Blk.cell (h.b2) (by rfl),?_⟩|refine ⟨_,Blk.cell (h.b1) (by rfl),?_⟩|refine ⟨_,_,_,Blk.cell (h.b1) (by rfl),?_⟩)
    refine (look_j_spec (p:=p) (a:=a) (t:=t) (n:=i.b)).mono ?_
    rintro _ u2 ⟨rfl,k⟩
    have h:=h.ex k
    refine ⟨_,rfl,br (fun (h2:jB p t i.b=true)=>?_) (fun (h2:jB p t i.b=false)=>⟨by rw [okJ_13 hop];simp [h1,h2],h.e⟩)⟩
    refine ⟨_,rfl,⟨by omega,by omega⟩,_,h.b3.cell rfl,?_⟩
    refine br (fun (h3:zB i.c=true)=>?_) (fun (h3:zB i.c=false)=>⟨by rw [okJ_13 hop];simp [h1,h2,h3],h.e⟩)
    refine ⟨_,rfl,⟨by omega,by omega⟩,_,h.b3.cell rfl,?_⟩
    exact ⟨by show Value.bool (zB i.d)=_;rw [okJ_13 hop];simp [h1,h2,h3],h.e⟩
  refine ⟨fun x v=>(x=true<->(i.op=14\/i.op=16))/\v=u,?_,?_⟩
  rotate_left
  · exact brd (fun m14=>⟨by simp [m14],rfl⟩) (fun m14=>⟨by simp [m14],rfl⟩)
  rintro x14 u ⟨hx,rfl⟩
  refine br (fun hx1=>?_) (fun hx0=>?_)
  · repeat (first|refine ⟨_,Blk.cell (h.b2) (by rfl),?_⟩|refine ⟨_,_,_,Blk.cell (h.b2) (by rfl),?_⟩|refine ⟨_,Blk.cell (h.b1) (by rfl),?_⟩|refine ⟨_,_,_,Blk.cell (h.b1) (by rfl),?_⟩)
    refine (look_index_spec (p:=p) (a:=a) (t:=t) (n:=i.a) (hp.ext h.e)).mono ?_
    rintro _ u1 ⟨rfl,k⟩
    have h:=h.ex k
    refine ⟨_,rfl,br (fun (h1:ixB p i.a=true)=>?_) (fun (h1:ixB p i.a=false)=>⟨by rw [okJ_m14 (hx.1 hx1)];simp [h1],h.e⟩)⟩
    repeat (first|refine ⟨_,Blk.cell (h.b2) (by rfl),?_⟩|refine ⟨_,_,_,Blk.cell (h.b2) (by rfl),?_⟩|refine ⟨_,Blk.cell (h.b1) (by rfl),?_⟩|refine ⟨_,_,_,Blk.cell (h.b1) (by rfl),?_⟩)
    refine (look_j_spec (p:=p) (a:=a) (t:=t) (n:=i.b)).mono ?_
    rintro _ u2 ⟨rfl,k⟩
    have h:=h.ex k
    refine ⟨_,rfl,br (fun (h2:jB p t i.b=true)=>?_) (fun (h2:jB p t i.b=false)=>⟨by rw [okJ_m14 (hx.1 hx1)];simp [h1,h2],h.e⟩)⟩
    repeat (first|refine ⟨_,Blk.cell (h.b1) (by rfl),?_⟩|refine ⟨_,_,_,Blk.cell (h.b1) (by rfl),?_⟩)
    refine brd (fun (h3 : 1<=i.d)=>?_) (fun h3=>⟨by rw [okJ_m14 (hx.1 hx1)];simp [h1,h2,h3],h.e⟩)
    repeat (first|refine ⟨_,Blk.cell (h.b2) (by rfl),?_⟩|refine ⟨_,_,_,Blk.cell (h.b2) (by rfl),?_⟩|refine ⟨_,Blk.cell (h.b1) (by rfl),?_⟩|refine ⟨_,_,_,Blk.cell (h.b1) (by rfl),?_⟩)
    refine (look_many_spec (p:=p) (a:=a) (t:=t) (n:=i.c) hr _).mono ?_
    rintro _ u4 ⟨rfl,k⟩
    have h:=h.ex k
    exact ⟨_,rfl,by show Value.bool (manyB p i.c i.d)=_;rw [okJ_m14 (hx.1 hx1)];simp [h1,h2,h3],h.e⟩
  have n14 : ¬ (i.op=14\/i.op=16):=fun q=>by rw [hx.2 q] at hx0;cases hx0
  clear hx hx0
  refine brd (fun hop=>?_) (fun n15=>?_)
  · repeat (first|refine ⟨_,Blk.cell (h.b2) (by rfl),?_⟩|refine ⟨_,_,_,Blk.cell (h.b2) (by rfl),?_⟩|refine ⟨_,Blk.cell (h.b1) (by rfl),?_⟩|refine ⟨_,_,_,Blk.cell (h.b1) (by rfl),?_⟩)
    refine (look_c_spec (p:=p) (a:=a) (t:=t) (n:=i.a)).mono ?_
    rintro _ u1 ⟨rfl,k⟩
    have h:=h.ex k
    refine ⟨_,rfl,br (fun (h1:cB p i.a=true)=>?_) (fun (h1:cB p i.a=false)=>⟨by rw [okJ_15 hop];simp [h1],h.e⟩)⟩
    repeat (first|refine ⟨_,Blk.cell (h.b2) (by rfl),?_⟩|refine ⟨_,_,_,Blk.cell (h.b2) (by rfl),?_⟩|refine ⟨_,Blk.cell (h.b1) (by rfl),?_⟩|refine ⟨_,_,_,Blk.cell (h.b1) (by rfl),?_⟩)
    refine (look_back_spec (p:=p) (a:=a) (t:=t) (n:=i.b)).mono ?_
    rintro _ u2 ⟨rfl,k⟩
    have h:=h.ex k
    refine ⟨_,rfl,br (fun (h2:backB t i.b=true)=>?_) (fun (h2:backB t i.b=false)=>⟨by rw [okJ_15 hop];simp [h1,h2],h.e⟩)⟩
    refine ⟨_,rfl,⟨by omega,by omega⟩,_,h.b3.cell rfl,?_⟩
    refine br (fun (h3:zB i.c=true)=>?_) (fun (h3:zB i.c=false)=>⟨by rw [okJ_15 hop];simp [h1,h2,h3],h.e⟩)
    refine ⟨_,rfl,⟨by omega,by omega⟩,_,h.b3.cell rfl,?_⟩
    exact ⟨by show Value.bool (zB i.d)=_;rw [okJ_15 hop];simp [h1,h2,h3],h.e⟩
  refine brd (fun hop=>?_) (fun n17=>?_)
  · repeat (first|refine ⟨_,Blk.cell (h.b2) (by rfl),?_⟩|refine ⟨_,_,_,Blk.cell (h.b2) (by rfl),?_⟩|refine ⟨_,Blk.cell (h.b1) (by rfl),?_⟩|refine ⟨_,_,_,Blk.cell (h.b1) (by rfl),?_⟩)
    refine (look_table_spec (p:=p) (a:=a) (t:=t) (n:=i.a) (hp.ext h.e)).mono ?_
    rintro _ u1 ⟨rfl,k⟩
    have h:=h.ex k
    refine ⟨_,rfl,br (fun (h1:tabB p i.a=true)=>?_) (fun (h1:tabB p i.a=false)=>⟨by rw [okJ_17 hop];simp [h1],h.e⟩)⟩
    repeat (first|refine ⟨_,Blk.cell (h.b2) (by rfl),?_⟩|refine ⟨_,_,_,Blk.cell (h.b2) (by rfl),?_⟩|refine ⟨_,Blk.cell (h.b1) (by rfl),?_⟩|refine ⟨_,_,_,Blk.cell (h.b1) (by rfl),?_⟩)
    refine (look_j_spec (p:=p) (a:=a) (t:=t) (n:=i.b)).mono ?_
    rintro _ u2 ⟨rfl,k⟩
    have h:=h.ex k
    refine ⟨_,rfl,br (fun (h2:jB p t i.b=true)=>?_) (fun (h2:jB p t i.b=false)=>⟨by rw [okJ_17 hop];simp [h1,h2],h.e⟩)⟩
    repeat (first|refine ⟨_,Blk.cell (h.b2) (by rfl),?_⟩|refine ⟨_,_,_,Blk.cell (h.b2) (by rfl),?_⟩|refine ⟨_,Blk.cell (h.b1) (by rfl),?_⟩|refine ⟨_,_,_,Blk.cell (h.b1) (by rfl),?_⟩)
    refine (look_r_spec (p:=p) (a:=a) (t:=t) (n:=i.c)).mono ?_
    rintro _ u3 ⟨rfl,k⟩
    have h:=h.ex k
    refine ⟨_,rfl,br (fun (h3:rB p i.c=true)=>?_) (fun (h3:rB p i.c=false)=>⟨by rw [okJ_17 hop];simp [h1,h2,h3],h.e⟩)⟩
    refine ⟨_,rfl,⟨by omega,by omega⟩,_,h.b3.cell rfl,?_⟩
    exact ⟨by show Value.bool (zB i.d)=_;rw [okJ_17 hop];simp [h1,h2,h3],h.e⟩
  refine brd (fun hop=>?_) (fun n18=>?_)
  · repeat (first|refine ⟨_,Blk.cell (h.b2) (by rfl),?_⟩|refine ⟨_,_,_,Blk.cell (h.b2) (by rfl),?_⟩|refine ⟨_,Blk.cell (h.b1) (by rfl),?_⟩|refine ⟨_,_,_,Blk.cell (h.b1) (by rfl),?_⟩)
    refine (look_r_spec (p:=p) (a:=a) (t:=t) (n:=i.a)).mono ?_
    rintro _ u1 ⟨rfl,k⟩
    have h:=h.ex k
    refine ⟨_,rfl,br (fun (h1:rB p i.a=true)=>?_) (fun (h1:rB p i.a=false)=>⟨by rw [okJ_18 hop];simp [h1],h.e⟩)⟩
    repeat (first|refine ⟨_,Blk.cell (h.b2) (by rfl),?_⟩|refine ⟨_,_,_,Blk.cell (h.b2) (by rfl),?_⟩|refine ⟨_,Blk.cell (h.b1) (by rfl),?_⟩|refine ⟨_,_,_,Blk.cell (h.b1) (by rfl),?_⟩)
    refine (look_c_spec (p:=p) (a:=a) (t:=t) (n:=i.b)).mono ?_
    rintro _ u2 ⟨rfl,k⟩
    have h:=h.ex k
    refine ⟨_,rfl,br (fun (h2:cB p i.b=true)=>?_) (fun (h2:cB p i.b=false)=>⟨by rw [okJ_18 hop];simp [h1,h2],h.e⟩)⟩
    repeat (first|refine ⟨_,Blk.cell (h.b1) (by rfl),?_⟩|refine ⟨_,_,_,Blk.cell (h.b1) (by rfl),?_⟩|refine ⟨_,Blk.cell (h.b0) (by rfl),?_⟩|refine ⟨_,_,_,Blk.cell (h.b0) (by rfl),?_⟩)
    refine (in_spec _ _ _ _).mono ?_
    rintro _ u3 ⟨rfl,k⟩
    have h:=h.ex k
    refine ⟨_,rfl,br (fun (h3:inB i.c 0 30=true)=>?_) (fun (h3:inB i.c 0 30=false)=>⟨by rw [okJ_18 hop];simp [h1,h2,h3],h.e⟩)⟩
    refine ⟨_,rfl,⟨by omega,by omega⟩,_,h.b3.cell rfl,?_⟩
    exact ⟨by show Value.bool (zB i.d)=_;rw [okJ_18 hop];simp [h1,h2,h3],h.e⟩
  refine brd (fun hop=>?_) (fun n19=>?_)
  · repeat (first|refine ⟨_,Blk.cell (h.b2) (by rfl),?_⟩|refine ⟨_,_,_,Blk.cell (h.b2) (by rfl),?_⟩|refine ⟨_,Blk.cell (h.b1) (by rfl),?_⟩|refine ⟨_,_,_,Blk.cell (h.b1) (by rfl),?_⟩)
    refine (look_r_spec (p:=p) (a:=a) (t:=t) (n:=i.a)).mono ?_
    rintro _ u1 ⟨rfl,k⟩
    have h:=h.ex k
    refine ⟨_,rfl,br (fun (h1:rB p i.a=true)=>?_) (fun (h1:rB p i.a=false)=>⟨by rw [okJ_19 hop];simp [h1],h.e⟩)⟩
    repeat (first|refine ⟨_,Blk.cell (h.b2) (by rfl),?_⟩|refine ⟨_,_,_,Blk.cell (h.b2) (by rfl),?_⟩|refine ⟨_,Blk.cell (h.b1) (by rfl),?_⟩|refine ⟨_,_,_,Blk.cell (h.b1) (by rfl),?_⟩)
    refine (look_c_spec (p:=p) (a:=a) (t:=t) (n:=i.b)).mono ?_
    rintro _ u2 ⟨rfl,k⟩
    have h:=h.ex k
    refine ⟨_,rfl,br (fun (h2:cB p i.b=true)=>?_) (fun (h2:cB p i.b=false)=>⟨by rw [okJ_19 hop];simp [h1,h2],h.e⟩)⟩
    refine ⟨_,rfl,⟨by omega,by omega⟩,_,h.b3.cell rfl,?_⟩
    refine br (fun (h3:zB i.c=true)=>?_) (fun (h3:zB i.c=false)=>⟨by rw [okJ_19 hop];simp [h1,h2,h3],h.e⟩)
    refine ⟨_,rfl,⟨by omega,by omega⟩,_,h.b3.cell rfl,?_⟩
    exact ⟨by show Value.bool (zB i.d)=_;rw [okJ_19 hop];simp [h1,h2,h3],h.e⟩
  refine brd (fun hop=>?_) (fun n20=>?_)
  · refine ⟨fun v=>Ext u v,Fr.drew NoB u,?_⟩
    repeat (first|refine ⟨_,fun u e=>Blk.cell (Blk.ext (h.b2) e) (by rfl),?_⟩|refine ⟨_,_,_,fun u e=>Blk.cell (Blk.ext (h.b2) e) (by rfl),?_⟩|refine ⟨_,fun u e=>Blk.cell (Blk.ext (h.b1) e) (by rfl),?_⟩|refine ⟨_,_,_,fun u e=>Blk.cell (Blk.ext (h.b1) e) (by rfl),?_⟩|refine ⟨_,fun u e=>Blk.cell (Blk.ext (h.b0) e) (by rfl),?_⟩|refine ⟨_,_,_,fun u e=>Blk.cell (Blk.ext (h.b0) e) (by rfl),?_⟩)
    refine (look_s_spec (p:=p) (a:=a) (t:=t) (n:=i.a)).mono ?_
    rintro _ u1 ⟨rfl,k⟩
    have h:=h.ex (Ext.drew0 k)
    refine ⟨_,rfl,br (fun (h1:sB p i.a=true)=>?_) (fun (h1:sB p i.a=false)=>⟨by rw [okJ_20 hop];simp [h1],h.e⟩)⟩
    obtain ⟨ad,hA,hn,B,d,hcell⟩:=srt_at (hp.ext h.e) h1
    refine ⟨fun v=>Ext u1 v,.refl _ _,?_⟩
    repeat (first|refine ⟨_,fun u e=>Blk.cell (Blk.ext (h.b2) e) (by rfl),?_⟩|refine ⟨_,_,_,fun u e=>Blk.cell (Blk.ext (h.b2) e) (by rfl),?_⟩|refine ⟨_,fun u e=>Blk.cell (Blk.ext (h.b1) e) (by rfl),?_⟩|refine ⟨_,_,_,fun u e=>Blk.cell (Blk.ext (h.b1) e) (by rfl),?_⟩|refine ⟨_,fun u e=>Blk.cell (Blk.ext (h.b0) e) (by rfl),?_⟩|refine ⟨_,_,_,fun u e=>Blk.cell (Blk.ext (h.b0) e) (by rfl),?_⟩)
    refine ⟨ad,hA,hn,_,_,_,fun v k=>(hcell v k).1,?_⟩
    refine (look_many_spec (p:=p) (a:=a) (t:=t) (n:=i.b) hr _).mono ?_
    rintro _ u2 ⟨rfl,k2⟩
    have h:=h.ex k2
    refine ⟨_,rfl,k2,br (fun (h2:manyB p i.b (srtAt p i.a).desc.length=true)=>?_) (fun (h2:manyB p i.b (srtAt p i.a).desc.length=false)=>⟨by rw [okJ_20 hop];simp [h1,h2],h.e⟩)⟩
    refine ⟨fun v=>Ext u2 v,.refl _ _,?_⟩
    repeat (first|refine ⟨_,fun u e=>Blk.cell (Blk.ext (h.b2) e) (by rfl),?_⟩|refine ⟨_,_,_,fun u e=>Blk.cell (Blk.ext (h.b2) e) (by rfl),?_⟩|refine ⟨_,fun u e=>Blk.cell (Blk.ext (h.b1) e) (by rfl),?_⟩|refine ⟨_,_,_,fun u e=>Blk.cell (Blk.ext (h.b1) e) (by rfl),?_⟩|refine ⟨_,fun u e=>Blk.cell (Blk.ext (h.b0) e) (by rfl),?_⟩|refine ⟨_,_,_,fun u e=>Blk.cell (Blk.ext (h.b0) e) (by rfl),?_⟩)
    refine ⟨ad,hA,hn,_,fun v k=>(hcell v (k2.trans' k)).2,?_⟩
    refine (look_many_spec (p:=p) (a:=a) (t:=t) (n:=i.c) hr _).mono ?_
    rintro _ u3 ⟨rfl,k3⟩
    have h:=h.ex k3
    refine ⟨_,rfl,k3,k2.trans' k3,br (fun (h3:manyB p i.c (srtAt p i.a).cols=true)=>?_) (fun (h3:manyB p i.c (srtAt p i.a).cols=false)=>⟨by rw [okJ_20 hop];simp [h1,h2,h3],h.e⟩)⟩
    refine ⟨_,rfl,⟨by omega,by omega⟩,fun v=>Ext u3 v,.refl _ _,_,fun v k=>(h.b3.ext k).cell rfl,?_⟩
    exact ⟨by show Value.bool (zB i.d)=_;rw [okJ_20 hop];simp [h1,h2,h3],h.e⟩
  refine brd (fun hop=>?_) (fun n21=>?_)
  · repeat (first|refine ⟨_,Blk.cell (h.b2) (by rfl),?_⟩|refine ⟨_,_,_,Blk.cell (h.b2) (by rfl),?_⟩|refine ⟨_,Blk.cell (h.b1) (by rfl),?_⟩|refine ⟨_,_,_,Blk.cell (h.b1) (by rfl),?_⟩)
    refine (look_s_spec (p:=p) (a:=a) (t:=t) (n:=i.a)).mono ?_
    rintro _ u1 ⟨rfl,k⟩
    have h:=h.ex k
    refine ⟨_,rfl,br (fun (h1:sB p i.a=true)=>?_) (fun (h1:sB p i.a=false)=>⟨by rw [okJ_21 hop];simp [h1],h.e⟩)⟩
    repeat (first|refine ⟨_,Blk.cell (h.b2) (by rfl),?_⟩|refine ⟨_,_,_,Blk.cell (h.b2) (by rfl),?_⟩|refine ⟨_,Blk.cell (h.b1) (by rfl),?_⟩|refine ⟨_,_,_,Blk.cell (h.b1) (by rfl),?_⟩)
    refine (look_j_spec (p:=p) (a:=a) (t:=t) (n:=i.b)).mono ?_
    rintro _ u2 ⟨rfl,k⟩
    have h:=h.ex k
    refine ⟨_,rfl,br (fun (h2:jB p t i.b=true)=>?_) (fun (h2:jB p t i.b=false)=>⟨by rw [okJ_21 hop];simp [h1,h2],h.e⟩)⟩
    refine ⟨_,rfl,⟨by omega,by omega⟩,_,h.b3.cell rfl,?_⟩
    refine br (fun (h3:zB i.c=true)=>?_) (fun (h3:zB i.c=false)=>⟨by rw [okJ_21 hop];simp [h1,h2,h3],h.e⟩)
    refine ⟨_,rfl,⟨by omega,by omega⟩,_,h.b3.cell rfl,?_⟩
    exact ⟨by show Value.bool (zB i.d)=_;rw [okJ_21 hop];simp [h1,h2,h3],h.e⟩
  refine brd (fun hop=>?_) (fun n22=>?_)
  · repeat (first|refine ⟨_,Blk.cell (h.b2) (by rfl),?_⟩|refine ⟨_,_,_,Blk.cell (h.b2) (by rfl),?_⟩|refine ⟨_,Blk.cell (h.b1) (by rfl),?_⟩|refine ⟨_,_,_,Blk.cell (h.b1) (by rfl),?_⟩)
    refine (look_s_spec (p:=p) (a:=a) (t:=t) (n:=i.a)).mono ?_
    rintro _ u1 ⟨rfl,k⟩
    have h:=h.ex k
    refine ⟨_,rfl,br (fun (h1:sB p i.a=true)=>?_) (fun (h1:sB p i.a=false)=>⟨by rw [okJ_22 hop];simp [h1],h.e⟩)⟩
    repeat (first|refine ⟨_,Blk.cell (h.b2) (by rfl),?_⟩|refine ⟨_,_,_,Blk.cell (h.b2) (by rfl),?_⟩|refine ⟨_,Blk.cell (h.b1) (by rfl),?_⟩|refine ⟨_,_,_,Blk.cell (h.b1) (by rfl),?_⟩)
    refine (look_back_spec (p:=p) (a:=a) (t:=t) (n:=i.b)).mono ?_
    rintro _ u2 ⟨rfl,k⟩
    have h:=h.ex k
    refine ⟨_,rfl,br (fun (h2:backB t i.b=true)=>?_) (fun (h2:backB t i.b=false)=>⟨by rw [okJ_22 hop];simp [h1,h2],h.e⟩)⟩
    refine ⟨_,rfl,⟨by omega,by omega⟩,_,h.b3.cell rfl,?_⟩
    refine br (fun (h3:zB i.c=true)=>?_) (fun (h3:zB i.c=false)=>⟨by rw [okJ_22 hop];simp [h1,h2,h3],h.e⟩)
    refine ⟨_,rfl,⟨by omega,by omega⟩,_,h.b3.cell rfl,?_⟩
    exact ⟨by show Value.bool (zB i.d)=_;rw [okJ_22 hop];simp [h1,h2,h3],h.e⟩
  refine brd (fun hop=>?_) (fun n23=>?_)
  · refine ⟨fun v=>Ext u v,Fr.drew NoB u,?_⟩
    repeat (first|refine ⟨_,fun u e=>Blk.cell (Blk.ext (h.b2) e) (by rfl),?_⟩|refine ⟨_,_,_,fun u e=>Blk.cell (Blk.ext (h.b2) e) (by rfl),?_⟩|refine ⟨_,fun u e=>Blk.cell (Blk.ext (h.b1) e) (by rfl),?_⟩|refine ⟨_,_,_,fun u e=>Blk.cell (Blk.ext (h.b1) e) (by rfl),?_⟩|refine ⟨_,fun u e=>Blk.cell (Blk.ext (h.b0) e) (by rfl),?_⟩|refine ⟨_,_,_,fun u e=>Blk.cell (Blk.ext (h.b0) e) (by rfl),?_⟩)
    refine (look_r_spec (p:=p) (a:=a) (t:=t) (n:=i.a)).mono ?_
    rintro _ u1 ⟨rfl,k⟩
    have h:=h.ex (Ext.drew0 k)
    refine ⟨_,rfl,br (fun (h1:rB p i.a=true)=>?_) (fun (h1:rB p i.a=false)=>⟨by rw [okJ_23 (hs _) hop];simp [h1],h.e⟩)⟩
    refine ⟨fun v=>Ext u1 v,.refl _ _,?_⟩
    repeat (first|refine ⟨_,fun u e=>Blk.cell (Blk.ext (h.b2) e) (by rfl),?_⟩|refine ⟨_,_,_,fun u e=>Blk.cell (Blk.ext (h.b2) e) (by rfl),?_⟩|refine ⟨_,fun u e=>Blk.cell (Blk.ext (h.b1) e) (by rfl),?_⟩|refine ⟨_,_,_,fun u e=>Blk.cell (Blk.ext (h.b1) e) (by rfl),?_⟩|refine ⟨_,fun u e=>Blk.cell (Blk.ext (h.b0) e) (by rfl),?_⟩|refine ⟨_,_,_,fun u e=>Blk.cell (Blk.ext (h.b0) e) (by rfl),?_⟩)
    refine (look_s_spec (p:=p) (a:=a) (t:=t) (n:=i.b)).mono ?_
    rintro _ u2 ⟨rfl,k2⟩
    have h:=h.ex k2
    refine ⟨_,rfl,br (fun (h2:sB p i.b=true)=>?_) (fun (h2:sB p i.b=false)=>⟨by rw [okJ_23 (hs _) hop];simp [h1,h2],h.e⟩)⟩
    obtain ⟨ad,hA,hn,B,d,hcell⟩:=srt_at (hp.ext h.e) h2
    refine ⟨fun v=>Ext u2 v,.refl _ _,?_⟩
    repeat (first|refine ⟨_,fun u e=>Blk.cell (Blk.ext (h.b2) e) (by rfl),?_⟩|refine ⟨_,_,_,fun u e=>Blk.cell (Blk.ext (h.b2) e) (by rfl),?_⟩|refine ⟨_,fun u e=>Blk.cell (Blk.ext (h.b1) e) (by rfl),?_⟩|refine ⟨_,_,_,fun u e=>Blk.cell (Blk.ext (h.b1) e) (by rfl),?_⟩|refine ⟨_,fun u e=>Blk.cell (Blk.ext (h.b0) e) (by rfl),?_⟩|refine ⟨_,_,_,fun u e=>Blk.cell (Blk.ext (h.b0) e) (by rfl),?_⟩)
    refine ⟨ad,hA,hn,_,fun v k=>(hcell v k).2,?_⟩
    refine (in_spec _ _ _ _).mono ?_
    rintro _ u3 ⟨rfl,k3⟩
    have h:=h.ex k3
    refine ⟨_,rfl,k3,br (fun (h3:inB i.c 0 (srtAt p i.b).cols=true)=>?_) (fun (h3:inB i.c 0 (srtAt p i.b).cols=false)=>⟨by rw [okJ_23 (hs _) hop];simp [h1,h2,h3],h.e⟩)⟩
    refine ⟨_,rfl,⟨by omega,by omega⟩,fun v=>Ext u3 v,.refl _ _,_,fun v k=>(h.b3.ext k).cell rfl,?_⟩
    exact ⟨by show Value.bool (zB i.d)=_;rw [okJ_23 (hs _) hop];simp [h1,h2,h3],h.e⟩
  refine brd (fun hop=>?_) (fun n24=>?_)
  · repeat (first|refine ⟨_,Blk.cell (h.b2) (by rfl),?_⟩|refine ⟨_,_,_,Blk.cell (h.b2) (by rfl),?_⟩|refine ⟨_,Blk.cell (h.b1) (by rfl),?_⟩|refine ⟨_,_,_,Blk.cell (h.b1) (by rfl),?_⟩)
    refine (look_t_spec (p:=p) (a:=a) (t:=t) (n:=i.a)).mono ?_
    rintro _ u1 ⟨rfl,k⟩
    have h:=h.ex k
    refine ⟨_,rfl,br (fun (h1:tB p i.a=true)=>?_) (fun (h1:tB p i.a=false)=>⟨by rw [okJ_24 hop];simp [h1],h.e⟩)⟩
    refine ⟨_,rfl,⟨by omega,by omega⟩,_,h.b3.cell rfl,?_⟩
    refine br (fun (h2:zB i.b=true)=>?_) (fun (h2:zB i.b=false)=>⟨by rw [okJ_24 hop];simp [h1,h2],h.e⟩)
    refine ⟨_,rfl,⟨by omega,by omega⟩,_,h.b3.cell rfl,?_⟩
    refine br (fun (h3:zB i.c=true)=>?_) (fun (h3:zB i.c=false)=>⟨by rw [okJ_24 hop];simp [h1,h2,h3],h.e⟩)
    refine ⟨_,rfl,⟨by omega,by omega⟩,_,h.b3.cell rfl,?_⟩
    exact ⟨by show Value.bool (zB i.d)=_;rw [okJ_24 hop];simp [h1,h2,h3],h.e⟩
  refine brd (fun hop=>?_) (fun n25=>?_)
  · repeat (first|refine ⟨_,Blk.cell (h.b2) (by rfl),?_⟩|refine ⟨_,_,_,Blk.cell (h.b2) (by rfl),?_⟩|refine ⟨_,Blk.cell (h.b1) (by rfl),?_⟩|refine ⟨_,_,_,Blk.cell (h.b1) (by rfl),?_⟩)
    refine (look_t_spec (p:=p) (a:=a) (t:=t) (n:=i.a)).mono ?_
    rintro _ u1 ⟨rfl,k⟩
    have h:=h.ex k
    refine ⟨_,rfl,br (fun (h1:tB p i.a=true)=>?_) (fun (h1:tB p i.a=false)=>⟨by rw [okJ_25 hop];simp [h1],h.e⟩)⟩
    repeat (first|refine ⟨_,Blk.cell (h.b2) (by rfl),?_⟩|refine ⟨_,_,_,Blk.cell (h.b2) (by rfl),?_⟩|refine ⟨_,Blk.cell (h.b1) (by rfl),?_⟩|refine ⟨_,_,_,Blk.cell (h.b1) (by rfl),?_⟩)
    refine (look_r_spec (p:=p) (a:=a) (t:=t) (n:=i.b)).mono ?_
    rintro _ u2 ⟨rfl,k⟩
    have h:=h.ex k
    refine ⟨_,rfl,br (fun (h2:rB p i.b=true)=>?_) (fun (h2:rB p i.b=false)=>⟨by rw [okJ_25 hop];simp [h1,h2],h.e⟩)⟩
    refine ⟨_,rfl,⟨by omega,by omega⟩,_,h.b3.cell rfl,?_⟩
    refine br (fun (h3:zB i.c=true)=>?_) (fun (h3:zB i.c=false)=>⟨by rw [okJ_25 hop];simp [h1,h2,h3],h.e⟩)
    refine ⟨_,rfl,⟨by omega,by omega⟩,_,h.b3.cell rfl,?_⟩
    exact ⟨by show Value.bool (zB i.d)=_;rw [okJ_25 hop];simp [h1,h2,h3],h.e⟩
  refine brd (fun hop=>?_) (fun n26=>?_)
  · repeat (first|refine ⟨_,Blk.cell (h.b2) (by rfl),?_⟩|refine ⟨_,_,_,Blk.cell (h.b2) (by rfl),?_⟩|refine ⟨_,Blk.cell (h.b1) (by rfl),?_⟩|refine ⟨_,_,_,Blk.cell (h.b1) (by rfl),?_⟩)
    refine (look_r_spec (p:=p) (a:=a) (t:=t) (n:=i.a)).mono ?_
    rintro _ u1 ⟨rfl,k⟩
    have h:=h.ex k
    refine ⟨_,rfl,br (fun (h1:rB p i.a=true)=>?_) (fun (h1:rB p i.a=false)=>⟨by rw [okJ_26 hop];simp [h1],h.e⟩)⟩
    repeat (first|refine ⟨_,Blk.cell (h.b2) (by rfl),?_⟩|refine ⟨_,_,_,Blk.cell (h.b2) (by rfl),?_⟩|refine ⟨_,Blk.cell (h.b1) (by rfl),?_⟩|refine ⟨_,_,_,Blk.cell (h.b1) (by rfl),?_⟩)
    refine (look_t_spec (p:=p) (a:=a) (t:=t) (n:=i.b)).mono ?_
    rintro _ u2 ⟨rfl,k⟩
    have h:=h.ex k
    refine ⟨_,rfl,br (fun (h2:tB p i.b=true)=>?_) (fun (h2:tB p i.b=false)=>⟨by rw [okJ_26 hop];simp [h1,h2],h.e⟩)⟩
    refine ⟨_,rfl,⟨by omega,by omega⟩,_,h.b3.cell rfl,?_⟩
    refine br (fun (h3:zB i.c=true)=>?_) (fun (h3:zB i.c=false)=>⟨by rw [okJ_26 hop];simp [h1,h2,h3],h.e⟩)
    refine ⟨_,rfl,⟨by omega,by omega⟩,_,h.b3.cell rfl,?_⟩
    exact ⟨by show Value.bool (zB i.d)=_;rw [okJ_26 hop];simp [h1,h2,h3],h.e⟩
  refine brd (fun hop=>?_) (fun n27=>?_)
  · repeat (first|refine ⟨_,Blk.cell (h.b2) (by rfl),?_⟩|refine ⟨_,_,_,Blk.cell (h.b2) (by rfl),?_⟩|refine ⟨_,Blk.cell (h.b1) (by rfl),?_⟩|refine ⟨_,_,_,Blk.cell (h.b1) (by rfl),?_⟩|refine ⟨_,Blk.cell (h.b0) (by rfl),?_⟩|refine ⟨_,_,_,Blk.cell (h.b0) (by rfl),?_⟩)
    refine (look_many_spec (p:=p) (a:=a) (t:=t) (n:=i.a) hr _).mono ?_
    rintro _ u1 ⟨rfl,k⟩
    have h:=h.ex k
    refine ⟨_,rfl,br (fun (h1:manyB p i.a p.names.length=true)=>?_) (fun (h1:manyB p i.a p.names.length=false)=>⟨by rw [okJ_27 hop];simp [h1],h.e⟩)⟩
    refine ⟨_,rfl,⟨by omega,by omega⟩,_,h.b3.cell rfl,?_⟩
    refine br (fun (h2:zB i.b=true)=>?_) (fun (h2:zB i.b=false)=>⟨by rw [okJ_27 hop];simp [h1,h2],h.e⟩)
    refine ⟨_,rfl,⟨by omega,by omega⟩,_,h.b3.cell rfl,?_⟩
    refine br (fun (h3:zB i.c=true)=>?_) (fun (h3:zB i.c=false)=>⟨by rw [okJ_27 hop];simp [h1,h2,h3],h.e⟩)
    refine ⟨_,rfl,⟨by omega,by omega⟩,_,h.b3.cell rfl,?_⟩
    exact ⟨by show Value.bool (zB i.d)=_;rw [okJ_27 hop];simp [h1,h2,h3],h.e⟩
  refine brd (fun hop=>?_) (fun n28=>?_)
  · repeat (first|refine ⟨_,Blk.cell (h.b2) (by rfl),?_⟩|refine ⟨_,_,_,Blk.cell (h.b2) (by rfl),?_⟩|refine ⟨_,Blk.cell (h.b1) (by rfl),?_⟩|refine ⟨_,_,_,Blk.cell (h.b1) (by rfl),?_⟩)
    refine (look_r_spec (p:=p) (a:=a) (t:=t) (n:=i.a)).mono ?_
    rintro _ u1 ⟨rfl,k⟩
    have h:=h.ex k
    refine ⟨_,rfl,br (fun (h1:rB p i.a=true)=>?_) (fun (h1:rB p i.a=false)=>⟨by rw [okJ_28 hop];simp [h1],h.e⟩)⟩
    repeat (first|refine ⟨_,Blk.cell (h.b2) (by rfl),?_⟩|refine ⟨_,_,_,Blk.cell (h.b2) (by rfl),?_⟩|refine ⟨_,Blk.cell (h.b1) (by rfl),?_⟩|refine ⟨_,_,_,Blk.cell (h.b1) (by rfl),?_⟩)
    refine (look_written_spec (p:=p) (a:=a) (t:=t) (n:=i.b) (hp.ext h.e)).mono ?_
    rintro _ u2 ⟨rfl,k⟩
    have h:=h.ex k
    refine ⟨_,rfl,br (fun (h2:wrB p i.b=true)=>?_) (fun (h2:wrB p i.b=false)=>⟨by rw [okJ_28 hop];simp [h1,h2],h.e⟩)⟩
    refine ⟨_,rfl,⟨by omega,by omega⟩,_,h.b3.cell rfl,?_⟩
    refine br (fun (h3:zB i.c=true)=>?_) (fun (h3:zB i.c=false)=>⟨by rw [okJ_28 hop];simp [h1,h2,h3],h.e⟩)
    refine ⟨_,rfl,⟨by omega,by omega⟩,_,h.b3.cell rfl,?_⟩
    exact ⟨by show Value.bool (zB i.d)=_;rw [okJ_28 hop];simp [h1,h2,h3],h.e⟩
  refine brd (fun hop=>?_) (fun n29=>?_)
  · repeat (first|refine ⟨_,Blk.cell (h.b2) (by rfl),?_⟩|refine ⟨_,_,_,Blk.cell (h.b2) (by rfl),?_⟩|refine ⟨_,Blk.cell (h.b1) (by rfl),?_⟩|refine ⟨_,_,_,Blk.cell (h.b1) (by rfl),?_⟩)
    refine (look_written_spec (p:=p) (a:=a) (t:=t) (n:=i.a) (hp.ext h.e)).mono ?_
    rintro _ u1 ⟨rfl,k⟩
    have h:=h.ex k
    refine ⟨_,rfl,br (fun (h1:wrB p i.a=true)=>?_) (fun (h1:wrB p i.a=false)=>⟨by rw [okJ_29 hop];simp [h1],h.e⟩)⟩
    repeat (first|refine ⟨_,Blk.cell (h.b2) (by rfl),?_⟩|refine ⟨_,_,_,Blk.cell (h.b2) (by rfl),?_⟩|refine ⟨_,Blk.cell (h.b1) (by rfl),?_⟩|refine ⟨_,_,_,Blk.cell (h.b1) (by rfl),?_⟩)
    refine (look_r_spec (p:=p) (a:=a) (t:=t) (n:=i.b)).mono ?_
    rintro _ u2 ⟨rfl,k⟩
    have h:=h.ex k
    refine ⟨_,rfl,br (fun (h2:rB p i.b=true)=>?_) (fun (h2:rB p i.b=false)=>⟨by rw [okJ_29 hop];simp [h1,h2],h.e⟩)⟩
    repeat (first|refine ⟨_,Blk.cell (h.b2) (by rfl),?_⟩|refine ⟨_,_,_,Blk.cell (h.b2) (by rfl),?_⟩|refine ⟨_,Blk.cell (h.b1) (by rfl),?_⟩|refine ⟨_,_,_,Blk.cell (h.b1) (by rfl),?_⟩)
    refine (look_r_spec (p:=p) (a:=a) (t:=t) (n:=i.c)).mono ?_
    rintro _ u3 ⟨rfl,k⟩
    have h:=h.ex k
    refine ⟨_,rfl,br (fun (h3:rB p i.c=true)=>?_) (fun (h3:rB p i.c=false)=>⟨by rw [okJ_29 hop];simp [h1,h2,h3],h.e⟩)⟩
    refine ⟨_,rfl,⟨by omega,by omega⟩,_,h.b3.cell rfl,?_⟩
    exact ⟨by show Value.bool (zB i.d)=_;rw [okJ_29 hop];simp [h1,h2,h3],h.e⟩
  refine brd (fun hop=>?_) (fun n30=>?_)
  · repeat (first|refine ⟨_,Blk.cell (h.b2) (by rfl),?_⟩|refine ⟨_,_,_,Blk.cell (h.b2) (by rfl),?_⟩|refine ⟨_,Blk.cell (h.b1) (by rfl),?_⟩|refine ⟨_,_,_,Blk.cell (h.b1) (by rfl),?_⟩)
    refine (look_written_spec (p:=p) (a:=a) (t:=t) (n:=i.a) (hp.ext h.e)).mono ?_
    rintro _ u1 ⟨rfl,k⟩
    have h:=h.ex k
    refine ⟨_,rfl,br (fun (h1:wrB p i.a=true)=>?_) (fun (h1:wrB p i.a=false)=>⟨by rw [okJ_30 hop];simp [h1],h.e⟩)⟩
    repeat (first|refine ⟨_,Blk.cell (h.b2) (by rfl),?_⟩|refine ⟨_,_,_,Blk.cell (h.b2) (by rfl),?_⟩|refine ⟨_,Blk.cell (h.b1) (by rfl),?_⟩|refine ⟨_,_,_,Blk.cell (h.b1) (by rfl),?_⟩)
    refine (look_r_spec (p:=p) (a:=a) (t:=t) (n:=i.b)).mono ?_
    rintro _ u2 ⟨rfl,k⟩
    have h:=h.ex k
    refine ⟨_,rfl,br (fun (h2:rB p i.b=true)=>?_) (fun (h2:rB p i.b=false)=>⟨by rw [okJ_30 hop];simp [h1,h2],h.e⟩)⟩
    refine ⟨_,rfl,⟨by omega,by omega⟩,_,h.b3.cell rfl,?_⟩
    refine br (fun (h3:zB i.c=true)=>?_) (fun (h3:zB i.c=false)=>⟨by rw [okJ_30 hop];simp [h1,h2,h3],h.e⟩)
    refine ⟨_,rfl,⟨by omega,by omega⟩,_,h.b3.cell rfl,?_⟩
    exact ⟨by show Value.bool (zB i.d)=_;rw [okJ_30 hop];simp [h1,h2,h3],h.e⟩
  refine brd (fun hop=>?_) (fun n31=>?_)
  · repeat (first|refine ⟨_,Blk.cell (h.b2) (by rfl),?_⟩|refine ⟨_,_,_,Blk.cell (h.b2) (by rfl),?_⟩|refine ⟨_,Blk.cell (h.b1) (by rfl),?_⟩|refine ⟨_,_,_,Blk.cell (h.b1) (by rfl),?_⟩)
    refine (look_k_spec (p:=p) (a:=a) (t:=t) (n:=i.a)).mono ?_
    rintro _ u1 ⟨rfl,k⟩
    have h:=h.ex k
    refine ⟨_,rfl,br (fun (h1:kB p i.a=true)=>?_) (fun (h1:kB p i.a=false)=>⟨by rw [okJ_31 hop];simp [h1],h.e⟩)⟩
    obtain ⟨ad,hA,hn,hcell⟩:=const_at (hp.ext h.e) h1
    refine ⟨_,_,_,h.b0.cell rfl,_,h.b1.cell rfl,ad,hA,hn,_,hcell _ (.refl _ _),?_⟩
    refine brd (fun (h2:(constAt p i.a).k=2)=>?_) (fun h2=>⟨by rw [okJ_31 hop];simp [h1,h2],h.e⟩)
    refine ⟨_,rfl,⟨by omega,by omega⟩,_,h.b3.cell rfl,?_⟩
    refine br (fun (h3:zB i.b=true)=>?_) (fun (h3:zB i.b=false)=>⟨by rw [okJ_31 hop];simp [h1,h2,h3],h.e⟩)
    refine ⟨_,rfl,⟨by omega,by omega⟩,_,h.b3.cell rfl,?_⟩
    refine br (fun (h4:zB i.c=true)=>?_) (fun (h4:zB i.c=false)=>⟨by rw [okJ_31 hop];simp [h1,h2,h3,h4],h.e⟩)
    refine ⟨_,rfl,⟨by omega,by omega⟩,_,h.b3.cell rfl,?_⟩
    refine br (fun (h5:zB i.d=true)=>?_) (fun (h5:zB i.d=false)=>⟨by rw [okJ_31 hop];simp [h1,h2,h3,h4,h5],h.e⟩)
    refine brd (fun (h6:t=0)=>?_) (fun h6=>⟨by rw [okJ_31 hop];simp [h1,h2,h3,h4,h5,h6],h.e⟩)
    refine ⟨_,_,_,h.b0.cell rfl,?_⟩
    exact ⟨by show Value.bool (decide ((p.code.length:Int)=2))=_;rw [okJ_31 hop];simp [h1,h2,h3,h4,h5,h6];try omega,h.e⟩
  refine ⟨fun x v=>(x=true<->(i.op=32\/i.op=33\/i.op=34))/\v=u,?_,?_⟩
  rotate_left
  · exact brd (fun m32=>⟨by simp [m32],rfl⟩) (fun m32=>brd (fun m33=>⟨by simp [m33],rfl⟩) (fun m33=>⟨by simp [m32,m33],rfl⟩))
  rintro x32 u ⟨hx,rfl⟩
  refine br (fun hx1=>?_) (fun hx0=>?_)
  · refine ⟨_,rfl,⟨by omega,by omega⟩,_,h.b3.cell rfl,?_⟩
    refine br (fun (h1:zB i.a=true)=>?_) (fun (h1:zB i.a=false)=>⟨by rw [okJ_m32 (hx.1 hx1)];simp [h1],h.e⟩)
    refine ⟨_,rfl,⟨by omega,by omega⟩,_,h.b3.cell rfl,?_⟩
    refine br (fun (h2:zB i.b=true)=>?_) (fun (h2:zB i.b=false)=>⟨by rw [okJ_m32 (hx.1 hx1)];simp [h1,h2],h.e⟩)
    refine ⟨_,rfl,⟨by omega,by omega⟩,_,h.b3.cell rfl,?_⟩
    refine br (fun (h3:zB i.c=true)=>?_) (fun (h3:zB i.c=false)=>⟨by rw [okJ_m32 (hx.1 hx1)];simp [h1,h2,h3],h.e⟩)
    refine ⟨_,rfl,⟨by omega,by omega⟩,_,h.b3.cell rfl,?_⟩
    refine br (fun (h4:zB i.d=true)=>?_) (fun (h4:zB i.d=false)=>⟨by rw [okJ_m32 (hx.1 hx1)];simp [h1,h2,h3,h4],h.e⟩)
    refine brd (fun (h5:t=0)=>?_) (fun h5=>⟨by rw [okJ_m32 (hx.1 hx1)];simp [h1,h2,h3,h4,h5],h.e⟩)
    refine ⟨_,_,_,h.b0.cell rfl,?_⟩
    exact ⟨by show Value.bool (decide ((p.code.length:Int)=2))=_;rw [okJ_m32 (hx.1 hx1)];simp [h1,h2,h3,h4,h5];try omega,h.e⟩
  have n32 : ¬ (i.op=32\/i.op=33\/i.op=34):=fun q=>by rw [hx.2 q] at hx0;cases hx0
  clear hx hx0
  refine brd (fun hop=>?_) (fun n35=>?_)
  · refine ⟨_,rfl,⟨by omega,by omega⟩,_,h.b3.cell rfl,?_⟩
    refine br (fun (h1:zB i.a=true)=>?_) (fun (h1:zB i.a=false)=>⟨by rw [okJ_35 hop];simp [h1],h.e⟩)
    refine ⟨_,rfl,⟨by omega,by omega⟩,_,h.b3.cell rfl,?_⟩
    refine br (fun (h2:zB i.b=true)=>?_) (fun (h2:zB i.b=false)=>⟨by rw [okJ_35 hop];simp [h1,h2],h.e⟩)
    refine ⟨_,rfl,⟨by omega,by omega⟩,_,h.b3.cell rfl,?_⟩
    refine br (fun (h3:zB i.c=true)=>?_) (fun (h3:zB i.c=false)=>⟨by rw [okJ_35 hop];simp [h1,h2,h3],h.e⟩)
    refine ⟨_,rfl,⟨by omega,by omega⟩,_,h.b3.cell rfl,?_⟩
    exact ⟨by show Value.bool (zB i.d)=_;rw [okJ_35 hop];simp [h1,h2,h3],h.e⟩
  exact ⟨by rw [okJ_other (fun k h1 h2 e=>by omega)],h.e⟩
end
end Go.Proofs.YtaifphjenebgoaaGreatDoor
set_option linter.unusedVariables false
set_option maxRecDepth 100000
namespace Go.Proofs.YtaifphjenebgoaaGreatDoor
open Go Go.Sx Value IntKind World Addr Builtin
noncomputable def cardindexref01_power.W:Int->World->(Value->World->Prop)->Prop:=fun k w K=>∃ (I:Int->Int->World->Prop) (μ:Int->Int->World->Nat),I 1 0 w/\∀ x x_1 w,I x x_1 w ->
 bif decide (x_1<k) then I (wrap u64 (x*128)) (wrap i64 (x_1+1)) w/\μ (wrap u64 (x*128)) (wrap i64 (x_1+1)) w<μ x x_1 w else K (int u64 x) w
theorem cardindexref01_power.calls (ok:Okay Tryz.prog) {k w K} (h:cardindexref01_power.W k w K):CallsV Tryz.prog 135 #[.int .i64 k] w K :=
  fnW_calls ok Tryz.func135 (an:=(.named (.seq .auto (.seq .auto (.seq (.seq .auto (.block (.loop [(3,.one (.int .u64)),(4,.one (.int .i64))] .auto))) .auto))))) (args:=[.int .i64 k]) (Eq.mp (by kernel_rfl) h)
noncomputable def cardindexref01_Varint.W:Int->World->(Value->World->Prop)->Prop:=fun n w K=>∃ (I:Option Addr->Nat->Nat->Int->World->Prop) (μ:Option Addr->Nat->Nat->Int->World ->
 Nat),I none 0 0 0 w/\∀ x x_1 x_2 x_3 w,I x x_1 x_2 x_3 w->bif decide (x_3<10) then CallsV Tryz.prog 135 #[int i64 x_3] w fun v w'=>∃ x_4,v=int u64 x_4/\x_4≠0/\(128: Int)
 ≠ 0/\bif decide (x_3<9) then CallsV Tryz.prog 135 #[int i64 x_3] w' fun v w'=>∃ x_5,v=int u64 x_5/\x_5≠0/\bif decide (128<=wrap u64 (Int.tdiv n x_5)) then ∀ g w'_1,
 Fresh w' g w'_1 [int u8 (wrap u8 (wrap u64 (Int.tmod (wrap u64 (Int.tdiv n x_4)) (128: Int)+128)))] 5->∃ x_6 x_7 x_8 w',RunsTo Tryz.prog (append_ (Array.mk [32,32]) 32 #[slice x x_1 x_2,slice
 (some (mk g 0 none)) 1 1]) w'_1 (slice x_6 x_7 x_8) w'/\I x_6 x_7 x_8 (wrap i64 (x_3+1)) w'/\μ x_6 x_7 x_8 (wrap i64 (x_3+1)) w'<μ x x_1 x_2 x_3 w else ∀ g w'_1,Fresh w' g w'_1
 [int u8 (wrap u8 (Int.tmod (wrap u64 (Int.tdiv n x_4)) 128))] 5->∃ x_6 x_7 x_8 w',RunsTo Tryz.prog (append_ (Array.mk [32,32]) 32 #[slice x x_1 x_2,slice (some (mk g 0 none)) 1 1])
 w'_1 (slice x_6 x_7 x_8) w'/\K (slice x_6 x_7 x_8) w' else ∀ g w'_1,Fresh w' g w'_1 [int u8 (wrap u8 (Int.tmod (wrap u64 (Int.tdiv n x_4)) 128))] 5->∃ x_5 x_6 x_7 w',RunsTo Tryz.prog (append_
 (Array.mk [32,32]) 32 #[slice x x_1 x_2,slice (some (mk g 0 none)) 1 1]) w'_1 (slice x_5 x_6 x_7) w'/\K (slice x_5 x_6 x_7) w' else K (slice x x_1 x_2) w
theorem cardindexref01_Varint.calls (ok:Okay Tryz.prog) {n w K} (h:cardindexref01_Varint.W n w K):CallsV Tryz.prog 104 #[.int .u64 n] w K :=
  fnW_calls ok Tryz.func104 (an:=(.named (.seq .auto (.seq .auto (.seq (.seq .auto (.block (.loop [(3,.one .slc),(4,.one (.int .i64))] .auto))) .auto))))) (args:=[.int .u64 n]) (Eq.mp (by kernel_rfl) h)
noncomputable def cardindexref01_behind.W:Option Addr->Nat->Nat->Option Addr->Nat->Nat->World->(Value->World->Prop)->Prop:=fun a_A a_n a_c b_A b_n b_c w K=>∃ (I:Option Addr->Nat ->
 Nat->Int->World->Prop) (μ:Option Addr->Nat->Nat->Int->World->Nat),I none 0 0 0 w/\∀ x x_1 x_2 x_3 w,I x x_1 x_2 x_3 w->bif decide (x_3<(a_n:Int)) then ∃ ad,a_A =
 some ad/\(0<=x_3/\x_3<(a_n:Int))/\∃ x_4,cell? w (add ad (Int.toNat x_3*1))=some (int u8 x_4)/\∀ g w',Fresh w g w' [int u8 x_4] 5->∃ x_5 x_6 x_7 w'_1,RunsTo Tryz.prog
 (append_ (Array.mk [32,32]) 32 #[slice x x_1 x_2,slice (some (mk g 0 none)) 1 1]) w' (slice x_5 x_6 x_7) w'_1/\I x_5 x_6 x_7 (wrap i64 (x_3+1)) w'_1/\μ x_5 x_6 x_7 (wrap i64 (x_3 +
 1)) w'_1<μ x x_1 x_2 x_3 w else ∃ (I:Option Addr->Nat->Nat->Int->World->Prop) (μ:Option Addr->Nat->Nat->Int->World->Nat),I x x_1 x_2 0 w/\∀ x x_4 x_5 x_6 w,I x x_4 x_5 x_6 w->bif
 decide (x_6<(b_n:Int)) then ∃ ad,b_A=some ad/\(0<=x_6/\x_6<(b_n:Int))/\∃ x_7,cell? w (add ad (Int.toNat x_6*1))=some (int u8 x_7)/\∀ g w',Fresh w g w' [int
 u8 x_7] 5->∃ x_8 x_9 x_10 w'_1,RunsTo Tryz.prog (append_ (Array.mk [32,32]) 32 #[slice x x_4 x_5,slice (some (mk g 0 none)) 1 1]) w' (slice x_8 x_9 x_10) w'_1/\I x_8 x_9 x_10 (wrap
 i64 (x_6+1)) w'_1/\μ x_8 x_9 x_10 (wrap i64 (x_6+1)) w'_1<μ x x_4 x_5 x_6 w else K (slice x x_4 x_5) w
theorem cardindexref01_behind.calls (ok:Okay Tryz.prog) {a_A a_n a_c b_A b_n b_c w K} (h:cardindexref01_behind.W a_A a_n a_c b_A b_n b_c w K):CallsV Tryz.prog 102 #[.slice a_A a_n a_c,.slice b_A b_n b_c] w K :=
  fnW_calls ok Tryz.func102 (an:=(.named (.seq .auto (.seq .auto (.seq (.seq .auto (.block (.loop [(5,.one .slc),(6,.one (.int .i64))] .auto))) (.seq (.seq .auto (.block (.loop [(5,.one .slc),(7,.one (.int .i64))] .auto))) .auto)))))) (args:=[.slice a_A a_n a_c,.slice b_A b_n b_c]) (Eq.mp (by kernel_rfl) h)
noncomputable def cardindexref01_Uint.W:Option Addr->Nat->Nat->Int->World->(Value->World->Prop)->Prop:=fun out_A out_n out_c n w K=>CallsV Tryz.prog 104 #[int u64 n] w fun v w'=>∃ x x_1
 x_2,v=slice x x_1 x_2/\CallsV Tryz.prog 102 #[slice out_A out_n out_c,slice x x_1 x_2] w' fun v w'=>∃ x x_3 x_4,v=slice x x_3 x_4/\K (slice x x_3 x_4) w'
theorem cardindexref01_Uint.calls (ok:Okay Tryz.prog) {out_A out_n out_c n w K} (h:cardindexref01_Uint.W out_A out_n out_c n w K):CallsV Tryz.prog 101 #[.slice out_A out_n out_c,.int .u64 n] w K :=
  fnW_calls ok Tryz.func101 (an:=(.named .auto)) (args:=[.slice out_A out_n out_c,.int .u64 n]) (Eq.mp (by kernel_rfl) h)
noncomputable def cardindexref01_GetUint.W:Option Addr->Nat->Nat->Int->World->(Value->World->Prop)->Prop:=fun b_A b_n b_c atx w K=>bif decide (atx<0) then K (tuple #[int u64
 0,int i64 0,int i64 2]) w else bif decide ((b_n:Int)<atx) then K (tuple #[int u64 0,int i64 0,int i64 2]) w else ∃ (J:Option Addr->Nat->Nat->World->Prop),(∀ x x_1 x_2 w,J x
 x_1 x_2 w->∃ (J:World->Prop),(∀ w,J w->∃ (I:Int->Int->World->Prop) (μ:Int->Int->World->Nat),I 0 0 w/\∀ x_3 x_4 w,I x_3 x_4 w->bif decide (x_4<(x_1:Int)) then ∃ ad,x
 = some ad/\(0<=x_4/\x_4<(x_1:Int))/\∃ (S:World->Prop),S (drew w)/\∃ x,(∀ u,S u->cell? u (add ad (Int.toNat x_4*1))=some (int u8 x))/\(128: Int)≠0/\CallsV Tryz.prog
 135 #[int i64 x_4] (drew w) fun v w'=>∃ x_5,v=int u64 x_5/\S w'/\I (wrap u64 (x_3+wrap u64 (wrap u64 (Int.tmod x 128)*x_5))) (wrap i64 (x_4+1)) w'/\μ (wrap u64 (x_3+wrap u64 (wrap u64
 (Int.tmod x 128)*x_5))) (wrap i64 (x_4+1)) w'<μ x_3 x_4 w else ∃ (S:World->Prop),S (drew w)/\∃ (r:ByteArray),(∀ u,S u->RunsTo Tryz.prog (convert 32 9 (slice x x_1 x_2)) u (string r) u)
 /\ CallsV Tryz.prog 104 #[int u64 x_3] (drew w) fun v w'=>∃ x x_5 x_6,v=slice x x_5 x_6/\S w'/\∃ (S:World->Prop),S w'/\∃ (r_1:ByteArray),(∀ u,S u->RunsTo Tryz.prog (convert 32 9 (slice
 x x_5 x_6)) u (string r_1) u)/\bif !ByteArray.toList r_1 == ByteArray.toList r then K (tuple #[int u64 0,int i64 0,int i64 10]) w' else K (tuple #[int u64 x_3,int i64 (wrap i64 (atx+(x_1 :
 Int))),int i64 0]) w')/\bif decide ((x_1:Int)<10) then bif decide ((x_1:Int)=0) then K (tuple #[int u64 0,int i64 0,int i64 11]) w else ∃ ad,x=some ad/\(0 <=
 wrap i64 ((x_1:Int)-1)/\wrap i64 ((x_1:Int)-1)<(x_1:Int))/\∃ x,cell? w (add ad (Int.toNat (wrap i64 ((x_1:Int)-1))*1))=some (int u8 x)/\bif decide (128<=x)
 then K (tuple #[int u64 0,int i64 0,int i64 11]) w else J w else J w)/\∃ (I:Option Addr->Nat->Nat->Int->World->Prop) (μ:Option Addr->Nat->Nat->Int->World->Nat),I none 0 0 atx w
 /\ ∀ x x_1 x_2 x_3 w,I x x_1 x_2 x_3 w->bif decide (x_3<(b_n:Int)) then bif decide ((x_1:Int)<10) then ∃ ad,b_A=some ad/\(0<=x_3/\x_3<(b_n:Int))/\∃ x_4,
 cell? w (add ad (Int.toNat x_3*1))=some (int u8 x_4)/\∀ g w',Fresh w g w' [int u8 x_4] 5->∃ x_5 x_6 x_7 w'_1,RunsTo Tryz.prog (append_ (Array.mk [32,32]) 32 #[slice x x_1 x_2,slice
 (some (mk g 0 none)) 1 1]) w' (slice x_5 x_6 x_7) w'_1/\∃ ad,b_A=some ad/\(0<=x_3/\x_3<(b_n:Int))/\∃ x_8,cell? w'_1 (add ad (Int.toNat x_3*1))=some (int u8
 x_8)/\bif decide (x_8<128) then J x_5 x_6 x_7 w'_1 else I x_5 x_6 x_7 (wrap i64 (x_3+1)) w'_1/\μ x_5 x_6 x_7 (wrap i64 (x_3+1)) w'_1<μ x x_1 x_2 x_3 w else J x x_1 x_2 w else J x
 x_1 x_2 w
theorem cardindexref01_GetUint.calls (ok:Okay Tryz.prog) {b_A b_n b_c atx w K} (h:cardindexref01_GetUint.W b_A b_n b_c atx w K):CallsV Tryz.prog 107 #[.slice b_A b_n b_c,.int .i64 atx] w K :=
  fnW_calls ok Tryz.func107 (an:=(.named (.seq .auto (.seq .auto (.seq .auto (.join [(7,.one .slc)] (.seq .auto (.block (.loop [(7,.one .slc),(8,.one (.int .i64))] .auto))) (.seq .auto (.join [] .auto (.seq .auto (.seq (.seq .auto (.block (.loop [(10,.one (.int .u64)),(11,.one (.int .i64))] .auto))) .auto)))))))))) (args:=[.slice b_A b_n b_c,.int .i64 atx]) (Eq.mp (by kernel_rfl) h)
noncomputable def cardindexref01_Blob.W:Option Addr->Nat->Nat->Option Addr->Nat->Nat->World->(Value->World->Prop)->Prop:=fun out_A out_n out_c b_A b_n b_c w K=>CallsV Tryz.prog 101
 #[slice out_A out_n out_c,int u64 (wrap u64 (b_n:Int))] w fun v w'=>∃ x x_1 x_2,v=slice x x_1 x_2/\CallsV Tryz.prog 102 #[slice x x_1 x_2,slice b_A b_n b_c] w' fun v w'=>∃ x x_3 x_4,v =
 slice x x_3 x_4/\K (slice x x_3 x_4) w'
theorem cardindexref01_Blob.calls (ok:Okay Tryz.prog) {out_A out_n out_c b_A b_n b_c w K} (h:cardindexref01_Blob.W out_A out_n out_c b_A b_n b_c w K):CallsV Tryz.prog 50 #[.slice out_A out_n out_c,.slice b_A b_n b_c] w K :=
  fnW_calls ok Tryz.func50 (an:=(.named .auto)) (args:=[.slice out_A out_n out_c,.slice b_A b_n b_c]) (Eq.mp (by kernel_rfl) h)
noncomputable def cardindexref01_GetBlob.W:Option Addr->Nat->Nat->Int->Int->World->(Value->World->Prop)->Prop:=fun b_A b_n b_c atx most w K=>CallsV Tryz.prog 107 #[slice b_A b_n b_c,int
 i64 atx] w fun v w'=>∃ x x_1 x_2,v=tuple #[int u64 x,int i64 x_1,int i64 x_2]/\bif !decide (x_2=0) then K (tuple #[slice none 0 0,int i64 0,int i64 x_2]) w' else bif
 decide (most<0) then K (tuple #[slice none 0 0,int i64 0,int i64 3]) w' else bif decide (wrap u64 most<x) then K (tuple #[slice none 0 0,int i64 0,int i64 3])
 w' else bif decide (wrap u64 (b_n:Int)<x) then K (tuple #[slice none 0 0,int i64 0,int i64 11]) w' else bif decide (wrap i64 ((b_n:Int)-wrap i64 x)<x_1) then K
 (tuple #[slice none 0 0,int i64 0,int i64 11]) w' else (0<=wrap i64 (x_1+wrap i64 x)/\wrap i64 (x_1+wrap i64 x)<=(b_c:Int))/\(0<=x_1/\x_1<=(↑(Int.toNat (wrap i64 (x_1+wrap i64
 x))):Int))/\CallsV Tryz.prog 102 #[slice none 0 0,slice (cutAt b_A b_c (Int.toNat x_1) 1) (Int.toNat (wrap i64 (x_1+wrap i64 x))-Int.toNat x_1) (b_c-Int.toNat x_1)] w' fun v w'=>∃
 x_3 x_4 x_5,v=slice x_3 x_4 x_5/\K (tuple #[slice x_3 x_4 x_5,int i64 (wrap i64 (x_1+wrap i64 x)),int i64 0]) w'
theorem cardindexref01_GetBlob.calls (ok:Okay Tryz.prog) {b_A b_n b_c atx most w K} (h:cardindexref01_GetBlob.W b_A b_n b_c atx most w K):CallsV Tryz.prog 108 #[.slice b_A b_n b_c,.int .i64 atx,.int .i64 most] w K :=
  fnW_calls ok Tryz.func108 (an:=(.named .auto)) (args:=[.slice b_A b_n b_c,.int .i64 atx,.int .i64 most]) (Eq.mp (by kernel_rfl) h)
noncomputable def cardindexref02_Right.W:Int->Int->ByteArray->World->(Value->World->Prop)->Prop:=fun v0 v1 v2 w K=>∀ g w',Fresh w g w' [int u8 v0,int i64 v1,string v2] 54->∃ x,cell?
 w' (add (mk g 0 none) 0)=some (int u8 x)/\bif decide (x=0) then ∃ x,cell? w' (add (mk g 0 none) 1)=some (int i64 x)/\bif decide (x=0) then ∃
 (x:ByteArray),cell? w' (add (mk g 0 none) 2)=some (string x)/\K (bool (decide ((↑(ByteArray.size x):Int)=0))) w' else K (bool false) w' else ∃ x,cell? w' (add
 (mk g 0 none) 0)=some (int u8 x)/\bif decide (x=1) then ∃ (x:ByteArray),cell? w' (add (mk g 0 none) 2)=some (string x)/\K (bool (decide
 ((↑(ByteArray.size x):Int)=0))) w' else ∃ x,cell? w' (add (mk g 0 none) 0)=some (int u8 x)/\bif decide (x=2) then ∃ x,cell? w' (add (mk g 0 none) 1) =
 some (int i64 x)/\bif decide (x=0) then ∃ (x:ByteArray),cell? w' (add (mk g 0 none) 2)=some (string x)/\K (bool (decide ((↑(ByteArray.size x):Int) <=
 65536))) w' else K (bool false) w' else ∃ x,cell? w' (add (mk g 0 none) 0)=some (int u8 x)/\bif decide (x=3) then ∃ x,cell? w' (add (mk g 0 none) 1) =
 some (int i64 x)/\bif decide (x=0) then ∃ (x:ByteArray),cell? w' (add (mk g 0 none) 2)=some (string x)/\K (bool (decide ((↑(ByteArray.size x):Int) <=
 65536))) w' else K (bool false) w' else K (bool false) w'
theorem cardindexref02_Right.calls (ok:Okay Tryz.prog) {v0 v1 v2 w K} (h:cardindexref02_Right.W v0 v1 v2 w K):CallsV Tryz.prog 58 #[.agg #[.int .u8 v0,.int .i64 v1,.string v2]] w K :=
  fnW_calls ok Tryz.func58 (an:=(.named .auto)) (args:=[.agg #[.int .u8 v0,.int .i64 v1,.string v2]]) (Eq.mp (by kernel_rfl) h)
noncomputable def cardindexref03_right.W:Option Addr->Nat->Nat->World->(Value->World->Prop)->Prop:=fun row_A row_n row_c w K=>bif decide (200<(row_n:Int)) then K (int i64 3)
 w else ∃ (I:Int->World->Prop) (μ:Int->World->Nat),I 0 w/\∀ x w,I x w->bif decide (x<(row_n:Int)) then ∃ ad,row_A=some ad/\(0<=x/\x<(row_n:Int))/\∃ x_1,cell?
 w (add (add ad (Int.toNat x*3)) 0)=some (int u8 x_1)/\∃ x_2,cell? w (add (add ad (Int.toNat x*3)) 1)=some (int i64 x_2)/\∃ (x_3:ByteArray),cell? w (add (add ad (Int.toNat x
 * 3)) 2)=some (string x_3)/\CallsV Tryz.prog 58 #[agg #[int u8 x_1,int i64 x_2,string x_3]] w fun v w'=>∃ x_4,v=bool x_4/\bif !x_4 then K (int i64 2) w' else I (wrap i64 (x+1)) w' /\
 μ (wrap i64 (x+1)) w'<μ x w else K (int i64 0) w
theorem cardindexref03_right.calls (ok:Okay Tryz.prog) {row_A row_n row_c w K} (h:cardindexref03_right.W row_A row_n row_c w K):CallsV Tryz.prog 103 #[.slice row_A row_n row_c] w K :=
  fnW_calls ok Tryz.func103 (an:=(.named (.seq .auto (.seq .auto (.seq (.seq .auto (.block (.loop [(3,.one (.int .i64))] .auto))) .auto))))) (args:=[.slice row_A row_n row_c]) (Eq.mp (by kernel_rfl) h)
noncomputable def cardindexref03_number.W:Int->Int->World->(Value->World->Prop)->Prop:=fun n k w K=>∃ x x_1 x_2 w',RunsTo Tryz.prog (Instr.makeSlice 32 (int i64 k) (int i64 k)) w (slice x
 x_1 x_2) w'/\∃ (I:Int->World->Prop) (μ:Int->World->Nat),I 0 w'/\∀ x_3 w,I x_3 w->bif decide (x_3<k) then 0<=wrap u64 (wrap i64 (8*x_3))/\∃ ad,x=some ad/\(0 <=
 wrap i64 (wrap i64 (k-1)-x_3)/\wrap i64 (wrap i64 (k-1)-x_3)<(x_1:Int))/\stOK (add ad (Int.toNat (wrap i64 (wrap i64 (k-1)-x_3))*1)) 0 [int u8 (wrap u8 (Int.fdiv (wrap u64 n) (2 ^
 Min.min (Int.toNat (wrap u64 (wrap i64 (8*x_3)))) 64)))] w/\∀ w',w'=setAll (add ad (Int.toNat (wrap i64 (wrap i64 (k-1)-x_3))*1)) 0 [int u8 (wrap u8 (Int.fdiv (wrap u64 n) (2 ^ Min.min
 (Int.toNat (wrap u64 (wrap i64 (8*x_3)))) 64)))] w->I (wrap i64 (x_3+1)) w'/\μ (wrap i64 (x_3+1)) w'<μ x_3 w else K (slice x x_1 x_2) w
theorem cardindexref03_number.calls (ok:Okay Tryz.prog) {n k w K} (h:cardindexref03_number.W n k w K):CallsV Tryz.prog 106 #[.int .i64 n,.int .i64 k] w K :=
  fnW_calls ok Tryz.func106 (an:=(.named (.seq .auto (.seq .auto (.seq (.seq .auto (.block (.loop [(6,.one (.int .i64))] .auto))) .auto))))) (args:=[.int .i64 n,.int .i64 k]) (Eq.mp (by kernel_rfl) h)
noncomputable def cardindexref03_wide.W:Int->World->(Value->World->Prop)->Prop:=fun n w K=>∃ (I:Int->World->Prop) (μ:Int->World->Nat),I 1 w/\∀ x w,I x w->bif decide (x
 < 8) then 0<=wrap u64 (wrap i64 (wrap i64 (8*x)-1))/\bif decide (wrap i64 (0-wrap i64 ((1: Int)*2 ^ Min.min (Int.toNat (wrap u64 (wrap i64 (wrap i64 (8*x)-1)))) 64))<=n) then
 bif decide (n<wrap i64 ((1: Int)*2 ^ Min.min (Int.toNat (wrap u64 (wrap i64 (wrap i64 (8*x)-1)))) 64)) then K (int i64 x) w else I (wrap i64 (x+1)) w/\μ (wrap i64 (x+1)) w<μ x
 w else I (wrap i64 (x+1)) w/\μ (wrap i64 (x+1)) w<μ x w else K (int i64 8) w
theorem cardindexref03_wide.calls (ok:Okay Tryz.prog) {n w K} (h:cardindexref03_wide.W n w K):CallsV Tryz.prog 105 #[.int .i64 n] w K :=
  fnW_calls ok Tryz.func105 (an:=(.named (.seq .auto (.seq (.seq .auto (.block (.loop [(3,.one (.int .i64))] .auto))) .auto)))) (args:=[.int .i64 n]) (Eq.mp (by kernel_rfl) h)
noncomputable def cardindexref03_Put.W:Option Addr->Nat->Nat->World->(Value->World->Prop)->Prop:=fun row_A row_n row_c w K=>CallsV Tryz.prog 103 #[slice row_A row_n row_c] w fun v w'=>∃
 x,v=int i64 x/\bif !decide (x=0) then K (tuple #[slice none 0 0,int i64 x]) w' else CallsV Tryz.prog 104 #[int u64 (wrap u64 (row_n:Int))] w' fun v w'=>∃ x x_1 x_2,v =
 slice x x_1 x_2/\∃ (I:Option Addr->Nat->Nat->Option Addr->Nat->Nat->Int->World->Prop) (μ:Option Addr->Nat->Nat->Option Addr->Nat->Nat->Int->World->Nat),I x x_1 x_2 none 0 0
 0 w'/\∀ x x_3 x_4 x_5 x_6 x_7 x_8 w,I x x_3 x_4 x_5 x_6 x_7 x_8 w->bif decide (x_8<(row_n:Int)) then ∃ ad,row_A=some ad/\(0<=x_8/\x_8<(row_n:Int))/\∃ x_9,cell? w
 (add (add ad (Int.toNat x_8*3)) 0)=some (int u8 x_9)/\∃ x_10,cell? w (add (add ad (Int.toNat x_8*3)) 1)=some (int i64 x_10)/\∃ (x_11:ByteArray),cell? w (add (add ad
 (Int.toNat x_8*3)) 2)=some (string x_11)/\∀ g w',Fresh w g w' [int u8 0,int i64 0,string (ByteArray.mk #[])] 54->stOK (mk g 0 none) 0 [int u8 x_9,int i64 x_10,string x_11] w' /\
 ∀ w'_1,w'_1=setAll (mk g 0 none) 0 [int u8 x_9,int i64 x_10,string x_11] w'->∃ (J:Option Addr->Nat->Nat->Int->World->Prop),(∀ x_12 x_13 x_14 x_15 w_1,J x_12 x_13 x_14 x_15 w_1 ->
 CallsV Tryz.prog 101 #[slice x x_3 x_4,int u64 x_15] w_1 fun v w'=>∃ x_16 x_17 x_18,v=slice x_16 x_17 x_18/\I x_16 x_17 x_18 x_12 x_13 x_14 (wrap i64 (x_8+1)) w'/\μ x_16 x_17 x_18 x_12 x_13
 x_14 (wrap i64 (x_8+1)) w'<μ x x_3 x_4 x_5 x_6 x_7 x_8 w)/\∃ x,cell? w'_1 (add (mk g 0 none) 0)=some (int u8 x)/\bif decide (x=1) then ∃ x,cell? w'_1 (add (mk g 0
 none) 1)=some (int i64 x)/\CallsV Tryz.prog 105 #[int i64 x] w'_1 fun v w'=>∃ x,v=int i64 x/\∃ (S:World->Prop),S (drew w')/\∃ x_12,(∀ u,S u->cell? u (add (mk g 0
 none) 1)=some (int i64 x_12))/\∃ x_13,(∀ u,S u->cell? u (add (mk g 0 none) 1)=some (int i64 x_13))/\CallsV Tryz.prog 105 #[int i64 x_13] (drew w') fun v w'=>∃
 x_14,v=int i64 x_14/\S w'/\CallsV Tryz.prog 106 #[int i64 x_12,int i64 x_14] w' fun v w'=>∃ x_15 x_16 x_17,v=slice x_15 x_16 x_17/\∃ x_18 x_19 x_20 w'_2,RunsTo Tryz.prog (append_ (Array.mk
 [32,32]) 32 #[slice x_5 x_6 x_7,slice x_15 x_16 x_17]) w' (slice x_18 x_19 x_20) w'_2/\J x_18 x_19 x_20 (wrap u64 x) w'_2 else bif decide (x=3) then ∃ (x:ByteArray),cell? w'_1 (add
 (mk g 0 none) 2)=some (string x)/\∃ (x_12:ByteArray),cell? w'_1 (add (mk g 0 none) 2)=some (string x_12)/\∃ x_13 x_14 x_15 w',RunsTo Tryz.prog (append_ (Array.mk
 [32,9]) 32 #[slice x_5 x_6 x_7,string x_12]) w'_1 (slice x_13 x_14 x_15) w'/\J x_13 x_14 x_15 (wrap u64 (wrap i64 (wrap i64 (2*(↑(ByteArray.size x):Int))+10))) w' else bif decide (x
 = 2) then ∃ (x:ByteArray),cell? w'_1 (add (mk g 0 none) 2)=some (string x)/\∃ (x_12:ByteArray),cell? w'_1 (add (mk g 0 none) 2)=some (string x_12)/\∃ x_13 x_14
 x_15 w',RunsTo Tryz.prog (append_ (Array.mk [32,9]) 32 #[slice x_5 x_6 x_7,string x_12]) w'_1 (slice x_13 x_14 x_15) w'/\J x_13 x_14 x_15 (wrap u64 (wrap i64 (wrap i64 (2*(↑(ByteArray.size x) :
 Int))+11))) w' else J x_5 x_6 x_7 0 w'_1 else ∃ x_9 x_10 x_11 w',RunsTo Tryz.prog (append_ (Array.mk [32,32]) 32 #[slice x x_3 x_4,slice x_5 x_6 x_7]) w (slice x_9 x_10 x_11) w'/\bif
 decide (1048576<(x_10:Int)) then K (tuple #[slice none 0 0,int i64 3]) w' else K (tuple #[slice x_9 x_10 x_11,int i64 0]) w'
theorem cardindexref03_Put.calls (ok:Okay Tryz.prog) {row_A row_n row_c w K} (h:cardindexref03_Put.W row_A row_n row_c w K):CallsV Tryz.prog 51 #[.slice row_A row_n row_c] w K :=
  fnW_calls ok Tryz.func51 (an:=(.named (.seq .auto (.seq .auto (.seq .auto (.seq .auto (.seq (.seq .auto (.block (.loop [(5,.one .slc),(6,.one .slc),(7,.one (.int .i64))] (.seq .auto (.seq (.block (.seq .auto (.seq .auto (.join [(6,.one .slc),(9,.one (.int .u64))] .auto .auto)))) .auto))))) .auto))))))) (args:=[.slice row_A row_n row_c]) (Eq.mp (by kernel_rfl) h)
noncomputable def cardindexref03_same.W:Option Addr->Nat->Nat->Option Addr->Nat->Nat->World->(Value->World->Prop)->Prop:=fun a_A a_n a_c b_A b_n b_c w K=>bif !decide ((a_n :
 Int)=(b_n:Int)) then K (bool false) w else ∃ (I:Int->World->Prop) (μ:Int->World->Nat),I 0 w/\∀ x w,I x w->bif decide (x<(a_n:Int)) then ∃ ad,a_A=some ad /\
 (0<=x/\x<(a_n:Int))/\∃ (S:World->Prop),S (drew w)/\∃ x_1,(∀ u,S u->cell? u (add ad (Int.toNat x*1))=some (int u8 x_1))/\∃ ad,b_A=some ad/\(0<=x/\x<(b_n:Int))
 /\ ∃ x_2,(∀ u,S u->cell? u (add ad (Int.toNat x*1))=some (int u8 x_2))/\bif !decide (x_1=x_2) then K (bool false) (drew w) else I (wrap i64 (x+1)) (drew w)/\μ (wrap
 i64 (x+1)) (drew w)<μ x w else K (bool true) w
theorem cardindexref03_same.calls (ok:Okay Tryz.prog) {a_A a_n a_c b_A b_n b_c w K} (h:cardindexref03_same.W a_A a_n a_c b_A b_n b_c w K):CallsV Tryz.prog 109 #[.slice a_A a_n a_c,.slice b_A b_n b_c] w K :=
  fnW_calls ok Tryz.func109 (an:=(.named (.seq .auto (.seq .auto (.seq (.seq .auto (.block (.loop [(5,.one (.int .i64))] .auto))) .auto))))) (args:=[.slice a_A a_n a_c,.slice b_A b_n b_c]) (Eq.mp (by kernel_rfl) h)
noncomputable def cardindexref03_Get.W:Option Addr->Nat->Nat->World->(Value->World->Prop)->Prop:=fun b_A b_n b_c w K=>CallsV Tryz.prog 107 #[slice b_A b_n b_c,int i64 0] w fun v w'=>∃ x
 x_1 x_2,v=tuple #[int u64 x,int i64 x_1,int i64 x_2]/\bif !decide (x_2=0) then K (tuple #[slice none 0 0,int i64 10]) w' else bif decide (200<x) then K (tuple
 #[slice none 0 0,int i64 10]) w' else bif decide (1048576<(b_n:Int)) then K (tuple #[slice none 0 0,int i64 10]) w' else ∃ (I:Int->Option Addr->Nat->Nat->Int->World
 -> Prop) (μ:Int->Option Addr->Nat->Nat->Int->World->Nat),I x_1 none 0 0 0 w'/\∀ x_3 x_4 x_5 x_6 x_7 w,I x_3 x_4 x_5 x_6 x_7 w->bif decide (x_7<wrap i64 x) then CallsV
 Tryz.prog 107 #[slice b_A b_n b_c,int i64 x_3] w fun v w'=>∃ x x_8 x_9,v=tuple #[int u64 x,int i64 x_8,int i64 x_9]/\bif !decide (x_9=0) then K (tuple #[slice none 0 0,int
 i64 10]) w' else bif decide (wrap u64 (wrap i64 (wrap i64 (2*(b_n:Int))+11))<x) then K (tuple #[slice none 0 0,int i64 10]) w' else ∀ g w'_1,Fresh w' g w'_1 [int u64 x] 106 ->
 ∃ x x_10 x_11 w',RunsTo Tryz.prog (append_ (Array.mk [140,140]) 140 #[slice x_4 x_5 x_6,slice (some (mk g 0 none)) 1 1]) w'_1 (slice x x_10 x_11) w'/\I x_8 x x_10 x_11 (wrap i64 (x_7
 + 1)) w'/\μ x_8 x x_10 x_11 (wrap i64 (x_7+1)) w'<μ x_3 x_4 x_5 x_6 x_7 w else ∃ (I:Int->Option Addr->Nat->Nat->Int->World->Prop) (μ:Int->Option Addr->Nat->Nat->Int->World->Nat),I
 x_3 none 0 0 0 w/\∀ x x_8 x_9 x_10 x_11 w,I x x_8 x_9 x_10 x_11 w->bif decide (x_11<(x_5:Int)) then ∃ (J:Int->Option Addr->Nat->Nat->World->Prop),(∀ x_12 x_13 x_14 x_15
 w_1,J x_12 x_13 x_14 x_15 w_1->I x_12 x_13 x_14 x_15 (wrap i64 (x_11+1)) w_1/\μ x_12 x_13 x_14 x_15 (wrap i64 (x_11+1)) w_1<μ x x_8 x_9 x_10 x_11 w)/\∃ ad,x_4=some ad/\(0<=x_11 /\
 x_11<(x_5:Int))/\∃ x_12,cell? w (add ad (Int.toNat x_11*1))=some (int u64 x_12)/\∃ (J_1:Int->World->Prop),(∀ x_13 w,J_1 x_13 w->bif decide (wrap i64 x_12=9) then K
 (tuple #[slice none 0 0,int i64 10]) w else bif decide (wrap i64 ((b_n:Int)-x)<x_13) then K (tuple #[slice none 0 0,int i64 10]) w else ∀ g w',Fresh w g w' [int u8 0,
 int i64 0,string (ByteArray.mk #[])] 54->stOK (mk g 0 none) 0 [int u8 0,int i64 0,string (ByteArray.mk #[])] w'/\∀ w'_1,w'_1=setAll (mk g 0 none) 0 [int u8 0,int i64 0,string
 (ByteArray.mk #[])] w'->∃ (J_2:World->Prop),(∀ w,J_2 w->∃ (J_3:World->Prop),(∀ w,J_3 w->∃ x_14,cell? w (add (mk g 0 none) 0)=some (int u8 x_14)/\∃ x_15,cell? w (add (mk
 g 0 none) 1)=some (int i64 x_15)/\∃ (x_16:ByteArray),cell? w (add (mk g 0 none) 2)=some (string x_16)/\∀ g w',Fresh w g w' [int u8 x_14,int i64 x_15,string x_16]
 54->∃ x_17 x_18 x_19 w'_2,RunsTo Tryz.prog (append_ (Array.mk [23,23]) 23 #[slice x_8 x_9 x_10,slice (some (mk g 0 none)) 1 1]) w' (slice x_17 x_18 x_19) w'_2/\J (wrap i64 (x +
 x_13)) x_17 x_18 x_19 w'_2)/\bif decide (10<=wrap i64 x_12) then stOK (add (mk g 0 none) 0) 0 [int u8 3] w/\∀ w',w'=setAll (add (mk g 0 none) 0) 0 [int u8 3] w->(2: Int)
 ≠ 0/\bif decide (Int.tmod (wrap i64 x_12) (2: Int)=1) then stOK (add (mk g 0 none) 0) 0 [int u8 2] w'/\∀ w'_2,w'_2=setAll (add (mk g 0 none) 0) 0 [int u8 2] w'->(0 <=
 wrap i64 (x+x_13)/\wrap i64 (x+x_13)<=(b_c:Int))/\(0<=x/\x<=(↑(Int.toNat (wrap i64 (x+x_13))):Int))/\∃ (x_14:ByteArray) (w':World),RunsTo Tryz.prog (convert 32 9 (slice (cutAt b_A
 b_c (Int.toNat x) 1) (Int.toNat (wrap i64 (x+x_13))-Int.toNat x) (b_c-Int.toNat x))) w'_2 (string x_14) w'/\stOK (add (mk g 0 none) 2) 0 [string x_14] w'/\∀ w'_3,w'_3=setAll (add (mk
 g 0 none) 2) 0 [string x_14] w'->J_3 w'_3 else (0<=wrap i64 (x+x_13)/\wrap i64 (x+x_13)<=(b_c:Int))/\(0<=x/\x<=(↑(Int.toNat (wrap i64 (x+x_13))):Int))/\∃ (x_14:ByteArray)
 (w'_2:World),RunsTo Tryz.prog (convert 32 9 (slice (cutAt b_A b_c (Int.toNat x) 1) (Int.toNat (wrap i64 (x+x_13))-Int.toNat x) (b_c-Int.toNat x))) w' (string x_14) w'_2/\stOK (add (mk g 0
 none) 2) 0 [string x_14] w'_2/\∀ w',w'=setAll (add (mk g 0 none) 2) 0 [string x_14] w'_2->J_3 w' else J_3 w)/\bif decide (1<=wrap i64 x_12) then bif decide
 (wrap i64 x_12<=8) then stOK (add (mk g 0 none) 0) 0 [int u8 1] w'_1/\∀ w',w'=setAll (add (mk g 0 none) 0) 0 [int u8 1] w'_1->∃ (J:World->Prop),(∀ w,J w->∃ (I:Int->World ->
 Prop) (μ:Int->World->Nat),I 0 w/\∀ x_14 w,I x_14 w->bif decide (x_14<wrap i64 x_12) then ∃ (S:World->Prop),S (drew w)/\∃ x_15,(∀ u,S u->cell? u (add (mk g 0 none) 1)
 = some (int i64 x_15))/\∃ ad,b_A=some ad/\(0<=wrap i64 (x+x_14)/\wrap i64 (x+x_14)<(b_n:Int))/\∃ x_16,(∀ u,S u->cell? u (add ad (Int.toNat (wrap i64 (x+x_14))*1)) =
 some (int u8 x_16))/\stOK (add (mk g 0 none) 1) 0 [int i64 (wrap i64 (wrap i64 (x_15*256)+wrap i64 x_16))] (drew w)/\∀ w',w'=setAll (add (mk g 0 none) 1) 0 [int i64 (wrap
 i64 (wrap i64 (x_15*256)+wrap i64 x_16))] (drew w)->I (wrap i64 (x_14+1)) w'/\μ (wrap i64 (x_14+1)) w'<μ x_14 w else J_2 w)/\∃ ad,b_A=some ad/\(0<=x/\x<(b_n:Int))/\∃
 x_14,cell? w' (add ad (Int.toNat x*1))=some (int u8 x_14)/\bif decide (128<=x_14) then stOK (add (mk g 0 none) 1) 0 [int i64 (-1:Int)] w'/\∀ w'_2,w'_2=setAll (add
 (mk g 0 none) 1) 0 [int i64 (-1:Int)] w'->J w'_2 else J w' else J_2 w'_1 else J_2 w'_1)/\bif decide (10<=wrap i64 x_12) then (2: Int)≠0/\J_1 (wrap i64 (Int.tdiv (wrap i64 (wrap
 i64 x_12-10)) 2)) w else J_1 (wrap i64 x_12) w else CallsV Tryz.prog 51 #[slice x_8 x_9 x_10] w fun v w'=>∃ x x_12 x_13 x_14,v=tuple #[slice x x_12 x_13,int i64 x_14]/\bif !decide
 (x_14=0) then K (tuple #[slice none 0 0,int i64 10]) w' else CallsV Tryz.prog 109 #[slice x x_12 x_13,slice b_A b_n b_c] w' fun v w'=>∃ x,v=bool x/\bif !x then K (tuple #[slice
 none 0 0,int i64 10]) w' else K (tuple #[slice x_8 x_9 x_10,int i64 0]) w'
theorem cardindexref03_Get.calls (ok:Okay Tryz.prog) {b_A b_n b_c w K} (h:cardindexref03_Get.W b_A b_n b_c w K):CallsV Tryz.prog 55 #[.slice b_A b_n b_c] w K :=
  fnW_calls ok Tryz.func55 (an:=(.named (.seq .auto (.seq .auto (.seq .auto (.seq .auto (.seq (.seq .auto (.block (.loop [(5,.one (.int .i64)),(7,.one .slc),(8,.one (.int .i64))] .auto))) (.seq .auto (.seq (.seq .auto (.block (.loop [(5,.one (.int .i64)),(12,.one .slc),(13,.one (.int .i64))] (.seq .auto (.join [(5,.one (.int .i64)),(12,.one .slc)] (.block (.seq .auto (.seq .auto (.join [(15,.one (.int .i64))] .auto (.seq .auto (.seq .auto (.join [] (.seq .auto (.cond (.seq .auto (.join [] .auto (.seq .auto (.block (.loop [(17,.one (.int .i64))] .auto))))) .auto)) (.join [] .auto .auto)))))))) .auto))))) .auto))))))))) (args:=[.slice b_A b_n b_c]) (Eq.mp (by kernel_rfl) h)
end Go.Proofs.YtaifphjenebgoaaGreatDoor
set_option linter.unusedVariables false
set_option linter.unusedSimpArgs false
namespace Go.Proofs.YtaifphjenebgoaaGreatDoor
open Go Go.Sx
theorem pushB {w w1:World} {g:Nat} {A:Option Addr} {c:Nat} {l:List UInt8} {v:Int} {t:TypeId} (f:Fresh w g w1 [.int .u8 v] t) (h:OwnB w A c l) (b:UInt8) (hv:v=(b.toNat:Int)) (hb:l.length+1<=140737488355328) (ty:TypeId) :
    ∃ A' c' w',RunsTo Tryz.prog (Builtin.append_ #[32,32] ty #[.slice A l.length c,.slice (some ⟨g,0,none⟩) 1 1]) w1 (.slice A' (l++[b]).length c') w'/\OwnB w' A' c' (l++[b])/\Grew A A' w w':=by
  obtain ⟨rfl,rfl⟩:=f
  subst hv
  obtain ⟨A',c',w',hr,ho,hg,_⟩:=appendB h b hb t ty
  exact ⟨A',c',w',by rw [List.length_append];exact hr,ho,hg⟩
theorem itemBx {Ω:Nat->Prop} {w:World} {A:Option Addr} {l:List UInt8} (h:Imm KB Ω w A l) {j:Nat} (h1:j<l.length) :
    ∃ ad,A=some ad/\∀ u,Ext w u->u.cell? (ad.add (j*1))=some (.int .u8 ((l.getD j 0).toNat:Int)):=by
  have hg:l[j]?=some (l.getD j 0):=by simp [List.getD,h1]
  obtain ⟨ad,hA,hn,cs,hr,hcell⟩:=h j _ hg
  have hr:cs=[u8 (l.getD j 0)]:=hr
  subst hr
  exact ⟨ad,hA,fun u hu=>hu.cell (fun h=>h) (hcell 0 _ rfl)⟩
theorem take_sn (l:List UInt8) (j:Nat) (h:j<l.length):l.take (j+1)=l.take j++[l.getD j 0]:=by
  rw [List.take_add_one];simp [List.getD,h]
theorem pow_le (j:Nat) (h:j<=9) : 0<128 ^ j/\128 ^ j<=9223372036854775808 :=
  ⟨Nat.pow_pos (by decide),Nat.le_trans (Nat.pow_le_pow_right (by decide) h) (by decide)⟩
theorem power_spec (w:World) (k:Nat) (hk:k<=9):CallsV Tryz.prog 135 #[.int .i64 (k:Int)] w fun r w'=>r=.int .u64 ((128 ^ k:Nat):Int)/\w'=w:=by
  refine cardindexref01_power.calls okay ?_
  unfold cardindexref01_power.W
  refine ⟨fun x i u=>∃ j:Nat,j<=k/\i=(j:Int)/\x=((128 ^ j:Nat):Int)/\u=w,fun _ i _=>(k-i).toNat,⟨0,by omega,rfl,rfl,rfl⟩,?_⟩
  rintro _ _ u ⟨j,hj,rfl,rfl,rfl⟩
  refine brd (fun hlt=>?_) (fun hge=>?_)
  · have h1:=pow_le (j+1) (by omega)
    have h2 : 128 ^ (j+1)=128 ^ j*128:=Nat.pow_succ ..
    have h3:((128 ^ j:Nat):Int)*128=((128 ^ (j+1):Nat):Int):=by rw [h2];simp
    rw [wi _ (by omega) (by omega),h3,wu _ (Int.natCast_nonneg _) (by have:=h1.2;omega)]
    exact ⟨⟨j+1,by omega,rfl,rfl,rfl⟩,by dsimp only;omega⟩
  · obtain rfl:j=k:=by omega
    exact ⟨rfl,rfl⟩
theorem div_u (n j:Nat) (hn:n<18446744073709551616):IntKind.u64.wrap (Int.tdiv (n:Int) ((128 ^ j:Nat):Int))=((n / 128 ^ j:Nat):Int):=by
  have h1:Int.tdiv (n:Int) ((128 ^ j:Nat):Int)=((n / 128 ^ j:Nat):Int):=by
    rw [Int.tdiv_eq_ediv_of_nonneg (Int.natCast_nonneg _)];exact (Int.natCast_ediv _ _).symm
  have:=Nat.div_le_self n (128 ^ j)
  rw [h1,wu _ (Int.natCast_nonneg _) (by omega)]
theorem mod_u (q:Nat):Int.tmod (q:Int) 128=((q % 128:Nat):Int):=by
  rw [Int.tmod_eq_emod_of_nonneg (Int.natCast_nonneg _)];rfl
def MadeB (w:World) (l:List UInt8) (r:Value) (w':World):Prop:=∃ A c,r=.slice A l.length c/\OwnB w' A c l/\Ext w w'/\New w A
theorem Varint_spec (w:World) (n:Nat) (hn:n<18446744073709551616):CallsV Tryz.prog 104 #[.int .u64 (n:Int)] w fun r w'=>MadeB w (B1.enc n) r w':=by
  refine cardindexref01_Varint.calls okay ?_
  unfold cardindexref01_Varint.W
  refine ⟨fun A m c i u=>∃ (j:Nat) (l:List UInt8),j<=9/\i=(j:Int)/\m=l.length/\l.length=j/\l++B1.enc (n / 128 ^ j)=B1.enc n/\OwnB u A c l/\Ext w u/\New w A,
    fun _ _ _ i _=>(10-i).toNat,⟨0,[],by omega,rfl,rfl,rfl,by simp,OwnB.nil _,.refl _ _,New.none _⟩,?_⟩
  rintro A _ c _ u ⟨j,l,hj,rfl,rfl,hl,he,ho,e,nA⟩
  refine brd (fun _=>?_) (fun h=>by omega)
  have hp:=(pow_le j hj).1
  refine (power_spec u j hj).same ⟨_,rfl,by omega,by decide,?_⟩
  have hdu:=div_u n j hn
  have hq:n / 128 ^ j<=n:=Nat.div_le_self _ _
  have hd2:n / 128 ^ (j+1)=n / 128 ^ j / 128:=by rw [Nat.pow_succ,Nat.div_div_eq_div_mul]
  have last:n / 128 ^ j<128->∀ g w1,Fresh u g w1 [.int .u8 (IntKind.u8.wrap (Int.tmod (IntKind.u64.wrap (Int.tdiv (n:Int) ((128 ^ j:Nat):Int))) 128))] 5 ->
      ∃ x x_1 x_2,∃ w',RunsTo Tryz.prog (Builtin.append_ #[32,32] 32 #[.slice A l.length c,.slice (some ⟨g,0,none⟩) 1 1]) w1 (.slice x x_1 x_2) w'/\MadeB w (B1.enc n) (.slice x x_1 x_2) w':=by
    intro hlt g w1 f
    rw [hdu,mod_u,w8 _ (by omega) (by omega)] at f
    obtain ⟨A',c',w',hr,ho',g'⟩:=pushB f ho (n / 128 ^ j).toUInt8 (by rw [B1.toUInt8_toNat (by omega),Nat.mod_eq_of_lt hlt]) (by omega) 32
    refine ⟨_,_,_,_,hr,A',c',?_⟩
    rw [<- he,B1.enc_lt hlt]
    exact ⟨rfl,ho',g'.ext e nA,g'.new e nA⟩
  refine brd (fun h9=>?_) (fun h9=>?_)
  · refine (power_spec u j hj).same ⟨_,rfl,by omega,?_⟩
    refine brd (fun hge=>?_) (fun hlt=>?_)
    · rw [hdu] at hge
      intro g w1 f
      have hm:IntKind.u8.wrap (IntKind.u64.wrap (Int.tmod (IntKind.u64.wrap (Int.tdiv (n:Int) ((128 ^ j:Nat):Int))) 128+128))=((((n / 128 ^ j) % 128+128).toUInt8).toNat:Int):=by
        rw [hdu,mod_u,wu _ (by omega) (by omega),w8 _ (by omega) (by omega),B1.toUInt8_toNat (by omega)];rfl
      obtain ⟨A',c',w',hr,ho',g'⟩:=pushB f ho _ hm (by omega) 32
      refine ⟨_,_,_,_,hr,?_⟩
      rw [wi _ (by omega) (by omega)]
      refine ⟨⟨j+1,_,by omega,rfl,rfl,by simp [hl],?_,ho',g'.ext e nA,g'.new e nA⟩,by dsimp only;omega⟩
      rw [hd2,<- he,B1.enc_ge (by omega : 128<=n / 128 ^ j),List.append_assoc];rfl
    · rw [hdu] at hlt
      exact last (by omega)
  · have:j=9:=by omega
    subst this
    exact last (by have:n / 128 ^ 9<128:=(Nat.div_lt_iff_lt_mul (by decide)).2 (Nat.lt_of_lt_of_le hn (by decide));exact this)
theorem behind_spec {Ω Ω':Nat->Prop} {w:World} {A B:Option Addr} {c d n m:Nat} {a b:List UInt8} (hn:n=a.length) (hm:m=b.length) (hA:Imm KB Ω w A a) (hB:Imm KB Ω' w B b) (hl:a.length+b.length<=140737488355327) :
    CallsV Tryz.prog 102 #[.slice A n c,.slice B m d] w fun r w'=>MadeB w (a++b) r w':=by
  subst hn;subst hm
  refine cardindexref01_behind.calls okay ?_
  unfold cardindexref01_behind.W
  refine ⟨fun X m c i u=>∃ j:Nat,j<=a.length/\i=(j:Int)/\m=(a.take j).length/\OwnB u X c (a.take j)/\Ext w u/\New w X,
    fun _ _ _ i _=>(a.length-i).toNat,⟨0,by omega,rfl,rfl,OwnB.nil _,.refl _ _,New.none _⟩,?_⟩
  rintro X _ cX _ u ⟨j,hj,rfl,rfl,ho,e,nX⟩
  refine brd (fun hlt=>?_) (fun hge=>?_)
  · have hjl:j<a.length:=by omega
    obtain ⟨ad,hA',hc⟩:=itemBx hA hjl
    rw [Int.toNat_natCast]
    refine ⟨ad,hA',⟨by omega,by omega⟩,_,hc u e,?_⟩
    intro g w1 f
    have hle:(a.take j).length<=j:=by rw [List.length_take];omega
    obtain ⟨A',c',w',hr,ho',g'⟩:=pushB f ho _ rfl (by omega) 32
    refine ⟨_,_,_,_,hr,?_⟩
    rw [wi _ (by omega) (by omega)]
    rw [<- take_sn a j hjl] at ho' ⊢
    exact ⟨⟨j+1,by omega,rfl,rfl,ho',g'.ext e nX,g'.new e nX⟩,by dsimp only;omega⟩
  · obtain rfl:j=a.length:=by omega
    rw [List.take_length] at ho ⊢
    refine ⟨fun X m c i u=>∃ j:Nat,j<=b.length/\i=(j:Int)/\m=(a++b.take j).length/\OwnB u X c (a++b.take j)/\Ext w u/\New w X,
      fun _ _ _ i _=>(b.length-i).toNat,⟨0,by omega,rfl,by simp,by simpa using ho,e,nX⟩,?_⟩
    rintro X _ cX _ u ⟨j,hj,rfl,rfl,ho,e,nX⟩
    refine brd (fun hlt=>?_) (fun hge=>?_)
    · have hjl:j<b.length:=by omega
      obtain ⟨ad,hA',hc⟩:=itemBx hB hjl
      rw [Int.toNat_natCast]
      refine ⟨ad,hA',⟨by omega,by omega⟩,_,hc u e,?_⟩
      intro g w1 f
      have hle:(a++b.take j).length<=a.length+j:=by rw [List.length_append,List.length_take];omega
      obtain ⟨A',c',w',hr,ho',g'⟩:=pushB f ho _ rfl (by omega) 32
      refine ⟨_,_,_,_,hr,?_⟩
      rw [wi _ (by omega) (by omega)]
      rw [List.append_assoc,<- take_sn b j hjl] at ho' ⊢
      exact ⟨⟨j+1,by omega,rfl,rfl,ho',g'.ext e nX,g'.new e nX⟩,by dsimp only;omega⟩
    · obtain rfl:j=b.length:=by omega
      rw [List.take_length] at ho ⊢
      exact ⟨X,cX,rfl,ho,e,nX⟩
theorem UintR_spec {w:World} {A:Option Addr} {c n:Nat} {l:List UInt8} (hn:n=l.length) (h:Imm KB NoB w A l) (m:Nat) (hm:m<18446744073709551616) (hl:l.length<=1000000000000) :
    CallsV Tryz.prog 101 #[.slice A n c,.int .u64 (m:Int)] w fun r w'=>MadeB w (l++B1.enc m) r w':=by
  refine cardindexref01_Uint.calls okay ?_
  unfold cardindexref01_Uint.W
  refine (Varint_spec w m hm).mono ?_
  rintro _ w1 ⟨X,cX,rfl,oX,e1,nX⟩
  refine ⟨_,_,_,rfl,?_⟩
  have:=B1.enc_le_ten (m:=m) hm
  refine (behind_spec hn rfl (h.ext KB_pos e1) oX.imm0 (by omega)).mono ?_
  rintro _ w2 ⟨Y,cY,rfl,oY,e2,nY⟩
  exact ⟨_,_,_,rfl,Y,cY,rfl,oY,e1.trans' e2,nY.ext e1⟩
end Go.Proofs.YtaifphjenebgoaaGreatDoor
set_option linter.unusedVariables false
set_option linter.unusedSimpArgs false
namespace R1
open Go.Sx
def be':Nat->List UInt8->Nat
  | n,[]=>n
  | n,c::r=>be' (n*256+c.toNat) r
def be (l:List UInt8):Nat:=be' 0 l
theorem be'_snoc:∀ (l:List UInt8) (n:Nat) (c:UInt8),be' n (l++[c])=be' n l*256+c.toNat
  | [],n,c=>rfl
  | x::l,n,c=>be'_snoc l (n*256+x.toNat) c
theorem be_snoc (l:List UInt8) (c:UInt8):be (l++[c])=be l*256+c.toNat:=be'_snoc l 0 c
theorem be_lt (l:List UInt8):be l<256 ^ l.length:=by
  rw [<- List.reverse_reverse l]
  induction l.reverse with
  | nil=>simp [be,be']
  | cons c r ih =>
    rw [List.reverse_cons,be_snoc,List.length_append,List.length_singleton,Nat.pow_succ]
    have:=c.toNat_lt
    omega
def sgn (k m:Nat):Int:=if m<2 ^ (8*k-1) then (m:Int) else (m:Int)-((2 ^ (8*k):Nat):Int)
def got (b:List UInt8) (k:Nat):Option (V×Nat) :=
  if k=0 then some (⟨0,0,ByteArray.mk #[]⟩,0)
  else if k<=8 then (if b.length<k then none else if wide (sgn k (be (b.take k)))=k then some (⟨1,sgn k (be (b.take k)),ByteArray.mk #[]⟩,k) else none)
  else if k=9 then none
  else if 65536<(k-10) / 2 then none
  else if b.length<(k-10) / 2 then none
  else some (⟨if k % 2=1 then 2 else 3,0,⟨(b.take ((k-10) / 2)).toArray⟩⟩,(k-10) / 2)
def sortsP (b:List UInt8):Nat->Int->Option (List Nat×Int)
  | 0,at_=>some ([],at_)
  | n+1,at_=>if (B1.getU b at_).2.2≠0 then none else (sortsP b n (B1.getU b at_).2.1).map fun r=>((B1.getU b at_).1::r.1,r.2)
def rowsP (b:List UInt8):List Nat->Nat->Option (List V×Nat)
  | [],at_=>some ([],at_)
  | k::ks,at_=>match got (b.drop at_) k with
    | none=>none
    | some (v,n)=>(rowsP b ks (at_+n)).map fun r=>(v::r.1,r.2)
def getP (b:List UInt8):Option (List V) :=
  if (B1.getU b 0).2.2≠0\/200<(B1.getU b 0).1\/1048576<b.length then none
  else match sortsP b (B1.getU b 0).1 (B1.getU b 0).2.1 with
    | none=>none
    | some (ks,at_)=>match rowsP b ks at_.toNat with
      | none=>none
      | some (row,e)=>if e<b.length then none else some row
end R1
set_option linter.unusedVariables false
set_option linter.unusedSimpArgs false
namespace R1
open Go.Sx
/-! ## numbers -/
theorem be'_eq:∀ (l:List UInt8) (n:Nat),be' n l=n*256 ^ l.length+be l
  | [],n=>by simp [be',be]
  | c::r,n=>by
    have h1:=be'_eq r (n*256+c.toNat)
    have h2:=be'_eq r (0*256+c.toNat)
    show be' (n*256+c.toNat) r=_
    have h3:be (c::r)=be' (0*256+c.toNat) r:=rfl
    rw [h1,h3,h2,List.length_cons,Nat.pow_succ,Nat.add_mul,Nat.mul_assoc,Nat.mul_comm 256 (256 ^ r.length)]
    simp [Nat.add_assoc]
theorem be_cons (c:UInt8) (r:List UInt8):be (c::r)=c.toNat*256 ^ r.length+be r:=by
  show be' (0*256+c.toNat) r=_
  rw [be'_eq];simp
theorem be_hi (m:Nat):∀ k,be (hi m k)=m % 256 ^ k
  | 0=>by simp [hi,be,be',Nat.mod_one]
  | k+1=>by
    rw [hi,be_cons,hi_length,be_hi m k,Nat.pow_succ,Nat.mod_mul]
    have:((m / 256 ^ k % 256).toUInt8).toNat=m / 256 ^ k % 256:=B1.toUInt8_toNat (Nat.mod_lt _ (by decide))
    rw [this,Nat.mul_comm,Nat.add_comm]
theorem hi_be:∀ (l:List UInt8) (m:Nat),m % 256 ^ l.length=be l->hi m l.length=l
  | [],m,_=>rfl
  | c::r,m,h=>by
    rw [be_cons,List.length_cons,Nat.pow_succ,Nat.mod_mul] at h
    have hb:=be_lt r
    have hp : 0<256 ^ r.length:=Nat.pow_pos (by decide)
    have hm:=Nat.mod_lt m hp
    have h1:m % 256 ^ r.length=be r:=by
      have:=congrArg (· % 256 ^ r.length) h
      simp only [Nat.add_mul_mod_self_left] at this
      rw [Nat.mod_eq_of_lt hm,Nat.mul_comm,Nat.add_comm,Nat.add_mul_mod_self_left,Nat.mod_eq_of_lt hb] at this
      exact this
    have h2:m / 256 ^ r.length % 256=c.toNat:=by
      have : 256 ^ r.length*(m / 256 ^ r.length % 256)=256 ^ r.length*c.toNat:=by
        rw [Nat.mul_comm (256 ^ r.length) c.toNat];omega
      exact Nat.eq_of_mul_eq_mul_left hp this
    rw [List.length_cons,hi,h2,hi_be r m h1]
    simp
/-! ## keys -/
theorem sb_mk (l:List UInt8):sb ⟨l.toArray⟩=l:=by simp [sb]
theorem mk_sb (s:ByteArray):(⟨(sb s).toArray⟩:ByteArray)=s:=by simp [sb]
theorem empty_of {s:ByteArray} (h:s.size=0):s=ByteArray.mk #[]:=by
  obtain ⟨a⟩:=s
  have:a.size=0:=h
  rw [Array.size_eq_zero_iff] at this
  rw [this]
theorem right0 {v:V} (h:right v=true) (hk:v.k=0):v=⟨0,0,ByteArray.mk #[]⟩:=by
  obtain ⟨k,n,s⟩:=v
  dsimp only at hk;subst hk
  unfold right at h
  rw [if_pos rfl] at h
  have:=of_decide_eq_true h
  dsimp only at this
  rw [this.1,empty_of this.2]
theorem right1 {v:V} (h:right v=true) (hk:v.k=1):v=⟨1,v.n,ByteArray.mk #[]⟩:=by
  obtain ⟨k,n,s⟩:=v
  dsimp only at hk;subst hk
  unfold right at h
  rw [if_neg (by simp),if_pos rfl] at h
  have:=of_decide_eq_true h
  dsimp only at this ⊢
  rw [empty_of this]
theorem right2 {v:V} (h:right v=true) (h0:v.k≠0) (h1:v.k≠1):(v.k=2\/v.k=3)/\v.s.size<=65536/\v=⟨v.k,0,v.s⟩:=by
  obtain ⟨k,n,s⟩:=v
  unfold right at h
  rw [if_neg h0,if_neg h1] at h
  split at h
  · rename_i hk
    have:=of_decide_eq_true h
    dsimp only at this ⊢
    exact ⟨hk,this.2,by rw [this.1]⟩
  · cases h
theorem sb_size (l:List UInt8):(⟨l.toArray⟩:ByteArray).size=l.length:=by simp [ByteArray.size]
theorem rightT {k:Int} {s:ByteArray} (hk:k=2\/k=3) (hs:s.size<=65536):right ⟨k,0,s⟩=true/\good ⟨k,0,s⟩:=by
  refine ⟨?_,⟨by dsimp only;omega,by dsimp only;omega⟩,by simp only [Go.maxLen];omega⟩
  unfold right
  rw [if_neg (by dsimp only;omega),if_neg (by dsimp only;omega),if_pos hk]
  exact decide_eq_true ⟨rfl,hs⟩
theorem rightN {n:Int} (h : -9223372036854775808<=n) (h2:n<=9223372036854775807):right ⟨1,n,ByteArray.mk #[]⟩=true/\good ⟨1,n,ByteArray.mk #[]⟩ :=
  ⟨rfl,⟨show (0:Int)<=1 by decide,show (1:Int)<=255 by decide⟩,⟨h,h2⟩,Nat.zero_le _⟩
theorem rightZ:right ⟨0,0,ByteArray.mk #[]⟩=true/\good ⟨0,0,ByteArray.mk #[]⟩:=⟨rfl,⟨by decide,by decide⟩,⟨by decide,by decide⟩,by decide⟩
theorem n8 (b:UInt8) : ~~~(~~~b)=b:=UInt8.eq_of_toBitVec_eq (by simp)
/-! ## rows -/
theorem wideFrom_fits (n:Int):∀ f k,fits n (wideFrom n f k)=true\/wideFrom n f k=f+k
  | 0,k=>.inr (by simp [wideFrom])
  | f+1,k=>by
    unfold wideFrom
    by_cases h:fits n k=true
    · rw [if_pos h];exact .inl h
    · rw [if_neg h]
      rcases wideFrom_fits n f (k+1) with h|h
      · exact .inl h
      · exact .inr (by omega)
theorem fits_wide {n:Int} (h : -9223372036854775808<=n) (h2:n<=9223372036854775807):fits n (wide n)=true:=by
  rcases wideFrom_fits n 7 1 with hw|hw
  · exact hw
  · show fits n (wideFrom n 7 1)=true
    rw [hw]
    exact decide_eq_true ⟨by simpa using h,by simp;omega⟩
theorem cases8 {k:Nat} (h : 1<=k) (h2:k<=8):k=1\/k=2\/k=3\/k=4\/k=5\/k=6\/k=7\/k=8:=by omega
theorem sgn_hi {n:Int} {k:Nat} (h1 : 1<=k) (h8:k<=8) (h:fits n k=true):sgn k ((n % 18446744073709551616).toNat % 256 ^ k)=n:=by
  have h:=of_decide_eq_true h
  rcases cases8 h1 h8 with rfl|rfl|rfl|rfl|rfl|rfl|rfl|rfl<;>(unfold sgn;simp at h ⊢;split<;>omega)
theorem hi_sgn {x k:Nat} (h1 : 1<=k) (h8:k<=8) (h:x<256 ^ k):(sgn k x % 18446744073709551616).toNat % 256 ^ k=x/\-9223372036854775808<=sgn k x/\sgn k x<=9223372036854775807:=by
  rcases cases8 h1 h8 with rfl|rfl|rfl|rfl|rfl|rfl|rfl|rfl<;>(unfold sgn;simp at h ⊢;split<;>omega)
theorem got_body {v:V} (hr:right v=true) (hg:good v) (r:List UInt8):got (body v++r) (sort v)=some (v,(body v).length):=by
  by_cases h0:v.k=0
  · have hv:=right0 hr h0
    rw [hv]
    rfl
  by_cases h1:v.k=1
  · have hv:=right1 hr h1
    have hn:=hg.2.1
    have hw:=fits_wide hn.1 hn.2
    have w1:=wide_pos v.n
    have w8:=wide_le v.n
    have hs:sort v=wide v.n:=by unfold sort;rw [if_pos h1]
    have hb:body v=hi (v.n % 18446744073709551616).toNat (wide v.n):=by
      unfold body;rw [if_pos h1]
      have:sb v.s=[]:=by rw [hv];rfl
      rw [this,List.append_nil]
    have hl:(body v).length=wide v.n:=by rw [hb,hi_length]
    rw [hs]
    unfold got
    rw [if_neg (by omega),if_pos w8,if_neg (by rw [List.length_append];omega)]
    have ht:(body v++r).take (wide v.n)=body v:=List.take_left' hl
    rw [ht,hl,hb,be_hi,sgn_hi w1 w8 hw,if_pos rfl,<- hv]
  · obtain ⟨hk,hs,hv⟩:=right2 hr h0 h1
    have hb:body v=sb v.s:=by unfold body;rw [if_neg h1];rfl
    have hl:(body v).length=v.s.size:=by rw [hb,sb_length]
    have h3:sort v=if v.k=3 then 2*v.s.size+10 else 2*v.s.size+11:=by
      unfold sort;rw [if_neg h1]
      rcases hk with h|h
      · rw [if_neg (by omega),if_pos h,if_neg (by omega)]
      · rw [if_pos h,if_pos h]
    have h4:(sort v-10) / 2=v.s.size/\10<=sort v/\(if sort v % 2=1 then (2:Int) else 3)=v.k:=by
      rw [h3]
      rcases hk with h|h
      · rw [if_neg (by omega),if_pos (by omega)];exact ⟨by omega,by omega,h.symm⟩
      · rw [if_pos h,if_neg (by omega)];exact ⟨by omega,by omega,h.symm⟩
    unfold got
    rw [if_neg (by omega),if_neg (by omega),if_neg (by omega),h4.1,if_neg (by omega),if_neg (by rw [List.length_append];omega),h4.2.2]
    have ht:(body v++r).take v.s.size=body v:=List.take_left' hl
    rw [ht,hl,hb,mk_sb,<- hv]
theorem got_canon {b:List UInt8} {k:Nat} {v:V} {n:Nat} (h:got b k=some (v,n)):b.take n=body v/\n<=b.length/\sort v=k/\right v=true/\good v:=by
  unfold got at h
  split at h
  · rename_i hk
    cases h
    exact ⟨rfl,Nat.zero_le _,by rw [hk];rfl,rightZ⟩
  · split at h
    · split at h
      · cases h
      · split at h
        · rename_i hw
          simp only [Option.some.injEq,Prod.mk.injEq] at h
          obtain ⟨rfl,rfl⟩:=h
          have htl:(b.take k).length=k:=by rw [List.length_take];omega
          have hb:=be_lt (b.take k)
          rw [htl] at hb
          obtain ⟨q1,q2,q3⟩:=hi_sgn (x:=be (b.take k)) (k:=k) (by omega) (by omega) hb
          refine ⟨?_,by omega,?_,rightN q2 q3⟩
          · unfold body
            rw [if_pos rfl]
            dsimp only
            rw [hw,show sb (ByteArray.mk #[])=[] from rfl,List.append_nil]
            have:=hi_be (b.take k) _ (by rw [htl];exact q1)
            rw [htl] at this
            exact this.symm
          · unfold sort
            rw [if_pos rfl]
            exact hw
        · cases h
    · split at h
      · cases h
      · split at h
        · cases h
        · split at h
          · cases h
          · simp only [Option.some.injEq,Prod.mk.injEq] at h
            obtain ⟨rfl,rfl⟩:=h
            have hz:(⟨(b.take ((k-10) / 2)).toArray⟩:ByteArray).size=(k-10) / 2:=by rw [sb_size,List.length_take];omega
            refine ⟨?_,by omega,?_,rightT (by split<;>simp) (by omega)⟩
            · unfold body
              rw [if_neg (by dsimp only;split<;>decide)]
              dsimp only
              rw [sb_mk];rfl
            · unfold sort
              dsimp only
              rw [hz]
              by_cases hk:k % 2=1
              · rw [if_pos hk,if_neg (by decide),if_neg (by decide),if_pos rfl];omega
              · rw [if_neg hk,if_neg (by decide),if_pos rfl];omega
theorem sort_lt' {v:V} (h:right v=true):sort v<18446744073709551616:=by
  have:=right_size h
  have:=wide_le v.n
  unfold sort;split
  · omega
  · split
    · omega
    · split<;>omega
def sortsB (l:List V):List UInt8:=l.flatMap (fun v=>B1.enc (sort v))
theorem sorts_put:∀ (l:List V) (pre r:List UInt8),(∀ v∈l,right v=true)->sortsP (pre++(sortsB l++r)) l.length pre.length=some (l.map sort,((pre++sortsB l).length:Int))
  | [],pre,r,_=>by simp [sortsP,sortsB]
  | v::l,pre,r,h=>by
    have hu:=B1.getU_enc pre (sort v) (sortsB l++r) (sort_lt' (h v (.head _)))
    have e:sortsB (v::l)=B1.enc (sort v)++sortsB l:=rfl
    have ih:=sorts_put l (pre++B1.enc (sort v)) r (fun v hv=>h v (.tail _ hv))
    rw [List.append_assoc] at ih
    rw [List.length_append,List.append_assoc] at ih
    rw [List.length_cons,sortsP,e,List.append_assoc,hu]
    dsimp only
    rw [if_neg (by simp),ih]
    rfl
theorem rows_put:∀ (l:List V) (pre r:List UInt8),(∀ v∈l,right v=true)->(∀ v∈l,good v)->rowsP (pre++(l.flatMap body++r)) (l.map sort) pre.length=some (l,(pre++l.flatMap body).length)
  | [],pre,r,_,_=>by simp [rowsP]
  | v::l,pre,r,h,hg=>by
    have ih:=rows_put l (pre++body v) r (fun v hv=>h v (.tail _ hv)) (fun v hv=>hg v (.tail _ hv))
    rw [List.append_assoc,List.length_append,List.append_assoc] at ih
    rw [List.map_cons,rowsP,List.drop_left,List.flatMap_cons,List.append_assoc,got_body (h v (.head _)) (hg v (.head _))]
    dsimp only
    rw [ih]
    rfl
def rowB (l:List V):List UInt8:=B1.enc l.length++sortsB l++l.flatMap body
theorem get_put {l:List V} (h200:l.length<=200) (hr:∀ v∈l,right v=true) (hg:∀ v∈l,good v) (x:List UInt8) (hlen:(rowB l++x).length<=1048576):getP (rowB l++x)=if x=[] then some l else none:=by
  have hu:=B1.getU_enc [] l.length (sortsB l++(l.flatMap body++x)) (by omega)
  rw [List.nil_append,List.length_nil] at hu
  have e:rowB l++x=B1.enc l.length++(sortsB l++(l.flatMap body++x)):=by unfold rowB;simp
  have h1:=sorts_put l (B1.enc l.length) (l.flatMap body++x) hr
  have h2:=rows_put l (B1.enc l.length++sortsB l) x hr hg
  rw [List.append_assoc] at h2
  unfold getP
  rw [e] at hlen ⊢
  have hu':B1.getU (B1.enc l.length++(sortsB l++(l.flatMap body++x))) 0=(l.length,((B1.enc l.length).length:Int),0):=by
    have:((0:Nat):Int)=0:=rfl
    rw [this] at hu
    rw [hu];simp
  rw [hu']
  dsimp only
  rw [if_neg (by rintro (h|h|h)<;>omega),h1]
  dsimp only
  rw [Int.toNat_natCast,h2]
  dsimp only
  by_cases hx:x=[]
  · subst hx
    rw [if_pos rfl,if_neg]
    simp
  · have:=List.length_pos_iff.2 hx
    rw [if_neg hx,if_pos]
    simp only [List.length_append]
    omega
theorem take_more {b:List UInt8} {i n:Nat} {x:List UInt8} (h:(b.drop i).take n=x):b.take (i+n)=b.take i++x:=by
  rw [List.take_add,h]
theorem getU_canon {b:List UInt8} {at_:Int} (h:(B1.getU b at_).2.2=0):∃ i u:Nat,at_=(i:Int)/\(B1.getU b at_).2.1=((i+u:Nat):Int)/\i+u<=b.length/\b.take (i+u)=b.take i++B1.enc (B1.getU b at_).1:=by
  unfold B1.getU at h ⊢
  by_cases hr:at_<0\/(b.length:Int)<at_
  · rw [if_pos hr] at h;cases h
  · rw [if_neg hr] at h ⊢
    cases hd:B1.dec 0 (b.drop at_.toNat) with
    | short=>rw [hd] at h;cases h
    | bad=>rw [hd] at h;cases h
    | ok n u =>
      obtain ⟨q1,q2,q3,_⟩:=B1.dec_ok _ 0 n u (by omega) hd
      rw [List.length_drop] at q2
      exact ⟨at_.toNat,u,by omega,by show at_+(u:Int)=_;omega,by omega,take_more q3⟩
theorem sorts_canon:∀ (n:Nat) (b:List UInt8) (i:Nat) (ks:List Nat) (e:Int),i<=b.length->sortsP b n i=some (ks,e)->ks.length=n/\∃ j:Nat,e=(j:Int)/\i<=j/\j<=b.length/\b.take j=b.take i++ks.flatMap B1.enc
  | 0,b,i,ks,e,hi,h=>by
    rw [sortsP] at h
    cases h
    exact ⟨rfl,i,rfl,Nat.le_refl _,hi,by simp⟩
  | n+1,b,i,ks,e,hi,h=>by
    rw [sortsP] at h
    by_cases hne:(B1.getU b i).2.2≠0
    · rw [if_pos hne] at h;cases h
    · rw [if_neg hne] at h
      obtain ⟨i',u,hi',hx,hle,ht⟩:=getU_canon (by simpa using hne)
      have:i'=i:=by omega
      subst this
      rw [hx] at h
      cases hs:sortsP b n ((i'+u:Nat):Int) with
      | none=>rw [hs] at h;cases h
      | some r =>
        obtain ⟨l,e'⟩:=r
        rw [hs] at h
        cases h
        obtain ⟨q1,j,q2,q3,q4,q5⟩:=sorts_canon n b (i'+u) l _ hle hs
        exact ⟨by simp [q1],j,q2,by omega,q4,by rw [q5,ht];simp⟩
theorem rows_canon:∀ (ks:List Nat) (b:List UInt8) (i:Nat) (row:List V) (e:Nat),i<=b.length->rowsP b ks i=some (row,e)->e<=b.length/\b.take e=b.take i++row.flatMap body/\row.map sort=ks/\(∀ v∈row,right v=true)/\∀ v∈row,good v
  | [],b,i,row,e,hi,h=>by
    rw [rowsP] at h
    cases h
    exact ⟨hi,by simp,rfl,by simp,by simp⟩
  | k::ks,b,i,row,e,hi,h=>by
    rw [rowsP] at h
    cases hg:got (b.drop i) k with
    | none=>rw [hg] at h;cases h
    | some x =>
      obtain ⟨v,n⟩:=x
      rw [hg] at h
      dsimp only at h
      obtain ⟨q1,q2,q3,q4,q5⟩:=got_canon hg
      rw [List.length_drop] at q2
      cases hs:rowsP b ks (i+n) with
      | none=>rw [hs] at h;cases h
      | some r =>
        obtain ⟨l,e'⟩:=r
        rw [hs] at h
        cases h
        obtain ⟨p1,p2,p3,p4,p5⟩:=rows_canon ks b (i+n) l _ (by omega) hs
        refine ⟨p1,by rw [p2,take_more q1];simp,by simp [q3,p3],fun w hw=>?_,fun w hw=>?_⟩
        · rcases List.mem_cons.1 hw with rfl|hw
          · exact q4
          · exact p4 w hw
        · rcases List.mem_cons.1 hw with rfl|hw
          · exact q5
          · exact p5 w hw
theorem get_canon {b:List UInt8} {l:List V} (h:getP b=some l):b=rowB l/\l.length<=200/\b.length<=1048576/\(∀ v∈l,right v=true)/\∀ v∈l,good v:=by
  unfold getP at h
  split at h
  · cases h
  · rename_i hc
    simp only [not_or,Classical.not_not] at hc
    obtain ⟨i,u,h0,hx,hle,ht⟩:=getU_canon hc.1
    have:i=0:=by omega
    subst this
    rw [hx] at h
    generalize (B1.getU b 0).1=N at *
    cases hs:sortsP b N ((0+u:Nat):Int) with
    | none=>rw [hs] at h;cases h
    | some r =>
      obtain ⟨ks,e⟩:=r
      rw [hs] at h
      dsimp only at h
      obtain ⟨q1,j,rfl,q3,q4,q5⟩:=sorts_canon N b (0+u) ks e hle hs
      rw [Int.toNat_natCast] at h
      cases hs2:rowsP b ks j with
      | none=>rw [hs2] at h;cases h
      | some r2 =>
        obtain ⟨row,e2⟩:=r2
        rw [hs2] at h
        dsimp only at h
        split at h
        · cases h
        · cases h
          obtain ⟨p1,p2,p3,p4,p5⟩:=rows_canon ks b j l e2 q4 hs2
          have he:e2=b.length:=by omega
          rw [he,List.take_length,q5,ht,List.take_zero,List.nil_append] at p2
          have hN:l.length=N:=by rw [<- q1,<- p3,List.length_map]
          refine ⟨?_,by omega,by omega,p4,p5⟩
          rw [p2]
          unfold rowB sortsB
          rw [hN,<- p3,List.flatMap_map]
end R1
set_option linter.unusedVariables false
set_option linter.unusedSimpArgs false
namespace Go.Proofs.YtaifphjenebgoaaGreatDoor
open Go Go.Sx R1
theorem RightR_spec (v:V) (w:World):CallsV Tryz.prog 58 #[.agg #[.int .u8 v.k,.int .i64 v.n,.string v.s]] w fun r w'=>r=.bool (right v)/\Ext w w':=by
  refine cardindexref02_Right.calls okay ?_
  unfold cardindexref02_Right.W
  intro g w1 f
  have b:=f.blk
  have e:=f.ext
  refine ⟨_,b.cell rfl,brd (fun h0=>?_) (fun h0=>⟨_,b.cell rfl,brd (fun h1=>?_) (fun h1=>⟨_,b.cell rfl,brd (fun h2=>?_) (fun h2=>⟨_,b.cell rfl,brd (fun h3=>?_) (fun h3=>?_)⟩)⟩)⟩)⟩
  · refine ⟨_,b.cell rfl,brd (fun hn=>⟨_,b.cell rfl,?_,e⟩) (fun hn=>⟨?_,e⟩)⟩
    · congr 1;unfold right;rw [if_pos h0];simp [hn]
    · congr 1;unfold right;rw [if_pos h0];simp [hn]
  · refine ⟨_,b.cell rfl,?_,e⟩
    congr 1;unfold right;rw [if_neg h0,if_pos h1];simp
  · refine ⟨_,b.cell rfl,brd (fun hn=>⟨_,b.cell rfl,?_,e⟩) (fun hn=>⟨?_,e⟩)⟩
    · congr 1;unfold right;rw [if_neg h0,if_neg h1,if_pos (.inl h2)];simp only [hn,true_and];rw [decide_eq_decide];omega
    · congr 1;unfold right;rw [if_neg h0,if_neg h1,if_pos (.inl h2)];simp [hn]
  · refine ⟨_,b.cell rfl,brd (fun hn=>⟨_,b.cell rfl,?_,e⟩) (fun hn=>⟨?_,e⟩)⟩
    · congr 1;unfold right;rw [if_neg h0,if_neg h1,if_pos (.inr h3)];simp only [hn,true_and];rw [decide_eq_decide];omega
    · congr 1;unfold right;rw [if_neg h0,if_neg h1,if_pos (.inr h3)];simp [hn]
  · refine ⟨?_,e⟩
    congr 1;unfold right;rw [if_neg h0,if_neg h1,if_neg (by rintro (h|h);exact h2 h;exact h3 h)]
theorem rightR_spec {w:World} {A:Option Addr} {c n:Nat} {l:List V} (hn:n=l.length) (h:Imm KV NoB w A l) (hl:l.length<=maxLen) :
    CallsV Tryz.prog 103 #[.slice A n c] w fun r w'=>r=.int .i64 (rightRow l)/\Ext w w':=by
  subst hn
  refine cardindexref03_right.calls okay ?_
  unfold cardindexref03_right.W
  refine brd (fun h2=>⟨by unfold rightRow;rw [if_pos (by omega)],.refl _ _⟩) (fun h2=>?_)
  refine ⟨fun i u=>∃ j:Nat,j<=l.length/\i=(j:Int)/\(∀ q,q<j->right (l.getD q V0)=true)/\Ext w u,fun i _=>(l.length-i).toNat,⟨0,by omega,rfl,fun q h=>by omega,.refl _ _⟩,?_⟩
  rintro _ u ⟨j,hj,rfl,hall,e⟩
  refine brd (fun hlt=>?_) (fun hge=>?_)
  · obtain ⟨ad,hA,q1,q2,q3⟩:=itemV0 (h.ext KV_pos e) (x:=(j:Int)) (by omega) (by omega)
    refine ⟨ad,hA,⟨by omega,by omega⟩,_,q1,_,q2,_,q3,?_⟩
    rw [Int.toNat_natCast]
    refine (RightR_spec (l.getD j V0) u).mono ?_
    rintro _ u1 ⟨rfl,e1⟩
    refine ⟨_,rfl,brnb (fun hr=>⟨?_,e.trans' e1⟩) (fun hr=>?_)⟩
    · unfold rightRow
      rw [if_neg (by omega),if_neg]
      intro hx
      rw [List.all_eq_true] at hx
      have:=hx _ (getD_mem (by omega:j<l.length))
      rw [hr] at this;cases this
    · rw [wi _ (by omega) (by omega)]
      refine ⟨⟨j+1,by omega,rfl,fun q hq=>?_,e.trans' e1⟩,by dsimp only;omega⟩
      rcases Nat.lt_or_ge q j with h|h
      · exact hall q h
      · obtain rfl:q=j:=by omega
        exact hr
  · obtain rfl:j=l.length:=by omega
    refine ⟨?_,e⟩
    unfold rightRow
    rw [if_neg (by omega),if_pos]
    rw [List.all_eq_true]
    intro v hv
    obtain ⟨q,hq,rfl⟩:=List.getElem_of_mem hv
    have:=hall q hq
    simpa [List.getD,hq] using this
theorem setB {w:World} {A:Option Addr} {c:Nat} {l:List UInt8} (h:OwnB w A c l) {j:Nat} (hj:j<l.length) :
    ∃ g,A=some ⟨g,0,none⟩/\w.cell? ((⟨g,0,none⟩:Addr).add (j*1))=some (.int .u8 ((l.getD j 0).toNat:Int)) /\
      ∀ (b:UInt8) (v:Int),v=(b.toNat:Int)->stOK ((⟨g,0,none⟩:Addr).add (j*1)) 0 [.int .u8 v] w/\∀ w',w'=setAll ((⟨g,0,none⟩:Addr).add (j*1)) 0 [.int .u8 v] w->OwnB w' A c (l.set j b)/\Fr (ownB A) w w':=by
  obtain ⟨g,hA,h1,h2,h3⟩:=Own.at_ h (j:=j) (by omega)
  obtain ⟨g',hA',hc⟩:=Own.cells h (j:=j) (v:=u8 (l.getD j 0)) (by rw [List.getElem?_map];simp [List.getD,hj])
  rw [hA] at hA';cases hA'
  refine ⟨g,hA,by rw [add_new,Nat.mul_one,Nat.zero_add];exact hc,?_⟩
  rintro b v rfl
  have ha:((⟨g,0,none⟩:Addr).add (j*1)).add 0=⟨g,j,none⟩:=by rw [add_new,add_new];simp
  refine ⟨?_,?_⟩
  · show (w.cell? (((⟨g,0,none⟩:Addr).add (j*1)).add 0)).isSome=true/\w.frozen? (((⟨g,0,none⟩:Addr).add (j*1)).add 0)=false
    rw [ha];exact ⟨h1,h2⟩
  · rintro w' rfl
    show OwnB (w.setCell (((⟨g,0,none⟩:Addr).add (j*1)).add 0) (.int .u8 (b.toNat:Int))) A c (l.set j b)/\Fr (ownB A) w (w.setCell (((⟨g,0,none⟩:Addr).add (j*1)).add 0) (.int .u8 (b.toNat:Int)))
    rw [ha]
    obtain ⟨q1,q2⟩:=h3 (u8 b)
    refine ⟨?_,q2⟩
    unfold OwnB
    rw [List.length_set,List.map_set]
    exact q1
theorem wu_mod (n:Int):IntKind.u64.wrap n=((n % 18446744073709551616).toNat:Int):=by
  have e:IntKind.u64.wrap n=n % 18446744073709551616:=by simp [IntKind.wrap,IntKind.signed,IntKind.bits]
  rw [e];omega
theorem number_spec (w:World) (n:Int) (k:Nat) (hk:k<=8) :
    CallsV Tryz.prog 106 #[.int .i64 n,.int .i64 (k:Int)] w fun r w'=>MadeB w (hi (n % 18446744073709551616).toNat k) r w':=by
  refine cardindexref03_number.calls okay ?_
  unfold cardindexref03_number.W
  rw [wu_mod n]
  generalize (n % 18446744073709551616).toNat=m
  obtain ⟨w1,hr,ho,he⟩:=make_own slB rfl w k (by simp [maxLen];omega) (by omega) .i64 .i64
  refine ⟨_,_,_,_,hr,?_⟩
  have ho':OwnB w1 (some ⟨w.heap.size,0,none⟩) k (List.replicate k 0):=by
    unfold OwnB;rw [List.length_replicate,List.map_replicate];exact ho
  refine ⟨fun i u=>∃ j:Nat,j<=k/\i=(j:Int)/\OwnB u (some ⟨w.heap.size,0,none⟩) k (List.replicate (k-j) 0++hi m j)/\Ext w u,fun i _=>(k-i).toNat,⟨0,by omega,rfl,by simpa [hi] using ho',he⟩,?_⟩
  rintro _ u ⟨j,hj,rfl,hoj,hu⟩
  refine brd (fun hlt=>?_) (fun hge=>?_)
  · have hlen:(List.replicate (k-j) (0:UInt8)++hi m j).length=k:=by rw [List.length_append,List.length_replicate,hi_length];omega
    have hi1:IntKind.i64.wrap (IntKind.i64.wrap ((k:Int)-1)-(j:Int))=((k-1-j:Nat):Int):=by
      rw [wi ((k:Int)-1) (by omega) (by omega),wi _ (by omega) (by omega)];omega
    have h8:IntKind.u64.wrap (IntKind.i64.wrap (8*(j:Int)))=((8*j:Nat):Int):=by
      rw [wi _ (by omega) (by omega),wu _ (by omega) (by omega)];omega
    rw [hi1,h8]
    simp only [Int.toNat_natCast]
    have hv:IntKind.u8.wrap (Int.fdiv (m:Int) (2 ^ min (8*j) 64))=(((m / 256 ^ j % 256).toUInt8).toNat:Int):=by
      rw [show min (8*j) 64=8*j by omega,show ((2:Int) ^ (8*j))=((256 ^ j:Nat):Int) by rw [show (256:Nat)=2 ^ 8 from rfl,<- Nat.pow_mul];simp,Int.fdiv_eq_ediv_of_nonneg _ (Int.natCast_nonneg _),<- Int.natCast_ediv,IntKind.wrap_u8,B1.toUInt8_toNat (Nat.mod_lt _ (by decide))]
      rfl
    obtain ⟨g,hA,_,hset⟩:=setB hoj (j:=k-1-j) (by omega)
    cases hA
    obtain ⟨hok,hs⟩:=hset _ _ hv
    refine ⟨by omega,_,rfl,⟨by omega,by omega⟩,hok,?_⟩
    intro w' hw'
    obtain ⟨o2,f2⟩:=hs w' hw'
    rw [wi _ (by omega) (by omega)]
    refine ⟨⟨j+1,by omega,rfl,?_,hu.trans f2 (fun _ _ h=>h) (fun q hq ho=>by rw [ownB_some] at ho;omega)⟩,by omega⟩
    have e:(List.replicate (k-j) (0:UInt8)++hi m j).set (k-1-j) (m / 256 ^ j % 256).toUInt8=List.replicate (k-(j+1)) 0++hi m (j+1):=by
      have:List.replicate (k-j) (0:UInt8)=List.replicate (k-(j+1)) 0++[0]:=by
        rw [show k-j=(k-(j+1))+1 by omega,List.replicate_succ']
      rw [this,List.append_assoc,List.set_append_right _ _ (by rw [List.length_replicate];omega),List.length_replicate,show k-1-j-(k-(j+1))=0 by omega]
      rfl
    rw [<- e];exact o2
  · obtain rfl:j=k:=by omega
    rw [Nat.sub_self,List.replicate_zero,List.nil_append] at hoj
    exact ⟨_,j,by rw [hi_length],hoj,hu,New.self w 0 none⟩
theorem wideR_spec (w:World) (n:Int) (h1 : -9223372036854775808<=n) (h2:n<=9223372036854775807) :
    CallsV Tryz.prog 105 #[.int .i64 n] w fun v w'=>v=.int .i64 (wide n:Nat)/\w'=w:=by
  refine cardindexref03_wide.calls okay ?_
  unfold cardindexref03_wide.W
  have hE:∀ k:Nat,1<=k->k<=7->0<=IntKind.u64.wrap (IntKind.i64.wrap (IntKind.i64.wrap (8*(k:Int))-1)) /\
      IntKind.i64.wrap (1*2 ^ min (Int.toNat (IntKind.u64.wrap (IntKind.i64.wrap (IntKind.i64.wrap (8*(k:Int))-1)))) 64)=((2 ^ (8*k-1):Nat):Int) /\
      IntKind.i64.wrap (0-((2 ^ (8*k-1):Nat):Int))=-((2 ^ (8*k-1):Nat):Int):=by
    intro k k1 k7
    have:k=1\/k=2\/k=3\/k=4\/k=5\/k=6\/k=7:=by omega
    rcases this with rfl|rfl|rfl|rfl|rfl|rfl|rfl<;>decide +kernel
  refine ⟨fun x u=>∃ k:Nat,1<=k/\k<=8/\x=(k:Int)/\wide n=wideFrom n (8-k) k/\u=w,fun x _=>(9-x).toNat,⟨1,by omega,by omega,rfl,rfl,rfl⟩,?_⟩
  rintro _ u ⟨k,k1,k8,rfl,hw,rfl⟩
  refine brd (fun hlt=>?_) (fun hge=>?_)
  · obtain ⟨a1,a2,a3⟩:=hE k k1 (by omega)
    rw [a2,a3]
    refine ⟨a1,?_⟩
    have hs:wideFrom n (8-k) k=if fits n k then k else wideFrom n (8-(k+1)) (k+1):=by
      rw [show 8-k=(8-(k+1))+1 by omega];rfl
    have next:fits n k=false->(∃ k':Nat,1<=k'/\k'<=8/\IntKind.i64.wrap ((k:Int)+1)=(k':Int)/\wide n=wideFrom n (8-k') k'/\u=u)/\(9-IntKind.i64.wrap ((k:Int)+1)).toNat<(9-(k:Int)).toNat:=by
      intro hf
      rw [wi _ (by omega) (by omega)]
      exact ⟨⟨k+1,by omega,by omega,rfl,by rw [hw,hs,hf,if_neg (by decide)],rfl⟩,by omega⟩
    refine brd (fun hl=>brd (fun hr=>?_) (fun hr=>next ?_)) (fun hl=>next ?_)
    · refine ⟨?_,rfl⟩
      have:fits n k=true:=decide_eq_true ⟨by omega,hr⟩
      rw [hw,hs,this,if_pos rfl]
    · exact decide_eq_false (fun h=>hr h.2)
    · exact decide_eq_false (fun h=>hl h.1)
  · obtain rfl:k=8:=by omega
    refine ⟨?_,rfl⟩
    rw [hw];rfl
end Go.Proofs.YtaifphjenebgoaaGreatDoor
set_option linter.unusedVariables false
set_option linter.unusedSimpArgs false
namespace Go.Proofs.YtaifphjenebgoaaGreatDoor
open Go Go.Sx R1 K15
def okTo {α:Type} (f : α->Bool) (l:List α) (j:Nat):Prop:=(l.take j).any f=false
theorem okTo.zero {α:Type} (f : α->Bool) (l:List α):okTo f l 0:=rfl
theorem okTo.step {α:Type} {f : α->Bool} {l:List α} {j:Nat} (h:okTo f l j) (hj:j<l.length) (hf:f l[j]=false):okTo f l (j+1):=by
  unfold okTo at *
  rw [List.take_succ_eq_append_getElem hj,List.any_append,h]
  simp [hf]
theorem okTo.all {α:Type} {f : α->Bool} {l:List α} {j:Nat} (h:okTo f l j) (hj : ¬ (j:Int)<l.length):l.any f=false:=by
  unfold okTo at h
  rwa [List.take_of_length_le (by omega)] at h
theorem any_of {α:Type} {f : α->Bool} {l:List α} {j:Nat} (hj:j<l.length) (hf:f l[j]=true):l.any f=true:=List.any_eq_true.2 ⟨_,List.getElem_mem hj,hf⟩
theorem okFrom_of (p:Prog):∀ (l:List Ins) (s:Nat),(∀ (t:Nat) (h:t<l.length),okAt p (s+t) l[t]=true)->okFrom p s l=true
  | [],_,_=>rfl
  | i::l,s,h=>by
    rw [okFrom,Bool.and_eq_true]
    refine ⟨h 0 (by simp),okFrom_of p l (s+1) (fun t ht=>?_)⟩
    have:=h (t+1) (by simpa using ht)
    rw [show s+1+t=s+(t+1) by omega]
    simpa using this
section
variable {p:Prog} {a:PAd}
set_option maxRecDepth 20000 in
set_option maxHeartbeats 4000000 in
theorem RCheck_spec {w:World} (hp:PIm w p a) :
    CallsV Tryz.prog 20 #[pagg p a] w fun r w'=>r=.int .i64 (if checkP p then 0 else 140)/\Ext w w':=by
  refine cardindexref15_Check.calls okay ?_
  unfold cardindexref15_Check.W
  have no:∀ u,(partsP p=true->False)->Ext w u->(Value.int .i64 140=.int .i64 (if checkP p then 0 else 140)/\Ext w u):=fun u h e=>by
    have:checkP p=false:=by
      cases hc:checkP p with
      | false=>rfl
      | true=>exact absurd (checked hc).parts h
    exact ⟨by rw [this];rfl,e⟩
  have no2:∀ u,(K15.Checked p->False)->Ext w u->(Value.int .i64 140=.int .i64 (if checkP p then 0 else 140)/\Ext w u):=fun u h e=>by
    have:checkP p=false:=by
      cases hc:checkP p with
      | false=>rfl
      | true=>exact absurd (checked hc) h
    exact ⟨by rw [this];rfl,e⟩
  have hP:partsP p=true->within p.ver 1 1099511627776=true/\within p.regs 1 250=true/\within p.binds 0 1000=true/\p.names.length<=200/\p.consts.length<=1000/\p.curs.length<=12/\p.sorts.length<=6/\p.tots.length<=60 /\
      p.names.any longN=false/\p.consts.any wrongV=false/\p.curs.any badCur=false/\p.sorts.any badSrt=false/\p.tots.any badTot=false:=fun h=>by
    simp only [partsP,Bool.and_eq_true,decide_eq_true_eq,Bool.not_eq_true'] at h
    exact h
  intro g w1 f
  have b:=f.blk
  have e:=f.ext
  clear f
  have win:∀ {n lo hi:Int},inB n lo (hi+1)=false->within n lo hi=true->False:=fun {n lo hi} h h'=>by
    unfold inB at h;unfold within at h'
    simp only [Bool.and_eq_true,decide_eq_true_eq] at h'
    simp at h;omega
  have wot:∀ {n lo hi:Int},inB n lo (hi+1)=true->within n lo hi=true:=fun {n lo hi} h=>by
    unfold inB at h;unfold within
    simp only [Bool.and_eq_true,decide_eq_true_eq] at h ⊢
    omega
  repeat (first|refine ⟨_,Blk.cell (b) (by rfl),?_⟩|refine ⟨_,_,_,Blk.cell (b) (by rfl),?_⟩)
  refine (in_spec _ _ _ _).mono ?_
  rintro _ w2 ⟨rfl,k⟩
  have b:=b.ext k
  have e:=e.trans' k
  refine ⟨_,rfl,brnb (fun h1=>no _ (fun h=>win (hi:=1099511627776) h1 (hP h).1) e) (fun h1=>?_)⟩
  repeat (first|refine ⟨_,Blk.cell (b) (by rfl),?_⟩|refine ⟨_,_,_,Blk.cell (b) (by rfl),?_⟩)
  refine (in_spec _ _ _ _).mono ?_
  rintro _ w3 ⟨rfl,k⟩
  have b:=b.ext k
  have e:=e.trans' k
  refine ⟨_,rfl,brnb (fun h2=>no _ (fun h=>win (hi:=250) h2 (hP h).2.1) e) (fun h2=>?_)⟩
  repeat (first|refine ⟨_,Blk.cell (b) (by rfl),?_⟩|refine ⟨_,_,_,Blk.cell (b) (by rfl),?_⟩)
  refine (in_spec _ _ _ _).mono ?_
  rintro _ w4 ⟨rfl,k⟩
  have b:=b.ext k
  have e:=e.trans' k
  refine ⟨_,rfl,brnb (fun h3=>no _ (fun h=>win (hi:=1000) h3 (hP h).2.2.1) e) (fun h3=>?_)⟩
  repeat (first|refine ⟨_,Blk.cell (b) (by rfl),?_⟩|refine ⟨_,_,_,Blk.cell (b) (by rfl),?_⟩)
  refine brd (fun h4=>no _ (fun h=>by have:=(hP h).2.2.2.1;omega) e) (fun h4=>?_)
  repeat (first|refine ⟨_,Blk.cell (b) (by rfl),?_⟩|refine ⟨_,_,_,Blk.cell (b) (by rfl),?_⟩)
  refine brd (fun h5=>no _ (fun h=>by have:=(hP h).2.2.2.2.1;omega) e) (fun h5=>?_)
  repeat (first|refine ⟨_,Blk.cell (b) (by rfl),?_⟩|refine ⟨_,_,_,Blk.cell (b) (by rfl),?_⟩)
  refine brd (fun h6=>no _ (fun h=>by have:=(hP h).2.2.2.2.2.1;omega) e) (fun h6=>?_)
  repeat (first|refine ⟨_,Blk.cell (b) (by rfl),?_⟩|refine ⟨_,_,_,Blk.cell (b) (by rfl),?_⟩)
  refine brd (fun h7=>no _ (fun h=>by have:=(hP h).2.2.2.2.2.2.1;omega) e) (fun h7=>?_)
  repeat (first|refine ⟨_,Blk.cell (b) (by rfl),?_⟩|refine ⟨_,_,_,Blk.cell (b) (by rfl),?_⟩)
  refine brd (fun h8=>no _ (fun h=>by have:=(hP h).2.2.2.2.2.2.2.1;omega) e) (fun h8=>?_)
  repeat (first|refine ⟨_,Blk.cell (b) (by rfl),?_⟩|refine ⟨_,_,_,Blk.cell (b) (by rfl),?_⟩)
  refine brd (fun h9=>no2 _ (fun h=>by have:=h.lo;omega) e) (fun h9=>?_)
  repeat (first|refine ⟨_,Blk.cell (b) (by rfl),?_⟩|refine ⟨_,_,_,Blk.cell (b) (by rfl),?_⟩)
  refine brd (fun h10=>no2 _ (fun h=>by have:=h.hi;omega) e) (fun h10=>?_)
  -- the names
  refine ⟨fun x u=>∃ j:Nat,x=(j:Int)/\j<=p.names.length/\okTo longN p.names j/\Ext w4 u,fun x _=>((p.names.length:Int)-x).toNat,⟨0,rfl,Nat.zero_le _,okTo.zero _ _,.refl _ _⟩,?_⟩
  rintro _ u ⟨j,rfl,hj,ho,k⟩
  have b:=b.ext k
  have e:=e.trans' k
  repeat (first|refine ⟨_,Blk.cell (b) (by rfl),?_⟩|refine ⟨_,_,_,Blk.cell (b) (by rfl),?_⟩)
  refine brd (fun hlt=>?_) (fun hge=>?_)
  · repeat (first|refine ⟨_,Blk.cell (b) (by rfl),?_⟩|refine ⟨_,_,_,Blk.cell (b) (by rfl),?_⟩)
    have hjl:j<p.names.length:=by omega
    obtain ⟨ad,hA,cs,hrep,hc⟩:=(hp.names.ext KStr_pos e).get1 hjl
    obtain rfl:cs=[.string p.names[j]]:=hrep
    refine ⟨ad,hA,⟨by omega,by omega⟩,_,hc 0 _ rfl,?_⟩
    refine brd (fun hb=>no _ (fun h=>?_) e) (fun hb=>?_)
    · have:=any_of (f:=longN) hjl (decide_eq_true (by omega))
      rw [(hP h).2.2.2.2.2.2.2.2.1] at this;cases this
    · rw [wi ((j:Int)+1) (by omega) (by omega)]
      exact ⟨⟨j+1,rfl,hjl,ho.step hjl (decide_eq_false (by omega)),k⟩,by dsimp only;omega⟩
  have h11:=ho.all hge
  clear ho hge hj k
  -- the constants
  refine ⟨fun x v=>∃ j:Nat,x=(j:Int)/\j<=p.consts.length/\okTo wrongV p.consts j/\Ext u v,fun x _=>((p.consts.length:Int)-x).toNat,⟨0,rfl,Nat.zero_le _,okTo.zero _ _,.refl _ _⟩,?_⟩
  rintro _ u2 ⟨j,rfl,hj,ho,k⟩
  have b:=b.ext k
  have e:=e.trans' k
  repeat (first|refine ⟨_,Blk.cell (b) (by rfl),?_⟩|refine ⟨_,_,_,Blk.cell (b) (by rfl),?_⟩)
  refine brd (fun hlt=>?_) (fun hge=>?_)
  · repeat (first|refine ⟨_,Blk.cell (b) (by rfl),?_⟩|refine ⟨_,_,_,Blk.cell (b) (by rfl),?_⟩)
    have hjl:j<p.consts.length:=by omega
    obtain ⟨ad,hA,cs,hrep,hc⟩:=at1 (hp.consts.ext KV_pos e) hjl
    obtain rfl:cs=vc p.consts[j]:=hrep
    refine ⟨ad,hA,⟨by omega,by omega⟩,_,hc u2 (.refl _ _) 0 _ rfl,_,hc u2 (.refl _ _) 1 _ rfl,_,hc u2 (.refl _ _) 2 _ rfl,?_⟩
    refine (RightR_spec p.consts[j] u2).mono ?_
    rintro _ u3 ⟨rfl,k3⟩
    refine ⟨_,rfl,brnb (fun hb=>no _ (fun h=>?_) (e.trans' k3)) (fun hb=>?_)⟩
    · have:=any_of (f:=wrongV) hjl (by unfold wrongV;rw [hb];rfl)
      rw [(hP h).2.2.2.2.2.2.2.2.2.1] at this;cases this
    · rw [wi ((j:Int)+1) (by omega) (by omega)]
      exact ⟨⟨j+1,rfl,hjl,ho.step hjl (by unfold wrongV;rw [hb];rfl),k.trans' k3⟩,by dsimp only;omega⟩
  have h12:=ho.all hge
  clear ho hge hj k
  -- the cursors
  refine ⟨fun x v=>∃ j:Nat,x=(j:Int)/\j<=p.curs.length/\okTo badCur p.curs j/\Ext u2 v,fun x _=>((p.curs.length:Int)-x).toNat,⟨0,rfl,Nat.zero_le _,okTo.zero _ _,.refl _ _⟩,?_⟩
  rintro _ u3 ⟨j,rfl,hj,ho,k⟩
  have b:=b.ext k
  have e:=e.trans' k
  repeat (first|refine ⟨_,Blk.cell (b) (by rfl),?_⟩|refine ⟨_,_,_,Blk.cell (b) (by rfl),?_⟩)
  refine brd (fun hlt=>?_) (fun hge=>?_)
  · repeat (first|refine ⟨_,Blk.cell (b) (by rfl),?_⟩|refine ⟨_,_,_,Blk.cell (b) (by rfl),?_⟩)
    have hjl:j<p.curs.length:=by omega
    obtain ⟨ad,hA,cs,hrep,hc⟩:=at1 (hp.curs.ext KCur_pos e) hjl
    obtain rfl:cs=[.string p.curs[j].name,.bool p.curs[j].ix,.bool p.curs[j].wr]:=hrep
    refine ⟨ad,hA,⟨by omega,by omega⟩,_,hc u3 (.refl _ _) 0 _ rfl,_,hc u3 (.refl _ _) 1 _ rfl,_,hc u3 (.refl _ _) 2 _ rfl,?_⟩
    intro g5 u4 f5
    refine ⟨f5.blk.stOK [.string p.curs[j].name,.bool p.curs[j].ix,.bool p.curs[j].wr] 0 (by simp),fun u5 hu5=>?_⟩
    obtain ⟨b5,q5⟩:=set0 f5.blk hu5 rfl
    have y5:=f5.ge
    have k5:Ext u3 u5:=f5.ext.trans q5 (fun _ _ h=>h) (fun k hk e=>by have e:k=g5:=e;omega)
    have e5:=e.trans' k5
    have bad:badCur p.curs[j]=true->(Value.int .i64 140=.int .i64 (if checkP p then 0 else 140)/\Ext w u5):=fun hb=>no _ (fun h=>by
      have:=any_of hjl hb
      rw [(hP h).2.2.2.2.2.2.2.2.2.2.1] at this;cases this) e5
    have good:badCur p.curs[j]=false->(∃ j':Nat,IntKind.i64.wrap ((j:Int)+1)=(j':Int)/\j'<=p.curs.length/\okTo badCur p.curs j'/\Ext u2 u5)/\((p.curs.length:Int)-IntKind.i64.wrap ((j:Int)+1)).toNat<((p.curs.length:Int)-(j:Int)).toNat:=fun hb=>by
      rw [wi ((j:Int)+1) (by omega) (by omega)]
      exact ⟨⟨j+1,rfl,hjl,ho.step hjl hb,k.trans' k5⟩,by omega⟩
    refine ⟨_,b5.cell rfl,?_⟩
    refine brd (fun hb=>bad (by unfold badCur;rw [show decide (p.curs[j].name.size=0)=true from decide_eq_true (by omega)];rfl)) (fun n1=>?_)
    refine ⟨_,b5.cell rfl,?_⟩
    refine brd (fun hb=>bad (by unfold badCur;rw [show decide (200<p.curs[j].name.size)=true from decide_eq_true (by omega)];simp)) (fun n2=>?_)
    have hr:badCur p.curs[j]=(p.curs[j].ix && p.curs[j].wr):=by
      unfold badCur
      rw [show decide (p.curs[j].name.size=0)=false from decide_eq_false (by omega),show decide (200<p.curs[j].name.size)=false from decide_eq_false (by omega)]
      rfl
    refine ⟨_,b5.cell rfl,?_⟩
    refine br (fun hi=>⟨_,b5.cell rfl,br (fun hw=>bad (by rw [hr,hi,hw];rfl)) (fun hw=>good (by rw [hr,hi,hw];rfl))⟩) (fun hi=>good (by rw [hr,hi];rfl))
  have h13:=ho.all hge
  clear ho hge hj k
  -- the sorters
  refine ⟨fun x v=>∃ j:Nat,x=(j:Int)/\j<=p.sorts.length/\okTo badSrt p.sorts j/\Ext u3 v,fun x _=>((p.sorts.length:Int)-x).toNat,⟨0,rfl,Nat.zero_le _,okTo.zero _ _,.refl _ _⟩,?_⟩
  rintro _ u4 ⟨j,rfl,hj,ho,k⟩
  have b:=b.ext k
  have e:=e.trans' k
  repeat (first|refine ⟨_,Blk.cell (b) (by rfl),?_⟩|refine ⟨_,_,_,Blk.cell (b) (by rfl),?_⟩)
  refine brd (fun hlt=>?_) (fun hge=>?_)
  · repeat (first|refine ⟨_,Blk.cell (b) (by rfl),?_⟩|refine ⟨_,_,_,Blk.cell (b) (by rfl),?_⟩)
    have hjl:j<p.sorts.length:=by omega
    obtain ⟨ad,hA,cs,hrep,hc⟩:=at1 (hp.sorts.ext KSrt_pos e) hjl
    obtain ⟨B,d,rfl,_,_⟩:=hrep
    refine ⟨ad,hA,⟨by omega,by omega⟩,_,_,_,hc u4 (.refl _ _) 0 _ rfl,?_⟩
    refine brd (fun hb=>no _ (fun h=>?_) e) (fun n1=>?_)
    · have:=any_of (f:=badSrt) hjl (by unfold badSrt;rw [show decide (30<p.sorts[j].desc.length)=true from decide_eq_true (by omega)];rfl)
      rw [(hP h).2.2.2.2.2.2.2.2.2.2.2.1] at this;cases this
    repeat (first|refine ⟨_,Blk.cell (b) (by rfl),?_⟩|refine ⟨_,_,_,Blk.cell (b) (by rfl),?_⟩)
    refine ⟨ad,hA,⟨by omega,by omega⟩,_,hc u4 (.refl _ _) 1 _ rfl,?_⟩
    refine (in_spec _ _ _ _).mono ?_
    rintro _ u5 ⟨rfl,k5⟩
    refine ⟨_,rfl,brnb (fun hb=>no _ (fun h=>?_) (e.trans' k5)) (fun hb=>?_)⟩
    · have hx:badSrt p.sorts[j]=false:=by
        have h:=(hP h).2.2.2.2.2.2.2.2.2.2.2.1
        rw [List.any_eq_false] at h
        have:=h _ (List.getElem_mem hjl)
        simpa using this
      unfold badSrt at hx
      simp only [Bool.or_eq_false_iff,Bool.not_eq_false'] at hx
      exact win (hi:=60) hb hx.2
    · rw [wi ((j:Int)+1) (by omega) (by omega)]
      refine ⟨⟨j+1,rfl,hjl,ho.step hjl ?_,k.trans' k5⟩,by dsimp only;omega⟩
      unfold badSrt
      rw [wot (hi:=60) hb,show decide (30<p.sorts[j].desc.length)=false from decide_eq_false (by omega)];rfl
  have h14:=ho.all hge
  clear ho hge hj k
  -- the totals
  refine ⟨fun x v=>∃ j:Nat,x=(j:Int)/\j<=p.tots.length/\okTo badTot p.tots j/\Ext u4 v,fun x _=>((p.tots.length:Int)-x).toNat,⟨0,rfl,Nat.zero_le _,okTo.zero _ _,.refl _ _⟩,?_⟩
  rintro _ u5 ⟨j,rfl,hj,ho,k⟩
  have b:=b.ext k
  have e:=e.trans' k
  repeat (first|refine ⟨_,Blk.cell (b) (by rfl),?_⟩|refine ⟨_,_,_,Blk.cell (b) (by rfl),?_⟩)
  refine brd (fun hlt=>?_) (fun hge=>?_)
  · have hjl:j<p.tots.length:=by omega
    obtain ⟨ad,hA,cs,hrep,hc⟩:=at1 (hp.tots.ext KTot_pos e) hjl
    obtain rfl:cs=[.string p.tots[j].fn,.bool p.tots[j].dist]:=hrep
    refine ⟨fun v=>Ext u5 v,Fr.drew NoB u5,_,_,_,fun v k=>(b.ext k).cell rfl,ad,hA,⟨by omega,by omega⟩,_,fun v k=>hc v k 0 _ rfl,_,_,_,fun v k=>(b.ext k).cell rfl,ad,hA,⟨by omega,by omega⟩,_,fun v k=>hc v k 1 _ rfl,?_⟩
    refine (RNew_spec u5.drew (sb p.tots[j].fn) p.tots[j].dist).mono ?_
    rintro _ _ ⟨rfl,rfl⟩
    have kd:Ext u5 u5.drew:=Fr.drew NoB u5
    refine ⟨_,rfl,kd,brn (fun hb=>no _ (fun h=>?_) (e.trans' kd)) (fun hb=>?_)⟩
    · have:=any_of (f:=badTot) hjl (by unfold badTot;simp [hb])
      rw [(hP h).2.2.2.2.2.2.2.2.2.2.2.2] at this;cases this
    · rw [wi ((j:Int)+1) (by omega) (by omega)]
      exact ⟨⟨j+1,rfl,hjl,ho.step hjl (by unfold badTot;simp [hb]),k.trans' kd⟩,by dsimp only;omega⟩
  have h15:=ho.all hge
  clear ho hge hj k
  have hregs:=wot (hi:=250) h2
  have parts:partsP p=true:=by
    unfold partsP
    rw [wot (hi:=1099511627776) h1,hregs,wot (hi:=1000) h3,h11,h12,h13,h14,h15]
    simp;omega
  have hr : 0<=p.regs/\p.regs<=250:=by unfold within at hregs;simp at hregs;omega
  have hs:∀ n,(srtAt p n).cols<=60:=fun n=>by
    unfold srtAt
    rw [List.getD_eq_getElem?_getD]
    by_cases hn:n.toNat<p.sorts.length
    · rw [List.getElem?_eq_getElem hn]
      rw [List.any_eq_false] at h14
      have:=h14 _ (List.getElem_mem hn)
      unfold badSrt within at this
      simp at this
      simp;omega
    · rw [List.getElem?_eq_none (by omega)]
      show (0:Int)<=60
      decide
  -- the code
  refine ⟨fun x v=>∃ j:Nat,x=(j:Int)/\j<=p.code.length/\(∀ k (hk:k<p.code.length),k<j->okAt p k p.code[k]=true)/\Ext u5 v,fun x _=>((p.code.length:Int)-x).toNat,⟨0,rfl,Nat.zero_le _,fun k _ h=>by omega,.refl _ _⟩,?_⟩
  rintro _ u6 ⟨j,rfl,hj,ho,k⟩
  have b:=b.ext k
  have e:=e.trans' k
  repeat (first|refine ⟨_,Blk.cell (b) (by rfl),?_⟩|refine ⟨_,_,_,Blk.cell (b) (by rfl),?_⟩)
  refine brd (fun hlt=>?_) (fun hge=>?_)
  · repeat (first|refine ⟨_,Blk.cell (b) (by rfl),?_⟩|refine ⟨_,_,_,Blk.cell (b) (by rfl),?_⟩)
    have hjl:j<p.code.length:=by omega
    refine (RInstr_spec (hp.ext e) hr hs hjl).mono ?_
    rintro _ u7 ⟨rfl,k7⟩
    refine ⟨_,rfl,brnb (fun hb=>no2 _ (fun h=>?_) (e.trans' k7)) (fun hb=>?_)⟩
    · rw [h.at_ j hjl] at hb;cases hb
    · rw [wi ((j:Int)+1) (by omega) (by omega)]
      refine ⟨⟨j+1,rfl,hjl,fun k hk hkj=>?_,k.trans' k7⟩,by dsimp only;omega⟩
      rcases Nat.lt_or_ge k j with h|h
      · exact ho k hk h
      · obtain rfl:k=j:=by omega
        exact hb
  repeat (first|refine ⟨_,Blk.cell (b) (by rfl),?_⟩|refine ⟨_,_,_,Blk.cell (b) (by rfl),?_⟩)
  have hl:p.code.length-1<p.code.length:=by omega
  obtain ⟨ad,hA,cs,hrep,hc⟩:=at1 (hp.code.ext KIns_pos e) hl
  have hrep:cs=[.int .u8 p.code[p.code.length-1].op,.int .i64 p.code[p.code.length-1].a,.int .i64 p.code[p.code.length-1].b,.int .i64 p.code[p.code.length-1].c,.int .i64 p.code[p.code.length-1].d]:=hrep
  subst hrep
  rw [wi ((p.code.length:Int)-1) (by omega) (by omega),show ((p.code.length:Int)-1).toNat=p.code.length-1 by omega]
  have hg:p.code.getD (p.code.length-1) I0=p.code[p.code.length-1]:=by rw [List.getD_eq_getElem?_getD,List.getElem?_eq_getElem hl];rfl
  refine ⟨ad,hA,⟨by omega,by omega⟩,_,hc u6 (.refl _ _) 0 _ rfl,brn (fun hb=>no2 _ (fun h=>hb ?_) e) (fun hb=>⟨?_,e⟩)⟩
  · rw [<- hg];exact h.last
  · have:checkP p=true:=by
      unfold checkP
      rw [parts,okFrom_of p p.code 0 (fun t ht=>by rw [Nat.zero_add];exact ho t ht (by omega)),hg]
      simp;omega
    rw [this];rfl
end
end Go.Proofs.YtaifphjenebgoaaGreatDoor
set_option linter.unusedVariables false
set_option linter.unusedSimpArgs false
namespace R1
open Go.Sx Go.Lib
def Differ (p q:List UInt8) (s:Int):Prop:=∃ c x y p' q',p=c++x::p'/\q=c++y::q'/\x≠y/\s=if x<y then -1 else 1
theorem Differ.cons {p q:List UInt8} {s:Int} (c:List UInt8) (h:Differ p q s):Differ (c++p) (c++q) s:=by
  obtain ⟨e,x,y,p',q',rfl,rfl,hne,hs⟩:=h
  exact ⟨c++e,x,y,p',q',by simp,by simp,hne,hs⟩
theorem Differ.more {p q:List UInt8} {s:Int} (r t:List UInt8) (h:Differ p q s):Differ (p++r) (q++t) s:=by
  obtain ⟨e,x,y,p',q',rfl,rfl,hne,hs⟩:=h
  exact ⟨e,x,y,p'++r,q'++t,by simp,by simp,hne,hs⟩
theorem lt_asymm8 {x y:UInt8} (h:x<y) : ¬ y<x:=fun h'=>by
  rw [UInt8.lt_iff_toNat_lt] at h h';omega
theorem lt_of_ne8 {x y:UInt8} (h:x≠y) (h' : ¬ x<y):y<x:=by
  rw [UInt8.lt_iff_toNat_lt] at h' ⊢
  have:x.toNat≠y.toNat:=fun e=>h (UInt8.toNat_inj.1 e)
  omega
theorem cmp_same (c p q:List UInt8):compareBytes (c++p) (c++q)=compareBytes p q:=by
  induction c with
  | nil=>rfl
  | cons x c ih =>
    have h : ¬ x<x:=fun h=>lt_asymm8 h h
    show compareBytes (x::(c++p)) (x::(c++q))=_
    rw [compareBytes,if_neg h,if_neg h,ih]
theorem Differ.cmp {p q:List UInt8} {s:Int} (h:Differ p q s):compareBytes p q=s:=by
  obtain ⟨e,x,y,p',q',rfl,rfl,hne,rfl⟩:=h
  rw [cmp_same,compareBytes]
  by_cases hlt:x<y
  · rw [if_pos hlt,if_pos hlt]
  · rw [if_neg hlt,if_neg hlt,if_pos (lt_of_ne8 hne hlt)]
theorem right_kind {v:V} (h:right v=true):v.k=0\/v.k=1\/v.k=2\/v.k=3:=by
  unfold right at h
  split at h
  · exact .inl ‹_›
  · split at h
    · exact .inr (.inl ‹_›)
    · split at h
      · rename_i h';exact .inr (.inr h')
      · cases h
end R1
set_option linter.unusedVariables false
set_option linter.unusedSimpArgs false
namespace Go.Proofs.YtaifphjenebgoaaGreatDoor
open Go Go.Sx R1
theorem body_int {v:V} (hr:right v=true) (h1:v.k=1):body v=hi (v.n % 18446744073709551616).toNat (wide v.n):=by
  have hv:=right1 hr h1
  unfold body;rw [if_pos h1]
  have:sb v.s=[]:=by rw [hv];rfl
  rw [this,List.append_nil]
theorem body_str {v:V} (h1:v.k≠1):body v=sb v.s:=by unfold body;rw [if_neg h1];rfl
theorem PutR_spec {w:World} {A:Option Addr} {c n:Nat} {l:List V} (hn:n=l.length) (h:Imm KV NoB w A l) (hl:l.length<=maxLen) (hg:∀ v∈l,good v) :
    CallsV Tryz.prog 51 #[.slice A n c] w fun r w'=>Tells w (putR l) r w':=by
  subst hn
  refine cardindexref03_Put.calls okay ?_
  unfold cardindexref03_Put.W
  refine (rightR_spec rfl h hl).mono ?_
  rintro _ w1 ⟨rfl,e1⟩
  refine ⟨_,rfl,?_⟩
  unfold putR
  refine brn (fun hr=>?_) (fun hr=>?_)
  · rw [if_pos hr];exact Tells.nil e1 _
  rw [if_neg (by rw [hr];simp)]
  obtain ⟨h200,hall⟩:=rightRow_zero hr
  rw [List.all_eq_true] at hall
  have h1:=h.ext KV_pos e1
  rw [wu _ (by omega) (by omega)]
  refine (Varint_spec w1 l.length (by omega)).mono ?_
  rintro _ w2 ⟨X0,cX0,rfl,oX0,e2,nX0⟩
  refine ⟨_,_,_,rfl,?_⟩
  have e02:=e1.trans' e2
  have hsl:∀ v∈l,(B1.enc (sort v)).length<=10:=fun v hv=>B1.enc_le_ten (sort_lt v (right_size (hall v hv)))
  have hbl:∀ v∈l,(body v).length<=65544:=fun v hv=>by have:=body_length v;have:=right_size (hall v hv);omega
  have hE:=B1.enc_le_ten (m:=l.length) (by omega)
  have hS:∀ j,((l.take j).flatMap fun v=>B1.enc (sort v)).length<=2000:=fun j=>by
    have:=flat_le (f:=fun v=>B1.enc (sort v)) (M:=10) (l.take j) (fun v hv=>hsl v (List.mem_of_mem_take hv))
    rw [List.length_take] at this;omega
  have hB:∀ j,((l.take j).flatMap body).length<=13108800:=fun j=>by
    have:=flat_le (f:=body) (M:=65544) (l.take j) (fun v hv=>hbl v (List.mem_of_mem_take hv))
    rw [List.length_take] at this;omega
  refine ⟨fun X m c Y q d i u=>∃ j:Nat,j<=l.length/\i=(j:Int)/\m=(B1.enc l.length++(l.take j).flatMap fun v=>B1.enc (sort v)).length/\q=((l.take j).flatMap body).length /\
      OwnB u X c (B1.enc l.length++(l.take j).flatMap fun v=>B1.enc (sort v))/\OwnB u Y d ((l.take j).flatMap body)/\Ext w u/\New w X/\New w Y/\∀ k,ownB X k->¬ ownB Y k,
    fun _ _ _ _ _ _ i _=>(l.length-i).toNat,⟨0,by omega,rfl,by simp,by simp,by simpa using oX0,OwnB.nil _,e02,nX0.ext e1,New.none _,fun k _ hk=>ownB_none k hk⟩,?_⟩
  rintro X _ cX Y _ cY _ u ⟨j,hj,rfl,rfl,rfl,oX,oY,e,nX,nY,dis⟩
  have hSj:=hS j
  have hBj:=hB j
  refine brd (fun hlt=>?_) (fun hge=>?_)
  · have hjl:j<l.length:=by omega
    obtain ⟨ad,hA,q1,q2,q3⟩:=itemV0 (h.ext KV_pos e) (x:=(j:Int)) (by omega) (by omega)
    refine ⟨ad,hA,⟨by omega,by omega⟩,_,q1,_,q2,_,q3,?_⟩
    rw [Int.toNat_natCast]
    have hm:=getD_mem hjl
    have hrv:=hall _ hm
    have hgv:=hg _ hm
    have hsl':=hsl _ hm
    have hbl':=hbl _ hm
    have hs1:=flat_snoc (f:=fun v=>B1.enc (sort v)) l j hjl
    have hb1:=flat_snoc (f:=body) l j hjl
    generalize l.getD j V0=v at *
    intro g u1 f1
    refine ⟨f1.blk.stOK [_,_,_] 0 (by simp),?_⟩
    intro u2 hu2
    have b2:Blk u2 g [.int .u8 v.k,.int .i64 v.n,.string v.s]:=by rw [hu2];exact Blk.setAll (o:=0) [_,_,_] 0 f1.blk
    have e12:Ext u u2:=by rw [hu2];exact f1.ext.setAll f1.ge _ _
    have eu2:=e.trans' e12
    have hgu:=f1.ge
    have hgX:∀ k,ownB X k->k<u.heap.size:=Own.lt oX
    have hgY:∀ k,ownB Y k->k<u.heap.size:=Own.lt oY
    refine ⟨fun Z q d k u3=>k=((sort v:Nat):Int)/\q=((l.take j).flatMap body++body v).length/\OwnB u3 X cX (B1.enc l.length++(l.take j).flatMap fun v=>B1.enc (sort v))/\OwnB u3 Z d ((l.take j).flatMap body++body v)/\Ext w u3/\New w Z/\∀ k,ownB X k->¬ ownB Z k,?_,?_⟩
    · rintro Z _ d _ u3 ⟨rfl,rfl,oX3,oZ3,e3,nZ,dis3⟩
      refine (UintR_spec rfl oX3.imm0 (sort v) (sort_lt v (right_size hrv)) (by rw [List.length_append];omega)).mono ?_
      rintro _ u4 ⟨X',cX',rfl,oX',e4,nX'⟩
      refine ⟨_,_,_,rfl,?_⟩
      rw [wi _ (by omega) (by omega)]
      rw [List.append_assoc,<- hs1] at oX' ⊢
      rw [<- hb1] at oZ3 ⊢
      exact ⟨⟨j+1,by omega,rfl,rfl,rfl,oX',oZ3.ext e4,e3.trans' e4,nX'.ext e3,nZ,fun k hk hz=>absurd (Own.lt oZ3 k hz) (Nat.not_lt.2 (nX' k hk))⟩,by dsimp only;omega⟩
    · have fin:∀ {u3 u4:World} {Z:Option Addr} {d:Nat},Ext u2 u3->OwnB u4 Z d ((l.take j).flatMap body++body v)->Grew Y Z u3 u4->(OwnB u4 X cX (B1.enc l.length++(l.take j).flatMap fun v=>B1.enc (sort v))/\OwnB u4 Z d ((l.take j).flatMap body++body v)/\Ext w u4/\New w Z/\∀ k,ownB X k->¬ ownB Z k):=by
        intro u3 u4 Z d e23 oZ g4
        have e03:=eu2.trans' e23
        have eu3:=e12.trans' e23
        refine ⟨(oX.ext eu3).keep g4.fr dis,oZ,g4.ext e03 nY,g4.new e03 nY,fun k hk hz=>?_⟩
        rcases g4.sub k hz with h|h
        · exact dis k hk h
        · have:=hgX k hk;have:=eu3.size;omega
      have str:v.k≠1->∃ Z d u4,RunsTo Tryz.prog (Builtin.append_ #[32,9] 32 #[.slice Y ((l.take j).flatMap body).length cY,.string v.s]) u2 (.slice Z ((l.take j).flatMap body++body v).length d) u4/\OwnB u4 Z d ((l.take j).flatMap body++body v)/\Grew Y Z u2 u4:=by
        intro hk
        obtain ⟨Z,d,u4,hr4,oZ,g4⟩:=appendBs (oY.ext e12) (Src.sb u2 v.s) (by rw [sb_length];have:=right_size hrv;omega) 32 isS
        rw [<- body_str hk] at hr4 oZ
        exact ⟨Z,d,u4,hr4,oZ,g4⟩
      have hz:=right_size hrv
      refine ⟨_,b2.cell rfl,brd (fun k1=>⟨_,b2.cell rfl,?_⟩) (fun k1=>brd (fun k3=>⟨_,b2.cell rfl,_,b2.cell rfl,?_⟩) (fun k3=>brd (fun k2=>⟨_,b2.cell rfl,_,b2.cell rfl,?_⟩) (fun k2=>?_)))⟩
      · have hn:=hgv.2.1
        refine (wideR_spec u2 v.n hn.1 hn.2).same ⟨_,rfl,fun z=>Ext u2 z,Fr.drew NoB u2,_,fun z hz=>(b2.ext hz).cell rfl,_,fun z hz=>(b2.ext hz).cell rfl,?_⟩
        refine (wideR_spec u2.drew v.n hn.1 hn.2).same ⟨_,rfl,Fr.drew NoB u2,?_⟩
        have w8':=wide_le v.n
        refine (number_spec u2.drew v.n (wide v.n) w8').mono ?_
        rintro _ u3 ⟨N,cN,rfl,oN,e3,nN⟩
        have e23:Ext u2 u3:=Ext.trans' (Fr.drew NoB u2) e3
        refine ⟨_,_,_,rfl,?_⟩
        obtain ⟨Z,d,u4,hr4,oZ,g4⟩:=appendBs (oY.ext (e12.trans' e23)) (Src.bytes (P:=Tryz.prog) (c:=cN) oN.imm0) (by rw [hi_length];omega) 32 isB
        have hbe:=(body_int hrv k1).symm
        have hle:=congrArg (fun z=>((l.take j).flatMap body++z).length) hbe
        rw [hle] at hr4
        rw [hbe] at oZ
        refine ⟨_,_,_,_,hr4,?_,rfl,fin e23 oZ g4⟩
        rw [wu _ (by omega) (by omega)]
        unfold sort;rw [if_pos k1]
      · obtain ⟨Z,d,u4,hr4,oZ,g4⟩:=str k1
        refine ⟨_,_,_,_,hr4,?_,rfl,fin (.refl _ _) oZ g4⟩
        rw [wi (2*(v.s.size:Int)) (by omega) (by omega),wi _ (by omega) (by omega),wu _ (by omega) (by omega)]
        unfold sort;rw [if_neg k1,if_pos k3];omega
      · obtain ⟨Z,d,u4,hr4,oZ,g4⟩:=str k1
        refine ⟨_,_,_,_,hr4,?_,rfl,fin (.refl _ _) oZ g4⟩
        rw [wi (2*(v.s.size:Int)) (by omega) (by omega),wi _ (by omega) (by omega),wu _ (by omega) (by omega)]
        unfold sort;rw [if_neg k1,if_neg k3,if_pos k2];omega
      · have k0:v.k=0:=by rcases right_kind hrv with h|h|h|h;exact h;exact absurd h k1;exact absurd h k2;exact absurd h k3
        have hb:body v=[]:=by rw [body_str k1,right0 hrv k0];rfl
        have hs:sort v=0:=by unfold sort;rw [if_neg k1,if_neg k3,if_neg k2]
        rw [hb,hs,List.append_nil]
        exact ⟨rfl,rfl,oX.ext e12,oY.ext e12,eu2,nY,dis⟩
  · obtain rfl:j=l.length:=by omega
    rw [List.take_length] at oX oY hSj hBj ⊢
    obtain ⟨Z,d,u4,hr4,oZ,g4⟩:=appendBs oX (Src.bytes (P:=Tryz.prog) (c:=cY) oY.imm0) (by rw [List.length_append];omega) 32 isB
    have hP:B1.enc l.length++(l.flatMap fun v=>B1.enc (sort v))++l.flatMap body=putL l:=rfl
    rw [hP] at hr4 oZ
    have e4:=g4.ext e nX
    have n4:=g4.new e nX
    refine ⟨_,_,_,_,hr4,brd (fun hb=>?_) (fun hb=>?_)⟩
    · rw [if_pos (by omega)];exact Tells.nil e4 _
    · rw [if_neg (by omega)];exact ⟨Z,d,rfl,oZ,e4,n4⟩
end Go.Proofs.YtaifphjenebgoaaGreatDoor
set_option linter.unusedVariables false
set_option linter.unusedSimpArgs false
namespace Go.Proofs.YtaifphjenebgoaaGreatDoor
open Go Go.Sx
theorem byteI {Ω:Nat->Prop} {w:World} {A:Option Addr} {l:List UInt8} (h:Imm KB Ω w A l) {x:Int} (h0 : 0<=x) (h1:x<(l.length:Nat)) :
    ∃ ad,A=some ad/\∀ u,Ext w u->u.cell? (ad.add (x.toNat*1))=some (.int .u8 ((l.getD x.toNat 0).toNat:Int)):=by
  obtain ⟨ad,hA,_⟩:=h.byte (i:=x.toNat) (by omega)
  refine ⟨ad,hA,fun u hu=>?_⟩
  obtain ⟨ad',hA',hc⟩:=(h.keep KB_pos (hu.step Ω)).byte (i:=x.toNat) (by omega)
  rw [hA] at hA';cases hA'
  rw [hc]
  have:x.toNat<l.length:=by omega
  simp [List.getD,this]
def tri (r:Nat×Int×Int):Value:=.tuple #[.int .u64 r.1,.int .i64 r.2.1,.int .i64 r.2.2]
theorem GetUint_spec {Ω:Nat->Prop} {w:World} {A:Option Addr} {c:Nat} {l:List UInt8} (h:Imm KB Ω w A l) (hl:l.length<=140737488355328) (at_:Int) :
    CallsV Tryz.prog 69 #[.slice A l.length c,.int .i64 at_] w fun v w'=>v=tri (B1.getU l at_)/\Ext w w':=by
  refine bytes_GetUint.calls okay ?_
  unfold bytes_GetUint.W
  refine brd (fun h0=>?_) (fun h0=>?_)
  · exact ⟨by rw [B1.getU,if_pos (.inl h0)];rfl,.refl _ _⟩
  refine brd (fun h1=>?_) (fun h1=>?_)
  · exact ⟨by rw [B1.getU,if_pos (.inr h1)];rfl,.refl _ _⟩
  obtain ⟨a,rfl⟩:∃ a:Nat,at_=(a:Int):=⟨at_.toNat,by omega⟩
  have hg:B1.getU l (a:Int)=(B1.dec 0 (l.drop a)).at a:=by
    rw [B1.getU,if_neg (by omega),Int.toNat_natCast]
  have hm:(l.drop a).length=l.length-a:=by simp
  have hgd:∀ j,(l.drop a).getD j 0=l.getD (a+j) 0:=fun j=>B1.getD_drop l a j 0
  rw [B1.dec_eq] at hg
  have hsl:=B1.scan_le (l.drop a) 0
  have hs9:=B1.scan_nine (l.drop a) 0 (by omega)
  have hbig:=B1.vt_lt_u64 (l:=l.drop a)
  have hscan:=B1.scan_ge (l.drop a) 0
  have huniq:=B1.scan_unique (l.drop a) 0
  generalize hsdef:B1.scan 0 (l.drop a)=s at *
  refine ⟨fun x w1=>x=((a+s:Nat):Int)/\w=w1,?_,?_⟩
  · rintro _ _ ⟨rfl,rfl⟩
    refine brd (fun he=>?_) (fun he=>?_)
    · exact ⟨by rw [hg,if_neg (by omega)];rfl,.refl _ _⟩
    have hlt:s<(l.drop a).length:=by omega
    rw [if_pos hlt] at hg
    have hb256:=((l.drop a).getD s 0).toNat_lt
    obtain ⟨ad,hA,hc⟩:=byteI h (x:=((a+s:Nat):Int)) (by omega) (by omega)
    rw [Int.toNat_natCast,<- hgd] at hc
    refine ⟨fun u=>Ext w u,Fr.drew _ _,ad,hA,⟨by omega,by omega⟩,_,hc,?_⟩
    refine ⟨fun w1=>Ext w w1/\¬ ((0<0+s/\((l.drop a).getD s 0).toNat=0)\/(0+s=9/\2<=((l.drop a).getD s 0).toNat)),?_,?_⟩
    · rintro w1 ⟨he1,hnb⟩
      rw [if_neg hnb] at hg
      have hbig:=hbig hlt (fun h2=>hnb (.inr ⟨by omega,h2.2⟩))
      have hx1:IntKind.i64.wrap (((a+s:Nat):Int)-1)=((a+s:Nat):Int)-1:=wi _ (by omega) (by omega)
      refine ⟨fun i n w2=>∃ j:Nat,j<=s/\i=((a+j:Nat):Int)-1/\n=(B1.vt (s-j) ((l.drop a).drop j):Nat)/\Ext w w2,fun i _ _=>(i+1).toNat,
        ⟨s,Nat.le_refl _,hx1,?_,he1⟩,?_⟩
      · rw [wu _ (by omega) (by omega),Nat.sub_self,B1.vt_zero _ (by simp;omega),B1.getD_drop (l.drop a) s 0 0];rfl
      · rintro _ _ w2 ⟨j,hj,rfl,rfl,he2⟩
        refine brd (fun hle=>?_) (fun hle=>?_)
        · obtain ⟨j,rfl⟩:∃ j',j=j'+1:=⟨j-1,by omega⟩
          obtain ⟨ad,hA,hc⟩:=byteI h (x:=((a+(j+1):Nat):Int)-1) (by omega) (by omega)
          refine ⟨ad,hA,⟨by omega,by omega⟩,_,hc _ he2,?_⟩
          have e1:(((a+(j+1):Nat):Int)-1).toNat=a+j:=by omega
          rw [e1,<- hgd]
          have hge:=hscan j (by omega)
          have hlt':=((l.drop a).getD j 0).toNat_lt
          have hv:=B1.vt_drop j s (l.drop a) (by omega) (by omega)
          have hvm:=B1.vt_mono s (l.drop a) j (by omega) (by omega)
          have e2:IntKind.u64.wrap (IntKind.u64.wrap (((B1.vt (s-(j+1)) ((l.drop a).drop (j+1)):Nat):Int)*128)+IntKind.u64.wrap (IntKind.u8.wrap ((((l.drop a).getD j 0).toNat:Int)-128)))
              = ((B1.vt (s-j) ((l.drop a).drop j):Nat):Int):=by
            rw [w8 _ (by omega) (by omega),wu ((((l.drop a).getD j 0).toNat:Int)-128) (by omega) (by omega),wu (_*128) (by omega) (by omega),wu _ (by omega) (by omega),hv]
            omega
          have e3:IntKind.i64.wrap (((a+(j+1):Nat):Int)-1-1)=((a+j:Nat):Int)-1:=by rw [wi _ (by omega) (by omega)];omega
          rw [e2,e3]
          exact ⟨⟨j,by omega,rfl,rfl,he2⟩,by dsimp only;omega⟩
        · obtain rfl:j=0:=by omega
          refine ⟨?_,he2⟩
          rw [hg]
          have e4:IntKind.i64.wrap (((a+s:Nat):Int)-a)=(s:Int):=by rw [wi _ (by omega) (by omega)];omega
          have e5:IntKind.i64.wrap ((s:Int)+1)=((s+1:Nat):Int):=by rw [wi _ (by omega) (by omega)];omega
          have e6:IntKind.i64.wrap ((a:Int)+((s+1:Nat):Int))=(a:Int)+((s+1:Nat):Int):=wi _ (by omega) (by omega)
          rw [e4,e5,e6]
          rfl
    · have e4:IntKind.i64.wrap (((a+s:Nat):Int)-a)=(s:Int):=by rw [wi _ (by omega) (by omega)];omega
      have e5:IntKind.i64.wrap ((s:Int)+1)=((s+1:Nat):Int):=by rw [wi _ (by omega) (by omega)];omega
      rw [e4,e5]
      have hbad:((0<0+s/\((l.drop a).getD s 0).toNat=0)\/(0+s=9/\2<=((l.drop a).getD s 0).toNat))->(Value.tuple #[.int .u64 0,.int .i64 0,.int .i64 10]=tri (B1.getU l (a:Int))):=by
        intro hb;rw [hg,if_pos hb];rfl
      refine brd (fun h1=>?_) (fun h1=>?_)
      · refine brd (fun h2=>?_) (fun h2=>?_)
        · exact ⟨hbad (.inl ⟨by omega,by omega⟩),Fr.drew _ _⟩
        refine brd (fun h3=>?_) (fun h3=>?_)
        · refine brd (fun h4=>?_) (fun h4=>?_)
          · exact ⟨hbad (.inr ⟨by omega,by omega⟩),Fr.drew _ _⟩
          · exact ⟨Fr.drew _ _,by omega⟩
        · exact ⟨Fr.drew _ _,by omega⟩
      · refine brd (fun h3=>?_) (fun h3=>?_)
        · refine brd (fun h4=>?_) (fun h4=>?_)
          · exact ⟨hbad (.inr ⟨by omega,by omega⟩),Fr.drew _ _⟩
          · exact ⟨Fr.drew _ _,by omega⟩
        · exact ⟨Fr.drew _ _,by omega⟩
  · refine ⟨fun x w1=>∃ j:Nat,x=((a+j:Nat):Int)/\j<=9/\j<=(l.drop a).length/\(∀ i,i<j->128<=((l.drop a).getD i 0).toNat)/\w=w1,fun x _=>(l.length-x).toNat,⟨0,rfl,by omega,by omega,fun i hi=>by omega,rfl⟩,?_⟩
    rintro _ _ ⟨j,rfl,hj9,hjl,hge,rfl⟩
    refine brd (fun h2=>?_) (fun h2=>?_)
    · have e1:IntKind.i64.wrap (IntKind.i64.wrap ((a:Int)+10)-1)=(a:Int)+9:=by
        rw [wi ((a:Int)+10) (by omega) (by omega),wi _ (by omega) (by omega)];omega
      rw [e1]
      refine brd (fun h3=>?_) (fun h3=>?_)
      · obtain ⟨ad,hA,hc⟩:=byteI h (x:=((a+j:Nat):Int)) (by omega) (by omega)
        rw [Int.toNat_natCast,<- hgd] at hc
        refine ⟨ad,hA,⟨by omega,by omega⟩,_,hc _ (.refl _ _),?_⟩
        refine brd (fun h4=>?_) (fun h4=>?_)
        · have e3:IntKind.i64.wrap (((a+j:Nat):Int)+1)=((a+(j+1):Nat):Int):=by rw [wi _ (by omega) (by omega)];omega
          rw [e3]
          exact ⟨⟨j+1,rfl,by omega,by omega,fun i hi=>if hij:i=j then by subst hij;omega else hge i (by omega),rfl⟩,by dsimp only;omega⟩
        · exact ⟨by rw [huniq j (by omega) hjl hge (.inr (.inr (by omega)))],rfl⟩
      · exact ⟨by rw [huniq j (by omega) hjl hge (.inr (.inl (by omega)))],rfl⟩
    · exact ⟨by rw [huniq j (by omega) hjl hge (.inl (by omega))],rfl⟩
end Go.Proofs.YtaifphjenebgoaaGreatDoor
