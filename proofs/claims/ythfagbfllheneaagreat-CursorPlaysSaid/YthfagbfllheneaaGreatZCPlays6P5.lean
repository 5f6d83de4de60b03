/- Part 5 of the texts of this claim: the engine, contracts, plain laws. -/
import Derived.Test.YthfagbfllheneaaGreatZCPlays6P1
import Derived.OrdersIn
import Derived.TacticsIn
import Derived.RangeFuncCalls
import Derived.RangeFuncNested
import Derived.RangeFuncLeaves
import Derived.Test.YthfagbfllheneaaGreatZCPlays6P4
import Derived.RangeFuncBound
import Derived.Shelf.Abstract
import Derived.Shelf.RegionOpen
import Derived.WalkKit
import Derived.OwnWalkIn
import Derived.TacticsInMore
import Derived.LoopNIn
import Derived.LoopIn
import Derived.Test.YthfagbfllheneaaGreatProg
import Derived.Shelf.SlMaps.Clone
set_option linter.unusedVariables false
set_option linter.unusedSimpArgs false
namespace Go.Sx
variable {P:Program}
theorem rows_in {l m:Nat} {row:String} {args:Array Value} {w:World} {R:Value->World->Prop} (h:Rows P row args w R):RowsIn (Fence.wide.inRound l) m P row args w R:=fun c cs _=>by
  obtain ⟨v,w',r,s⟩:=h c cs
  refine ⟨v,w',r,?_⟩
  have:=(comesIn_wide (P:=P) (e:=.returned v)).2 s
  exact this
theorem upon_in {l m:Nat} {o:Oper} {a:Act} {Q:Exit->Act->World->Prop} {next next':Act->World->Prop} (hn:∀ a w,next a w->next' a w):∀ {r:Result Next},o.upon P a next Q r->o.uponIn (Fence.wide.inRound l) m P a next' Q r:=by
  intro r h
  cases r with
  | ok x w' =>
    cases x with
    | value v=>exact hn _ _ h
    | skip=>exact hn _ _ h
    | defer d=>exact hn _ _ h
    | enter f args =>
      refine ⟨fun h=>by simp [Fence.wide] at h,CallsIn.inRound l ((callsIn_wide.2 h).mono fun e w'' he=>?_)⟩
      cases e with
      | returned v=>exact hn _ _ he
      | panicked c=>exact he
      | outgrown=>exact he
    | row row args=>exact ⟨fun h=>by simp [Fence.wide] at h,RowsIn.mono (rows_in h) fun v w'' he=>hn _ _ he⟩
    | _=>exact h.elim
  | halt x w' =>
    cases x with
    | panic v=>exact h
    | _=>exact h.elim
def isDef:Op->Bool
  | .defer _=>true
  | _=>false
def noDef (l:List Oper):Bool:=l.all fun o=>!isDef o.op
theorem noDef_mem {l:List Oper} (h:noDef l=true):∀ o∈l,∀ c,o.op≠.defer c:=by
  intro o ho c e
  have:=List.all_eq_true.1 h o ho
  rw [e] at this
  cases this
theorem op_in {l m:Nat} {o:Oper} (hd:∀ c,o.op≠.defer c) {a:Act} {w:World} {Q:Exit->Act->World->Prop} {next next':Act->World->Prop} (hn:∀ a w,next a w->next' a w) (h:o.wp P a w next Q):o.wpIn (Fence.wide.inRound l) m P a w next' Q :=
  ⟨fun _ _=>trivial,by rw [Fence.inRound_round,Oper.semAt_some l _ o hd];exact upon_in hn h⟩
theorem list_in {l m:Nat} {ops:Array Oper} {Q:Exit->Act->World->Prop} (hQ:¬ LetsOut Q):∀ (rest:List Oper) (a:Act) (w:World),(∀ o∈rest,∀ c,o.op≠.defer c)->wpList P ops Q rest a w->wpListIn (Fence.wide.inRound l) m P ops Q rest a w
  | [],a,w,_,h=>h
  | o::rest,a,w,hd,h=>by
    unfold wpListIn
    unfold wpList at h
    split
    · rename_i hw
      rw [if_pos hw] at h
      exact op_in (hd o (by simp)) (fun a w h=>list_in hQ rest a w (fun o ho=>hd o (by simp [ho])) h) (h.resolve_right fun h=>hQ h.2)
    · rename_i hw
      rw [if_neg hw] at h
      exact ⟨fun _ _=>trivial,list_in hQ rest _ _ (fun o ho=>hd o (by simp [ho])) h⟩
theorem any_in {l m:Nat} {md:Region.Mode} {ops:Array Oper} {Q:Exit->Act->World->Prop} (hQ:¬ LetsOut Q) (hd:∀ o∈ops.toList,∀ c,o.op≠.defer c):∀ (fuel:Nat) (listed:Array Bool) (a:Act) (w:World),wpAny P md ops Q fuel listed a w->wpAnyIn (Fence.wide.inRound l) m P md ops Q fuel listed a w
  | 0,_,_,_,h=>h
  | fuel+1,listed,a,w,h=>by
    refine ⟨h.1,fun i hi=>?_⟩
    have h2:=h.2 i hi
    unfold wpOpIn
    unfold wpOp at h2
    split
    · rename_i ho;rw [ho] at h2;exact any_in hQ hd fuel _ _ _ h2
    · rename_i o ho
      rw [ho] at h2
      dsimp only at h2
      have hm:o∈ops.toList:=List.mem_of_getElem? (i:=i) (by rw [Array.getElem?_toList];exact ho)
      split
      · rename_i hw
        rw [if_pos hw] at h2
        exact op_in (hd o hm) (fun a w h=>any_in hQ hd fuel _ a w h) (h2.resolve_right fun h=>hQ h.2)
      · rename_i hw
        rw [if_neg hw] at h2
        exact ⟨fun _ _=>trivial,any_in hQ hd fuel _ _ _ h2⟩
theorem letsOut_QW (n:Nat) (L:List Nat) (a₀:Act) (K:Exit->Env->World->Prop):¬ LetsOut (QW n L a₀ K):=fun ⟨_,_,h⟩=>h.elim
theorem region_in {l m:Nat} (ok:Okay P) {n:Nat} {a₀:Act} (id:Nat) (ops:List Oper) (draw:Bool) (hd:noDef ops=true) (L:List Nat) (K:Exit->Env->World->Prop) (ρ:Env) (a:Act) (w:World)
    (hL:∀ t,t∈opsDst ops->t∈L) (hs:SameBut L a₀ a) (ha:Agrees n ρ a) (h:bif draw then (cond (noSel ops) (drT false .named P n ops (lightOf P ops ops) (K .normal) ops (falses ops) none [] ρ w.drew) False) else regW .named P n ops 0 ops (K .normal) ρ w) :
    (Code.region id ops.toArray draw).wpIn (Fence.wide.inRound l) m P (QW n L a₀ K) a w:=by
  cases draw with
  | false =>
    have:=regW_sound ok (L:=L) hL (a₀:=a₀) (K:=K) ops 0 ρ a w (fun _ h=>h) hs ha h
    exact wpIn_region_lit (list_in (letsOut_QW _ _ _ _) _ _ _ (noDef_mem hd) this)
  | true =>
    cases hsel:noSel ops with
    | false=>rw [hsel] at h;exact h.elim
    | true =>
      rw [hsel] at h
      have hf:∀ l:List Oper,(falses l).length=l.length:=fun l=>by induction l with|nil=>rfl|cons _ _ ih=>simp [falses,ih]
      have hfa:∀ l:List Oper,(falses l).toArray=Array.replicate l.length false:=fun l=>by
        have:falses l=List.replicate l.length false:=by induction l with|nil=>rfl|cons _ _ ih=>simp [falses,ih,List.replicate_succ]
        rw [this];simp
      have:=drT_sound ok (noSel_eq hsel) (L:=L) hL (a₀:=a₀) (K:=K) ops _ none [] ρ a _ (hf _) hs ha (fun _ h=>by cases h) h
      rw [hfa] at this
      exact wpIn_region_any ok.mixed (any_in (letsOut_QW _ _ _ _) (by simpa using noDef_mem hd) _ _ _ _ (by simpa using wpAny_of_T _ _ _ _ _ this))
/-! ## what is deferred is of no concern to a region that defers nothing -/
theorem put_nil {a:Act} {d:Option Nat} {v:Value} (h:(a.put d v).defers=[]):a.defers=[]:=by cases d<;>exact h
theorem upon_nil {o:Oper} {a:Act} {Q:Exit->Act->World->Prop} {next:Act->World->Prop} (hn:∀ a w,next a w->a.defers=[]) (hQ:¬ LetsOut Q) (hP:∀ c a w,¬ Q (.panic c) a w):∀ {r:Result Next},o.upon P a next Q r->a.defers=[]:=by
  intro r h
  cases r with
  | ok x w' =>
    cases x with
    | value v=>exact put_nil (hn _ _ h)
    | skip=>exact put_nil (hn _ _ h)
    | defer d=>have h1:({ a with defers:=d::a.defers }:Act).defers=[]:=put_nil (hn _ _ h);cases h1
    | enter f args =>
      obtain ⟨e,w'',fr,hr,_⟩:=h []
      cases e with
      | returned v=>exact put_nil (hn _ _ hr)
      | panicked c=>exact absurd hr (hP _ _ _)
      | outgrown=>exact absurd hr hQ
    | row row args =>
      obtain ⟨v,w'',hr,_⟩:=h default []
      exact put_nil (hn _ _ hr)
    | _=>exact h.elim
  | halt x w' =>
    cases x with
    | panic v=>exact absurd h (hP _ _ _)
    | _=>exact h.elim
theorem upon_D {ds:List Deferred} {o:Oper} {a:Act} {Q Q':Exit->Act->World->Prop} {next next':Act->World->Prop} (hnil:∀ a w,next a w->a.defers=[]) (hQ:¬ LetsOut Q) (hP:∀ c a w,¬ Q (.panic c) a w) (hn:∀ a w,next a w->next' { a with defers:=ds } w) {w:World} (h:o.wp P a w next Q):o.wp P { a with defers:=ds } w next' Q':=by
  unfold Oper.wp at *
  have he:({ a with defers:=ds }:Act).eval=a.eval:=rfl
  rw [he]
  have hput:∀ v,({ a with defers:=ds }:Act).put o.dst v={ a.put o.dst v with defers:=ds }:=fun v=>by cases o.dst<;>rfl
  generalize (execOp a.eval o).run P w=r at *
  cases r with
  | ok x w' =>
    cases x with
    | value v=>show next' _ _;rw [hput];exact hn _ _ h
    | skip=>show next' _ _;rw [hput];exact hn _ _ h
    | defer d=>have h1:({ a with defers:=d::a.defers }:Act).defers=[]:=put_nil (hnil _ _ h);cases h1
    | enter f args =>
      refine Calls.mono h fun e w'' he=>?_
      cases e with
      | returned v=>show next' _ _;rw [hput];exact hn _ _ he
      | panicked c=>exact absurd he (hP _ _ _)
      | outgrown=>exact absurd he hQ
    | row row args=>exact Rows.mono h fun v w'' he=>by show next' _ _;rw [hput];exact hn _ _ he
    | _=>exact h.elim
  | halt x w' =>
    cases x with
    | panic v=>exact absurd h (hP _ _ _)
    | _=>exact h.elim
theorem any_nil {n:Nat} {L:List Nat} {a₀:Act} {K:Exit->Env->World->Prop} {md:Region.Mode} {ops:Array Oper}:∀ (fuel:Nat) (listed:Array Bool) (a:Act) (w:World),wpAny P md ops (QW n L a₀ K) fuel listed a w->a.defers=[]
  | 0,_,_,_,h=>by obtain ⟨_,_,ρ,ha,_⟩:=h;exact ha.defers
  | fuel+1,listed,a,w,h=>by
    cases hr:Region.ready md ops listed with
    | nil=>obtain ⟨_,ρ,ha,_⟩:=h.1 hr;exact ha.defers
    | cons i l =>
      have h2:=h.2 i (by rw [hr];simp)
      unfold wpOp at h2
      split at h2
      · exact any_nil fuel _ _ _ h2
      · split at h2
        · rcases h2 with h2|h2
          · exact upon_nil (fun a w h=>any_nil fuel _ a w h) (letsOut_QW _ _ _ _) (fun _ _ _ h=>h) h2
          · exact absurd h2.2 (letsOut_QW _ _ _ _)
        · exact put_nil (any_nil fuel _ _ _ h2)
theorem any_D {n:Nat} {L:List Nat} {a₀:Act} {K:Exit->Env->World->Prop} {md:Region.Mode} {ops:Array Oper} {ds:List Deferred}:∀ (fuel:Nat) (listed:Array Bool) (a:Act) (w:World),wpAny P md ops (QW n L a₀ K) fuel listed a w ->
    wpAny P md ops (fun e a' w'=>∃ a1:Act,a'={ a1 with defers:=ds }/\QW n L a₀ K e a1 w') fuel listed { a with defers:=ds } w
  | 0,_,a,_,h=>⟨h.1,a,rfl,h.2⟩
  | fuel+1,listed,a,w,h=>by
    refine ⟨fun hr=>⟨a,rfl,h.1 hr⟩,fun i hi=>?_⟩
    have h2:=h.2 i hi
    unfold wpOp at h2 ⊢
    split
    · rename_i ho;rw [ho] at h2;exact any_D fuel _ _ _ h2
    · rename_i o ho
      rw [ho] at h2
      dsimp only at h2 ⊢
      split
      · rename_i hw
        rw [if_pos hw] at h2
        exact .inl (upon_D (fun a w h=>any_nil fuel _ a w h) (letsOut_QW _ _ _ _) (fun _ _ _ h=>h) (fun a w h=>any_D fuel _ a w h) (h2.resolve_right fun h=>letsOut_QW _ _ _ _ h.2))
      · rename_i hw
        rw [if_neg hw] at h2
        have hput:({ a with defers:=ds }:Act).put o.dst undef={ a.put o.dst undef with defers:=ds }:=by cases o.dst<;>rfl
        rw [hput]
        exact any_D fuel _ _ _ h2
theorem region_D (ok:Okay P) {n:Nat} (id:Nat) (ops:List Oper) (ds:List Deferred) (K:Exit->Env->World->Prop) (ρ:Env) (a:Act) (w:World)
    (ha:Agrees n ρ a) (hsel:noSel ops=true) (h:drT false .named P n ops (lightOf P ops ops) (K .normal) ops (falses ops) none [] ρ w.drew) :
    (Code.region id ops.toArray true).wpIn Fence.wide 0 P (fun e a' w'=>∃ a1:Act,a'={ a1 with defers:=ds }/\QW n (opsDst ops) a K e a1 w') { a with defers:=ds } w:=by
  have hf:∀ l:List Oper,(falses l).length=l.length:=fun l=>by induction l with|nil=>rfl|cons _ _ ih=>simp [falses,ih]
  have hfa:∀ l:List Oper,(falses l).toArray=Array.replicate l.length false:=fun l=>by
    have:falses l=List.replicate l.length false:=by induction l with|nil=>rfl|cons _ _ ih=>simp [falses,ih,List.replicate_succ]
    rw [this];simp
  have:=drT_sound ok (noSel_eq hsel) (L:=opsDst ops) (fun _ h=>h) (a₀:=a) (K:=K) ops _ none [] ρ a _ (hf _) (.refl _ _) ha (fun _ h=>by cases h) h
  rw [hfa] at this
  refine wpIn_wide.2 (wp_region_any ok.mixed ?_)
  have h2:=any_D (ds:=ds) _ _ _ _ (wpAny_of_T _ _ _ _ _ this)
  simpa using h2
end Go.Sx
set_option linter.unusedVariables false
set_option linter.unusedSimpArgs false
namespace Go.Sx
variable {P:Program}
theorem exists_least {p:Nat->Prop} (h:∃ n,p n):∃ n,p n/\∀ m,p m->n<=m:=by
  obtain ⟨n,hn⟩:=h
  induction n using Nat.strongRecOn with
  | ind n ih =>
    by_cases h:∃ m,m<n/\p m
    · obtain ⟨m,h1,h2⟩:=h;exact ih m h1 h2
    · exact ⟨n,hn,fun m hm=>Nat.le_of_not_lt fun hlt=>h ⟨m,hlt,hm⟩⟩
open Classical in
noncomputable def leastN (p:Nat->Prop):Nat:=if h:∃ n,p n then Classical.choose (exists_least h) else 0
theorem leastN_spec {p:Nat->Prop} (h:∃ n,p n):p (leastN p)/\∀ m,p m->leastN p<=m:=by
  unfold leastN
  rw [dif_pos h]
  exact Classical.choose_spec (exists_least h)
theorem Fr.putObj {S:Nat->Prop} (w:World) (l:Nat) (o:Obj) (hl:S l):Fr S w (w.putObj l o) :=
  ⟨rfl,rfl,rfl,by simp,fun k _ hk=>World.putObj_heap_other (fun e=>hk (e▸hl))⟩
theorem range_all {α:Type} {enc:α->Value} {xs:List α} {g:Operand} {ps:Array Tmp} {assign body:Code} {Q:Exit->Act->World->Prop} {a:Act} {w:World} {gf:Nat} {lb:Array Value} (hg:a.eval g=.func (.func gf) #[] lb) (eg:∀ args w,(callFunc gf args).run P w=.ok (.enter gf args) w)
    (Sb:Nat->Prop) (hSb:∀ k,Sb k->k<w.heap.size)
    (hit:∀ (l:Nat) (T:Nat->Prop) (J:List α->World->Prop) (W:World),Ext w W->(∀ k,T k->(Sb k\/w.heap.size<=k)/\k<W.heap.size)->(∀ pre U U',J pre U->Fr (fun k=>W.heap.size<=k) U U'->J pre U') ->
      (∀ pre x rest U,xs=pre++x::rest->J pre U->YieldAt Fence.wide 0 P l #[enc x] U fun e U'=>e=.returned (.bool true)/\J (pre++[x]) U'/\Fr T U U')->J [] W ->
      CallsIn Fence.wide 0 P gf (#[.func (.yield l) #[] #[]]++lb) W fun e U=>(∃ v,e=.returned v)/\J xs U)
    (hps:ps.size=1) (I:List α->World->Prop) (hI:∀ pre U U',I pre U->Fr (fun k=>w.heap.size<=k) U U'->I pre U') (h0:I [] w) (a₁:α->Act)
    (hassign:∀ (l:Nat) (x:α) (W:World) (K:Act->World->Prop),K (a₁ x) W->assign.wpIn (Fence.wide.inRound l) 0 P (Exit.then K (fun _ _ _=>False)) { tmps:=(ps.zip #[enc x]).foldl (fun t (p,v)=>t.setIfInBounds p v) a.tmps,defers:=[] } W)
    (hbody:∀ (l:Nat) (pre:List α) (x:α) (rest:List α) (U:World),xs=pre++x::rest->I pre U->w.heap.size<=U.heap.size->body.wpIn (Fence.wide.inRound l) 0 P (fun e _ U'=>e=.normal/\Fr Sb U U'/\I (pre++[x]) U') (a₁ x) U)
    (hdone:∀ (D:Nat) (W:World),w.heap.size<=D->I xs W->W.heap[D]?=some (.deferred (some []))->w.heap.size<=W.heap.size->Q .normal { a with defers:={ target:=.collected D,args:=#[] }::a.defers } W) :
    (Code.rangeFunc g ps assign body).wpIn Fence.wide 0 P Q a w:=by
  refine wpIn_rangeFunc ?_
  intro fn hfn
  rw [show Fence.wide.round=none from rfl]
  obtain ⟨rec,hrec⟩:∃ rec:LoopState->Option Code->Loop,rec=fun st pe=>{ state:=st,pending:=pe,fn,tmps:=a.tmps,params:=ps,assign,body,defers:=w.heap.size }:=⟨_,rfl⟩
  obtain ⟨W1,hW1⟩:∃ W1,(w.alloc (.deferred (some []))).alloc (.loop (rec .ready none))=W1:=⟨_,rfl⟩
  have hL1:W1.heap[w.heap.size+1]?=some (.loop (rec .ready none)):=by
    rw [<- hW1];have:=World.alloc_heap_new (w.alloc (.deferred (some []))) (.loop (rec .ready none));rwa [World.size_alloc] at this
  have hK1:W1.heap[w.heap.size]?=some (.deferred (some [])):=by
    rw [<- hW1];exact (RowKit.Below.heap_alloc _ _ _ (by simp)).trans (World.alloc_heap_new w _)
  have e1:Ext w W1:=by rw [<- hW1];exact (Fr.alloc NoB w _).ext (Fr.alloc NoB _ _)
  have hs1:W1.heap.size=w.heap.size+2:=by rw [<- hW1];simp
  have hI1:I [] W1:=hI _ _ _ h0 (e1.fr)
  refine ⟨w.heap.size+1,[{ target:=.collected w.heap.size,args:=#[] }],W1,{ target:=.fn (.func gf) lb,args:=#[.func (.yield (w.heap.size+1)) #[] #[]] },W1,gf,
    #[.func (.yield (w.heap.size+1)) #[] #[]]++lb,W1,?_,?_,?_,?_,fun h=>by simp [Fence.wide] at h,?_⟩
  · rw [<- hW1,hrec];exact run_enterLoop_outer _ _ _ _ _
  · simp only [resolve,hg]
    simp [go_sem]
  · intro f' hf';trivial
  · simp [invoke,go_sem,eg]
  · refine (hit (w.heap.size+1) (fun k=>Sb k\/k=w.heap.size+1)
      (fun pre W=>I pre W/\W.heap[w.heap.size+1]?=some (.loop (rec .ready none))/\W.heap[w.heap.size]?=some (.deferred (some []))/\w.heap.size<=W.heap.size)
      W1 e1 (fun k hk=>?_) (fun pre U U' hJ hf=>?_) ?_ ⟨hI1,hL1,hK1,by omega⟩).mono ?_
    · rcases hk with hk|rfl
      · exact ⟨.inl hk,by have:=hSb k hk;omega⟩
      · exact ⟨.inr (by omega),by omega⟩
    · obtain ⟨h1,h2,h3,h4⟩:=hJ
      refine ⟨hI _ _ _ h1 (hf.mono fun k _ hk=>by have:W1.heap.size<=k:=hk;show w.heap.size<=k;omega),(hf.block _ (Array.getElem?_eq_some_iff.1 h2).1 (by show ¬ W1.heap.size<=_;omega)).trans h2,(hf.block _ (Array.getElem?_eq_some_iff.1 h3).1 (by show ¬ W1.heap.size<=_;omega)).trans h3,Nat.le_trans h4 hf.size⟩
    · rintro pre x rest W hxs ⟨hi,hl,hk,hsz⟩
      have hlt:w.heap.size+1<W.heap.size:=(Array.getElem?_eq_some_iff.1 hl).1
      have hy:=run_yield (P:=P) (args:=#[enc x]) hl (by rw [hrec];simp [hps])
      rw [hrec] at hy
      refine ⟨fn,_,assign,body,hy,roundIn_of_wpIn hfn (hassign _ x W _ ⟨_,run_beginRound hl (by rw [hrec]),?_⟩)⟩
      generalize hW2:W.putObj (w.heap.size+1) (.loop { rec .ready none with state:=.busy })=W2
      have hl2:W2.heap[w.heap.size+1]?=some (.loop { rec .ready none with state:=.busy }):=by rw [<- hW2];exact World.putObj_heap_same hlt
      have hk2:W2.heap[w.heap.size]?=some (.deferred (some [])):=by rw [<- hW2];exact (World.putObj_heap_other (by omega)).trans hk
      have f2:Fr (fun k=>k=w.heap.size+1) W W2:=by rw [<- hW2];exact Fr.putObj W _ _ rfl
      have hI2:I pre W2:=hI _ _ _ hi (f2.mono fun k _ hk=>by have:k=w.heap.size+1:=hk;show w.heap.size<=k;omega)
      refine wpIn_mono (hbody _ pre x rest _ hxs hI2 (Nat.le_trans hsz f2.size)) ?_
      rintro e a3 W3 ⟨rfl,f3,hi3⟩
      have hl3:W3.heap[w.heap.size+1]?=some (.loop { rec .ready none with state:=.busy }):=(f3.block _ (Array.getElem?_eq_some_iff.1 hl2).1 (fun h=>by have:=hSb _ h;omega)).trans hl2
      have hk3:W3.heap[w.heap.size]?=some (.deferred (some [])):=(f3.block _ (Array.getElem?_eq_some_iff.1 hk2).1 (fun h=>by have:=hSb _ h;omega)).trans hk2
      have hr:=run_endRound (P:=P) none hl3
      rw [hrec] at hr
      refine ⟨_,_,hr,rfl,⟨?_,?_,?_,?_⟩,?_⟩
      · exact hI _ _ _ hi3 ((Fr.putObj W3 _ _ (by show w.heap.size<=w.heap.size+1;omega)))
      · rw [hrec];exact World.putObj_heap_same (Array.getElem?_eq_some_iff.1 hl3).1
      · exact (World.putObj_heap_other (by omega)).trans hk3
      · have:=f3.size;have:=f2.size;simp;omega
      · exact (f2.trans f3 (S'':=fun k=>Sb k\/k=w.heap.size+1) (fun k _ hk=>.inr hk) (fun k _ hk=>.inl hk)).trans (Fr.putObj (S:=fun k=>Sb k\/k=w.heap.size+1) W3 _ _ (.inr rfl)) (fun _ _ h=>h) (fun _ _ h=>h)
    · rintro e W2 ⟨⟨v,rfl⟩,hi,hl,hk,hsz⟩
      refine ⟨none,_,by have:=run_endLoop (P:=P) hl (by rw [hrec];simp);rw [hrec] at this;exact this,hdone _ _ (Nat.le_refl _) (hI _ _ _ hi (Fr.putObj W2 _ _ (by show w.heap.size<=w.heap.size+1;omega))) ((World.putObj_heap_other (by omega)).trans hk) (by simp;omega)⟩
end Go.Sx
set_option linter.unusedVariables false
set_option linter.unusedSimpArgs false
namespace Go.Proofs.YthfagbfllheneaaGreat
open Go Go.Sx T4
open Go.RowKit Go.Shelf
attribute [local go_sem] Oper.semAt_some
theorem all_spec {w:World} (g i:Nat):CallsV Tryz.prog 79 #[.pointer (some ⟨g,0,none⟩),iv i] w fun r w'=>∃ b1 b2,r=.func (.func 103) #[] #[.pointer (some ⟨b1,0,none⟩),.pointer (some ⟨b2,0,none⟩)]/\Blk w' b1 [iv i]/\Blk w' b2 [.pointer (some ⟨g,0,none⟩)]/\Ext w w'/\w.heap.size<=b1/\w.heap.size<=b2/\b1≠b2:=by
  refine tree_Arena_all.calls okay ?_
  unfold tree_Arena_all.W
  intro b2 w1 f1 b1 w2 f2
  exact ⟨b1,b2,rfl,f2.blk,f1.blk.ext f2.ext,f1.ext.trans' f2.ext,Nat.le_trans f1.ext.size f2.ge,f1.ge,fun e=>by have:=f2.ge;have:=f1.lt;omega⟩
theorem piece (c:Code) {n:Nat} {K:Exit->Env->World->Prop} {ρ:Env} {a:Act} {w:World} {Q:Exit->Act->World->Prop} (h:cW .named Tryz.prog n .auto c K ρ w) (ha:Agrees n ρ a)
    (hk:∀ e a' w',SameBut (wr c) a a'->(∃ ρ',Agrees n ρ' a'/\K e ρ' w')->(∀ ch,e≠.panic ch)->e≠.outgrown->Q e a' w'):c.wpIn Fence.wide 0 Tryz.prog Q a w:=by
  refine wpIn_wide.2 (Code.wp_mono ?_ (cW_sound okay (a₀:=a) c .auto (wr c) K ρ a w (fun _ h=>h) (.refl _ _) ha h))
  intro e a' w' hq
  cases e with
  | panic ch=>exact hq.elim
  | outgrown=>exact hq.elim
  | normal=>exact hk _ _ _ hq.1 hq.2 (fun _ h=>by cases h) (fun h=>by cases h)
  | ret=>exact hk _ _ _ hq.1 hq.2 (fun _ h=>by cases h) (fun h=>by cases h)
  | exit id=>exact hk _ _ _ hq.1 hq.2 (fun _ h=>by cases h) (fun h=>by cases h)
  | goto l=>exact hk _ _ _ hq.1 hq.2 (fun _ h=>by cases h) (fun h=>by cases h)
def restOf (A:Ar) (st:List (Nat×Nat)):List Nat:=st.reverse.flatMap fun p=>allF p.1 A p.2
theorem restOf_pop (A:Ar) (st:List (Nat×Nat)) (p:Nat×Nat):restOf A (st++[p])=allF p.1 A p.2++restOf A st:=by simp [restOf]
theorem restOf_push (A:Ar) (st:List (Nat×Nat)) (k:Nat) (l:List Nat):restOf A (st++l.map fun j=>(k,j))=l.reverse.flatMap (allF k A)++restOf A st:=by
  unfold restOf
  rw [List.reverse_append,List.flatMap_append]
  congr 1
  rw [<- List.map_reverse]
  induction l.reverse with
  | nil=>rfl
  | cons x l ih=>simp [ih]
theorem allF_pos (A:Ar) (h i:Nat):1<=(allF h A i).length:=by cases h<;>simp [allF]
theorem restOf_len (A:Ar) (st:List (Nat×Nat)):st.length<=(restOf A st).length:=by
  unfold restOf
  rw [<- List.length_reverse]
  induction st.reverse with
  | nil=>simp
  | cons p l ih=>have:=allF_pos A p.1 p.2;rw [List.flatMap_cons,List.length_append,List.length_cons];omega
def isTree (A:Ar) (p:Nat×Nat):Prop:=∃ mn lo hi es ps,Tree A.nd A.fan p.1 mn p.2 lo hi es ps
theorem isTree.step {A:Ar} {p:Nat×Nat} (h:isTree A p):∃ n k,A.nd p.2=some n/\nodeAt A p.2=n/\p.1=k+1/\allF p.1 A p.2=p.2::n.kids.reverse.flatMap (allF k A)/\∀ j∈n.kids,isTree A (k,j):=by
  obtain ⟨mn,lo,hi,es,ps,h⟩:=h
  obtain ⟨n,hn,_,hc⟩:=tree_node h
  have hna:nodeAt A p.2=n:=by simp [nodeAt,hn]
  obtain ⟨P1,P2⟩:=p
  dsimp only at *
  rcases hc with ⟨rfl,hk,_⟩|⟨k,rfl,_,_,_,_,_,hall,_⟩
  · refine ⟨n,0,hn,hna,rfl,by rw [allF,hna],fun j hj=>by rw [hk] at hj;cases hj⟩
  · refine ⟨n,k,hn,hna,rfl,by rw [allF,hna],fun j hj=>?_⟩
    obtain ⟨c,hc,rfl⟩:=List.mem_iff_getElem.1 hj
    obtain ⟨lo',hi',es',ps',h'⟩:=hall c hc
    have:kid n c=n.kids[c]:=by simp [kid,List.getD,hc]
    exact ⟨_,lo',hi',es',ps',this▸h'⟩
theorem cons_of {α:Type} {l:List α} {n:Nat} (h:l.length=n+1):∃ x t,l=x::t/\t.length=n:=by
  cases l with
  | nil=>simp at h
  | cons x t=>exact ⟨x,t,rfl,by simpa using h⟩
theorem list37 {a:Act} (h:a.tmps.size=37) (hd:a.defers=[]):∃ x0 x1 x2 x3 x4 x5 x6 x7 x8 x9 x10 x11 x12 x13 x14 x15 x16 x17 x18 x19 x20 x21 x22 x23 x24 x25 x26 x27 x28 x29 x30 x31 x32 x33 x34 x35 x36,a={ tmps:=#[x0,x1,x2,x3,x4,x5,x6,x7,x8,x9,x10,x11,x12,x13,x14,x15,x16,x17,x18,x19,x20,x21,x22,x23,x24,x25,x26,x27,x28,x29,x30,x31,x32,x33,x34,x35,x36],defers:=[] }:=by
  obtain ⟨⟨l⟩,d⟩:=a
  dsimp only at hd
  subst hd
  replace h:l.length=37:=h
  obtain ⟨x0,l0,rfl,h0⟩:=cons_of h
  obtain ⟨x1,l1,rfl,h1⟩:=cons_of h0
  obtain ⟨x2,l2,rfl,h2⟩:=cons_of h1
  obtain ⟨x3,l3,rfl,h3⟩:=cons_of h2
  obtain ⟨x4,l4,rfl,h4⟩:=cons_of h3
  obtain ⟨x5,l5,rfl,h5⟩:=cons_of h4
  obtain ⟨x6,l6,rfl,h6⟩:=cons_of h5
  obtain ⟨x7,l7,rfl,h7⟩:=cons_of h6
  obtain ⟨x8,l8,rfl,h8⟩:=cons_of h7
  obtain ⟨x9,l9,rfl,h9⟩:=cons_of h8
  obtain ⟨x10,l10,rfl,h10⟩:=cons_of h9
  obtain ⟨x11,l11,rfl,h11⟩:=cons_of h10
  obtain ⟨x12,l12,rfl,h12⟩:=cons_of h11
  obtain ⟨x13,l13,rfl,h13⟩:=cons_of h12
  obtain ⟨x14,l14,rfl,h14⟩:=cons_of h13
  obtain ⟨x15,l15,rfl,h15⟩:=cons_of h14
  obtain ⟨x16,l16,rfl,h16⟩:=cons_of h15
  obtain ⟨x17,l17,rfl,h17⟩:=cons_of h16
  obtain ⟨x18,l18,rfl,h18⟩:=cons_of h17
  obtain ⟨x19,l19,rfl,h19⟩:=cons_of h18
  obtain ⟨x20,l20,rfl,h20⟩:=cons_of h19
  obtain ⟨x21,l21,rfl,h21⟩:=cons_of h20
  obtain ⟨x22,l22,rfl,h22⟩:=cons_of h21
  obtain ⟨x23,l23,rfl,h23⟩:=cons_of h22
  obtain ⟨x24,l24,rfl,h24⟩:=cons_of h23
  obtain ⟨x25,l25,rfl,h25⟩:=cons_of h24
  obtain ⟨x26,l26,rfl,h26⟩:=cons_of h25
  obtain ⟨x27,l27,rfl,h27⟩:=cons_of h26
  obtain ⟨x28,l28,rfl,h28⟩:=cons_of h27
  obtain ⟨x29,l29,rfl,h29⟩:=cons_of h28
  obtain ⟨x30,l30,rfl,h30⟩:=cons_of h29
  obtain ⟨x31,l31,rfl,h31⟩:=cons_of h30
  obtain ⟨x32,l32,rfl,h32⟩:=cons_of h31
  obtain ⟨x33,l33,rfl,h33⟩:=cons_of h32
  obtain ⟨x34,l34,rfl,h34⟩:=cons_of h33
  obtain ⟨x35,l35,rfl,h35⟩:=cons_of h34
  obtain ⟨x36,l36,rfl,h36⟩:=cons_of h35
  obtain rfl:=List.eq_nil_of_length_eq_zero h36
  exact ⟨_,_,_,_,_,_,_,_,_,_,_,_,_,_,_,_,_,_,_,_,_,_,_,_,_,_,_,_,_,_,_,_,_,_,_,_,_,rfl⟩
theorem set_get {ρ:Env} {t u:Nat} {v:Option Value} {x:Value} (h:Env.set ρ t v u=some x):(u=t/\v=some x)\/ρ u=some x:=by
  unfold Env.set at h
  cases hb:Nat.beq u t with
  | true=>rw [hb] at h;exact .inl ⟨Nat.eq_of_beq_eq_true hb,h⟩
  | false=>rw [hb] at h;exact .inr h
structure AllRel (R M T:Nat->Prop) (W:World) (g:Nat) (A:Ar) (xs:List Nat) (J:List Nat->World->Prop) (N:Nat) (v:Value) (u:World) (At:Option Addr) (c:Nat) (st:List (Nat×Nat)) (pre:List Nat):Prop where
  v:v=.slice At st.length c
  own:OwnK KN u At c (st.map (·.2))
  ge:∀ k,ownB At k->W.heap.size<=k
  tr:∀ p∈st,isTree A p
  xs:xs=pre++restOf A st
  n:N=(restOf A st).length
  j:J pre u
  fr:Fr (fun k=>T k\/W.heap.size<=k) W u
  len:pre.length+st.length<=1048576
set_option maxHeartbeats 200000 in
theorem all1_spec {R M:Nat->Prop} {W:World} {g:Nat} {A:Ar} (h:Ar1 R M W g A) {H i:Nat} (ht:isTree A (H,i)) (hlen:(allF H A i).length<=1000000) {b1 b2 l:Nat} (hb1:Blk W b1 [iv i]) (hb2:Blk W b2 [.pointer (some ⟨g,0,none⟩)]) (T:Nat->Prop) (hT:∀ k,T k->k<W.heap.size/\¬ R k/\k≠b2)
    (J:List Nat->World->Prop) (hJ:∀ pre U U',J pre U->Fr (fun k=>W.heap.size<=k) U U'->J pre U')
    (hY:∀ pre x rest U,allF H A i=pre++x::rest->J pre U->YieldAt Fence.wide 0 Tryz.prog l #[iv x] U fun e U'=>e=.returned (.bool true)/\J (pre++[x]) U'/\Fr T U U') (h0:J [] W) :
    CallsIn Fence.wide 0 Tryz.prog 103 (#[.func (.yield l) #[] #[]]++#[.pointer (some ⟨b1,0,none⟩),.pointer (some ⟨b2,0,none⟩)]) W fun e U=>(∃ v,e=.returned v)/\J (allF H A i) U:=by
  generalize hxs:allF H A i=xs at *
  refine callsIn_of_wp Tryz.func103 all_body trivial ?_ rfl
  simp only [Tryz.ntmps103,List.size_toArray,List.length_cons,List.length_nil,Nat.reduceAdd,Nat.reduceSub,Array.replicate_succ,Array.replicate_zero,List.push_toArray,List.append_toArray,List.nil_append,List.cons_append]
  refine wpIn_seq ?_
  obtain ⟨e0,he0⟩:∃ e0:Value,e0=.func (.yield l) #[] #[]:=⟨_,rfl⟩
  have ag0:∀ {a:Act},a.defers=[]->a.tmps.size=37->a.tmps[0]?=some e0->a.tmps[1]?=some (.pointer (some ⟨b1,0,none⟩))->a.tmps[2]?=some (.pointer (some ⟨b2,0,none⟩))->Agrees 37 (Env.set (Env.set (Env.set (fun _=>none) 0 (some e0)) 1 (some (.pointer (some ⟨b1,0,none⟩)))) 2 (some (.pointer (some ⟨b2,0,none⟩)))) a:=by
    intro a h1 h2 h3 h4 h5
    refine ⟨h1,h2,fun t v hv=>?_⟩
    rcases set_get hv with ⟨e,hv2⟩|hv2
    · rw [e,h5,hv2]
    rcases set_get hv2 with ⟨e,hv3⟩|hv3
    · rw [e,h4,hv3]
    rcases set_get hv3 with ⟨e,hv4⟩|hv4
    · rw [e,h3,hv4]
    · cases hv4
  have agS:∀ {ρ:Env} {a:Act} {t:Nat} {v:Value},Agrees 37 ρ a->a.tmps[t]?=some v->Agrees 37 (Env.set ρ t (some v)) a:=by
    intro ρ a t v h1 h2
    refine ⟨h1.defers,h1.size,fun u x hx=>?_⟩
    rcases set_get hx with ⟨e,hx2⟩|hx2
    · rw [e,h2,hx2]
    · exact h1.at_ _ _ hx2
  have hM:=h.mlt
  have hRlt:=h.lt
  have hb1lt:=hb1.lt
  have hb2lt:=hb2.lt
  refine piece all0 (K:=kV 4 fun v w=>∃ gb,v=.slice (some ⟨gb,0,none⟩) 1 1/\Fresh W gb w [iv i] 3) (ρ:=Env.set (Env.set (Env.set (fun _=>none) 0 (some e0)) 1 (some (.pointer (some ⟨b1,0,none⟩)))) 2 (some (.pointer (some ⟨b2,0,none⟩)))) ?_ (ag0 rfl rfl (by rw [he0];rfl) rfl rfl) ?_
  · rw [<- all0R.eq e0 ⟨b1,0,none⟩ ⟨b2,0,none⟩ W (fun v w=>∃ gb,v=.slice (some ⟨gb,0,none⟩) 1 1/\Fresh W gb w [iv i] 3)]
    unfold all0R.W
    exact ⟨_,hb1.cell0 rfl,fun gb w' f=>⟨gb,rfl,f⟩⟩
  rintro e a w1 hsame ⟨ρ',hag,hK⟩ hp ho
  · obtain ⟨rfl,_,hρ,gb,rfl,f1⟩:=kV_elim hK
    have hk0:a.tmps[0]?=some e0:=(offs_keep offs0 hsame (t:=0) (by simp)).trans (by rw [he0];rfl)
    have hk1:a.tmps[1]?=some (.pointer (some ⟨b1,0,none⟩)):=(offs_keep offs0 hsame (t:=1) (by simp)).trans rfl
    have hk2:a.tmps[2]?=some (.pointer (some ⟨b2,0,none⟩)):=(offs_keep offs0 hsame (t:=2) (by simp)).trans rfl
    show Code.wpIn _ _ _ _ _ _ _
    refine wpIn_block ?_
    have e1:=f1.ext
    have own0:OwnK KN w1 (some ⟨gb,0,none⟩) 1 [i]:=by
      obtain ⟨rfl,rfl⟩:=f1
      exact ownK_lit (K:=KN) (l:=[i]) (cs:=[iv i]) rfl (by simp [maxLen]) (fun j a hj=>by cases j with|zero=>simp at hj;subst hj;rfl|succ j=>simp at hj)
    refine wpIn_loop (fun a u=>a.defers=[]/\a.tmps.size=37/\a.tmps[0]?=some e0/\a.tmps[1]?=some (.pointer (some ⟨b1,0,none⟩))/\a.tmps[2]?=some (.pointer (some ⟨b2,0,none⟩))/\∃ v,a.tmps[4]?=some v/\∃ N At c st pre,AllRel R M T W g A xs J N v u At c st pre)
      (fun a u=>leastN fun N=>∃ v,a.tmps[4]?=some v/\∃ At c st pre,AllRel R M T W g A xs J N v u At c st pre) ?_ ?_
    · refine ⟨hag.defers,hag.size,hk0,hk1,hk2,_,hag.at_ 4 _ hρ,_,some ⟨gb,0,none⟩,1,[(H,i)],[],rfl,own0,fun k hk=>by rw [ownB_some] at hk;subst hk;exact f1.ge,fun p hp=>by simp at hp;subst hp;exact ht,by rw [<- hxs];simp [restOf],rfl,hJ _ _ _ h0 e1.fr,e1.fr,by simp⟩
    · rintro a u ⟨had,hasz,ha0,ha1,ha2,v,hv,hN⟩
      have hex:∃ N,∃ v,a.tmps[4]?=some v/\∃ At c st pre,AllRel R M T W g A xs J N v u At c st pre:=by obtain ⟨N,hN⟩:=hN;exact ⟨N,v,hv,hN⟩
      obtain ⟨⟨v',hv',At,c,st,pre,hR⟩,hmin⟩:=leastN_spec hex
      rw [hv] at hv';cases hv'
      generalize hN0:(leastN fun N=>∃ v,a.tmps[4]?=some v/\∃ At c st pre,AllRel R M T W g A xs J N v u At c st pre)=N0 at *
      obtain rfl:=hR.v
      have agA:=agS (ag0 had hasz ha0 ha1 ha2) hv
      refine wpIn_seq ?_
      refine piece all1 (K:=fun e ρ w=>w=u/\((e=.normal/\0<st.length)\/(e=.exit 0/\st.length=0))) ?_ agA ?_
      · rw [<- all1R.eq e0 ⟨b1,0,none⟩ ⟨b2,0,none⟩ At st.length c u (fun e w=>w=u/\((e=.normal/\0<st.length)\/(e=.exit 0/\st.length=0)))]
        unfold all1R.W
        exact brd (fun hlt=>⟨rfl,.inl ⟨rfl,by omega⟩⟩) (fun hge=>⟨rfl,.inr ⟨rfl,by omega⟩⟩)
      rintro e a1 u1 hs1 ⟨ρ1,hag1,rfl,hK⟩ hp1 ho1
      rcases hK with ⟨rfl,hpos⟩|⟨rfl,hzero⟩
      · -- one place more
        have k0:a1.tmps[0]?=some e0:=(offs_keep offs1 hs1 (t:=0) (by simp)).trans ha0
        have k1:a1.tmps[1]?=some (.pointer (some ⟨b1,0,none⟩)):=(offs_keep offs1 hs1 (t:=1) (by simp)).trans ha1
        have k2:a1.tmps[2]?=some (.pointer (some ⟨b2,0,none⟩)):=(offs_keep offs1 hs1 (t:=2) (by simp)).trans ha2
        have k4:=(offs_keep offs1 hs1 (t:=4) (by simp)).trans hv
        obtain ⟨st',p,rfl⟩:∃ st' p,st=st'++[p]:=⟨st.dropLast,st.getLast (List.length_pos_iff.1 hpos),(List.dropLast_concat_getLast _).symm⟩
        obtain ⟨n,kk,hnd,hna,hpk,hall,hkids⟩:=(hR.tr p (by simp)).step
        have hlst:(st'++[p]).length=st'.length+1:=by simp
        have e1':IntKind.i64.wrap (((st'++[p]).length:Int)-1)=((st'.length:Nat):Int):=by rw [hlst,wi _ (by omega) (by have:=hR.len;rw [hlst] at this;omega)];omega
        have hle:st'.length+1<=c:=by have:=hR.own.le;simpa using this
        have hfr:=hR.fr
        have b2u:Blk u1 b2 [.pointer (some ⟨g,0,none⟩)]:=hb2.keep hfr (fun h=>h.elim (fun h=>(hT _ h).2.2 rfl) (fun h=>by omega))
        have hAu:Ar1 R M u1 g A:=h.frame hfr (fun k hk hs=>hs.elim (fun h=>(hT _ h).2.1) (fun h=>by have:W.heap.size<=k:=h;intro hr;have:=hRlt k hr;omega))
        obtain ⟨xs0,hx0,hxf⟩:=(ownK1 oneN).1 hR.own
        have hcell:∃ gA,At=some ⟨gA,0,none⟩/\u1.cell? ⟨gA,st'.length,none⟩=some (iv p.2):=by
          obtain ⟨vv,hvv,hrr⟩:=hxf.get (i:=st'.length) (a:=p.2) (by simp)
          have hrr:[vv]=[iv p.2]:=hrr
          cases hrr
          exact hx0.cells hvv
        obtain ⟨gA,rfl,hcell⟩:=hcell
        show Code.wpIn _ _ _ _ _ _ _
        refine wpIn_block (wpIn_seq ?_)
        refine piece all2 (K:=kV 5 fun v w=>v=iv p.2/\w=u1) ?_ (agS (ag0 hag1.defers hag1.size k0 k1 k2) k4) ?_
        · rw [<- all2R.eq e0 ⟨b1,0,none⟩ ⟨b2,0,none⟩ (some ⟨gA,0,none⟩) (st'++[p]).length c u1 (fun v w=>v=iv p.2/\w=u1)]
          unfold all2R.W
          rw [e1']
          exact ⟨_,rfl,⟨by omega,by omega⟩,_,by rw [add_new,Nat.zero_add,Int.toNat_natCast,Nat.mul_one];exact hcell,rfl,rfl⟩
        rintro e a2 u2 hs2 ⟨ρ2,hag2,hK2⟩ hp2 ho2
        · obtain ⟨rfl,_,hρ5,rfl,rfl⟩:=kV_elim hK2
          have m0:=(offs_keep offs2 hs2 (t:=0) (by simp)).trans k0
          have m1:=(offs_keep offs2 hs2 (t:=1) (by simp)).trans k1
          have m2:=(offs_keep offs2 hs2 (t:=2) (by simp)).trans k2
          have m4:=(offs_keep offs2 hs2 (t:=4) (by simp)).trans k4
          have m5:=hag2.at_ 5 _ hρ5
          show Code.wpIn _ _ _ _ _ _ _
          refine wpIn_seq ?_
          have hAu2:=hAu
          obtain ⟨At0,ac,Fa,fc,mb,ha⟩:=hAu2
          obtain ⟨hil,ga,bn,A1,c1,A2,c2,A3,c3,rfl,hcn,hN⟩:=ha.node hnd
          have hcl:=hN.okn.c
          have hrl:(restOf A (st'++[p])).length<=xs.length:=by rw [hR.xs,List.length_append];omega
          have hrp:=restOf_pop A st' p
          have hex2:xs=pre++p.2::(n.kids.reverse.flatMap (allF kk A)++restOf A st'):=by rw [hR.xs,hrp,hall];rfl
          have hst':st'.length+pre.length<=1048576:=by have:=hR.len;rw [hlst] at this;omega
          obtain ⟨v',w3,hap,hown3,hg3⟩:∃ v' w3,(∃ At' c',v'=.slice At' (st'++n.kids.map fun j=>(kk,j)).length c'/\OwnK KN w3 At' c' ((st'++n.kids.map fun j=>(kk,j)).map (·.2))/\∀ k,ownB At' k->W.heap.size<=k)/\RunsTo Tryz.prog (Builtin.append_ #[39,39] 39 #[.slice (some ⟨gA,0,none⟩) st'.length c,.slice A3 n.kids.length c3]) u2.drew v' w3/\Fr (fun k=>W.heap.size<=k) u2.drew w3:=by
            have ot:=hR.own.take st'.length (by simp)
            have e3:((st'++[p]).map (·.2)).take st'.length=st'.map (·.2):=by simp
            rw [e3] at ot
            have hk3:Imm KN (ownB (some ⟨gA,0,none⟩)) u2 A3 n.kids:=by
              intro ii aa haa
              obtain ⟨ad,h1,h2,cs,h3,h4⟩:=hN.kids ii aa haa
              refine ⟨ad,h1,fun hk=>?_,cs,h3,h4⟩
              have hge:=hR.ge _ hk
              exact h2 (.inl fun hr=>by have:=hRlt _ hr;omega)
            obtain ⟨At',c',w3,hr3,ho3,gr3⟩:=(ot.ext (Fr.drew NoB u2)).append (K:=KN) slI (ty:=39) (cb:=c3) (hk3.keep KN_pos ((Fr.drew NoB u2).step (Ω:=ownB (some ⟨gA,0,none⟩)) (Ω':=ownB (some ⟨gA,0,none⟩)) (fun _ _ h=>h.elim) (fun _ _ h=>h))) (fun a cs h=>oneN.one h) (by simp only [maxLen,List.length_map];omega) (by simp only [List.length_map];omega)
            refine ⟨_,w3,⟨At',c',?_,?_,fun k hk=>?_⟩,by rw [List.length_map] at hr3;exact hr3,gr3.fr.mono fun k _ hk=>hR.ge k hk⟩
            · simp
            · have:(st'++n.kids.map fun j=>(kk,j)).map (·.2)=st'.map (·.2)++n.kids:=by simp [Function.comp_def]
              rw [this];exact ho3
            · rcases gr3.sub k hk with h|h
              · exact hR.ge k h
              · exact Nat.le_trans hfr.size h
          obtain ⟨At',c',rfl,hown',hge'⟩:=hap
          refine piece all3 (K:=kV 4 fun v w=>v=.slice At' (st'++n.kids.map fun j=>(kk,j)).length c'/\w=w3) ?_ (agS (agS (ag0 hag2.defers hag2.size m0 m1 m2) m4) m5) ?_
          · rw [<- all3R.eq e0 ⟨b1,0,none⟩ ⟨b2,0,none⟩ (some ⟨gA,0,none⟩) (st'++[p]).length c (p.2:Int) u2 (fun v w=>v=.slice At' (st'++n.kids.map fun j=>(kk,j)).length c'/\w=w3)]
            unfold all3R.W
            rw [e1',Int.toNat_natCast,Int.toNat_natCast,cutAt_zero,Nat.sub_zero,Nat.sub_zero]
            have s0:Fr (fun k=>W.heap.size<=k) u2 u2.drew:=Fr.drew _ u2
            have rd:∀ {ad:Addr} {v:Value},u2.cell? ad=some v->ad.block<W.heap.size->∀ x,Fr (fun k=>W.heap.size<=k) u2 x->x.cell? ad=some v:=fun h1 h2 x hx=>hx.cell (by show ¬ W.heap.size<=_;omega) h1
            have rb:∀ {k:Nat},R k->k<W.heap.size:=fun hr=>hRlt _ hr
            have rbn:R bn:=Classical.byContradiction fun hr=>hN.off (.inl hr)
            refine ⟨⟨by omega,by omega⟩,fun v=>Fr (fun k=>W.heap.size<=k) u2 v,s0,_,rd (b2u.cell0 rfl) hb2lt,_,rfl,_,_,_,rd (ad:=(⟨g,0,none⟩:Addr).add 2) (ha.blk.cell rfl) (by rw [add_block];exact rb (ha.mr _ ha.mg)),_,rfl,⟨by omega,by omega⟩,_,?_,_,rfl,A3,n.kids.length,c3,rd (ad:=(⟨bn,0,none⟩:Addr).add 2) (hN.blk.cell rfl) (by rw [add_block];exact rb rbn),_,_,_,w3,hown3,s0.trans hg3 (fun _ _ h=>h) (fun _ _ h=>h),rfl,rfl⟩
            refine rd (by rw [add_new,Nat.zero_add,Nat.mul_one];exact hcn) ?_
            rw [add_block];exact rb (ha.mr _ (ha.mA _ ⟨_,rfl,rfl⟩))
          rintro e a3 u3 hs3 ⟨ρ3,hag3,hK3⟩ hp3 ho3
          obtain ⟨rfl,_,hρ4,rfl,rfl⟩:=kV_elim hK3
          have q0:=(offs_keep offs3 hs3 (t:=0) (by simp)).trans m0
          have q1:=(offs_keep offs3 hs3 (t:=1) (by simp)).trans m1
          have q2:=(offs_keep offs3 hs3 (t:=2) (by simp)).trans m2
          have q5:=(offs_keep offs3 hs3 (t:=5) (by simp)).trans m5
          have q4:=hag3.at_ 4 _ hρ4
          obtain ⟨x0,x1,x2,x3,x4,x5,x6,x7,x8,x9,x10,x11,x12,x13,x14,x15,x16,x17,x18,x19,x20,x21,x22,x23,x24,x25,x26,x27,x28,x29,x30,x31,x32,x33,x34,x35,x36,rfl⟩:=list37 hag3.size hag3.defers
          simp only [List.getElem?_toArray,List.getElem?_cons_zero,List.getElem?_cons_succ,Option.some.injEq] at q0 q1 q2 q4 q5
          subst q0;subst q1;subst q2;subst q4;subst q5
          subst he0
          have hg30:Fr (fun k=>W.heap.size<=k) u2 u3:=(Fr.drew _ u2).trans hg3 (fun _ _ h=>h) (fun _ _ h=>h)
          have hJ3:J pre u3:=hJ _ _ _ hR.j hg30
          obtain ⟨fnn,tmps,assign,body,hy,hRo⟩:=hY pre p.2 _ u3 hex2 hJ3
          have hy:(Instr.yield l #[.int .i64 (p.2:Int)]).run Tryz.prog u3=.ok (.round l fnn tmps assign body) u3:=hy
          show Code.wpIn _ _ _ _ _ _ _
          simp only [all4,Tryz.f103]
          gi_wp2
          refine ⟨rfl,hRo.mono ?_⟩
          rintro e U' ⟨rfl,hJ',hFr⟩
          gi_wp2
          have hlr:=restOf_len A (st'++n.kids.map fun j=>(kk,j))
          have hrn:restOf A (st'++n.kids.map fun j=>(kk,j))=n.kids.reverse.flatMap (allF kk A)++restOf A st':=restOf_push A st' kk n.kids
          have hnew:AllRel R M T W g A xs J (restOf A (st'++n.kids.map fun j=>(kk,j))).length (.slice At' (st'.length+n.kids.length) c') U' At' c' (st'++n.kids.map fun j=>(kk,j)) (pre++[p.2]):=by
            have hxs2:xs=(pre++[p.2])++restOf A (st'++n.kids.map fun j=>(kk,j)):=by rw [hrn,hex2];simp
            refine ⟨by simp,hown'.fr hFr (fun k hk hk'=>by have:=hge' k hk;have:=(hT k hk').1;omega) (fun _ _ _ h=>h),hge',fun q hq=>?_,hxs2,rfl,hJ',(hfr.trans hg30 (S'':=fun k=>T k\/W.heap.size<=k) (fun _ _ h=>h) (fun _ _ h=>.inr h)).trans hFr (fun _ _ h=>h) (fun _ _ h=>.inl h),?_⟩
            · rcases List.mem_append.1 hq with hq|hq
              · exact hR.tr q (List.mem_append_left _ hq)
              · obtain ⟨j,hj,rfl⟩:=List.mem_map.1 hq;exact hkids j hj
            · have:=congrArg List.length hxs2
              rw [List.length_append] at this
              omega
          refine ⟨⟨trivial,rfl,rfl,rfl,rfl,_,rfl,_,At',c',_,_,hnew⟩,?_⟩
          refine Nat.lt_of_le_of_lt ((leastN_spec ⟨_,_,rfl,At',c',_,_,hnew⟩).2 _ ⟨_,rfl,At',c',_,_,hnew⟩) ?_
          rw [hR.n,hrp,hall,hrn]
          simp
      · -- all have come
        have hst0:st=[]:=List.eq_nil_of_length_eq_zero hzero
        subst hst0
        have hx:xs=pre:=by rw [hR.xs];simp [restOf]
        simp only [Exit.then,Exit.inBlock,if_true]
        exact ⟨hag1.defers,_,results_none rfl _ _ _,⟨_,rfl⟩,by rw [hx];exact hR.j⟩
end Go.Proofs.YthfagbfllheneaaGreat
set_option linter.unusedVariables false
set_option linter.unusedSimpArgs false
namespace Go.Proofs.YthfagbfllheneaaGreat
open Go Go.Sx T4
open Go.RowKit Go.Shelf
attribute [local go_sem] Oper.semAt_some
theorem allF_len (H:Nat) {A:Ar} {mn:Nat×Nat} {i:Nat} {lo hi:Option Key} {es:Es} {ps:List Nat} (h:Tree A.nd A.fan H mn i lo hi es ps):(allF H A i).length=ps.length:=by
  have:(allF H A i).Perm ps:=List.perm_iff_count.2 (all_count H h)
  exact this.length_eq
theorem all_in (w:World) (g i:Nat):CallsIn Fence.wide 0 Tryz.prog 79 #[.pointer (some ⟨g,0,none⟩),.int .i64 (i:Int)] w fun e w'=>∃ b1 b2,e=.returned (.func (.func 103) #[] #[.pointer (some ⟨b1,0,none⟩),.pointer (some ⟨b2,0,none⟩)])/\Blk w' b1 [iv i]/\Blk w' b2 [.pointer (some ⟨g,0,none⟩)]/\Ext w w'/\w.heap.size<=b1/\w.heap.size<=b2/\b1≠b2:=by
  refine callsIn_wide.2 (Calls.mono (all_spec g i) ?_)
  rintro e w' ⟨v,rfl,b1,b2,rfl,h⟩
  exact ⟨b1,b2,rfl,h⟩
end Go.Proofs.YthfagbfllheneaaGreat
set_option linter.unusedVariables false
set_option linter.unusedSimpArgs false
namespace Go.Proofs.YthfagbfllheneaaGreat
open Go Go.Sx T4
open Go.RowKit Go.Shelf
attribute [local go_sem] Oper.semAt_some
theorem made_in {R M:Nat->Prop} {w:World} {g:Nat} {A:Ar} (h:Ar1 R M w g A) (hf:0<A.fan):CallsIn Fence.wide 0 Tryz.prog 83 #[.pointer (some ⟨g,0,none⟩)] w fun e w'=>e=.returned (.bool true)/\w'=w:=by
  refine callsIn_wide.2 (Calls.mono (made_spec h hf) ?_)
  rintro e w' ⟨v,rfl,rfl,rfl⟩
  exact ⟨rfl,rfl⟩
theorem list40 {a:Act} (h:a.tmps.size=40):∃ x0 x1 x2 x3 x4 x5 x6 x7 x8 x9 x10 x11 x12 x13 x14 x15 x16 x17 x18 x19 x20 x21 x22 x23 x24 x25 x26 x27 x28 x29 x30 x31 x32 x33 x34 x35 x36 x37 x38 x39,a.tmps=#[x0,x1,x2,x3,x4,x5,x6,x7,x8,x9,x10,x11,x12,x13,x14,x15,x16,x17,x18,x19,x20,x21,x22,x23,x24,x25,x26,x27,x28,x29,x30,x31,x32,x33,x34,x35,x36,x37,x38,x39]:=by
  obtain ⟨⟨l⟩,d⟩:=a
  replace h:l.length=40:=h
  obtain ⟨x0,l0,rfl,h0⟩:=cons_of h
  obtain ⟨x1,l1,rfl,h1⟩:=cons_of h0
  obtain ⟨x2,l2,rfl,h2⟩:=cons_of h1
  obtain ⟨x3,l3,rfl,h3⟩:=cons_of h2
  obtain ⟨x4,l4,rfl,h4⟩:=cons_of h3
  obtain ⟨x5,l5,rfl,h5⟩:=cons_of h4
  obtain ⟨x6,l6,rfl,h6⟩:=cons_of h5
  obtain ⟨x7,l7,rfl,h7⟩:=cons_of h6
  obtain ⟨x8,l8,rfl,h8⟩:=cons_of h7
  obtain ⟨x9,l9,rfl,h9⟩:=cons_of h8
  obtain ⟨x10,l10,rfl,h10⟩:=cons_of h9
  obtain ⟨x11,l11,rfl,h11⟩:=cons_of h10
  obtain ⟨x12,l12,rfl,h12⟩:=cons_of h11
  obtain ⟨x13,l13,rfl,h13⟩:=cons_of h12
  obtain ⟨x14,l14,rfl,h14⟩:=cons_of h13
  obtain ⟨x15,l15,rfl,h15⟩:=cons_of h14
  obtain ⟨x16,l16,rfl,h16⟩:=cons_of h15
  obtain ⟨x17,l17,rfl,h17⟩:=cons_of h16
  obtain ⟨x18,l18,rfl,h18⟩:=cons_of h17
  obtain ⟨x19,l19,rfl,h19⟩:=cons_of h18
  obtain ⟨x20,l20,rfl,h20⟩:=cons_of h19
  obtain ⟨x21,l21,rfl,h21⟩:=cons_of h20
  obtain ⟨x22,l22,rfl,h22⟩:=cons_of h21
  obtain ⟨x23,l23,rfl,h23⟩:=cons_of h22
  obtain ⟨x24,l24,rfl,h24⟩:=cons_of h23
  obtain ⟨x25,l25,rfl,h25⟩:=cons_of h24
  obtain ⟨x26,l26,rfl,h26⟩:=cons_of h25
  obtain ⟨x27,l27,rfl,h27⟩:=cons_of h26
  obtain ⟨x28,l28,rfl,h28⟩:=cons_of h27
  obtain ⟨x29,l29,rfl,h29⟩:=cons_of h28
  obtain ⟨x30,l30,rfl,h30⟩:=cons_of h29
  obtain ⟨x31,l31,rfl,h31⟩:=cons_of h30
  obtain ⟨x32,l32,rfl,h32⟩:=cons_of h31
  obtain ⟨x33,l33,rfl,h33⟩:=cons_of h32
  obtain ⟨x34,l34,rfl,h34⟩:=cons_of h33
  obtain ⟨x35,l35,rfl,h35⟩:=cons_of h34
  obtain ⟨x36,l36,rfl,h36⟩:=cons_of h35
  obtain ⟨x37,l37,rfl,h37⟩:=cons_of h36
  obtain ⟨x38,l38,rfl,h38⟩:=cons_of h37
  obtain ⟨x39,l39,rfl,h39⟩:=cons_of h38
  obtain rfl:=List.eq_nil_of_length_eq_zero h39
  exact ⟨_,_,_,_,_,_,_,_,_,_,_,_,_,_,_,_,_,_,_,_,_,_,_,_,_,_,_,_,_,_,_,_,_,_,_,_,_,_,_,_,rfl⟩
def Marks (B:Nat) (ds:List Deferred) (w:World):Prop:=(∀ d∈ds,∃ D,d={ target:=.collected D,args:=#[] }/\B<=D/\w.heap[D]?=some (.deferred (some [])))/\ds.Pairwise fun a b=>a≠b
theorem Marks.keep {B:Nat} {ds:List Deferred} {w w':World} (h:Marks B ds w) {S:Nat->Prop} (hf:Fr S w w') (hS:∀ k,S k->∀ o,w.heap[k]?=some o->o≠.deferred (some [])):Marks B ds w':=by
  refine ⟨fun d hd=>?_,h.2⟩
  obtain ⟨D,e,h1,h2⟩:=h.1 d hd
  exact ⟨D,e,h1,(hf.block D (Array.getElem?_eq_some_iff.1 h2).1 fun hs=>hS D hs _ h2 rfl).trans h2⟩
theorem leaves_marks {fn:Func} {tmps:Array Value} {R:Ending->World->Prop} {v:Value} (hv:∀ w,(results fn tmps).run Tryz.prog w=.ok v w) {B:Nat} {w0:World} (hB:w0.heap.size<=B) (hR:∀ w,Ext w0 w->R (.returned v) w):∀ (ds:List Deferred) (w:World),Marks B ds w->Ext w0 w->LeavesInM Fence.wide 0 Tryz.prog fn tmps R ds .returning w
  | [],w,_,e=>⟨v,hv w,hR w e⟩
  | d::ds,w,hm,e=>by
    obtain ⟨D,rfl,hD,hd⟩:=hm.1 d (by simp)
    have f:Fr (fun k=>k=D) w (w.putObj D (.deferred none)):=Fr.putObj w _ _ rfl
    have hp:=List.pairwise_cons.1 hm.2
    refine ⟨by simp,.inl ⟨D,_,rfl,run_takeDeferred hd,leaves_marks hv hB hR ds _ ⟨fun d' hd'=>?_,hp.2⟩ ⟨f.os.trans e.os,f.tape.trans e.tape,f.output.trans e.output,Nat.le_trans e.size f.size,fun k hk _=>(f.block k (Nat.lt_of_lt_of_le hk e.size) (by show ¬ k=D;omega)).trans (e.block k hk fun h=>h)⟩⟩⟩
    obtain ⟨D',rfl,h1,h2⟩:=hm.1 d' (by simp [hd'])
    refine ⟨D',rfl,h1,(f.block D' (Array.getElem?_eq_some_iff.1 h2).1 fun e=>?_).trans h2⟩
    have e:D'=D:=e
    subst e
    exact hp.1 _ hd' rfl
theorem range_run {W:World} {mb:Nat} {es:Array MapEntry} {clock:Nat} (h:W.heap[mb]?=some (.map es clock)):(Instr.range 127 (.map (some mb))).run Tryz.prog W=.ok (.pointer (some ⟨W.heap.size,0,none⟩)) (W.alloc (.mapIter (some mb) clock #[] clock)):=by
  have ht:und Tryz.prog 127=some (.map 3 3):=by kernel_rfl
  simp only [Instr.range,Sem.run_bind,run_und ht,Result.andThen_ok,getObj,Sem.run,h,newObj]
  rfl
def cntV (cnt:Nat->Nat):Value->Nat
  | .int _ i=>cnt i.toNat
  | _=>0
def totS (cnt:Nat->Nat) (es:Array MapEntry) (seen:Array Nat):Nat:=((es.toList.filter fun e=>seen.contains e.born).map fun e=>cntV cnt e.val).sum
theorem tot_add (cnt:Nat->Nat) (l:List MapEntry) (seen:Array Nat) (e:MapEntry) (he:e∈l) (hs:seen.contains e.born=false) (hn:(l.map (·.born)).Nodup) :
    ((l.filter fun x=>(seen.push e.born).contains x.born).map fun x=>cntV cnt x.val).sum=((l.filter fun x=>seen.contains x.born).map fun x=>cntV cnt x.val).sum+cntV cnt e.val:=by
  induction l with
  | nil=>cases he
  | cons x l ih =>
    rw [List.map_cons,List.nodup_cons] at hn
    have hc:(seen.push e.born).contains x.born=(seen.contains x.born || x.born == e.born):=contains_push seen e.born x.born
    rw [List.filter_cons,List.filter_cons,hc]
    rcases List.mem_cons.1 he with rfl|he
    · have hrest:(l.filter fun y=>(seen.push e.born).contains y.born)=l.filter fun y=>seen.contains y.born:=by
        apply List.filter_congr
        intro y hy
        have:(y.born == e.born)=false:=by
          simp only [beq_eq_false_iff_ne]
          intro heq
          exact hn.1 (List.mem_map.2 ⟨y,hy,heq⟩)
        rw [contains_push,this,Bool.or_false]
      rw [hs,hrest];simp;omega
    · have hne:(x.born == e.born)=false:=by
        simp only [beq_eq_false_iff_ne]
        intro heq
        exact hn.1 (List.mem_map.2 ⟨e,he,heq.symm⟩)
      rw [hne,Bool.or_false]
      cases seen.contains x.born with
      | true=>simp only [if_true,List.map_cons,List.sum_cons];rw [ih he hn.2];omega
      | false=>simp only [Bool.false_eq_true,if_false];exact ih he hn.2
theorem setBlock_fr (w:World) (r:Nat) (o:Obj):Fr (fun k=>k=r) w (ChangeMaps.setBlock w r o):=⟨rfl,rfl,rfl,by simp [ChangeMaps.setBlock],fun k _ hk=>by simp [ChangeMaps.setBlock,Array.getElem?_setIfInBounds_ne (Ne.symm hk)]⟩
structure Whole (A:Ar) (cnt:Nat->Nat):Prop where
  tr:∀ p∈A.trees,∃ H es ps,Tree A.nd A.fan H (0,2) p.2 none none es ps/\ps.length=cnt p.2/\ps.length<=A.at_.length
  sum:(A.trees.map fun p=>cnt p.2).sum=A.nodes
  le:A.nodes<=A.most
  f1:4<=A.fan
  f2:A.fan<=64
  free:A.free.length<=A.at_.length
  len:A.at_.length<=131072
theorem shape_in {R M:Nat->Prop} {w:World} {g:Nat} {A:Ar} (h:Ar1 R M w g A) {H i:Nat} {es:Es} {ps:List Nat} (ht:Tree A.nd A.fan H (0,2) i none none es ps) (hf:A.fan<=64) (hH:H<=1048576):CallsIn Fence.wide 0 Tryz.prog 101 #[.pointer (some ⟨g,0,none⟩),.int .i64 (i:Int),.slice none 0 0,.slice none 0 0,.bool true] w fun e w'=>e=.returned (.int .i64 (H:Int))/\Ext w w':=by
  refine callsIn_wide.2 (Calls.mono (shape_spec H true 0 0 h ht hf hH (fun _=>Nat.le_refl _) (fun h=>by cases h) (.inl rfl) (.inl rfl)) ?_)
  rintro e w' ⟨v,rfl,rfl,he⟩
  exact ⟨rfl,he⟩
theorem chk_sel:noSel chkOps=true:=by kernel_rfl
theorem ents {A:Ar} {es:Array MapEntry} (h:es.toList.map (fun e=>(e.key,e.val))=(mapE A.trees).map (fun p=>(fI p.1,p.2))) :
    (∀ e∈es.toList,∃ p∈A.trees,e.val=iv p.2)/\∀ cnt:Nat->Nat,(es.toList.map fun e=>cntV cnt e.val)=A.trees.map fun p=>cnt p.2:=by
  have h2:es.toList.map (fun e=>e.val)=A.trees.map fun p=>iv p.2:=by
    have:=congrArg (List.map Prod.snd) h
    simpa [mapE,List.map_map,Function.comp_def] using this
  refine ⟨fun e he=>?_,fun cnt=>?_⟩
  · have:e.val∈es.toList.map (fun e=>e.val):=List.mem_map.2 ⟨e,he,rfl⟩
    rw [h2] at this
    obtain ⟨p,hp,h3⟩:=List.mem_map.1 this
    exact ⟨p,hp,h3.symm⟩
  · have:=congrArg (List.map (cntV cnt)) h2
    simpa [List.map_map,Function.comp_def,cntV] using this
theorem sum_filter_le (l:List MapEntry) (f:MapEntry->Nat) (p:MapEntry->Bool):((l.filter p).map f).sum<=(l.map f).sum:=by
  induction l with
  | nil=>simp
  | cons x l ih =>
    rw [List.filter_cons]
    cases p x with
    | true=>simp only [if_true,List.map_cons,List.sum_cons];omega
    | false=>simp only [Bool.false_eq_true,if_false,List.map_cons,List.sum_cons];omega
theorem tot_le (cnt:Nat->Nat) (es:Array MapEntry) (seen:Array Nat):totS cnt es seen<=(es.toList.map fun e=>cntV cnt e.val).sum:=sum_filter_le _ _ _
theorem tot_all (cnt:Nat->Nat) {es:Array MapEntry} {seen:Array Nat} (h:(leftOf es seen).size=0):totS cnt es seen=(es.toList.map fun e=>cntV cnt e.val).sum:=by
  unfold totS
  congr 2
  refine List.filter_eq_self.2 fun e he=>?_
  have:leftOf es seen=#[]:=Array.eq_empty_of_size_eq_zero h
  unfold leftOf at this
  rw [Array.filter_eq_empty_iff] at this
  simpa using this e (by simpa using he)
theorem left_lt {es:Array MapEntry} {seen:Array Nat} {e:MapEntry} (he:e∈es.toList) (hs:seen.contains e.born=false):(leftOf es (seen.push e.born)).size<(leftOf es seen).size:=by
  have e1:∀ s:Array Nat,(leftOf es s).size=(es.toList.filter fun e=>!s.contains e.born).length:=fun s=>by
    unfold leftOf
    rw [<- Array.toList_filter,Array.length_toList]
  have e2:(es.toList.filter fun x=>!(seen.push e.born).contains x.born)=(es.toList.filter fun x=>!seen.contains x.born).filter fun x=>!(seen.push e.born).contains x.born:=by
    rw [List.filter_filter]
    refine List.filter_congr fun x _=>?_
    rw [contains_push]
    cases seen.contains x.born<;>cases x.born == e.born<;>rfl
  rw [e1,e1,e2]
  refine List.length_filter_lt_length_iff_exists.2 ⟨e,List.mem_filter.2 ⟨he,by rw [hs];rfl⟩,?_⟩
  rw [contains_push];simp
structure ChkRel (R M:Nat->Prop) (w:World) (g nb it:Nat) (At:Option Addr) (ac:Nat) (Fa:Option Addr) (fc mb:Nat) (A:Ar) (cnt:Nat->Nat) (es:Array MapEntry) (clock:Nat) (N:Nat) (ds:List Deferred) (u:World) (seen:Array Nat) (c0:Nat):Prop where
  it:u.heap[it]?=some (.mapIter (some mb) clock seen c0)
  c0:clock<=c0
  mp:u.heap[mb]?=some (.map es clock)
  n:Blk u nb [iv (totS cnt es seen)]
  a:ArA R M u g At ac Fa fc mb A
  e:Ext w u
  m:Marks w.heap.size ds u
  N:N=(leftOf es seen).size
set_option maxRecDepth 100000 in
set_option maxHeartbeats 2000000 in
theorem Check_in {R M:Nat->Prop} {w:World} {g:Nat} {A:Ar} (h:Ar1 R M w g A) {cnt:Nat->Nat} (Wh:Whole A cnt) :
    CallsIn Fence.wide 0 Tryz.prog 76 #[.pointer (some ⟨g,0,none⟩)] w fun e w'=>∃ v,e=.returned v/\v=.int .i64 0/\Ext w w':=by
  have hf:=Wh.f1
  have hlenA:=Wh.len
  have hRlt:=h.lt
  refine callsIn_of_wp_marks Tryz.func76 chk_body trivial ?_ rfl
  simp only [Tryz.ntmps76,List.size_toArray,List.length_cons,List.length_nil,Nat.reduceAdd,Nat.reduceSub,Array.replicate_succ,Array.replicate_zero,List.push_toArray,List.append_toArray,List.nil_append,List.cons_append]
  simp only [chk0,chk1,chk3,chk4,Tryz.f76]
  gi_wp2
  refine ⟨trivial,rfl,(made_in h (by omega)).mono ?_⟩
  rintro e w' ⟨rfl,hw'⟩
  obtain rfl:w=w':=hw'.symm
  have e1:Ext w (w.alloc (Obj.cells #[Value.int IntKind.i64 0] 3)):=Fr.alloc NoB w _
  have hbn:Blk (w.alloc (Obj.cells #[Value.int IntKind.i64 0] 3)) w.heap.size [.int .i64 0]:=Blk.alloc w [.int .i64 0] 3
  have hs1:(w.alloc (Obj.cells #[Value.int IntKind.i64 0] 3)).heap.size=w.heap.size+1:=by simp
  obtain ⟨At,ac,Fa,fc,mb,ha⟩:=h
  obtain ⟨es,clock,hes,hst⟩:=ha.stm
  have hmbl:=ha.stm.lt
  have ha1:=ha.ext e1
  have hc4:(w.alloc (Obj.cells #[Value.int IntKind.i64 0] 3)).cell? ⟨g,4,none⟩=some (.map (some mb)):=ha1.blk.cell0 rfl
  have hes1:=(e1.block mb hmbl (fun h=>h)).trans hes
  gi_wp2
  rw [range_run hes1]
  generalize hw1:w.alloc (Obj.cells #[Value.int IntKind.i64 0] 3)=w1 at *
  have e2:Ext w1 (w1.alloc (.mapIter (some mb) clock #[] clock)):=Fr.alloc NoB w1 _
  have hit2:(w1.alloc (.mapIter (some mb) clock #[] clock)).heap[w1.heap.size]?=some (.mapIter (some mb) clock #[] clock):=Go.heap_alloc_new w1 _
  gi_wp2
  -- the entries,and the trees
  obtain ⟨es',clock',hes',hmap⟩:=ha.trees
  rw [hes] at hes'
  obtain ⟨rfl,rfl⟩:es=es'/\clock=clock':=by simpa using hes'
  obtain ⟨hborn,hnd,hkeys⟩:=(Go.MapKept.stamped_iff es clock).1 hst
  rw [hs1] at hit2
  refine wpIn_loop (fun a u=>a.tmps.size=40/\a.tmps[0]?=some (.pointer (some ⟨g,0,none⟩))/\a.tmps[2]?=some (.int .i64 0)/\a.tmps[3]?=some (.pointer (some ⟨w.heap.size,0,none⟩))/\a.tmps[13]?=some (.pointer (some ⟨w.heap.size+1,0,none⟩))/\∃ N seen c0,ChkRel R M w g w.heap.size (w.heap.size+1) At ac Fa fc mb A cnt es clock N a.defers u seen c0)
    (fun a u=>leastN fun N=>∃ seen c0,ChkRel R M w g w.heap.size (w.heap.size+1) At ac Fa fc mb A cnt es clock N a.defers u seen c0) ?_ ?_
  · refine ⟨rfl,rfl,rfl,rfl,rfl,_,#[],clock,hit2,Nat.le_refl _,(e2.block mb (by omega) (fun h=>h)).trans hes1,?_,ha1.ext e2,e1.trans' e2,⟨fun d hd=>by (have:d∈([]:List Deferred):=hd);simp at this,List.Pairwise.nil⟩,rfl⟩
    have:totS cnt es #[]=0:=by
      unfold totS
      have:(es.toList.filter fun e=>(#[]:Array Nat).contains e.born)=[]:=List.filter_eq_nil_iff.2 fun e _=>by simp
      rw [this];rfl
    rw [this];exact hbn.ext e2
  · rintro ⟨tmps,ds⟩ u ⟨hsz,t0,t2,t3,t13,hN⟩
    have hex:∃ N,∃ seen c0,ChkRel R M w g w.heap.size (w.heap.size+1) At ac Fa fc mb A cnt es clock N ds u seen c0:=hN
    obtain ⟨⟨seen,c0,hR⟩,hmin⟩:=leastN_spec hex
    generalize hN0:(leastN fun N=>∃ seen c0,ChkRel R M w g w.heap.size (w.heap.size+1) At ac Fa fc mb A cnt es clock N ds u seen c0)=N0 at *
    obtain ⟨x0,x1,x2,x3,x4,x5,x6,x7,x8,x9,x10,x11,x12,x13,x14,x15,x16,x17,x18,x19,x20,x21,x22,x23,x24,x25,x26,x27,x28,x29,x30,x31,x32,x33,x34,x35,x36,x37,x38,x39,hT⟩:=list40 (a:=⟨tmps,ds⟩) hsz
    dsimp only at hT
    subst hT
    simp only [List.getElem?_toArray,List.getElem?_cons_zero,List.getElem?_cons_succ,Option.some.injEq] at t0 t2 t3 t13
    subst t0;subst t2;subst t3;subst t13
    refine wpIn_seq ?_
    simp only [chk5,Tryz.f76]
    gi_wp2
    rcases run_next_at (P:=Tryz.prog) u 0 (w.heap.size+1) mb clock c0 seen es clock hR.it hR.mp hborn hR.c0 with ⟨h0,hrun⟩|⟨e,he,u1,hu1,hrun⟩
    · -- no tree more
      rw [hrun]
      gi_wp2
      have hcnt:totS cnt es seen=A.nodes:=by rw [tot_all cnt h0,(ents hmap).2 cnt,Wh.sum]
      have hag:Agrees 40 (Env.set (Env.set (fun _=>none) 0 (some (.pointer (some ⟨g,0,none⟩)))) 3 (some (.pointer (some ⟨w.heap.size,0,none⟩)))) { tmps:=#[.pointer (some ⟨g,0,none⟩),x1,.int .i64 0,.pointer (some ⟨w.heap.size,0,none⟩),x4,x5,x6,x7,x8,x9,x10,x11,x12,.pointer (some ⟨w.heap.size+1,0,none⟩),.tuple #[.bool false],.bool false,x16,x17,x18,x19,x20,x21,x22,x23,x24,x25,x26,x27,x28,x29,x30,x31,x32,x33,x34,x35,x36,x37,x38,x39],defers:=[] }:=by
        refine ⟨rfl,rfl,fun t v hv=>?_⟩
        rcases set_get hv with ⟨e,hv2⟩|hv2
        · rw [e,<- hv2];rfl
        rcases set_get hv2 with ⟨e,hv3⟩|hv3
        · rw [e,<- hv3];rfl
        · cases hv3
      refine wpIn_mono (region_D okay 11 chkOps ds (kV 39 fun v w'=>v=.bool false/\Ext u w') _ { tmps:=#[.pointer (some ⟨g,0,none⟩),x1,.int .i64 0,.pointer (some ⟨w.heap.size,0,none⟩),x4,x5,x6,x7,x8,x9,x10,x11,x12,.pointer (some ⟨w.heap.size+1,0,none⟩),.tuple #[.bool false],.bool false,x16,x17,x18,x19,x20,x21,x22,x23,x24,x25,x26,x27,x28,x29,x30,x31,x32,x33,x34,x35,x36,x37,x38,x39],defers:=[] } u hag chk_sel ?_) ?_
      · rw [<- chkR.eq]
        unfold chkR.W
        refine ⟨fun v=>Ext u v,Fr.drew NoB u,_,fun v e=>(hR.n.ext e).cell0 rfl,?_⟩
        refine Calls.mono (Nodes_spec ⟨_,_,_,_,_,hR.a.ext (Fr.drew NoB u)⟩ Wh.free (by omega)) ?_
        rintro e' w' ⟨v,rfl,rfl,rfl⟩
        have ed2:Ext u u.drew.drew:=(Fr.drew NoB u).ext (Fr.drew NoB _)
        refine ⟨_,rfl,_,rfl,ed2,brf (by rw [hcnt];simp) ⟨fun v=>Ext u v,ed2,_,fun v e=>(hR.n.ext e).cell0 rfl,_,rfl,_,fun v e=>(hR.a.blk.ext e).cell rfl,?_,ed2⟩⟩
        rw [hcnt]
        have:=Wh.le
        exact congrArg Value.bool (decide_eq_false (by omega))
      · rintro e a' w' ⟨a1,rfl,hq⟩
        cases e with
        | normal =>
          obtain ⟨_,ρ',hag',h5⟩:=hq
          obtain ⟨_,v,hv,rfl,e5⟩:=kV_elim h5
          have h39:=hag'.at_ _ _ hv
          have hsz':=hag'.size
          obtain ⟨y0,y1,y2,y3,y4,y5,y6,y7,y8,y9,y10,y11,y12,y13,y14,y15,y16,y17,y18,y19,y20,y21,y22,y23,y24,y25,y26,y27,y28,y29,y30,y31,y32,y33,y34,y35,y36,y37,y38,y39,hT⟩:=list40 (a:=a1) hsz'
          rw [hT] at h39 ⊢
          simp only [List.getElem?_toArray,List.getElem?_cons_zero,List.getElem?_cons_succ,Option.some.injEq] at h39
          subst h39
          gi_wp2
          simp only [chkC,Tryz.f76]
          gi_wp2
          simp only [chkZ,Tryz.f76]
          gi_wp2
          refine leaves_marks (v:=.int .i64 0) (fun w=>(results_tmp (t:=2) rfl _ _ w).trans rfl) (Nat.le_refl _) (fun u' e6=>⟨_,rfl,rfl,e6⟩) ds _ (hR.m.keep e5 fun k hk=>hk.elim) (hR.e.trans' e5)
        | panic _=>exact hq.elim
        | outgrown=>exact hq.elim
        | ret=>obtain ⟨_,ρ',_,h5⟩:=hq;exact h5.elim
        | exit _=>obtain ⟨_,ρ',_,h5⟩:=hq;exact h5.elim
        | goto _=>obtain ⟨_,ρ',_,h5⟩:=hq;exact h5.elim
    · rw [hrun]
      gi_wp2
      simp only [chk6,Tryz.f76]
      gi_wp2
      have hitl:w.heap.size+1<u.heap.size:=(Array.getElem?_eq_some_iff.1 hR.it).1
      have f1:Fr (fun k=>k=w.heap.size+1) u (ChangeMaps.setBlock u1 (w.heap.size+1) (Obj.mapIter (some mb) clock (seen.push e.born) clock)):=by
        rcases hu1 with rfl|rfl
        · exact setBlock_fr _ _ _
        · exact (Ext.fr (Fr.drew NoB u)).ext (setBlock_fr _ _ _)
      have hit5:(ChangeMaps.setBlock u1 (w.heap.size+1) (Obj.mapIter (some mb) clock (seen.push e.born) clock)).heap[w.heap.size+1]?=some (Obj.mapIter (some mb) clock (seen.push e.born) clock):=by
        rcases hu1 with rfl|rfl
        · simp [ChangeMaps.setBlock,hitl]
        · have:w.heap.size+1<u.drew.heap.size:=hitl
          simp only [ChangeMaps.setBlock];rw [Array.getElem?_setIfInBounds_self_of_lt this]
      generalize hu2:ChangeMaps.setBlock u1 (w.heap.size+1) (Obj.mapIter (some mb) clock (seen.push e.born) clock)=u2 at *
      have hmp2:u2.heap[mb]?=some (.map es clock):=(f1.block mb (Array.getElem?_eq_some_iff.1 hR.mp).1 (by show ¬ mb=_;omega)).trans hR.mp
      have hee:e∈es.toList:=by have:=he;unfold leftOf at this;simp at this;simpa using this.1
      have hes0:seen.contains e.born=false:=by have:=he;unfold leftOf at this;simp at this;simpa using this.2
      obtain ⟨p,hp,hpv⟩:=(ents hmap).1 e hee
      obtain ⟨H,les,ps,hT,hpl,hpl2⟩:=Wh.tr p hp
      rw [run_entry_at u2 (w.heap.size+1) mb clock seen es clock e hit5 hmp2 hee hnd]
      gi_wp2
      simp only [chk7,Tryz.f76]
      gi_wp2
      have ha2:=hR.a.frame f1 (fun k _ hk hr=>by have:=hRlt k hr;have:k=_:=hk;omega)
      refine ⟨trivial,rfl,(shape_in (A:=A) ⟨_,_,_,_,_,ha2⟩ hT Wh.f2 (by have:=(Tree.height hT).2;omega)).mono ?_⟩
      rintro e' u3 ⟨rfl,e3⟩
      have hH:1<=H:=(Tree.height hT).1
      have hHd:decide ((H:Int)=0)=false:=decide_eq_false (by omega)
      dsimp only
      gi_wp2
      simp only [chk9,Tryz.f76]
      gi_wp2
      refine ⟨trivial,rfl,(all_in _ g p.2).mono ?_⟩
      rintro e' u5 ⟨b1,b2,rfl,hb1,hb2,e5,hg1,hg2,hne⟩
      gi_wp2
      have ht:isTree A (H,p.2):=⟨_,_,_,_,_,hT⟩
      have hlenF:=allF_len H hT
      have hb1l:=hb1.lt
      have hb2l:=hb2.lt
      have e25:Ext u2 u5:=e3.trans' e5
      have f5:Fr (fun k=>k=w.heap.size+1) u u5:=f1.ext (Ext.fr e25)
      have hs5:=f5.size
      have hs2:=f1.size
      have hs3:=e3.size
      have hes:=hR.e.size
      have ha5:=ha2.ext e25
      have hn5:=hR.n.keep f5 (by omega)
      have htl:totS cnt es (seen.push e.born)=totS cnt es seen+cnt p.2:=by
        unfold totS
        rw [tot_add cnt es.toList seen e hee hes0 hnd,hpv];rfl
      have htb:totS cnt es seen+cnt p.2<=A.nodes:=by
        rw [<- htl,<- Wh.sum,<- (ents hmap).2 cnt];exact tot_le _ _ _
      have hAn:A.nodes<=131072:=by have:A.nodes=A.at_.length-A.free.length:=rfl;omega
      refine range_all (enc:=iv) (xs:=allF H A p.2) (gf:=103) (lb:=#[.pointer (some ⟨b1,0,none⟩),.pointer (some ⟨b2,0,none⟩)]) rfl (enters_of Tryz.func103 (by kernel_rfl) rfl) (fun k=>k=w.heap.size) (by rintro k rfl;omega) ?hit rfl
        (fun pre U=>Blk U w.heap.size [iv (totS cnt es seen+pre.length)]/\Fr (fun k=>k=w.heap.size) u5 U) ?hI ⟨by simpa using hn5,.refl _ _⟩
        (fun x=>{ tmps:=#[.pointer (some ⟨g,0,none⟩),x1,.int .i64 0,.pointer (some ⟨w.heap.size,0,none⟩),x4,iv p.2,x6,x7,x8,x9,x10,x11,x12,.pointer (some ⟨w.heap.size+1,0,none⟩),.tuple #[.bool true,e.key,iv p.2],.bool true,.tuple #[e.key,iv p.2],iv p.2,.pointer (some ⟨g,0,none⟩),iv p.2,.int .i64 (H:Int),.bool false,.pointer (some ⟨g,0,none⟩),iv p.2,.func (.func 103) #[] #[.pointer (some ⟨b1,0,none⟩),.pointer (some ⟨b2,0,none⟩)],iv x,x26,x27,x28,x29,x30,x31,x32,x33,x34,x35,x36,x37,x38,x39],defers:=[] }) ?assign ?body ?done
      case hit =>
        intro l T' J W eW hT' hJ hY h0
        refine all1_spec ⟨_,_,_,_,_,ha5.ext eW⟩ ht (by omega) (hb1.ext eW) (hb2.ext eW) T' (fun k hk=>?_) J hJ hY h0
        obtain ⟨h1,h2⟩:=hT' k hk
        refine ⟨h2,fun hr=>?_,?_⟩
        · have:=hRlt k hr;rcases h1 with h1|h1<;>omega
        · rcases h1 with h1|h1<;>omega
      case hI =>
        rintro pre U U' ⟨h1,h2⟩ hf'
        have hn:∀ k,k<u5.heap.size->¬ u5.heap.size<=k:=fun k hk=>by omega
        refine ⟨h1.keep hf' (hn _ (by omega)),h2.trans hf' (fun k _ h=>h) (fun k hk h=>absurd h (hn k hk))⟩
      case assign =>
        intro l x W K hK
        gi_wp2
        exact hK
      case body =>
        rintro l pre x rest U hxs ⟨h1,h2⟩ hsz
        have hpl:pre.length+1<=ps.length:=by have:=congrArg List.length hxs;simp at this;omega
        have hcU:U.cell? ⟨w.heap.size,0,none⟩=some (iv (totS cnt es seen+pre.length)):=h1.cell0 rfl
        simp only [chkB,Tryz.f76]
        have hfz:=h1.unfrozen0 0
        gi_wp2
        obtain ⟨q1,q2⟩:=setF h1 (o:=0) (by simp) (.int .i64 ((totS cnt es seen:Int)+pre.length+1))
        obtain ⟨b3,f3⟩:=q2 _ rfl
        have b3':Blk (U.setCell ⟨w.heap.size,0,none⟩ (.int .i64 ((totS cnt es seen:Int)+pre.length+1))) w.heap.size [.int .i64 ((totS cnt es seen:Int)+pre.length+1)]:=b3
        have f3':Fr (fun k=>k=w.heap.size) U (U.setCell ⟨w.heap.size,0,none⟩ (.int .i64 ((totS cnt es seen:Int)+pre.length+1))):=f3
        refine ⟨f3',?_,h2.ext f3'⟩
        rw [show iv (totS cnt es seen+(pre.length+1))=.int .i64 ((totS cnt es seen:Int)+pre.length+1) by simp [iv,Int.natCast_add];omega]
        exact b3'
      case done =>
        rintro D W hD ⟨h1,h2⟩ hdef hsz
        gi_wp2
        have f6:Fr (fun k=>k=w.heap.size+1\/k=w.heap.size) u W:=f5.trans h2 (fun _ _ h=>.inl h) (fun _ _ h=>.inr h)
        have hR':ChkRel R M w g w.heap.size (w.heap.size+1) At ac Fa fc mb A cnt es clock (leftOf es (seen.push e.born)).size ({ target:=.collected D,args:=#[] }::ds) W (seen.push e.born) clock:=by
          have hmk:=hR.m.keep f6 (fun k hk o ho e=>by
            rcases hk with rfl|rfl
            · rw [hR.it] at ho;cases ho;cases e
            · obtain ⟨ty,hb⟩:=hR.n
              rw [hb] at ho;cases ho;cases e)
          refine ⟨((Ext.fr e25:Fr (fun k=>k=w.heap.size) u2 u5).ext h2).block _ (Array.getElem?_eq_some_iff.1 hit5).1 (by show ¬ _=_;omega) |>.trans hit5,Nat.le_refl _,(f6.block mb (Array.getElem?_eq_some_iff.1 hR.mp).1 (by show ¬ (_\/_);omega)).trans hR.mp,?_,hR.a.frame f6 (fun k _ hk hr=>by have:=hRlt k hr;rcases hk with hk|hk<;>omega),hR.e.fr.trans f6 (fun _ _ h=>h) (fun k hk h=>by rcases h with h|h<;>omega),⟨fun d hd=>?_,List.pairwise_cons.2 ⟨fun d hd=>?_,hmk.2⟩⟩,rfl⟩
          · rw [htl,<- hpl,<- hlenF];exact h1
          · rcases List.mem_cons.1 hd with rfl|hd
            · exact ⟨D,rfl,by omega,hdef⟩
            · exact hmk.1 d hd
          · obtain ⟨D',rfl,hB',hd'⟩:=hR.m.1 d hd
            have:=(Array.getElem?_eq_some_iff.1 hd').1
            intro h
            have:D=D':=by simpa using h
            omega
        refine ⟨⟨rfl,rfl,rfl,rfl,rfl,_,_,_,hR'⟩,?_⟩
        refine Nat.lt_of_le_of_lt ((leastN_spec ⟨_,_,_,hR'⟩).2 _ ⟨_,_,hR'⟩) ?_
        rw [hR.N]
        exact left_lt hee hes0
theorem Check_spec {R M:Nat->Prop} {w:World} {g:Nat} {A:Ar} (h:Ar1 R M w g A) {cnt:Nat->Nat} (Wh:Whole A cnt):CallsV Tryz.prog 76 #[.pointer (some ⟨g,0,none⟩)] w fun r w'=>r=.int .i64 0/\Ext w w':=callsIn_wide.1 (Check_in h Wh)
end Go.Proofs.YthfagbfllheneaaGreat
set_option linter.unusedVariables false
set_option linter.unusedSimpArgs false
namespace Go.Proofs.YthfagbfllheneaaGreat
open Go Go.Sx T4
/-! ## how many places there are -/
structure Gr (A A':Ar):Prop where
  a:A.nodes<=A'.nodes
  b:A'.at_.length<=max A.at_.length A'.nodes
theorem Gr.refl (A:Ar):Gr A A:=⟨Nat.le_refl _,by omega⟩
theorem Gr.trans {A B C:Ar} (h:Gr A B) (h':Gr B C):Gr A C:=⟨by have:=h.a;have:=h'.a;omega,by have:=h.a;have:=h.b;have:=h'.a;have:=h'.b;omega⟩
theorem gr_set (A:Ar) (i:Nat) (n:Nod):Gr A (setN A i n):=⟨by simp [Ar.nodes,setN],by simp [Ar.nodes,setN]⟩
theorem gr_place (A:Ar) (n:Nod):Gr A (place A n).1:=by
  unfold place
  by_cases h:A.free.length=0
  · rw [if_pos h];exact ⟨by simp [Ar.nodes];omega,by simp [Ar.nodes];try omega⟩
  · rw [if_neg h];exact ⟨by simp [Ar.nodes];omega,by simp [Ar.nodes]⟩
theorem gr_split (A:Ar) (i:Nat) (n:Nod):Gr A (splitF A i n).1:=by
  unfold splitF
  split
  · exact gr_set _ _ _
  · dsimp only
    split
    · exact ((gr_set _ _ _).trans (gr_set _ _ _)).trans (gr_place _ _)
    · exact ((gr_set _ _ _).trans (gr_set _ _ _)).trans (gr_place _ _)
theorem gr_put:∀ (h:Nat) (A:Ar) (i:Nat) (key val:Key),Gr A (putF h A i key val).1
  | 0,A,i,key,val=>by simp [putF];exact Gr.refl A
  | h+1,A,i,key,val=>by
    rw [putF]
    dsimp only
    split
    · exact gr_split _ _ _
    · have ih:=gr_put h A (kid (nodeAt A i) (bel (nodeAt A i).keys key)) key val
      split
      · exact ih
      · exact ih.trans (gr_split _ _ _)
theorem gr_putTop (h:Nat) (A:Ar) (i:Nat) (key val:Key):Gr A (putTop h A i key val):=by
  unfold putTop
  dsimp only
  have ih:=gr_put h A i key val
  split
  · exact ih
  · exact (ih.trans (gr_place _ _)).trans (gr_set _ _ _)
theorem even_len (A:Ar) (i k:Nat):(evenF A i k).at_.length=A.at_.length:=by
  unfold evenF
  dsimp only
  split
  · simp [setN,drop]
  · split<;>simp [setN]
theorem cut_len:∀ (h:Nat) (A:Ar) (i:Nat) (key:Key),(cutF h A i key).at_.length=A.at_.length
  | 0,A,i,key=>by simp [cutF]
  | h+1,A,i,key=>by
    rw [cutF]
    dsimp only
    split
    · simp [setN]
    · have ih:=cut_len h A (kid (nodeAt A i) (bel (nodeAt A i).keys key)) key
      split
      · rw [even_len];exact ih
      · exact ih
theorem delTop_len (h:Nat) (A:Ar) (i:Nat) (key:Key):(delTop h A i key).at_.length=A.at_.length:=by
  unfold delTop
  dsimp only
  have:=cut_len h A i key
  split
  · simp [setN,drop,this]
  · exact this
theorem dropAll_len:∀ (l:List Nat) (A:Ar),(dropAll A l).at_.length=A.at_.length
  | [],A=>rfl
  | x::l,A=>by
    have:=dropAll_len l (drop A x)
    rw [show dropAll A (x::l)=dropAll (drop A x) l from rfl,this];simp [drop]
theorem flatMap_eq {α β:Type} {l:List α} {f g:α->List β} (h:∀ x∈l,f x=g x):l.flatMap f=l.flatMap g:=by
  induction l with
  | nil=>rfl
  | cons x l ih=>rw [List.flatMap_cons,List.flatMap_cons,h x (by simp),ih fun y hy=>h y (by simp [hy])]
/-! ## the places below one, by any measure that is great enough -/
theorem allF_more:∀ (H F:Nat) {A:Ar} {fan:Nat} {mn:Nat×Nat} {i:Nat} {lo hi:Option Key} {es:Es} {ps:List Nat},Tree A.nd fan H mn i lo hi es ps->H<=F->allF F A i=allF H A i
  | 0,_,_,_,_,_,_,_,_,_,h,_=>h.elim
  | H+1,0,_,_,_,_,_,_,_,_,_,hF=>by omega
  | H+1,F+1,A,fan,mn,i,lo,hi,es,ps,h,hF=>by
    obtain ⟨n,hn,_,hc⟩:=tree_node h
    have hna:nodeAt A i=n:=by simp [nodeAt,hn]
    rw [allF,allF,hna]
    congr 1
    rcases hc with ⟨e0,hk,_⟩|⟨k,ek,_,_,_,_,_,hall,_⟩
    · rw [hk];rfl
    · obtain rfl:H=k:=by omega
      refine flatMap_eq fun j hj=>?_
      obtain ⟨c,hc,rfl⟩:=List.mem_iff_getElem.1 (List.mem_reverse.1 hj)
      obtain ⟨lo',hi',es',ps',h'⟩:=hall c hc
      have:kid n c=n.kids[c]:=by simp [kid,List.getD,hc]
      rw [<- this]
      exact allF_more H F h' (by omega)
/-! ## all trees -/
structure Tr where
  r:Int
  i:Nat
  h:Nat
  es:Es
  ps:List Nat
structure Inv (A:Ar) (D:List Tr):Prop where
  trees:A.trees=D.map fun d=>(d.r,d.i)
  tree:∀ d∈D,Tree A.nd A.fan d.h (0,2) d.i none none d.es d.ps
  acc:T4.Acc A [] (D.flatMap fun d=>d.ps)
  nd:(D.map fun d=>d.r).Nodup
  last:∀ d∈D,1<=d.r/\d.r<=(A.last:Int)
  f1:4<=A.fan
  f2:A.fan<=64
  m:A.most<=65536
  nodes:A.nodes<=A.most
  len:A.at_.length<=A.most
  cnt:D.length<=1000
theorem getT_mem {D:List Tr} (hn:(D.map fun d=>d.r).Nodup) {d:Tr} (hd:d∈D):getT (D.map fun d=>(d.r,d.i)) d.r=some d.i:=by
  induction D with
  | nil=>cases hd
  | cons x D ih =>
    rw [List.map_cons,List.nodup_cons] at hn
    show (if d.r=x.r then some x.i else getT (D.map fun d=>(d.r,d.i)) d.r)=some d.i
    rcases List.mem_cons.1 hd with rfl|hd
    · rw [if_pos rfl]
    · rw [if_neg fun e=>hn.1 (List.mem_map.2 ⟨d,hd,e⟩)];exact ih hn.2 hd
theorem getT_none {D:List Tr} {r:Int} (h:∀ d∈D,d.r≠r):getT (D.map fun d=>(d.r,d.i)) r=none:=by
  induction D with
  | nil=>rfl
  | cons x D ih =>
    show (if r=x.r then some x.i else getT (D.map fun d=>(d.r,d.i)) r)=none
    rw [if_neg fun e=>h x (by simp) e.symm]
    exact ih fun d hd=>h d (by simp [hd])
theorem Inv.get {A:Ar} {D:List Tr} (h:Inv A D) {d:Tr} (hd:d∈D):getT A.trees d.r=some d.i:=by rw [h.trees];exact getT_mem h.nd hd
theorem Inv.miss {A:Ar} {D:List Tr} (h:Inv A D) {r:Int} (hr:∀ d∈D,d.r≠r):getT A.trees r=none:=by rw [h.trees];exact getT_none hr
theorem flat_mid (D1 D2:List Tr) (d:Tr) (x:Nat):((D1++d::D2).flatMap fun d=>d.ps).count x=(D1.flatMap fun d=>d.ps).count x+(D2.flatMap fun d=>d.ps).count x+d.ps.count x:=by
  rw [List.flatMap_append,List.flatMap_cons,List.count_append,List.count_append];omega
theorem Inv.at_ {A:Ar} {D1 D2:List Tr} {d:Tr} (h:Inv A (D1++d::D2)):TreeAt A d.h d.i d.es d.ps ((D1.flatMap fun d=>d.ps)++D2.flatMap fun d=>d.ps) :=
  ⟨h.tree d (by simp),h.acc.perm fun x=>by rw [flat_mid,List.count_append];simp,h.f1,h.f2,by have:=h.len;have:=h.m;omega⟩
theorem Inv.whole {A:Ar} {D:List Tr} (h:Inv A D):Whole A fun i=>(allF (A.at_.length+1) A i).length:=by
  have key:∀ d∈D,(allF (A.at_.length+1) A d.i).length=d.ps.length/\d.ps.length<=A.at_.length:=fun d hd=>by
    obtain ⟨D1,D2,rfl⟩:=List.append_of_mem hd
    have T:=h.at_
    have h1:=T.hl
    have h2:=T.acc.total
    rw [allF_more d.h _ T.tree (by omega)]
    exact ⟨allF_len d.h T.tree,by omega⟩
  refine ⟨fun p hp=>?_,?_,h.nodes,h.f1,h.f2,(Acc.free h.acc).2,by have:=h.len;have:=h.m;omega⟩
  · rw [h.trees] at hp
    obtain ⟨d,hd,rfl⟩:=List.mem_map.1 hp
    exact ⟨d.h,d.es,d.ps,h.tree d hd,(key d hd).1.symm,(key d hd).2⟩
  · rw [h.acc.nodes,h.trees,List.map_map,List.length_flatMap]
    simp only [List.length_nil,Nat.zero_add]
    congr 1
    refine List.map_congr_left fun d hd=>(key d hd).1
theorem Inv.change {A A':Ar} {D1 D2:List Tr} {d:Tr} (h:Inv A (D1++d::D2)) {h':Nat} {es':Es} {ps':List Nat} (m:Mv A A' d.ps ps') (t:Tree A'.nd A.fan h' (0,2) d.i none none es' ps') (hn:A'.nodes<=A.most) (hl:A'.at_.length<=A.most):Inv A' (D1++{ d with h:=h',es:=es',ps:=ps' }::D2):=by
  obtain ⟨a1,a2⟩:=m.acc _ h.at_.acc
  refine ⟨?_,fun x hx=>?_,a1.perm fun x=>by rw [flat_mid,List.count_append];simp,?_,fun x hx=>?_,by rw [m.fan];exact h.f1,by rw [m.fan];exact h.f2,by rw [m.most];exact h.m,by rw [m.most];exact hn,by rw [m.most];exact hl,by have:=h.cnt;simpa using this⟩
  · rw [m.trees,h.trees];simp
  · rw [m.fan]
    have keep:∀ x,x∈D1\/x∈D2->Tree A'.nd A.fan x.h (0,2) x.i none none x.es x.ps:=fun x hx=>by
      refine Tree.keep (h.tree x ?_) fun j hj=>a2 j ?_
      · rcases hx with hx|hx<;>simp [hx]
      · rw [List.mem_append,List.mem_flatMap,List.mem_flatMap]
        rcases hx with hx|hx
        · exact .inl ⟨x,hx,hj⟩
        · exact .inr ⟨x,hx,hj⟩
    rcases List.mem_append.1 hx with hx|hx
    · exact keep x (.inl hx)
    · rcases List.mem_cons.1 hx with rfl|hx
      · exact t
      · exact keep x (.inr hx)
  · have:=h.nd;simpa using this
  · rw [m.last]
    rcases List.mem_append.1 hx with hx|hx
    · exact h.last x (by simp [hx])
    · rcases List.mem_cons.1 hx with rfl|hx
      · exact h.last d (by simp)
      · exact h.last x (by simp [hx])
theorem Inv.put {A:Ar} {D1 D2:List Tr} {d:Tr} (h:Inv A (D1++d::D2)) (key val:Key) (hfull:putFull d.h A d.i key d.es=false) :
    ∃ h' ps',Inv (putTop d.h A d.i key val) (D1++{ d with h:=h',es:=insE key val d.es,ps:=ps' }::D2)/\ps'.length=d.ps.length+(if inE key d.es then 0 else wantsF A.fan (sizes d.h A d.i key)):=by
  obtain ⟨h',ps',m,t,hl⟩:=putTop_ok h.at_.tree h.at_.acc h.f1 key val
  have a1:=(m.acc _ h.at_.acc).1
  have e1:=a1.nodes
  have e2:=h.at_.acc.nodes
  have hm:=h.nodes
  have hn:(putTop d.h A d.i key val).nodes<=A.most:=by
    rw [e1,hl]
    unfold putFull at hfull
    cases hin:inE key d.es with
    | true=>rw [if_pos rfl];omega
    | false =>
      rw [hin] at hfull
      have:=of_decide_eq_false (by simpa using hfull:decide (A.most<A.nodes+wantsF A.fan (sizes d.h A d.i key))=false)
      simp only [Bool.false_eq_true,if_false];omega
  exact ⟨h',ps',h.change m t hn (by have:=(gr_putTop d.h A d.i key val).b;have:=h.len;omega),hl⟩
theorem Inv.del {A:Ar} {D1 D2:List Tr} {d:Tr} (h:Inv A (D1++d::D2)) {key:Key} (hin:inE key d.es=true):∃ h' ps',Inv (delTop d.h A d.i key) (D1++{ d with h:=h',es:=delE key d.es,ps:=ps' }::D2):=by
  obtain ⟨h',ps',m,t⟩:=delTop_ok h.at_.tree h.at_.acc h.f1 hin
  have a1:=(m.acc _ h.at_.acc).1
  have hl:=delTop_len d.h A d.i key
  have:=h.len
  exact ⟨h',ps',h.change m t (by unfold Ar.nodes;omega) (by omega)⟩
def mkT (A:Ar):Ar:={ (place { A with last:=A.last+1 } N0).1 with trees:=A.trees++[(((A.last+1:Nat):Int),(place { A with last:=A.last+1 } N0).2)] }
theorem Inv.made {A:Ar} {D:List Tr} (h:Inv A D) (hn:A.nodes<A.most) (hc:D.length<1000):∃ i,Inv (mkT A) (D++[⟨((A.last+1:Nat):Int),i,1,[],[i]⟩]):=by
  obtain ⟨m,hp⟩:=mv_place { A with last:=A.last+1 } N0
  have hacc:T4.Acc { A with last:=A.last+1 } (D.flatMap fun d=>d.ps) []:=h.acc.perm fun x=>by simp
  obtain ⟨a1,a2⟩:=m.acc _ hacc
  have hp:=hp ⟨_,_,hacc⟩
  have gr:=gr_place { A with last:=A.last+1 } N0
  generalize hq:place { A with last:=A.last+1 } N0=q at *
  have e1:=a1.nodes
  have e2:=h.acc.nodes
  have e3:mkT A={ q.1 with trees:=A.trees++[(((A.last+1:Nat):Int),q.2)] }:=by unfold mkT;rw [hq]
  have hb:=gr.b
  have hno:q.1.nodes<=A.most:=by
    simp only [List.length_nil,List.length_singleton,Nat.zero_add] at e1 e2
    have:A.nodes=(D.flatMap fun d=>d.ps).length:=e2
    omega
  refine ⟨q.2,?_⟩
  rw [e3]
  refine ⟨?_,fun x hx=>?_,?_,?_,fun x hx=>?_,by rw [m.fan];exact h.f1,by rw [m.fan];exact h.f2,by rw [m.most];exact h.m,by rw [m.most];exact hno,?_,by simp;omega⟩
  · show A.trees++_=_
    rw [h.trees];simp
  · show Tree q.1.nd q.1.fan _ _ _ _ _ _ _
    rw [m.fan]
    rcases List.mem_append.1 hx with hx|hx
    · exact Tree.keep (h.tree x hx) fun j hj=>a2 j (List.mem_flatMap.2 ⟨x,hx,hj⟩)
    · obtain rfl:=List.mem_singleton.1 hx
      refine ⟨N0,hp,by simp [Nod.size,N0],.inl ⟨rfl,Nat.zero_le _,rfl,rfl,rfl,?_,fun k hk=>by simp [N0] at hk,rfl⟩⟩
      exact List.Pairwise.nil
  · refine a1.perm fun x=>?_
    rw [List.flatMap_append,List.count_append];simp
  · rw [List.map_append,List.map_singleton,List.nodup_append]
    refine ⟨h.nd,by simp,?_⟩
    intro a ha b hb
    obtain ⟨x,hx,rfl⟩:=List.mem_map.1 ha
    rw [List.mem_singleton] at hb
    have:=(h.last x hx).2
    subst hb
    intro e
    have:x.r=((A.last+1:Nat):Int):=e
    omega
  · show 1<=x.r/\x.r<=((q.1.last:Nat):Int)
    rw [m.last]
    show 1<=x.r/\x.r<=((A.last+1:Nat):Int)
    rcases List.mem_append.1 hx with hx|hx
    · have:=h.last x hx;omega
    · obtain rfl:=List.mem_singleton.1 hx
      exact ⟨by simp;omega,Int.le_refl _⟩
  · show q.1.at_.length<=q.1.most
    rw [m.most]
    have:=h.len
    have:({ A with last:=A.last+1 }:Ar).at_.length=A.at_.length:=rfl
    have hb':q.1.at_.length<=max A.at_.length q.1.nodes:=hb
    show q.1.at_.length<=A.most
    omega
end Go.Proofs.YthfagbfllheneaaGreat
set_option linter.unusedVariables false
set_option linter.unusedSimpArgs false
namespace Go.Proofs.YthfagbfllheneaaGreat
open Go Go.Sx T4
theorem Stm.update {w w':World} {b:Nat} {l:List (Int×Value)} (hM:MapK fI w b l) (h:Stm w b) {a:Int} {v:Value} (hrun:RunsTo Tryz.prog (Instr.mapUpdate 127 (.map (some b)) (fI a) v) w () w'):Stm w' b:=by
  obtain ⟨es,clock,hb,hs⟩:=h
  obtain ⟨es',clock',hb',he⟩:=hM
  rw [hb] at hb'
  cases hb'
  have ht:und Tryz.prog 127=some (.map 3 3):=by kernel_rfl
  have hks:∀ x∈es.toList,MapKept.IsKey (.int .i64) x.key:=fun x hx=>by
    have:(x.key,x.val)∈es.toList.map (fun e=>(e.key,e.val)):=List.mem_map.2 ⟨x,hx,rfl⟩
    rw [he] at this
    obtain ⟨p,_,hp⟩:=List.mem_map.1 this
    have:x.key=fI p.1:=(congrArg Prod.fst hp).symm
    rw [this];exact keyI.key p.1
  obtain ⟨es2,clock2,h1,h2,_⟩:=MapKept.mapUpdate_keeps (P:=Tryz.prog) (und_underlying ht) (und_underlying keyI.und) hb hs hks (keyI.key a) hrun
  exact ⟨es2,clock2,h1,h2⟩
theorem setM_new (l:List (Int×Nat)) (a:Int) (i:Nat) (h:getT l a=none):setM (mapE l) a (iv i)=mapE (l++[(a,i)]):=by
  induction l with
  | nil=>rfl
  | cons p l ih =>
    obtain ⟨x,u⟩:=p
    have h:(if a=x then some u else getT l a)=none:=h
    by_cases e:a=x
    · rw [if_pos e] at h;cases h
    · rw [if_neg e] at h
      show (if a=x then (a,iv i)::mapE l else (x,iv u)::setM (mapE l) a (iv i))=(x,iv u)::mapE (l++[(a,i)])
      rw [if_neg e,ih h]
theorem maplen {w:World} {b:Nat} {l:List (Int×Nat)} (h:MapK fI w b (mapE l)) (ty:TypeId):RunsTo Tryz.prog (Builtin.len_ #[127] ty #[.map (some b)]) w (.int .i64 (l.length:Int)) w:=by
  obtain ⟨es,clock,hb,he⟩:=h
  have ht:und Tryz.prog 127=some (.map 3 3):=by kernel_rfl
  have:es.size=l.length:=by have:=congrArg List.length he;simpa [mapE] using this
  rw [RunsTo,<- this]
  simp [Builtin.len_,run_underlying (und_underlying ht),MapKept.run_getObj_map hb,goInt,Result.andThen]
theorem place_last (A:Ar) (n:Nod):(place A n).1.last=A.last/\(place A n).1.trees=A.trees:=⟨(mv_place A n).1.last,(mv_place A n).1.trees⟩
theorem Create_spec {R M:Nat->Prop} {w:World} {g:Nat} {A:Ar} (h:Ar1 R M w g A) (hf:0<A.fan) (h1:A.free.length<=A.at_.length) (hF:FreeOk A) (h2:A.at_.length<=131072) (hl:A.last<1000000) (hnew:getT A.trees ((A.last+1:Nat):Int)=none) (ht:A.trees.length<=1000000) :
    CallsV Tryz.prog 60 #[.pointer (some ⟨g,0,none⟩)] w fun r w'=>if 1000<=A.trees.length\/A.most<=A.nodes then r=.tuple #[.int .i64 0,.int .i64 5]/\Ext w w' else r=.tuple #[iv (A.last+1),.int .i64 0]/\∃ R' M',Ar1 R' M' w' g (mkT A)/\Chg R M w R' M' w':=by
  have hs:=h
  obtain ⟨At,ac,Fa,fc,mb,h⟩:=h
  refine tree_Arena_Create.calls okay ?_
  unfold tree_Arena_Create.W
  refine (made_spec hs hf).same ⟨_,rfl,brnb (fun h=>by cases h) (fun _=>?_)⟩
  have ed:Ext w w.drew:=Fr.drew NoB w
  have ed2:Ext w w.drew.drew:=ed.ext (Fr.drew NoB _)
  refine ⟨_,rfl,fun u=>Ext w u,ed,_,fun u e=>(h.blk.ext e).cell rfl,_,_,maplen (h.trees.ext ed) _,brd (fun hle=>?_) (fun hlt=>?_)⟩
  · dsimp only;rw [if_pos (Or.inl (by omega))];exact ⟨rfl,ed⟩
  · refine ⟨_,rfl,fun u=>Ext w u,ed,_,fun u e=>(h.blk.ext e).cell rfl,?_⟩
    refine (Nodes_spec (hs.ext ed) h1 (by omega)).mono ?_
    rintro _ w2 ⟨rfl,hw2⟩
    obtain rfl:w2=w.drew.drew:=hw2
    refine ⟨_,rfl,ed2,brd (fun hle=>?_) (fun hroom=>?_)⟩
    · dsimp only;rw [if_pos (Or.inr (by omega))];exact ⟨rfl,ed2⟩
    · have hcond:¬ (1000<=A.trees.length\/A.most<=A.nodes):=by omega
      simp only [if_neg hcond]
      generalize hw0:w.drew.drew=w0 at *
      have h0:=h.ext ed2
      have hwl:IntKind.i64.wrap ((A.last:Int)+1)=((A.last+1:Nat):Int):=by rw [wi _ (by omega) (by omega)];omega
      obtain ⟨s1,s2⟩:=setF h0.blk (o:=5) (by simp [arC]) (iv (A.last+1))
      refine ⟨_,rfl,_,h0.blk.cell rfl,_,rfl,by rw [hwl];exact s1,fun w3 hw3=>?_⟩
      rw [hwl] at hw3
      obtain ⟨b3,f3⟩:=s2 w3 hw3
      have mOff:=h.mbOff
      have h3:ArA R M w3 g At ac Fa fc mb { A with last:=A.last+1 } :=
        ⟨by simpa [arC] using b3,fun k hk=>Nat.lt_of_lt_of_le (h0.rlt k hk) f3.size,h.mr,h.mg,h.mA,h.mF,h.mm,h.gA,h.gF,h.aF,h0.at_.toOut f3 (fun k hk e=>h.gA (e▸hk)) (fun k _ e=>.inr (.inr (e▸h.mg))) (fun k _ h=>.inr h),h0.free.fr f3 (fun k hk e=>h.gF (e▸hk)) (fun _ _ _ h=>h),h0.trees.keep f3 mOff.1,h0.stm.keep f3 mOff.1⟩
      have c3:Chg R M w R M w3:=⟨(Ext.fr ed2:Fr M w w0).trans (f3.mono fun k _ e=>e▸h.mg) (fun _ _ h=>h) (fun _ _ h=>h),fun _ h=>.inl h,fun _ h=>h,fun _ h=>.inl h⟩
      refine ⟨fun u=>∃ R' M',Ar1 R' M' u g (mkT A)/\Chg R M w R' M' u,?_,?_⟩
      · rintro u ⟨R',M',hu,cu⟩
        obtain ⟨At',ac',Fa',fc',mb',hu⟩:=hu
        refine ⟨_,rfl,_,hu.blk.cell rfl,?_,R',M',⟨_,_,_,_,_,hu⟩,cu⟩
        have:(mkT A).last=A.last+1:=(place_last _ _).1
        rw [this]
      · have ed3:Ext w3 w3.drew:=Fr.drew NoB w3
        refine ⟨_,rfl,fun u=>Blk u g (arC At ac Fa fc mb { A with last:=A.last+1 })\/(u.cell? ((⟨g,0,none⟩:Addr).add 4)=some (.map (some mb))/\u.cell? ((⟨g,0,none⟩:Addr).add 5)=some (iv (A.last+1))),.inl (h3.ext ed3).blk,some mb,fun u hu=>?_,_,rfl,((A.last+1:Nat):Int),fun u hu=>?_,?_⟩
        · rcases hu with hu|hu
          · exact hu.cell rfl
          · exact hu.1
        · rcases hu with hu|hu
          · exact hu.cell rfl
          · exact hu.2
        · intro g1 w4 f4
          have e4:Ext w3 w4:=ed3.ext f4.ext
          have hM3:∀ k,M k->k<w3.heap.size:=fun k hk=>h3.rlt k (h3.mr k hk)
          obtain ⟨_,c4⟩:=Ar1.absorb ⟨_,_,_,_,_,h3⟩ e4
          have h4:ArA (Ra R w3 w4) M w4 g At ac Fa fc mb { A with last:=A.last+1 }:=(h3.ext e4).more (fun k hk=>.inl hk) (by
            rintro k (hk|hk)
            · exact Nat.lt_of_lt_of_le (h3.rlt k hk) e4.size
            · exact hk.2)
          have hN:NodAt (Om (Ra R w3 w4) M) w4 g1 N0 none 0 none 0 none 0:=NodAt.fresh hM3 ed3 f4 (by simp [N0]) (by simp [N0]) (by simp [N0]) (Imm.nil _ _ _ _) (Imm.nil _ _ _ _) (Imm.nil _ _ _ _) (by simp [N0]) ⟨by simp [N0],by simp [N0],by simp [N0],fun x hx=>by simp [N0] at hx,fun x hx=>by simp [N0] at hx⟩
          refine ⟨.inl h4.blk,(place_specA h4 (by simpa using (by omega:A.at_.length<=1048576)) hF (by simpa using (by omega:A.free.length<=1048576)) (n:=N0) (p:=some ⟨g1,0,none⟩) ⟨g1,_,_,_,_,_,_,rfl,hN⟩).mono ?_⟩
          rintro _ w5 ⟨rfl,R5,M5,⟨At5,ac5,Fa5,fc5,h5⟩,c5⟩
          have hl5:(place { A with last:=A.last+1 } N0).1.last=A.last+1:=(place_last _ _).1
          have ht5:(place { A with last:=A.last+1 } N0).1.trees=A.trees:=(place_last _ _).2
          have hb5:=h5.blk
          refine ⟨_,rfl,.inr ⟨hb5.cell rfl,by rw [<- hl5];exact hb5.cell rfl⟩,?_⟩
          obtain ⟨w6,r6,m6,f6⟩:=h5.trees.update (P:=Tryz.prog) keyI (t:=127) (kt:=3) (et:=3) (by kernel_rfl) ((A.last+1:Nat):Int) (iv (place { A with last:=A.last+1 } N0).2)
          refine ⟨w6,r6,R5,M5,?_,c3.trans (c4.trans (c5.trans ?_))⟩
          · rw [ht5,setM_new A.trees _ _ hnew] at m6
            have mOff5:=h5.mbOff
            refine ⟨At5,ac5,Fa5,fc5,mb,?_⟩
            exact ⟨h5.blk.keep f6 (fun e=>mOff5.1 e.symm),fun k hk=>Nat.lt_of_lt_of_le (h5.rlt k hk) f6.size,h5.mr,h5.mg,h5.mA,h5.mF,h5.mm,h5.gA,h5.gF,h5.aF,h5.at_.toOut f6 (fun k hk e=>mOff5.2.1 (e▸hk)) (fun k _ e=>.inr (.inr (e▸h5.mm))) (fun k _ h=>.inr h),h5.free.fr f6 (fun k hk e=>mOff5.2.2 (e▸hk)) (fun _ _ _ h=>h),m6,Stm.update h5.trees h5.stm r6⟩
          · exact ⟨f6.mono fun k _ e=>e▸h5.mm,fun _ h=>.inl h,fun _ h=>h,fun _ h=>.inl h⟩
end Go.Proofs.YthfagbfllheneaaGreat
set_option linter.unusedVariables false
set_option linter.unusedSimpArgs false
namespace Go.Proofs.YthfagbfllheneaaGreat
open Go Go.Sx T4
/-! ## entries, by what they are -/
theorem len_insE (key val:Key):∀ es:Es,(insE key val es).length=es.length+if inE key es then 0 else 1
  | []=>rfl
  | (k,v)::r=>by
    have ih:=len_insE key val r
    rw [insE]
    unfold inE at *
    rw [getE]
    split
    · rw [List.length_cons,ih,List.length_cons];omega
    · split
      · simp
      · simp
/-! ## the first one, the one behind, the one ahead -/
theorem aft_first (es:Es):aftE [] true es=es[0]?:=by
  cases es with
  | nil=>rfl
  | cons x r =>
    obtain ⟨k,v⟩:=x
    rw [aftE,if_pos]
    · rfl
    · cases k with
      | nil=>exact .inr ⟨rfl,rfl⟩
      | cons b r=>exact .inl (by show Go.Lib.compareBytes [] (b::r)<0;simp [Go.Lib.compareBytes])
/-! ## numbers' keys -/
def setD:List (Int×Nat)->Int->Nat->List (Int×Nat)
  | [],a,v=>[(a,v)]
  | (x,u)::l,a,v=>if a=x then (a,v)::l else (x,u)::setD l a v
def delD:List (Int×Nat)->Int->List (Int×Nat)
  | [],_=>[]
  | (x,u)::l,a=>if a=x then l else (x,u)::delD l a
end Go.Proofs.YthfagbfllheneaaGreat
set_option linter.unusedVariables false
set_option maxRecDepth 100000
namespace Go.Proofs.YthfagbfllheneaaGreat
open Go Go.Sx Value IntKind World Addr Builtin
noncomputable def cardindexlow_Pick.W:Int->Int->World->(Value->World->Prop)->Prop:=fun number n w K=>bif decide (0<n) then n≠0/\bif decide (Int.tmod number n<0)
 then K (int i64 (wrap i64 (Int.tmod number n+n))) w else K (int i64 (Int.tmod number n)) w else K (int i64 0) w
theorem cardindexlow_Pick.calls (ok:Okay Tryz.prog) {number n w K} (h:cardindexlow_Pick.W number n w K):CallsV Tryz.prog 24 #[.int .i64 number,.int .i64 n] w K :=
  fnW_calls ok Tryz.func24 (an:=(.named .auto)) (args:=[.int .i64 number,.int .i64 n]) (Eq.mp (by kernel_rfl) h)
noncomputable def cardindexlow_SameBytes.W:Option Addr->Nat->Nat->Option Addr->Nat->Nat->World->(Value->World->Prop)->Prop:=fun x_A x_n x_c y_A y_n y_c w K=>∃ (x:ByteArray) (w' :
 World),RunsTo Tryz.prog (convert 30 9 (slice x_A x_n x_c)) w (string x) w'/\∃ (x_1:ByteArray) (w'_1:World),RunsTo Tryz.prog (convert 30 9 (slice y_A y_n y_c)) w' (string x_1) w'_1/\K (bool
 (ByteArray.toList x == ByteArray.toList x_1)) w'_1
theorem cardindexlow_SameBytes.calls (ok:Okay Tryz.prog) {x_A x_n x_c y_A y_n y_c w K} (h:cardindexlow_SameBytes.W x_A x_n x_c y_A y_n y_c w K):CallsV Tryz.prog 37 #[.slice x_A x_n x_c,.slice y_A y_n y_c] w K :=
  fnW_calls ok Tryz.func37 (an:=(.named .auto)) (args:=[.slice x_A x_n x_c,.slice y_A y_n y_c]) (Eq.mp (by kernel_rfl) h)
noncomputable def cardindexlow_CopyBytes.W:Option Addr->Nat->Nat->World->(Value->World->Prop)->Prop:=fun x_A x_n x_c w K=>∃ x x_1 x_2 w',RunsTo Tryz.prog (Instr.makeSlice 30 (int i64 (x_n
 : Int)) (int i64 (x_n:Int))) w (slice x x_1 x_2) w'/\∃ x_3 w'_1,RunsTo Tryz.prog (copy_ (Array.mk [30,30]) 3 #[slice x x_1 x_2,slice x_A x_n x_c]) w' (int i64 x_3) w'_1/\K (slice x x_1 x_2) w'_1
theorem cardindexlow_CopyBytes.calls (ok:Okay Tryz.prog) {x_A x_n x_c w K} (h:cardindexlow_CopyBytes.W x_A x_n x_c w K):CallsV Tryz.prog 27 #[.slice x_A x_n x_c] w K :=
  fnW_calls ok Tryz.func27 (an:=(.named .auto)) (args:=[.slice x_A x_n x_c]) (Eq.mp (by kernel_rfl) h)
end Go.Proofs.YthfagbfllheneaaGreat
set_option linter.unusedVariables false
set_option linter.unusedSimpArgs false
namespace Go.Proofs.YthfagbfllheneaaGreat
open Go Go.Sx T4
/-! ## maps: an entry goes -/
theorem mapErase {α β:Type} (f:α->β):∀ (l:List α) (j:Nat),(l.eraseIdx j).map f=(l.map f).eraseIdx j
  | [],_=>rfl
  | x::l,0=>rfl
  | x::l,j+1=>by simp [mapErase f l j]
theorem findD (a:Int):∀ (D:List (Int×Nat)) (i:Nat),match findM (mapE D) a i with|none=>delD D a=D|some (j,_)=>∃ n,j=i+n/\(mapE D).eraseIdx n=mapE (delD D a)
  | [],i=>rfl
  | (x,u)::D,i=>by
    show match (if a=x then some (i,iv u) else findM (mapE D) a (i+1)) with|none=>(if a=x then D else (x,u)::delD D a)=(x,u)::D|some (j,_)=>∃ n,j=i+n/\((x,iv u)::mapE D).eraseIdx n=mapE (if a=x then D else (x,u)::delD D a)
    by_cases h:a=x
    · rw [if_pos h,if_pos h];exact ⟨0,rfl,rfl⟩
    · rw [if_neg h,if_neg h]
      have ih:=findD a D (i+1)
      cases hf:findM (mapE D) a (i+1) with
      | none=>rw [hf] at ih;exact congrArg _ ih
      | some p =>
        obtain ⟨j,v⟩:=p
        rw [hf] at ih
        obtain ⟨n,h1,h2⟩:=ih
        exact ⟨n+1,by omega,by rw [List.eraseIdx_cons_succ,h2];rfl⟩
theorem MapK.drop {w:World} {b:Nat} {D:List (Int×Nat)} (h:MapK fI w b (mapE D)) (a:Int) (ty:TypeId) :
    ∃ w',RunsTo Tryz.prog (Builtin.delete_ #[127,3] ty #[.map (some b),.int .i64 a]) w (.tuple #[]) w'/\MapK fI w' b (mapE (delD D a))/\Fr (fun k=>k=b) w w':=by
  obtain ⟨es,clock,hb,he⟩:=h
  have ht:und Tryz.prog 127=some (.map 3 3):=by kernel_rfl
  have hf:=findNow_M keyI a es.toList (mapE D) 0 he
  have hc:(Instr.checkKey es.isEmpty 10000 3 (fI a)).run Tryz.prog w=.ok () w:=MapKept.run_checkKey (und_underlying keyI.und) (keyI.key a) _ 9999
  have frame:∀ o:Obj,Fr (fun k=>k=b) w { w with heap:=w.heap.setIfInBounds b o }:=fun o=>⟨rfl,rfl,rfl,by simp,fun k _ hn=>(MapKept.heap_set hb (o':=o)).2 k hn⟩
  have hd:=findD a D 0
  cases hr:findM (mapE D) a 0 with
  | none =>
    rw [hr] at hf hd
    refine ⟨{ w with heap:=w.heap.setIfInBounds b (.map es clock) },?_,⟨es,clock,(MapKept.heap_set hb).1,by rw [hd];exact he⟩,frame _⟩
    simp [RunsTo,Builtin.delete_,run_underlying (und_underlying ht),MapKept.run_getObj_map hb,hc,MapKept.run_findKey (und_underlying keyI.und) hf,MapKept.run_setObj_map _ hb,Result.andThen]
  | some p =>
    obtain ⟨j,u⟩:=p
    rw [hr] at hf hd
    obtain ⟨n,h1,h2⟩:=hd
    obtain rfl:j=n:=by omega
    refine ⟨{ w with heap:=w.heap.setIfInBounds b (.map (es.eraseIdxIfInBounds j) clock) },?_,⟨_,clock,(MapKept.heap_set hb).1,?_⟩,frame _⟩
    · simp [RunsTo,Builtin.delete_,run_underlying (und_underlying ht),MapKept.run_getObj_map hb,hc,MapKept.run_findKey (und_underlying keyI.und) hf,MapKept.run_setObj_map _ hb,Result.andThen]
    · rw [<- h2,Array.toList_eraseIdxIfInBounds,mapErase,he,mapErase]
def pickF (x n:Int):Nat:=(if x.tmod n<0 then x.tmod n+n else x.tmod n).toNat
theorem PickF_spec (w:World) (x n:Int) (h1:1<=n) (h2:n<=9223372036854775807) :
    CallsV Tryz.prog 24 #[.int .i64 x,.int .i64 n] w fun r w'=>r=iv (pickF x n)/\w'=w:=by
  refine cardindexlow_Pick.calls okay ?_
  unfold cardindexlow_Pick.W pickF
  have a1:=Int.lt_tmod_of_pos x (show 0<n by omega)
  have a2:=Int.tmod_lt_of_pos x (show 0<n by omega)
  refine brd (fun h=>⟨by omega,brd (fun h=>?_) (fun h=>?_)⟩) (fun h=>by omega)
  · rw [wi _ (by omega) (by omega),if_pos h]
    exact ⟨by show Value.int .i64 _=.int .i64 _;congr 1;omega,rfl⟩
  · rw [if_neg h]
    exact ⟨by show Value.int .i64 _=.int .i64 _;congr 1;omega,rfl⟩
theorem bt:BT Tryz.prog 30 5 9:=⟨by kernel_rfl,by kernel_rfl,by kernel_rfl⟩
theorem SameBytes_spec {Ω Ω':Nat->Prop} {w:World} {A B:Option Addr} {c d:Nat} {l m:List UInt8} (h:Imm KB Ω w A l) (h':Imm KB Ω' w B m) :
    CallsV Tryz.prog 37 #[.slice A l.length c,.slice B m.length d] w fun r w'=>r=.bool (decide (l=m))/\w'=w:=by
  refine cardindexlow_SameBytes.calls okay ?_
  unfold cardindexlow_SameBytes.W
  exact ⟨_,_,to_str bt h c,_,_,to_str bt h' d,by rw [eq_str],rfl⟩
theorem CopyBytes_spec {Ω:Nat->Prop} {w:World} {A:Option Addr} {c:Nat} {l:List UInt8} (h:Imm KB Ω w A l) (hl:l.length<=140737488355328) :
    CallsV Tryz.prog 27 #[.slice A l.length c] w fun r w'=>∃ A',r=.slice A' l.length l.length/\OwnB w' A' l.length l/\Ext w w'/\New w A':=by
  refine cardindexlow_CopyBytes.calls okay ?_
  unfold cardindexlow_CopyBytes.W
  obtain ⟨w1,hr,ho,he⟩:=make_own slB rfl w l.length (by simp [maxLen];omega) (by omega) .i64 .i64
  refine ⟨_,_,_,_,hr,?_⟩
  obtain ⟨w2,hr2,ho2,hf2⟩:=copy_own (ty:=3) (t2:=30) slB ho (Src.bytes (P:=Tryz.prog) (c:=c) (h.ext KB_pos he))
  exact ⟨_,_,hr2,_,rfl,ho2,he.trans hf2 (fun _ _ h=>h) (fun k hk ho=>by rw [ownB_some] at ho;omega),New.self w 0 none⟩
theorem Pick_spec (w:World) (x n:Int) (h1:1<=n) (h2:n<=9223372036854775807) :
    CallsV Tryz.prog 24 #[.int .i64 x,.int .i64 n] w fun r w'=>∃ k:Nat,r=.int .i64 (k:Int)/\(k:Int)<n/\w'=w:=by
  refine cardindexlow_Pick.calls okay ?_
  unfold cardindexlow_Pick.W
  have a1:=Int.lt_tmod_of_pos x (show 0<n by omega)
  have a2:=Int.tmod_lt_of_pos x (show 0<n by omega)
  refine brd (fun h=>⟨by omega,brd (fun h=>?_) (fun h=>?_)⟩) (fun h=>by omega)
  · rw [wi _ (by omega) (by omega)]
    exact ⟨(x.tmod n+n).toNat,by congr 1;omega,by omega,rfl⟩
  · exact ⟨(x.tmod n).toNat,by congr 1;omega,by omega,rfl⟩
theorem Ar1.mr {R M:Nat->Prop} {w:World} {g:Nat} {A:Ar} (h:Ar1 R M w g A):∀ k,M k->R k:=by
  obtain ⟨_,_,_,_,_,h⟩:=h;exact h.mr
theorem Chg.off {R M R' M':Nat->Prop} {u u':World} (c:Chg R M u R' M' u') {k:Nat} (hk:k<u.heap.size) (hr:¬ R k):¬ R' k:=fun h=>by
  rcases c.r' k h with h|h
  · exact hr h
  · omega
end Go.Proofs.YthfagbfllheneaaGreat
set_option linter.unusedVariables false
set_option linter.unusedSimpArgs false
namespace Go.Proofs.YthfagbfllheneaaGreat
open Go Go.Sx T4
/-! ## a tree goes, plain -/
def dropT (A:Ar) (r:Int) (l:List Nat):Ar:={ dropAll A l with trees:=delD A.trees r }
theorem delD_mid {D1 D2:List Tr} {d:Tr} (h:((D1++d::D2).map fun d=>d.r).Nodup):delD ((D1++d::D2).map fun d=>(d.r,d.i)) d.r=(D1++D2).map fun d=>(d.r,d.i):=by
  induction D1 with
  | nil=>simp [delD]
  | cons x D1 ih =>
    rw [List.cons_append,List.map_cons,List.nodup_cons] at h
    have hne:d.r≠x.r:=fun e=>h.1 (List.mem_map.2 ⟨d,by simp,e⟩)
    show (if d.r=x.r then _ else (x.r,x.i)::delD ((D1++d::D2).map fun d=>(d.r,d.i)) d.r)=_
    rw [if_neg hne,ih h.2];rfl
theorem Inv.drop {A:Ar} {D1 D2:List Tr} {d:Tr} (h:Inv A (D1++d::D2)) {l:List Nat} (hl:∀ x,l.count x=d.ps.count x):Inv (dropT A d.r l) (D1++D2):=by
  have m:=mv_dropAll l A
  have hacc:T4.Acc A ((D1.flatMap fun d=>d.ps)++D2.flatMap fun d=>d.ps) l:=h.at_.acc.perm fun x=>by rw [hl]
  obtain ⟨a1,a2⟩:=m.acc _ hacc
  have hlen:=dropAll_len l A
  have hn1:=a1.nodes
  have hn2:=hacc.nodes
  have hno:=h.nodes
  have hle:=h.len
  refine ⟨?_,fun x hx=>?_,fun x=>?_,?_,fun x hx=>?_,by show 4<=(dropAll A l).fan;rw [m.fan];exact h.f1,by show (dropAll A l).fan<=64;rw [m.fan];exact h.f2,by show (dropAll A l).most<=65536;rw [m.most];exact h.m,?_,?_,by have:=h.cnt;simp at this ⊢;omega⟩
  · show delD A.trees d.r=_
    rw [h.trees];exact delD_mid h.nd
  · show Tree (dropAll A l).nd (dropAll A l).fan x.h (0,2) x.i none none x.es x.ps
    rw [m.fan]
    refine Tree.keep (h.tree x (by rcases List.mem_append.1 hx with hx|hx<;>simp [hx])) fun j hj=>a2 j ?_
    rw [List.mem_append,List.mem_flatMap,List.mem_flatMap]
    rcases List.mem_append.1 hx with hx|hx
    · exact .inl ⟨x,hx,hj⟩
    · exact .inr ⟨x,hx,hj⟩
  · have:=a1 x
    rw [List.flatMap_append]
    simp only [List.count_nil,List.count_append] at this ⊢
    show 0+(_+_)+(dropAll A l).free.count x=if x<(dropAll A l).at_.length then 1 else 0
    omega
  · have:=h.nd
    rw [List.map_append,List.map_cons] at this
    rw [List.map_append]
    exact this.sublist (List.Sublist.append (List.Sublist.refl _) (List.sublist_cons_self _ _))
  · show 1<=x.r/\x.r<=((dropAll A l).last:Int)
    rw [m.last]
    exact h.last x (by rcases List.mem_append.1 hx with hx|hx<;>simp [hx])
  · show (dropAll A l).nodes<=(dropAll A l).most
    rw [m.most];rw [List.length_nil] at hn1;omega
  · show (dropAll A l).at_.length<=(dropAll A l).most
    rw [m.most];omega
theorem dropT_nodes {A:Ar} {D1 D2:List Tr} {d:Tr} (h:Inv A (D1++d::D2)) {l:List Nat} (hl:∀ x,l.count x=d.ps.count x):(dropT A d.r l).nodes+d.ps.length=A.nodes:=by
  have h1:=(h.drop hl).acc.nodes
  have h2:=h.acc.nodes
  simp only [List.flatMap_append,List.flatMap_cons,List.length_append,List.length_nil] at h1 h2
  omega
end Go.Proofs.YthfagbfllheneaaGreat
set_option linter.unusedVariables false
set_option maxRecDepth 100000
namespace Go.Proofs.YthfagbfllheneaaGreat
open Go Go.Sx Value IntKind World Addr Builtin
noncomputable def app0:Code:=match Tryz.f102.body with|some (.seq r _)=>r|_=>.skip
noncomputable def app1:Code:=match Tryz.f102.body with|some (.seq _ (.seq (.seq r _) _))=>r|_=>.skip
noncomputable def app2:Code:=match Tryz.f102.body with|some (.seq _ (.seq (.seq _ (.block _ (.rangeFunc _ _ r _))) _))=>r|_=>.skip
noncomputable def appOps:List Oper:=match Tryz.f102.body with|some (.seq _ (.seq (.seq _ (.block _ (.rangeFunc _ _ _ (.block _ (.region _ ops _))))) _))=>ops.toList|_=>[]
noncomputable def app4:Code:=match Tryz.f102.body with|some (.seq _ (.seq _ r))=>r|_=>.skip
theorem app_body:Tryz.f102.body=some (.seq app0 (.seq (.seq app1 (.block 0 (.rangeFunc (.tmp 6) #[7] app2 (.block 1 (.region 3 appOps.toArray false))))) app4)):=by kernel_rfl
noncomputable def appR.W:Addr->Int->World->(World->Prop)->Prop:=fun b2 v w K=>∃ x x_1 x_2,cell? w b2=some (slice x x_1 x_2)/\∀ g w',Fresh w g w' [int i64 v] 3->∃ x_3 x_4 x_5
 w'_1,RunsTo Tryz.prog (append_ (Array.mk [39,39]) 39 #[slice x x_1 x_2,slice (some (mk g 0 none)) 1 1]) w' (slice x_3 x_4 x_5) w'_1/\stOK b2 0 [slice x_3 x_4 x_5] w'_1/\∀ w',w' =
 setAll b2 0 [slice x_3 x_4 x_5] w'_1->K w'
theorem appR.eq (b2:Addr) (v:Int) (w:World) (K:World->Prop):appR.W b2 v w K=regW .named Tryz.prog 13 appOps 0 appOps (fun _ w=>K w) (Env.set (Env.set (fun _=>none) 2 (some (.pointer (some b2)))) 5 (some (.int .i64 v))) w:=by kernel_rfl
end Go.Proofs.YthfagbfllheneaaGreat
set_option linter.unusedVariables false
set_option linter.unusedSimpArgs false
namespace Go.Sx
variable {P:Program}
theorem range_allB {α:Type} {enc:α->Value} {xs:List α} {g:Operand} {ps:Array Tmp} {assign body:Code} {Q:Exit->Act->World->Prop} {a:Act} {w:World} {gf:Nat} {lb:Array Value} (hg:a.eval g=.func (.func gf) #[] lb) (eg:∀ args w,(callFunc gf args).run P w=.ok (.enter gf args) w)
    (Sb:Nat->Prop) (hSb:∀ k,Sb k->k<w.heap.size)
    (hit:∀ (l:Nat) (T:Nat->Prop) (J:List α->(Nat->Prop)->World->Prop) (W:World),Ext w W->(∀ k,T k->(Sb k\/w.heap.size<=k)/\k<W.heap.size)->(∀ pre B U,J pre B U->∀ k,B k->k<U.heap.size)->(∀ pre B U U',J pre B U->Fr (fun k=>W.heap.size<=k/\¬ B k) U U'->J pre B U') ->
      (∀ pre x rest B U,xs=pre++x::rest->J pre B U->YieldAt Fence.wide 0 P l #[enc x] U fun e U'=>e=.returned (.bool true)/\∃ B',J (pre++[x]) B' U'/\(∀ k,B' k->B k\/U.heap.size<=k)/\Fr (fun k=>T k\/B k) U U')->J [] NoB W ->
      CallsIn Fence.wide 0 P gf (#[.func (.yield l) #[] #[]]++lb) W fun e U=>(∃ v,e=.returned v)/\∃ B,J xs B U)
    (hps:ps.size=1) (I:List α->(Nat->Prop)->World->Prop) (hIB:∀ pre B U,I pre B U->∀ k,B k->k<U.heap.size) (hI:∀ pre B U U',I pre B U->Fr (fun k=>w.heap.size<=k/\¬ B k) U U'->I pre B U') (h0:I [] NoB w) (a₁:α->Act)
    (hassign:∀ (l:Nat) (x:α) (W:World) (K:Act->World->Prop),K (a₁ x) W->assign.wpIn (Fence.wide.inRound l) 0 P (Exit.then K (fun _ _ _=>False)) { tmps:=(ps.zip #[enc x]).foldl (fun t (p,v)=>t.setIfInBounds p v) a.tmps,defers:=[] } W)
    (hbody:∀ (l:Nat) (pre:List α) (x:α) (rest:List α) (B:Nat->Prop) (U:World),xs=pre++x::rest->I pre B U->w.heap.size<=U.heap.size->body.wpIn (Fence.wide.inRound l) 0 P (fun e _ U'=>e=.normal/\∃ B',(∀ k,B' k->B k\/U.heap.size<=k)/\Fr (fun k=>Sb k\/B k) U U'/\I (pre++[x]) B' U') (a₁ x) U)
    (hdone:∀ (D:Nat) (W:World) (B:Nat->Prop),w.heap.size<=D->I xs B W->W.heap[D]?=some (.deferred (some []))->w.heap.size<=W.heap.size->Q .normal { a with defers:={ target:=.collected D,args:=#[] }::a.defers } W) :
    (Code.rangeFunc g ps assign body).wpIn Fence.wide 0 P Q a w:=by
  refine wpIn_rangeFunc ?_
  intro fn hfn
  rw [show Fence.wide.round=none from rfl]
  obtain ⟨rec,hrec⟩:∃ rec:LoopState->Option Code->Loop,rec=fun st pe=>{ state:=st,pending:=pe,fn,tmps:=a.tmps,params:=ps,assign,body,defers:=w.heap.size }:=⟨_,rfl⟩
  obtain ⟨W1,hW1⟩:∃ W1,(w.alloc (.deferred (some []))).alloc (.loop (rec .ready none))=W1:=⟨_,rfl⟩
  have hL1:W1.heap[w.heap.size+1]?=some (.loop (rec .ready none)):=by
    rw [<- hW1];have:=World.alloc_heap_new (w.alloc (.deferred (some []))) (.loop (rec .ready none));rwa [World.size_alloc] at this
  have hK1:W1.heap[w.heap.size]?=some (.deferred (some [])):=by
    rw [<- hW1];exact (RowKit.Below.heap_alloc _ _ _ (by simp)).trans (World.alloc_heap_new w _)
  have e1:Ext w W1:=by rw [<- hW1];exact (Fr.alloc NoB w _).ext (Fr.alloc NoB _ _)
  have hs1:W1.heap.size=w.heap.size+2:=by rw [<- hW1];simp
  have hI1:I [] NoB W1:=hI _ _ _ _ h0 (e1.fr)
  refine ⟨w.heap.size+1,[{ target:=.collected w.heap.size,args:=#[] }],W1,{ target:=.fn (.func gf) lb,args:=#[.func (.yield (w.heap.size+1)) #[] #[]] },W1,gf,
    #[.func (.yield (w.heap.size+1)) #[] #[]]++lb,W1,?_,?_,?_,?_,fun h=>by simp [Fence.wide] at h,?_⟩
  · rw [<- hW1,hrec];exact run_enterLoop_outer _ _ _ _ _
  · simp only [resolve,hg]
    simp [go_sem]
  · intro f' hf';trivial
  · simp [invoke,go_sem,eg]
  · refine (hit (w.heap.size+1) (fun k=>Sb k\/k=w.heap.size+1)
      (fun pre B W=>I pre B W/\(∀ k,B k->w.heap.size+2<=k)/\W.heap[w.heap.size+1]?=some (.loop (rec .ready none))/\W.heap[w.heap.size]?=some (.deferred (some []))/\w.heap.size<=W.heap.size)
      W1 e1 (fun k hk=>?_) (fun pre B U hJ=>hIB _ _ _ hJ.1) (fun pre B U U' hJ hf=>?_) ?_ ⟨hI1,fun _ h=>h.elim,hL1,hK1,by omega⟩).mono ?_
    · rcases hk with hk|rfl
      · exact ⟨.inl hk,by have:=hSb k hk;omega⟩
      · exact ⟨.inr (by omega),by omega⟩
    · obtain ⟨h1,hB,h2,h3,h4⟩:=hJ
      refine ⟨hI _ _ _ _ h1 (hf.mono fun k _ hk=>⟨by have:=hk.1;omega,hk.2⟩),hB,(hf.block _ (Array.getElem?_eq_some_iff.1 h2).1 (fun h=>by have:=h.1;omega)).trans h2,(hf.block _ (Array.getElem?_eq_some_iff.1 h3).1 (fun h=>by have:=h.1;omega)).trans h3,Nat.le_trans h4 hf.size⟩
    · rintro pre x rest B W hxs ⟨hi,hB,hl,hk,hsz⟩
      have hlt:w.heap.size+1<W.heap.size:=(Array.getElem?_eq_some_iff.1 hl).1
      have hy:=run_yield (P:=P) (args:=#[enc x]) hl (by rw [hrec];simp [hps])
      rw [hrec] at hy
      refine ⟨fn,_,assign,body,hy,roundIn_of_wpIn hfn (hassign _ x W _ ⟨_,run_beginRound hl (by rw [hrec]),?_⟩)⟩
      generalize hW2:W.putObj (w.heap.size+1) (.loop { rec .ready none with state:=.busy })=W2
      have hl2:W2.heap[w.heap.size+1]?=some (.loop { rec .ready none with state:=.busy }):=by rw [<- hW2];exact World.putObj_heap_same hlt
      have hk2:W2.heap[w.heap.size]?=some (.deferred (some [])):=by rw [<- hW2];exact (World.putObj_heap_other (by omega)).trans hk
      have f2:Fr (fun k=>k=w.heap.size+1) W W2:=by rw [<- hW2];exact Fr.putObj W _ _ rfl
      have hI2:I pre B W2:=hI _ _ _ _ hi (f2.mono fun k _ hk=>by have hk:k=w.heap.size+1:=hk;exact ⟨by omega,fun hb=>by have:=hB k hb;omega⟩)
      refine wpIn_mono (hbody _ pre x rest B _ hxs hI2 (Nat.le_trans hsz f2.size)) ?_
      rintro e a3 W3 ⟨rfl,B',hB',f3,hi3⟩
      have hl3:W3.heap[w.heap.size+1]?=some (.loop { rec .ready none with state:=.busy }):=(f3.block _ (Array.getElem?_eq_some_iff.1 hl2).1 (fun h=>by rcases h with h|h;(· have:=hSb _ h;omega);(· have:=hB _ h;omega))).trans hl2
      have hk3:W3.heap[w.heap.size]?=some (.deferred (some [])):=(f3.block _ (Array.getElem?_eq_some_iff.1 hk2).1 (fun h=>by rcases h with h|h;(· have:=hSb _ h;omega);(· have:=hB _ h;omega))).trans hk2
      have hr:=run_endRound (P:=P) none hl3
      rw [hrec] at hr
      have hs2:W.heap.size<=W2.heap.size:=f2.size
      have hB2:∀ k,B' k->w.heap.size+2<=k:=fun k hk=>by
        rcases hB' k hk with h|h
        · exact hB k h
        · omega
      refine ⟨_,_,hr,rfl,B',⟨?_,hB2,?_,?_,?_⟩,?_,?_⟩
      · exact hI _ _ _ _ hi3 (Fr.putObj W3 _ _ ⟨by omega,fun hb=>by have:=hB2 _ hb;omega⟩)
      · rw [hrec];exact World.putObj_heap_same (Array.getElem?_eq_some_iff.1 hl3).1
      · exact (World.putObj_heap_other (by omega)).trans hk3
      · have:=f3.size;have:=f2.size;simp;omega
      · intro k hk
        rcases hB' k hk with h|h
        · exact .inl h
        · exact .inr (Nat.le_trans hs2 h)
      · exact (f2.trans f3 (S'':=fun k=>(Sb k\/k=w.heap.size+1)\/B k) (fun k _ hk=>.inl (.inr hk)) (fun k _ hk=>hk.elim (fun h=>.inl (.inl h)) .inr)).trans (Fr.putObj (S:=fun k=>(Sb k\/k=w.heap.size+1)\/B k) W3 _ _ (.inl (.inr rfl))) (fun _ _ h=>h) (fun _ _ h=>h)
    · rintro e W2 ⟨⟨v,rfl⟩,B,hi,hB,hl,hk,hsz⟩
      refine ⟨none,_,by have:=run_endLoop (P:=P) hl (by rw [hrec];simp);rw [hrec] at this;exact this,hdone _ _ B (Nat.le_refl _) (hI _ _ _ _ hi (Fr.putObj W2 _ _ ⟨by omega,fun hb=>by have:=hB _ hb;omega⟩)) ((World.putObj_heap_other (by omega)).trans hk) (by simp;omega)⟩
end Go.Sx
set_option linter.unusedVariables false
set_option linter.unusedSimpArgs false
namespace Go.Proofs.YthfagbfllheneaaGreat
open Go Go.Sx T4
open Go.RowKit Go.Shelf
attribute [local go_sem] Oper.semAt_some
structure AllRelB (R M T:Nat->Prop) (W:World) (g:Nat) (A:Ar) (xs:List Nat) (J:List Nat->(Nat->Prop)->World->Prop) (B:Nat->Prop) (N:Nat) (v:Value) (u:World) (At:Option Addr) (c:Nat) (st:List (Nat×Nat)) (pre:List Nat):Prop where
  v:v=.slice At st.length c
  own:OwnK KN u At c (st.map (·.2))
  ge:∀ k,ownB At k->W.heap.size<=k
  tr:∀ p∈st,isTree A p
  xs:xs=pre++restOf A st
  n:N=(restOf A st).length
  j:J pre B u
  off:∀ k,ownB At k->¬ B k
  bge:∀ k,B k->W.heap.size<=k
  fr:Fr (fun k=>T k\/W.heap.size<=k) W u
  len:pre.length+st.length<=1048576
set_option maxHeartbeats 200000 in
theorem all1_specB {R M:Nat->Prop} {W:World} {g:Nat} {A:Ar} (h:Ar1 R M W g A) {H i:Nat} (ht:isTree A (H,i)) (hlen:(allF H A i).length<=1000000) {b1 b2 l:Nat} (hb1:Blk W b1 [iv i]) (hb2:Blk W b2 [.pointer (some ⟨g,0,none⟩)]) (T:Nat->Prop) (hT:∀ k,T k->k<W.heap.size/\¬ R k/\k≠b2)
    (J:List Nat->(Nat->Prop)->World->Prop) (hJB:∀ pre B U,J pre B U->∀ k,B k->k<U.heap.size) (hJ:∀ pre B U U',J pre B U->Fr (fun k=>W.heap.size<=k/\¬ B k) U U'->J pre B U')
    (hY:∀ pre x rest B U,allF H A i=pre++x::rest->J pre B U->YieldAt Fence.wide 0 Tryz.prog l #[iv x] U fun e U'=>e=.returned (.bool true)/\∃ B',J (pre++[x]) B' U'/\(∀ k,B' k->B k\/U.heap.size<=k)/\Fr (fun k=>T k\/B k) U U') (h0:J [] NoB W) :
    CallsIn Fence.wide 0 Tryz.prog 103 (#[.func (.yield l) #[] #[]]++#[.pointer (some ⟨b1,0,none⟩),.pointer (some ⟨b2,0,none⟩)]) W fun e U=>(∃ v,e=.returned v)/\∃ B,J (allF H A i) B U:=by
  generalize hxs:allF H A i=xs at *
  refine callsIn_of_wp Tryz.func103 all_body trivial ?_ rfl
  simp only [Tryz.ntmps103,List.size_toArray,List.length_cons,List.length_nil,Nat.reduceAdd,Nat.reduceSub,Array.replicate_succ,Array.replicate_zero,List.push_toArray,List.append_toArray,List.nil_append,List.cons_append]
  refine wpIn_seq ?_
  obtain ⟨e0,he0⟩:∃ e0:Value,e0=.func (.yield l) #[] #[]:=⟨_,rfl⟩
  have ag0:∀ {a:Act},a.defers=[]->a.tmps.size=37->a.tmps[0]?=some e0->a.tmps[1]?=some (.pointer (some ⟨b1,0,none⟩))->a.tmps[2]?=some (.pointer (some ⟨b2,0,none⟩))->Agrees 37 (Env.set (Env.set (Env.set (fun _=>none) 0 (some e0)) 1 (some (.pointer (some ⟨b1,0,none⟩)))) 2 (some (.pointer (some ⟨b2,0,none⟩)))) a:=by
    intro a h1 h2 h3 h4 h5
    refine ⟨h1,h2,fun t v hv=>?_⟩
    rcases set_get hv with ⟨e,hv2⟩|hv2
    · rw [e,h5,hv2]
    rcases set_get hv2 with ⟨e,hv3⟩|hv3
    · rw [e,h4,hv3]
    rcases set_get hv3 with ⟨e,hv4⟩|hv4
    · rw [e,h3,hv4]
    · cases hv4
  have agS:∀ {ρ:Env} {a:Act} {t:Nat} {v:Value},Agrees 37 ρ a->a.tmps[t]?=some v->Agrees 37 (Env.set ρ t (some v)) a:=by
    intro ρ a t v h1 h2
    refine ⟨h1.defers,h1.size,fun u x hx=>?_⟩
    rcases set_get hx with ⟨e,hx2⟩|hx2
    · rw [e,h2,hx2]
    · exact h1.at_ _ _ hx2
  have hM:=h.mlt
  have hRlt:=h.lt
  have hb1lt:=hb1.lt
  have hb2lt:=hb2.lt
  refine piece all0 (K:=kV 4 fun v w=>∃ gb,v=.slice (some ⟨gb,0,none⟩) 1 1/\Fresh W gb w [iv i] 3) (ρ:=Env.set (Env.set (Env.set (fun _=>none) 0 (some e0)) 1 (some (.pointer (some ⟨b1,0,none⟩)))) 2 (some (.pointer (some ⟨b2,0,none⟩)))) ?_ (ag0 rfl rfl (by rw [he0];rfl) rfl rfl) ?_
  · rw [<- all0R.eq e0 ⟨b1,0,none⟩ ⟨b2,0,none⟩ W (fun v w=>∃ gb,v=.slice (some ⟨gb,0,none⟩) 1 1/\Fresh W gb w [iv i] 3)]
    unfold all0R.W
    exact ⟨_,hb1.cell0 rfl,fun gb w' f=>⟨gb,rfl,f⟩⟩
  rintro e a w1 hsame ⟨ρ',hag,hK⟩ hp ho
  · obtain ⟨rfl,_,hρ,gb,rfl,f1⟩:=kV_elim hK
    have hk0:a.tmps[0]?=some e0:=(offs_keep offs0 hsame (t:=0) (by simp)).trans (by rw [he0];rfl)
    have hk1:a.tmps[1]?=some (.pointer (some ⟨b1,0,none⟩)):=(offs_keep offs0 hsame (t:=1) (by simp)).trans rfl
    have hk2:a.tmps[2]?=some (.pointer (some ⟨b2,0,none⟩)):=(offs_keep offs0 hsame (t:=2) (by simp)).trans rfl
    show Code.wpIn _ _ _ _ _ _ _
    refine wpIn_block ?_
    have e1:=f1.ext
    have own0:OwnK KN w1 (some ⟨gb,0,none⟩) 1 [i]:=by
      obtain ⟨rfl,rfl⟩:=f1
      exact ownK_lit (K:=KN) (l:=[i]) (cs:=[iv i]) rfl (by simp [maxLen]) (fun j a hj=>by cases j with|zero=>simp at hj;subst hj;rfl|succ j=>simp at hj)
    refine wpIn_loop (fun a u=>a.defers=[]/\a.tmps.size=37/\a.tmps[0]?=some e0/\a.tmps[1]?=some (.pointer (some ⟨b1,0,none⟩))/\a.tmps[2]?=some (.pointer (some ⟨b2,0,none⟩))/\∃ v,a.tmps[4]?=some v/\∃ N At c st pre B,AllRelB R M T W g A xs J B N v u At c st pre)
      (fun a u=>leastN fun N=>∃ v,a.tmps[4]?=some v/\∃ At c st pre B,AllRelB R M T W g A xs J B N v u At c st pre) ?_ ?_
    · refine ⟨hag.defers,hag.size,hk0,hk1,hk2,_,hag.at_ 4 _ hρ,_,some ⟨gb,0,none⟩,1,[(H,i)],[],NoB,rfl,own0,fun k hk=>by rw [ownB_some] at hk;subst hk;exact f1.ge,fun p hp=>by simp at hp;subst hp;exact ht,by rw [<- hxs];simp [restOf],rfl,hJ _ _ _ _ h0 e1.fr,fun _ _ h=>h,fun _ h=>h.elim,e1.fr,by simp⟩
    · rintro a u ⟨had,hasz,ha0,ha1,ha2,v,hv,hN⟩
      have hex:∃ N,∃ v,a.tmps[4]?=some v/\∃ At c st pre B,AllRelB R M T W g A xs J B N v u At c st pre:=by obtain ⟨N,hN⟩:=hN;exact ⟨N,v,hv,hN⟩
      obtain ⟨⟨v',hv',At,c,st,pre,B,hR⟩,hmin⟩:=leastN_spec hex
      rw [hv] at hv';cases hv'
      generalize hN0:(leastN fun N=>∃ v,a.tmps[4]?=some v/\∃ At c st pre B,AllRelB R M T W g A xs J B N v u At c st pre)=N0 at *
      obtain rfl:=hR.v
      have agA:=agS (ag0 had hasz ha0 ha1 ha2) hv
      refine wpIn_seq ?_
      refine piece all1 (K:=fun e ρ w=>w=u/\((e=.normal/\0<st.length)\/(e=.exit 0/\st.length=0))) ?_ agA ?_
      · rw [<- all1R.eq e0 ⟨b1,0,none⟩ ⟨b2,0,none⟩ At st.length c u (fun e w=>w=u/\((e=.normal/\0<st.length)\/(e=.exit 0/\st.length=0)))]
        unfold all1R.W
        exact brd (fun hlt=>⟨rfl,.inl ⟨rfl,by omega⟩⟩) (fun hge=>⟨rfl,.inr ⟨rfl,by omega⟩⟩)
      rintro e a1 u1 hs1 ⟨ρ1,hag1,rfl,hK⟩ hp1 ho1
      rcases hK with ⟨rfl,hpos⟩|⟨rfl,hzero⟩
      · -- one place more
        have k0:a1.tmps[0]?=some e0:=(offs_keep offs1 hs1 (t:=0) (by simp)).trans ha0
        have k1:a1.tmps[1]?=some (.pointer (some ⟨b1,0,none⟩)):=(offs_keep offs1 hs1 (t:=1) (by simp)).trans ha1
        have k2:a1.tmps[2]?=some (.pointer (some ⟨b2,0,none⟩)):=(offs_keep offs1 hs1 (t:=2) (by simp)).trans ha2
        have k4:=(offs_keep offs1 hs1 (t:=4) (by simp)).trans hv
        obtain ⟨st',p,rfl⟩:∃ st' p,st=st'++[p]:=⟨st.dropLast,st.getLast (List.length_pos_iff.1 hpos),(List.dropLast_concat_getLast _).symm⟩
        obtain ⟨n,kk,hnd,hna,hpk,hall,hkids⟩:=(hR.tr p (by simp)).step
        have hlst:(st'++[p]).length=st'.length+1:=by simp
        have e1':IntKind.i64.wrap (((st'++[p]).length:Int)-1)=((st'.length:Nat):Int):=by rw [hlst,wi _ (by omega) (by have:=hR.len;rw [hlst] at this;omega)];omega
        have hle:st'.length+1<=c:=by have:=hR.own.le;simpa using this
        have hfr:=hR.fr
        have b2u:Blk u1 b2 [.pointer (some ⟨g,0,none⟩)]:=hb2.keep hfr (fun h=>h.elim (fun h=>(hT _ h).2.2 rfl) (fun h=>by omega))
        have hAu:Ar1 R M u1 g A:=h.frame hfr (fun k hk hs=>hs.elim (fun h=>(hT _ h).2.1) (fun h=>by have:W.heap.size<=k:=h;intro hr;have:=hRlt k hr;omega))
        obtain ⟨xs0,hx0,hxf⟩:=(ownK1 oneN).1 hR.own
        have hcell:∃ gA,At=some ⟨gA,0,none⟩/\u1.cell? ⟨gA,st'.length,none⟩=some (iv p.2):=by
          obtain ⟨vv,hvv,hrr⟩:=hxf.get (i:=st'.length) (a:=p.2) (by simp)
          have hrr:[vv]=[iv p.2]:=hrr
          cases hrr
          exact hx0.cells hvv
        obtain ⟨gA,rfl,hcell⟩:=hcell
        show Code.wpIn _ _ _ _ _ _ _
        refine wpIn_block (wpIn_seq ?_)
        refine piece all2 (K:=kV 5 fun v w=>v=iv p.2/\w=u1) ?_ (agS (ag0 hag1.defers hag1.size k0 k1 k2) k4) ?_
        · rw [<- all2R.eq e0 ⟨b1,0,none⟩ ⟨b2,0,none⟩ (some ⟨gA,0,none⟩) (st'++[p]).length c u1 (fun v w=>v=iv p.2/\w=u1)]
          unfold all2R.W
          rw [e1']
          exact ⟨_,rfl,⟨by omega,by omega⟩,_,by rw [add_new,Nat.zero_add,Int.toNat_natCast,Nat.mul_one];exact hcell,rfl,rfl⟩
        rintro e a2 u2 hs2 ⟨ρ2,hag2,hK2⟩ hp2 ho2
        · obtain ⟨rfl,_,hρ5,rfl,rfl⟩:=kV_elim hK2
          have m0:=(offs_keep offs2 hs2 (t:=0) (by simp)).trans k0
          have m1:=(offs_keep offs2 hs2 (t:=1) (by simp)).trans k1
          have m2:=(offs_keep offs2 hs2 (t:=2) (by simp)).trans k2
          have m4:=(offs_keep offs2 hs2 (t:=4) (by simp)).trans k4
          have m5:=hag2.at_ 5 _ hρ5
          show Code.wpIn _ _ _ _ _ _ _
          refine wpIn_seq ?_
          have hAu2:=hAu
          obtain ⟨At0,ac,Fa,fc,mb,ha⟩:=hAu2
          obtain ⟨hil,ga,bn,A1,c1,A2,c2,A3,c3,rfl,hcn,hN⟩:=ha.node hnd
          have hcl:=hN.okn.c
          have hrl:(restOf A (st'++[p])).length<=xs.length:=by rw [hR.xs,List.length_append];omega
          have hrp:=restOf_pop A st' p
          have hex2:xs=pre++p.2::(n.kids.reverse.flatMap (allF kk A)++restOf A st'):=by rw [hR.xs,hrp,hall];rfl
          have hst':st'.length+pre.length<=1048576:=by have:=hR.len;rw [hlst] at this;omega
          obtain ⟨v',w3,hap,hown3,hg3⟩:∃ v' w3,(∃ At' c',v'=.slice At' (st'++n.kids.map fun j=>(kk,j)).length c'/\OwnK KN w3 At' c' ((st'++n.kids.map fun j=>(kk,j)).map (·.2))/\∀ k,ownB At' k->W.heap.size<=k/\¬ B k)/\RunsTo Tryz.prog (Builtin.append_ #[39,39] 39 #[.slice (some ⟨gA,0,none⟩) st'.length c,.slice A3 n.kids.length c3]) u2.drew v' w3/\Fr (fun k=>W.heap.size<=k/\¬ B k) u2.drew w3:=by
            have ot:=hR.own.take st'.length (by simp)
            have e3:((st'++[p]).map (·.2)).take st'.length=st'.map (·.2):=by simp
            rw [e3] at ot
            have hk3:Imm KN (ownB (some ⟨gA,0,none⟩)) u2 A3 n.kids:=by
              intro ii aa haa
              obtain ⟨ad,h1,h2,cs,h3,h4⟩:=hN.kids ii aa haa
              refine ⟨ad,h1,fun hk=>?_,cs,h3,h4⟩
              have hge:=hR.ge _ hk
              exact h2 (.inl fun hr=>by have:=hRlt _ hr;omega)
            obtain ⟨At',c',w3,hr3,ho3,gr3⟩:=(ot.ext (Fr.drew NoB u2)).append (K:=KN) slI (ty:=39) (cb:=c3) (hk3.keep KN_pos ((Fr.drew NoB u2).step (Ω:=ownB (some ⟨gA,0,none⟩)) (Ω':=ownB (some ⟨gA,0,none⟩)) (fun _ _ h=>h.elim) (fun _ _ h=>h))) (fun a cs h=>oneN.one h) (by simp only [maxLen,List.length_map];omega) (by simp only [List.length_map];omega)
            refine ⟨_,w3,⟨At',c',?_,?_,fun k hk=>?_⟩,by rw [List.length_map] at hr3;exact hr3,gr3.fr.mono fun k _ hk=>⟨hR.ge k hk,hR.off k hk⟩⟩
            · simp
            · have:(st'++n.kids.map fun j=>(kk,j)).map (·.2)=st'.map (·.2)++n.kids:=by simp [Function.comp_def]
              rw [this];exact ho3
            · rcases gr3.sub k hk with h|h
              · exact ⟨hR.ge k h,hR.off k h⟩
              · exact ⟨Nat.le_trans hfr.size h,fun hb=>by have h1:=hJB _ _ _ hR.j k hb;have:u2.heap.size<=k:=h;omega⟩
          obtain ⟨At',c',rfl,hown',hge'⟩:=hap
          refine piece all3 (K:=kV 4 fun v w=>v=.slice At' (st'++n.kids.map fun j=>(kk,j)).length c'/\w=w3) ?_ (agS (agS (ag0 hag2.defers hag2.size m0 m1 m2) m4) m5) ?_
          · rw [<- all3R.eq e0 ⟨b1,0,none⟩ ⟨b2,0,none⟩ (some ⟨gA,0,none⟩) (st'++[p]).length c (p.2:Int) u2 (fun v w=>v=.slice At' (st'++n.kids.map fun j=>(kk,j)).length c'/\w=w3)]
            unfold all3R.W
            rw [e1',Int.toNat_natCast,Int.toNat_natCast,cutAt_zero,Nat.sub_zero,Nat.sub_zero]
            have s0:Fr (fun k=>W.heap.size<=k/\¬ B k) u2 u2.drew:=Fr.drew _ u2
            have rd:∀ {ad:Addr} {v:Value},u2.cell? ad=some v->ad.block<W.heap.size->∀ x,Fr (fun k=>W.heap.size<=k/\¬ B k) u2 x->x.cell? ad=some v:=fun h1 h2 x hx=>hx.cell (fun h=>by have:=h.1;omega) h1
            have rb:∀ {k:Nat},R k->k<W.heap.size:=fun hr=>hRlt _ hr
            have rbn:R bn:=Classical.byContradiction fun hr=>hN.off (.inl hr)
            refine ⟨⟨by omega,by omega⟩,fun v=>Fr (fun k=>W.heap.size<=k/\¬ B k) u2 v,s0,_,rd (b2u.cell0 rfl) hb2lt,_,rfl,_,_,_,rd (ad:=(⟨g,0,none⟩:Addr).add 2) (ha.blk.cell rfl) (by rw [add_block];exact rb (ha.mr _ ha.mg)),_,rfl,⟨by omega,by omega⟩,_,?_,_,rfl,A3,n.kids.length,c3,rd (ad:=(⟨bn,0,none⟩:Addr).add 2) (hN.blk.cell rfl) (by rw [add_block];exact rb rbn),_,_,_,w3,hown3,s0.trans hg3 (fun _ _ h=>h) (fun _ _ h=>h),rfl,rfl⟩
            refine rd (by rw [add_new,Nat.zero_add,Nat.mul_one];exact hcn) ?_
            rw [add_block];exact rb (ha.mr _ (ha.mA _ ⟨_,rfl,rfl⟩))
          rintro e a3 u3 hs3 ⟨ρ3,hag3,hK3⟩ hp3 ho3
          obtain ⟨rfl,_,hρ4,rfl,rfl⟩:=kV_elim hK3
          have q0:=(offs_keep offs3 hs3 (t:=0) (by simp)).trans m0
          have q1:=(offs_keep offs3 hs3 (t:=1) (by simp)).trans m1
          have q2:=(offs_keep offs3 hs3 (t:=2) (by simp)).trans m2
          have q5:=(offs_keep offs3 hs3 (t:=5) (by simp)).trans m5
          have q4:=hag3.at_ 4 _ hρ4
          obtain ⟨x0,x1,x2,x3,x4,x5,x6,x7,x8,x9,x10,x11,x12,x13,x14,x15,x16,x17,x18,x19,x20,x21,x22,x23,x24,x25,x26,x27,x28,x29,x30,x31,x32,x33,x34,x35,x36,rfl⟩:=list37 hag3.size hag3.defers
          simp only [List.getElem?_toArray,List.getElem?_cons_zero,List.getElem?_cons_succ,Option.some.injEq] at q0 q1 q2 q4 q5
          subst q0;subst q1;subst q2;subst q4;subst q5
          subst he0
          have hg30:Fr (fun k=>W.heap.size<=k/\¬ B k) u2 u3:=(Fr.drew _ u2).trans hg3 (fun _ _ h=>h) (fun _ _ h=>h)
          have hJ3:J pre B u3:=hJ _ _ _ _ hR.j hg30
          obtain ⟨fnn,tmps,assign,body,hy,hRo⟩:=hY pre p.2 _ B u3 hex2 hJ3
          have hy:(Instr.yield l #[.int .i64 (p.2:Int)]).run Tryz.prog u3=.ok (.round l fnn tmps assign body) u3:=hy
          show Code.wpIn _ _ _ _ _ _ _
          simp only [all4,Tryz.f103]
          gi_wp2
          refine ⟨rfl,hRo.mono ?_⟩
          rintro e U' ⟨rfl,B',hJ',hB',hFr⟩
          gi_wp2
          have hlr:=restOf_len A (st'++n.kids.map fun j=>(kk,j))
          have hrn:restOf A (st'++n.kids.map fun j=>(kk,j))=n.kids.reverse.flatMap (allF kk A)++restOf A st':=restOf_push A st' kk n.kids
          have hnew:AllRelB R M T W g A xs J B' (restOf A (st'++n.kids.map fun j=>(kk,j))).length (.slice At' (st'.length+n.kids.length) c') U' At' c' (st'++n.kids.map fun j=>(kk,j)) (pre++[p.2]):=by
            have hxs2:xs=(pre++[p.2])++restOf A (st'++n.kids.map fun j=>(kk,j)):=by rw [hrn,hex2];simp
            refine ⟨by simp,hown'.fr hFr (fun k hk hk'=>by have h1:=hge' k hk;rcases hk' with hk'|hk';(· have:=(hT k hk').1;omega);(· exact h1.2 hk')) (fun _ _ _ h=>h),fun k hk=>(hge' k hk).1,fun q hq=>?_,hxs2,rfl,hJ',fun k hk hb=>?_,fun k hb=>?_,(hfr.trans hg30 (S'':=fun k=>T k\/W.heap.size<=k) (fun _ _ h=>h) (fun _ _ h=>.inr h.1)).trans hFr (fun _ _ h=>h) (fun k _ h=>h.elim .inl fun h=>.inr (hR.bge k h)),?_⟩
            · rcases List.mem_append.1 hq with hq|hq
              · exact hR.tr q (List.mem_append_left _ hq)
              · obtain ⟨j,hj,rfl⟩:=List.mem_map.1 hq;exact hkids j hj
            · rcases hB' k hb with h|h
              · exact (hge' k hk).2 h
              · have:=hown'.lt k hk;omega
            · rcases hB' k hb with h|h
              · exact hR.bge k h
              · exact Nat.le_trans (Nat.le_trans hfr.size hg30.size) h
            · have:=congrArg List.length hxs2
              rw [List.length_append] at this
              omega
          refine ⟨⟨trivial,rfl,rfl,rfl,rfl,_,rfl,_,At',c',_,_,_,hnew⟩,?_⟩
          refine Nat.lt_of_le_of_lt ((leastN_spec ⟨_,_,rfl,At',c',_,_,_,hnew⟩).2 _ ⟨_,rfl,At',c',_,_,_,hnew⟩) ?_
          rw [hR.n,hrp,hall,hrn]
          simp
      · -- all have come
        have hst0:st=[]:=List.eq_nil_of_length_eq_zero hzero
        subst hst0
        have hx:xs=pre:=by rw [hR.xs];simp [restOf]
        simp only [Exit.then,Exit.inBlock,if_true]
        exact ⟨hag1.defers,_,results_none rfl _ _ _,⟨_,rfl⟩,B,by rw [hx];exact hR.j⟩
end Go.Proofs.YthfagbfllheneaaGreat
set_option linter.unusedVariables false
set_option linter.unusedSimpArgs false
namespace Go.Proofs.YthfagbfllheneaaGreat
open Go Go.Sx T4
open Go.RowKit Go.Shelf
attribute [local go_sem] Oper.semAt_some
theorem app_nd:noDef appOps=true:=by kernel_rfl
set_option maxRecDepth 100000 in
set_option maxHeartbeats 2000000 in
theorem AppendSeq_in {R M:Nat->Prop} {w:World} {g:Nat} {A:Ar} (h:Ar1 R M w g A) {H i:Nat} (ht:isTree A (H,i)) (hlen:(allF H A i).length<=1000000) {b1 b2:Nat} (hb1:Blk w b1 [iv i]) (hb2:Blk w b2 [.pointer (some ⟨g,0,none⟩)]) :
    CallsIn Fence.wide 0 Tryz.prog 102 #[.slice none 0 0,.func (.func 103) #[] #[.pointer (some ⟨b1,0,none⟩),.pointer (some ⟨b2,0,none⟩)]] w fun e w'=>∃ v,e=.returned v/\∃ A' c',v=.slice A' (allF H A i).length c'/\OwnK KN w' A' c' (allF H A i)/\Ext w w'/\New w A':=by
  refine callsIn_of_wp_marks Tryz.func102 app_body trivial ?_ rfl
  simp only [Tryz.ntmps102,List.size_toArray,List.length_cons,List.length_nil,Nat.reduceAdd,Nat.reduceSub,Array.replicate_succ,Array.replicate_zero,List.push_toArray,List.append_toArray,List.nil_append,List.cons_append]
  simp only [app0,app1,Tryz.f102]
  have e1:Ext w (w.alloc (Obj.cells #[Value.slice none 0 0] 39)):=Fr.alloc NoB w _
  have hbs:Blk (w.alloc (Obj.cells #[Value.slice none 0 0] 39)) w.heap.size [.slice none 0 0]:=Blk.alloc w [.slice none 0 0] 39
  have hs1:(w.alloc (Obj.cells #[Value.slice none 0 0] 39)).heap.size=w.heap.size+1:=by simp
  gi_wp2
  generalize hw1:w.alloc (Obj.cells #[Value.slice none 0 0] 39)=w1 at *
  have hR:=h.lt
  have hb1l:=hb1.lt
  have hb2l:=hb2.lt
  refine range_allB (enc:=iv) (xs:=allF H A i) (gf:=103) (lb:=#[.pointer (some ⟨b1,0,none⟩),.pointer (some ⟨b2,0,none⟩)]) rfl (enters_of Tryz.func103 (by kernel_rfl) rfl) (fun k=>k=w.heap.size) (by rintro k rfl;omega) ?hit rfl
    (fun pre B U=>∃ At c,(∀ k,B k<->ownB At k)/\Blk U w.heap.size [.slice At pre.length c]/\OwnK KN U At c pre/\(∀ k,ownB At k->w1.heap.size<=k)/\Ext w U) ?hIB ?hI ⟨none,0,fun k=>⟨fun h=>h.elim,fun h=>by obtain ⟨_,h,_⟩:=h;cases h⟩,hbs,OwnK.nil _ _,fun k h=>(by obtain ⟨_,h,_⟩:=h;cases h),e1⟩
    (fun x=>{ tmps:=#[.slice none 0 0,.func (.func 103) #[] #[.pointer (some ⟨b1,0,none⟩),.pointer (some ⟨b2,0,none⟩)],.pointer (some ⟨w.heap.size,0,none⟩),undef,.slice none 0 0,iv x,.func (.func 103) #[] #[.pointer (some ⟨b1,0,none⟩),.pointer (some ⟨b2,0,none⟩)],iv x,undef,undef,undef,undef,undef],defers:=[] }) ?assign ?body ?done
  case hit =>
    intro l T' J W eW hT' hJB hJ hY h0
    refine all1_specB (h.ext (e1.trans' eW)) ht hlen (hb1.ext (e1.trans' eW)) (hb2.ext (e1.trans' eW)) T' (fun k hk=>?_) J hJB hJ hY h0
    obtain ⟨h1,h2⟩:=hT' k hk
    refine ⟨h2,fun hr=>?_,?_⟩
    · have:=hR k hr;rcases h1 with h1|h1<;>omega
    · rcases h1 with h1|h1<;>omega
  case hIB =>
    rintro pre B U ⟨At,c,hB,_,ho,_⟩ k hk
    exact ho.lt k ((hB k).1 hk)
  case hI =>
    rintro pre B U U' ⟨At,c,hB,hb,ho,hg,e⟩ hf
    refine ⟨At,c,hB,hb.keep hf (fun h=>by have:=h.1;omega),ho.fr hf (fun k hk hs=>hs.2 ((hB k).2 hk)) (fun _ _ _ h=>h),hg,⟨hf.os.trans e.os,hf.tape.trans e.tape,hf.output.trans e.output,Nat.le_trans e.size hf.size,fun k hk _=>(hf.block k (Nat.lt_of_lt_of_le hk e.size) (fun h=>by have:=h.1;omega)).trans (e.block k hk fun h=>h)⟩⟩
  case assign =>
    intro l x W K hK
    simp only [app2,Tryz.f102]
    gi_wp2
    exact hK
  case body =>
    rintro l pre x rest B U hxs ⟨At,c,hB,hb,ho,hg,e⟩ hsz
    refine wpIn_block ?_
    have hag:Agrees 13 (Env.set (Env.set (fun _=>none) 2 (some (.pointer (some ⟨w.heap.size,0,none⟩)))) 5 (some (.int .i64 (x:Int)))) { tmps:=#[.slice none 0 0,.func (.func 103) #[] #[.pointer (some ⟨b1,0,none⟩),.pointer (some ⟨b2,0,none⟩)],.pointer (some ⟨w.heap.size,0,none⟩),undef,.slice none 0 0,iv x,.func (.func 103) #[] #[.pointer (some ⟨b1,0,none⟩),.pointer (some ⟨b2,0,none⟩)],iv x,undef,undef,undef,undef,undef],defers:=[] }:=by
      refine ⟨rfl,rfl,fun t v hv=>?_⟩
      rcases set_get hv with ⟨e,hv2⟩|hv2
      · rw [e,<- hv2];rfl
      rcases set_get hv2 with ⟨e,hv3⟩|hv3
      · rw [e,<- hv3];rfl
      · cases hv3
    have hpl:pre.length+1<=1000000:=by have:=congrArg List.length hxs;rw [List.length_append,List.length_cons] at this;omega
    refine wpIn_mono (region_in okay 3 appOps false app_nd (opsDst appOps) (fun e=>match e with | .normal=>fun _ u=>∃ At' c',Blk u w.heap.size [.slice At' (pre++[x]).length c']/\OwnK KN u At' c' (pre++[x])/\(∀ k,ownB At' k->ownB At k\/U.heap.size<=k)/\Fr (fun k=>k=w.heap.size\/ownB At k) U u|_=>fun _ _=>False) _ _ U (fun _ h=>h) (.refl _ _) hag ?_) ?_
    · rw [cond_false]
      show regW .named Tryz.prog 13 appOps 0 appOps (fun _ u=>∃ At' c',Blk u w.heap.size [.slice At' (pre++[x]).length c']/\OwnK KN u At' c' (pre++[x])/\(∀ k,ownB At' k->ownB At k\/U.heap.size<=k)/\Fr (fun k=>k=w.heap.size\/ownB At k) U u) _ U
      rw [<- appR.eq ⟨w.heap.size,0,none⟩ (x:Int) U (fun u=>∃ At' c',Blk u w.heap.size [.slice At' (pre++[x]).length c']/\OwnK KN u At' c' (pre++[x])/\(∀ k,ownB At' k->ownB At k\/U.heap.size<=k)/\Fr (fun k=>k=w.heap.size\/ownB At k) U u)]
      unfold appR.W
      refine ⟨_,_,_,hb.cell0 rfl,?_⟩
      rintro g2 U1 ⟨rfl,rfl⟩
      obtain ⟨A',c',U2,hr,ho',gr⟩:=ho.push slI (ty:=39) (a:=x) (cs:=[iv x]) rfl (fun v hv=>by simp at hv;subst hv;rfl) (e':=3) (by simp only [maxLen];omega) (by omega)
      have hb2':=hb.keep gr.fr (fun hk=>by have:=hg _ hk;omega)
      obtain ⟨q1,q2⟩:=setF hb2' (o:=0) (by simp) (.slice A' (pre++[x]).length c')
      rw [add_zero'] at q1 q2
      refine ⟨_,_,_,U2,hr,q1,fun u hu=>?_⟩
      obtain ⟨b3,f3⟩:=q2 u hu
      refine ⟨A',c',b3,ho'.fr f3 (fun k hk he=>?_) (fun _ _ _ h=>h),gr.sub,(gr.fr.mono fun _ _ h=>.inr h).trans f3 (fun _ _ h=>h) (fun _ _ h=>.inl h)⟩
      have he:k=w.heap.size:=he
      rcases gr.sub k hk with h|h
      · have:=hg k h;omega
      · have:=hb.lt;omega
    · intro e' a' u hq
      cases e' with
      | normal =>
        obtain ⟨_,ρ',_,At',c',h5,h6,h7,h8⟩:=hq
        refine ⟨rfl,ownB At',fun k hk=>?_,h8.mono fun k _ hk=>?_,At',c',fun _=>Iff.rfl,h5,h6,fun k hk=>?_,?_⟩
        · exact (h7 k hk).imp (hB k).2 id
        · exact hk.imp id (hB k).2
        · rcases h7 k hk with h|h
          · exact hg k h
          · exact Nat.le_trans hsz h
        · exact ⟨h8.os.trans e.os,h8.tape.trans e.tape,h8.output.trans e.output,Nat.le_trans e.size h8.size,fun k hk _=>(h8.block k (Nat.lt_of_lt_of_le hk e.size) (fun h=>by rcases h with h|h;(· omega);(· have:=hg k h;omega))).trans (e.block k hk fun h=>h)⟩
      | panic _=>exact hq.elim
      | outgrown=>exact hq.elim
      | ret=>obtain ⟨_,ρ',_,h5⟩:=hq;exact h5.elim
      | exit _=>obtain ⟨_,ρ',_,h5⟩:=hq;exact h5.elim
      | goto _=>obtain ⟨_,ρ',_,h5⟩:=hq;exact h5.elim
  case done =>
    rintro D W B hD ⟨At,c,hB,hb,ho,hg,e⟩ hdef hsz
    have hc:W.cell? ⟨w.heap.size,0,none⟩=some (.slice At (allF H A i).length c):=hb.cell0 rfl
    gi_wp2
    simp only [app4,Tryz.f102]
    gi_wp2
    refine ⟨by simp,.inl ⟨_,_,rfl,run_takeDeferred hdef,?_⟩⟩
    refine ⟨_,results_tmp rfl _ _ _,_,rfl,At,c,rfl,?_,?_,fun k hk=>by have:=hg k hk;omega⟩
    · refine ho.fr (Fr.putObj (S:=fun k=>k=D) W D _ rfl) (fun k hk he=>?_) (fun _ _ _ h=>h)
      have he:k=D:=he
      subst he
      obtain ⟨xs,ho,_⟩:=ho
      obtain ⟨ad,hA,hb⟩:=hk
      rcases ho.2.2 with ⟨h,_⟩|⟨g',cur,e,lo,hi,h,hg,_⟩
      · rw [h] at hA;cases hA
      · rw [h] at hA;cases hA;subst hb;rw [hdef] at hg;cases hg
    · exact ⟨e.os,e.tape,e.output,by simpa using e.size,fun k hk _=>(World.putObj_heap_other (by omega)).trans (e.block k hk fun h=>h)⟩
end Go.Proofs.YthfagbfllheneaaGreat
set_option linter.unusedVariables false
set_option linter.unusedSimpArgs false
namespace Go.Proofs.YthfagbfllheneaaGreat
open Go Go.Sx T4
open Go.RowKit Go.Shelf
attribute [local go_sem] Oper.semAt_some
/-! ## the places collected -/
theorem Collect_spec {R M:Nat->Prop} {w:World} {g:Nat} {A:Ar} (h:Ar1 R M w g A) {H i:Nat} (ht:isTree A (H,i)) (hlen:(allF H A i).length<=1000000) {b1 b2:Nat} (hb1:Blk w b1 [iv i]) (hb2:Blk w b2 [.pointer (some ⟨g,0,none⟩)]) :
    CallsV Tryz.prog 78 #[.func (.func 103) #[] #[.pointer (some ⟨b1,0,none⟩),.pointer (some ⟨b2,0,none⟩)]] w fun r w'=>∃ A' c',r=.slice A' (allF H A i).length c'/\OwnK KN w' A' c' (allF H A i)/\Ext w w'/\New w A':=by
  refine slices_Collect_int.calls okay ?_
  unfold slices_Collect_int.W
  have hc:CallsV Tryz.prog 102 #[.slice none 0 0,.func (.func 103) #[] #[.pointer (some ⟨b1,0,none⟩),.pointer (some ⟨b2,0,none⟩)]] w fun v w'=>∃ A' c',v=.slice A' (allF H A i).length c'/\OwnK KN w' A' c' (allF H A i)/\Ext w w'/\New w A':=callsIn_wide.1 (AppendSeq_in h ht hlen hb1 hb2)
  refine hc.mono ?_
  rintro _ w' ⟨A',c',rfl,ho,e,n⟩
  exact ⟨_,_,_,rfl,A',c',rfl,ho,e,n⟩
theorem Stm.delete {w w':World} {b:Nat} {l:List (Int×Value)} (hM:MapK fI w b l) (h:Stm w b) {a:Int} {ty:TypeId} {v:Value} (hrun:RunsTo Tryz.prog (Builtin.delete_ #[127,3] ty #[.map (some b),.int .i64 a]) w v w'):Stm w' b:=by
  obtain ⟨es,clock,hb,hs⟩:=h
  obtain ⟨es',clock',hb',he⟩:=hM
  rw [hb] at hb'
  cases hb'
  have ht:und Tryz.prog 127=some (.map 3 3):=by kernel_rfl
  have hks:∀ x∈es.toList,MapKept.IsKey (.int .i64) x.key:=fun x hx=>by
    have:(x.key,x.val)∈es.toList.map (fun e=>(e.key,e.val)):=List.mem_map.2 ⟨x,hx,rfl⟩
    rw [he] at this
    obtain ⟨p,_,hp⟩:=List.mem_map.1 this
    have:x.key=fI p.1:=(congrArg Prod.fst hp).symm
    rw [this];exact keyI.key p.1
  obtain ⟨es2,clock2,h1,h2,_⟩:=MapKept.delete_keeps (P:=Tryz.prog) (und_underlying ht) (und_underlying keyI.und) hb hs hks (keyI.key a) hrun
  exact ⟨es2,clock2,h1,h2⟩
theorem dropAll_free:∀ (l:List Nat) (A:Ar),(dropAll A l).free.length=A.free.length+l.length
  | [],A=>rfl
  | x::l,A=>by
    have:=dropAll_free l (drop A x)
    rw [show dropAll A (x::l)=dropAll (drop A x) l from rfl,this];simp [drop];omega
theorem dropAll_snoc (A:Ar) (l:List Nat) (x:Nat):dropAll A (l++[x])=drop (dropAll A l) x:=by simp [dropAll]
set_option maxHeartbeats 400000 in
theorem Drop_spec {R M:Nat->Prop} {w:World} {g:Nat} {A:Ar} (h:Ar1 R M w g A) {root:Int} {H i:Nat} {es:Es} {ps Q:List Nat} (hr:getT A.trees root=some i) (T:TreeAt A H i es ps Q) :
    CallsV Tryz.prog 53 #[.pointer (some ⟨g,0,none⟩),.int .i64 root] w fun r w'=>r=.int .i64 0/\∃ R' M',Ar1 R' M' w' g (dropT A root (allF H A i))/\Chg R M w R' M' w':=by
  have hlen:=T.len
  have htot:=T.acc.total
  have hlenF:=allF_len H T.tree
  have hfree:=(Acc.free T.acc).2
  refine tree_Arena_Drop.calls okay ?_
  unfold tree_Arena_Drop.W
  refine (top_spec h (by have:=T.f1;omega) root).mono ?_
  rintro _ w0 ⟨rfl,hw0⟩
  obtain rfl:w=w0:=hw0.symm
  rw [hr]
  refine ⟨_,_,rfl,brn (fun h=>absurd rfl h) fun _=>(all_spec g i).mono ?_⟩
  rintro _ w1 ⟨b1,b2,rfl,hb1,hb2,e1,_,_,_⟩
  refine ⟨_,rfl,(Collect_spec (h.ext e1) ⟨_,_,_,_,_,T.tree⟩ (by omega) hb1 hb2).mono ?_⟩
  rintro _ w2 ⟨X,xc,rfl,oX,e2,nX⟩
  generalize hl:allF H A i=l at *
  have e12:=e1.trans' e2
  have hRl:=h.lt
  have hlt:∀ x∈l,x<A.at_.length:=fun x hx=>T.acc.lt (by
    have h1:=all_count H T.tree x
    rw [hl] at h1
    have:=List.count_pos_iff.2 hx
    exact List.count_pos_iff.1 (by omega))
  refine ⟨_,_,_,rfl,fun x u=>∃ j:Nat,j<=l.length/\x=(j:Int)/\∃ R' M',Ar1 R' M' u g (dropAll A (l.take j))/\Chg R M w2 R' M' u/\OwnK KN u X xc l/\(∀ k,ownB X k->¬ R' k),fun x _=>(l.length-x).toNat,⟨0,Nat.zero_le _,rfl,R,M,h.ext e12,.refl _ _ _,oX,fun k hk hr=>by have:=hRl k hr;have:=nX k hk;have:=e1.size;omega⟩,?_⟩
  rintro _ u ⟨j,hj,rfl,R',M',hA,c,ho,hoff⟩
  refine brd (fun hlt'=>?_) (fun hge=>?_)
  · have hjl:j<l.length:=by omega
    obtain ⟨xs0,hx0,hxf⟩:=(ownK1 oneN).1 ho
    obtain ⟨vv,hvv,hrr⟩:=hxf.get (i:=j) (a:=l[j]) (List.getElem?_eq_getElem hjl)
    have hrr:[vv]=[iv l[j]]:=hrr
    cases hrr
    obtain ⟨gX,rfl,hcell⟩:=hx0.cells hvv
    refine ⟨_,rfl,⟨by omega,by omega⟩,(l[j]:Int),by rw [add_new,Nat.zero_add,Int.toNat_natCast,Nat.mul_one];exact hcell,?_⟩
    refine (drop_spec hA (by rw [dropAll_free,List.length_take];omega) (i:=l[j]) (by rw [dropAll_len];exact hlt _ (by simp))).mono ?_
    rintro _ u' ⟨rfl,R2,M2,hA2,c2⟩
    rw [wi _ (by omega) (by omega)]
    have ht:l.take (j+1)=l.take j++[l[j]]:=by rw [List.take_add_one,List.getElem?_eq_getElem hjl];rfl
    refine ⟨rfl,⟨j+1,by omega,by omega,R2,M2,by rw [ht,dropAll_snoc];exact hA2,c.trans c2,ho.fr c2.fr (fun k hk hm=>hoff k hk (hA.mr k hm)) (fun _ _ _ h=>h),fun k hk=>c2.off (ho.lt k hk) (hoff k hk)⟩,by dsimp only;omega⟩
  · obtain rfl:j=l.length:=by omega
    rw [List.take_length] at hA
    obtain ⟨At,ac,Fa,fc,mb,ha⟩:=hA
    have htr:(dropAll A l).trees=A.trees:=(mv_dropAll l A).trees
    obtain ⟨w',hr',hm',hf'⟩:=MapK.drop ha.trees root 0
    have mOff:=ha.mbOff
    have hst:=Stm.delete ha.trees ha.stm hr'
    refine ⟨_,rfl,_,ha.blk.cell rfl,w',hr',rfl,R',M',⟨At,ac,Fa,fc,mb,?_⟩,(Chg.ext e12).trans (c.trans ⟨hf'.mono fun k _ e=>by have e:k=mb:=e;rw [e];exact ha.mm,fun _ h=>.inl h,fun _ h=>h,fun _ h=>.inl h⟩)⟩
    have hgm:g≠mb:=fun e=>mOff.1 e.symm
    refine ⟨ha.blk.keep hf' hgm,fun k hk=>Nat.lt_of_lt_of_le (ha.rlt k hk) hf'.size,ha.mr,ha.mg,ha.mA,ha.mF,ha.mm,ha.gA,ha.gF,ha.aF,ha.at_.toOut hf' (fun k hk e=>mOff.2.1 (e▸hk)) (fun k _ e=>.inr (.inr (e▸ha.mm))) (fun k _ h=>.inr h),ha.free.fr hf' (fun k hk e=>mOff.2.2 (e▸hk)) (fun _ _ _ h=>h),?_,hst⟩
    show MapK fI w' mb (mapE (delD A.trees root))
    rw [<- htr];exact hm'
theorem Drop_none {R M:Nat->Prop} {w:World} {g:Nat} {A:Ar} (h:Ar1 R M w g A) (hf:0<A.fan) {root:Int} (hr:getT A.trees root=none) :
    CallsV Tryz.prog 53 #[.pointer (some ⟨g,0,none⟩),.int .i64 root] w fun r w'=>r=.int .i64 41/\w'=w:=by
  refine tree_Arena_Drop.calls okay ?_
  unfold tree_Arena_Drop.W
  refine (top_spec h hf root).mono ?_
  rintro _ _ ⟨rfl,rfl⟩
  rw [hr]
  exact ⟨_,_,rfl,brn (fun _=>⟨rfl,rfl⟩) fun h=>by cases h⟩
/-! ## a map, copied -/
set_option maxRecDepth 100000 in
theorem maps_Clone_spec {w:World} {b:Nat} {es:Array MapEntry} {clock:Nat} (hb:w.heap[b]?=some (.map es clock)) :
    CallsV Tryz.prog 95 #[.map (some b)] w fun r w'=>r=.map (some w.heap.size)/\w'=w.alloc (.map es clock):=by
  have ht:Tryz.prog.underlying 127=some (.map 3 3):=und_underlying (by kernel_rfl)
  have hq:=fun w=>run_eql_map_nil_sl (P:=Tryz.prog) w 127 _ _ (some b) ht
  refine Calls.mono (R:=fun e w'=>e=.returned (.map (some w.heap.size))/\w'=w.alloc (.map es clock)) ?_ ?_
  · go_enter Tryz.func95,Tryz.ntmps95
    go_wp2
    rw [run_callFunc_extern Tryz.func113 (by kernel_rfl) (by kernel_rfl) (by kernel_rfl) (e:=Extern.MapsClone.clone) (by kernel_rfl),run_maps_clone_sl w 127 hb]
    simp only [Result.andThen]
    rw [Oper.upon_value]
    go_wp2
    rw [run_typeAssert_map_sl _ 127 _ _ _ _ ht]
    simp only [Result.andThen]
    rw [Oper.upon_value]
    go_wp2
    go_ret
    exact ⟨rfl,rfl⟩
  · rintro _ _ ⟨rfl,rfl⟩
    exact ⟨_,rfl,rfl,rfl⟩
end Go.Proofs.YthfagbfllheneaaGreat
set_option linter.unusedVariables false
set_option linter.unusedSimpArgs false
namespace Go.Proofs.YthfagbfllheneaaGreat
open Go Go.Sx T4
structure SvAt (Ω:Nat->Prop) (w:World) (sb g:Nat) (A:Ar) (At:Option Addr) (ac:Nat) (Fa:Option Addr) (fc mb:Nat):Prop where
  blk:Blk w sb [.pointer (some ⟨g,0,none⟩),.slice At A.at_.length ac,.slice Fa A.free.length fc,.map (some mb),iv A.last]
  off:¬ Ω sb
  moff:¬ Ω mb
  at_:Imm KNo Ω w At A.at_
  free:Imm KN Ω w Fa A.free
  trees:MapK fI w mb (mapE A.trees)
  stm:Stm w mb
theorem KNo_pos:0<KNo.size:=by decide
theorem SvAt.keep {Ω Ω':Nat->Prop} {w w':World} {sb g:Nat} {A:Ar} {At:Option Addr} {ac:Nat} {Fa:Option Addr} {fc mb:Nat} (h:SvAt Ω w sb g A At ac Fa fc mb) (st:Step Ω w Ω' w'):SvAt Ω' w' sb g A At ac Fa fc mb:=by
  refine ⟨?_,st.out h.blk.lt h.off,st.out h.trees.lt h.moff,h.at_.keep KNo_pos st,h.free.keep KN_pos st,?_,?_⟩
  · obtain ⟨e,he⟩:=h.blk
    exact ⟨e,(st.block sb h.blk.lt h.off).trans he⟩
  · obtain ⟨es,cl,hb,he⟩:=h.trees
    exact ⟨es,cl,(st.block mb h.trees.lt h.moff).trans hb,he⟩
  · obtain ⟨es,cl,hb,he⟩:=h.stm
    exact ⟨es,cl,(st.block mb h.trees.lt h.moff).trans hb,he⟩
def Sv1 (Ω:Nat->Prop) (w:World) (sb g:Nat) (A:Ar):Prop:=∃ At ac Fa fc mb,SvAt Ω w sb g A At ac Fa fc mb
theorem Sv1.keep {Ω Ω':Nat->Prop} {w w':World} {sb g:Nat} {A:Ar} (h:Sv1 Ω w sb g A) (st:Step Ω w Ω' w'):Sv1 Ω' w' sb g A:=by
  obtain ⟨At,ac,Fa,fc,mb,h⟩:=h;exact ⟨_,_,_,_,_,h.keep st⟩
theorem immNew {α:Type} {K:Kd α} (hK:One K) {Om0:Nat->Prop} {u u':World} {A:Option Addr} {c:Nat} {l:List α} (ho:OwnK (Kd.out NoB (Kd.out Om0 K)) u A c l) {Ω':Nat->Prop} (e:Ext u u') (hsub:∀ k,k<u.heap.size->Ω' k->Om0 k) (hoff:∀ k,ownB A k->¬ Ω' k):Imm K Ω' u' A l:=by
  obtain ⟨xs,ho,hr⟩:=ho
  refine Own.imm (K:=K) hK.pos (Own.keep ho e fun _ _ h=>h) hoff fun i a ha=>K.keep (hr i a ha) ⟨e.size,fun k hk hn=>e.block k hk fun h=>h,fun k hk h=>.inr (hsub k hk h)⟩
theorem Save_spec {R M:Nat->Prop} {w:World} {g:Nat} {A:Ar} (h:Ar1 R M w g A) (hf:0<A.fan) (hl:A.at_.length<=131072) (hfl:A.free.length<=131072) :
    CallsV Tryz.prog 67 #[.pointer (some ⟨g,0,none⟩)] w fun r w'=>∃ sb R',r=.pointer (some ⟨sb,0,none⟩)/\Ar1 R' M w' g A/\Chg R M w R' M w'/\Ext w w'/\Sv1 (Om R' M) w' sb g A:=by
  refine tree_Arena_Save.calls okay ?_
  unfold tree_Arena_Save.W
  refine (made_spec h hf).same ⟨_,rfl,brnb (fun h=>by cases h) fun _=>?_⟩
  have hA1:=h
  obtain ⟨At,ac,Fa,fc,mb,h⟩:=h
  have ed:Ext w w.drew:=Fr.drew NoB w
  have hM:=hA1.mlt
  refine ⟨_,rfl,fun u=>Ext w u,ed,_,_,_,fun u e=>(h.blk.ext e).cell rfl,_,rfl,_,_,_,fun u e=>(h.blk.ext e).cell rfl,_,rfl,_,fun u e=>(h.blk.ext e).cell rfl,_,rfl,_,fun u e=>(h.blk.ext e).cell rfl,?_⟩
  have i1:Imm (Kd.out (Om R M) KNo) NoB w At A.at_:=h.at_.imm (oneP.out _).pos
  have i2:Imm (Kd.out (Om R M) KN) NoB w Fa A.free:=by
    intro i a ha
    obtain ⟨ad,h1,h2,cs,h3,h4⟩:=(h.free.imm KN_pos) i a ha
    exact ⟨ad,h1,h2,cs,h3,h4⟩
  refine (CloneP_spec (oneP.out (Om R M)) (i1.ext (oneP.out _).pos ed) (by omega)).mono ?_
  rintro _ w2 ⟨A1,c1,rfl,o1,e2,n1,_⟩
  have f2:Ext w w2:=ed.trans' e2
  refine ⟨_,_,_,rfl,f2,(CloneI_spec (oneN.out (Om R M)) (i2.ext (oneN.out _).pos f2) (by omega)).mono ?_⟩
  rintro _ w3 ⟨A2,c2,rfl,o2,e3,n2,_⟩
  have f3:Ext w w3:=f2.trans' e3
  obtain ⟨es,clock,hmb,hes⟩:=h.trees.ext f3
  refine ⟨_,_,_,rfl,f3,(maps_Clone_spec hmb).mono ?_⟩
  rintro _ w4 ⟨rfl,hw4⟩
  have e4:Ext w3 w4:=by rw [hw4];exact Fr.alloc NoB w3 _
  have f4:Ext w w4:=f3.trans' e4
  refine ⟨_,rfl,f4,?_⟩
  rintro g5 w5 f
  have e5:=f.ext
  have f5:Ext w w5:=f4.trans' e5
  obtain ⟨a5,c5⟩:=hA1.absorb f5
  refine ⟨f5,g5,Ra R w w5,rfl,a5,c5,f5,A1,c1,A2,c2,w3.heap.size,?_⟩
  have sz2:=e2.size;have sz3:=e3.size;have sz4:=e4.size;have sz5:=e5.size;have szd:=ed.size
  have sub:∀ k,Om (Ra R w w5) M k->Om R M k:=fun k hk=>hk.imp (fun hn hr=>hn (.inl hr)) id
  have m4:w4.heap[w3.heap.size]?=some (.map es clock):=by rw [hw4];exact Go.heap_alloc_new w3 _
  have s4:w3.heap.size<w4.heap.size:=(Array.getElem?_eq_some_iff.1 m4).1
  have m5:w5.heap[w3.heap.size]?=some (.map es clock):=(e5.block _ s4 fun h=>h).trans m4
  obtain ⟨es',cl',hs1,hs2⟩:=h.stm.keep f3 fun h=>h
  rw [hmb] at hs1
  cases hs1
  refine ⟨f.blk,ra_off hM (Nat.le_trans f4.size f.ge) f.lt,ra_off hM f3.size (by omega),?_,?_,⟨es,clock,m5,hes⟩,⟨es,clock,m5,hs2⟩⟩
  · exact immNew oneP o1 ((e3.trans' e4).trans' e5) (fun k _ hk=>sub k hk) fun k hk=>ra_off hM (Nat.le_trans szd (n1 k hk)) (by have:=o1.lt k hk;omega)
  · exact immNew oneN o2 (e4.trans' e5) (fun k _ hk=>sub k hk) fun k hk=>ra_off hM (by have:=n2 k hk;omega) (by have:=o2.lt k hk;omega)
set_option maxHeartbeats 400000 in
theorem Load_spec {R M:Nat->Prop} {w:World} {g:Nat} {A B:Ar} (h:Ar1 R M w g A) (hf:0<A.fan) {sb:Nat} (s:Sv1 (Om R M) w sb g B) (h1:B.fan=A.fan) (h2:B.most=A.most) (hl:B.at_.length<=131072) (hfl:B.free.length<=131072) :
    CallsV Tryz.prog 69 #[.pointer (some ⟨g,0,none⟩),.pointer (some ⟨sb,0,none⟩)] w fun r w'=>r=.int .i64 0/\∃ R' M',Ar1 R' M' w' g B/\Chg R M w R' M' w':=by
  refine tree_Arena_Load.calls okay ?_
  unfold tree_Arena_Load.W
  refine (made_spec h hf).same ⟨_,rfl,brnb (fun h=>by cases h) fun _=>?_⟩
  have hA1:=h
  obtain ⟨At,ac,Fa,fc,mb,h⟩:=h
  obtain ⟨Bt,bc,Fb,bfc,mb2,s⟩:=s
  have ed:Ext w w.drew:=Fr.drew NoB w
  have hM:=hA1.mlt
  have hRl:=hA1.lt
  refine ⟨_,rfl,_,s.blk.cell rfl,_,⟨rfl,rfl⟩,_,rfl,fun u=>Ext w u,ed,_,_,_,fun u e=>(s.blk.ext e).cell rfl,_,rfl,_,_,_,fun u e=>(s.blk.ext e).cell rfl,_,rfl,_,fun u e=>(s.blk.ext e).cell rfl,_,rfl,_,fun u e=>(s.blk.ext e).cell rfl,?_⟩
  have i1:Imm (Kd.out (Om R M) KNo) NoB w Bt B.at_:=by
    intro i a ha
    obtain ⟨ad,h1,h2,cs,h3,h4⟩:=s.at_ i a ha
    exact ⟨ad,h1,fun h=>h,cs,KNo.keep h3 ⟨Nat.le_refl _,fun _ _ _=>rfl,fun k _ hk=>hk.elim (fun h=>h.elim) id⟩,h4⟩
  have i2:Imm KN NoB w Fb B.free:=by
    intro i a ha
    obtain ⟨ad,h1,h2,cs,h3,h4⟩:=s.free i a ha
    exact ⟨ad,h1,fun h=>h,cs,h3,h4⟩
  refine (CloneP_spec (oneP.out (Om R M)) (i1.ext (oneP.out _).pos ed) (by omega)).mono ?_
  rintro _ w2 ⟨A1,c1,rfl,o1,e2,n1,_⟩
  have f2:Ext w w2:=ed.trans' e2
  refine ⟨_,_,_,rfl,f2,(CloneI_spec oneN (i2.ext KN_pos f2) (by omega)).mono ?_⟩
  rintro _ w3 ⟨A2,c2,rfl,o2,e3,n2,_⟩
  have f3:Ext w w3:=f2.trans' e3
  obtain ⟨es,clock,hmb,hes⟩:=s.trees.ext f3
  refine ⟨_,_,_,rfl,f3,(maps_Clone_spec hmb).mono ?_⟩
  rintro _ w4 ⟨rfl,hw4⟩
  have e4:Ext w3 w4:=by rw [hw4];exact Fr.alloc NoB w3 _
  have f4:Ext w w4:=f3.trans' e4
  have sz2:=e2.size;have sz3:=e3.size;have sz4:=e4.size;have szd:=ed.size
  have m4:w4.heap[w3.heap.size]?=some (.map es clock):=by rw [hw4];exact Go.heap_alloc_new w3 _
  have s4:w3.heap.size<w4.heap.size:=(Array.getElem?_eq_some_iff.1 m4).1
  obtain ⟨es',cl',hs1,hs2⟩:=s.stm.keep f3 fun h=>h
  rw [hmb] at hs1
  cases hs1
  have hgl:g<w.heap.size:=h.blk.lt
  have b4:=h.blk.ext f4
  obtain ⟨p1,p2⟩:=setF b4 (o:=2) (by simp [arC]) (.slice A1 B.at_.length c1)
  refine ⟨_,rfl,f4,_,rfl,p1,fun w5 hw5=>?_⟩
  obtain ⟨b5,f5⟩:=p2 w5 hw5
  obtain ⟨p1,p2⟩:=setF b5 (o:=3) (by simp [arC]) (.slice A2 B.free.length c2)
  refine ⟨_,rfl,p1,fun w6 hw6=>?_⟩
  obtain ⟨b6,f6⟩:=p2 w6 hw6
  obtain ⟨p1,p2⟩:=setF b6 (o:=4) (by simp [arC]) (.map (some w3.heap.size))
  refine ⟨_,rfl,p1,fun w7 hw7=>?_⟩
  obtain ⟨b7,f7⟩:=p2 w7 hw7
  obtain ⟨p1,p2⟩:=setF b7 (o:=5) (by simp [arC]) (iv B.last)
  refine ⟨_,rfl,p1,fun w8 hw8=>?_⟩
  obtain ⟨b8,f8⟩:=p2 w8 hw8
  have fg:Fr (fun k=>k=g) w4 w8:=((f5.trans f6 (fun _ _ h=>h) (fun _ _ h=>h)).trans f7 (fun _ _ h=>h) (fun _ _ h=>h)).trans f8 (fun _ _ h=>h) (fun _ _ h=>h)
  have sz8:=fg.size
  have l1:=o1.lt;have l2:=o2.lt
  have q1:∀ k,ownB A1 k->w.heap.size<=k/\k<w3.heap.size:=fun k hk=>⟨Nat.le_trans szd (n1 k hk),by have:=l1 k hk;omega⟩
  have q2:∀ k,ownB A2 k->w2.heap.size<=k/\k<w3.heap.size:=fun k hk=>⟨n2 k hk,l2 k hk⟩
  refine ⟨rfl,Ra R w w4,fun k=>k=g\/(w.heap.size<=k/\k<w4.heap.size),⟨A1,c1,A2,c2,w3.heap.size,?_⟩,?_⟩
  · have fm:∀ k,k<w4.heap.size->k≠g->w8.heap[k]?=w4.heap[k]?:=fun k hk hn=>fg.block k hk hn
    refine ⟨by simpa [arC,h1,h2] using b8,?_,?_,.inl rfl,?_,?_,.inr ⟨by omega,s4⟩,fun hk=>by have:=(q1 g hk).1;omega,fun hk=>by have:=(q2 g hk).1;omega,fun k hk hk'=>by have:=l1 k hk;have:=(q2 k hk').1;omega,?_,?_,?_,?_⟩
    · rintro k (hk|hk)
      · have:=hRl k hk;omega
      · omega
    · rintro k (hk|hk)
      · exact .inl (hk▸h.mr g h.mg)
      · exact .inr hk
    · exact fun k hk=>.inr ⟨(q1 k hk).1,by have:=(q1 k hk).2;omega⟩
    · exact fun k hk=>.inr ⟨by have:=(q2 k hk).1;omega,by have:=(q2 k hk).2;omega⟩
    · obtain ⟨xs,ho,hr⟩:=o1
      refine ⟨xs,ho.keep ((e3.trans' e4).fr.trans fg (S'':=fun k=>k=g) (fun _ _ h=>h) (fun _ _ h=>h)) (fun k hk e=>by have:=(q1 k hk).1;have e:k=g:=e;omega),fun i a ha=>?_⟩
      refine KNo.keep (hr i a ha) ⟨by omega,fun k hk hn=>?_,fun k hk hk'=>?_⟩
      · have hkg:k≠g:=fun e=>hn (.inr (.inr (e▸h.mg)))
        exact (fm k (by omega) hkg).trans ((e3.trans' e4).block k hk fun h=>h)
      · rcases hk' with hk'|hk'|hk'|hk'
        · exact .inl (.inl hk')
        · exact .inr (.inl fun hr=>hk' (.inl hr))
        · exact .inr (.inr (hk'▸h.mg))
        · exact .inr (.inl fun hr=>by have:=hRl k hr;omega)
    · obtain ⟨xs,ho,hr⟩:=o2
      exact ⟨xs,ho.keep (e4.fr.trans fg (S'':=fun k=>k=g) (fun _ _ h=>h) (fun _ _ h=>h)) (fun k hk e=>by have:=(q2 k hk).1;have e:k=g:=e;omega),fun i a ha=>hr i a ha⟩
    · exact ⟨es,clock,(fm _ s4 (by omega)).trans m4,hes⟩
    · exact ⟨es,clock,(fm _ s4 (by omega)).trans m4,hs2⟩
  · refine ⟨(f4.fr.trans fg (S'':=M) (fun _ _ h=>h) (fun k hk e=>by have e:k=g:=e;rw [e];exact h.mg)),?_,fun k hk=>.inl hk,?_⟩
    · rintro k (hk|hk)
      · exact .inl (hk▸h.mg)
      · exact .inr hk.1
    · exact fun k hk=>hk.imp id fun h=>h.1
end Go.Proofs.YthfagbfllheneaaGreat
set_option linter.unusedVariables false
set_option linter.unusedSimpArgs false
namespace Go.Proofs.YthfagbfllheneaaGreat
open Go Go.Sx T4
open Go.RowKit Go.Shelf
attribute [local go_sem] Oper.semAt_some
variable {w:World} {a:Option Addr}
end Go.Proofs.YthfagbfllheneaaGreat
set_option linter.unusedVariables false
set_option linter.unusedSimpArgs false
namespace Go.Proofs.YthfagbfllheneaaGreat
open Go Go.Sx T4
open Go.RowKit Go.Shelf
attribute [local go_sem] Oper.semAt_some
/-! ## how deep -/
def hgt:Nat->Ar->Nat->Nat
  | 0,_,_=>0
  | k+1,A,i=>if (nodeAt A i).kids=[] then 1 else hgt k A (kid (nodeAt A i) 0)+1
theorem hgt_tree:∀ (k:Nat) {A:Ar} {fan H:Nat} {mn:Nat×Nat} {i:Nat} {lo hi:Option Key} {es:Es} {ps:List Nat},Tree A.nd fan H mn i lo hi es ps->H<=k->hgt k A i=H
  | 0,_,_,H,_,_,_,_,_,_,h,hk=>by have:=h.height.1;omega
  | k+1,A,fan,H,mn,i,lo,hi,es,ps,h,hk=>by
    rcases tree_nodeAt h with ⟨rfl,hk0,_⟩|⟨k',rfl,h0,hne,_,hall,_⟩
    · rw [hgt,if_pos hk0]
    · obtain ⟨lo',hi',es',ps',ht'⟩:=hall 0 (List.length_pos_iff.2 hne)
      rw [hgt,if_neg hne,hgt_tree k ht' (by omega)]
def dp (A:Ar) (r:Int):Nat:=match getT A.trees r with
  | some i=>hgt (A.at_.length+1) A i
  | none=>0
theorem dp_at {A:Ar} {r:Int} {H i:Nat} {es:Es} {ps Q:List Nat} (hr:getT A.trees r=some i) (T:TreeAt A H i es ps Q):dp A r=H:=by
  unfold dp
  rw [hr]
  exact hgt_tree _ T.tree (by have:=T.hl;omega)
/-! ## one tree -/
structure OneT (A:Ar) (r:Int) (es:Es):Prop where
  ex:∃ i ps Q,getT A.trees r=some i/\TreeAt A (dp A r) i es ps Q
  m:A.most<=65536
  n:A.nodes<=A.most
theorem OneT.upE {A:Ar} {r:Int} {es:Es} (S:OneT A r es):UpE es:=by obtain ⟨i,ps,Q,_,T⟩:=S.ex;exact T.tree.up
theorem oGet {R M:Nat->Prop} {w:World} {g:Nat} {A:Ar} (h:Ar1 R M w g A) {r:Int} {es:Es} (S:OneT A r es) {key:Key} {Ω:Nat->Prop} {KA:Option Addr} (hKA:Imm KB Ω w KA key) (kc:Nat) :
    CallsV Tryz.prog 104 #[.pointer (some ⟨g,0,none⟩),.int .i64 r,.slice KA key.length kc] w fun r w'=>Ext w w'/\(match getE key es with|none=>r=.tuple #[.slice none 0 0,.bool false]|some v=>∃ B d,r=.tuple #[.slice B v.length d,.bool true]/\OwnB w' B d v/\New w B/\v.length<=1048576):=by
  obtain ⟨i,ps,Q,h1,h2⟩:=S.ex
  exact Get_spec h h1 h2 hKA kc
theorem oAfter {R M:Nat->Prop} {w:World} {g:Nat} {A:Ar} (h:Ar1 R M w g A) {r:Int} {es:Es} (S:OneT A r es) {key:Key} {Ω:Nat->Prop} {KA:Option Addr} (hKA:Imm KB Ω w KA key) (kc:Nat) (at_:Bool) :
    CallsV Tryz.prog 72 #[.pointer (some ⟨g,0,none⟩),.int .i64 r,.slice KA key.length kc,.bool at_] w fun r w'=>Told w (aftE key at_ es) r w'/\Ext w w':=by
  obtain ⟨i,ps,Q,h1,h2⟩:=S.ex
  exact After_spec h h1 h2 hKA kc at_
theorem oBefore {R M:Nat->Prop} {w:World} {g:Nat} {A:Ar} (h:Ar1 R M w g A) {r:Int} {es:Es} (S:OneT A r es) {key:Key} {Ω:Nat->Prop} {KA:Option Addr} (hKA:Imm KB Ω w KA key) (kc:Nat) (at_:Bool) :
    CallsV Tryz.prog 73 #[.pointer (some ⟨g,0,none⟩),.int .i64 r,.slice KA key.length kc,.bool at_] w fun r w'=>Told w (befE key at_ es) r w'/\Ext w w':=by
  obtain ⟨i,ps,Q,h1,h2⟩:=S.ex
  exact Before_spec h h1 h2 hKA kc at_
theorem oLast {R M:Nat->Prop} {w:World} {g:Nat} {A:Ar} (h:Ar1 R M w g A) {r:Int} {es:Es} (S:OneT A r es) :
    CallsV Tryz.prog 75 #[.pointer (some ⟨g,0,none⟩),.int .i64 r] w fun r w'=>Told w es.getLast? r w'/\Ext w w':=by
  obtain ⟨i,ps,Q,h1,h2⟩:=S.ex
  exact Last_spec h h1 h2
/-! ## no such tree -/
section
variable {R M:Nat->Prop} {w:World} {g:Nat} {A:Ar}
theorem Get_none (h:Ar1 R M w g A) (hf:0<A.fan) {root:Int} (hr:getT A.trees root=none) (KA:Option Addr) (kn kc:Nat):CallsV Tryz.prog 104 #[.pointer (some ⟨g,0,none⟩),.int .i64 root,.slice KA kn kc] w fun r w'=>r=.tuple #[.slice none 0 0,.bool false]/\w'=w:=by
  refine tree_Arena_Get.calls okay ?_
  unfold tree_Arena_Get.W
  refine (top_spec h hf root).mono ?_
  rintro _ _ ⟨rfl,rfl⟩
  rw [hr]
  exact ⟨_,_,rfl,brn (fun _=>⟨rfl,rfl⟩) fun h=>by cases h⟩
theorem After_none (h:Ar1 R M w g A) (hf:0<A.fan) {root:Int} (hr:getT A.trees root=none) (KA:Option Addr) (kn kc:Nat) (at_:Bool):CallsV Tryz.prog 72 #[.pointer (some ⟨g,0,none⟩),.int .i64 root,.slice KA kn kc,.bool at_] w fun r w'=>r=eN/\w'=w:=by
  refine tree_Arena_After.calls okay ?_
  unfold tree_Arena_After.W
  refine (top_spec h hf root).mono ?_
  rintro _ _ ⟨rfl,rfl⟩
  rw [hr]
  exact ⟨_,_,rfl,brn (fun _=>⟨rfl,rfl⟩) fun h=>by cases h⟩
theorem Before_none (h:Ar1 R M w g A) (hf:0<A.fan) {root:Int} (hr:getT A.trees root=none) (KA:Option Addr) (kn kc:Nat) (at_:Bool):CallsV Tryz.prog 73 #[.pointer (some ⟨g,0,none⟩),.int .i64 root,.slice KA kn kc,.bool at_] w fun r w'=>r=eN/\w'=w:=by
  refine tree_Arena_Before.calls okay ?_
  unfold tree_Arena_Before.W
  refine (top_spec h hf root).mono ?_
  rintro _ _ ⟨rfl,rfl⟩
  rw [hr]
  exact ⟨_,_,rfl,brn (fun _=>⟨rfl,rfl⟩) fun h=>by cases h⟩
theorem Last_none (h:Ar1 R M w g A) (hf:0<A.fan) {root:Int} (hr:getT A.trees root=none):CallsV Tryz.prog 75 #[.pointer (some ⟨g,0,none⟩),.int .i64 root] w fun r w'=>r=eN/\w'=w:=by
  refine tree_Arena_Last.calls okay ?_
  unfold tree_Arena_Last.W
  refine (top_spec h hf root).mono ?_
  rintro _ _ ⟨rfl,rfl⟩
  rw [hr]
  exact ⟨_,_,rfl,brn (fun _=>⟨rfl,rfl⟩) fun h=>by cases h⟩
end
/-! ## the calls that change, of the tree d among others -/
def PutC (A A':Ar) (r:Int) (key val:Key) (full was:Bool):Prop:=∀ {R M:Nat->Prop} {w:World} {g:Nat},Ar1 R M w g A->∀ {Ω1 Ω2:Nat->Prop} {KA VA:Option Addr},Imm KB Ω1 w KA key->Imm KB Ω2 w VA val->∀ kc vc:Nat,
  CallsV Tryz.prog 61 #[.pointer (some ⟨g,0,none⟩),.int .i64 r,.slice KA key.length kc,.slice VA val.length vc] w fun v w'=>v=.tuple #[.bool (!full && was),.int .i64 (if full then 5 else 0)]/\∃ R' M',Ar1 R' M' w' g A'/\Chg R M w R' M' w'
def DelC (A A':Ar) (r:Int) (key:Key) (was:Bool):Prop:=∀ {R M:Nat->Prop} {w:World} {g:Nat},Ar1 R M w g A->∀ {Ω:Nat->Prop} {KA:Option Addr},Imm KB Ω w KA key->∀ kc:Nat,
  CallsV Tryz.prog 65 #[.pointer (some ⟨g,0,none⟩),.int .i64 r,.slice KA key.length kc] w fun v w'=>v=.tuple #[.bool was,.int .i64 0]/\∃ R' M',Ar1 R' M' w' g A'/\Chg R M w R' M' w'
def DropC (A A':Ar) (r:Int):Prop:=∀ {R M:Nat->Prop} {w:World} {g:Nat},Ar1 R M w g A ->
  CallsV Tryz.prog 53 #[.pointer (some ⟨g,0,none⟩),.int .i64 r] w fun v w'=>v=.int .i64 0/\∃ R' M',Ar1 R' M' w' g A'/\Chg R M w R' M' w'
def CreC (A A':Ar):Prop:=∀ {R M:Nat->Prop} {w:World} {g:Nat},Ar1 R M w g A ->
  CallsV Tryz.prog 60 #[.pointer (some ⟨g,0,none⟩)] w fun v w'=>v=.tuple #[iv (A.last+1),.int .i64 0]/\∃ R' M',Ar1 R' M' w' g A'/\Chg R M w R' M' w'
structure Same (A A':Ar):Prop where
  fan:A'.fan=A.fan
  most:A'.most=A.most
  last:A'.last=A.last
theorem Same.refl (A:Ar):Same A A:=⟨rfl,rfl,rfl⟩
theorem Inv.mem {A:Ar} {D1 D2:List Tr} {d:Tr} (h:Inv A (D1++d::D2)):getT A.trees d.r=some d.i:=h.get (by simp)
theorem Inv.one {A:Ar} {D1 D2:List Tr} {d:Tr} (h:Inv A (D1++d::D2)):OneT A d.r d.es/\dp A d.r=d.h:=by
  have e:=dp_at h.mem h.at_
  exact ⟨⟨⟨d.i,d.ps,_,h.mem,by rw [e];exact h.at_⟩,h.m,h.nodes⟩,e⟩
theorem dPut0 {A:Ar} {D1 D2:List Tr} {d:Tr} (h:Inv A (D1++d::D2)) {key val:Key} (hk:key.length<=1048576) (hv:val.length<=1048576) :
    ∃ A' d' full,full=putFull d.h A d.i key d.es/\d'.r=d.r/\Inv A' (D1++d'::D2)/\Same A A'/\(full=true->A'=A/\d'=d/\inE key d.es=false/\A.most<A.nodes+d.h+1)/\(full=false->d'.es=insE key val d.es)/\PutC A A' d.r key val full (inE key d.es):=by
  have T:=h.at_
  have put:PutC A (if putFull d.h A d.i key d.es then A else putTop d.h A d.i key val) d.r key val (putFull d.h A d.i key d.es) (inE key d.es):=by
    intro R M w g hA Ω1 Ω2 KA VA hKA hVA kc vc
    refine (Put_spec hA h.mem T h.m hKA hVA kc vc hk hv).mono ?_
    rintro _ w' ⟨R',M',h1,h2,rfl⟩
    exact ⟨rfl,R',M',h1,h2⟩
  cases hfull:putFull d.h A d.i key d.es with
  | true =>
    rw [hfull] at put
    refine ⟨A,d,true,rfl,rfl,h,.refl A,fun _=>⟨rfl,rfl,?_⟩,fun h=>(by cases h),put⟩
    unfold putFull at hfull
    simp only [Bool.and_eq_true,Bool.not_eq_true',decide_eq_true_eq] at hfull
    have hw:wantsF A.fan (sizes d.h A d.i key)<=d.h+1:=by
      have hl:=sizes_len d.h T.tree (Bnd.all key)
      unfold wantsF
      split
      · omega
      · rename_i hne
        have:=trail_le A.fan (sizes d.h A d.i key)
        omega
    exact ⟨hfull.1,by omega⟩
  | false =>
    rw [hfull] at put
    obtain ⟨h',ps',hI,_⟩:=h.put key val hfull
    have m:=(putTop_ok T.tree T.acc T.f1 key val).choose_spec.choose_spec.1
    exact ⟨_,_,false,rfl,by rfl,hI,⟨m.fan,m.most,m.last⟩,fun h=>(by cases h),fun _=>by rfl,put⟩
theorem dPut {A:Ar} {D1 D2:List Tr} {d:Tr} (h:Inv A (D1++d::D2)) {key val:Key} (hk:key.length<=1048576) (hv:val.length<=1048576) :
    ∃ A' d' full,d'.r=d.r/\Inv A' (D1++d'::D2)/\Same A A'/\(full=true->A'=A/\d'=d/\inE key d.es=false/\A.most<A.nodes+d.h+1)/\(full=false->d'.es=insE key val d.es)/\PutC A A' d.r key val full (inE key d.es):=by
  obtain ⟨A',d',full,_,h⟩:=dPut0 h hk hv
  exact ⟨A',d',full,h⟩
theorem dDel {A:Ar} {D1 D2:List Tr} {d:Tr} (h:Inv A (D1++d::D2)) (key:Key) :
    ∃ A' d',d'.r=d.r/\Inv A' (D1++d'::D2)/\Same A A'/\d'.es=delE key d.es/\DelC A A' d.r key (inE key d.es):=by
  have T:=h.at_
  have del:DelC A (if inE key d.es then delTop d.h A d.i key else A) d.r key (inE key d.es):=by
    intro R M w g hA Ω KA hKA kc
    exact Delete_spec hA h.mem T hKA kc
  cases hin:inE key d.es with
  | false =>
    rw [hin] at del
    exact ⟨A,d,rfl,h,.refl A,(del_no (by rw [<- inE_has];exact hin)).symm,del⟩
  | true =>
    rw [hin] at del
    obtain ⟨h',ps',hI⟩:=h.del hin
    have m:=(delTop_ok T.tree T.acc T.f1 hin).choose_spec.choose_spec.1
    exact ⟨_,_,by rfl,hI,⟨m.fan,m.most,m.last⟩,by rfl,del⟩
theorem dDrop {A:Ar} {D1 D2:List Tr} {d:Tr} (h:Inv A (D1++d::D2)):∃ A',Inv A' (D1++D2)/\Same A A'/\A'.nodes+d.ps.length=A.nodes/\DropC A A' d.r:=by
  have T:=h.at_
  have hc:∀ x,(allF d.h A d.i).count x=d.ps.count x:=all_count d.h T.tree
  have m:=mv_dropAll (allF d.h A d.i) A
  exact ⟨dropT A d.r (allF d.h A d.i),h.drop hc,⟨m.fan,m.most,m.last⟩,dropT_nodes h hc,fun hA=>Drop_spec hA h.mem T⟩
theorem dCreate {A:Ar} {D:List Tr} (h:Inv A D) (hn:A.nodes<A.most) (hc:D.length<1000) (hl:A.last<1000000):∃ A' i,Inv A' (D++[⟨((A.last+1:Nat):Int),i,1,[],[i]⟩])/\A'.fan=A.fan/\A'.most=A.most/\A'.last=A.last+1/\CreC A A':=by
  obtain ⟨i,hI⟩:=h.made hn hc
  have m:=(mv_place { A with last:=A.last+1 } N0).1
  have hfree:=Acc.free h.acc
  refine ⟨mkT A,i,hI,m.fan,m.most,m.last,?_⟩
  intro R M w g hA
  refine (Create_spec hA (by have:=h.f1;omega) hfree.2 hfree.1 (by have:=h.len;have:=h.m;omega) hl (h.miss fun d hd=>?_) (by rw [h.trees];simp;omega)).mono ?_
  · have:=(h.last d hd).2;omega
  · intro r w' hr
    rw [if_neg (by rw [h.trees];simp;omega)] at hr
    exact hr
theorem dFull {A:Ar} {D:List Tr} (h:Inv A D) (hn:A.most<=A.nodes\/1000<=D.length) (hl:A.last<1000000) {R M:Nat->Prop} {w:World} {g:Nat} (hA:Ar1 R M w g A) :
    CallsV Tryz.prog 60 #[.pointer (some ⟨g,0,none⟩)] w fun v w'=>v=.tuple #[.int .i64 0,.int .i64 5]/\Ext w w':=by
  have hfree:=Acc.free h.acc
  refine (Create_spec hA (by have:=h.f1;omega) hfree.2 hfree.1 (by have:=h.len;have:=h.m;omega) hl (h.miss fun d hd=>?_) (by rw [h.trees];simp;have:=h.cnt;omega)).mono ?_
  · have:=(h.last d hd).2;omega
  · intro r w' hr
    rw [if_pos (by rw [h.trees];simp;omega)] at hr
    exact hr
theorem dCheck {A:Ar} {D:List Tr} (h:Inv A D) {R M:Nat->Prop} {w:World} {g:Nat} (hA:Ar1 R M w g A):CallsV Tryz.prog 76 #[.pointer (some ⟨g,0,none⟩)] w fun r w'=>r=.int .i64 0/\Ext w w':=Check_spec hA h.whole
theorem dSave {A:Ar} {D:List Tr} (h:Inv A D) {R M:Nat->Prop} {w:World} {g:Nat} (hA:Ar1 R M w g A):CallsV Tryz.prog 67 #[.pointer (some ⟨g,0,none⟩)] w fun r w'=>∃ sb R',r=.pointer (some ⟨sb,0,none⟩)/\Ar1 R' M w' g A/\Chg R M w R' M w'/\Ext w w'/\Sv1 (Om R' M) w' sb g A:=by
  have h1:=h.len;have h2:=h.m;have h3:=(Acc.free h.acc).2;have h4:=h.f1
  exact Save_spec hA (by omega) (by omega) (by omega)
theorem dLoad {A B:Ar} {D D':List Tr} (h:Inv A D) (hB:Inv B D') (h1:B.fan=A.fan) (h2:B.most=A.most) {R M:Nat->Prop} {w:World} {g sb:Nat} (hA:Ar1 R M w g A) (s:Sv1 (Om R M) w sb g B) :
    CallsV Tryz.prog 69 #[.pointer (some ⟨g,0,none⟩),.pointer (some ⟨sb,0,none⟩)] w fun r w'=>r=.int .i64 0/\∃ R' M',Ar1 R' M' w' g B/\Chg R M w R' M' w':=by
  have h1':=hB.len;have h2':=hB.m;have h3:=(Acc.free hB.acc).2;have h4:=h.f1
  exact Load_spec hA (by omega) s h1 h2 (by omega) (by omega)
theorem Inv.nodesE {A:Ar} {D:List Tr} (h:Inv A D):A.nodes=(D.map fun d=>d.ps.length).sum:=by
  have:=h.acc.nodes
  rw [List.length_nil,Nat.zero_add,List.length_flatMap] at this
  exact this
theorem nd_mid {D1 D2:List Tr} {d:Tr} (h:((D1++d::D2).map fun d=>d.r).Nodup):∀ x∈D1++D2,x.r≠d.r:=by
  intro x hx he
  rw [List.map_append,List.map_cons,List.nodup_append] at h
  obtain ⟨n1,n2,n3⟩:=h
  rw [List.nodup_cons] at n2
  rcases List.mem_append.1 hx with h|h
  · exact n3 x.r (List.mem_map.2 ⟨x,h,rfl⟩) d.r (by simp) he
  · exact n2.1 (List.mem_map.2 ⟨x,h,he⟩)
end Go.Proofs.YthfagbfllheneaaGreat
set_option linter.unusedVariables false
set_option maxRecDepth 100000
namespace Go.Proofs.YthfagbfllheneaaGreat
open Go Go.Sx Value IntKind World Addr Builtin
noncomputable def cardindexref04_Compare.W:Option Addr->Nat->Nat->Option Addr->Nat->Nat->World->(Value->World->Prop)->Prop:=fun a_A a_n a_c b_A b_n b_c w K=>∃ (J:World->Prop),(∀ w,
 J w->bif decide ((a_n:Int)<(b_n:Int)) then K (int i64 (-1:Int)) w else bif decide ((b_n:Int)<(a_n:Int)) then K (int i64 1) w else K (int i64 0) w)/\∃ (I:Int ->
 World->Prop) (μ:Int->World->Nat),I 0 w/\∀ x w,I x w->bif decide (x<(a_n:Int)) then bif decide (x<(b_n:Int)) then ∃ ad,a_A=some ad/\(0<=x/\x<(a_n :
 Int))/\∃ (S:World->Prop),S (drew w)/\∃ x_1,(∀ u,S u->cell? u (add ad (Int.toNat x*1))=some (int u8 x_1))/\∃ ad,b_A=some ad/\(0<=x/\x<(b_n:Int))/\∃ x_2,(∀ u,S u
 -> cell? u (add ad (Int.toNat x*1))=some (int u8 x_2))/\bif decide (x_1<x_2) then K (int i64 (-1:Int)) (drew w) else ∃ ad,a_A=some ad/\(0<=x/\x<(a_n:Int))/\∃
 (S:World->Prop),S (drew (drew w))/\∃ x_3,(∀ u,S u->cell? u (add ad (Int.toNat x*1))=some (int u8 x_3))/\∃ ad,b_A=some ad/\(0<=x/\x<(b_n:Int))/\∃ x_4,(∀ u,S u ->
 cell? u (add ad (Int.toNat x*1))=some (int u8 x_4))/\bif decide (x_4<x_3) then K (int i64 1) (drew (drew w)) else I (wrap i64 (x+1)) (drew (drew w))/\μ (wrap i64 (x+1))
 (drew (drew w))<μ x w else J w else J w
theorem cardindexref04_Compare.calls (ok:Okay Tryz.prog) {a_A a_n a_c b_A b_n b_c w K} (h:cardindexref04_Compare.W a_A a_n a_c b_A b_n b_c w K):CallsV Tryz.prog 63 #[.slice a_A a_n a_c,.slice b_A b_n b_c] w K :=
  fnW_calls ok Tryz.func63 (an:=(.named (.seq .auto (.join [] (.seq .auto (.block (.loop [(5,.one (.int .i64))] .auto))) .auto)))) (args:=[.slice a_A a_n a_c,.slice b_A b_n b_c]) (Eq.mp (by kernel_rfl) h)
noncomputable def cardindexref04_Trees_Find.W:Option Addr->Nat->Nat->Int->Int->World->(Value->World->Prop)->Prop:=fun t0_A t0_n t0_c t1 root w K=>∀ g w',Fresh w g w' [slice t0_A t0_n
 t0_c,int i64 t1] 52->∃ (I:Int->World->Prop) (μ:Int->World->Nat),I 0 w'/\∀ x w,I x w->∃ x_1 x_2 x_3,cell? w (add (mk g 0 none) 0)=some (slice x_1 x_2 x_3)/\bif
 decide (x<(x_2:Int)) then ∃ x_4 x_5 x_6,cell? w (add (mk g 0 none) 0)=some (slice x_4 x_5 x_6)/\∃ ad,x_4=some ad/\(0<=x/\x<(x_5:Int))/\∃ x_7,cell? w
 (add (add ad (Int.toNat x*2)) 0)=some (int i64 x_7)/\bif decide (x_7=root) then K (int i64 x) w else I (wrap i64 (x+1)) w/\μ (wrap i64 (x+1)) w<μ x w else K (int i64 (-1
 : Int)) w
theorem cardindexref04_Trees_Find.calls (ok:Okay Tryz.prog) {t0_A t0_n t0_c t1 root w K} (h:cardindexref04_Trees_Find.W t0_A t0_n t0_c t1 root w K):CallsV Tryz.prog 25 #[.agg #[.slice t0_A t0_n t0_c,.int .i64 t1],.int .i64 root] w K :=
  fnW_calls ok Tryz.func25 (an:=(.named (.seq .auto (.seq (.seq .auto (.block (.loop [(5,.one (.int .i64))] .auto))) .auto)))) (args:=[.agg #[.slice t0_A t0_n t0_c,.int .i64 t1],.int .i64 root]) (Eq.mp (by kernel_rfl) h)
noncomputable def cardindexref04_Trees_with.W:Option Addr->Nat->Nat->Int->Int->Option Addr->Nat->Nat->World->(Value->World->Prop)->Prop:=fun t0_A t0_n t0_c t1 atx l_A l_n l_c w K=>∀ g
 w',Fresh w g w' [slice t0_A t0_n t0_c,int i64 t1] 52->∀ g_1 w'_1,Fresh w' g_1 w'_1 [slice none 0 0,int i64 0] 52->∃ (I:Option Addr->Nat->Nat->Int->World->Prop) (μ:Option Addr ->
 Nat->Nat->Int->World->Nat),I none 0 0 0 w'_1/\∀ x x_1 x_2 x_3 w,I x x_1 x_2 x_3 w->∃ x_4 x_5 x_6,cell? w (add (mk g 0 none) 0)=some (slice x_4 x_5 x_6)/\bif
 decide (x_3<(x_5:Int)) then ∃ x_7 x_8 x_9,cell? w (add (mk g 0 none) 0)=some (slice x_7 x_8 x_9)/\∃ ad,x_7=some ad/\(0<=x_3/\x_3<(x_8:Int))/\∃ x_10,
 cell? w (add (add ad (Int.toNat x_3*2)) 0)=some (int i64 x_10)/\∃ x_11 x_12 x_13,cell? w (add (add ad (Int.toNat x_3*2)) 1)=some (slice x_11 x_12 x_13)/\∀ g w',Fresh w g w'
 [int i64 0,slice none 0 0] 107->stOK (mk g 0 none) 0 [int i64 x_10,slice x_11 x_12 x_13] w'/\∀ w'_2,w'_2=setAll (mk g 0 none) 0 [int i64 x_10,slice x_11 x_12 x_13] w'->bif
 decide (x_3=atx) then stOK (add (mk g 0 none) 1) 0 [slice l_A l_n l_c] w'_2/\∀ w',w'=setAll (add (mk g 0 none) 1) 0 [slice l_A l_n l_c] w'_2->∃ x_14,cell? w' (add (mk g
 0 none) 0)=some (int i64 x_14)/\∃ x_15 x_16 x_17,cell? w' (add (mk g 0 none) 1)=some (slice x_15 x_16 x_17)/\∀ g w'_3,Fresh w' g w'_3 [int i64 x_14,slice x_15 x_16
 x_17] 107->∃ x_18 x_19 x_20 w',RunsTo Tryz.prog (append_ (Array.mk [50,50]) 50 #[slice x x_1 x_2,slice (some (mk g 0 none)) 1 1]) w'_3 (slice x_18 x_19 x_20) w'/\I x_18 x_19 x_20
 (wrap i64 (x_3+1)) w'/\μ x_18 x_19 x_20 (wrap i64 (x_3+1)) w'<μ x x_1 x_2 x_3 w else ∃ x_14,cell? w'_2 (add (mk g 0 none) 0)=some (int i64 x_14)/\∃ x_15 x_16 x_17,cell? w'_2
 (add (mk g 0 none) 1)=some (slice x_15 x_16 x_17)/\∀ g w',Fresh w'_2 g w' [int i64 x_14,slice x_15 x_16 x_17] 107->∃ x_18 x_19 x_20 w'_3,RunsTo Tryz.prog (append_ (Array.mk [50,
 50]) 50 #[slice x x_1 x_2,slice (some (mk g 0 none)) 1 1]) w' (slice x_18 x_19 x_20) w'_3/\I x_18 x_19 x_20 (wrap i64 (x_3+1)) w'_3/\μ x_18 x_19 x_20 (wrap i64 (x_3+1)) w'_3<μ x
 x_1 x_2 x_3 w else stOK (add (mk g 0 none) 0) 0 [slice x x_1 x_2] w/\∀ w',w'=setAll (add (mk g 0 none) 0) 0 [slice x x_1 x_2] w->∃ x x_7 x_8,cell? w' (add (mk g 0 none) 0) =
 some (slice x x_7 x_8)/\∃ x_9,cell? w' (add (mk g 0 none) 1)=some (int i64 x_9)/\stOK (mk g_1 0 none) 0 [slice x x_7 x_8,int i64 x_9] w'/\∀ w'_2,w'_2=setAll (mk
 g_1 0 none) 0 [slice x x_7 x_8,int i64 x_9] w'->∃ x x_10 x_11,cell? w'_2 (add (mk g_1 0 none) 0)=some (slice x x_10 x_11)/\∃ x_12,cell? w'_2 (add (mk g_1 0 none) 1) =
 some (int i64 x_12)/\K (agg #[slice x x_10 x_11,int i64 x_12]) w'_2
theorem cardindexref04_Trees_with.calls (ok:Okay Tryz.prog) {t0_A t0_n t0_c t1 atx l_A l_n l_c w K} (h:cardindexref04_Trees_with.W t0_A t0_n t0_c t1 atx l_A l_n l_c w K):CallsV Tryz.prog 62 #[.agg #[.slice t0_A t0_n t0_c,.int .i64 t1],.int .i64 atx,.slice l_A l_n l_c] w K :=
  fnW_calls ok Tryz.func62 (an:=(.named (.seq .auto (.seq .auto (.seq (.seq .auto (.block (.loop [(7,.one .slc),(8,.one (.int .i64))] .auto))) .auto))))) (args:=[.agg #[.slice t0_A t0_n t0_c,.int .i64 t1],.int .i64 atx,.slice l_A l_n l_c]) (Eq.mp (by kernel_rfl) h)
noncomputable def cardindexref04_Trees_Create.W:Option Addr->Nat->Nat->Int->World->(Value->World->Prop)->Prop:=fun t0_A t0_n t0_c t1 w K=>∀ g w',Fresh w g w' [slice t0_A t0_n t0_c,int
 i64 t1] 52->∀ g_1 w'_1,Fresh w' g_1 w'_1 [slice none 0 0,int i64 0] 52->∃ x x_1 x_2,cell? w'_1 (add (mk g 0 none) 0)=some (slice x x_1 x_2)/\∃ x_3 x_4 x_5 w',RunsTo
 Tryz.prog (append_ (Array.mk [50,50]) 50 #[slice none 0 0,slice x x_1 x_2]) w'_1 (slice x_3 x_4 x_5) w'/\∃ x,cell? w' (add (mk g 0 none) 1)=some (int i64 x)/\stOK (add (mk g
 0 none) 1) 0 [int i64 (wrap i64 (x+1))] w'/\∀ w'_2,w'_2=setAll (add (mk g 0 none) 1) 0 [int i64 (wrap i64 (x+1))] w'->∃ x,cell? w'_2 (add (mk g 0 none) 1)=some
 (int i64 x)/\∀ g_2 w',Fresh w'_2 g_2 w' [int i64 x,slice none 0 0] 107->∃ x x_6 x_7 w'_3,RunsTo Tryz.prog (append_ (Array.mk [50,50]) 50 #[slice x_3 x_4 x_5,slice (some (mk g_2 0
 none)) 1 1]) w' (slice x x_6 x_7) w'_3/\stOK (add (mk g 0 none) 0) 0 [slice x x_6 x_7] w'_3/\∀ w',w'=setAll (add (mk g 0 none) 0) 0 [slice x x_6 x_7] w'_3->∃ x x_8 x_9,cell?
 w' (add (mk g 0 none) 0)=some (slice x x_8 x_9)/\∃ x_10,cell? w' (add (mk g 0 none) 1)=some (int i64 x_10)/\stOK (mk g_1 0 none) 0 [slice x x_8 x_9,int i64
 x_10] w'/\∀ w'_4,w'_4=setAll (mk g_1 0 none) 0 [slice x x_8 x_9,int i64 x_10] w'->∃ x x_11 x_12,cell? w'_4 (add (mk g_1 0 none) 0)=some (slice x x_11 x_12)/\∃ x_13,cell?
 w'_4 (add (mk g_1 0 none) 1)=some (int i64 x_13)/\K (agg #[slice x x_11 x_12,int i64 x_13]) w'_4
theorem cardindexref04_Trees_Create.calls (ok:Okay Tryz.prog) {t0_A t0_n t0_c t1 w K} (h:cardindexref04_Trees_Create.W t0_A t0_n t0_c t1 w K):CallsV Tryz.prog 21 #[.agg #[.slice t0_A t0_n t0_c,.int .i64 t1]] w K :=
  fnW_calls ok Tryz.func21 (an:=(.named .auto)) (args:=[.agg #[.slice t0_A t0_n t0_c,.int .i64 t1]]) (Eq.mp (by kernel_rfl) h)
noncomputable def cardindexref04_Trees_Drop.W:Option Addr->Nat->Nat->Int->Int->World->(Value->World->Prop)->Prop:=fun t0_A t0_n t0_c t1 atx w K=>∀ g w',Fresh w g w' [slice t0_A t0_n
 t0_c,int i64 t1] 52->∀ g_1 w'_1,Fresh w' g_1 w'_1 [slice none 0 0,int i64 0] 52->∃ (I:Option Addr->Nat->Nat->Int->World->Prop) (μ:Option Addr->Nat->Nat->Int->World->Nat),I
 none 0 0 0 w'_1/\∀ x x_1 x_2 x_3 w,I x x_1 x_2 x_3 w->∃ x_4 x_5 x_6,cell? w (add (mk g 0 none) 0)=some (slice x_4 x_5 x_6)/\bif decide (x_3<(x_5:Int)) then bif
 !decide (x_3=atx) then ∃ x_7 x_8 x_9,cell? w (add (mk g 0 none) 0)=some (slice x_7 x_8 x_9)/\∃ ad,x_7=some ad/\(0<=x_3/\x_3<(x_8:Int))/\∃ x_10,cell? w
 (add (add ad (Int.toNat x_3*2)) 0)=some (int i64 x_10)/\∃ x_11 x_12 x_13,cell? w (add (add ad (Int.toNat x_3*2)) 1)=some (slice x_11 x_12 x_13)/\∀ g w',Fresh w g w' [int i64
 x_10,slice x_11 x_12 x_13] 107->∃ x_14 x_15 x_16 w'_2,RunsTo Tryz.prog (append_ (Array.mk [50,50]) 50 #[slice x x_1 x_2,slice (some (mk g 0 none)) 1 1]) w' (slice x_14 x_15 x_16)
 w'_2/\I x_14 x_15 x_16 (wrap i64 (x_3+1)) w'_2/\μ x_14 x_15 x_16 (wrap i64 (x_3+1)) w'_2<μ x x_1 x_2 x_3 w else I x x_1 x_2 (wrap i64 (x_3+1)) w/\μ x x_1 x_2 (wrap i64 (x_3+1)) w<μ x x_1
 x_2 x_3 w else stOK (add (mk g 0 none) 0) 0 [slice x x_1 x_2] w/\∀ w',w'=setAll (add (mk g 0 none) 0) 0 [slice x x_1 x_2] w->∃ x x_7 x_8,cell? w' (add (mk g 0 none) 0) =
 some (slice x x_7 x_8)/\∃ x_9,cell? w' (add (mk g 0 none) 1)=some (int i64 x_9)/\stOK (mk g_1 0 none) 0 [slice x x_7 x_8,int i64 x_9] w'/\∀ w'_2,w'_2=setAll (mk
 g_1 0 none) 0 [slice x x_7 x_8,int i64 x_9] w'->∃ x x_10 x_11,cell? w'_2 (add (mk g_1 0 none) 0)=some (slice x x_10 x_11)/\∃ x_12,cell? w'_2 (add (mk g_1 0 none) 1) =
 some (int i64 x_12)/\K (agg #[slice x x_10 x_11,int i64 x_12]) w'_2
theorem cardindexref04_Trees_Drop.calls (ok:Okay Tryz.prog) {t0_A t0_n t0_c t1 atx w K} (h:cardindexref04_Trees_Drop.W t0_A t0_n t0_c t1 atx w K):CallsV Tryz.prog 35 #[.agg #[.slice t0_A t0_n t0_c,.int .i64 t1],.int .i64 atx] w K :=
  fnW_calls ok Tryz.func35 (an:=(.named (.seq .auto (.seq .auto (.seq (.seq .auto (.block (.loop [(5,.one .slc),(6,.one (.int .i64))] .auto))) .auto))))) (args:=[.agg #[.slice t0_A t0_n t0_c,.int .i64 t1],.int .i64 atx]) (Eq.mp (by kernel_rfl) h)
noncomputable def cardindexref04_Trees_Place.W:Option Addr->Nat->Nat->Int->Int->Option Addr->Nat->Nat->World->(Value->World->Prop)->Prop:=fun t0_A t0_n t0_c t1 atx key_A key_n key_c w K
 => ∀ g w',Fresh w g w' [slice t0_A t0_n t0_c,int i64 t1] 52->∃ x x_1 x_2,cell? w' (add (mk g 0 none) 0)=some (slice x x_1 x_2)/\∃ ad,x=some ad/\(0<=atx/\atx<(x_1 :
 Int))/\∃ x x_3 x_4,cell? w' (add (add ad (Int.toNat atx*2)) 1)=some (slice x x_3 x_4)/\∃ (J:Int->World->Prop),(∀ x_5 w,J x_5 w->bif decide (x_5<(x_3:Int)) then ∃ ad,
 x=some ad/\(0<=x_5/\x_5<(x_3:Int))/\∃ x x_6 x_7,cell? w (add (add ad (Int.toNat x_5*2)) 0)=some (slice x x_6 x_7)/\CallsV Tryz.prog 63 #[slice x x_6 x_7,slice key_A key_n
 key_c] w fun v w'=>∃ x,v=int i64 x/\K (tuple #[int i64 x_5,bool (decide (x=0))]) w' else K (tuple #[int i64 x_5,bool false]) w)/\∃ (I:Int->World->Prop) (μ:Int->World ->
 Nat),I 0 w'/\∀ x_5 w,I x_5 w->bif decide (x_5<(x_3:Int)) then ∃ ad,x=some ad/\(0<=x_5/\x_5<(x_3:Int))/\∃ x x_6 x_7,cell? w (add (add ad (Int.toNat x_5*2)) 0) =
 some (slice x x_6 x_7)/\CallsV Tryz.prog 63 #[slice x x_6 x_7,slice key_A key_n key_c] w fun v w'=>∃ x,v=int i64 x/\bif decide (x<0) then I (wrap i64 (x_5+1)) w'/\μ (wrap
 i64 (x_5+1)) w'<μ x_5 w else J x_5 w' else J x_5 w
theorem cardindexref04_Trees_Place.calls (ok:Okay Tryz.prog) {t0_A t0_n t0_c t1 atx key_A key_n key_c w K} (h:cardindexref04_Trees_Place.W t0_A t0_n t0_c t1 atx key_A key_n key_c w K):CallsV Tryz.prog 26 #[.agg #[.slice t0_A t0_n t0_c,.int .i64 t1],.int .i64 atx,.slice key_A key_n key_c] w K :=
  fnW_calls ok Tryz.func26 (an:=(.named (.seq .auto (.seq .auto (.seq .auto (.join [(9,.one (.int .i64))] (.block (.loop [(9,.one (.int .i64))] .auto)) .auto)))))) (args:=[.agg #[.slice t0_A t0_n t0_c,.int .i64 t1],.int .i64 atx,.slice key_A key_n key_c]) (Eq.mp (by kernel_rfl) h)
noncomputable def cardindexref04_Trees_Put.W:Option Addr->Nat->Nat->Int->Int->Option Addr->Nat->Nat->Option Addr->Nat->Nat->World->(Value->World->Prop)->Prop:=fun t0_A t0_n t0_c t1
 atx key_A key_n key_c val_A val_n val_c w K=>∀ g w',Fresh w g w' [slice t0_A t0_n t0_c,int i64 t1] 52->∀ g_1 w'_1,Fresh w' g_1 w'_1 [slice none 0 0,int i64 0] 52->∃ x x_1 x_2,cell? w'_1
 (add (mk g 0 none) 0)=some (slice x x_1 x_2)/\∃ x_3,cell? w'_1 (add (mk g 0 none) 1)=some (int i64 x_3)/\CallsV Tryz.prog 26 #[agg #[slice x x_1 x_2,int i64 x_3],
 int i64 atx,slice key_A key_n key_c] w'_1 fun v w'=>∃ x x_4,v=tuple #[int i64 x,bool x_4]/\∃ x_5 x_6 x_7 w'_2,RunsTo Tryz.prog (append_ (Array.mk [30,30]) 30 #[slice none 0 0,slice
 key_A key_n key_c]) w' (slice x_5 x_6 x_7) w'_2/\∃ x_8 x_9 x_10 w',RunsTo Tryz.prog (append_ (Array.mk [30,30]) 30 #[slice none 0 0,slice val_A val_n val_c]) w'_2 (slice x_8 x_9 x_10) w'/\∀
 g_2 w'_3,Fresh w' g_2 w'_3 [slice none 0 0,slice none 0 0] 73->stOK (mk g_2 0 none) 0 [slice x_5 x_6 x_7,slice x_8 x_9 x_10] w'_3/\∀ w',w'=setAll (mk g_2 0 none) 0
 [slice x_5 x_6 x_7,slice x_8 x_9 x_10] w'_3->∃ x_11 x_12 x_13,cell? w' (add (mk g 0 none) 0)=some (slice x_11 x_12 x_13)/\∃ ad,x_11=some ad/\(0<=atx/\atx<(x_12 :
 Int))/\∃ x_14 x_15 x_16,cell? w' (add (add ad (Int.toNat atx*2)) 1)=some (slice x_14 x_15 x_16)/\(0<=x/\x<=(x_16:Int))/\∃ x_17 x_18 x_19 w'_4,RunsTo Tryz.prog (append_ (Array.mk
 [105,105]) 105 #[slice none 0 0,slice (cutAt x_14 x_16 0 2) (Int.toNat x-0) (x_16-0)]) w' (slice x_17 x_18 x_19) w'_4/\∃ x_20 x_21 x_22,cell? w'_4 (add (mk g_2 0 none) 0) =
 some (slice x_20 x_21 x_22)/\∃ x_23 x_24 x_25,cell? w'_4 (add (mk g_2 0 none) 1)=some (slice x_23 x_24 x_25)/\∀ g_3 w',Fresh w'_4 g_3 w' [slice x_20 x_21 x_22,slice x_23
 x_24 x_25] 73->∃ x_26 x_27 x_28 w'_5,RunsTo Tryz.prog (append_ (Array.mk [105,105]) 105 #[slice x_17 x_18 x_19,slice (some (mk g_3 0 none)) 1 1]) w' (slice x_26 x_27 x_28) w'_5/\∃ (J
 : Int->World->Prop),(∀ x w,J x w->∃ (S:World->Prop),S (drew w)/\∃ x_29 x_30 x_31,(∀ u,S u->cell? u (add (mk g 0 none) 0)=some (slice x_29 x_30 x_31))/\∃ x_32,(∀ u,S u ->
 cell? u (add (mk g 0 none) 1)=some (int i64 x_32))/\(0<=x/\x<=(x_15:Int))/\∃ x_33 x_34 x_35 w',RunsTo Tryz.prog (append_ (Array.mk [105,105]) 105 #[slice x_26 x_27 x_28,slice
 (cutAt x_14 x_16 (Int.toNat x) 2) (x_15-Int.toNat x) (x_16-Int.toNat x)]) (drew w) (slice x_33 x_34 x_35) w'/\S w'/\CallsV Tryz.prog 62 #[agg #[slice x_29 x_30 x_31,int i64 x_32],int i64 atx,
 slice x_33 x_34 x_35] w' fun v w'=>∃ x x_36 x_37 x_38,v=agg #[slice x x_36 x_37,int i64 x_38]/\stOK (mk g_1 0 none) 0 [slice x x_36 x_37,int i64 x_38] w'/\∀ w'_6,w'_6=setAll (mk g_1
 0 none) 0 [slice x x_36 x_37,int i64 x_38] w'->∃ x x_39 x_40,cell? w'_6 (add (mk g_1 0 none) 0)=some (slice x x_39 x_40)/\∃ x_41,cell? w'_6 (add (mk g_1 0 none) 1) =
 some (int i64 x_41)/\K (agg #[slice x x_39 x_40,int i64 x_41]) w'_6)/\bif x_4 then J (wrap i64 (x+1)) w'_5 else J x w'_5
theorem cardindexref04_Trees_Put.calls (ok:Okay Tryz.prog) {t0_A t0_n t0_c t1 atx key_A key_n key_c val_A val_n val_c w K} (h:cardindexref04_Trees_Put.W t0_A t0_n t0_c t1 atx key_A key_n key_c val_A val_n val_c w K):CallsV Tryz.prog 23 #[.agg #[.slice t0_A t0_n t0_c,.int .i64 t1],.int .i64 atx,.slice key_A key_n key_c,.slice val_A val_n val_c] w K :=
  fnW_calls ok Tryz.func23 (an:=(.named (.seq .auto (.seq .auto (.seq .auto (.seq .auto (.seq .auto (.seq .auto (.seq .auto (.seq .auto (.join [(9,.one (.int .i64))] .auto .auto))))))))))) (args:=[.agg #[.slice t0_A t0_n t0_c,.int .i64 t1],.int .i64 atx,.slice key_A key_n key_c,.slice val_A val_n val_c]) (Eq.mp (by kernel_rfl) h)
noncomputable def cardindexref04_Trees_Delete.W:Option Addr->Nat->Nat->Int->Int->Option Addr->Nat->Nat->World->(Value->World->Prop)->Prop:=fun t0_A t0_n t0_c t1 atx key_A key_n key_c w
 K=>∀ g w',Fresh w g w' [slice t0_A t0_n t0_c,int i64 t1] 52->∀ g_1 w'_1,Fresh w' g_1 w'_1 [slice none 0 0,int i64 0] 52->∃ x x_1 x_2,cell? w'_1 (add (mk g 0 none) 0) =
 some (slice x x_1 x_2)/\∃ x_3,cell? w'_1 (add (mk g 0 none) 1)=some (int i64 x_3)/\CallsV Tryz.prog 26 #[agg #[slice x x_1 x_2,int i64 x_3],int i64 atx,slice key_A key_n
 key_c] w'_1 fun v w'=>∃ x x_4,v=tuple #[int i64 x,bool x_4]/\bif !x_4 then ∃ x x_5 x_6,cell? w' (add (mk g 0 none) 0)=some (slice x x_5 x_6)/\∃ x_7,cell? w' (add (mk g 0
 none) 1)=some (int i64 x_7)/\stOK (mk g_1 0 none) 0 [slice x x_5 x_6,int i64 x_7] w'/\∀ w'_2,w'_2=setAll (mk g_1 0 none) 0 [slice x x_5 x_6,int i64 x_7] w'->∃ x
 x_8 x_9,cell? w'_2 (add (mk g_1 0 none) 0)=some (slice x x_8 x_9)/\∃ x_10,cell? w'_2 (add (mk g_1 0 none) 1)=some (int i64 x_10)/\K (agg #[slice x x_8 x_9,int i64
 x_10]) w'_2 else ∃ x_5 x_6 x_7,cell? w' (add (mk g 0 none) 0)=some (slice x_5 x_6 x_7)/\∃ ad,x_5=some ad/\(0<=atx/\atx<(x_6:Int))/\∃ x_8 x_9 x_10,cell? w' (add (add
 ad (Int.toNat atx*2)) 1)=some (slice x_8 x_9 x_10)/\(0<=x/\x<=(x_10:Int))/\∃ x_11 x_12 x_13 w'_2,RunsTo Tryz.prog (append_ (Array.mk [105,105]) 105 #[slice none 0 0,slice
 (cutAt x_8 x_10 0 2) (Int.toNat x-0) (x_10-0)]) w' (slice x_11 x_12 x_13) w'_2/\∃ (S:World->Prop),S (drew w'_2)/\∃ x_14 x_15 x_16,(∀ u,S u->cell? u (add (mk g 0 none) 0) =
 some (slice x_14 x_15 x_16))/\∃ x_17,(∀ u,S u->cell? u (add (mk g 0 none) 1)=some (int i64 x_17))/\(0<=wrap i64 (x+1)/\wrap i64 (x+1)<=(x_9:Int))/\∃ x_18 x_19 x_20
 w',RunsTo Tryz.prog (append_ (Array.mk [105,105]) 105 #[slice x_11 x_12 x_13,slice (cutAt x_8 x_10 (Int.toNat (wrap i64 (x+1))) 2) (x_9-Int.toNat (wrap i64 (x+1))) (x_10-Int.toNat (wrap i64
 (x+1)))]) (drew w'_2) (slice x_18 x_19 x_20) w'/\S w'/\CallsV Tryz.prog 62 #[agg #[slice x_14 x_15 x_16,int i64 x_17],int i64 atx,slice x_18 x_19 x_20] w' fun v w'=>∃ x x_21 x_22 x_23,v=agg
 #[slice x x_21 x_22,int i64 x_23]/\stOK (mk g_1 0 none) 0 [slice x x_21 x_22,int i64 x_23] w'/\∀ w'_3,w'_3=setAll (mk g_1 0 none) 0 [slice x x_21 x_22,int i64 x_23] w'->∃ x x_24
 x_25,cell? w'_3 (add (mk g_1 0 none) 0)=some (slice x x_24 x_25)/\∃ x_26,cell? w'_3 (add (mk g_1 0 none) 1)=some (int i64 x_26)/\K (agg #[slice x x_24 x_25,int i64
 x_26]) w'_3
theorem cardindexref04_Trees_Delete.calls (ok:Okay Tryz.prog) {t0_A t0_n t0_c t1 atx key_A key_n key_c w K} (h:cardindexref04_Trees_Delete.W t0_A t0_n t0_c t1 atx key_A key_n key_c w K):CallsV Tryz.prog 29 #[.agg #[.slice t0_A t0_n t0_c,.int .i64 t1],.int .i64 atx,.slice key_A key_n key_c] w K :=
  fnW_calls ok Tryz.func29 (an:=(.named .auto)) (args:=[.agg #[.slice t0_A t0_n t0_c,.int .i64 t1],.int .i64 atx,.slice key_A key_n key_c]) (Eq.mp (by kernel_rfl) h)
noncomputable def cardindexref04_Trees_Entry.W:Option Addr->Nat->Nat->Int->Int->Int->World->(Value->World->Prop)->Prop:=fun t0_A t0_n t0_c t1 atx k w K=>∀ g w',Fresh w g w' [slice t0_A
 t0_n t0_c,int i64 t1] 52->∀ g_1 w'_1,Fresh w' g_1 w'_1 [slice none 0 0,slice none 0 0] 73->bif decide (atx<0) then stOK (mk g_1 0 none) 0 [slice none 0 0,
 slice none 0 0] w'_1/\∀ w',w'=setAll (mk g_1 0 none) 0 [slice none 0 0,slice none 0 0] w'_1->∃ x x_1 x_2,cell? w' (add (mk g_1 0 none) 0)=some (slice
 x x_1 x_2)/\∃ x_3 x_4 x_5,cell? w' (add (mk g_1 0 none) 1)=some (slice x_3 x_4 x_5)/\K (tuple #[agg #[slice x x_1 x_2,slice x_3 x_4 x_5],bool false]) w' else bif
 decide (k<0) then stOK (mk g_1 0 none) 0 [slice none 0 0,slice none 0 0] w'_1/\∀ w',w'=setAll (mk g_1 0 none) 0 [slice none 0 0,slice none 0
 0] w'_1->∃ x x_1 x_2,cell? w' (add (mk g_1 0 none) 0)=some (slice x x_1 x_2)/\∃ x_3 x_4 x_5,cell? w' (add (mk g_1 0 none) 1)=some (slice x_3 x_4 x_5)/\K (tuple
 #[agg #[slice x x_1 x_2,slice x_3 x_4 x_5],bool false]) w' else ∃ x x_1 x_2,cell? w'_1 (add (mk g 0 none) 0)=some (slice x x_1 x_2)/\∃ ad,x=some ad/\(0<=atx/\atx <
 (x_1:Int))/\∃ x x_3 x_4,cell? w'_1 (add (add ad (Int.toNat atx*2)) 1)=some (slice x x_3 x_4)/\bif decide ((x_3:Int)<=k) then stOK (mk g_1 0 none) 0 [slice
 none 0 0,slice none 0 0] w'_1/\∀ w',w'=setAll (mk g_1 0 none) 0 [slice none 0 0,slice none 0 0] w'_1->∃ x x_5 x_6,cell? w' (add (mk g_1 0 none) 0) =
 some (slice x x_5 x_6)/\∃ x_7 x_8 x_9,cell? w' (add (mk g_1 0 none) 1)=some (slice x_7 x_8 x_9)/\K (tuple #[agg #[slice x x_5 x_6,slice x_7 x_8 x_9],bool false]) w'
 else ∃ x x_5 x_6,cell? w'_1 (add (mk g 0 none) 0)=some (slice x x_5 x_6)/\∃ ad,x=some ad/\(0<=atx/\atx<(x_5:Int))/\∃ x x_7 x_8,cell? w'_1 (add (add ad (Int.toNat
 atx*2)) 1)=some (slice x x_7 x_8)/\∃ ad,x=some ad/\(0<=k/\k<(x_7:Int))/\∃ x x_9 x_10,cell? w'_1 (add (add ad (Int.toNat k*2)) 0)=some (slice x x_9 x_10)/\∃
 x_11 x_12 x_13,cell? w'_1 (add (add ad (Int.toNat k*2)) 1)=some (slice x_11 x_12 x_13)/\stOK (mk g_1 0 none) 0 [slice x x_9 x_10,slice x_11 x_12 x_13] w'_1/\∀ w',w'=setAll (mk
 g_1 0 none) 0 [slice x x_9 x_10,slice x_11 x_12 x_13] w'_1->∃ x x_14 x_15,cell? w' (add (mk g_1 0 none) 0)=some (slice x x_14 x_15)/\∃ x_16 x_17 x_18,cell? w' (add (mk g_1 0
 none) 1)=some (slice x_16 x_17 x_18)/\K (tuple #[agg #[slice x x_14 x_15,slice x_16 x_17 x_18],bool true]) w'
theorem cardindexref04_Trees_Entry.calls (ok:Okay Tryz.prog) {t0_A t0_n t0_c t1 atx k w K} (h:cardindexref04_Trees_Entry.W t0_A t0_n t0_c t1 atx k w K):CallsV Tryz.prog 92 #[.agg #[.slice t0_A t0_n t0_c,.int .i64 t1],.int .i64 atx,.int .i64 k] w K :=
  fnW_calls ok Tryz.func92 (an:=(.named .auto)) (args:=[.agg #[.slice t0_A t0_n t0_c,.int .i64 t1],.int .i64 atx,.int .i64 k]) (Eq.mp (by kernel_rfl) h)
noncomputable def cardindexref04_Trees_After.W:Option Addr->Nat->Nat->Int->Int->Option Addr->Nat->Nat->Bool->World->(Value->World->Prop)->Prop:=fun t0_A t0_n t0_c t1 atx key_A key_n
 key_c is w K=>∀ g w',Fresh w g w' [slice t0_A t0_n t0_c,int i64 t1] 52->∀ g_1 w'_1,Fresh w' g_1 w'_1 [slice none 0 0,slice none 0 0] 73->bif decide (atx<0) then stOK
 (mk g_1 0 none) 0 [slice none 0 0,slice none 0 0] w'_1/\∀ w',w'=setAll (mk g_1 0 none) 0 [slice none 0 0,slice none 0 0] w'_1->∃ x x_1 x_2,cell? w'
 (add (mk g_1 0 none) 0)=some (slice x x_1 x_2)/\∃ x_3 x_4 x_5,cell? w' (add (mk g_1 0 none) 1)=some (slice x_3 x_4 x_5)/\K (tuple #[agg #[slice x x_1 x_2,slice x_3
 x_4 x_5],bool false]) w' else ∃ x x_1 x_2,cell? w'_1 (add (mk g 0 none) 0)=some (slice x x_1 x_2)/\∃ x_3,cell? w'_1 (add (mk g 0 none) 1)=some (int i64 x_3) /\
 CallsV Tryz.prog 26 #[agg #[slice x x_1 x_2,int i64 x_3],int i64 atx,slice key_A key_n key_c] w'_1 fun v w'=>∃ x x_4,v=tuple #[int i64 x,bool x_4]/\∃ (J:Int->World->Prop),(∀ x w,J x w ->
 ∃ x_5 x_6 x_7,cell? w (add (mk g 0 none) 0)=some (slice x_5 x_6 x_7)/\∃ x_8,cell? w (add (mk g 0 none) 1)=some (int i64 x_8)/\CallsV Tryz.prog 92 #[agg #[slice x_5
 x_6 x_7,int i64 x_8],int i64 atx,int i64 x] w fun v w'=>∃ x x_9 x_10 x_11 x_12 x_13 x_14,v=tuple #[agg #[slice x x_9 x_10,slice x_11 x_12 x_13],bool x_14]/\stOK (mk g_1 0 none) 0
 [slice x x_9 x_10,slice x_11 x_12 x_13] w'/\∀ w'_2,w'_2=setAll (mk g_1 0 none) 0 [slice x x_9 x_10,slice x_11 x_12 x_13] w'->∃ x x_15 x_16,cell? w'_2 (add (mk g_1 0 none) 0) =
 some (slice x x_15 x_16)/\∃ x_17 x_18 x_19,cell? w'_2 (add (mk g_1 0 none) 1)=some (slice x_17 x_18 x_19)/\K (tuple #[agg #[slice x x_15 x_16,slice x_17 x_18 x_19],bool
 x_14]) w'_2)/\bif x_4 then bif !is then J (wrap i64 (x+1)) w' else J x w' else J x w'
theorem cardindexref04_Trees_After.calls (ok:Okay Tryz.prog) {t0_A t0_n t0_c t1 atx key_A key_n key_c is w K} (h:cardindexref04_Trees_After.W t0_A t0_n t0_c t1 atx key_A key_n key_c is w K):CallsV Tryz.prog 64 #[.agg #[.slice t0_A t0_n t0_c,.int .i64 t1],.int .i64 atx,.slice key_A key_n key_c,.bool is] w K :=
  fnW_calls ok Tryz.func64 (an:=(.named (.seq .auto (.seq .auto (.seq .auto (.join [(10,.one (.int .i64))] .auto .auto)))))) (args:=[.agg #[.slice t0_A t0_n t0_c,.int .i64 t1],.int .i64 atx,.slice key_A key_n key_c,.bool is]) (Eq.mp (by kernel_rfl) h)
noncomputable def cardindexref04_Trees_Before.W:Option Addr->Nat->Nat->Int->Int->Option Addr->Nat->Nat->Bool->World->(Value->World->Prop)->Prop:=fun t0_A t0_n t0_c t1 atx key_A key_n
 key_c is w K=>∀ g w',Fresh w g w' [slice t0_A t0_n t0_c,int i64 t1] 52->∀ g_1 w'_1,Fresh w' g_1 w'_1 [slice none 0 0,slice none 0 0] 73->bif decide (atx<0) then stOK
 (mk g_1 0 none) 0 [slice none 0 0,slice none 0 0] w'_1/\∀ w',w'=setAll (mk g_1 0 none) 0 [slice none 0 0,slice none 0 0] w'_1->∃ x x_1 x_2,cell? w'
 (add (mk g_1 0 none) 0)=some (slice x x_1 x_2)/\∃ x_3 x_4 x_5,cell? w' (add (mk g_1 0 none) 1)=some (slice x_3 x_4 x_5)/\K (tuple #[agg #[slice x x_1 x_2,slice x_3
 x_4 x_5],bool false]) w' else ∃ x x_1 x_2,cell? w'_1 (add (mk g 0 none) 0)=some (slice x x_1 x_2)/\∃ x_3,cell? w'_1 (add (mk g 0 none) 1)=some (int i64 x_3) /\
 CallsV Tryz.prog 26 #[agg #[slice x x_1 x_2,int i64 x_3],int i64 atx,slice key_A key_n key_c] w'_1 fun v w'=>∃ x x_4,v=tuple #[int i64 x,bool x_4]/\∃ (J:Int->World->Prop),(∀ x w,J x w ->
 ∃ x_5 x_6 x_7,cell? w (add (mk g 0 none) 0)=some (slice x_5 x_6 x_7)/\∃ x_8,cell? w (add (mk g 0 none) 1)=some (int i64 x_8)/\CallsV Tryz.prog 92 #[agg #[slice x_5
 x_6 x_7,int i64 x_8],int i64 atx,int i64 x] w fun v w'=>∃ x x_9 x_10 x_11 x_12 x_13 x_14,v=tuple #[agg #[slice x x_9 x_10,slice x_11 x_12 x_13],bool x_14]/\stOK (mk g_1 0 none) 0
 [slice x x_9 x_10,slice x_11 x_12 x_13] w'/\∀ w'_2,w'_2=setAll (mk g_1 0 none) 0 [slice x x_9 x_10,slice x_11 x_12 x_13] w'->∃ x x_15 x_16,cell? w'_2 (add (mk g_1 0 none) 0) =
 some (slice x x_15 x_16)/\∃ x_17 x_18 x_19,cell? w'_2 (add (mk g_1 0 none) 1)=some (slice x_17 x_18 x_19)/\K (tuple #[agg #[slice x x_15 x_16,slice x_17 x_18 x_19],bool
 x_14]) w'_2)/\bif !x_4 then J (wrap i64 (x-1)) w' else bif !is then J (wrap i64 (x-1)) w' else J x w'
theorem cardindexref04_Trees_Before.calls (ok:Okay Tryz.prog) {t0_A t0_n t0_c t1 atx key_A key_n key_c is w K} (h:cardindexref04_Trees_Before.W t0_A t0_n t0_c t1 atx key_A key_n key_c is w K):CallsV Tryz.prog 97 #[.agg #[.slice t0_A t0_n t0_c,.int .i64 t1],.int .i64 atx,.slice key_A key_n key_c,.bool is] w K :=
  fnW_calls ok Tryz.func97 (an:=(.named (.seq .auto (.seq .auto (.seq .auto (.join [(10,.one (.int .i64))] .auto .auto)))))) (args:=[.agg #[.slice t0_A t0_n t0_c,.int .i64 t1],.int .i64 atx,.slice key_A key_n key_c,.bool is]) (Eq.mp (by kernel_rfl) h)
end Go.Proofs.YthfagbfllheneaaGreat
set_option linter.unusedVariables false
set_option linter.unusedSimpArgs false
namespace Go.Proofs.YthfagbfllheneaaGreat
open Go Go.Sx T4
/-! ## plain -/
theorem insE_cut (key val:Key):∀ es:Es,insE key val es=es.take (pos (keysE es) key)++(key,val)::es.drop (pos (keysE es) key+if has (keysE es) key then 1 else 0)
  | []=>rfl
  | (k,v)::r=>by
    have ih:=insE_cut key val r
    show (if lt k key then (k,v)::insE key val r else if k=key then (key,val)::r else (key,val)::(k,v)::r)=_
    rw [show keysE ((k,v)::r)=k::keysE r from rfl,pos_cons,has_cons]
    by_cases h:lt k key
    · rw [if_pos h,if_pos h,if_pos h,ih,List.take_succ_cons,show pos (keysE r) key+1+(if has (keysE r) key=true then 1 else 0)=(pos (keysE r) key+(if has (keysE r) key=true then 1 else 0))+1 by omega,List.drop_succ_cons];rfl
    · rw [if_neg h,if_neg h,if_neg h]
      by_cases he:k=key
      · rw [if_pos he,decide_eq_true he];rfl
      · rw [if_neg he,decide_eq_false he];rfl
theorem delE_cut (key:Key) {es:Es} (h:has (keysE es) key=true):delE key es=es.take (pos (keysE es) key)++es.drop (pos (keysE es) key+1):=by
  induction es with
  | nil=>simp [has,keysE,pos] at h
  | cons p r ih =>
    obtain ⟨k,v⟩:=p
    rw [show keysE ((k,v)::r)=k::keysE r from rfl,has_cons] at h
    show (if lt k key then (k,v)::delE key r else if k=key then r else (k,v)::r)=_
    rw [show keysE ((k,v)::r)=k::keysE r from rfl,pos_cons]
    by_cases hl:lt k key
    · rw [if_pos hl] at h ⊢
      rw [if_pos hl,ih h,List.take_succ_cons,List.drop_succ_cons];rfl
    · rw [if_neg hl] at h ⊢
      rw [if_neg hl,if_pos (of_decide_eq_true h)];rfl
theorem keysE_get {es:Es} {i:Nat} {k v:Key} (h:es[i]?=some (k,v)):(keysE es)[i]?=some k:=by simp [keysE,h]
theorem pos_stop (key:Key):∀ (ks:List Key) {k:Key},ks[pos ks key]?=some k->¬ lt k key
  | [],_,h=>by simp at h
  | x::ks,k,h=>by
    rw [pos_cons] at h
    by_cases hx:lt x key
    · rw [if_pos hx,List.getElem?_cons_succ] at h
      exact pos_stop key ks h
    · rw [if_neg hx] at h
      simp at h
      subst h;exact hx
/-! ## kinds -/
def KEn:Kd (Key×Key):=⟨2,fun Ω w p cs=>∃ a b,cs=[a,b]/\KBs.rep Ω w p.1 [a]/\KBs.rep Ω w p.2 [b],fun ⟨_,_,h,_⟩=>by simp [h],fun ⟨a,b,h,h1,h2⟩ st=>⟨a,b,h,KBs.keep h1 st,KBs.keep h2 st⟩⟩
theorem KEn_pos:0<KEn.size:=by decide
abbrev KEs:Kd Es:=Kd.slice KEn KEn_pos
def KTr:Kd (Int×Es):=⟨2,fun Ω w p cs=>∃ b,cs=[.int .i64 p.1,b]/\KEs.rep Ω w p.2 [b],fun ⟨_,h,_⟩=>by simp [h],fun ⟨b,h,h1⟩ st=>⟨b,h,KEs.keep h1 st⟩⟩
theorem KTr_pos:0<KTr.size:=by decide
theorem oneBs' {α:Type} {K:Kd α} {hz:0<K.size} {Ω:Nat->Prop} {w:World} {l:List α} {cs:List Value} (h:(Kd.slice K hz).rep Ω w l cs):∀ v∈cs,v.oneCell'=true:=by
  obtain ⟨A,c,rfl,_⟩:=h
  intro v hv;simp at hv;subst hv;rfl
theorem oneEn {Ω:Nat->Prop} {w:World} {p:Key×Key} {cs:List Value} (h:KEn.rep Ω w p cs):∀ v∈cs,v.oneCell'=true:=by
  obtain ⟨a,b,rfl,h1,h2⟩:=h
  intro v hv
  simp at hv
  rcases hv with rfl|rfl
  · exact oneBs' h1 v (by simp)
  · exact oneBs' h2 v (by simp)
theorem oneTr {Ω:Nat->Prop} {w:World} {p:Int×Es} {cs:List Value} (h:KTr.rep Ω w p cs):∀ v∈cs,v.oneCell'=true:=by
  obtain ⟨b,rfl,h1⟩:=h
  intro v hv
  simp at hv
  rcases hv with rfl|rfl
  · rfl
  · exact oneBs' h1 v (by simp)
theorem slT:SlT Tryz.prog 50 107 2 32 [.int .i64 0,.slice none 0 0]:=⟨by kernel_rfl,⟨Tryz.t107,by kernel_rfl,by kernel_rfl,by kernel_rfl,.agg #[.int .i64 0,.slice none 0 0],by kernel_rfl,by kernel_rfl⟩,rfl,by decide⟩
theorem slE:SlT Tryz.prog 105 73 2 48 [.slice none 0 0,.slice none 0 0]:=⟨by kernel_rfl,⟨Tryz.t73,by kernel_rfl,by kernel_rfl,by kernel_rfl,.agg #[.slice none 0 0,.slice none 0 0],by kernel_rfl,by kernel_rfl⟩,rfl,by decide⟩
section
variable {Ω:Nat->Prop} {w:World}
theorem enCell {A:Option Addr} {es:Es} (h:Imm KEn Ω w A es) {i:Nat} {k v:Key} (hi:es[i]?=some (k,v)) :
    ∃ ad A1 c1 A2 c2,A=some ad/\w.cell? ((ad.add (i*2)).add 0)=some (.slice A1 k.length c1)/\w.cell? ((ad.add (i*2)).add 1)=some (.slice A2 v.length c2)/\k.length<=c1/\v.length<=c2/\Imm KB Ω w A1 k/\Imm KB Ω w A2 v:=by
  obtain ⟨ad,hA,_,cs,⟨a,b,rfl,h1,h2⟩,hc⟩:=h i (k,v) hi
  obtain ⟨A1,c1,e1,l1,i1⟩:=h1
  obtain ⟨A2,c2,e2,l2,i2⟩:=h2
  simp at e1 e2
  subst e1;subst e2
  exact ⟨ad,A1,c1,A2,c2,hA,by rw [add_add];exact hc 0 _ rfl,by rw [add_add];exact hc 1 _ rfl,l1,l2,i1,i2⟩
theorem trCell {A:Option Addr} {F:List (Int×Es)} (h:Imm KTr Ω w A F) {i:Nat} {r:Int} {es:Es} (hi:F[i]?=some (r,es)) :
    ∃ ad B c,A=some ad/\w.cell? ((ad.add (i*2)).add 0)=some (.int .i64 r)/\w.cell? ((ad.add (i*2)).add 1)=some (.slice B es.length c)/\es.length<=c/\Imm KEn Ω w B es:=by
  obtain ⟨ad,hA,_,cs,⟨b,rfl,h1⟩,hc⟩:=h i (r,es) hi
  obtain ⟨B,c,e1,l1,i1⟩:=h1
  simp at e1
  subst e1
  exact ⟨ad,B,c,hA,by rw [add_add];exact hc 0 _ rfl,by rw [add_add];exact hc 1 _ rfl,l1,i1⟩
theorem repEn {A1 A2:Option Addr} {c1 c2:Nat} {k v:Key} (l1:k.length<=c1) (l2:v.length<=c2) (h1:Imm KB Ω w A1 k) (h2:Imm KB Ω w A2 v):KEn.rep Ω w (k,v) [.slice A1 k.length c1,.slice A2 v.length c2]:=⟨_,_,rfl,⟨A1,c1,rfl,l1,h1⟩,⟨A2,c2,rfl,l2,h2⟩⟩
theorem repTr {B:Option Addr} {c:Nat} {r:Int} {es:Es} (l1:es.length<=c) (h1:Imm KEn Ω w B es):KTr.rep Ω w (r,es) [.int .i64 r,.slice B es.length c]:=⟨_,rfl,B,c,rfl,l1,h1⟩
theorem fixI {α:Type} {K:Kd α} {A:Option Addr} {l:List α} (h:Imm K Ω w A l):Imm (Kd.fix Ω w K) NoB w A l:=fun i a ha=>by
  obtain ⟨ad,hA,hn,cs,hr,hc⟩:=h i a ha
  exact ⟨ad,hA,fun h=>h,cs,hr,hc⟩
theorem unfixI {α:Type} {K:Kd α} (hz:0<K.size) {w':World} {A:Option Addr} {c:Nat} {l:List α} (h:OwnK (Kd.fix Ω w K) w' A c l) (e:Ext w w') (hΩ:∀ k,ownB A k->¬ Ω k):Imm K Ω w' A l:=by
  obtain ⟨xs,ho,hr⟩:=h
  exact Own.imm (K:=K) hz ho hΩ fun i a ha=>K.keep (show K.rep Ω w a _ from hr i a ha) (e.step Ω)
theorem appFix {α:Type} {K:Kd α} {t e by_:Nat} {z:List Value} (T:SlT Tryz.prog t e K.size by_ z) (h1:∀ {Ω w a cs},K.rep Ω w a cs->∀ v∈cs,v.oneCell'=true) {ty:TypeId} {u:World} {A B:Option Addr} {c cb:Nat} {l m:List α} (h:OwnK (Kd.fix Ω w K) u A c l) (hB:Imm (Kd.fix Ω w K) NoB u B m) (hoff:∀ k,ownB A k->¬ ownB B k\/m=[])
    (hb:l.length+m.length<=maxLen) (hb2:(l.length+m.length)*by_<=140737488355328) :
    ∃ A' c' u',RunsTo Tryz.prog (Builtin.append_ #[t,t] ty #[.slice A l.length c,.slice B m.length cb]) u (.slice A' (l++m).length c') u'/\OwnK (Kd.fix Ω w K) u' A' c' (l++m)/\Grew A A' u u':=by
  refine OwnK.append (K:=Kd.fix Ω w K) T h ?_ (fun a cs hr=>h1 hr) hb hb2
  intro i a ha
  obtain ⟨ad,hA,hn,cs,hr,hc⟩:=hB i a ha
  refine ⟨ad,hA,fun hk=>?_,cs,hr,hc⟩
  rcases hoff _ hk with h|h
  · exact h ⟨ad,hA,rfl⟩
  · rw [h] at ha;cases ha
end
/-! ## Compare -/
theorem Cmp_spec {w:World} {Ω Ω':Nat->Prop} {A B:Option Addr} {a b:List UInt8} (ha:Imm KB Ω w A a) (hb:Imm KB Ω' w B b) (hl:a.length<=1152921504606846976\/b.length<=1152921504606846976) (ca cb:Nat) :
    CallsV Tryz.prog 63 #[.slice A a.length ca,.slice B b.length cb] w fun r w'=>r=.int .i64 (Lib.compareBytes a b)/\Ext w w':=by
  refine cardindexref04_Compare.calls okay ?_
  unfold cardindexref04_Compare.W
  refine ⟨fun u=>Ext w u/\∃ j,j<=a.length/\j<=b.length/\Lib.compareBytes a b=Lib.compareBytes (a.drop j) (b.drop j)/\(j=a.length\/j=b.length),?_,fun x u=>∃ j:Nat,x=(j:Int)/\j<=a.length/\j<=b.length/\Ext w u/\Lib.compareBytes a b=Lib.compareBytes (a.drop j) (b.drop j),fun x _=>(a.length-x).toNat,⟨0,rfl,Nat.zero_le _,Nat.zero_le _,.refl _ _,rfl⟩,?_⟩
  · rintro u ⟨e,j,h1,h2,h3,h4⟩
    refine brd (fun h=>?_) (fun h=>brd (fun h'=>?_) (fun h'=>?_))
    · have:j=a.length:=by omega
      rw [h3,this,List.drop_length,List.drop_eq_getElem_cons (show a.length<b.length by omega)]
      exact ⟨rfl,e⟩
    · have:j=b.length:=by omega
      rw [h3,this,List.drop_length,List.drop_eq_getElem_cons (show b.length<a.length by omega)]
      exact ⟨rfl,e⟩
    · have:j=a.length:=by omega
      have:j=b.length:=by omega
      rw [h3,List.drop_eq_nil_of_le (by omega),List.drop_eq_nil_of_le (by omega)]
      exact ⟨rfl,e⟩
  · rintro _ u ⟨j,rfl,hj1,hj2,e,hc⟩
    refine brd (fun hlt=>brd (fun hlt2=>?_) (fun hge=>⟨e,j,hj1,hj2,hc,.inr (by omega)⟩)) (fun hge=>⟨e,j,hj1,hj2,hc,.inl (by omega)⟩)
    have ja:j<a.length:=by omega
    have jb:j<b.length:=by omega
    obtain ⟨ad,hA,ca1⟩:=ha.byte ja
    obtain ⟨bd,hB,cb1⟩:=hb.byte jb
    have hda:=List.drop_eq_getElem_cons ja
    have hdb:=List.drop_eq_getElem_cons jb
    have ed:Ext w u.drew:=e.drew
    have edd:Ext w u.drew.drew:=ed.drew
    rw [hda,hdb] at hc
    have hstep:Lib.compareBytes (a[j]::a.drop (j+1)) (b[j]::b.drop (j+1))=if a[j]<b[j] then -1 else if b[j]<a[j] then 1 else Lib.compareBytes (a.drop (j+1)) (b.drop (j+1)):=rfl
    rw [hstep] at hc
    refine ⟨ad,hA,⟨by omega,by omega⟩,fun v=>Ext w v,ed,_,fun v ev=>by rw [Int.toNat_natCast];exact Ext.cell ev ca1,bd,hB,⟨by omega,by omega⟩,_,fun v ev=>by rw [Int.toNat_natCast];exact Ext.cell ev cb1,brd (fun h=>?_) (fun h=>?_)⟩
    · have h':a[j]<b[j]:=by rw [UInt8.lt_iff_toNat_lt];omega
      rw [if_pos h'] at hc
      exact ⟨by rw [hc],ed⟩
    · have h':¬ a[j]<b[j]:=by rw [UInt8.lt_iff_toNat_lt];omega
      rw [if_neg h'] at hc
      refine ⟨ad,hA,⟨by omega,by omega⟩,fun v=>Ext w v,edd,_,fun v ev=>by rw [Int.toNat_natCast];exact Ext.cell ev ca1,bd,hB,⟨by omega,by omega⟩,_,fun v ev=>by rw [Int.toNat_natCast];exact Ext.cell ev cb1,brd (fun h2=>?_) (fun h2=>?_)⟩
      · have h2':b[j]<a[j]:=by rw [UInt8.lt_iff_toNat_lt];omega
        rw [if_pos h2'] at hc
        exact ⟨by rw [hc],edd⟩
      · have h2':¬ b[j]<a[j]:=by rw [UInt8.lt_iff_toNat_lt];omega
        rw [if_neg h2'] at hc
        rw [wi _ (by omega) (by omega)]
        exact ⟨⟨j+1,by omega,by omega,by omega,edd,hc⟩,by dsimp only;omega⟩
/-! ## Find, Place -/
def trV (A:Option Addr) (c:Nat) (F:List (Int×Es)) (last:Int):Value:=.agg #[.slice A F.length c,.int .i64 last]
def Fnd (F:List (Int×Es)) (r:Int) (i:Int):Prop:=(i=-1/\∀ p∈F,p.1≠r)\/∃ (j:Nat) (es:Es),i=(j:Int)/\F[j]?=some (r,es)/\∀ k p,F[k]?=some p->k<j->p.1≠r
theorem Find_spec {w:World} {Ω:Nat->Prop} {A:Option Addr} {c:Nat} {F:List (Int×Es)} (h:Imm KTr Ω w A F) (hl:F.length<=1000000) (last root:Int) :
    CallsV Tryz.prog 25 #[trV A c F last,.int .i64 root] w fun r w'=>∃ i,r=.int .i64 i/\Fnd F root i/\Ext w w':=by
  refine cardindexref04_Trees_Find.calls okay ?_
  unfold cardindexref04_Trees_Find.W
  intro g w1 f1
  refine ⟨fun x u=>∃ j:Nat,x=(j:Int)/\j<=F.length/\Ext w1 u/\∀ k p,F[k]?=some p->k<j->p.1≠root,fun x _=>(F.length-x).toNat,⟨0,rfl,Nat.zero_le _,.refl _ _,fun k p _ h=>by omega⟩,?_⟩
  rintro _ u ⟨j,rfl,hj,e,hno⟩
  have hb:=f1.blk.ext e
  have ew:=f1.ext.trans' e
  refine ⟨_,_,_,hb.cell rfl,brd (fun hlt=>?_) (fun hge=>?_)⟩
  · have hjl:j<F.length:=by omega
    have hFj:F[j]?=some (F[j].1,F[j].2):=List.getElem?_eq_getElem hjl
    obtain ⟨ad,B,cc,hA,c0,c1,_,_⟩:=trCell h hFj
    refine ⟨_,_,_,hb.cell rfl,ad,hA,⟨by omega,by omega⟩,_,by rw [Int.toNat_natCast];exact Ext.cell ew c0,brd (fun he=>?_) (fun hne=>?_)⟩
    · exact ⟨_,rfl,.inr ⟨j,F[j].2,rfl,by rw [hFj,he],hno⟩,ew⟩
    · rw [wi _ (by omega) (by omega)]
      refine ⟨⟨j+1,by omega,by omega,e,fun k p hk hlt=>?_⟩,by dsimp only;omega⟩
      rcases Nat.lt_or_ge k j with h|h
      · exact hno k p hk h
      · obtain rfl:k=j:=by omega
        rw [hFj] at hk;cases hk;exact hne
  · obtain rfl:j=F.length:=by omega
    refine ⟨_,rfl,.inl ⟨rfl,fun p hp=>?_⟩,ew⟩
    obtain ⟨k,hk,rfl⟩:=List.mem_iff_getElem.1 hp
    exact hno k _ (List.getElem?_eq_getElem hk) hk
theorem Place_spec {w:World} {Ω Ω':Nat->Prop} {A:Option Addr} {c:Nat} {F:List (Int×Es)} (h:Imm KTr Ω w A F) {i:Nat} {r:Int} {es:Es} (hi:F[i]?=some (r,es)) (hl:es.length<=1000000) (last:Int) {B:Option Addr} {key:Key} (hB:Imm KB Ω' w B key) (cb:Nat) (hkl:∀ p∈es,p.1.length<=1048576) :
    CallsV Tryz.prog 26 #[trV A c F last,iv i,.slice B key.length cb] w fun v w'=>v=.tuple #[iv (pos (keysE es) key),.bool (has (keysE es) key)]/\Ext w w':=by
  refine cardindexref04_Trees_Place.calls okay ?_
  unfold cardindexref04_Trees_Place.W
  intro g w1 f1
  obtain ⟨ad,E,ce,hA,c0,c1,_,hE⟩:=trCell h hi
  have hil:=(List.getElem?_eq_some_iff.1 hi).1
  refine ⟨_,_,_,f1.blk.cell rfl,ad,hA,⟨by omega,by omega⟩,_,_,_,by rw [Int.toNat_natCast];exact Ext.cell f1.ext c1,?_⟩
  have hple:=pos_le (keysE es) key
  rw [keysE_length] at hple
  have kl:=keysE_length es
  refine ⟨fun x u=>Ext w u/\x=((pos (keysE es) key:Nat):Int),?_,fun x u=>∃ j:Nat,x=(j:Int)/\j<=pos (keysE es) key/\Ext w u,fun x _=>(es.length-x).toNat,⟨0,rfl,Nat.zero_le _,f1.ext⟩,?_⟩
  · rintro _ u ⟨e,rfl⟩
    refine brd (fun hlt=>?_) (fun hge=>?_)
    · obtain ⟨p,hp⟩:∃ p,es[pos (keysE es) key]?=some p:=⟨_,List.getElem?_eq_getElem (by omega)⟩
      obtain ⟨k,v⟩:=p
      obtain ⟨ed,A1,cc1,A2,cc2,hEd,d0,_,_,_,i1,_⟩:=enCell hE hp
      refine ⟨ed,hEd,⟨by omega,by omega⟩,_,_,_,by rw [Int.toNat_natCast];exact Ext.cell e d0,(Cmp_spec (i1.ext KB_pos e) (hB.ext KB_pos e) (by have h9:k.length<=1048576:=hkl _ (List.mem_of_getElem? hp);omega) _ _).mono ?_⟩
      rintro _ u' ⟨rfl,e'⟩
      have hk:(keysE es)[pos (keysE es) key]?=some k:=keysE_get hp
      refine ⟨_,rfl,?_,e.trans' e'⟩
      have hb:has (keysE es) key=decide (Lib.compareBytes k key=0):=by
        unfold has
        rw [hk,decide_eq_decide]
        exact ⟨fun h=>by cases h;exact cmp_self _,fun h=>by rw [cmp_zero _ _ h]⟩
      rw [hb]
    · have hk:(keysE es)[pos (keysE es) key]?=none:=List.getElem?_eq_none (by omega)
      refine ⟨?_,e⟩
      unfold has
      rw [hk];rfl
  · rintro _ u ⟨j,rfl,hj,e⟩
    refine brd (fun hlt=>?_) (fun hge=>⟨e,by omega⟩)
    have hjl:j<es.length:=by omega
    obtain ⟨p,hp⟩:∃ p,es[j]?=some p:=⟨_,List.getElem?_eq_getElem hjl⟩
    obtain ⟨k,v⟩:=p
    have hk:(keysE es)[j]?=some k:=keysE_get hp
    have hk':∃ h:j<(keysE es).length,(keysE es)[j]=k:=List.getElem?_eq_some_iff.1 hk
    obtain ⟨hk1,hk2⟩:=hk'
    obtain ⟨ed,A1,cc1,A2,cc2,hEd,d0,_,_,_,i1,_⟩:=enCell hE hp
    refine ⟨ed,hEd,⟨by omega,by omega⟩,_,_,_,by rw [Int.toNat_natCast];exact Ext.cell e d0,(Cmp_spec (i1.ext KB_pos e) (hB.ext KB_pos e) (by have h9:k.length<=1048576:=hkl _ (List.mem_of_getElem? hp);omega) _ _).mono ?_⟩
    rintro _ u' ⟨rfl,e'⟩
    refine ⟨_,rfl,brd (fun hc=>?_) (fun hc=>⟨e.trans' e',?_⟩)⟩
    · rw [wi _ (by omega) (by omega)]
      have:j<pos (keysE es) key:=by
        rcases Nat.lt_or_ge j (pos (keysE es) key) with h|h
        · exact h
        · obtain rfl:j=pos (keysE es) key:=by omega
          exfalso
          have hn:¬ lt k key:=pos_stop _ _ hk
          exact hn hc
      exact ⟨⟨j+1,by omega,by omega,e.trans' e'⟩,by dsimp only;omega⟩
    · rcases Nat.lt_or_ge j (pos (keysE es) key) with h|h
      · exact absurd (by have:=pos_lt h hk1;rw [hk2] at this;exact this) hc
      · have:j=pos (keysE es) key:=by omega
        rw [this]
end Go.Proofs.YthfagbfllheneaaGreat
set_option linter.unusedVariables false
set_option linter.unusedSimpArgs false
namespace Go.Proofs.YthfagbfllheneaaGreat
open Go Go.Sx T4
section
variable {w:World} {Ω:Nat->Prop}
theorem finC {u:World} {g1:Nat} {b0 b1:Value} {X:Option Addr} {n c:Nat} {last:Int} {K:Value->World->Prop} (ew:Ext w u) (hb1:Blk u g1 [b0,b1]) (hg1:w.heap.size<=g1)
    (hK:∀ u',Ext w u'->Fr (fun k=>k=g1) u u'->K (.agg #[.slice X n c,.int .i64 last]) u') :
    stOK ⟨g1,0,none⟩ 0 [.slice X n c,.int .i64 last] u/\∀ w',w'=setAll ⟨g1,0,none⟩ 0 [.slice X n c,.int .i64 last] u->∃ x x1 x2,w'.cell? ((⟨g1,0,none⟩:Addr).add 0)=some (.slice x x1 x2)/\∃ x3,w'.cell? ((⟨g1,0,none⟩:Addr).add 1)=some (.int .i64 x3)/\K (.agg #[.slice x x1 x2,.int .i64 x3]) w':=by
  refine ⟨hb1.stOK (o:=0) [_,_] 0 (by simp),fun w' hw'=>?_⟩
  have b':Blk w' g1 [.slice X n c,.int .i64 last]:=by rw [hw'];exact Blk.setAll (o:=0) [.slice X n c,.int .i64 last] 0 hb1
  have f':Fr (fun k=>k=g1) u w':=by rw [hw'];exact Fr.setAll _ _ _
  exact ⟨_,_,_,b'.cell rfl,_,b'.cell rfl,hK w' (ew.trans f' (fun _ _ h=>h) (fun k hk e=>by omega)) f'⟩
theorem finT {u:World} {g g1:Nat} {a b0 b1:Value} {X:Option Addr} {n c:Nat} {last:Int} {K:Value->World->Prop} (ew:Ext w u) (hb:Blk u g [a,.int .i64 last]) (hb1:Blk u g1 [b0,b1]) (hne:g1≠g) (hg:w.heap.size<=g) (hg1:w.heap.size<=g1)
    (hK:∀ u',Ext w u'->Fr (fun k=>k=g\/k=g1) u u'->K (.agg #[.slice X n c,.int .i64 last]) u') :
    stOK ((⟨g,0,none⟩:Addr).add 0) 0 [.slice X n c] u/\∀ w',w'=setAll ((⟨g,0,none⟩:Addr).add 0) 0 [.slice X n c] u->∃ x x7 x8,w'.cell? ((⟨g,0,none⟩:Addr).add 0)=some (.slice x x7 x8)/\∃ x9,w'.cell? ((⟨g,0,none⟩:Addr).add 1)=some (.int .i64 x9) /\
      stOK ⟨g1,0,none⟩ 0 [.slice x x7 x8,.int .i64 x9] w'/\∀ w2,w2=setAll ⟨g1,0,none⟩ 0 [.slice x x7 x8,.int .i64 x9] w'->∃ x x1 x2,w2.cell? ((⟨g1,0,none⟩:Addr).add 0)=some (.slice x x1 x2)/\∃ x3,w2.cell? ((⟨g1,0,none⟩:Addr).add 1)=some (.int .i64 x3)/\K (.agg #[.slice x x1 x2,.int .i64 x3]) w2:=by
  obtain ⟨p1,p2⟩:=setF hb (o:=0) (by simp) (.slice X n c)
  refine ⟨p1,fun w' hw'=>?_⟩
  obtain ⟨b',f'⟩:=p2 w' hw'
  have e':Ext w w':=ew.trans f' (fun _ _ h=>h) (fun k hk e=>by omega)
  exact ⟨_,_,_,b'.cell rfl,_,b'.cell rfl,finC e' (hb1.keep f' hne) hg1 fun u' e2 f2=>hK u' e2 ((f'.mono fun _ _ h=>.inl h).trans f2 (fun _ _ h=>h) (fun _ _ h=>.inr h))⟩
def TrR (Ω:Nat->Prop) (w:World) (A:Option Addr) (c:Nat) (F:List (Int×Es)):Prop:=Imm KTr Ω w A F/\F.length<=c
theorem TrR.keep {Ω':Nat->Prop} {w':World} {A:Option Addr} {c:Nat} {F:List (Int×Es)} (h:TrR Ω w A c F) (st:Step Ω w Ω' w'):TrR Ω' w' A c F:=⟨h.1.keep KTr_pos st,h.2⟩
theorem TrR.ext {w':World} {A:Option Addr} {c:Nat} {F:List (Int×Es)} (h:TrR Ω w A c F) (e:Ext w w'):TrR Ω w' A c F:=h.keep (e.step Ω)
theorem with_spec {A:Option Addr} {c:Nat} {F:List (Int×Es)} (h:TrR Ω w A c F) (hΩ:∀ k,Ω k->k<w.heap.size) (hl:F.length<=1000000) {i:Nat} {r:Int} {es0 es:Es} (hi:F[i]?=some (r,es0)) (last:Int) {L:Option Addr} {lc:Nat} (hL:Imm KEn Ω w L es) (hlc:es.length<=lc) :
    CallsV Tryz.prog 62 #[trV A c F last,iv i,.slice L es.length lc] w fun v w'=>∃ A' c',v=trV A' c' (F.set i (r,es)) last/\TrR Ω w' A' c' (F.set i (r,es))/\Ext w w':=by
  refine cardindexref04_Trees_with.calls okay ?_
  unfold cardindexref04_Trees_with.W
  intro g w1 f1 g1 w2 f2
  have hg1:g1≠g:=by have:=f2.ge;have:=f1.lt;omega
  have e2:Ext w w2:=f1.ext.trans' f2.ext
  have hgw:w.heap.size<=g:=f1.ge
  have hg1w:w.heap.size<=g1:=Nat.le_trans f1.ext.size f2.ge
  have hGl:(F.set i (r,es)).length=F.length:=by simp
  generalize hG:F.set i (r,es)=G at *
  refine ⟨fun X n cc x u=>∃ j:Nat,x=(j:Int)/\j<=F.length/\n=j/\Ext w2 u/\OwnK (Kd.fix Ω w KTr) u X cc (G.take j)/\∀ k,ownB X k->w2.heap.size<=k,fun _ _ _ x _=>(F.length-x).toNat,⟨0,rfl,Nat.zero_le _,rfl,.refl _ _,by rw [List.take_zero];exact OwnK.nil _ _,fun k hk=>(ownB_none k hk).elim⟩,?_⟩
  rintro X j cc _ u ⟨j0,rfl,hj,rfl,eu,hO,hX⟩
  have ew:Ext w u:=e2.trans' eu
  have hbg:Blk u g [.slice A F.length c,.int .i64 last]:=(f1.blk.ext f2.ext).ext eu
  have hbg1:Blk u g1 [.slice none 0 0,.int .i64 0]:=f2.blk.ext eu
  refine ⟨_,_,_,hbg.cell rfl,brd (fun hlt=>?_) (fun hge=>?_)⟩
  · have hjl:j<F.length:=by omega
    have hFj:F[j]?=some (F[j].1,F[j].2):=List.getElem?_eq_getElem hjl
    obtain ⟨ad,B,cB,hA,c0,c1,hcB,hB⟩:=trCell h.1 hFj
    refine ⟨_,_,_,hbg.cell rfl,ad,hA,⟨by omega,by omega⟩,_,by rw [Int.toNat_natCast];exact Ext.cell ew c0,_,_,_,by rw [Int.toNat_natCast];exact Ext.cell ew c1,?_⟩
    intro g3 u1 f3
    refine ⟨f3.blk.stOK (o:=0) [_,_] 0 (by simp),fun u2 hu2=>?_⟩
    have b2:Blk u2 g3 [.int .i64 F[j].1,.slice B F[j].2.length cB]:=by rw [hu2];exact Blk.setAll (o:=0) [.int .i64 F[j].1,.slice B F[j].2.length cB] 0 f3.blk
    have s2:Ext u u2:=by rw [hu2];exact f3.ext.setAll f3.ge _ _
    have htk:∀ p,G[j]?=some p->G.take (j+1)=G.take j++[p]:=fun p hp=>by rw [List.take_add_one,hp];rfl
    -- what is pushed
    have push:∀ {v:World} {p:Int×Es} {cs:List Value},Ext u v->G[j]?=some p->KTr.rep Ω w p cs->∃ x18 x19 x20 u',RunsTo Tryz.prog (Builtin.append_ #[50,50] 50 #[.slice X j cc,.slice (some ⟨v.heap.size,0,none⟩) 1 1]) (v.alloc (.cells cs.toArray 107)) (.slice x18 x19 x20) u'/\(∃ j':Nat,IntKind.i64.wrap ((j:Int)+1)=(j':Int)/\j'<=F.length/\x19=j'/\Ext w2 u'/\OwnK (Kd.fix Ω w KTr) u' x18 x20 (G.take j')/\∀ k,ownB x18 k->w2.heap.size<=k)/\((F.length:Int)-IntKind.i64.wrap ((j:Int)+1)).toNat<((F.length:Int)-(j:Int)).toNat:=by
      intro v p cs ev hp hr
      have hO':OwnK (Kd.fix Ω w KTr) v X cc (G.take j):=hO.fr ev (fun _ _ h=>h) (fun _ _ _ h=>h)
      obtain ⟨A',c',u',hrun,ho',gr⟩:=hO'.push (K:=Kd.fix Ω w KTr) slT (ty:=50) (a:=p) (cs:=cs) hr (oneTr hr) (e':=107) (by simp [maxLen];omega) (by simp;omega)
      rw [show (G.take j).length=j by simp;omega] at hrun
      have hsz:w2.heap.size<=v.heap.size:=Nat.le_trans eu.size ev.size
      rw [wi _ (by omega) (by omega)]
      refine ⟨_,_,_,u',hrun,⟨j+1,by omega,by omega,by simp;omega,(eu.trans' ev).trans gr.fr (fun _ _ h=>h) (fun k hk ho=>by have:=hX k ho;omega),by rw [htk p hp];exact ho',fun k hk=>?_⟩,by omega⟩
      rcases gr.sub k hk with h|h
      · exact hX k h
      · omega
    refine brd (fun he=>?_) (fun hne=>?_)
    · have hij:i=j:=by omega
      subst hij
      obtain ⟨p1,p2⟩:=setF b2 (o:=1) (by simp) (.slice L es.length lc)
      refine ⟨p1,fun u3 hu3=>?_⟩
      obtain ⟨b3,f4⟩:=p2 u3 hu3
      have s3:Ext u u3:=s2.trans f4 (fun _ _ h=>h) (fun k hk e=>by have:=f3.ge;omega)
      have hri:F[i].1=r:=by rw [hFj] at hi;have:=Option.some.inj hi;exact (Prod.mk.inj this).1
      refine ⟨_,b3.cell rfl,_,_,_,b3.cell rfl,?_⟩
      rintro g4 u4 ⟨rfl,rfl⟩
      exact push s3 (p:=(r,es)) (by rw [<- hG,List.getElem?_set_self hjl]) (by rw [hri];exact repTr hlc hL)
    · have hij:i≠j:=by omega
      refine ⟨_,b2.cell rfl,_,_,_,b2.cell rfl,?_⟩
      rintro g4 u4 ⟨rfl,rfl⟩
      exact push s2 (p:=(F[j].1,F[j].2)) (by rw [<- hG,List.getElem?_set_ne hij];exact hFj) (repTr hcB hB)
  · obtain rfl:j=F.length:=by omega
    rw [<- hGl,List.take_length] at hO
    refine finT (K:=fun v w'=>∃ A' c',v=trV A' c' G last/\TrR Ω w' A' c' G/\Ext w w') ew hbg hbg1 hg1 hgw hg1w fun u' e' f'=>⟨X,cc,by unfold trV;rw [hGl],⟨?_,?_⟩,e'⟩
    · refine unfixI KTr_pos (hO.fr f' (fun k hk hs=>?_) (fun _ _ _ h=>h)) e' fun k hk ho=>by have:=hX k hk;have:=hΩ k ho;have:=e2.size;omega
      have:=hX k hk
      have:=f2.lt
      have:=f1.lt
      have:=f2.ext.size
      rcases hs with rfl|rfl<;>omega
    · obtain ⟨xs,ho,_⟩:=hO;exact ho.le
theorem Create_specR {A:Option Addr} {c:Nat} {F:List (Int×Es)} (h:TrR Ω w A c F) (hΩ:∀ k,Ω k->k<w.heap.size) (hl:F.length<=1000000) (last:Nat) (hla:last<=1000000) :
    CallsV Tryz.prog 21 #[trV A c F last] w fun v w'=>∃ A' c',v=trV A' c' (F++[(((last+1:Nat):Int),[])]) ((last+1:Nat):Int)/\TrR Ω w' A' c' (F++[(((last+1:Nat):Int),[])])/\Ext w w':=by
  refine cardindexref04_Trees_Create.calls okay ?_
  unfold cardindexref04_Trees_Create.W
  intro g w1 f1 g1 w2 f2
  have hg1:g1≠g:=by have:=f2.ge;have:=f1.lt;omega
  have e2:Ext w w2:=f1.ext.trans' f2.ext
  have hgw:w.heap.size<=g:=f1.ge
  have hg1w:w.heap.size<=g1:=Nat.le_trans f1.ext.size f2.ge
  have bg:Blk w2 g [.slice A F.length c,.int .i64 (last:Int)]:=f1.blk.ext f2.ext
  have hF:Imm (Kd.fix Ω w KTr) NoB w2 A F:=(fixI h.1).ext KTr_pos e2
  obtain ⟨A1,c1,w3,hr3,ho3,g3⟩:=appFix (K:=KTr) slT oneTr (ty:=50) (OwnK.nil (Kd.fix Ω w KTr) w2) hF (cb:=c) (fun k hk=>(ownB_none k hk).elim) (by simp [maxLen];omega) (by simp;omega)
  rw [List.nil_append] at hr3 ho3
  have e3:Ext w2 w3:=g3.fr.mono (fun k _ hk=>(ownB_none k hk).elim)
  have hX:∀ k,ownB A1 k->w2.heap.size<=k:=fun k hk=>(g3.sub k hk).resolve_left fun h=>(ownB_none k h).elim
  have bg3:=bg.ext e3
  have bg13:Blk w3 g1 [.slice none 0 0,.int .i64 0]:=f2.blk.ext e3
  obtain ⟨p1,p2⟩:=setF bg3 (o:=1) (by simp) (.int .i64 ((last+1:Nat):Int))
  have hw:IntKind.i64.wrap ((last:Int)+1)=((last+1:Nat):Int):=by rw [wi _ (by omega) (by omega)];omega
  refine ⟨_,_,_,bg.cell rfl,_,_,_,w3,hr3,_,bg3.cell rfl,by rw [hw];exact p1,fun w4 hw4=>?_⟩
  rw [hw] at hw4
  obtain ⟨b4,f4⟩:=p2 w4 hw4
  have hgl:g<w2.heap.size:=bg.lt
  have hg1l:g1<w2.heap.size:=f2.lt
  refine ⟨_,b4.cell rfl,?_⟩
  rintro g5 w5 ⟨rfl,rfl⟩
  have ho4:OwnK (Kd.fix Ω w KTr) w4 A1 c1 F:=ho3.fr f4 (fun k hk e=>by have:=hX k hk;omega) (fun _ _ _ h=>h)
  have hrep:KTr.rep Ω w (((last+1:Nat):Int),[]) [.int .i64 ((last+1:Nat):Int),.slice none 0 0]:=repTr (es:=[]) (Nat.zero_le _) (Imm.nil KEn Ω w none)
  obtain ⟨A6,c6,w6,hr6,ho6,g6⟩:=ho4.push (K:=Kd.fix Ω w KTr) slT (ty:=50) (cs:=[.int .i64 ((last+1:Nat):Int),.slice none 0 0]) hrep (oneTr hrep) (e':=107) (by simp [maxLen];omega) (by omega)
  have hX6:∀ k,ownB A6 k->w2.heap.size<=k:=fun k hk=>by
    rcases g6.sub k hk with h|h
    · exact hX k h
    · have:=f4.size;have:=e3.size;omega
  have off:∀ k,ownB A1 k->k≠g/\k≠g1:=fun k hk=>by have:=hX k hk;omega
  have b6:Blk w6 g [.slice A F.length c,.int .i64 ((last+1:Nat):Int)]:=b4.keep g6.fr fun hk=>(off _ hk).1 rfl
  have b16:Blk w6 g1 [.slice none 0 0,.int .i64 0]:=(bg13.keep f4 hg1).keep g6.fr fun hk=>(off _ hk).2 rfl
  have e4:Ext w w4:=(e2.trans' e3).trans f4 (fun _ _ h=>h) (fun k hk e=>by omega)
  have e6:Ext w w6:=e4.trans g6.fr (fun _ _ h=>h) (fun k hk ho=>by have:=hX k ho;have:=e2.size;omega)
  refine ⟨_,_,_,w6,hr6,?_⟩
  refine finT (K:=fun v w'=>∃ A' c',v=trV A' c' (F++[(((last+1:Nat):Int),[])]) ((last+1:Nat):Int)/\TrR Ω w' A' c' (F++[(((last+1:Nat):Int),[])])/\Ext w w') e6 b6 b16 hg1 hgw hg1w fun u' e' f'=>⟨A6,c6,rfl,⟨?_,?_⟩,e'⟩
  · refine unfixI KTr_pos (ho6.fr f' (fun k hk hs=>?_) (fun _ _ _ h=>h)) e' fun k hk ho=>by have:=hX6 k hk;have:=hΩ k ho;have:=e2.size;omega
    have:=hX6 k hk
    rcases hs with rfl|rfl<;>omega
  · obtain ⟨xs,ho,_⟩:=ho6;exact ho.le
theorem Drop_specR {A:Option Addr} {c:Nat} {F:List (Int×Es)} (h:TrR Ω w A c F) (hΩ:∀ k,Ω k->k<w.heap.size) (hl:F.length<=1000000) {F1 F2:List (Int×Es)} {p0:Int×Es} (hF:F=F1++p0::F2) (last:Int) :
    CallsV Tryz.prog 35 #[trV A c F last,iv F1.length] w fun v w'=>∃ A' c',v=trV A' c' (F1++F2) last/\TrR Ω w' A' c' (F1++F2)/\Ext w w':=by
  refine cardindexref04_Trees_Drop.calls okay ?_
  unfold cardindexref04_Trees_Drop.W
  intro g w1 f1 g1 w2 f2
  have hg1:g1≠g:=by have:=f2.ge;have:=f1.lt;omega
  have e2:Ext w w2:=f1.ext.trans' f2.ext
  have hgw:w.heap.size<=g:=f1.ge
  have hg1w:w.heap.size<=g1:=Nat.le_trans f1.ext.size f2.ge
  generalize hi:F1.length=i at *
  have hle:∀ j,(if j<=i then F.take j else F1++F2.take (j-i-1)).length<=j:=fun j=>by
    split
    · rw [List.length_take];omega
    · rw [List.length_append,List.length_take];omega
  refine ⟨fun X n cc x u=>∃ j:Nat,x=(j:Int)/\j<=F.length/\n=(if j<=i then F.take j else F1++F2.take (j-i-1)).length/\Ext w2 u/\OwnK (Kd.fix Ω w KTr) u X cc (if j<=i then F.take j else F1++F2.take (j-i-1))/\∀ k,ownB X k->w2.heap.size<=k,fun _ _ _ x _=>(F.length-x).toNat,⟨0,rfl,Nat.zero_le _,by simp,.refl _ _,by rw [if_pos (Nat.zero_le _),List.take_zero];exact OwnK.nil _ _,fun k hk=>(ownB_none k hk).elim⟩,?_⟩
  rintro X n cc _ u ⟨j,rfl,hj,rfl,eu,hO,hX⟩
  have ew:Ext w u:=e2.trans' eu
  have hbg:Blk u g [.slice A F.length c,.int .i64 last]:=(f1.blk.ext f2.ext).ext eu
  have hbg1:Blk u g1 [.slice none 0 0,.int .i64 0]:=f2.blk.ext eu
  have hll:=hle j
  refine ⟨_,_,_,hbg.cell rfl,brd (fun hlt=>?_) (fun hge=>?_)⟩
  · have hjl:j<F.length:=by omega
    have hFj:F[j]?=some (F[j].1,F[j].2):=List.getElem?_eq_getElem hjl
    rw [wi _ (by omega) (by omega)]
    refine brn (fun hne=>?_) (fun he=>?_)
    · have hji:j≠i:=by omega
      obtain ⟨ad,B,cB,hA,c0,c1,hcB,hB⟩:=trCell h.1 hFj
      refine ⟨_,_,_,hbg.cell rfl,ad,hA,⟨by omega,by omega⟩,_,by rw [Int.toNat_natCast];exact Ext.cell ew c0,_,_,_,by rw [Int.toNat_natCast];exact Ext.cell ew c1,?_⟩
      rintro g4 u4 ⟨rfl,rfl⟩
      have hrep:KTr.rep Ω w (F[j].1,F[j].2) [.int .i64 F[j].1,.slice B F[j].2.length cB]:=repTr hcB hB
      obtain ⟨A',c',u',hrun,ho',gr⟩:=hO.push (K:=Kd.fix Ω w KTr) slT (ty:=50) (cs:=[.int .i64 F[j].1,.slice B F[j].2.length cB]) hrep (oneTr hrep) (e':=107) (by simp only [maxLen];omega) (by omega)
      have hnew:(if j+1<=i then F.take (j+1) else F1++F2.take (j+1-i-1))=(if j<=i then F.take j else F1++F2.take (j-i-1))++[(F[j].1,F[j].2)]:=by
        by_cases h1:j<i
        · rw [if_pos (by omega),if_pos (by omega),List.take_add_one,hFj];rfl
        · rw [if_neg (by omega),if_neg (by omega),List.append_assoc]
          have hF2:F2[j-i-1]?=some (F[j].1,F[j].2):=by
            rw [<- hFj,hF,List.getElem?_append_right (by omega),hi,List.getElem?_cons,if_neg (by omega)]
          rw [show j+1-i-1=(j-i-1)+1 by omega,List.take_add_one,hF2];rfl
      refine ⟨_,_,_,u',hrun,⟨j+1,by omega,by omega,by rw [hnew],eu.trans gr.fr (fun _ _ h=>h) (fun k hk ho=>by have:=hX k ho;omega),by rw [hnew];exact ho',fun k hk=>?_⟩,by dsimp only;omega⟩
      rcases gr.sub k hk with h|h
      · exact hX k h
      · exact Nat.le_trans eu.size h
    · have hji:j=i:=by omega
      subst hji
      have hnew:(if j+1<=j then F.take (j+1) else F1++F2.take (j+1-j-1))=(if j<=j then F.take j else F1++F2.take (j-j-1)):=by
        rw [if_neg (by omega),if_pos (Nat.le_refl _),show j+1-j-1=0 by omega,List.take_zero,List.append_nil,hF,<- hi,List.take_left']
        rfl
      exact ⟨⟨j+1,by omega,by omega,by rw [hnew],eu,by rw [hnew];exact hO,hX⟩,by dsimp only;omega⟩
  · obtain rfl:j=F.length:=by omega
    have hlen:F.length=i+1+F2.length:=by rw [hF,List.length_append,List.length_cons,hi];omega
    have hfin:(if F.length<=i then F.take F.length else F1++F2.take (F.length-i-1))=F1++F2:=by
      rw [if_neg (by omega),show F.length-i-1=F2.length by omega,List.take_length]
    rw [hfin] at hO ⊢
    refine finT (K:=fun v w'=>∃ A' c',v=trV A' c' (F1++F2) last/\TrR Ω w' A' c' (F1++F2)/\Ext w w') ew hbg hbg1 hg1 hgw hg1w fun u' e' f'=>⟨X,cc,rfl,⟨?_,?_⟩,e'⟩
    · refine unfixI KTr_pos (hO.fr f' (fun k hk hs=>?_) (fun _ _ _ h=>h)) e' fun k hk ho=>by have:=hX k hk;have:=hΩ k ho;have:=e2.size;omega
      have:=hX k hk
      have:=f2.lt
      have:=f1.lt
      have:=f2.ext.size
      rcases hs with rfl|rfl<;>omega
    · obtain ⟨xs,ho,_⟩:=hO;exact ho.le
end
end Go.Proofs.YthfagbfllheneaaGreat
