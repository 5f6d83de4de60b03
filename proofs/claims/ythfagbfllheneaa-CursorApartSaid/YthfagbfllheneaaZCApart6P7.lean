/- Part 7 of the texts of this claim: the engine, contracts, plain laws. -/
import Derived.Test.YthfagbfllheneaaZCApart6P2
import Derived.OrdersIn
import Derived.TacticsIn
import Derived.RangeFuncCalls
import Derived.RangeFuncNested
import Derived.RangeFuncLeaves
import Derived.Test.YthfagbfllheneaaZCApart6P6
import Derived.RangeFuncBound
import Derived.Shelf.Abstract
import Derived.Shelf.RegionOpen
import Derived.WalkKit
import Derived.OwnWalkIn
import Derived.TacticsInMore
import Derived.LoopNIn
import Derived.LoopIn
import Derived.Test.YthfagbfllheneaaProg
import Derived.Shelf.SlMaps.Clone
set_option linter.unusedVariables false
set_option linter.unusedSimpArgs false
namespace Go.Sx
variable {P : Program}
theorem rows_in {l m : Nat} {row : String} {args : Array Value} {w : World} {R : Value → World → Prop} (h : Rows P row args w R) : RowsIn (Fence.wide.inRound l) m P row args w R := fun c cs _ => by
  obtain ⟨v, w', r, s⟩ := h c cs
  refine ⟨v, w', r, ?_⟩
  have := (comesIn_wide (P := P) (e := .returned v)).2 s
  exact this
theorem upon_in {l m : Nat} {o : Oper} {a : Act} {Q : Exit → Act → World → Prop} {next next' : Act → World → Prop} (hn : ∀ a w, next a w → next' a w) : ∀ {r : Result Next}, o.upon P a next Q r → o.uponIn (Fence.wide.inRound l) m P a next' Q r := by
  intro r h
  cases r with
  | ok x w' =>
    cases x with
    | value v => exact hn _ _ h
    | skip => exact hn _ _ h
    | defer d => exact hn _ _ h
    | enter f args =>
      refine ⟨fun h => by simp [Fence.wide] at h, CallsIn.inRound l ((callsIn_wide.2 h).mono fun e w'' he => ?_)⟩
      cases e with
      | returned v => exact hn _ _ he
      | panicked c => exact he
      | outgrown => exact he
    | row row args => exact ⟨fun h => by simp [Fence.wide] at h, RowsIn.mono (rows_in h) fun v w'' he => hn _ _ he⟩
    | _ => exact h.elim
  | halt x w' =>
    cases x with
    | panic v => exact h
    | _ => exact h.elim
def isDef : Op → Bool
  | .defer _ => true
  | _ => false
def noDef (l : List Oper) : Bool := l.all fun o => !isDef o.op
theorem noDef_mem {l : List Oper} (h : noDef l = true) : ∀ o ∈ l, ∀ c, o.op ≠ .defer c := by
  intro o ho c e
  have := List.all_eq_true.1 h o ho
  rw [e] at this
  cases this
theorem op_in {l m : Nat} {o : Oper} (hd : ∀ c, o.op ≠ .defer c) {a : Act} {w : World} {Q : Exit → Act → World → Prop} {next next' : Act → World → Prop} (hn : ∀ a w, next a w → next' a w) (h : o.wp P a w next Q) : o.wpIn (Fence.wide.inRound l) m P a w next' Q :=
  ⟨fun _ _ => trivial, by rw [Fence.inRound_round, Oper.semAt_some l _ o hd]; exact upon_in hn h⟩
theorem list_in {l m : Nat} {ops : Array Oper} {Q : Exit → Act → World → Prop} (hQ : ¬ LetsOut Q) : ∀ (rest : List Oper) (a : Act) (w : World), (∀ o ∈ rest, ∀ c, o.op ≠ .defer c) → wpList P ops Q rest a w → wpListIn (Fence.wide.inRound l) m P ops Q rest a w
  | [], a, w, _, h => h
  | o :: rest, a, w, hd, h => by
    unfold wpListIn
    unfold wpList at h
    split
    · rename_i hw
      rw [if_pos hw] at h
      exact op_in (hd o (by simp)) (fun a w h => list_in hQ rest a w (fun o ho => hd o (by simp [ho])) h) (h.resolve_right fun h => hQ h.2)
    · rename_i hw
      rw [if_neg hw] at h
      exact ⟨fun _ _ => trivial, list_in hQ rest _ _ (fun o ho => hd o (by simp [ho])) h⟩
theorem any_in {l m : Nat} {md : Region.Mode} {ops : Array Oper} {Q : Exit → Act → World → Prop} (hQ : ¬ LetsOut Q) (hd : ∀ o ∈ ops.toList, ∀ c, o.op ≠ .defer c) : ∀ (fuel : Nat) (listed : Array Bool) (a : Act) (w : World), wpAny P md ops Q fuel listed a w → wpAnyIn (Fence.wide.inRound l) m P md ops Q fuel listed a w
  | 0, _, _, _, h => h
  | fuel + 1, listed, a, w, h => by
    refine ⟨h.1, fun i hi => ?_⟩
    have h2 := h.2 i hi
    unfold wpOpIn
    unfold wpOp at h2
    split
    · rename_i ho; rw [ho] at h2; exact any_in hQ hd fuel _ _ _ h2
    · rename_i o ho
      rw [ho] at h2
      dsimp only at h2
      have hm : o ∈ ops.toList := List.mem_of_getElem? (i := i) (by rw [Array.getElem?_toList]; exact ho)
      split
      · rename_i hw
        rw [if_pos hw] at h2
        exact op_in (hd o hm) (fun a w h => any_in hQ hd fuel _ a w h) (h2.resolve_right fun h => hQ h.2)
      · rename_i hw
        rw [if_neg hw] at h2
        exact ⟨fun _ _ => trivial, any_in hQ hd fuel _ _ _ h2⟩
theorem letsOut_QW (n : Nat) (L : List Nat) (a₀ : Act) (K : Exit → Env → World → Prop) : ¬ LetsOut (QW n L a₀ K) := fun ⟨_, _, h⟩ => h.elim
theorem region_in {l m : Nat} (ok : Okay P) {n : Nat} {a₀ : Act} (id : Nat) (ops : List Oper) (draw : Bool) (hd : noDef ops = true) (L : List Nat) (K : Exit → Env → World → Prop) (ρ : Env) (a : Act) (w : World)
    (hL : ∀ t, t ∈ opsDst ops → t ∈ L) (hs : SameBut L a₀ a) (ha : Agrees n ρ a) (h : bif draw then (cond (noSel ops) (drT false .named P n ops (lightOf P ops ops) (K .normal) ops (falses ops) none [] ρ w.drew) False) else regW .named P n ops 0 ops (K .normal) ρ w) :
    (Code.region id ops.toArray draw).wpIn (Fence.wide.inRound l) m P (QW n L a₀ K) a w := by
  cases draw with
  | false =>
    have := regW_sound ok (L := L) hL (a₀ := a₀) (K := K) ops 0 ρ a w (fun _ h => h) hs ha h
    exact wpIn_region_lit (list_in (letsOut_QW _ _ _ _) _ _ _ (noDef_mem hd) this)
  | true =>
    cases hsel : noSel ops with
    | false => rw [hsel] at h; exact h.elim
    | true =>
      rw [hsel] at h
      have hf : ∀ l : List Oper, (falses l).length = l.length := fun l => by induction l with | nil => rfl | cons _ _ ih => simp [falses, ih]
      have hfa : ∀ l : List Oper, (falses l).toArray = Array.replicate l.length false := fun l => by
        have : falses l = List.replicate l.length false := by induction l with | nil => rfl | cons _ _ ih => simp [falses, ih, List.replicate_succ]
        rw [this]; simp
      have := drT_sound ok (noSel_eq hsel) (L := L) hL (a₀ := a₀) (K := K) ops _ none [] ρ a _ (hf _) hs ha (fun _ h => by cases h) h
      rw [hfa] at this
      exact wpIn_region_any ok.mixed (any_in (letsOut_QW _ _ _ _) (by simpa using noDef_mem hd) _ _ _ _ (by simpa using wpAny_of_T _ _ _ _ _ this))
/-! ## what is deferred is of no concern to a region that defers nothing -/
theorem put_nil {a : Act} {d : Option Nat} {v : Value} (h : (a.put d v).defers = []) : a.defers = [] := by cases d <;> exact h
theorem upon_nil {o : Oper} {a : Act} {Q : Exit → Act → World → Prop} {next : Act → World → Prop} (hn : ∀ a w, next a w → a.defers = []) (hQ : ¬ LetsOut Q) (hP : ∀ c a w, ¬ Q (.panic c) a w) : ∀ {r : Result Next}, o.upon P a next Q r → a.defers = [] := by
  intro r h
  cases r with
  | ok x w' =>
    cases x with
    | value v => exact put_nil (hn _ _ h)
    | skip => exact put_nil (hn _ _ h)
    | defer d => have h1 : ({ a with defers := d :: a.defers } : Act).defers = [] := put_nil (hn _ _ h); cases h1
    | enter f args =>
      obtain ⟨e, w'', fr, hr, _⟩ := h []
      cases e with
      | returned v => exact put_nil (hn _ _ hr)
      | panicked c => exact absurd hr (hP _ _ _)
      | outgrown => exact absurd hr hQ
    | row row args =>
      obtain ⟨v, w'', hr, _⟩ := h default []
      exact put_nil (hn _ _ hr)
    | _ => exact h.elim
  | halt x w' =>
    cases x with
    | panic v => exact absurd h (hP _ _ _)
    | _ => exact h.elim
theorem upon_D {ds : List Deferred} {o : Oper} {a : Act} {Q Q' : Exit → Act → World → Prop} {next next' : Act → World → Prop} (hnil : ∀ a w, next a w → a.defers = []) (hQ : ¬ LetsOut Q) (hP : ∀ c a w, ¬ Q (.panic c) a w) (hn : ∀ a w, next a w → next' { a with defers := ds } w) {w : World} (h : o.wp P a w next Q) : o.wp P { a with defers := ds } w next' Q' := by
  unfold Oper.wp at *
  have he : ({ a with defers := ds } : Act).eval = a.eval := rfl
  rw [he]
  have hput : ∀ v, ({ a with defers := ds } : Act).put o.dst v = { a.put o.dst v with defers := ds } := fun v => by cases o.dst <;> rfl
  generalize (execOp a.eval o).run P w = r at *
  cases r with
  | ok x w' =>
    cases x with
    | value v => show next' _ _; rw [hput]; exact hn _ _ h
    | skip => show next' _ _; rw [hput]; exact hn _ _ h
    | defer d => have h1 : ({ a with defers := d :: a.defers } : Act).defers = [] := put_nil (hnil _ _ h); cases h1
    | enter f args =>
      refine Calls.mono h fun e w'' he => ?_
      cases e with
      | returned v => show next' _ _; rw [hput]; exact hn _ _ he
      | panicked c => exact absurd he (hP _ _ _)
      | outgrown => exact absurd he hQ
    | row row args => exact Rows.mono h fun v w'' he => by show next' _ _; rw [hput]; exact hn _ _ he
    | _ => exact h.elim
  | halt x w' =>
    cases x with
    | panic v => exact absurd h (hP _ _ _)
    | _ => exact h.elim
theorem any_nil {n : Nat} {L : List Nat} {a₀ : Act} {K : Exit → Env → World → Prop} {md : Region.Mode} {ops : Array Oper} : ∀ (fuel : Nat) (listed : Array Bool) (a : Act) (w : World), wpAny P md ops (QW n L a₀ K) fuel listed a w → a.defers = []
  | 0, _, _, _, h => by obtain ⟨_, _, ρ, ha, _⟩ := h; exact ha.defers
  | fuel + 1, listed, a, w, h => by
    cases hr : Region.ready md ops listed with
    | nil => obtain ⟨_, ρ, ha, _⟩ := h.1 hr; exact ha.defers
    | cons i l =>
      have h2 := h.2 i (by rw [hr]; simp)
      unfold wpOp at h2
      split at h2
      · exact any_nil fuel _ _ _ h2
      · split at h2
        · rcases h2 with h2 | h2
          · exact upon_nil (fun a w h => any_nil fuel _ a w h) (letsOut_QW _ _ _ _) (fun _ _ _ h => h) h2
          · exact absurd h2.2 (letsOut_QW _ _ _ _)
        · exact put_nil (any_nil fuel _ _ _ h2)
theorem any_D {n : Nat} {L : List Nat} {a₀ : Act} {K : Exit → Env → World → Prop} {md : Region.Mode} {ops : Array Oper} {ds : List Deferred} : ∀ (fuel : Nat) (listed : Array Bool) (a : Act) (w : World), wpAny P md ops (QW n L a₀ K) fuel listed a w →
    wpAny P md ops (fun e a' w' => ∃ a1 : Act, a' = { a1 with defers := ds } ∧ QW n L a₀ K e a1 w') fuel listed { a with defers := ds } w
  | 0, _, a, _, h => ⟨h.1, a, rfl, h.2⟩
  | fuel + 1, listed, a, w, h => by
    refine ⟨fun hr => ⟨a, rfl, h.1 hr⟩, fun i hi => ?_⟩
    have h2 := h.2 i hi
    unfold wpOp at h2 ⊢
    split
    · rename_i ho; rw [ho] at h2; exact any_D fuel _ _ _ h2
    · rename_i o ho
      rw [ho] at h2
      dsimp only at h2 ⊢
      split
      · rename_i hw
        rw [if_pos hw] at h2
        exact .inl (upon_D (fun a w h => any_nil fuel _ a w h) (letsOut_QW _ _ _ _) (fun _ _ _ h => h) (fun a w h => any_D fuel _ a w h) (h2.resolve_right fun h => letsOut_QW _ _ _ _ h.2))
      · rename_i hw
        rw [if_neg hw] at h2
        have hput : ({ a with defers := ds } : Act).put o.dst undef = { a.put o.dst undef with defers := ds } := by cases o.dst <;> rfl
        rw [hput]
        exact any_D fuel _ _ _ h2
theorem region_D (ok : Okay P) {n : Nat} (id : Nat) (ops : List Oper) (ds : List Deferred) (K : Exit → Env → World → Prop) (ρ : Env) (a : Act) (w : World)
    (ha : Agrees n ρ a) (hsel : noSel ops = true) (h : drT false .named P n ops (lightOf P ops ops) (K .normal) ops (falses ops) none [] ρ w.drew) :
    (Code.region id ops.toArray true).wpIn Fence.wide 0 P (fun e a' w' => ∃ a1 : Act, a' = { a1 with defers := ds } ∧ QW n (opsDst ops) a K e a1 w') { a with defers := ds } w := by
  have hf : ∀ l : List Oper, (falses l).length = l.length := fun l => by induction l with | nil => rfl | cons _ _ ih => simp [falses, ih]
  have hfa : ∀ l : List Oper, (falses l).toArray = Array.replicate l.length false := fun l => by
    have : falses l = List.replicate l.length false := by induction l with | nil => rfl | cons _ _ ih => simp [falses, ih, List.replicate_succ]
    rw [this]; simp
  have := drT_sound ok (noSel_eq hsel) (L := opsDst ops) (fun _ h => h) (a₀ := a) (K := K) ops _ none [] ρ a _ (hf _) (.refl _ _) ha (fun _ h => by cases h) h
  rw [hfa] at this
  refine wpIn_wide.2 (wp_region_any ok.mixed ?_)
  have h2 := any_D (ds := ds) _ _ _ _ (wpAny_of_T _ _ _ _ _ this)
  simpa using h2
end Go.Sx
set_option linter.unusedVariables false
set_option linter.unusedSimpArgs false
namespace Go.Sx
variable {P : Program}
theorem exists_least {p : Nat → Prop} (h : ∃ n, p n) : ∃ n, p n ∧ ∀ m, p m → n ≤ m := by
  obtain ⟨n, hn⟩ := h
  induction n using Nat.strongRecOn with
  | ind n ih =>
    by_cases h : ∃ m, m < n ∧ p m
    · obtain ⟨m, h1, h2⟩ := h; exact ih m h1 h2
    · exact ⟨n, hn, fun m hm => Nat.le_of_not_lt fun hlt => h ⟨m, hlt, hm⟩⟩
open Classical in
noncomputable def leastN (p : Nat → Prop) : Nat := if h : ∃ n, p n then Classical.choose (exists_least h) else 0
theorem leastN_spec {p : Nat → Prop} (h : ∃ n, p n) : p (leastN p) ∧ ∀ m, p m → leastN p ≤ m := by
  unfold leastN
  rw [dif_pos h]
  exact Classical.choose_spec (exists_least h)
theorem Fr.putObj {S : Nat → Prop} (w : World) (l : Nat) (o : Obj) (hl : S l) : Fr S w (w.putObj l o) :=
  ⟨rfl, rfl, rfl, by simp, fun k _ hk => World.putObj_heap_other (fun e => hk (e ▸ hl))⟩
theorem range_all {α : Type} {enc : α → Value} {xs : List α} {g : Operand} {ps : Array Tmp} {assign body : Code} {Q : Exit → Act → World → Prop} {a : Act} {w : World} {gf : Nat} {lb : Array Value} (hg : a.eval g = .func (.func gf) #[] lb) (eg : ∀ args w, (callFunc gf args).run P w = .ok (.enter gf args) w)
    (Sb : Nat → Prop) (hSb : ∀ k, Sb k → k < w.heap.size)
    (hit : ∀ (l : Nat) (T : Nat → Prop) (J : List α → World → Prop) (W : World), Ext w W → (∀ k, T k → (Sb k ∨ w.heap.size ≤ k) ∧ k < W.heap.size) → (∀ pre U U', J pre U → Fr (fun k => W.heap.size ≤ k) U U' → J pre U') →
      (∀ pre x rest U, xs = pre ++ x :: rest → J pre U → YieldAt Fence.wide 0 P l #[enc x] U fun e U' => e = .returned (.bool true) ∧ J (pre ++ [x]) U' ∧ Fr T U U') → J [] W →
      CallsIn Fence.wide 0 P gf (#[.func (.yield l) #[] #[]] ++ lb) W fun e U => (∃ v, e = .returned v) ∧ J xs U)
    (hps : ps.size = 1) (I : List α → World → Prop) (hI : ∀ pre U U', I pre U → Fr (fun k => w.heap.size ≤ k) U U' → I pre U') (h0 : I [] w) (a₁ : α → Act)
    (hassign : ∀ (l : Nat) (x : α) (W : World) (K : Act → World → Prop), K (a₁ x) W → assign.wpIn (Fence.wide.inRound l) 0 P (Exit.then K (fun _ _ _ => False)) { tmps := (ps.zip #[enc x]).foldl (fun t (p, v) => t.setIfInBounds p v) a.tmps, defers := [] } W)
    (hbody : ∀ (l : Nat) (pre : List α) (x : α) (rest : List α) (U : World), xs = pre ++ x :: rest → I pre U → w.heap.size ≤ U.heap.size → body.wpIn (Fence.wide.inRound l) 0 P (fun e _ U' => e = .normal ∧ Fr Sb U U' ∧ I (pre ++ [x]) U') (a₁ x) U)
    (hdone : ∀ (D : Nat) (W : World), w.heap.size ≤ D → I xs W → W.heap[D]? = some (.deferred (some [])) → w.heap.size ≤ W.heap.size → Q .normal { a with defers := { target := .collected D, args := #[] } :: a.defers } W) :
    (Code.rangeFunc g ps assign body).wpIn Fence.wide 0 P Q a w := by
  refine wpIn_rangeFunc ?_
  intro fn hfn
  rw [show Fence.wide.round = none from rfl]
  obtain ⟨rec, hrec⟩ : ∃ rec : LoopState → Option Code → Loop, rec = fun st pe => { state := st, pending := pe, fn, tmps := a.tmps, params := ps, assign, body, defers := w.heap.size } := ⟨_, rfl⟩
  obtain ⟨W1, hW1⟩ : ∃ W1, (w.alloc (.deferred (some []))).alloc (.loop (rec .ready none)) = W1 := ⟨_, rfl⟩
  have hL1 : W1.heap[w.heap.size + 1]? = some (.loop (rec .ready none)) := by
    rw [← hW1]; have := World.alloc_heap_new (w.alloc (.deferred (some []))) (.loop (rec .ready none)); rwa [World.size_alloc] at this
  have hK1 : W1.heap[w.heap.size]? = some (.deferred (some [])) := by
    rw [← hW1]; exact (RowKit.Below.heap_alloc _ _ _ (by simp)).trans (World.alloc_heap_new w _)
  have e1 : Ext w W1 := by rw [← hW1]; exact (Fr.alloc NoB w _).ext (Fr.alloc NoB _ _)
  have hs1 : W1.heap.size = w.heap.size + 2 := by rw [← hW1]; simp
  have hI1 : I [] W1 := hI _ _ _ h0 (e1.fr)
  refine ⟨w.heap.size + 1, [{ target := .collected w.heap.size, args := #[] }], W1, { target := .fn (.func gf) lb, args := #[.func (.yield (w.heap.size + 1)) #[] #[]] }, W1, gf,
    #[.func (.yield (w.heap.size + 1)) #[] #[]] ++ lb, W1, ?_, ?_, ?_, ?_, fun h => by simp [Fence.wide] at h, ?_⟩
  · rw [← hW1, hrec]; exact run_enterLoop_outer _ _ _ _ _
  · simp only [resolve, hg]
    simp [go_sem]
  · intro f' hf'; trivial
  · simp [invoke, go_sem, eg]
  · refine (hit (w.heap.size + 1) (fun k => Sb k ∨ k = w.heap.size + 1)
      (fun pre W => I pre W ∧ W.heap[w.heap.size + 1]? = some (.loop (rec .ready none)) ∧ W.heap[w.heap.size]? = some (.deferred (some [])) ∧ w.heap.size ≤ W.heap.size)
      W1 e1 (fun k hk => ?_) (fun pre U U' hJ hf => ?_) ?_ ⟨hI1, hL1, hK1, by omega⟩).mono ?_
    · rcases hk with hk | rfl
      · exact ⟨.inl hk, by have := hSb k hk; omega⟩
      · exact ⟨.inr (by omega), by omega⟩
    · obtain ⟨h1, h2, h3, h4⟩ := hJ
      refine ⟨hI _ _ _ h1 (hf.mono fun k _ hk => by have : W1.heap.size ≤ k := hk; show w.heap.size ≤ k; omega), (hf.block _ (Array.getElem?_eq_some_iff.1 h2).1 (by show ¬ W1.heap.size ≤ _; omega)).trans h2, (hf.block _ (Array.getElem?_eq_some_iff.1 h3).1 (by show ¬ W1.heap.size ≤ _; omega)).trans h3, Nat.le_trans h4 hf.size⟩
    · rintro pre x rest W hxs ⟨hi, hl, hk, hsz⟩
      have hlt : w.heap.size + 1 < W.heap.size := (Array.getElem?_eq_some_iff.1 hl).1
      have hy := run_yield (P := P) (args := #[enc x]) hl (by rw [hrec]; simp [hps])
      rw [hrec] at hy
      refine ⟨fn, _, assign, body, hy, roundIn_of_wpIn hfn (hassign _ x W _ ⟨_, run_beginRound hl (by rw [hrec]), ?_⟩)⟩
      generalize hW2 : W.putObj (w.heap.size + 1) (.loop { rec .ready none with state := .busy }) = W2
      have hl2 : W2.heap[w.heap.size + 1]? = some (.loop { rec .ready none with state := .busy }) := by rw [← hW2]; exact World.putObj_heap_same hlt
      have hk2 : W2.heap[w.heap.size]? = some (.deferred (some [])) := by rw [← hW2]; exact (World.putObj_heap_other (by omega)).trans hk
      have f2 : Fr (fun k => k = w.heap.size + 1) W W2 := by rw [← hW2]; exact Fr.putObj W _ _ rfl
      have hI2 : I pre W2 := hI _ _ _ hi (f2.mono fun k _ hk => by have : k = w.heap.size + 1 := hk; show w.heap.size ≤ k; omega)
      refine wpIn_mono (hbody _ pre x rest _ hxs hI2 (Nat.le_trans hsz f2.size)) ?_
      rintro e a3 W3 ⟨rfl, f3, hi3⟩
      have hl3 : W3.heap[w.heap.size + 1]? = some (.loop { rec .ready none with state := .busy }) := (f3.block _ (Array.getElem?_eq_some_iff.1 hl2).1 (fun h => by have := hSb _ h; omega)).trans hl2
      have hk3 : W3.heap[w.heap.size]? = some (.deferred (some [])) := (f3.block _ (Array.getElem?_eq_some_iff.1 hk2).1 (fun h => by have := hSb _ h; omega)).trans hk2
      have hr := run_endRound (P := P) none hl3
      rw [hrec] at hr
      refine ⟨_, _, hr, rfl, ⟨?_, ?_, ?_, ?_⟩, ?_⟩
      · exact hI _ _ _ hi3 ((Fr.putObj W3 _ _ (by show w.heap.size ≤ w.heap.size + 1; omega)))
      · rw [hrec]; exact World.putObj_heap_same (Array.getElem?_eq_some_iff.1 hl3).1
      · exact (World.putObj_heap_other (by omega)).trans hk3
      · have := f3.size; have := f2.size; simp; omega
      · exact (f2.trans f3 (S'' := fun k => Sb k ∨ k = w.heap.size + 1) (fun k _ hk => .inr hk) (fun k _ hk => .inl hk)).trans (Fr.putObj (S := fun k => Sb k ∨ k = w.heap.size + 1) W3 _ _ (.inr rfl)) (fun _ _ h => h) (fun _ _ h => h)
    · rintro e W2 ⟨⟨v, rfl⟩, hi, hl, hk, hsz⟩
      refine ⟨none, _, by have := run_endLoop (P := P) hl (by rw [hrec]; simp); rw [hrec] at this; exact this, hdone _ _ (Nat.le_refl _) (hI _ _ _ hi (Fr.putObj W2 _ _ (by show w.heap.size ≤ w.heap.size + 1; omega))) ((World.putObj_heap_other (by omega)).trans hk) (by simp; omega)⟩
end Go.Sx
set_option linter.unusedVariables false
set_option linter.unusedSimpArgs false
namespace Go.Proofs.Ythfagbfllheneaa
open Go Go.Sx T4
open Go.RowKit Go.Shelf
attribute [local go_sem] Oper.semAt_some
theorem all_spec {w : World} (g i : Nat) : CallsV Try.prog 116 #[.pointer (some ⟨g, 0, none⟩), iv i] w fun r w' => ∃ b1 b2, r = .func (.func 133) #[] #[.pointer (some ⟨b1, 0, none⟩), .pointer (some ⟨b2, 0, none⟩)] ∧ Blk w' b1 [iv i] ∧ Blk w' b2 [.pointer (some ⟨g, 0, none⟩)] ∧ Ext w w' ∧ w.heap.size ≤ b1 ∧ w.heap.size ≤ b2 ∧ b1 ≠ b2 := by
  refine tree_Arena_all.calls okay ?_
  unfold tree_Arena_all.W
  intro b2 w1 f1 b1 w2 f2
  exact ⟨b1, b2, rfl, f2.blk, f1.blk.ext f2.ext, f1.ext.trans' f2.ext, Nat.le_trans f1.ext.size f2.ge, f1.ge, fun e => by have := f2.ge; have := f1.lt; omega⟩
theorem piece (c : Code) {n : Nat} {K : Exit → Env → World → Prop} {ρ : Env} {a : Act} {w : World} {Q : Exit → Act → World → Prop} (h : cW .named Try.prog n .auto c K ρ w) (ha : Agrees n ρ a)
    (hk : ∀ e a' w', SameBut (wr c) a a' → (∃ ρ', Agrees n ρ' a' ∧ K e ρ' w') → (∀ ch, e ≠ .panic ch) → e ≠ .outgrown → Q e a' w') : c.wpIn Fence.wide 0 Try.prog Q a w := by
  refine wpIn_wide.2 (Code.wp_mono ?_ (cW_sound okay (a₀ := a) c .auto (wr c) K ρ a w (fun _ h => h) (.refl _ _) ha h))
  intro e a' w' hq
  cases e with
  | panic ch => exact hq.elim
  | outgrown => exact hq.elim
  | normal => exact hk _ _ _ hq.1 hq.2 (fun _ h => by cases h) (fun h => by cases h)
  | ret => exact hk _ _ _ hq.1 hq.2 (fun _ h => by cases h) (fun h => by cases h)
  | exit id => exact hk _ _ _ hq.1 hq.2 (fun _ h => by cases h) (fun h => by cases h)
  | goto l => exact hk _ _ _ hq.1 hq.2 (fun _ h => by cases h) (fun h => by cases h)
def restOf (A : Ar) (st : List (Nat × Nat)) : List Nat := st.reverse.flatMap fun p => allF p.1 A p.2
theorem restOf_pop (A : Ar) (st : List (Nat × Nat)) (p : Nat × Nat) : restOf A (st ++ [p]) = allF p.1 A p.2 ++ restOf A st := by simp [restOf]
theorem restOf_push (A : Ar) (st : List (Nat × Nat)) (k : Nat) (l : List Nat) : restOf A (st ++ l.map fun j => (k, j)) = l.reverse.flatMap (allF k A) ++ restOf A st := by
  unfold restOf
  rw [List.reverse_append, List.flatMap_append]
  congr 1
  rw [← List.map_reverse]
  induction l.reverse with
  | nil => rfl
  | cons x l ih => simp [ih]
theorem allF_pos (A : Ar) (h i : Nat) : 1 ≤ (allF h A i).length := by cases h <;> simp [allF]
theorem restOf_len (A : Ar) (st : List (Nat × Nat)) : st.length ≤ (restOf A st).length := by
  unfold restOf
  rw [← List.length_reverse]
  induction st.reverse with
  | nil => simp
  | cons p l ih => have := allF_pos A p.1 p.2; rw [List.flatMap_cons, List.length_append, List.length_cons]; omega
def isTree (A : Ar) (p : Nat × Nat) : Prop := ∃ mn lo hi es ps, Tree A.nd A.fan p.1 mn p.2 lo hi es ps
theorem isTree.step {A : Ar} {p : Nat × Nat} (h : isTree A p) : ∃ n k, A.nd p.2 = some n ∧ nodeAt A p.2 = n ∧ p.1 = k + 1 ∧ allF p.1 A p.2 = p.2 :: n.kids.reverse.flatMap (allF k A) ∧ ∀ j ∈ n.kids, isTree A (k, j) := by
  obtain ⟨mn, lo, hi, es, ps, h⟩ := h
  obtain ⟨n, hn, _, hc⟩ := tree_node h
  have hna : nodeAt A p.2 = n := by simp [nodeAt, hn]
  obtain ⟨P1, P2⟩ := p
  dsimp only at *
  rcases hc with ⟨rfl, hk, _⟩ | ⟨k, rfl, _, _, _, _, _, hall, _⟩
  · refine ⟨n, 0, hn, hna, rfl, by rw [allF, hna], fun j hj => by rw [hk] at hj; cases hj⟩
  · refine ⟨n, k, hn, hna, rfl, by rw [allF, hna], fun j hj => ?_⟩
    obtain ⟨c, hc, rfl⟩ := List.mem_iff_getElem.1 hj
    obtain ⟨lo', hi', es', ps', h'⟩ := hall c hc
    have : kid n c = n.kids[c] := by simp [kid, List.getD, hc]
    exact ⟨_, lo', hi', es', ps', this ▸ h'⟩
theorem cons_of {α : Type} {l : List α} {n : Nat} (h : l.length = n + 1) : ∃ x t, l = x :: t ∧ t.length = n := by
  cases l with
  | nil => simp at h
  | cons x t => exact ⟨x, t, rfl, by simpa using h⟩
theorem list37 {a : Act} (h : a.tmps.size = 37) (hd : a.defers = []) : ∃ x0 x1 x2 x3 x4 x5 x6 x7 x8 x9 x10 x11 x12 x13 x14 x15 x16 x17 x18 x19 x20 x21 x22 x23 x24 x25 x26 x27 x28 x29 x30 x31 x32 x33 x34 x35 x36, a = { tmps := #[x0, x1, x2, x3, x4, x5, x6, x7, x8, x9, x10, x11, x12, x13, x14, x15, x16, x17, x18, x19, x20, x21, x22, x23, x24, x25, x26, x27, x28, x29, x30, x31, x32, x33, x34, x35, x36], defers := [] } := by
  obtain ⟨⟨l⟩, d⟩ := a
  dsimp only at hd
  subst hd
  replace h : l.length = 37 := h
  obtain ⟨x0, l0, rfl, h0⟩ := cons_of h
  obtain ⟨x1, l1, rfl, h1⟩ := cons_of h0
  obtain ⟨x2, l2, rfl, h2⟩ := cons_of h1
  obtain ⟨x3, l3, rfl, h3⟩ := cons_of h2
  obtain ⟨x4, l4, rfl, h4⟩ := cons_of h3
  obtain ⟨x5, l5, rfl, h5⟩ := cons_of h4
  obtain ⟨x6, l6, rfl, h6⟩ := cons_of h5
  obtain ⟨x7, l7, rfl, h7⟩ := cons_of h6
  obtain ⟨x8, l8, rfl, h8⟩ := cons_of h7
  obtain ⟨x9, l9, rfl, h9⟩ := cons_of h8
  obtain ⟨x10, l10, rfl, h10⟩ := cons_of h9
  obtain ⟨x11, l11, rfl, h11⟩ := cons_of h10
  obtain ⟨x12, l12, rfl, h12⟩ := cons_of h11
  obtain ⟨x13, l13, rfl, h13⟩ := cons_of h12
  obtain ⟨x14, l14, rfl, h14⟩ := cons_of h13
  obtain ⟨x15, l15, rfl, h15⟩ := cons_of h14
  obtain ⟨x16, l16, rfl, h16⟩ := cons_of h15
  obtain ⟨x17, l17, rfl, h17⟩ := cons_of h16
  obtain ⟨x18, l18, rfl, h18⟩ := cons_of h17
  obtain ⟨x19, l19, rfl, h19⟩ := cons_of h18
  obtain ⟨x20, l20, rfl, h20⟩ := cons_of h19
  obtain ⟨x21, l21, rfl, h21⟩ := cons_of h20
  obtain ⟨x22, l22, rfl, h22⟩ := cons_of h21
  obtain ⟨x23, l23, rfl, h23⟩ := cons_of h22
  obtain ⟨x24, l24, rfl, h24⟩ := cons_of h23
  obtain ⟨x25, l25, rfl, h25⟩ := cons_of h24
  obtain ⟨x26, l26, rfl, h26⟩ := cons_of h25
  obtain ⟨x27, l27, rfl, h27⟩ := cons_of h26
  obtain ⟨x28, l28, rfl, h28⟩ := cons_of h27
  obtain ⟨x29, l29, rfl, h29⟩ := cons_of h28
  obtain ⟨x30, l30, rfl, h30⟩ := cons_of h29
  obtain ⟨x31, l31, rfl, h31⟩ := cons_of h30
  obtain ⟨x32, l32, rfl, h32⟩ := cons_of h31
  obtain ⟨x33, l33, rfl, h33⟩ := cons_of h32
  obtain ⟨x34, l34, rfl, h34⟩ := cons_of h33
  obtain ⟨x35, l35, rfl, h35⟩ := cons_of h34
  obtain ⟨x36, l36, rfl, h36⟩ := cons_of h35
  obtain rfl := List.eq_nil_of_length_eq_zero h36
  exact ⟨_, _, _, _, _, _, _, _, _, _, _, _, _, _, _, _, _, _, _, _, _, _, _, _, _, _, _, _, _, _, _, _, _, _, _, _, _, rfl⟩
theorem set_get {ρ : Env} {t u : Nat} {v : Option Value} {x : Value} (h : Env.set ρ t v u = some x) : (u = t ∧ v = some x) ∨ ρ u = some x := by
  unfold Env.set at h
  cases hb : Nat.beq u t with
  | true => rw [hb] at h; exact .inl ⟨Nat.eq_of_beq_eq_true hb, h⟩
  | false => rw [hb] at h; exact .inr h
structure AllRel (R M T : Nat → Prop) (W : World) (g : Nat) (A : Ar) (xs : List Nat) (J : List Nat → World → Prop) (N : Nat) (v : Value) (u : World) (At : Option Addr) (c : Nat) (st : List (Nat × Nat)) (pre : List Nat) : Prop where
  v : v = .slice At st.length c
  own : OwnK KN u At c (st.map (·.2))
  ge : ∀ k, ownB At k → W.heap.size ≤ k
  tr : ∀ p ∈ st, isTree A p
  xs : xs = pre ++ restOf A st
  n : N = (restOf A st).length
  j : J pre u
  fr : Fr (fun k => T k ∨ W.heap.size ≤ k) W u
  len : pre.length + st.length ≤ 1048576
set_option maxHeartbeats 200000 in
theorem all1_spec {R M : Nat → Prop} {W : World} {g : Nat} {A : Ar} (h : Ar1 R M W g A) {H i : Nat} (ht : isTree A (H, i)) (hlen : (allF H A i).length ≤ 1000000) {b1 b2 l : Nat} (hb1 : Blk W b1 [iv i]) (hb2 : Blk W b2 [.pointer (some ⟨g, 0, none⟩)]) (T : Nat → Prop) (hT : ∀ k, T k → k < W.heap.size ∧ ¬ R k ∧ k ≠ b2)
    (J : List Nat → World → Prop) (hJ : ∀ pre U U', J pre U → Fr (fun k => W.heap.size ≤ k) U U' → J pre U')
    (hY : ∀ pre x rest U, allF H A i = pre ++ x :: rest → J pre U → YieldAt Fence.wide 0 Try.prog l #[iv x] U fun e U' => e = .returned (.bool true) ∧ J (pre ++ [x]) U' ∧ Fr T U U') (h0 : J [] W) :
    CallsIn Fence.wide 0 Try.prog 133 (#[.func (.yield l) #[] #[]] ++ #[.pointer (some ⟨b1, 0, none⟩), .pointer (some ⟨b2, 0, none⟩)]) W fun e U => (∃ v, e = .returned v) ∧ J (allF H A i) U := by
  generalize hxs : allF H A i = xs at *
  refine callsIn_of_wp Try.func133 all_body trivial ?_ rfl
  simp only [Try.ntmps133, List.size_toArray, List.length_cons, List.length_nil, Nat.reduceAdd, Nat.reduceSub, Array.replicate_succ, Array.replicate_zero, List.push_toArray, List.append_toArray, List.nil_append, List.cons_append]
  refine wpIn_seq ?_
  obtain ⟨e0, he0⟩ : ∃ e0 : Value, e0 = .func (.yield l) #[] #[] := ⟨_, rfl⟩
  have ag0 : ∀ {a : Act}, a.defers = [] → a.tmps.size = 37 → a.tmps[0]? = some e0 → a.tmps[1]? = some (.pointer (some ⟨b1, 0, none⟩)) → a.tmps[2]? = some (.pointer (some ⟨b2, 0, none⟩)) → Agrees 37 (Env.set (Env.set (Env.set (fun _ => none) 0 (some e0)) 1 (some (.pointer (some ⟨b1, 0, none⟩)))) 2 (some (.pointer (some ⟨b2, 0, none⟩)))) a := by
    intro a h1 h2 h3 h4 h5
    refine ⟨h1, h2, fun t v hv => ?_⟩
    rcases set_get hv with ⟨e, hv2⟩ | hv2
    · rw [e, h5, hv2]
    rcases set_get hv2 with ⟨e, hv3⟩ | hv3
    · rw [e, h4, hv3]
    rcases set_get hv3 with ⟨e, hv4⟩ | hv4
    · rw [e, h3, hv4]
    · cases hv4
  have agS : ∀ {ρ : Env} {a : Act} {t : Nat} {v : Value}, Agrees 37 ρ a → a.tmps[t]? = some v → Agrees 37 (Env.set ρ t (some v)) a := by
    intro ρ a t v h1 h2
    refine ⟨h1.defers, h1.size, fun u x hx => ?_⟩
    rcases set_get hx with ⟨e, hx2⟩ | hx2
    · rw [e, h2, hx2]
    · exact h1.at_ _ _ hx2
  have hM := h.mlt
  have hRlt := h.lt
  have hb1lt := hb1.lt
  have hb2lt := hb2.lt
  refine piece all0 (K := kV 4 fun v w => ∃ gb, v = .slice (some ⟨gb, 0, none⟩) 1 1 ∧ Fresh W gb w [iv i] 3) (ρ := Env.set (Env.set (Env.set (fun _ => none) 0 (some e0)) 1 (some (.pointer (some ⟨b1, 0, none⟩)))) 2 (some (.pointer (some ⟨b2, 0, none⟩)))) ?_ (ag0 rfl rfl (by rw [he0]; rfl) rfl rfl) ?_
  · rw [← all0R.eq e0 ⟨b1, 0, none⟩ ⟨b2, 0, none⟩ W (fun v w => ∃ gb, v = .slice (some ⟨gb, 0, none⟩) 1 1 ∧ Fresh W gb w [iv i] 3)]
    unfold all0R.W
    exact ⟨_, hb1.cell0 rfl, fun gb w' f => ⟨gb, rfl, f⟩⟩
  rintro e a w1 hsame ⟨ρ', hag, hK⟩ hp ho
  · obtain ⟨rfl, _, hρ, gb, rfl, f1⟩ := kV_elim hK
    have hk0 : a.tmps[0]? = some e0 := (offs_keep offs0 hsame (t := 0) (by simp)).trans (by rw [he0]; rfl)
    have hk1 : a.tmps[1]? = some (.pointer (some ⟨b1, 0, none⟩)) := (offs_keep offs0 hsame (t := 1) (by simp)).trans rfl
    have hk2 : a.tmps[2]? = some (.pointer (some ⟨b2, 0, none⟩)) := (offs_keep offs0 hsame (t := 2) (by simp)).trans rfl
    show Code.wpIn _ _ _ _ _ _ _
    refine wpIn_block ?_
    have e1 := f1.ext
    have own0 : OwnK KN w1 (some ⟨gb, 0, none⟩) 1 [i] := by
      obtain ⟨rfl, rfl⟩ := f1
      exact ownK_lit (K := KN) (l := [i]) (cs := [iv i]) rfl (by simp [maxLen]) (fun j a hj => by cases j with | zero => simp at hj; subst hj; rfl | succ j => simp at hj)
    refine wpIn_loop (fun a u => a.defers = [] ∧ a.tmps.size = 37 ∧ a.tmps[0]? = some e0 ∧ a.tmps[1]? = some (.pointer (some ⟨b1, 0, none⟩)) ∧ a.tmps[2]? = some (.pointer (some ⟨b2, 0, none⟩)) ∧ ∃ v, a.tmps[4]? = some v ∧ ∃ N At c st pre, AllRel R M T W g A xs J N v u At c st pre)
      (fun a u => leastN fun N => ∃ v, a.tmps[4]? = some v ∧ ∃ At c st pre, AllRel R M T W g A xs J N v u At c st pre) ?_ ?_
    · refine ⟨hag.defers, hag.size, hk0, hk1, hk2, _, hag.at_ 4 _ hρ, _, some ⟨gb, 0, none⟩, 1, [(H, i)], [], rfl, own0, fun k hk => by rw [ownB_some] at hk; subst hk; exact f1.ge, fun p hp => by simp at hp; subst hp; exact ht, by rw [← hxs]; simp [restOf], rfl, hJ _ _ _ h0 e1.fr, e1.fr, by simp⟩
    · rintro a u ⟨had, hasz, ha0, ha1, ha2, v, hv, hN⟩
      have hex : ∃ N, ∃ v, a.tmps[4]? = some v ∧ ∃ At c st pre, AllRel R M T W g A xs J N v u At c st pre := by obtain ⟨N, hN⟩ := hN; exact ⟨N, v, hv, hN⟩
      obtain ⟨⟨v', hv', At, c, st, pre, hR⟩, hmin⟩ := leastN_spec hex
      rw [hv] at hv'; cases hv'
      generalize hN0 : (leastN fun N => ∃ v, a.tmps[4]? = some v ∧ ∃ At c st pre, AllRel R M T W g A xs J N v u At c st pre) = N0 at *
      obtain rfl := hR.v
      have agA := agS (ag0 had hasz ha0 ha1 ha2) hv
      refine wpIn_seq ?_
      refine piece all1 (K := fun e ρ w => w = u ∧ ((e = .normal ∧ 0 < st.length) ∨ (e = .exit 0 ∧ st.length = 0))) ?_ agA ?_
      · rw [← all1R.eq e0 ⟨b1, 0, none⟩ ⟨b2, 0, none⟩ At st.length c u (fun e w => w = u ∧ ((e = .normal ∧ 0 < st.length) ∨ (e = .exit 0 ∧ st.length = 0)))]
        unfold all1R.W
        exact brd (fun hlt => ⟨rfl, .inl ⟨rfl, by omega⟩⟩) (fun hge => ⟨rfl, .inr ⟨rfl, by omega⟩⟩)
      rintro e a1 u1 hs1 ⟨ρ1, hag1, rfl, hK⟩ hp1 ho1
      rcases hK with ⟨rfl, hpos⟩ | ⟨rfl, hzero⟩
      · -- one place more
        have k0 : a1.tmps[0]? = some e0 := (offs_keep offs1 hs1 (t := 0) (by simp)).trans ha0
        have k1 : a1.tmps[1]? = some (.pointer (some ⟨b1, 0, none⟩)) := (offs_keep offs1 hs1 (t := 1) (by simp)).trans ha1
        have k2 : a1.tmps[2]? = some (.pointer (some ⟨b2, 0, none⟩)) := (offs_keep offs1 hs1 (t := 2) (by simp)).trans ha2
        have k4 := (offs_keep offs1 hs1 (t := 4) (by simp)).trans hv
        obtain ⟨st', p, rfl⟩ : ∃ st' p, st = st' ++ [p] := ⟨st.dropLast, st.getLast (List.length_pos_iff.1 hpos), (List.dropLast_concat_getLast _).symm⟩
        obtain ⟨n, kk, hnd, hna, hpk, hall, hkids⟩ := (hR.tr p (by simp)).step
        have hlst : (st' ++ [p]).length = st'.length + 1 := by simp
        have e1' : IntKind.i64.wrap (((st' ++ [p]).length : Int) - 1) = ((st'.length : Nat) : Int) := by rw [hlst, wi _ (by omega) (by have := hR.len; rw [hlst] at this; omega)]; omega
        have hle : st'.length + 1 ≤ c := by have := hR.own.le; simpa using this
        have hfr := hR.fr
        have b2u : Blk u1 b2 [.pointer (some ⟨g, 0, none⟩)] := hb2.keep hfr (fun h => h.elim (fun h => (hT _ h).2.2 rfl) (fun h => by omega))
        have hAu : Ar1 R M u1 g A := h.frame hfr (fun k hk hs => hs.elim (fun h => (hT _ h).2.1) (fun h => by have : W.heap.size ≤ k := h; intro hr; have := hRlt k hr; omega))
        obtain ⟨xs0, hx0, hxf⟩ := (ownK1 oneN).1 hR.own
        have hcell : ∃ gA, At = some ⟨gA, 0, none⟩ ∧ u1.cell? ⟨gA, st'.length, none⟩ = some (iv p.2) := by
          obtain ⟨vv, hvv, hrr⟩ := hxf.get (i := st'.length) (a := p.2) (by simp)
          have hrr : [vv] = [iv p.2] := hrr
          cases hrr
          exact hx0.cells hvv
        obtain ⟨gA, rfl, hcell⟩ := hcell
        show Code.wpIn _ _ _ _ _ _ _
        refine wpIn_block (wpIn_seq ?_)
        refine piece all2 (K := kV 5 fun v w => v = iv p.2 ∧ w = u1) ?_ (agS (ag0 hag1.defers hag1.size k0 k1 k2) k4) ?_
        · rw [← all2R.eq e0 ⟨b1, 0, none⟩ ⟨b2, 0, none⟩ (some ⟨gA, 0, none⟩) (st' ++ [p]).length c u1 (fun v w => v = iv p.2 ∧ w = u1)]
          unfold all2R.W
          rw [e1']
          exact ⟨_, rfl, ⟨by omega, by omega⟩, _, by rw [add_new, Nat.zero_add, Int.toNat_natCast, Nat.mul_one]; exact hcell, rfl, rfl⟩
        rintro e a2 u2 hs2 ⟨ρ2, hag2, hK2⟩ hp2 ho2
        · obtain ⟨rfl, _, hρ5, rfl, rfl⟩ := kV_elim hK2
          have m0 := (offs_keep offs2 hs2 (t := 0) (by simp)).trans k0
          have m1 := (offs_keep offs2 hs2 (t := 1) (by simp)).trans k1
          have m2 := (offs_keep offs2 hs2 (t := 2) (by simp)).trans k2
          have m4 := (offs_keep offs2 hs2 (t := 4) (by simp)).trans k4
          have m5 := hag2.at_ 5 _ hρ5
          show Code.wpIn _ _ _ _ _ _ _
          refine wpIn_seq ?_
          have hAu2 := hAu
          obtain ⟨At0, ac, Fa, fc, mb, ha⟩ := hAu2
          obtain ⟨hil, ga, bn, A1, c1, A2, c2, A3, c3, rfl, hcn, hN⟩ := ha.node hnd
          have hcl := hN.okn.c
          have hrl : (restOf A (st' ++ [p])).length ≤ xs.length := by rw [hR.xs, List.length_append]; omega
          have hrp := restOf_pop A st' p
          have hex2 : xs = pre ++ p.2 :: (n.kids.reverse.flatMap (allF kk A) ++ restOf A st') := by rw [hR.xs, hrp, hall]; rfl
          have hst' : st'.length + pre.length ≤ 1048576 := by have := hR.len; rw [hlst] at this; omega
          obtain ⟨v', w3, hap, hown3, hg3⟩ : ∃ v' w3, (∃ At' c', v' = .slice At' (st' ++ n.kids.map fun j => (kk, j)).length c' ∧ OwnK KN w3 At' c' ((st' ++ n.kids.map fun j => (kk, j)).map (·.2)) ∧ ∀ k, ownB At' k → W.heap.size ≤ k) ∧ RunsTo Try.prog (Builtin.append_ #[37, 37] 37 #[.slice (some ⟨gA, 0, none⟩) st'.length c, .slice A3 n.kids.length c3]) u2.drew v' w3 ∧ Fr (fun k => W.heap.size ≤ k) u2.drew w3 := by
            have ot := hR.own.take st'.length (by simp)
            have e3 : ((st' ++ [p]).map (·.2)).take st'.length = st'.map (·.2) := by simp
            rw [e3] at ot
            have hk3 : Imm KN (ownB (some ⟨gA, 0, none⟩)) u2 A3 n.kids := by
              intro ii aa haa
              obtain ⟨ad, h1, h2, cs, h3, h4⟩ := hN.kids ii aa haa
              refine ⟨ad, h1, fun hk => ?_, cs, h3, h4⟩
              have hge := hR.ge _ hk
              exact h2 (.inl fun hr => by have := hRlt _ hr; omega)
            obtain ⟨At', c', w3, hr3, ho3, gr3⟩ := (ot.ext (Fr.drew NoB u2)).append (K := KN) slI (ty := 37) (cb := c3) (hk3.keep KN_pos ((Fr.drew NoB u2).step (Ω := ownB (some ⟨gA, 0, none⟩)) (Ω' := ownB (some ⟨gA, 0, none⟩)) (fun _ _ h => h.elim) (fun _ _ h => h))) (fun a cs h => oneN.one h) (by simp only [maxLen, List.length_map]; omega) (by simp only [List.length_map]; omega)
            refine ⟨_, w3, ⟨At', c', ?_, ?_, fun k hk => ?_⟩, by rw [List.length_map] at hr3; exact hr3, gr3.fr.mono fun k _ hk => hR.ge k hk⟩
            · simp
            · have : (st' ++ n.kids.map fun j => (kk, j)).map (·.2) = st'.map (·.2) ++ n.kids := by simp [Function.comp_def]
              rw [this]; exact ho3
            · rcases gr3.sub k hk with h | h
              · exact hR.ge k h
              · exact Nat.le_trans hfr.size h
          obtain ⟨At', c', rfl, hown', hge'⟩ := hap
          refine piece all3 (K := kV 4 fun v w => v = .slice At' (st' ++ n.kids.map fun j => (kk, j)).length c' ∧ w = w3) ?_ (agS (agS (ag0 hag2.defers hag2.size m0 m1 m2) m4) m5) ?_
          · rw [← all3R.eq e0 ⟨b1, 0, none⟩ ⟨b2, 0, none⟩ (some ⟨gA, 0, none⟩) (st' ++ [p]).length c (p.2 : Int) u2 (fun v w => v = .slice At' (st' ++ n.kids.map fun j => (kk, j)).length c' ∧ w = w3)]
            unfold all3R.W
            rw [e1', Int.toNat_natCast, Int.toNat_natCast, cutAt_zero, Nat.sub_zero, Nat.sub_zero]
            have s0 : Fr (fun k => W.heap.size ≤ k) u2 u2.drew := Fr.drew _ u2
            have rd : ∀ {ad : Addr} {v : Value}, u2.cell? ad = some v → ad.block < W.heap.size → ∀ x, Fr (fun k => W.heap.size ≤ k) u2 x → x.cell? ad = some v := fun h1 h2 x hx => hx.cell (by show ¬ W.heap.size ≤ _; omega) h1
            have rb : ∀ {k : Nat}, R k → k < W.heap.size := fun hr => hRlt _ hr
            have rbn : R bn := Classical.byContradiction fun hr => hN.off (.inl hr)
            refine ⟨⟨by omega, by omega⟩, fun v => Fr (fun k => W.heap.size ≤ k) u2 v, s0, _, rd (b2u.cell0 rfl) hb2lt, _, rfl, _, _, _, rd (ad := (⟨g, 0, none⟩ : Addr).add 2) (ha.blk.cell rfl) (by rw [add_block]; exact rb (ha.mr _ ha.mg)), _, rfl, ⟨by omega, by omega⟩, _, ?_, _, rfl, A3, n.kids.length, c3, rd (ad := (⟨bn, 0, none⟩ : Addr).add 2) (hN.blk.cell rfl) (by rw [add_block]; exact rb rbn), _, _, _, w3, hown3, s0.trans hg3 (fun _ _ h => h) (fun _ _ h => h), rfl, rfl⟩
            refine rd (by rw [add_new, Nat.zero_add, Nat.mul_one]; exact hcn) ?_
            rw [add_block]; exact rb (ha.mr _ (ha.mA _ ⟨_, rfl, rfl⟩))
          rintro e a3 u3 hs3 ⟨ρ3, hag3, hK3⟩ hp3 ho3
          obtain ⟨rfl, _, hρ4, rfl, rfl⟩ := kV_elim hK3
          have q0 := (offs_keep offs3 hs3 (t := 0) (by simp)).trans m0
          have q1 := (offs_keep offs3 hs3 (t := 1) (by simp)).trans m1
          have q2 := (offs_keep offs3 hs3 (t := 2) (by simp)).trans m2
          have q5 := (offs_keep offs3 hs3 (t := 5) (by simp)).trans m5
          have q4 := hag3.at_ 4 _ hρ4
          obtain ⟨x0, x1, x2, x3, x4, x5, x6, x7, x8, x9, x10, x11, x12, x13, x14, x15, x16, x17, x18, x19, x20, x21, x22, x23, x24, x25, x26, x27, x28, x29, x30, x31, x32, x33, x34, x35, x36, rfl⟩ := list37 hag3.size hag3.defers
          simp only [List.getElem?_toArray, List.getElem?_cons_zero, List.getElem?_cons_succ, Option.some.injEq] at q0 q1 q2 q4 q5
          subst q0; subst q1; subst q2; subst q4; subst q5
          subst he0
          have hg30 : Fr (fun k => W.heap.size ≤ k) u2 u3 := (Fr.drew _ u2).trans hg3 (fun _ _ h => h) (fun _ _ h => h)
          have hJ3 : J pre u3 := hJ _ _ _ hR.j hg30
          obtain ⟨fnn, tmps, assign, body, hy, hRo⟩ := hY pre p.2 _ u3 hex2 hJ3
          have hy : (Instr.yield l #[.int .i64 (p.2 : Int)]).run Try.prog u3 = .ok (.round l fnn tmps assign body) u3 := hy
          show Code.wpIn _ _ _ _ _ _ _
          simp only [all4, Try.f133]
          gi_wp2
          refine ⟨rfl, hRo.mono ?_⟩
          rintro e U' ⟨rfl, hJ', hFr⟩
          gi_wp2
          have hlr := restOf_len A (st' ++ n.kids.map fun j => (kk, j))
          have hrn : restOf A (st' ++ n.kids.map fun j => (kk, j)) = n.kids.reverse.flatMap (allF kk A) ++ restOf A st' := restOf_push A st' kk n.kids
          have hnew : AllRel R M T W g A xs J (restOf A (st' ++ n.kids.map fun j => (kk, j))).length (.slice At' (st'.length + n.kids.length) c') U' At' c' (st' ++ n.kids.map fun j => (kk, j)) (pre ++ [p.2]) := by
            have hxs2 : xs = (pre ++ [p.2]) ++ restOf A (st' ++ n.kids.map fun j => (kk, j)) := by rw [hrn, hex2]; simp
            refine ⟨by simp, hown'.fr hFr (fun k hk hk' => by have := hge' k hk; have := (hT k hk').1; omega) (fun _ _ _ h => h), hge', fun q hq => ?_, hxs2, rfl, hJ', (hfr.trans hg30 (S'' := fun k => T k ∨ W.heap.size ≤ k) (fun _ _ h => h) (fun _ _ h => .inr h)).trans hFr (fun _ _ h => h) (fun _ _ h => .inl h), ?_⟩
            · rcases List.mem_append.1 hq with hq | hq
              · exact hR.tr q (List.mem_append_left _ hq)
              · obtain ⟨j, hj, rfl⟩ := List.mem_map.1 hq; exact hkids j hj
            · have := congrArg List.length hxs2
              rw [List.length_append] at this
              omega
          refine ⟨⟨trivial, rfl, rfl, rfl, rfl, _, rfl, _, At', c', _, _, hnew⟩, ?_⟩
          refine Nat.lt_of_le_of_lt ((leastN_spec ⟨_, _, rfl, At', c', _, _, hnew⟩).2 _ ⟨_, rfl, At', c', _, _, hnew⟩) ?_
          rw [hR.n, hrp, hall, hrn]
          simp
      · -- all have come
        have hst0 : st = [] := List.eq_nil_of_length_eq_zero hzero
        subst hst0
        have hx : xs = pre := by rw [hR.xs]; simp [restOf]
        simp only [Exit.then, Exit.inBlock, if_true]
        exact ⟨hag1.defers, _, results_none rfl _ _ _, ⟨_, rfl⟩, by rw [hx]; exact hR.j⟩
end Go.Proofs.Ythfagbfllheneaa
set_option linter.unusedVariables false
set_option linter.unusedSimpArgs false
namespace Go.Proofs.Ythfagbfllheneaa
open Go Go.Sx T4
open Go.RowKit Go.Shelf
attribute [local go_sem] Oper.semAt_some
def sumV (A : Ar) (l : List Nat) : Nat := (l.map fun j => (nodeAt A j).vals.length).sum
theorem sumV_app (A : Ar) (l m : List Nat) : sumV A (l ++ m) = sumV A l + sumV A m := by simp [sumV]
theorem sumV_all : ∀ (H : Nat) {A : Ar} {mn : Nat × Nat} {i : Nat} {lo hi : Option Key} {es : Es} {ps : List Nat}, Tree A.nd A.fan H mn i lo hi es ps → sumV A (allF H A i) = es.length
  | 0, _, _, _, _, _, _, _, h => h.elim
  | H + 1, A, mn, i, lo, hi, es, ps, ⟨n, hn, hs, hc⟩ => by
    have hna : nodeAt A i = n := by simp [nodeAt, hn]
    have step : ∀ {lo hi : Option Key} {ks : List Key} {is : List Nat} {es : Es} {ps : List Nat}, T4.Kids (Reg A.nd A.fan H) lo hi ks is es ps → sumV A (is.reverse.flatMap (allF H A)) = es.length := by
      intro lo hi ks is es ps hk
      induction hk with
      | one h => simpa using sumV_all H h
      | cons h _ _ ih =>
        rw [List.reverse_cons, List.flatMap_append, sumV_app, ih]
        have := sumV_all H h
        simp only [List.flatMap_cons, List.flatMap_nil, List.append_nil, this, List.length_append]
        omega
    rw [allF, hna]
    have hcons : ∀ l, sumV A (i :: l) = n.vals.length + sumV A l := fun l => by simp [sumV, hna]
    rw [hcons]
    rcases hc with ⟨rfl, _, hk, _, hv, _⟩ | ⟨h0, _, hv, ps', rfl, hk⟩
    · rw [hk, hv, valsE_length]; simp [sumV]
    · rw [hv, step hk]; simp
theorem sumV_le (A : Ar) (l : List Nat) (h : ∀ j ∈ l, (nodeAt A j).vals.length ≤ 1000) : sumV A l ≤ 1000 * l.length := by
  induction l with
  | nil => simp [sumV]
  | cons j l ih =>
    have h1 := h j (by simp)
    have h2 := ih fun j hj => h j (by simp [hj])
    have : sumV A (j :: l) = (nodeAt A j).vals.length + sumV A l := by simp [sumV]
    rw [this, List.length_cons]; omega
theorem allF_len (H : Nat) {A : Ar} {mn : Nat × Nat} {i : Nat} {lo hi : Option Key} {es : Es} {ps : List Nat} (h : Tree A.nd A.fan H mn i lo hi es ps) : (allF H A i).length = ps.length := by
  have : (allF H A i).Perm ps := List.perm_iff_count.2 (all_count H h)
  exact this.length_eq
theorem allF_nd : ∀ (H : Nat) {A : Ar} {i : Nat}, isTree A (H, i) → ∀ x ∈ allF H A i, ∃ n, A.nd x = some n
  | 0, _, _, ⟨_, _, _, _, _, h⟩, _, _ => h.elim
  | H + 1, A, i, h, x, hx => by
    obtain ⟨n, k, h1, h2, h3, h4, h5⟩ := h.step
    obtain rfl : H = k := by simpa using h3
    dsimp only at h4
    rw [h4] at hx
    rcases List.mem_cons.1 hx with rfl | hx
    · exact ⟨n, h1⟩
    · obtain ⟨j, hj, hx⟩ := List.mem_flatMap.1 hx
      exact allF_nd H (h5 j (by simpa using hj)) x hx
theorem len_nd : noDef lenOps = true := by kernel_rfl
theorem len_sel : noSel lenOps = true := by kernel_rfl
theorem top_in {R M : Nat → Prop} {w : World} {g : Nat} {A : Ar} (h : Ar1 R M w g A) (hf : 0 < A.fan) {root : Int} {i : Nat} (hr : getT A.trees root = some i) : CallsIn Fence.wide 0 Try.prog 108 #[.pointer (some ⟨g, 0, none⟩), .int .i64 root] w fun e w' => e = .returned (.tuple #[.int .i64 (i : Int), .int .i64 0]) ∧ w' = w := by
  refine callsIn_wide.2 (Calls.mono (top_spec h hf root) ?_)
  rintro e w' ⟨v, rfl, hv, rfl⟩
  rw [hr] at hv
  exact ⟨by rw [hv], rfl⟩
theorem all_in (w : World) (g i : Nat) : CallsIn Fence.wide 0 Try.prog 116 #[.pointer (some ⟨g, 0, none⟩), .int .i64 (i : Int)] w fun e w' => ∃ b1 b2, e = .returned (.func (.func 133) #[] #[.pointer (some ⟨b1, 0, none⟩), .pointer (some ⟨b2, 0, none⟩)]) ∧ Blk w' b1 [iv i] ∧ Blk w' b2 [.pointer (some ⟨g, 0, none⟩)] ∧ Ext w w' ∧ w.heap.size ≤ b1 ∧ w.heap.size ≤ b2 ∧ b1 ≠ b2 := by
  refine callsIn_wide.2 (Calls.mono (all_spec g i) ?_)
  rintro e w' ⟨v, rfl, b1, b2, rfl, h⟩
  exact ⟨b1, b2, rfl, h⟩
set_option maxRecDepth 100000 in
set_option maxHeartbeats 2000000 in
theorem Len_in {R M : Nat → Prop} {w : World} {g : Nat} {A : Ar} (h : Ar1 R M w g A) {root : Int} {H i : Nat} {es : Es} {ps Q : List Nat} (hr : getT A.trees root = some i) (T : TreeAt A H i es ps Q) :
    CallsIn Fence.wide 0 Try.prog 82 #[.pointer (some ⟨g, 0, none⟩), .int .i64 root] w fun e w' => ∃ v, e = .returned v ∧ v = iv es.length ∧ Ext w w' := by
  have hf := T.f1
  refine callsIn_of_wp_marks Try.func82 len_body trivial ?_ rfl
  simp only [Try.ntmps82, List.size_toArray, List.length_cons, List.length_nil, Nat.reduceAdd, Nat.reduceSub, Array.replicate_succ, Array.replicate_zero, List.push_toArray, List.append_toArray, List.nil_append, List.cons_append]
  simp only [len0, len1, len2, len4, len5, Try.f82]
  have e1 : Ext w (w.alloc (Obj.cells #[Value.pointer (some ⟨g, 0, none⟩)] 78)) := Fr.alloc NoB w _
  have hba : Blk (w.alloc (Obj.cells #[Value.pointer (some ⟨g, 0, none⟩)] 78)) w.heap.size [.pointer (some ⟨g, 0, none⟩)] := Blk.alloc w [.pointer (some ⟨g, 0, none⟩)] 78
  gi_wp2
  refine ⟨trivial, rfl, (top_in (h.ext e1) (by omega) hr).mono ?_⟩
  rintro e w' ⟨rfl, rfl⟩
  gi_wp2
  have e2 : Ext w ((w.alloc (Obj.cells #[Value.pointer (some ⟨g, 0, none⟩)] 78)).alloc (Obj.cells #[Value.int IntKind.i64 0] 3)) := e1.ext (Fr.alloc NoB _ _)
  have hba2 := hba.ext (Fr.alloc NoB (w.alloc (Obj.cells #[Value.pointer (some ⟨g, 0, none⟩)] 78)) (Obj.cells #[Value.int IntKind.i64 0] 3))
  have hbn2 : Blk ((w.alloc (Obj.cells #[Value.pointer (some ⟨g, 0, none⟩)] 78)).alloc (Obj.cells #[Value.int IntKind.i64 0] 3)) (w.heap.size + 1) [.int .i64 0] := by
    have := Blk.alloc (w.alloc (Obj.cells #[Value.pointer (some ⟨g, 0, none⟩)] 78)) [.int .i64 0] 3
    rwa [World.size_alloc] at this
  have hs2 : ((w.alloc (Obj.cells #[Value.pointer (some ⟨g, 0, none⟩)] 78)).alloc (Obj.cells #[Value.int IntKind.i64 0] 3)).heap.size = w.heap.size + 2 := by simp
  generalize hw2 : (w.alloc (Obj.cells #[Value.pointer (some ⟨g, 0, none⟩)] 78)).alloc (Obj.cells #[Value.int IntKind.i64 0] 3) = w2 at *
  refine ⟨trivial, rfl, (all_in _ g i).mono ?_⟩
  rintro e w3 ⟨b1, b2, rfl, hb1, hb2, e3, hg1, hg2, hne⟩
  gi_wp2
  have ht : isTree A (H, i) := ⟨_, _, _, _, _, T.tree⟩
  have hlenF := allF_len H T.tree
  have htot := T.acc.total
  have hlen := T.len
  have hs3 := e3.size
  have e13 := e2.trans' e3
  have hR := h.lt
  have hb1l := hb1.lt
  have hb2l := hb2.lt
  refine range_all (enc := iv) (xs := allF H A i) (gf := 133) (lb := #[.pointer (some ⟨b1, 0, none⟩), .pointer (some ⟨b2, 0, none⟩)]) rfl (enters_of Try.func133 (by kernel_rfl) rfl) (fun k => k = w.heap.size + 1) (by rintro k rfl; omega) ?hit rfl
    (fun pre U => Blk U (w.heap.size + 1) [iv (sumV A pre)] ∧ Blk U w.heap.size [.pointer (some ⟨g, 0, none⟩)] ∧ Ar1 R M U g A ∧ Ext w U) ?hI ⟨hbn2.ext e3, hba2.ext e3, h.ext e13, e13⟩
    (fun x => { tmps := #[.pointer (some ⟨g, 0, none⟩), .int .i64 root, .pointer (some ⟨w.heap.size, 0, none⟩), undef, .int .i64 0, .int .i64 (i : Int), .int .i64 0, .pointer (some ⟨w.heap.size + 1, 0, none⟩), iv x, .tuple #[.int .i64 (i : Int), .int .i64 0], .pointer (some ⟨g, 0, none⟩), .int .i64 root, .tuple #[.int .i64 (i : Int), .int .i64 0], .int .i64 (i : Int), .int .i64 0, .int .i64 0, .bool false, .pointer (some ⟨g, 0, none⟩), .int .i64 (i : Int), .func (.func 133) #[] #[.pointer (some ⟨b1, 0, none⟩), .pointer (some ⟨b2, 0, none⟩)], iv x, undef, undef, undef, undef, undef, undef, undef, undef, undef, undef, undef, undef, undef, undef], defers := [] }) ?assign ?body ?done
  case hit =>
    intro l T' J W eW hT' hJ hY h0
    refine all1_spec (h.ext (e13.trans' eW)) ht (by omega) (hb1.ext eW) (hb2.ext eW) T' (fun k hk => ?_) J hJ hY h0
    obtain ⟨h1, h2⟩ := hT' k hk
    refine ⟨h2, fun hr => ?_, ?_⟩
    · have := hR k hr; rcases h1 with h1 | h1 <;> omega
    · rcases h1 with h1 | h1 <;> omega
  case hI =>
    rintro pre U U' ⟨h1, h2, h3, h4⟩ hf'
    have hn : ∀ k, k < w3.heap.size → ¬ w3.heap.size ≤ k := fun k hk => by omega
    refine ⟨h1.keep hf' (hn _ (by omega)), h2.keep hf' (hn _ (by omega)), h3.frame hf' (fun k _ hk hr => by have := hR k hr; have : w3.heap.size ≤ k := hk; omega), ⟨hf'.os.trans h4.os, hf'.tape.trans h4.tape, hf'.output.trans h4.output, Nat.le_trans h4.size hf'.size, fun k hk _ => (hf'.block k (Nat.lt_of_lt_of_le hk h4.size) (hn k (by omega))).trans (h4.block k hk fun h => h)⟩⟩
  case assign =>
    intro l x W K hK
    simp only [len6, Try.f82]
    gi_wp2
    exact hK
  case body =>
    rintro l pre x rest U hxs ⟨h1, h2, h3, h4⟩ hsz
    refine wpIn_block ?_
    have hag : Agrees 35 (Env.set (Env.set (Env.set (fun _ => none) 2 (some (.pointer (some ⟨w.heap.size, 0, none⟩)))) 7 (some (.pointer (some ⟨w.heap.size + 1, 0, none⟩)))) 8 (some (.int .i64 (x : Int)))) { tmps := #[.pointer (some ⟨g, 0, none⟩), .int .i64 root, .pointer (some ⟨w.heap.size, 0, none⟩), undef, .int .i64 0, .int .i64 (i : Int), .int .i64 0, .pointer (some ⟨w.heap.size + 1, 0, none⟩), iv x, .tuple #[.int .i64 (i : Int), .int .i64 0], .pointer (some ⟨g, 0, none⟩), .int .i64 root, .tuple #[.int .i64 (i : Int), .int .i64 0], .int .i64 (i : Int), .int .i64 0, .int .i64 0, .bool false, .pointer (some ⟨g, 0, none⟩), .int .i64 (i : Int), .func (.func 133) #[] #[.pointer (some ⟨b1, 0, none⟩), .pointer (some ⟨b2, 0, none⟩)], iv x, undef, undef, undef, undef, undef, undef, undef, undef, undef, undef, undef, undef, undef, undef], defers := [] } := by
      refine ⟨rfl, rfl, fun t v hv => ?_⟩
      rcases set_get hv with ⟨e, hv2⟩ | hv2
      · rw [e, ← hv2]; rfl
      rcases set_get hv2 with ⟨e, hv3⟩ | hv3
      · rw [e, ← hv3]; rfl
      rcases set_get hv3 with ⟨e, hv4⟩ | hv4
      · rw [e, ← hv4]; rfl
      · cases hv4
    obtain ⟨n, hn⟩ := allF_nd H ht x (by rw [hxs]; simp)
    obtain ⟨At, ac, Fa, fc, mb, ha⟩ := h3
    obtain ⟨hil, ga, bn, A1, c1, A2, c2, A3, c3, rfl, hcn, hN⟩ := ha.node hn
    have hna : nodeAt A x = n := by simp [nodeAt, hn]
    have hvl := hN.okn.v
    have hpre : sumV A pre ≤ 1000 * pre.length := sumV_le A pre fun j hj => by
      obtain ⟨n', hn'⟩ := allF_nd H ht j (by rw [hxs]; simp [hj])
      obtain ⟨_, _, _, _, _, _, _, _, _, _, _, hN'⟩ := ha.node hn'
      have : nodeAt A j = n' := by simp [nodeAt, hn']
      rw [this]; exact hN'.okn.v
    have hpl : pre.length ≤ 131072 := by have := congrArg List.length hxs; rw [List.length_append] at this; omega
    have ed : Ext U U.drew := Fr.drew NoB U
    have hsum : sumV A (pre ++ [x]) = sumV A pre + n.vals.length := by rw [sumV_app]; simp [sumV, hna]
    refine wpIn_mono (region_in okay 7 lenOps true len_nd (opsDst lenOps) (fun e => match e with | .normal => fun _ u => (Fr (fun k => k = w.heap.size + 1) U u ∧ Blk u (w.heap.size + 1) [iv (sumV A (pre ++ [x]))] ∧ Blk u w.heap.size [.pointer (some ⟨g, 0, none⟩)] ∧ Ar1 R M u g A ∧ Ext w u) | _ => fun _ _ => False) _ _ U (fun _ h => h) (.refl _ _) hag ?_) ?_
    · show cond (noSel lenOps) _ False
      rw [len_sel, cond_true]
      show drT false .named Try.prog 35 lenOps (lightOf Try.prog lenOps lenOps) (fun _ u => (Fr (fun k => k = w.heap.size + 1) U u ∧ Blk u (w.heap.size + 1) [iv (sumV A (pre ++ [x]))] ∧ Blk u w.heap.size [.pointer (some ⟨g, 0, none⟩)] ∧ Ar1 R M u g A ∧ Ext w u)) lenOps (falses lenOps) none [] _ U.drew
      rw [← lenR.eq ⟨w.heap.size, 0, none⟩ ⟨w.heap.size + 1, 0, none⟩ (x : Int) U (fun u => Fr (fun k => k = w.heap.size + 1) U u ∧ Blk u (w.heap.size + 1) [iv (sumV A (pre ++ [x]))] ∧ Blk u w.heap.size [.pointer (some ⟨g, 0, none⟩)] ∧ Ar1 R M u g A ∧ Ext w u)]
      unfold lenR.W
      refine ⟨fun u => Ext U u, ed, _, fun u e => (h1.ext e).cell0 rfl, _, fun u e => (h2.ext e).cell0 rfl, _, rfl, _, _, _, fun u e => (ha.blk.ext e).cell rfl, _, rfl, ⟨by omega, by omega⟩, .some ⟨bn, 0, none⟩, fun u e => by rw [add_new, Nat.zero_add, Int.toNat_natCast, Nat.mul_one]; exact Ext.cell e hcn, _, rfl, _, _, _, fun u e => (hN.blk.ext e).cell rfl, ?_⟩
      rw [wi _ (by omega) (by omega), show ((sumV A pre : Nat) : Int) + (n.vals.length : Int) = ((sumV A pre + n.vals.length : Nat) : Int) by omega]
      have hb := h1.ext ed
      obtain ⟨q1, q2⟩ := setF hb (o := 0) (by simp) (iv (sumV A pre + n.vals.length))
      rw [add_zero'] at q1 q2
      refine ⟨q1, fun u hu => ?_⟩
      obtain ⟨b3, f3⟩ := q2 u hu
      have f3' : Fr (fun k => k = w.heap.size + 1) U u := ed.fr.ext f3
      refine ⟨f3', by rw [hsum]; exact b3, h2.keep f3' (by omega), Ar1.frame ⟨_, _, _, _, _, ha⟩ f3' (fun k _ hk hr => by have := hR k hr; have : k = _ := hk; omega), ⟨f3'.os.trans h4.os, f3'.tape.trans h4.tape, f3'.output.trans h4.output, Nat.le_trans h4.size f3'.size, fun k hk _ => (f3'.block k (Nat.lt_of_lt_of_le hk h4.size) (by show ¬ k = _; omega)).trans (h4.block k hk fun h => h)⟩⟩
    · intro e a' u hq
      cases e with
      | normal => obtain ⟨_, ρ', _, h5, h6⟩ := hq; exact ⟨rfl, h5, h6⟩
      | panic _ => exact hq.elim
      | outgrown => exact hq.elim
      | ret => obtain ⟨_, ρ', _, h5⟩ := hq; exact h5.elim
      | exit _ => obtain ⟨_, ρ', _, h5⟩ := hq; exact h5.elim
      | goto _ => obtain ⟨_, ρ', _, h5⟩ := hq; exact h5.elim
  case done =>
    rintro D W hD ⟨h1, h2, h3, h4⟩ hdef hsz
    rw [sumV_all H T.tree] at h1
    have hc : W.cell? ⟨w.heap.size + 1, 0, none⟩ = some (.int .i64 (es.length : Int)) := h1.cell0 rfl
    gi_wp2
    simp only [len8, Try.f82]
    gi_wp2
    refine ⟨by simp, .inl ⟨_, _, rfl, run_takeDeferred hdef, ?_⟩⟩
    refine ⟨_, results_tmp rfl _ _ _, _, rfl, rfl, ?_⟩
    exact ⟨h4.os, h4.tape, h4.output, by simpa using h4.size, fun k hk _ => (World.putObj_heap_other (by omega)).trans (h4.block k hk fun h => h)⟩
theorem Len_spec {R M : Nat → Prop} {w : World} {g : Nat} {A : Ar} (h : Ar1 R M w g A) {root : Int} {H i : Nat} {es : Es} {ps Q : List Nat} (hr : getT A.trees root = some i) (T : TreeAt A H i es ps Q) :
    CallsV Try.prog 82 #[.pointer (some ⟨g, 0, none⟩), .int .i64 root] w fun r w' => r = iv es.length ∧ Ext w w' := callsIn_wide.1 (Len_in h hr T)
end Go.Proofs.Ythfagbfllheneaa
set_option linter.unusedVariables false
set_option linter.unusedSimpArgs false
namespace Go.Proofs.Ythfagbfllheneaa
open Go Go.Sx T4
open Go.RowKit Go.Shelf
attribute [local go_sem] Oper.semAt_some
theorem made_in {R M : Nat → Prop} {w : World} {g : Nat} {A : Ar} (h : Ar1 R M w g A) (hf : 0 < A.fan) : CallsIn Fence.wide 0 Try.prog 104 #[.pointer (some ⟨g, 0, none⟩)] w fun e w' => e = .returned (.bool true) ∧ w' = w := by
  refine callsIn_wide.2 (Calls.mono (made_spec h hf) ?_)
  rintro e w' ⟨v, rfl, rfl, rfl⟩
  exact ⟨rfl, rfl⟩
theorem list40 {a : Act} (h : a.tmps.size = 40) : ∃ x0 x1 x2 x3 x4 x5 x6 x7 x8 x9 x10 x11 x12 x13 x14 x15 x16 x17 x18 x19 x20 x21 x22 x23 x24 x25 x26 x27 x28 x29 x30 x31 x32 x33 x34 x35 x36 x37 x38 x39, a.tmps = #[x0, x1, x2, x3, x4, x5, x6, x7, x8, x9, x10, x11, x12, x13, x14, x15, x16, x17, x18, x19, x20, x21, x22, x23, x24, x25, x26, x27, x28, x29, x30, x31, x32, x33, x34, x35, x36, x37, x38, x39] := by
  obtain ⟨⟨l⟩, d⟩ := a
  replace h : l.length = 40 := h
  obtain ⟨x0, l0, rfl, h0⟩ := cons_of h
  obtain ⟨x1, l1, rfl, h1⟩ := cons_of h0
  obtain ⟨x2, l2, rfl, h2⟩ := cons_of h1
  obtain ⟨x3, l3, rfl, h3⟩ := cons_of h2
  obtain ⟨x4, l4, rfl, h4⟩ := cons_of h3
  obtain ⟨x5, l5, rfl, h5⟩ := cons_of h4
  obtain ⟨x6, l6, rfl, h6⟩ := cons_of h5
  obtain ⟨x7, l7, rfl, h7⟩ := cons_of h6
  obtain ⟨x8, l8, rfl, h8⟩ := cons_of h7
  obtain ⟨x9, l9, rfl, h9⟩ := cons_of h8
  obtain ⟨x10, l10, rfl, h10⟩ := cons_of h9
  obtain ⟨x11, l11, rfl, h11⟩ := cons_of h10
  obtain ⟨x12, l12, rfl, h12⟩ := cons_of h11
  obtain ⟨x13, l13, rfl, h13⟩ := cons_of h12
  obtain ⟨x14, l14, rfl, h14⟩ := cons_of h13
  obtain ⟨x15, l15, rfl, h15⟩ := cons_of h14
  obtain ⟨x16, l16, rfl, h16⟩ := cons_of h15
  obtain ⟨x17, l17, rfl, h17⟩ := cons_of h16
  obtain ⟨x18, l18, rfl, h18⟩ := cons_of h17
  obtain ⟨x19, l19, rfl, h19⟩ := cons_of h18
  obtain ⟨x20, l20, rfl, h20⟩ := cons_of h19
  obtain ⟨x21, l21, rfl, h21⟩ := cons_of h20
  obtain ⟨x22, l22, rfl, h22⟩ := cons_of h21
  obtain ⟨x23, l23, rfl, h23⟩ := cons_of h22
  obtain ⟨x24, l24, rfl, h24⟩ := cons_of h23
  obtain ⟨x25, l25, rfl, h25⟩ := cons_of h24
  obtain ⟨x26, l26, rfl, h26⟩ := cons_of h25
  obtain ⟨x27, l27, rfl, h27⟩ := cons_of h26
  obtain ⟨x28, l28, rfl, h28⟩ := cons_of h27
  obtain ⟨x29, l29, rfl, h29⟩ := cons_of h28
  obtain ⟨x30, l30, rfl, h30⟩ := cons_of h29
  obtain ⟨x31, l31, rfl, h31⟩ := cons_of h30
  obtain ⟨x32, l32, rfl, h32⟩ := cons_of h31
  obtain ⟨x33, l33, rfl, h33⟩ := cons_of h32
  obtain ⟨x34, l34, rfl, h34⟩ := cons_of h33
  obtain ⟨x35, l35, rfl, h35⟩ := cons_of h34
  obtain ⟨x36, l36, rfl, h36⟩ := cons_of h35
  obtain ⟨x37, l37, rfl, h37⟩ := cons_of h36
  obtain ⟨x38, l38, rfl, h38⟩ := cons_of h37
  obtain ⟨x39, l39, rfl, h39⟩ := cons_of h38
  obtain rfl := List.eq_nil_of_length_eq_zero h39
  exact ⟨_, _, _, _, _, _, _, _, _, _, _, _, _, _, _, _, _, _, _, _, _, _, _, _, _, _, _, _, _, _, _, _, _, _, _, _, _, _, _, _, rfl⟩
def Marks (B : Nat) (ds : List Deferred) (w : World) : Prop := (∀ d ∈ ds, ∃ D, d = { target := .collected D, args := #[] } ∧ B ≤ D ∧ w.heap[D]? = some (.deferred (some []))) ∧ ds.Pairwise fun a b => a ≠ b
theorem Marks.keep {B : Nat} {ds : List Deferred} {w w' : World} (h : Marks B ds w) {S : Nat → Prop} (hf : Fr S w w') (hS : ∀ k, S k → ∀ o, w.heap[k]? = some o → o ≠ .deferred (some [])) : Marks B ds w' := by
  refine ⟨fun d hd => ?_, h.2⟩
  obtain ⟨D, e, h1, h2⟩ := h.1 d hd
  exact ⟨D, e, h1, (hf.block D (Array.getElem?_eq_some_iff.1 h2).1 fun hs => hS D hs _ h2 rfl).trans h2⟩
theorem leaves_marks {fn : Func} {tmps : Array Value} {R : Ending → World → Prop} {v : Value} (hv : ∀ w, (results fn tmps).run Try.prog w = .ok v w) {B : Nat} {w0 : World} (hB : w0.heap.size ≤ B) (hR : ∀ w, Ext w0 w → R (.returned v) w) : ∀ (ds : List Deferred) (w : World), Marks B ds w → Ext w0 w → LeavesInM Fence.wide 0 Try.prog fn tmps R ds .returning w
  | [], w, _, e => ⟨v, hv w, hR w e⟩
  | d :: ds, w, hm, e => by
    obtain ⟨D, rfl, hD, hd⟩ := hm.1 d (by simp)
    have f : Fr (fun k => k = D) w (w.putObj D (.deferred none)) := Fr.putObj w _ _ rfl
    have hp := List.pairwise_cons.1 hm.2
    refine ⟨by simp, .inl ⟨D, _, rfl, run_takeDeferred hd, leaves_marks hv hB hR ds _ ⟨fun d' hd' => ?_, hp.2⟩ ⟨f.os.trans e.os, f.tape.trans e.tape, f.output.trans e.output, Nat.le_trans e.size f.size, fun k hk _ => (f.block k (Nat.lt_of_lt_of_le hk e.size) (by show ¬ k = D; omega)).trans (e.block k hk fun h => h)⟩⟩⟩
    obtain ⟨D', rfl, h1, h2⟩ := hm.1 d' (by simp [hd'])
    refine ⟨D', rfl, h1, (f.block D' (Array.getElem?_eq_some_iff.1 h2).1 fun e => ?_).trans h2⟩
    have e : D' = D := e
    subst e
    exact hp.1 _ hd' rfl
theorem range_run {W : World} {mb : Nat} {es : Array MapEntry} {clock : Nat} (h : W.heap[mb]? = some (.map es clock)) : (Instr.range 145 (.map (some mb))).run Try.prog W = .ok (.pointer (some ⟨W.heap.size, 0, none⟩)) (W.alloc (.mapIter (some mb) clock #[] clock)) := by
  have ht : und Try.prog 145 = some (.map 3 3) := by kernel_rfl
  simp only [Instr.range, Sem.run_bind, run_und ht, Result.andThen_ok, getObj, Sem.run, h, newObj]
  rfl
def cntV (cnt : Nat → Nat) : Value → Nat
  | .int _ i => cnt i.toNat
  | _ => 0
def totS (cnt : Nat → Nat) (es : Array MapEntry) (seen : Array Nat) : Nat := ((es.toList.filter fun e => seen.contains e.born).map fun e => cntV cnt e.val).sum
theorem tot_add (cnt : Nat → Nat) (l : List MapEntry) (seen : Array Nat) (e : MapEntry) (he : e ∈ l) (hs : seen.contains e.born = false) (hn : (l.map (·.born)).Nodup) :
    ((l.filter fun x => (seen.push e.born).contains x.born).map fun x => cntV cnt x.val).sum = ((l.filter fun x => seen.contains x.born).map fun x => cntV cnt x.val).sum + cntV cnt e.val := by
  induction l with
  | nil => cases he
  | cons x l ih =>
    rw [List.map_cons, List.nodup_cons] at hn
    have hc : (seen.push e.born).contains x.born = (seen.contains x.born || x.born == e.born) := contains_push seen e.born x.born
    rw [List.filter_cons, List.filter_cons, hc]
    rcases List.mem_cons.1 he with rfl | he
    · have hrest : (l.filter fun y => (seen.push e.born).contains y.born) = l.filter fun y => seen.contains y.born := by
        apply List.filter_congr
        intro y hy
        have : (y.born == e.born) = false := by
          simp only [beq_eq_false_iff_ne]
          intro heq
          exact hn.1 (List.mem_map.2 ⟨y, hy, heq⟩)
        rw [contains_push, this, Bool.or_false]
      rw [hs, hrest]; simp; omega
    · have hne : (x.born == e.born) = false := by
        simp only [beq_eq_false_iff_ne]
        intro heq
        exact hn.1 (List.mem_map.2 ⟨e, he, heq.symm⟩)
      rw [hne, Bool.or_false]
      cases seen.contains x.born with
      | true => simp only [if_true, List.map_cons, List.sum_cons]; rw [ih he hn.2]; omega
      | false => simp only [Bool.false_eq_true, if_false]; exact ih he hn.2
theorem setBlock_fr (w : World) (r : Nat) (o : Obj) : Fr (fun k => k = r) w (ChangeMaps.setBlock w r o) := ⟨rfl, rfl, rfl, by simp [ChangeMaps.setBlock], fun k _ hk => by simp [ChangeMaps.setBlock, Array.getElem?_setIfInBounds_ne (Ne.symm hk)]⟩
structure Whole (A : Ar) (cnt : Nat → Nat) : Prop where
  tr : ∀ p ∈ A.trees, ∃ H es ps, Tree A.nd A.fan H (0, 2) p.2 none none es ps ∧ ps.length = cnt p.2 ∧ ps.length ≤ A.at_.length
  sum : (A.trees.map fun p => cnt p.2).sum = A.nodes
  le : A.nodes ≤ A.most
  f1 : 4 ≤ A.fan
  f2 : A.fan ≤ 64
  free : A.free.length ≤ A.at_.length
  len : A.at_.length ≤ 131072
theorem shape_in {R M : Nat → Prop} {w : World} {g : Nat} {A : Ar} (h : Ar1 R M w g A) {H i : Nat} {es : Es} {ps : List Nat} (ht : Tree A.nd A.fan H (0, 2) i none none es ps) (hf : A.fan ≤ 64) (hH : H ≤ 1048576) : CallsIn Fence.wide 0 Try.prog 119 #[.pointer (some ⟨g, 0, none⟩), .int .i64 (i : Int), .slice none 0 0, .slice none 0 0, .bool true] w fun e w' => e = .returned (.int .i64 (H : Int)) ∧ Ext w w' := by
  refine callsIn_wide.2 (Calls.mono (shape_spec H true 0 0 h ht hf hH (fun _ => Nat.le_refl _) (fun h => by cases h) (.inl rfl) (.inl rfl)) ?_)
  rintro e w' ⟨v, rfl, rfl, he⟩
  exact ⟨rfl, he⟩
theorem chk_sel : noSel chkOps = true := by kernel_rfl
theorem ents {A : Ar} {es : Array MapEntry} (h : es.toList.map (fun e => (e.key, e.val)) = (mapE A.trees).map (fun p => (fI p.1, p.2))) :
    (∀ e ∈ es.toList, ∃ p ∈ A.trees, e.val = iv p.2) ∧ ∀ cnt : Nat → Nat, (es.toList.map fun e => cntV cnt e.val) = A.trees.map fun p => cnt p.2 := by
  have h2 : es.toList.map (fun e => e.val) = A.trees.map fun p => iv p.2 := by
    have := congrArg (List.map Prod.snd) h
    simpa [mapE, List.map_map, Function.comp_def] using this
  refine ⟨fun e he => ?_, fun cnt => ?_⟩
  · have : e.val ∈ es.toList.map (fun e => e.val) := List.mem_map.2 ⟨e, he, rfl⟩
    rw [h2] at this
    obtain ⟨p, hp, h3⟩ := List.mem_map.1 this
    exact ⟨p, hp, h3.symm⟩
  · have := congrArg (List.map (cntV cnt)) h2
    simpa [List.map_map, Function.comp_def, cntV] using this
theorem sum_filter_le (l : List MapEntry) (f : MapEntry → Nat) (p : MapEntry → Bool) : ((l.filter p).map f).sum ≤ (l.map f).sum := by
  induction l with
  | nil => simp
  | cons x l ih =>
    rw [List.filter_cons]
    cases p x with
    | true => simp only [if_true, List.map_cons, List.sum_cons]; omega
    | false => simp only [Bool.false_eq_true, if_false, List.map_cons, List.sum_cons]; omega
theorem tot_le (cnt : Nat → Nat) (es : Array MapEntry) (seen : Array Nat) : totS cnt es seen ≤ (es.toList.map fun e => cntV cnt e.val).sum := sum_filter_le _ _ _
theorem tot_all (cnt : Nat → Nat) {es : Array MapEntry} {seen : Array Nat} (h : (leftOf es seen).size = 0) : totS cnt es seen = (es.toList.map fun e => cntV cnt e.val).sum := by
  unfold totS
  congr 2
  refine List.filter_eq_self.2 fun e he => ?_
  have : leftOf es seen = #[] := Array.eq_empty_of_size_eq_zero h
  unfold leftOf at this
  rw [Array.filter_eq_empty_iff] at this
  simpa using this e (by simpa using he)
theorem left_lt {es : Array MapEntry} {seen : Array Nat} {e : MapEntry} (he : e ∈ es.toList) (hs : seen.contains e.born = false) : (leftOf es (seen.push e.born)).size < (leftOf es seen).size := by
  have e1 : ∀ s : Array Nat, (leftOf es s).size = (es.toList.filter fun e => !s.contains e.born).length := fun s => by
    unfold leftOf
    rw [← Array.toList_filter, Array.length_toList]
  have e2 : (es.toList.filter fun x => !(seen.push e.born).contains x.born) = (es.toList.filter fun x => !seen.contains x.born).filter fun x => !(seen.push e.born).contains x.born := by
    rw [List.filter_filter]
    refine List.filter_congr fun x _ => ?_
    rw [contains_push]
    cases seen.contains x.born <;> cases x.born == e.born <;> rfl
  rw [e1, e1, e2]
  refine List.length_filter_lt_length_iff_exists.2 ⟨e, List.mem_filter.2 ⟨he, by rw [hs]; rfl⟩, ?_⟩
  rw [contains_push]; simp
structure ChkRel (R M : Nat → Prop) (w : World) (g nb it : Nat) (At : Option Addr) (ac : Nat) (Fa : Option Addr) (fc mb : Nat) (A : Ar) (cnt : Nat → Nat) (es : Array MapEntry) (clock : Nat) (N : Nat) (ds : List Deferred) (u : World) (seen : Array Nat) (c0 : Nat) : Prop where
  it : u.heap[it]? = some (.mapIter (some mb) clock seen c0)
  c0 : clock ≤ c0
  mp : u.heap[mb]? = some (.map es clock)
  n : Blk u nb [iv (totS cnt es seen)]
  a : ArA R M u g At ac Fa fc mb A
  e : Ext w u
  m : Marks w.heap.size ds u
  N : N = (leftOf es seen).size
set_option maxRecDepth 100000 in
set_option maxHeartbeats 2000000 in
theorem Check_in {R M : Nat → Prop} {w : World} {g : Nat} {A : Ar} (h : Ar1 R M w g A) {cnt : Nat → Nat} (Wh : Whole A cnt) :
    CallsIn Fence.wide 0 Try.prog 83 #[.pointer (some ⟨g, 0, none⟩)] w fun e w' => ∃ v, e = .returned v ∧ v = .int .i64 0 ∧ Ext w w' := by
  have hf := Wh.f1
  have hlenA := Wh.len
  have hRlt := h.lt
  refine callsIn_of_wp_marks Try.func83 chk_body trivial ?_ rfl
  simp only [Try.ntmps83, List.size_toArray, List.length_cons, List.length_nil, Nat.reduceAdd, Nat.reduceSub, Array.replicate_succ, Array.replicate_zero, List.push_toArray, List.append_toArray, List.nil_append, List.cons_append]
  simp only [chk0, chk1, chk3, chk4, Try.f83]
  gi_wp2
  refine ⟨trivial, rfl, (made_in h (by omega)).mono ?_⟩
  rintro e w' ⟨rfl, hw'⟩
  obtain rfl : w = w' := hw'.symm
  have e1 : Ext w (w.alloc (Obj.cells #[Value.int IntKind.i64 0] 3)) := Fr.alloc NoB w _
  have hbn : Blk (w.alloc (Obj.cells #[Value.int IntKind.i64 0] 3)) w.heap.size [.int .i64 0] := Blk.alloc w [.int .i64 0] 3
  have hs1 : (w.alloc (Obj.cells #[Value.int IntKind.i64 0] 3)).heap.size = w.heap.size + 1 := by simp
  obtain ⟨At, ac, Fa, fc, mb, ha⟩ := h
  obtain ⟨es, clock, hes, hst⟩ := ha.stm
  have hmbl := ha.stm.lt
  have ha1 := ha.ext e1
  have hc4 : (w.alloc (Obj.cells #[Value.int IntKind.i64 0] 3)).cell? ⟨g, 4, none⟩ = some (.map (some mb)) := ha1.blk.cell0 rfl
  have hes1 := (e1.block mb hmbl (fun h => h)).trans hes
  gi_wp2
  rw [range_run hes1]
  generalize hw1 : w.alloc (Obj.cells #[Value.int IntKind.i64 0] 3) = w1 at *
  have e2 : Ext w1 (w1.alloc (.mapIter (some mb) clock #[] clock)) := Fr.alloc NoB w1 _
  have hit2 : (w1.alloc (.mapIter (some mb) clock #[] clock)).heap[w1.heap.size]? = some (.mapIter (some mb) clock #[] clock) := Go.heap_alloc_new w1 _
  gi_wp2
  -- the entries, and the trees
  obtain ⟨es', clock', hes', hmap⟩ := ha.trees
  rw [hes] at hes'
  obtain ⟨rfl, rfl⟩ : es = es' ∧ clock = clock' := by simpa using hes'
  obtain ⟨hborn, hnd, hkeys⟩ := (Go.MapKept.stamped_iff es clock).1 hst
  rw [hs1] at hit2
  refine wpIn_loop (fun a u => a.tmps.size = 40 ∧ a.tmps[0]? = some (.pointer (some ⟨g, 0, none⟩)) ∧ a.tmps[2]? = some (.int .i64 0) ∧ a.tmps[3]? = some (.pointer (some ⟨w.heap.size, 0, none⟩)) ∧ a.tmps[13]? = some (.pointer (some ⟨w.heap.size + 1, 0, none⟩)) ∧ ∃ N seen c0, ChkRel R M w g w.heap.size (w.heap.size + 1) At ac Fa fc mb A cnt es clock N a.defers u seen c0)
    (fun a u => leastN fun N => ∃ seen c0, ChkRel R M w g w.heap.size (w.heap.size + 1) At ac Fa fc mb A cnt es clock N a.defers u seen c0) ?_ ?_
  · refine ⟨rfl, rfl, rfl, rfl, rfl, _, #[], clock, hit2, Nat.le_refl _, (e2.block mb (by omega) (fun h => h)).trans hes1, ?_, ha1.ext e2, e1.trans' e2, ⟨fun d hd => by (have : d ∈ ([] : List Deferred) := hd); simp at this, List.Pairwise.nil⟩, rfl⟩
    have : totS cnt es #[] = 0 := by
      unfold totS
      have : (es.toList.filter fun e => (#[] : Array Nat).contains e.born) = [] := List.filter_eq_nil_iff.2 fun e _ => by simp
      rw [this]; rfl
    rw [this]; exact hbn.ext e2
  · rintro ⟨tmps, ds⟩ u ⟨hsz, t0, t2, t3, t13, hN⟩
    have hex : ∃ N, ∃ seen c0, ChkRel R M w g w.heap.size (w.heap.size + 1) At ac Fa fc mb A cnt es clock N ds u seen c0 := hN
    obtain ⟨⟨seen, c0, hR⟩, hmin⟩ := leastN_spec hex
    generalize hN0 : (leastN fun N => ∃ seen c0, ChkRel R M w g w.heap.size (w.heap.size + 1) At ac Fa fc mb A cnt es clock N ds u seen c0) = N0 at *
    obtain ⟨x0, x1, x2, x3, x4, x5, x6, x7, x8, x9, x10, x11, x12, x13, x14, x15, x16, x17, x18, x19, x20, x21, x22, x23, x24, x25, x26, x27, x28, x29, x30, x31, x32, x33, x34, x35, x36, x37, x38, x39, hT⟩ := list40 (a := ⟨tmps, ds⟩) hsz
    dsimp only at hT
    subst hT
    simp only [List.getElem?_toArray, List.getElem?_cons_zero, List.getElem?_cons_succ, Option.some.injEq] at t0 t2 t3 t13
    subst t0; subst t2; subst t3; subst t13
    refine wpIn_seq ?_
    simp only [chk5, Try.f83]
    gi_wp2
    rcases run_next_at (P := Try.prog) u 0 (w.heap.size + 1) mb clock c0 seen es clock hR.it hR.mp hborn hR.c0 with ⟨h0, hrun⟩ | ⟨e, he, u1, hu1, hrun⟩
    · -- no tree more
      rw [hrun]
      gi_wp2
      have hcnt : totS cnt es seen = A.nodes := by rw [tot_all cnt h0, (ents hmap).2 cnt, Wh.sum]
      have hag : Agrees 40 (Env.set (Env.set (fun _ => none) 0 (some (.pointer (some ⟨g, 0, none⟩)))) 3 (some (.pointer (some ⟨w.heap.size, 0, none⟩)))) { tmps := #[.pointer (some ⟨g, 0, none⟩), x1, .int .i64 0, .pointer (some ⟨w.heap.size, 0, none⟩), x4, x5, x6, x7, x8, x9, x10, x11, x12, .pointer (some ⟨w.heap.size + 1, 0, none⟩), .tuple #[.bool false], .bool false, x16, x17, x18, x19, x20, x21, x22, x23, x24, x25, x26, x27, x28, x29, x30, x31, x32, x33, x34, x35, x36, x37, x38, x39], defers := [] } := by
        refine ⟨rfl, rfl, fun t v hv => ?_⟩
        rcases set_get hv with ⟨e, hv2⟩ | hv2
        · rw [e, ← hv2]; rfl
        rcases set_get hv2 with ⟨e, hv3⟩ | hv3
        · rw [e, ← hv3]; rfl
        · cases hv3
      refine wpIn_mono (region_D okay 11 chkOps ds (kV 39 fun v w' => v = .bool false ∧ Ext u w') _ { tmps := #[.pointer (some ⟨g, 0, none⟩), x1, .int .i64 0, .pointer (some ⟨w.heap.size, 0, none⟩), x4, x5, x6, x7, x8, x9, x10, x11, x12, .pointer (some ⟨w.heap.size + 1, 0, none⟩), .tuple #[.bool false], .bool false, x16, x17, x18, x19, x20, x21, x22, x23, x24, x25, x26, x27, x28, x29, x30, x31, x32, x33, x34, x35, x36, x37, x38, x39], defers := [] } u hag chk_sel ?_) ?_
      · rw [← chkR.eq]
        unfold chkR.W
        refine ⟨fun v => Ext u v, Fr.drew NoB u, _, fun v e => (hR.n.ext e).cell0 rfl, ?_⟩
        refine Calls.mono (Nodes_spec ⟨_, _, _, _, _, hR.a.ext (Fr.drew NoB u)⟩ Wh.free (by omega)) ?_
        rintro e' w' ⟨v, rfl, rfl, rfl⟩
        have ed2 : Ext u u.drew.drew := (Fr.drew NoB u).ext (Fr.drew NoB _)
        refine ⟨_, rfl, _, rfl, ed2, brf (by rw [hcnt]; simp) ⟨fun v => Ext u v, ed2, _, fun v e => (hR.n.ext e).cell0 rfl, _, rfl, _, fun v e => (hR.a.blk.ext e).cell rfl, ?_, ed2⟩⟩
        rw [hcnt]
        have := Wh.le
        exact congrArg Value.bool (decide_eq_false (by omega))
      · rintro e a' w' ⟨a1, rfl, hq⟩
        cases e with
        | normal =>
          obtain ⟨_, ρ', hag', h5⟩ := hq
          obtain ⟨_, v, hv, rfl, e5⟩ := kV_elim h5
          have h39 := hag'.at_ _ _ hv
          have hsz' := hag'.size
          obtain ⟨y0, y1, y2, y3, y4, y5, y6, y7, y8, y9, y10, y11, y12, y13, y14, y15, y16, y17, y18, y19, y20, y21, y22, y23, y24, y25, y26, y27, y28, y29, y30, y31, y32, y33, y34, y35, y36, y37, y38, y39, hT⟩ := list40 (a := a1) hsz'
          rw [hT] at h39 ⊢
          simp only [List.getElem?_toArray, List.getElem?_cons_zero, List.getElem?_cons_succ, Option.some.injEq] at h39
          subst h39
          gi_wp2
          simp only [chkC, Try.f83]
          gi_wp2
          simp only [chkZ, Try.f83]
          gi_wp2
          refine leaves_marks (v := .int .i64 0) (fun w => (results_tmp (t := 2) rfl _ _ w).trans rfl) (Nat.le_refl _) (fun u' e6 => ⟨_, rfl, rfl, e6⟩) ds _ (hR.m.keep e5 fun k hk => hk.elim) (hR.e.trans' e5)
        | panic _ => exact hq.elim
        | outgrown => exact hq.elim
        | ret => obtain ⟨_, ρ', _, h5⟩ := hq; exact h5.elim
        | exit _ => obtain ⟨_, ρ', _, h5⟩ := hq; exact h5.elim
        | goto _ => obtain ⟨_, ρ', _, h5⟩ := hq; exact h5.elim
    · rw [hrun]
      gi_wp2
      simp only [chk6, Try.f83]
      gi_wp2
      have hitl : w.heap.size + 1 < u.heap.size := (Array.getElem?_eq_some_iff.1 hR.it).1
      have f1 : Fr (fun k => k = w.heap.size + 1) u (ChangeMaps.setBlock u1 (w.heap.size + 1) (Obj.mapIter (some mb) clock (seen.push e.born) clock)) := by
        rcases hu1 with rfl | rfl
        · exact setBlock_fr _ _ _
        · exact (Ext.fr (Fr.drew NoB u)).ext (setBlock_fr _ _ _)
      have hit5 : (ChangeMaps.setBlock u1 (w.heap.size + 1) (Obj.mapIter (some mb) clock (seen.push e.born) clock)).heap[w.heap.size + 1]? = some (Obj.mapIter (some mb) clock (seen.push e.born) clock) := by
        rcases hu1 with rfl | rfl
        · simp [ChangeMaps.setBlock, hitl]
        · have : w.heap.size + 1 < u.drew.heap.size := hitl
          simp only [ChangeMaps.setBlock]; rw [Array.getElem?_setIfInBounds_self_of_lt this]
      generalize hu2 : ChangeMaps.setBlock u1 (w.heap.size + 1) (Obj.mapIter (some mb) clock (seen.push e.born) clock) = u2 at *
      have hmp2 : u2.heap[mb]? = some (.map es clock) := (f1.block mb (Array.getElem?_eq_some_iff.1 hR.mp).1 (by show ¬ mb = _; omega)).trans hR.mp
      have hee : e ∈ es.toList := by have := he; unfold leftOf at this; simp at this; simpa using this.1
      have hes0 : seen.contains e.born = false := by have := he; unfold leftOf at this; simp at this; simpa using this.2
      obtain ⟨p, hp, hpv⟩ := (ents hmap).1 e hee
      obtain ⟨H, les, ps, hT, hpl, hpl2⟩ := Wh.tr p hp
      rw [run_entry_at u2 (w.heap.size + 1) mb clock seen es clock e hit5 hmp2 hee hnd]
      gi_wp2
      simp only [chk7, Try.f83]
      gi_wp2
      have ha2 := hR.a.frame f1 (fun k _ hk hr => by have := hRlt k hr; have : k = _ := hk; omega)
      refine ⟨trivial, rfl, (shape_in (A := A) ⟨_, _, _, _, _, ha2⟩ hT Wh.f2 (by have := (Tree.height hT).2; omega)).mono ?_⟩
      rintro e' u3 ⟨rfl, e3⟩
      have hH : 1 ≤ H := (Tree.height hT).1
      have hHd : decide ((H : Int) = 0) = false := decide_eq_false (by omega)
      dsimp only
      gi_wp2
      simp only [chk9, Try.f83]
      gi_wp2
      refine ⟨trivial, rfl, (all_in _ g p.2).mono ?_⟩
      rintro e' u5 ⟨b1, b2, rfl, hb1, hb2, e5, hg1, hg2, hne⟩
      gi_wp2
      have ht : isTree A (H, p.2) := ⟨_, _, _, _, _, hT⟩
      have hlenF := allF_len H hT
      have hb1l := hb1.lt
      have hb2l := hb2.lt
      have e25 : Ext u2 u5 := e3.trans' e5
      have f5 : Fr (fun k => k = w.heap.size + 1) u u5 := f1.ext (Ext.fr e25)
      have hs5 := f5.size
      have hs2 := f1.size
      have hs3 := e3.size
      have hes := hR.e.size
      have ha5 := ha2.ext e25
      have hn5 := hR.n.keep f5 (by omega)
      have htl : totS cnt es (seen.push e.born) = totS cnt es seen + cnt p.2 := by
        unfold totS
        rw [tot_add cnt es.toList seen e hee hes0 hnd, hpv]; rfl
      have htb : totS cnt es seen + cnt p.2 ≤ A.nodes := by
        rw [← htl, ← Wh.sum, ← (ents hmap).2 cnt]; exact tot_le _ _ _
      have hAn : A.nodes ≤ 131072 := by have : A.nodes = A.at_.length - A.free.length := rfl; omega
      refine range_all (enc := iv) (xs := allF H A p.2) (gf := 133) (lb := #[.pointer (some ⟨b1, 0, none⟩), .pointer (some ⟨b2, 0, none⟩)]) rfl (enters_of Try.func133 (by kernel_rfl) rfl) (fun k => k = w.heap.size) (by rintro k rfl; omega) ?hit rfl
        (fun pre U => Blk U w.heap.size [iv (totS cnt es seen + pre.length)] ∧ Fr (fun k => k = w.heap.size) u5 U) ?hI ⟨by simpa using hn5, .refl _ _⟩
        (fun x => { tmps := #[.pointer (some ⟨g, 0, none⟩), x1, .int .i64 0, .pointer (some ⟨w.heap.size, 0, none⟩), x4, iv p.2, x6, x7, x8, x9, x10, x11, x12, .pointer (some ⟨w.heap.size + 1, 0, none⟩), .tuple #[.bool true, e.key, iv p.2], .bool true, .tuple #[e.key, iv p.2], iv p.2, .pointer (some ⟨g, 0, none⟩), iv p.2, .int .i64 (H : Int), .bool false, .pointer (some ⟨g, 0, none⟩), iv p.2, .func (.func 133) #[] #[.pointer (some ⟨b1, 0, none⟩), .pointer (some ⟨b2, 0, none⟩)], iv x, x26, x27, x28, x29, x30, x31, x32, x33, x34, x35, x36, x37, x38, x39], defers := [] }) ?assign ?body ?done
      case hit =>
        intro l T' J W eW hT' hJ hY h0
        refine all1_spec ⟨_, _, _, _, _, ha5.ext eW⟩ ht (by omega) (hb1.ext eW) (hb2.ext eW) T' (fun k hk => ?_) J hJ hY h0
        obtain ⟨h1, h2⟩ := hT' k hk
        refine ⟨h2, fun hr => ?_, ?_⟩
        · have := hRlt k hr; rcases h1 with h1 | h1 <;> omega
        · rcases h1 with h1 | h1 <;> omega
      case hI =>
        rintro pre U U' ⟨h1, h2⟩ hf'
        have hn : ∀ k, k < u5.heap.size → ¬ u5.heap.size ≤ k := fun k hk => by omega
        refine ⟨h1.keep hf' (hn _ (by omega)), h2.trans hf' (fun k _ h => h) (fun k hk h => absurd h (hn k hk))⟩
      case assign =>
        intro l x W K hK
        gi_wp2
        exact hK
      case body =>
        rintro l pre x rest U hxs ⟨h1, h2⟩ hsz
        have hpl : pre.length + 1 ≤ ps.length := by have := congrArg List.length hxs; simp at this; omega
        have hcU : U.cell? ⟨w.heap.size, 0, none⟩ = some (iv (totS cnt es seen + pre.length)) := h1.cell0 rfl
        simp only [chkB, Try.f83]
        have hfz := h1.unfrozen0 0
        gi_wp2
        obtain ⟨q1, q2⟩ := setF h1 (o := 0) (by simp) (.int .i64 ((totS cnt es seen : Int) + pre.length + 1))
        obtain ⟨b3, f3⟩ := q2 _ rfl
        have b3' : Blk (U.setCell ⟨w.heap.size, 0, none⟩ (.int .i64 ((totS cnt es seen : Int) + pre.length + 1))) w.heap.size [.int .i64 ((totS cnt es seen : Int) + pre.length + 1)] := b3
        have f3' : Fr (fun k => k = w.heap.size) U (U.setCell ⟨w.heap.size, 0, none⟩ (.int .i64 ((totS cnt es seen : Int) + pre.length + 1))) := f3
        refine ⟨f3', ?_, h2.ext f3'⟩
        rw [show iv (totS cnt es seen + (pre.length + 1)) = .int .i64 ((totS cnt es seen : Int) + pre.length + 1) by simp [iv, Int.natCast_add]; omega]
        exact b3'
      case done =>
        rintro D W hD ⟨h1, h2⟩ hdef hsz
        gi_wp2
        have f6 : Fr (fun k => k = w.heap.size + 1 ∨ k = w.heap.size) u W := f5.trans h2 (fun _ _ h => .inl h) (fun _ _ h => .inr h)
        have hR' : ChkRel R M w g w.heap.size (w.heap.size + 1) At ac Fa fc mb A cnt es clock (leftOf es (seen.push e.born)).size ({ target := .collected D, args := #[] } :: ds) W (seen.push e.born) clock := by
          have hmk := hR.m.keep f6 (fun k hk o ho e => by
            rcases hk with rfl | rfl
            · rw [hR.it] at ho; cases ho; cases e
            · obtain ⟨ty, hb⟩ := hR.n
              rw [hb] at ho; cases ho; cases e)
          refine ⟨((Ext.fr e25 : Fr (fun k => k = w.heap.size) u2 u5).ext h2).block _ (Array.getElem?_eq_some_iff.1 hit5).1 (by show ¬ _ = _; omega) |>.trans hit5, Nat.le_refl _, (f6.block mb (Array.getElem?_eq_some_iff.1 hR.mp).1 (by show ¬ (_ ∨ _); omega)).trans hR.mp, ?_, hR.a.frame f6 (fun k _ hk hr => by have := hRlt k hr; rcases hk with hk | hk <;> omega), hR.e.fr.trans f6 (fun _ _ h => h) (fun k hk h => by rcases h with h | h <;> omega), ⟨fun d hd => ?_, List.pairwise_cons.2 ⟨fun d hd => ?_, hmk.2⟩⟩, rfl⟩
          · rw [htl, ← hpl, ← hlenF]; exact h1
          · rcases List.mem_cons.1 hd with rfl | hd
            · exact ⟨D, rfl, by omega, hdef⟩
            · exact hmk.1 d hd
          · obtain ⟨D', rfl, hB', hd'⟩ := hR.m.1 d hd
            have := (Array.getElem?_eq_some_iff.1 hd').1
            intro h
            have : D = D' := by simpa using h
            omega
        refine ⟨⟨rfl, rfl, rfl, rfl, rfl, _, _, _, hR'⟩, ?_⟩
        refine Nat.lt_of_le_of_lt ((leastN_spec ⟨_, _, _, hR'⟩).2 _ ⟨_, _, hR'⟩) ?_
        rw [hR.N]
        exact left_lt hee hes0
theorem Check_spec {R M : Nat → Prop} {w : World} {g : Nat} {A : Ar} (h : Ar1 R M w g A) {cnt : Nat → Nat} (Wh : Whole A cnt) : CallsV Try.prog 83 #[.pointer (some ⟨g, 0, none⟩)] w fun r w' => r = .int .i64 0 ∧ Ext w w' := callsIn_wide.1 (Check_in h Wh)
end Go.Proofs.Ythfagbfllheneaa
set_option linter.unusedVariables false
set_option linter.unusedSimpArgs false
namespace Go.Proofs.Ythfagbfllheneaa
open Go Go.Sx T4
/-! ## how many places there are -/
structure Gr (A A' : Ar) : Prop where
  a : A.nodes ≤ A'.nodes
  b : A'.at_.length ≤ max A.at_.length A'.nodes
theorem Gr.refl (A : Ar) : Gr A A := ⟨Nat.le_refl _, by omega⟩
theorem Gr.trans {A B C : Ar} (h : Gr A B) (h' : Gr B C) : Gr A C := ⟨by have := h.a; have := h'.a; omega, by have := h.a; have := h.b; have := h'.a; have := h'.b; omega⟩
theorem gr_set (A : Ar) (i : Nat) (n : Nod) : Gr A (setN A i n) := ⟨by simp [Ar.nodes, setN], by simp [Ar.nodes, setN]⟩
theorem gr_place (A : Ar) (n : Nod) : Gr A (place A n).1 := by
  unfold place
  by_cases h : A.free.length = 0
  · rw [if_pos h]; exact ⟨by simp [Ar.nodes]; omega, by simp [Ar.nodes]; try omega⟩
  · rw [if_neg h]; exact ⟨by simp [Ar.nodes]; omega, by simp [Ar.nodes]⟩
theorem gr_split (A : Ar) (i : Nat) (n : Nod) : Gr A (splitF A i n).1 := by
  unfold splitF
  split
  · exact gr_set _ _ _
  · dsimp only
    split
    · exact ((gr_set _ _ _).trans (gr_set _ _ _)).trans (gr_place _ _)
    · exact ((gr_set _ _ _).trans (gr_set _ _ _)).trans (gr_place _ _)
theorem gr_put : ∀ (h : Nat) (A : Ar) (i : Nat) (key val : Key), Gr A (putF h A i key val).1
  | 0, A, i, key, val => by simp [putF]; exact Gr.refl A
  | h + 1, A, i, key, val => by
    rw [putF]
    dsimp only
    split
    · exact gr_split _ _ _
    · have ih := gr_put h A (kid (nodeAt A i) (bel (nodeAt A i).keys key)) key val
      split
      · exact ih
      · exact ih.trans (gr_split _ _ _)
theorem gr_putTop (h : Nat) (A : Ar) (i : Nat) (key val : Key) : Gr A (putTop h A i key val) := by
  unfold putTop
  dsimp only
  have ih := gr_put h A i key val
  split
  · exact ih
  · exact (ih.trans (gr_place _ _)).trans (gr_set _ _ _)
theorem even_len (A : Ar) (i k : Nat) : (evenF A i k).at_.length = A.at_.length := by
  unfold evenF
  dsimp only
  split
  · simp [setN, drop]
  · split <;> simp [setN]
theorem cut_len : ∀ (h : Nat) (A : Ar) (i : Nat) (key : Key), (cutF h A i key).at_.length = A.at_.length
  | 0, A, i, key => by simp [cutF]
  | h + 1, A, i, key => by
    rw [cutF]
    dsimp only
    split
    · simp [setN]
    · have ih := cut_len h A (kid (nodeAt A i) (bel (nodeAt A i).keys key)) key
      split
      · rw [even_len]; exact ih
      · exact ih
theorem delTop_len (h : Nat) (A : Ar) (i : Nat) (key : Key) : (delTop h A i key).at_.length = A.at_.length := by
  unfold delTop
  dsimp only
  have := cut_len h A i key
  split
  · simp [setN, drop, this]
  · exact this
theorem dropAll_len : ∀ (l : List Nat) (A : Ar), (dropAll A l).at_.length = A.at_.length
  | [], A => rfl
  | x :: l, A => by
    have := dropAll_len l (drop A x)
    rw [show dropAll A (x :: l) = dropAll (drop A x) l from rfl, this]; simp [drop]
theorem flatMap_eq {α β : Type} {l : List α} {f g : α → List β} (h : ∀ x ∈ l, f x = g x) : l.flatMap f = l.flatMap g := by
  induction l with
  | nil => rfl
  | cons x l ih => rw [List.flatMap_cons, List.flatMap_cons, h x (by simp), ih fun y hy => h y (by simp [hy])]
/-! ## the places below one, by any measure that is great enough -/
theorem allF_more : ∀ (H F : Nat) {A : Ar} {fan : Nat} {mn : Nat × Nat} {i : Nat} {lo hi : Option Key} {es : Es} {ps : List Nat}, Tree A.nd fan H mn i lo hi es ps → H ≤ F → allF F A i = allF H A i
  | 0, _, _, _, _, _, _, _, _, _, h, _ => h.elim
  | H + 1, 0, _, _, _, _, _, _, _, _, _, hF => by omega
  | H + 1, F + 1, A, fan, mn, i, lo, hi, es, ps, h, hF => by
    obtain ⟨n, hn, _, hc⟩ := tree_node h
    have hna : nodeAt A i = n := by simp [nodeAt, hn]
    rw [allF, allF, hna]
    congr 1
    rcases hc with ⟨e0, hk, _⟩ | ⟨k, ek, _, _, _, _, _, hall, _⟩
    · rw [hk]; rfl
    · obtain rfl : H = k := by omega
      refine flatMap_eq fun j hj => ?_
      obtain ⟨c, hc, rfl⟩ := List.mem_iff_getElem.1 (List.mem_reverse.1 hj)
      obtain ⟨lo', hi', es', ps', h'⟩ := hall c hc
      have : kid n c = n.kids[c] := by simp [kid, List.getD, hc]
      rw [← this]
      exact allF_more H F h' (by omega)
/-! ## all trees -/
structure Tr where
  r : Int
  i : Nat
  h : Nat
  es : Es
  ps : List Nat
structure Inv (A : Ar) (D : List Tr) : Prop where
  trees : A.trees = D.map fun d => (d.r, d.i)
  tree : ∀ d ∈ D, Tree A.nd A.fan d.h (0, 2) d.i none none d.es d.ps
  acc : T4.Acc A [] (D.flatMap fun d => d.ps)
  nd : (D.map fun d => d.r).Nodup
  last : ∀ d ∈ D, 1 ≤ d.r ∧ d.r ≤ (A.last : Int)
  f1 : 4 ≤ A.fan
  f2 : A.fan ≤ 64
  m : A.most ≤ 65536
  nodes : A.nodes ≤ A.most
  len : A.at_.length ≤ A.most
  cnt : D.length ≤ 1000
theorem getT_mem {D : List Tr} (hn : (D.map fun d => d.r).Nodup) {d : Tr} (hd : d ∈ D) : getT (D.map fun d => (d.r, d.i)) d.r = some d.i := by
  induction D with
  | nil => cases hd
  | cons x D ih =>
    rw [List.map_cons, List.nodup_cons] at hn
    show (if d.r = x.r then some x.i else getT (D.map fun d => (d.r, d.i)) d.r) = some d.i
    rcases List.mem_cons.1 hd with rfl | hd
    · rw [if_pos rfl]
    · rw [if_neg fun e => hn.1 (List.mem_map.2 ⟨d, hd, e⟩)]; exact ih hn.2 hd
theorem getT_none {D : List Tr} {r : Int} (h : ∀ d ∈ D, d.r ≠ r) : getT (D.map fun d => (d.r, d.i)) r = none := by
  induction D with
  | nil => rfl
  | cons x D ih =>
    show (if r = x.r then some x.i else getT (D.map fun d => (d.r, d.i)) r) = none
    rw [if_neg fun e => h x (by simp) e.symm]
    exact ih fun d hd => h d (by simp [hd])
theorem Inv.get {A : Ar} {D : List Tr} (h : Inv A D) {d : Tr} (hd : d ∈ D) : getT A.trees d.r = some d.i := by rw [h.trees]; exact getT_mem h.nd hd
theorem Inv.miss {A : Ar} {D : List Tr} (h : Inv A D) {r : Int} (hr : ∀ d ∈ D, d.r ≠ r) : getT A.trees r = none := by rw [h.trees]; exact getT_none hr
theorem flat_mid (D1 D2 : List Tr) (d : Tr) (x : Nat) : ((D1 ++ d :: D2).flatMap fun d => d.ps).count x = (D1.flatMap fun d => d.ps).count x + (D2.flatMap fun d => d.ps).count x + d.ps.count x := by
  rw [List.flatMap_append, List.flatMap_cons, List.count_append, List.count_append]; omega
theorem Inv.at_ {A : Ar} {D1 D2 : List Tr} {d : Tr} (h : Inv A (D1 ++ d :: D2)) : TreeAt A d.h d.i d.es d.ps ((D1.flatMap fun d => d.ps) ++ D2.flatMap fun d => d.ps) :=
  ⟨h.tree d (by simp), h.acc.perm fun x => by rw [flat_mid, List.count_append]; simp, h.f1, h.f2, by have := h.len; have := h.m; omega⟩
theorem Inv.whole {A : Ar} {D : List Tr} (h : Inv A D) : Whole A fun i => (allF (A.at_.length + 1) A i).length := by
  have key : ∀ d ∈ D, (allF (A.at_.length + 1) A d.i).length = d.ps.length ∧ d.ps.length ≤ A.at_.length := fun d hd => by
    obtain ⟨D1, D2, rfl⟩ := List.append_of_mem hd
    have T := h.at_
    have h1 := T.hl
    have h2 := T.acc.total
    rw [allF_more d.h _ T.tree (by omega)]
    exact ⟨allF_len d.h T.tree, by omega⟩
  refine ⟨fun p hp => ?_, ?_, h.nodes, h.f1, h.f2, (Acc.free h.acc).2, by have := h.len; have := h.m; omega⟩
  · rw [h.trees] at hp
    obtain ⟨d, hd, rfl⟩ := List.mem_map.1 hp
    exact ⟨d.h, d.es, d.ps, h.tree d hd, (key d hd).1.symm, (key d hd).2⟩
  · rw [h.acc.nodes, h.trees, List.map_map, List.length_flatMap]
    simp only [List.length_nil, Nat.zero_add]
    congr 1
    refine List.map_congr_left fun d hd => (key d hd).1
theorem Inv.change {A A' : Ar} {D1 D2 : List Tr} {d : Tr} (h : Inv A (D1 ++ d :: D2)) {h' : Nat} {es' : Es} {ps' : List Nat} (m : Mv A A' d.ps ps') (t : Tree A'.nd A.fan h' (0, 2) d.i none none es' ps') (hn : A'.nodes ≤ A.most) (hl : A'.at_.length ≤ A.most) : Inv A' (D1 ++ { d with h := h', es := es', ps := ps' } :: D2) := by
  obtain ⟨a1, a2⟩ := m.acc _ h.at_.acc
  refine ⟨?_, fun x hx => ?_, a1.perm fun x => by rw [flat_mid, List.count_append]; simp, ?_, fun x hx => ?_, by rw [m.fan]; exact h.f1, by rw [m.fan]; exact h.f2, by rw [m.most]; exact h.m, by rw [m.most]; exact hn, by rw [m.most]; exact hl, by have := h.cnt; simpa using this⟩
  · rw [m.trees, h.trees]; simp
  · rw [m.fan]
    have keep : ∀ x, x ∈ D1 ∨ x ∈ D2 → Tree A'.nd A.fan x.h (0, 2) x.i none none x.es x.ps := fun x hx => by
      refine Tree.keep (h.tree x ?_) fun j hj => a2 j ?_
      · rcases hx with hx | hx <;> simp [hx]
      · rw [List.mem_append, List.mem_flatMap, List.mem_flatMap]
        rcases hx with hx | hx
        · exact .inl ⟨x, hx, hj⟩
        · exact .inr ⟨x, hx, hj⟩
    rcases List.mem_append.1 hx with hx | hx
    · exact keep x (.inl hx)
    · rcases List.mem_cons.1 hx with rfl | hx
      · exact t
      · exact keep x (.inr hx)
  · have := h.nd; simpa using this
  · rw [m.last]
    rcases List.mem_append.1 hx with hx | hx
    · exact h.last x (by simp [hx])
    · rcases List.mem_cons.1 hx with rfl | hx
      · exact h.last d (by simp)
      · exact h.last x (by simp [hx])
theorem Inv.put {A : Ar} {D1 D2 : List Tr} {d : Tr} (h : Inv A (D1 ++ d :: D2)) (key val : Key) (hfull : putFull d.h A d.i key d.es = false) :
    ∃ h' ps', Inv (putTop d.h A d.i key val) (D1 ++ { d with h := h', es := insE key val d.es, ps := ps' } :: D2) ∧ ps'.length = d.ps.length + (if inE key d.es then 0 else wantsF A.fan (sizes d.h A d.i key)) := by
  obtain ⟨h', ps', m, t, hl⟩ := putTop_ok h.at_.tree h.at_.acc h.f1 key val
  have a1 := (m.acc _ h.at_.acc).1
  have e1 := a1.nodes
  have e2 := h.at_.acc.nodes
  have hm := h.nodes
  have hn : (putTop d.h A d.i key val).nodes ≤ A.most := by
    rw [e1, hl]
    unfold putFull at hfull
    cases hin : inE key d.es with
    | true => rw [if_pos rfl]; omega
    | false =>
      rw [hin] at hfull
      have := of_decide_eq_false (by simpa using hfull : decide (A.most < A.nodes + wantsF A.fan (sizes d.h A d.i key)) = false)
      simp only [Bool.false_eq_true, if_false]; omega
  exact ⟨h', ps', h.change m t hn (by have := (gr_putTop d.h A d.i key val).b; have := h.len; omega), hl⟩
theorem Inv.del {A : Ar} {D1 D2 : List Tr} {d : Tr} (h : Inv A (D1 ++ d :: D2)) {key : Key} (hin : inE key d.es = true) : ∃ h' ps', Inv (delTop d.h A d.i key) (D1 ++ { d with h := h', es := delE key d.es, ps := ps' } :: D2) := by
  obtain ⟨h', ps', m, t⟩ := delTop_ok h.at_.tree h.at_.acc h.f1 hin
  have a1 := (m.acc _ h.at_.acc).1
  have hl := delTop_len d.h A d.i key
  have := h.len
  exact ⟨h', ps', h.change m t (by unfold Ar.nodes; omega) (by omega)⟩
def mkT (A : Ar) : Ar := { (place { A with last := A.last + 1 } N0).1 with trees := A.trees ++ [(((A.last + 1 : Nat) : Int), (place { A with last := A.last + 1 } N0).2)] }
theorem Inv.made {A : Ar} {D : List Tr} (h : Inv A D) (hn : A.nodes < A.most) (hc : D.length < 1000) : ∃ i, Inv (mkT A) (D ++ [⟨((A.last + 1 : Nat) : Int), i, 1, [], [i]⟩]) := by
  obtain ⟨m, hp⟩ := mv_place { A with last := A.last + 1 } N0
  have hacc : T4.Acc { A with last := A.last + 1 } (D.flatMap fun d => d.ps) [] := h.acc.perm fun x => by simp
  obtain ⟨a1, a2⟩ := m.acc _ hacc
  have hp := hp ⟨_, _, hacc⟩
  have gr := gr_place { A with last := A.last + 1 } N0
  generalize hq : place { A with last := A.last + 1 } N0 = q at *
  have e1 := a1.nodes
  have e2 := h.acc.nodes
  have e3 : mkT A = { q.1 with trees := A.trees ++ [(((A.last + 1 : Nat) : Int), q.2)] } := by unfold mkT; rw [hq]
  have hb := gr.b
  have hno : q.1.nodes ≤ A.most := by
    simp only [List.length_nil, List.length_singleton, Nat.zero_add] at e1 e2
    have : A.nodes = (D.flatMap fun d => d.ps).length := e2
    omega
  refine ⟨q.2, ?_⟩
  rw [e3]
  refine ⟨?_, fun x hx => ?_, ?_, ?_, fun x hx => ?_, by rw [m.fan]; exact h.f1, by rw [m.fan]; exact h.f2, by rw [m.most]; exact h.m, by rw [m.most]; exact hno, ?_, by simp; omega⟩
  · show A.trees ++ _ = _
    rw [h.trees]; simp
  · show Tree q.1.nd q.1.fan _ _ _ _ _ _ _
    rw [m.fan]
    rcases List.mem_append.1 hx with hx | hx
    · exact Tree.keep (h.tree x hx) fun j hj => a2 j (List.mem_flatMap.2 ⟨x, hx, hj⟩)
    · obtain rfl := List.mem_singleton.1 hx
      refine ⟨N0, hp, by simp [Nod.size, N0], .inl ⟨rfl, Nat.zero_le _, rfl, rfl, rfl, ?_, fun k hk => by simp [N0] at hk, rfl⟩⟩
      exact List.Pairwise.nil
  · refine a1.perm fun x => ?_
    rw [List.flatMap_append, List.count_append]; simp
  · rw [List.map_append, List.map_singleton, List.nodup_append]
    refine ⟨h.nd, by simp, ?_⟩
    intro a ha b hb
    obtain ⟨x, hx, rfl⟩ := List.mem_map.1 ha
    rw [List.mem_singleton] at hb
    have := (h.last x hx).2
    subst hb
    intro e
    have : x.r = ((A.last + 1 : Nat) : Int) := e
    omega
  · show 1 ≤ x.r ∧ x.r ≤ ((q.1.last : Nat) : Int)
    rw [m.last]
    show 1 ≤ x.r ∧ x.r ≤ ((A.last + 1 : Nat) : Int)
    rcases List.mem_append.1 hx with hx | hx
    · have := h.last x hx; omega
    · obtain rfl := List.mem_singleton.1 hx
      exact ⟨by simp; omega, Int.le_refl _⟩
  · show q.1.at_.length ≤ q.1.most
    rw [m.most]
    have := h.len
    have : ({ A with last := A.last + 1 } : Ar).at_.length = A.at_.length := rfl
    have hb' : q.1.at_.length ≤ max A.at_.length q.1.nodes := hb
    show q.1.at_.length ≤ A.most
    omega
end Go.Proofs.Ythfagbfllheneaa
set_option linter.unusedVariables false
set_option linter.unusedSimpArgs false
namespace Go.Proofs.Ythfagbfllheneaa
open Go Go.Sx T4
theorem Stm.update {w w' : World} {b : Nat} {l : List (Int × Value)} (hM : MapK fI w b l) (h : Stm w b) {a : Int} {v : Value} (hrun : RunsTo Try.prog (Instr.mapUpdate 145 (.map (some b)) (fI a) v) w () w') : Stm w' b := by
  obtain ⟨es, clock, hb, hs⟩ := h
  obtain ⟨es', clock', hb', he⟩ := hM
  rw [hb] at hb'
  cases hb'
  have ht : und Try.prog 145 = some (.map 3 3) := by kernel_rfl
  have hks : ∀ x ∈ es.toList, MapKept.IsKey (.int .i64) x.key := fun x hx => by
    have : (x.key, x.val) ∈ es.toList.map (fun e => (e.key, e.val)) := List.mem_map.2 ⟨x, hx, rfl⟩
    rw [he] at this
    obtain ⟨p, _, hp⟩ := List.mem_map.1 this
    have : x.key = fI p.1 := (congrArg Prod.fst hp).symm
    rw [this]; exact keyI.key p.1
  obtain ⟨es2, clock2, h1, h2, _⟩ := MapKept.mapUpdate_keeps (P := Try.prog) (und_underlying ht) (und_underlying keyI.und) hb hs hks (keyI.key a) hrun
  exact ⟨es2, clock2, h1, h2⟩
theorem setM_new (l : List (Int × Nat)) (a : Int) (i : Nat) (h : getT l a = none) : setM (mapE l) a (iv i) = mapE (l ++ [(a, i)]) := by
  induction l with
  | nil => rfl
  | cons p l ih =>
    obtain ⟨x, u⟩ := p
    have h : (if a = x then some u else getT l a) = none := h
    by_cases e : a = x
    · rw [if_pos e] at h; cases h
    · rw [if_neg e] at h
      show (if a = x then (a, iv i) :: mapE l else (x, iv u) :: setM (mapE l) a (iv i)) = (x, iv u) :: mapE (l ++ [(a, i)])
      rw [if_neg e, ih h]
theorem maplen {w : World} {b : Nat} {l : List (Int × Nat)} (h : MapK fI w b (mapE l)) (ty : TypeId) : RunsTo Try.prog (Builtin.len_ #[145] ty #[.map (some b)]) w (.int .i64 (l.length : Int)) w := by
  obtain ⟨es, clock, hb, he⟩ := h
  have ht : und Try.prog 145 = some (.map 3 3) := by kernel_rfl
  have : es.size = l.length := by have := congrArg List.length he; simpa [mapE] using this
  rw [RunsTo, ← this]
  simp [Builtin.len_, run_underlying (und_underlying ht), MapKept.run_getObj_map hb, goInt, Result.andThen]
theorem place_last (A : Ar) (n : Nod) : (place A n).1.last = A.last ∧ (place A n).1.trees = A.trees := ⟨(mv_place A n).1.last, (mv_place A n).1.trees⟩
theorem Create_spec {R M : Nat → Prop} {w : World} {g : Nat} {A : Ar} (h : Ar1 R M w g A) (hf : 0 < A.fan) (h1 : A.free.length ≤ A.at_.length) (hF : FreeOk A) (h2 : A.at_.length ≤ 131072) (hl : A.last < 1000000) (hnew : getT A.trees ((A.last + 1 : Nat) : Int) = none) (ht : A.trees.length ≤ 1000000) :
    CallsV Try.prog 77 #[.pointer (some ⟨g, 0, none⟩)] w fun r w' => if 1000 ≤ A.trees.length ∨ A.most ≤ A.nodes then r = .tuple #[.int .i64 0, .int .i64 5] ∧ Ext w w' else r = .tuple #[iv (A.last + 1), .int .i64 0] ∧ ∃ R' M', Ar1 R' M' w' g (mkT A) ∧ Chg R M w R' M' w' := by
  have hs := h
  obtain ⟨At, ac, Fa, fc, mb, h⟩ := h
  refine tree_Arena_Create.calls okay ?_
  unfold tree_Arena_Create.W
  refine (made_spec hs hf).same ⟨_, rfl, brnb (fun h => by cases h) (fun _ => ?_)⟩
  have ed : Ext w w.drew := Fr.drew NoB w
  have ed2 : Ext w w.drew.drew := ed.ext (Fr.drew NoB _)
  refine ⟨_, rfl, fun u => Ext w u, ed, _, fun u e => (h.blk.ext e).cell rfl, _, _, maplen (h.trees.ext ed) _, brd (fun hle => ?_) (fun hlt => ?_)⟩
  · dsimp only; rw [if_pos (Or.inl (by omega))]; exact ⟨rfl, ed⟩
  · refine ⟨_, rfl, fun u => Ext w u, ed, _, fun u e => (h.blk.ext e).cell rfl, ?_⟩
    refine (Nodes_spec (hs.ext ed) h1 (by omega)).mono ?_
    rintro _ w2 ⟨rfl, hw2⟩
    obtain rfl : w2 = w.drew.drew := hw2
    refine ⟨_, rfl, ed2, brd (fun hle => ?_) (fun hroom => ?_)⟩
    · dsimp only; rw [if_pos (Or.inr (by omega))]; exact ⟨rfl, ed2⟩
    · have hcond : ¬ (1000 ≤ A.trees.length ∨ A.most ≤ A.nodes) := by omega
      simp only [if_neg hcond]
      generalize hw0 : w.drew.drew = w0 at *
      have h0 := h.ext ed2
      have hwl : IntKind.i64.wrap ((A.last : Int) + 1) = ((A.last + 1 : Nat) : Int) := by rw [wi _ (by omega) (by omega)]; omega
      obtain ⟨s1, s2⟩ := setF h0.blk (o := 5) (by simp [arC]) (iv (A.last + 1))
      refine ⟨_, rfl, _, h0.blk.cell rfl, _, rfl, by rw [hwl]; exact s1, fun w3 hw3 => ?_⟩
      rw [hwl] at hw3
      obtain ⟨b3, f3⟩ := s2 w3 hw3
      have mOff := h.mbOff
      have h3 : ArA R M w3 g At ac Fa fc mb { A with last := A.last + 1 } :=
        ⟨by simpa [arC] using b3, fun k hk => Nat.lt_of_lt_of_le (h0.rlt k hk) f3.size, h.mr, h.mg, h.mA, h.mF, h.mm, h.gA, h.gF, h.aF, h0.at_.toOut f3 (fun k hk e => h.gA (e ▸ hk)) (fun k _ e => .inr (.inr (e ▸ h.mg))) (fun k _ h => .inr h), h0.free.fr f3 (fun k hk e => h.gF (e ▸ hk)) (fun _ _ _ h => h), h0.trees.keep f3 mOff.1, h0.stm.keep f3 mOff.1⟩
      have c3 : Chg R M w R M w3 := ⟨(Ext.fr ed2 : Fr M w w0).trans (f3.mono fun k _ e => e ▸ h.mg) (fun _ _ h => h) (fun _ _ h => h), fun _ h => .inl h, fun _ h => h, fun _ h => .inl h⟩
      refine ⟨fun u => ∃ R' M', Ar1 R' M' u g (mkT A) ∧ Chg R M w R' M' u, ?_, ?_⟩
      · rintro u ⟨R', M', hu, cu⟩
        obtain ⟨At', ac', Fa', fc', mb', hu⟩ := hu
        refine ⟨_, rfl, _, hu.blk.cell rfl, ?_, R', M', ⟨_, _, _, _, _, hu⟩, cu⟩
        have : (mkT A).last = A.last + 1 := (place_last _ _).1
        rw [this]
      · have ed3 : Ext w3 w3.drew := Fr.drew NoB w3
        refine ⟨_, rfl, fun u => Blk u g (arC At ac Fa fc mb { A with last := A.last + 1 }) ∨ (u.cell? ((⟨g, 0, none⟩ : Addr).add 4) = some (.map (some mb)) ∧ u.cell? ((⟨g, 0, none⟩ : Addr).add 5) = some (iv (A.last + 1))), .inl (h3.ext ed3).blk, some mb, fun u hu => ?_, _, rfl, ((A.last + 1 : Nat) : Int), fun u hu => ?_, ?_⟩
        · rcases hu with hu | hu
          · exact hu.cell rfl
          · exact hu.1
        · rcases hu with hu | hu
          · exact hu.cell rfl
          · exact hu.2
        · intro g1 w4 f4
          have e4 : Ext w3 w4 := ed3.ext f4.ext
          have hM3 : ∀ k, M k → k < w3.heap.size := fun k hk => h3.rlt k (h3.mr k hk)
          obtain ⟨_, c4⟩ := Ar1.absorb ⟨_, _, _, _, _, h3⟩ e4
          have h4 : ArA (Ra R w3 w4) M w4 g At ac Fa fc mb { A with last := A.last + 1 } := (h3.ext e4).more (fun k hk => .inl hk) (by
            rintro k (hk | hk)
            · exact Nat.lt_of_lt_of_le (h3.rlt k hk) e4.size
            · exact hk.2)
          have hN : NodAt (Om (Ra R w3 w4) M) w4 g1 N0 none 0 none 0 none 0 := NodAt.fresh hM3 ed3 f4 (by simp [N0]) (by simp [N0]) (by simp [N0]) (Imm.nil _ _ _ _) (Imm.nil _ _ _ _) (Imm.nil _ _ _ _) (by simp [N0]) ⟨by simp [N0], by simp [N0], by simp [N0], fun x hx => by simp [N0] at hx, fun x hx => by simp [N0] at hx⟩
          refine ⟨.inl h4.blk, (place_specA h4 (by simpa using (by omega : A.at_.length ≤ 1048576)) hF (by simpa using (by omega : A.free.length ≤ 1048576)) (n := N0) (p := some ⟨g1, 0, none⟩) ⟨g1, _, _, _, _, _, _, rfl, hN⟩).mono ?_⟩
          rintro _ w5 ⟨rfl, R5, M5, ⟨At5, ac5, Fa5, fc5, h5⟩, c5⟩
          have hl5 : (place { A with last := A.last + 1 } N0).1.last = A.last + 1 := (place_last _ _).1
          have ht5 : (place { A with last := A.last + 1 } N0).1.trees = A.trees := (place_last _ _).2
          have hb5 := h5.blk
          refine ⟨_, rfl, .inr ⟨hb5.cell rfl, by rw [← hl5]; exact hb5.cell rfl⟩, ?_⟩
          obtain ⟨w6, r6, m6, f6⟩ := h5.trees.update (P := Try.prog) keyI (t := 145) (kt := 3) (et := 3) (by kernel_rfl) ((A.last + 1 : Nat) : Int) (iv (place { A with last := A.last + 1 } N0).2)
          refine ⟨w6, r6, R5, M5, ?_, c3.trans (c4.trans (c5.trans ?_))⟩
          · rw [ht5, setM_new A.trees _ _ hnew] at m6
            have mOff5 := h5.mbOff
            refine ⟨At5, ac5, Fa5, fc5, mb, ?_⟩
            exact ⟨h5.blk.keep f6 (fun e => mOff5.1 e.symm), fun k hk => Nat.lt_of_lt_of_le (h5.rlt k hk) f6.size, h5.mr, h5.mg, h5.mA, h5.mF, h5.mm, h5.gA, h5.gF, h5.aF, h5.at_.toOut f6 (fun k hk e => mOff5.2.1 (e ▸ hk)) (fun k _ e => .inr (.inr (e ▸ h5.mm))) (fun k _ h => .inr h), h5.free.fr f6 (fun k hk e => mOff5.2.2 (e ▸ hk)) (fun _ _ _ h => h), m6, Stm.update h5.trees h5.stm r6⟩
          · exact ⟨f6.mono fun k _ e => e ▸ h5.mm, fun _ h => .inl h, fun _ h => h, fun _ h => .inl h⟩
end Go.Proofs.Ythfagbfllheneaa
set_option linter.unusedVariables false
set_option linter.unusedSimpArgs false
namespace Go.Proofs.Ythfagbfllheneaa
open Go Go.Sx T4
/-! ## entries, by what they are -/
theorem mem_insE {key val : Key} : ∀ {es : Es}, UpE es → ∀ x, x ∈ insE key val es ↔ x = (key, val) ∨ (x ∈ es ∧ x.1 ≠ key)
  | [], _, x => by simp [insE]
  | (k, v) :: r, hu, x => by
    have hu' : Up (k :: keysE r) := hu
    obtain ⟨h1, h2⟩ := List.pairwise_cons.1 hu'
    have ih := mem_insE (key := key) (val := val) (es := r) h2 x
    have hr : ∀ y ∈ r, lt k y.1 := fun y hy => h1 y.1 (List.mem_map.2 ⟨y, hy, rfl⟩)
    rw [insE]
    split
    · rename_i hlt
      rw [List.mem_cons, ih, List.mem_cons]
      constructor
      · rintro (rfl | h | ⟨h, h'⟩)
        · exact .inr ⟨.inl rfl, fun e => lt_ne hlt e⟩
        · exact .inl h
        · exact .inr ⟨.inr h, h'⟩
      · rintro (h | ⟨rfl | h, h'⟩)
        · exact .inr (.inl h)
        · exact .inl rfl
        · exact .inr (.inr ⟨h, h'⟩)
    · rename_i hlt
      split
      · rename_i he
        subst he
        rw [List.mem_cons, List.mem_cons]
        constructor
        · rintro (h | h)
          · exact .inl h
          · exact .inr ⟨.inr h, fun e => lt_irrefl k (by have := hr x h; rwa [e] at this)⟩
        · rintro (h | ⟨rfl | h, h'⟩)
          · exact .inl h
          · exact absurd rfl h'
          · exact .inr h
      · rename_i hne
        have hk : lt key k := (nlt hlt).resolve_left fun e => hne e.symm
        rw [List.mem_cons, List.mem_cons]
        constructor
        · rintro (h | rfl | h)
          · exact .inl h
          · exact .inr ⟨.inl rfl, hne⟩
          · exact .inr ⟨.inr h, fun e => lt_asymm hk (by have := hr x h; rwa [e] at this)⟩
        · rintro (h | ⟨h, h'⟩)
          · exact .inl h
          · exact .inr h
theorem len_insE (key val : Key) : ∀ es : Es, (insE key val es).length = es.length + if inE key es then 0 else 1
  | [] => rfl
  | (k, v) :: r => by
    have ih := len_insE key val r
    rw [insE]
    unfold inE at *
    rw [getE]
    split
    · rw [List.length_cons, ih, List.length_cons]; omega
    · split
      · simp
      · simp
theorem mem_delE {key : Key} : ∀ {es : Es}, UpE es → ∀ x, x ∈ delE key es ↔ (x ∈ es ∧ x.1 ≠ key)
  | [], _, x => by simp [delE]
  | (k, v) :: r, hu, x => by
    have hu' : Up (k :: keysE r) := hu
    obtain ⟨h1, h2⟩ := List.pairwise_cons.1 hu'
    have ih := mem_delE (key := key) (es := r) h2 x
    have hr : ∀ y ∈ r, lt k y.1 := fun y hy => h1 y.1 (List.mem_map.2 ⟨y, hy, rfl⟩)
    rw [delE]
    split
    · rename_i hlt
      rw [List.mem_cons, ih, List.mem_cons]
      constructor
      · rintro (rfl | ⟨h, h'⟩)
        · exact ⟨.inl rfl, fun e => lt_ne hlt e⟩
        · exact ⟨.inr h, h'⟩
      · rintro ⟨rfl | h, h'⟩
        · exact .inl rfl
        · exact .inr ⟨h, h'⟩
    · rename_i hlt
      split
      · rename_i he
        subst he
        rw [List.mem_cons]
        constructor
        · intro h
          exact ⟨.inr h, fun e => lt_irrefl k (by have := hr x h; rwa [e] at this)⟩
        · rintro ⟨rfl | h, h'⟩
          · exact absurd rfl h'
          · exact h
      · rename_i hne
        have hk : lt key k := (nlt hlt).resolve_left fun e => hne e.symm
        rw [List.mem_cons]
        constructor
        · rintro (rfl | h)
          · exact ⟨.inl rfl, hne⟩
          · exact ⟨.inr h, fun e => lt_asymm hk (by have := hr x h; rwa [e] at this)⟩
        · rintro ⟨h, h'⟩
          exact h
theorem inE_mem {key : Key} : ∀ {es : Es}, UpE es → (inE key es = true ↔ ∃ v, (key, v) ∈ es)
  | [], _ => by simp [inE, getE]
  | (k, v) :: r, hu => by
    have hu' : Up (k :: keysE r) := hu
    obtain ⟨h1, h2⟩ := List.pairwise_cons.1 hu'
    have ih := inE_mem (key := key) (es := r) h2
    have hr : ∀ y ∈ r, lt k y.1 := fun y hy => h1 y.1 (List.mem_map.2 ⟨y, hy, rfl⟩)
    unfold inE at *
    rw [getE]
    split
    · rename_i hlt
      rw [ih]
      constructor
      · rintro ⟨u, hu⟩; exact ⟨u, by simp [hu]⟩
      · rintro ⟨u, hu⟩
        rcases List.mem_cons.1 hu with e | hu
        · cases e; exact absurd hlt (lt_irrefl key)
        · exact ⟨u, hu⟩
    · rename_i hlt
      split
      · rename_i he; subst he; simp
      · rename_i hne
        have hk : lt key k := (nlt hlt).resolve_left fun e => hne e.symm
        simp only [Option.isSome_none, Bool.false_eq_true, false_iff]
        rintro ⟨u, hu⟩
        rcases List.mem_cons.1 hu with e | hu
        · cases e; exact hne rfl
        · exact lt_asymm hk (hr _ hu)
/-! ## the first one, the one behind, the one ahead -/
/-! ## numbers' keys -/
def setD : List (Int × Nat) → Int → Nat → List (Int × Nat)
  | [], a, v => [(a, v)]
  | (x, u) :: l, a, v => if a = x then (a, v) :: l else (x, u) :: setD l a v
def delD : List (Int × Nat) → Int → List (Int × Nat)
  | [], _ => []
  | (x, u) :: l, a => if a = x then l else (x, u) :: delD l a
def Got (u : World) (x : Option (Key × Key)) (A : Option Addr) (n c : Nat) (B : Option Addr) (m d : Nat) (ok : Bool) : Prop := match x with
  | none => ok = false ∧ n = 0
  | some (k, v) => ok = true ∧ n = k.length ∧ m = v.length ∧ Imm KB NoB u A k ∧ Imm KB NoB u B v
theorem Got.ext {u u' : World} {x : Option (Key × Key)} {A : Option Addr} {n c : Nat} {B : Option Addr} {m d : Nat} {ok : Bool} (h : Got u x A n c B m d ok) (e : Ext u u') : Got u' x A n c B m d ok := by
  cases x with
  | none => exact h
  | some p => obtain ⟨h1, h2, h3, h4, h5⟩ := h; exact ⟨h1, h2, h3, h4.ext KB_pos e, h5.ext KB_pos e⟩
end Go.Proofs.Ythfagbfllheneaa
set_option linter.unusedVariables false
set_option maxRecDepth 100000
namespace Go.Proofs.Ythfagbfllheneaa
open Go Go.Sx
noncomputable def cardindexlow_Pick.W : Int → Int → World → (Value → World → Prop) → Prop := fun (number n : Int) (w : World) (K : Value → World → Prop) => bif decide ((0 : Int) < n) then n ≠
 (0 : Int) ∧ bif decide (Int.tmod number n < (0 : Int)) then K (Value.int IntKind.i64 (IntKind.wrap IntKind.i64 (Int.tmod number n + n))) w else K (Value.int IntKind.i64 (Int.tmod number n)) w
 else K (Value.int IntKind.i64 (0 : Int)) w
theorem cardindexlow_Pick.calls (ok : Okay Try.prog) {number : Int} {n : Int} {w : World} {K : Value → World → Prop} (h : cardindexlow_Pick.W number n w K) : CallsV Try.prog 20 #[.int .i64 number, .int .i64 n] w K :=
  fnW_calls ok Try.func20 (an := (.named .auto)) (args := [.int .i64 number, .int .i64 n]) (Eq.mp (by kernel_rfl) h)
noncomputable def cardindexlow_SameBytes.W : Option Addr → Nat → Nat → Option Addr → Nat → Nat → World → (Value → World → Prop) → Prop := fun (x_A : Option Addr) (x_n x_c : Nat) (y_A : Option Addr)
 (y_n y_c : Nat) (w : World) (K : Value → World → Prop) => ∃ (x : ByteArray) (w' : World), RunsTo Try.prog (convert 28 9 (Value.slice x_A x_n x_c)) w (Value.string x) w' ∧ ∃ (x_1 : ByteArray) (w'_1 :
 World), RunsTo Try.prog (convert 28 9 (Value.slice y_A y_n y_c)) w' (Value.string x_1) w'_1 ∧ K (Value.bool (ByteArray.toList x == ByteArray.toList x_1)) w'_1
theorem cardindexlow_SameBytes.calls (ok : Okay Try.prog) {x_A : Option Addr} {x_n : Nat} {x_c : Nat} {y_A : Option Addr} {y_n : Nat} {y_c : Nat} {w : World} {K : Value → World → Prop} (h : cardindexlow_SameBytes.W x_A x_n x_c y_A y_n y_c w K) : CallsV Try.prog 68 #[.slice x_A x_n x_c, .slice y_A y_n y_c] w K :=
  fnW_calls ok Try.func68 (an := (.named .auto)) (args := [.slice x_A x_n x_c, .slice y_A y_n y_c]) (Eq.mp (by kernel_rfl) h)
end Go.Proofs.Ythfagbfllheneaa
set_option linter.unusedVariables false
set_option linter.unusedSimpArgs false
namespace Go.Proofs.Ythfagbfllheneaa
open Go Go.Sx T4
/-! ## maps: an entry goes -/
theorem mapErase {α β : Type} (f : α → β) : ∀ (l : List α) (j : Nat), (l.eraseIdx j).map f = (l.map f).eraseIdx j
  | [], _ => rfl
  | x :: l, 0 => rfl
  | x :: l, j + 1 => by simp [mapErase f l j]
theorem findD (a : Int) : ∀ (D : List (Int × Nat)) (i : Nat), match findM (mapE D) a i with | none => delD D a = D | some (j, _) => ∃ n, j = i + n ∧ (mapE D).eraseIdx n = mapE (delD D a)
  | [], i => rfl
  | (x, u) :: D, i => by
    show match (if a = x then some (i, iv u) else findM (mapE D) a (i + 1)) with | none => (if a = x then D else (x, u) :: delD D a) = (x, u) :: D | some (j, _) => ∃ n, j = i + n ∧ ((x, iv u) :: mapE D).eraseIdx n = mapE (if a = x then D else (x, u) :: delD D a)
    by_cases h : a = x
    · rw [if_pos h, if_pos h]; exact ⟨0, rfl, rfl⟩
    · rw [if_neg h, if_neg h]
      have ih := findD a D (i + 1)
      cases hf : findM (mapE D) a (i + 1) with
      | none => rw [hf] at ih; exact congrArg _ ih
      | some p =>
        obtain ⟨j, v⟩ := p
        rw [hf] at ih
        obtain ⟨n, h1, h2⟩ := ih
        exact ⟨n + 1, by omega, by rw [List.eraseIdx_cons_succ, h2]; rfl⟩
theorem MapK.drop {w : World} {b : Nat} {D : List (Int × Nat)} (h : MapK fI w b (mapE D)) (a : Int) (ty : TypeId) :
    ∃ w', RunsTo Try.prog (Builtin.delete_ #[145, 3] ty #[.map (some b), .int .i64 a]) w (.tuple #[]) w' ∧ MapK fI w' b (mapE (delD D a)) ∧ Fr (fun k => k = b) w w' := by
  obtain ⟨es, clock, hb, he⟩ := h
  have ht : und Try.prog 145 = some (.map 3 3) := by kernel_rfl
  have hf := findNow_M keyI a es.toList (mapE D) 0 he
  have hc : (Instr.checkKey es.isEmpty 10000 3 (fI a)).run Try.prog w = .ok () w := MapKept.run_checkKey (und_underlying keyI.und) (keyI.key a) _ 9999
  have frame : ∀ o : Obj, Fr (fun k => k = b) w { w with heap := w.heap.setIfInBounds b o } := fun o => ⟨rfl, rfl, rfl, by simp, fun k _ hn => (MapKept.heap_set hb (o' := o)).2 k hn⟩
  have hd := findD a D 0
  cases hr : findM (mapE D) a 0 with
  | none =>
    rw [hr] at hf hd
    refine ⟨{ w with heap := w.heap.setIfInBounds b (.map es clock) }, ?_, ⟨es, clock, (MapKept.heap_set hb).1, by rw [hd]; exact he⟩, frame _⟩
    simp [RunsTo, Builtin.delete_, run_underlying (und_underlying ht), MapKept.run_getObj_map hb, hc, MapKept.run_findKey (und_underlying keyI.und) hf, MapKept.run_setObj_map _ hb, Result.andThen]
  | some p =>
    obtain ⟨j, u⟩ := p
    rw [hr] at hf hd
    obtain ⟨n, h1, h2⟩ := hd
    obtain rfl : j = n := by omega
    refine ⟨{ w with heap := w.heap.setIfInBounds b (.map (es.eraseIdxIfInBounds j) clock) }, ?_, ⟨_, clock, (MapKept.heap_set hb).1, ?_⟩, frame _⟩
    · simp [RunsTo, Builtin.delete_, run_underlying (und_underlying ht), MapKept.run_getObj_map hb, hc, MapKept.run_findKey (und_underlying keyI.und) hf, MapKept.run_setObj_map _ hb, Result.andThen]
    · rw [← h2, Array.toList_eraseIdxIfInBounds, mapErase, he, mapErase]
theorem bt : BT Try.prog 28 5 9 := ⟨by kernel_rfl, by kernel_rfl, by kernel_rfl⟩
theorem SameBytes_spec {Ω Ω' : Nat → Prop} {w : World} {A B : Option Addr} {c d : Nat} {l m : List UInt8} (h : Imm KB Ω w A l) (h' : Imm KB Ω' w B m) :
    CallsV Try.prog 68 #[.slice A l.length c, .slice B m.length d] w fun r w' => r = .bool (decide (l = m)) ∧ w' = w := by
  refine cardindexlow_SameBytes.calls okay ?_
  unfold cardindexlow_SameBytes.W
  exact ⟨_, _, to_str bt h c, _, _, to_str bt h' d, by rw [eq_str], rfl⟩
theorem Ar1.mr {R M : Nat → Prop} {w : World} {g : Nat} {A : Ar} (h : Ar1 R M w g A) : ∀ k, M k → R k := by
  obtain ⟨_, _, _, _, _, h⟩ := h; exact h.mr
structure Hs (w0 : World) (R M : Nat → Prop) (u : World) (g : Nat) (A : Ar) : Prop where
  ar : Ar1 R M u g A
  e : Ext w0 u
  r : ∀ k, R k → w0.heap.size ≤ k
theorem Hs.ext {w0 : World} {R M : Nat → Prop} {u u' : World} {g : Nat} {A : Ar} (h : Hs w0 R M u g A) (e : Ext u u') : Hs w0 R M u' g A := ⟨h.ar.ext e, h.e.trans' e, h.r⟩
theorem Hs.chg {w0 : World} {R M R' M' : Nat → Prop} {u u' : World} {g : Nat} {A A' : Ar} (h : Hs w0 R M u g A) (h' : Ar1 R' M' u' g A') (c : Chg R M u R' M' u') : Hs w0 R' M' u' g A' :=
  ⟨h', ⟨c.fr.os.trans h.e.os, c.fr.tape.trans h.e.tape, c.fr.output.trans h.e.output, Nat.le_trans h.e.size c.fr.size, fun k hk _ => (c.fr.block k (Nat.lt_of_lt_of_le hk h.e.size) fun hm => by have := h.r k (h.ar.mr k hm); omega).trans (h.e.block k hk fun h => h)⟩, fun k hk => by
    rcases c.r' k hk with hk | hk
    · exact h.r k hk
    · exact Nat.le_trans h.e.size hk⟩
theorem Hs.frame {w0 : World} {R M : Nat → Prop} {u u' : World} {g : Nat} {A : Ar} (h : Hs w0 R M u g A) {S : Nat → Prop} (f : Fr S u u') (hS : ∀ k, S k → ¬ R k ∧ w0.heap.size ≤ k) : Hs w0 R M u' g A :=
  ⟨h.ar.frame f fun k _ hk => (hS k hk).1, ⟨f.os.trans h.e.os, f.tape.trans h.e.tape, f.output.trans h.e.output, Nat.le_trans h.e.size f.size, fun k hk _ => (f.block k (Nat.lt_of_lt_of_le hk h.e.size) fun hm => by have := (hS k hm).2; omega).trans (h.e.block k hk fun h => h)⟩, h.r⟩
theorem Chg.off {R M R' M' : Nat → Prop} {u u' : World} (c : Chg R M u R' M' u') {k : Nat} (hk : k < u.heap.size) (hr : ¬ R k) : ¬ R' k := fun h => by
  rcases c.r' k h with h | h
  · exact hr h
  · omega
theorem Chg.blk {R M R' M' : Nat → Prop} {u u' : World} {g : Nat} {A : Ar} (h : Ar1 R M u g A) (c : Chg R M u R' M' u') {k : Nat} {cs : List Value} (hb : Blk u k cs) (hr : ¬ R k) : Blk u' k cs ∧ ¬ R' k := ⟨hb.keep c.fr fun hm => hr (h.mr k hm), c.off hb.lt hr⟩
end Go.Proofs.Ythfagbfllheneaa
set_option linter.unusedVariables false
set_option linter.unusedSimpArgs false
namespace Go.Proofs.Ythfagbfllheneaa
open Go Go.Sx T4
/-! ## a tree goes, plain -/
def dropT (A : Ar) (r : Int) (l : List Nat) : Ar := { dropAll A l with trees := delD A.trees r }
theorem delD_mid {D1 D2 : List Tr} {d : Tr} (h : ((D1 ++ d :: D2).map fun d => d.r).Nodup) : delD ((D1 ++ d :: D2).map fun d => (d.r, d.i)) d.r = (D1 ++ D2).map fun d => (d.r, d.i) := by
  induction D1 with
  | nil => simp [delD]
  | cons x D1 ih =>
    rw [List.cons_append, List.map_cons, List.nodup_cons] at h
    have hne : d.r ≠ x.r := fun e => h.1 (List.mem_map.2 ⟨d, by simp, e⟩)
    show (if d.r = x.r then _ else (x.r, x.i) :: delD ((D1 ++ d :: D2).map fun d => (d.r, d.i)) d.r) = _
    rw [if_neg hne, ih h.2]; rfl
theorem Inv.drop {A : Ar} {D1 D2 : List Tr} {d : Tr} (h : Inv A (D1 ++ d :: D2)) {l : List Nat} (hl : ∀ x, l.count x = d.ps.count x) : Inv (dropT A d.r l) (D1 ++ D2) := by
  have m := mv_dropAll l A
  have hacc : T4.Acc A ((D1.flatMap fun d => d.ps) ++ D2.flatMap fun d => d.ps) l := h.at_.acc.perm fun x => by rw [hl]
  obtain ⟨a1, a2⟩ := m.acc _ hacc
  have hlen := dropAll_len l A
  have hn1 := a1.nodes
  have hn2 := hacc.nodes
  have hno := h.nodes
  have hle := h.len
  refine ⟨?_, fun x hx => ?_, fun x => ?_, ?_, fun x hx => ?_, by show 4 ≤ (dropAll A l).fan; rw [m.fan]; exact h.f1, by show (dropAll A l).fan ≤ 64; rw [m.fan]; exact h.f2, by show (dropAll A l).most ≤ 65536; rw [m.most]; exact h.m, ?_, ?_, by have := h.cnt; simp at this ⊢; omega⟩
  · show delD A.trees d.r = _
    rw [h.trees]; exact delD_mid h.nd
  · show Tree (dropAll A l).nd (dropAll A l).fan x.h (0, 2) x.i none none x.es x.ps
    rw [m.fan]
    refine Tree.keep (h.tree x (by rcases List.mem_append.1 hx with hx | hx <;> simp [hx])) fun j hj => a2 j ?_
    rw [List.mem_append, List.mem_flatMap, List.mem_flatMap]
    rcases List.mem_append.1 hx with hx | hx
    · exact .inl ⟨x, hx, hj⟩
    · exact .inr ⟨x, hx, hj⟩
  · have := a1 x
    rw [List.flatMap_append]
    simp only [List.count_nil, List.count_append] at this ⊢
    show 0 + (_ + _) + (dropAll A l).free.count x = if x < (dropAll A l).at_.length then 1 else 0
    omega
  · have := h.nd
    rw [List.map_append, List.map_cons] at this
    rw [List.map_append]
    exact this.sublist (List.Sublist.append (List.Sublist.refl _) (List.sublist_cons_self _ _))
  · show 1 ≤ x.r ∧ x.r ≤ ((dropAll A l).last : Int)
    rw [m.last]
    exact h.last x (by rcases List.mem_append.1 hx with hx | hx <;> simp [hx])
  · show (dropAll A l).nodes ≤ (dropAll A l).most
    rw [m.most]; rw [List.length_nil] at hn1; omega
  · show (dropAll A l).at_.length ≤ (dropAll A l).most
    rw [m.most]; omega
end Go.Proofs.Ythfagbfllheneaa
set_option linter.unusedVariables false
set_option maxRecDepth 100000
namespace Go.Proofs.Ythfagbfllheneaa
open Go Go.Sx
noncomputable def appOps : List Oper := match Try.f132.body with | some (.seq _ (.seq (.seq _ (.block _ (.rangeFunc _ _ _ (.block _ (.region _ ops _))))) _)) => ops.toList | _ => []
noncomputable def appR.W : Addr → Int → World → (World → Prop) → Prop := fun (b2 : Addr) (v : Int) (w : World) (K : World → Prop) => ∃ (x : Option Addr) (x_1 x_2 : Nat), World.cell? w b2 = some
 (Value.slice x x_1 x_2) ∧ ∀ (g : Nat) (w' : World), Fresh w g w' [Value.int IntKind.i64 v] 3 → ∃ (x_3 : Option Addr) (x_4 x_5 : Nat) (w'_1 : World), RunsTo Try.prog (Builtin.append_ (Array.mk [37, 37])
 37 #[Value.slice x x_1 x_2, Value.slice (some (Addr.mk g 0 none)) 1 1]) w' (Value.slice x_3 x_4 x_5) w'_1 ∧ stOK b2 0 [Value.slice x_3 x_4 x_5] w'_1 ∧ ∀ (w' : World), w' = setAll b2 0
 [Value.slice x_3 x_4 x_5] w'_1 → K w'
end Go.Proofs.Ythfagbfllheneaa
set_option linter.unusedVariables false
set_option linter.unusedSimpArgs false
namespace Go.Sx
variable {P : Program}
end Go.Sx
set_option linter.unusedVariables false
set_option linter.unusedSimpArgs false
namespace Go.Proofs.Ythfagbfllheneaa
open Go Go.Sx T4
open Go.RowKit Go.Shelf
attribute [local go_sem] Oper.semAt_some
end Go.Proofs.Ythfagbfllheneaa
set_option linter.unusedVariables false
set_option linter.unusedSimpArgs false
namespace Go.Proofs.Ythfagbfllheneaa
open Go Go.Sx T4
open Go.RowKit Go.Shelf
attribute [local go_sem] Oper.semAt_some
end Go.Proofs.Ythfagbfllheneaa
set_option linter.unusedVariables false
set_option linter.unusedSimpArgs false
namespace Go.Proofs.Ythfagbfllheneaa
open Go Go.Sx T4
open Go.RowKit Go.Shelf
attribute [local go_sem] Oper.semAt_some
/-! ## the places collected -/
theorem Stm.delete {w w' : World} {b : Nat} {l : List (Int × Value)} (hM : MapK fI w b l) (h : Stm w b) {a : Int} {ty : TypeId} {v : Value} (hrun : RunsTo Try.prog (Builtin.delete_ #[145, 3] ty #[.map (some b), .int .i64 a]) w v w') : Stm w' b := by
  obtain ⟨es, clock, hb, hs⟩ := h
  obtain ⟨es', clock', hb', he⟩ := hM
  rw [hb] at hb'
  cases hb'
  have ht : und Try.prog 145 = some (.map 3 3) := by kernel_rfl
  have hks : ∀ x ∈ es.toList, MapKept.IsKey (.int .i64) x.key := fun x hx => by
    have : (x.key, x.val) ∈ es.toList.map (fun e => (e.key, e.val)) := List.mem_map.2 ⟨x, hx, rfl⟩
    rw [he] at this
    obtain ⟨p, _, hp⟩ := List.mem_map.1 this
    have : x.key = fI p.1 := (congrArg Prod.fst hp).symm
    rw [this]; exact keyI.key p.1
  obtain ⟨es2, clock2, h1, h2, _⟩ := MapKept.delete_keeps (P := Try.prog) (und_underlying ht) (und_underlying keyI.und) hb hs hks (keyI.key a) hrun
  exact ⟨es2, clock2, h1, h2⟩
/-! ## a map, copied -/
set_option maxRecDepth 100000 in
theorem maps_Clone_spec {w : World} {b : Nat} {es : Array MapEntry} {clock : Nat} (hb : w.heap[b]? = some (.map es clock)) :
    CallsV Try.prog 106 #[.map (some b)] w fun r w' => r = .map (some w.heap.size) ∧ w' = w.alloc (.map es clock) := by
  have ht : Try.prog.underlying 145 = some (.map 3 3) := und_underlying (by kernel_rfl)
  have hq := fun w => run_eql_map_nil_sl (P := Try.prog) w 145 _ _ (some b) ht
  refine Calls.mono (R := fun e w' => e = .returned (.map (some w.heap.size)) ∧ w' = w.alloc (.map es clock)) ?_ ?_
  · go_enter Try.func106, Try.ntmps106
    go_wp2
    rw [run_callFunc_extern Try.func125 (by kernel_rfl) (by kernel_rfl) (by kernel_rfl) (e := Extern.MapsClone.clone) (by kernel_rfl), run_maps_clone_sl w 145 hb]
    simp only [Result.andThen]
    rw [Oper.upon_value]
    go_wp2
    rw [run_typeAssert_map_sl _ 145 _ _ _ _ ht]
    simp only [Result.andThen]
    rw [Oper.upon_value]
    go_wp2
    go_ret
    exact ⟨rfl, rfl⟩
  · rintro _ _ ⟨rfl, rfl⟩
    exact ⟨_, rfl, rfl, rfl⟩
end Go.Proofs.Ythfagbfllheneaa
set_option linter.unusedVariables false
set_option linter.unusedSimpArgs false
namespace Go.Proofs.Ythfagbfllheneaa
open Go Go.Sx T4
structure SvAt (Ω : Nat → Prop) (w : World) (sb g : Nat) (A : Ar) (At : Option Addr) (ac : Nat) (Fa : Option Addr) (fc mb : Nat) : Prop where
  blk : Blk w sb [.pointer (some ⟨g, 0, none⟩), .slice At A.at_.length ac, .slice Fa A.free.length fc, .map (some mb), iv A.last]
  off : ¬ Ω sb
  moff : ¬ Ω mb
  at_ : Imm KNo Ω w At A.at_
  free : Imm KN Ω w Fa A.free
  trees : MapK fI w mb (mapE A.trees)
  stm : Stm w mb
theorem KNo_pos : 0 < KNo.size := by decide
theorem SvAt.keep {Ω Ω' : Nat → Prop} {w w' : World} {sb g : Nat} {A : Ar} {At : Option Addr} {ac : Nat} {Fa : Option Addr} {fc mb : Nat} (h : SvAt Ω w sb g A At ac Fa fc mb) (st : Step Ω w Ω' w') : SvAt Ω' w' sb g A At ac Fa fc mb := by
  refine ⟨?_, st.out h.blk.lt h.off, st.out h.trees.lt h.moff, h.at_.keep KNo_pos st, h.free.keep KN_pos st, ?_, ?_⟩
  · obtain ⟨e, he⟩ := h.blk
    exact ⟨e, (st.block sb h.blk.lt h.off).trans he⟩
  · obtain ⟨es, cl, hb, he⟩ := h.trees
    exact ⟨es, cl, (st.block mb h.trees.lt h.moff).trans hb, he⟩
  · obtain ⟨es, cl, hb, he⟩ := h.stm
    exact ⟨es, cl, (st.block mb h.trees.lt h.moff).trans hb, he⟩
def Sv1 (Ω : Nat → Prop) (w : World) (sb g : Nat) (A : Ar) : Prop := ∃ At ac Fa fc mb, SvAt Ω w sb g A At ac Fa fc mb
theorem Sv1.keep {Ω Ω' : Nat → Prop} {w w' : World} {sb g : Nat} {A : Ar} (h : Sv1 Ω w sb g A) (st : Step Ω w Ω' w') : Sv1 Ω' w' sb g A := by
  obtain ⟨At, ac, Fa, fc, mb, h⟩ := h; exact ⟨_, _, _, _, _, h.keep st⟩
theorem immNew {α : Type} {K : Kd α} (hK : One K) {Om0 : Nat → Prop} {u u' : World} {A : Option Addr} {c : Nat} {l : List α} (ho : OwnK (Kd.out NoB (Kd.out Om0 K)) u A c l) {Ω' : Nat → Prop} (e : Ext u u') (hsub : ∀ k, k < u.heap.size → Ω' k → Om0 k) (hoff : ∀ k, ownB A k → ¬ Ω' k) : Imm K Ω' u' A l := by
  obtain ⟨xs, ho, hr⟩ := ho
  refine Own.imm (K := K) hK.pos (Own.keep ho e fun _ _ h => h) hoff fun i a ha => K.keep (hr i a ha) ⟨e.size, fun k hk hn => e.block k hk fun h => h, fun k hk h => .inr (hsub k hk h)⟩
theorem Save_spec {R M : Nat → Prop} {w : World} {g : Nat} {A : Ar} (h : Ar1 R M w g A) (hf : 0 < A.fan) (hl : A.at_.length ≤ 131072) (hfl : A.free.length ≤ 131072) :
    CallsV Try.prog 71 #[.pointer (some ⟨g, 0, none⟩)] w fun r w' => ∃ sb R', r = .pointer (some ⟨sb, 0, none⟩) ∧ Ar1 R' M w' g A ∧ Chg R M w R' M w' ∧ Ext w w' ∧ Sv1 (Om R' M) w' sb g A := by
  refine tree_Arena_Save.calls okay ?_
  unfold tree_Arena_Save.W
  refine (made_spec h hf).same ⟨_, rfl, brnb (fun h => by cases h) fun _ => ?_⟩
  have hA1 := h
  obtain ⟨At, ac, Fa, fc, mb, h⟩ := h
  have ed : Ext w w.drew := Fr.drew NoB w
  have hM := hA1.mlt
  refine ⟨_, rfl, fun u => Ext w u, ed, _, _, _, fun u e => (h.blk.ext e).cell rfl, _, rfl, _, _, _, fun u e => (h.blk.ext e).cell rfl, _, rfl, _, fun u e => (h.blk.ext e).cell rfl, _, rfl, _, fun u e => (h.blk.ext e).cell rfl, ?_⟩
  have i1 : Imm (Kd.out (Om R M) KNo) NoB w At A.at_ := h.at_.imm (oneP.out _).pos
  have i2 : Imm (Kd.out (Om R M) KN) NoB w Fa A.free := by
    intro i a ha
    obtain ⟨ad, h1, h2, cs, h3, h4⟩ := (h.free.imm KN_pos) i a ha
    exact ⟨ad, h1, h2, cs, h3, h4⟩
  refine (CloneP_spec (oneP.out (Om R M)) (i1.ext (oneP.out _).pos ed) (by omega)).mono ?_
  rintro _ w2 ⟨A1, c1, rfl, o1, e2, n1, _⟩
  have f2 : Ext w w2 := ed.trans' e2
  refine ⟨_, _, _, rfl, f2, (CloneI_spec (oneN.out (Om R M)) (i2.ext (oneN.out _).pos f2) (by omega)).mono ?_⟩
  rintro _ w3 ⟨A2, c2, rfl, o2, e3, n2, _⟩
  have f3 : Ext w w3 := f2.trans' e3
  obtain ⟨es, clock, hmb, hes⟩ := h.trees.ext f3
  refine ⟨_, _, _, rfl, f3, (maps_Clone_spec hmb).mono ?_⟩
  rintro _ w4 ⟨rfl, hw4⟩
  have e4 : Ext w3 w4 := by rw [hw4]; exact Fr.alloc NoB w3 _
  have f4 : Ext w w4 := f3.trans' e4
  refine ⟨_, rfl, f4, ?_⟩
  rintro g5 w5 f
  have e5 := f.ext
  have f5 : Ext w w5 := f4.trans' e5
  obtain ⟨a5, c5⟩ := hA1.absorb f5
  refine ⟨f5, g5, Ra R w w5, rfl, a5, c5, f5, A1, c1, A2, c2, w3.heap.size, ?_⟩
  have sz2 := e2.size; have sz3 := e3.size; have sz4 := e4.size; have sz5 := e5.size; have szd := ed.size
  have sub : ∀ k, Om (Ra R w w5) M k → Om R M k := fun k hk => hk.imp (fun hn hr => hn (.inl hr)) id
  have m4 : w4.heap[w3.heap.size]? = some (.map es clock) := by rw [hw4]; exact Go.heap_alloc_new w3 _
  have s4 : w3.heap.size < w4.heap.size := (Array.getElem?_eq_some_iff.1 m4).1
  have m5 : w5.heap[w3.heap.size]? = some (.map es clock) := (e5.block _ s4 fun h => h).trans m4
  obtain ⟨es', cl', hs1, hs2⟩ := h.stm.keep f3 fun h => h
  rw [hmb] at hs1
  cases hs1
  refine ⟨f.blk, ra_off hM (Nat.le_trans f4.size f.ge) f.lt, ra_off hM f3.size (by omega), ?_, ?_, ⟨es, clock, m5, hes⟩, ⟨es, clock, m5, hs2⟩⟩
  · exact immNew oneP o1 ((e3.trans' e4).trans' e5) (fun k _ hk => sub k hk) fun k hk => ra_off hM (Nat.le_trans szd (n1 k hk)) (by have := o1.lt k hk; omega)
  · exact immNew oneN o2 (e4.trans' e5) (fun k _ hk => sub k hk) fun k hk => ra_off hM (by have := n2 k hk; omega) (by have := o2.lt k hk; omega)
set_option maxHeartbeats 400000 in
theorem Load_spec {R M : Nat → Prop} {w : World} {g : Nat} {A B : Ar} (h : Ar1 R M w g A) (hf : 0 < A.fan) {sb : Nat} (s : Sv1 (Om R M) w sb g B) (h1 : B.fan = A.fan) (h2 : B.most = A.most) (hl : B.at_.length ≤ 131072) (hfl : B.free.length ≤ 131072) :
    CallsV Try.prog 75 #[.pointer (some ⟨g, 0, none⟩), .pointer (some ⟨sb, 0, none⟩)] w fun r w' => r = .int .i64 0 ∧ ∃ R' M', Ar1 R' M' w' g B ∧ Chg R M w R' M' w' := by
  refine tree_Arena_Load.calls okay ?_
  unfold tree_Arena_Load.W
  refine (made_spec h hf).same ⟨_, rfl, brnb (fun h => by cases h) fun _ => ?_⟩
  have hA1 := h
  obtain ⟨At, ac, Fa, fc, mb, h⟩ := h
  obtain ⟨Bt, bc, Fb, bfc, mb2, s⟩ := s
  have ed : Ext w w.drew := Fr.drew NoB w
  have hM := hA1.mlt
  have hRl := hA1.lt
  refine ⟨_, rfl, _, s.blk.cell rfl, _, ⟨rfl, rfl⟩, _, rfl, fun u => Ext w u, ed, _, _, _, fun u e => (s.blk.ext e).cell rfl, _, rfl, _, _, _, fun u e => (s.blk.ext e).cell rfl, _, rfl, _, fun u e => (s.blk.ext e).cell rfl, _, rfl, _, fun u e => (s.blk.ext e).cell rfl, ?_⟩
  have i1 : Imm (Kd.out (Om R M) KNo) NoB w Bt B.at_ := by
    intro i a ha
    obtain ⟨ad, h1, h2, cs, h3, h4⟩ := s.at_ i a ha
    exact ⟨ad, h1, fun h => h, cs, KNo.keep h3 ⟨Nat.le_refl _, fun _ _ _ => rfl, fun k _ hk => hk.elim (fun h => h.elim) id⟩, h4⟩
  have i2 : Imm KN NoB w Fb B.free := by
    intro i a ha
    obtain ⟨ad, h1, h2, cs, h3, h4⟩ := s.free i a ha
    exact ⟨ad, h1, fun h => h, cs, h3, h4⟩
  refine (CloneP_spec (oneP.out (Om R M)) (i1.ext (oneP.out _).pos ed) (by omega)).mono ?_
  rintro _ w2 ⟨A1, c1, rfl, o1, e2, n1, _⟩
  have f2 : Ext w w2 := ed.trans' e2
  refine ⟨_, _, _, rfl, f2, (CloneI_spec oneN (i2.ext KN_pos f2) (by omega)).mono ?_⟩
  rintro _ w3 ⟨A2, c2, rfl, o2, e3, n2, _⟩
  have f3 : Ext w w3 := f2.trans' e3
  obtain ⟨es, clock, hmb, hes⟩ := s.trees.ext f3
  refine ⟨_, _, _, rfl, f3, (maps_Clone_spec hmb).mono ?_⟩
  rintro _ w4 ⟨rfl, hw4⟩
  have e4 : Ext w3 w4 := by rw [hw4]; exact Fr.alloc NoB w3 _
  have f4 : Ext w w4 := f3.trans' e4
  have sz2 := e2.size; have sz3 := e3.size; have sz4 := e4.size; have szd := ed.size
  have m4 : w4.heap[w3.heap.size]? = some (.map es clock) := by rw [hw4]; exact Go.heap_alloc_new w3 _
  have s4 : w3.heap.size < w4.heap.size := (Array.getElem?_eq_some_iff.1 m4).1
  obtain ⟨es', cl', hs1, hs2⟩ := s.stm.keep f3 fun h => h
  rw [hmb] at hs1
  cases hs1
  have hgl : g < w.heap.size := h.blk.lt
  have b4 := h.blk.ext f4
  obtain ⟨p1, p2⟩ := setF b4 (o := 2) (by simp [arC]) (.slice A1 B.at_.length c1)
  refine ⟨_, rfl, f4, _, rfl, p1, fun w5 hw5 => ?_⟩
  obtain ⟨b5, f5⟩ := p2 w5 hw5
  obtain ⟨p1, p2⟩ := setF b5 (o := 3) (by simp [arC]) (.slice A2 B.free.length c2)
  refine ⟨_, rfl, p1, fun w6 hw6 => ?_⟩
  obtain ⟨b6, f6⟩ := p2 w6 hw6
  obtain ⟨p1, p2⟩ := setF b6 (o := 4) (by simp [arC]) (.map (some w3.heap.size))
  refine ⟨_, rfl, p1, fun w7 hw7 => ?_⟩
  obtain ⟨b7, f7⟩ := p2 w7 hw7
  obtain ⟨p1, p2⟩ := setF b7 (o := 5) (by simp [arC]) (iv B.last)
  refine ⟨_, rfl, p1, fun w8 hw8 => ?_⟩
  obtain ⟨b8, f8⟩ := p2 w8 hw8
  have fg : Fr (fun k => k = g) w4 w8 := ((f5.trans f6 (fun _ _ h => h) (fun _ _ h => h)).trans f7 (fun _ _ h => h) (fun _ _ h => h)).trans f8 (fun _ _ h => h) (fun _ _ h => h)
  have sz8 := fg.size
  have l1 := o1.lt; have l2 := o2.lt
  have q1 : ∀ k, ownB A1 k → w.heap.size ≤ k ∧ k < w3.heap.size := fun k hk => ⟨Nat.le_trans szd (n1 k hk), by have := l1 k hk; omega⟩
  have q2 : ∀ k, ownB A2 k → w2.heap.size ≤ k ∧ k < w3.heap.size := fun k hk => ⟨n2 k hk, l2 k hk⟩
  refine ⟨rfl, Ra R w w4, fun k => k = g ∨ (w.heap.size ≤ k ∧ k < w4.heap.size), ⟨A1, c1, A2, c2, w3.heap.size, ?_⟩, ?_⟩
  · have fm : ∀ k, k < w4.heap.size → k ≠ g → w8.heap[k]? = w4.heap[k]? := fun k hk hn => fg.block k hk hn
    refine ⟨by simpa [arC, h1, h2] using b8, ?_, ?_, .inl rfl, ?_, ?_, .inr ⟨by omega, s4⟩, fun hk => by have := (q1 g hk).1; omega, fun hk => by have := (q2 g hk).1; omega, fun k hk hk' => by have := l1 k hk; have := (q2 k hk').1; omega, ?_, ?_, ?_, ?_⟩
    · rintro k (hk | hk)
      · have := hRl k hk; omega
      · omega
    · rintro k (hk | hk)
      · exact .inl (hk ▸ h.mr g h.mg)
      · exact .inr hk
    · exact fun k hk => .inr ⟨(q1 k hk).1, by have := (q1 k hk).2; omega⟩
    · exact fun k hk => .inr ⟨by have := (q2 k hk).1; omega, by have := (q2 k hk).2; omega⟩
    · obtain ⟨xs, ho, hr⟩ := o1
      refine ⟨xs, ho.keep ((e3.trans' e4).fr.trans fg (S'' := fun k => k = g) (fun _ _ h => h) (fun _ _ h => h)) (fun k hk e => by have := (q1 k hk).1; have e : k = g := e; omega), fun i a ha => ?_⟩
      refine KNo.keep (hr i a ha) ⟨by omega, fun k hk hn => ?_, fun k hk hk' => ?_⟩
      · have hkg : k ≠ g := fun e => hn (.inr (.inr (e ▸ h.mg)))
        exact (fm k (by omega) hkg).trans ((e3.trans' e4).block k hk fun h => h)
      · rcases hk' with hk' | hk' | hk' | hk'
        · exact .inl (.inl hk')
        · exact .inr (.inl fun hr => hk' (.inl hr))
        · exact .inr (.inr (hk' ▸ h.mg))
        · exact .inr (.inl fun hr => by have := hRl k hr; omega)
    · obtain ⟨xs, ho, hr⟩ := o2
      exact ⟨xs, ho.keep (e4.fr.trans fg (S'' := fun k => k = g) (fun _ _ h => h) (fun _ _ h => h)) (fun k hk e => by have := (q2 k hk).1; have e : k = g := e; omega), fun i a ha => hr i a ha⟩
    · exact ⟨es, clock, (fm _ s4 (by omega)).trans m4, hes⟩
    · exact ⟨es, clock, (fm _ s4 (by omega)).trans m4, hs2⟩
  · refine ⟨(f4.fr.trans fg (S'' := M) (fun _ _ h => h) (fun k hk e => by have e : k = g := e; rw [e]; exact h.mg)), ?_, fun k hk => .inl hk, ?_⟩
    · rintro k (hk | hk)
      · exact .inl (hk ▸ h.mg)
      · exact .inr hk.1
    · exact fun k hk => hk.imp id fun h => h.1
end Go.Proofs.Ythfagbfllheneaa
set_option linter.unusedVariables false
set_option linter.unusedSimpArgs false
namespace Go.Proofs.Ythfagbfllheneaa
open Go Go.Sx T4
open Go.RowKit Go.Shelf
attribute [local go_sem] Oper.semAt_some
def NotA (w : World) (a : Option Addr) : Prop := a = none ∨ ∃ g, a = some ⟨g, 0, none⟩ ∧ Blk w g [.int .i64 0, .int .i64 0, .slice none 0 0, .slice none 0 0, .map none, .int .i64 0]
theorem NotA.ext {w w' : World} {a : Option Addr} (h : NotA w a) (e : Ext w w') : NotA w' a := h.imp id fun ⟨g, h1, h2⟩ => ⟨g, h1, h2.ext e⟩
variable {w : World} {a : Option Addr}
end Go.Proofs.Ythfagbfllheneaa
set_option linter.unusedVariables false
set_option linter.unusedSimpArgs false
namespace Go.Proofs.Ythfagbfllheneaa
open Go Go.Sx T4
open Go.RowKit Go.Shelf
attribute [local go_sem] Oper.semAt_some
/-! ## how deep -/
def hgt : Nat → Ar → Nat → Nat
  | 0, _, _ => 0
  | k + 1, A, i => if (nodeAt A i).kids = [] then 1 else hgt k A (kid (nodeAt A i) 0) + 1
theorem hgt_tree : ∀ (k : Nat) {A : Ar} {fan H : Nat} {mn : Nat × Nat} {i : Nat} {lo hi : Option Key} {es : Es} {ps : List Nat}, Tree A.nd fan H mn i lo hi es ps → H ≤ k → hgt k A i = H
  | 0, _, _, H, _, _, _, _, _, _, h, hk => by have := h.height.1; omega
  | k + 1, A, fan, H, mn, i, lo, hi, es, ps, h, hk => by
    rcases tree_nodeAt h with ⟨rfl, hk0, _⟩ | ⟨k', rfl, h0, hne, _, hall, _⟩
    · rw [hgt, if_pos hk0]
    · obtain ⟨lo', hi', es', ps', ht'⟩ := hall 0 (List.length_pos_iff.2 hne)
      rw [hgt, if_neg hne, hgt_tree k ht' (by omega)]
def dp (A : Ar) (r : Int) : Nat := match getT A.trees r with
  | some i => hgt (A.at_.length + 1) A i
  | none => 0
theorem dp_at {A : Ar} {r : Int} {H i : Nat} {es : Es} {ps Q : List Nat} (hr : getT A.trees r = some i) (T : TreeAt A H i es ps Q) : dp A r = H := by
  unfold dp
  rw [hr]
  exact hgt_tree _ T.tree (by have := T.hl; omega)
/-! ## one tree -/
structure OneT (A : Ar) (r : Int) (es : Es) : Prop where
  ex : ∃ i ps Q, getT A.trees r = some i ∧ TreeAt A (dp A r) i es ps Q
  m : A.most ≤ 65536
  n : A.nodes ≤ A.most
theorem OneT.f1 {A : Ar} {r : Int} {es : Es} (S : OneT A r es) : 4 ≤ A.fan := by obtain ⟨i, ps, Q, _, T⟩ := S.ex; exact T.f1
theorem OneT.f2 {A : Ar} {r : Int} {es : Es} (S : OneT A r es) : A.fan ≤ 64 := by obtain ⟨i, ps, Q, _, T⟩ := S.ex; exact T.f2
theorem OneT.least {A : Ar} {r : Int} {es : Es} (S : OneT A r es) (h : 1 < dp A r) : 2 * (A.fan / 2) ^ (dp A r - 1) ≤ es.length := by obtain ⟨i, ps, Q, _, T⟩ := S.ex; exact T.tree.least h
theorem OneT.free {A : Ar} {r : Int} {es : Es} (S : OneT A r es) : A.free.length ≤ A.at_.length ∧ A.at_.length ≤ 131072 := by
  obtain ⟨i, ps, Q, _, T⟩ := S.ex; exact ⟨(Acc.free T.acc).2, T.len⟩
theorem oLen {R M : Nat → Prop} {w : World} {g : Nat} {A : Ar} (h : Ar1 R M w g A) {r : Int} {es : Es} (S : OneT A r es) : CallsV Try.prog 82 #[.pointer (some ⟨g, 0, none⟩), .int .i64 r] w fun v w' => v = iv es.length ∧ Ext w w' := by
  obtain ⟨i, ps, Q, h1, h2⟩ := S.ex
  exact Len_spec h h1 h2
theorem oGet {R M : Nat → Prop} {w : World} {g : Nat} {A : Ar} (h : Ar1 R M w g A) {r : Int} {es : Es} (S : OneT A r es) {key : Key} {Ω : Nat → Prop} {KA : Option Addr} (hKA : Imm KB Ω w KA key) (kc : Nat) :
    CallsV Try.prog 88 #[.pointer (some ⟨g, 0, none⟩), .int .i64 r, .slice KA key.length kc] w fun r w' => Ext w w' ∧ (match getE key es with | none => r = .tuple #[.slice none 0 0, .bool false] | some v => ∃ B d, r = .tuple #[.slice B v.length d, .bool true] ∧ OwnB w' B d v ∧ New w B ∧ v.length ≤ 1048576) := by
  obtain ⟨i, ps, Q, h1, h2⟩ := S.ex
  exact Get_spec h h1 h2 hKA kc
theorem oAfter {R M : Nat → Prop} {w : World} {g : Nat} {A : Ar} (h : Ar1 R M w g A) {r : Int} {es : Es} (S : OneT A r es) {key : Key} {Ω : Nat → Prop} {KA : Option Addr} (hKA : Imm KB Ω w KA key) (kc : Nat) (at_ : Bool) :
    CallsV Try.prog 89 #[.pointer (some ⟨g, 0, none⟩), .int .i64 r, .slice KA key.length kc, .bool at_] w fun r w' => Told w (aftE key at_ es) r w' ∧ Ext w w' := by
  obtain ⟨i, ps, Q, h1, h2⟩ := S.ex
  exact After_spec h h1 h2 hKA kc at_
theorem oBefore {R M : Nat → Prop} {w : World} {g : Nat} {A : Ar} (h : Ar1 R M w g A) {r : Int} {es : Es} (S : OneT A r es) {key : Key} {Ω : Nat → Prop} {KA : Option Addr} (hKA : Imm KB Ω w KA key) (kc : Nat) (at_ : Bool) :
    CallsV Try.prog 90 #[.pointer (some ⟨g, 0, none⟩), .int .i64 r, .slice KA key.length kc, .bool at_] w fun r w' => Told w (befE key at_ es) r w' ∧ Ext w w' := by
  obtain ⟨i, ps, Q, h1, h2⟩ := S.ex
  exact Before_spec h h1 h2 hKA kc at_
theorem oLast {R M : Nat → Prop} {w : World} {g : Nat} {A : Ar} (h : Ar1 R M w g A) {r : Int} {es : Es} (S : OneT A r es) :
    CallsV Try.prog 91 #[.pointer (some ⟨g, 0, none⟩), .int .i64 r] w fun r w' => Told w es.getLast? r w' ∧ Ext w w' := by
  obtain ⟨i, ps, Q, h1, h2⟩ := S.ex
  exact Last_spec h h1 h2
/-! ## no such tree -/
section
variable {R M : Nat → Prop} {w : World} {g : Nat} {A : Ar}
theorem Get_none (h : Ar1 R M w g A) (hf : 0 < A.fan) {root : Int} (hr : getT A.trees root = none) (KA : Option Addr) (kn kc : Nat) : CallsV Try.prog 88 #[.pointer (some ⟨g, 0, none⟩), .int .i64 root, .slice KA kn kc] w fun r w' => r = .tuple #[.slice none 0 0, .bool false] ∧ w' = w := by
  refine tree_Arena_Get.calls okay ?_
  unfold tree_Arena_Get.W
  refine (top_spec h hf root).mono ?_
  rintro _ _ ⟨rfl, rfl⟩
  rw [hr]
  exact ⟨_, _, rfl, brn (fun _ => ⟨rfl, rfl⟩) fun h => by cases h⟩
theorem After_none (h : Ar1 R M w g A) (hf : 0 < A.fan) {root : Int} (hr : getT A.trees root = none) (KA : Option Addr) (kn kc : Nat) (at_ : Bool) : CallsV Try.prog 89 #[.pointer (some ⟨g, 0, none⟩), .int .i64 root, .slice KA kn kc, .bool at_] w fun r w' => r = eN ∧ w' = w := by
  refine tree_Arena_After.calls okay ?_
  unfold tree_Arena_After.W
  refine (top_spec h hf root).mono ?_
  rintro _ _ ⟨rfl, rfl⟩
  rw [hr]
  exact ⟨_, _, rfl, brn (fun _ => ⟨rfl, rfl⟩) fun h => by cases h⟩
theorem Before_none (h : Ar1 R M w g A) (hf : 0 < A.fan) {root : Int} (hr : getT A.trees root = none) (KA : Option Addr) (kn kc : Nat) (at_ : Bool) : CallsV Try.prog 90 #[.pointer (some ⟨g, 0, none⟩), .int .i64 root, .slice KA kn kc, .bool at_] w fun r w' => r = eN ∧ w' = w := by
  refine tree_Arena_Before.calls okay ?_
  unfold tree_Arena_Before.W
  refine (top_spec h hf root).mono ?_
  rintro _ _ ⟨rfl, rfl⟩
  rw [hr]
  exact ⟨_, _, rfl, brn (fun _ => ⟨rfl, rfl⟩) fun h => by cases h⟩
theorem Last_none (h : Ar1 R M w g A) (hf : 0 < A.fan) {root : Int} (hr : getT A.trees root = none) : CallsV Try.prog 91 #[.pointer (some ⟨g, 0, none⟩), .int .i64 root] w fun r w' => r = eN ∧ w' = w := by
  refine tree_Arena_Last.calls okay ?_
  unfold tree_Arena_Last.W
  refine (top_spec h hf root).mono ?_
  rintro _ _ ⟨rfl, rfl⟩
  rw [hr]
  exact ⟨_, _, rfl, brn (fun _ => ⟨rfl, rfl⟩) fun h => by cases h⟩
theorem Len_none_in (h : Ar1 R M w g A) (hf : 0 < A.fan) {root : Int} (hr : getT A.trees root = none) : CallsIn Fence.wide 0 Try.prog 82 #[.pointer (some ⟨g, 0, none⟩), .int .i64 root] w fun e w' => ∃ v, e = .returned v ∧ v = .int .i64 0 ∧ Ext w w' := by
  refine callsIn_of_wp_marks Try.func82 len_body trivial ?_ rfl
  simp only [Try.ntmps82, List.size_toArray, List.length_cons, List.length_nil, Nat.reduceAdd, Nat.reduceSub, Array.replicate_succ, Array.replicate_zero, List.push_toArray, List.append_toArray, List.nil_append, List.cons_append]
  simp only [len0, len1, len2, len4, len5, Try.f82]
  have e1 : Ext w (w.alloc (Obj.cells #[Value.pointer (some ⟨g, 0, none⟩)] 78)) := Fr.alloc NoB w _
  have hba : Blk (w.alloc (Obj.cells #[Value.pointer (some ⟨g, 0, none⟩)] 78)) w.heap.size [.pointer (some ⟨g, 0, none⟩)] := Blk.alloc w [.pointer (some ⟨g, 0, none⟩)] 78
  have hc : (w.alloc (Obj.cells #[Value.pointer (some ⟨g, 0, none⟩)] 78)).cell? ⟨w.heap.size, 0, none⟩ = some (.pointer (some ⟨g, 0, none⟩)) := hba.cell0 rfl
  gi_wp2
  have hin : CallsIn Fence.wide 0 Try.prog 108 #[.pointer (some ⟨g, 0, none⟩), .int .i64 root] (w.alloc (Obj.cells #[Value.pointer (some ⟨g, 0, none⟩)] 78)) fun e w' => e = .returned (.tuple #[.int .i64 0, .int .i64 41]) ∧ w' = w.alloc (Obj.cells #[Value.pointer (some ⟨g, 0, none⟩)] 78) := by
    refine callsIn_wide.2 (Calls.mono (top_spec (h.ext e1) hf root) ?_)
    rintro e w' ⟨v, rfl, hv, rfl⟩
    rw [hr] at hv
    exact ⟨by rw [hv], rfl⟩
  refine ⟨trivial, rfl, hin.mono ?_⟩
  rintro e w' ⟨rfl, rfl⟩
  gi_wp2
  exact ⟨_, results_tmp rfl _ _ _, _, rfl, rfl, e1⟩
theorem Len_none (h : Ar1 R M w g A) (hf : 0 < A.fan) {root : Int} (hr : getT A.trees root = none) : CallsV Try.prog 82 #[.pointer (some ⟨g, 0, none⟩), .int .i64 root] w fun r w' => r = .int .i64 0 ∧ Ext w w' := callsIn_wide.1 (Len_none_in h hf hr)
end
/-! ## the calls that change, of the tree d among others -/
def PutC (A A' : Ar) (r : Int) (key val : Key) (full was : Bool) : Prop := ∀ {R M : Nat → Prop} {w : World} {g : Nat}, Ar1 R M w g A → ∀ {Ω1 Ω2 : Nat → Prop} {KA VA : Option Addr}, Imm KB Ω1 w KA key → Imm KB Ω2 w VA val → ∀ kc vc : Nat,
  CallsV Try.prog 78 #[.pointer (some ⟨g, 0, none⟩), .int .i64 r, .slice KA key.length kc, .slice VA val.length vc] w fun v w' => v = .tuple #[.bool (!full && was), .int .i64 (if full then 5 else 0)] ∧ ∃ R' M', Ar1 R' M' w' g A' ∧ Chg R M w R' M' w'
def DelC (A A' : Ar) (r : Int) (key : Key) (was : Bool) : Prop := ∀ {R M : Nat → Prop} {w : World} {g : Nat}, Ar1 R M w g A → ∀ {Ω : Nat → Prop} {KA : Option Addr}, Imm KB Ω w KA key → ∀ kc : Nat,
  CallsV Try.prog 87 #[.pointer (some ⟨g, 0, none⟩), .int .i64 r, .slice KA key.length kc] w fun v w' => v = .tuple #[.bool was, .int .i64 0] ∧ ∃ R' M', Ar1 R' M' w' g A' ∧ Chg R M w R' M' w'
def CreC (A A' : Ar) : Prop := ∀ {R M : Nat → Prop} {w : World} {g : Nat}, Ar1 R M w g A →
  CallsV Try.prog 77 #[.pointer (some ⟨g, 0, none⟩)] w fun v w' => v = .tuple #[iv (A.last + 1), .int .i64 0] ∧ ∃ R' M', Ar1 R' M' w' g A' ∧ Chg R M w R' M' w'
structure Same (A A' : Ar) : Prop where
  fan : A'.fan = A.fan
  most : A'.most = A.most
  last : A'.last = A.last
theorem Same.refl (A : Ar) : Same A A := ⟨rfl, rfl, rfl⟩
theorem Same.trans {A B C : Ar} (h : Same A B) (h' : Same B C) : Same A C := ⟨h'.fan.trans h.fan, h'.most.trans h.most, h'.last.trans h.last⟩
theorem Inv.mem {A : Ar} {D1 D2 : List Tr} {d : Tr} (h : Inv A (D1 ++ d :: D2)) : getT A.trees d.r = some d.i := h.get (by simp)
theorem Inv.one {A : Ar} {D1 D2 : List Tr} {d : Tr} (h : Inv A (D1 ++ d :: D2)) : OneT A d.r d.es ∧ dp A d.r = d.h := by
  have e := dp_at h.mem h.at_
  exact ⟨⟨⟨d.i, d.ps, _, h.mem, by rw [e]; exact h.at_⟩, h.m, h.nodes⟩, e⟩
theorem dPut0 {A : Ar} {D1 D2 : List Tr} {d : Tr} (h : Inv A (D1 ++ d :: D2)) {key val : Key} (hk : key.length ≤ 1048576) (hv : val.length ≤ 1048576) :
    ∃ A' d' full, full = putFull d.h A d.i key d.es ∧ d'.r = d.r ∧ Inv A' (D1 ++ d' :: D2) ∧ Same A A' ∧ (full = true → A' = A ∧ d' = d ∧ inE key d.es = false ∧ A.most < A.nodes + d.h + 1) ∧ (full = false → d'.es = insE key val d.es) ∧ PutC A A' d.r key val full (inE key d.es) := by
  have T := h.at_
  have put : PutC A (if putFull d.h A d.i key d.es then A else putTop d.h A d.i key val) d.r key val (putFull d.h A d.i key d.es) (inE key d.es) := by
    intro R M w g hA Ω1 Ω2 KA VA hKA hVA kc vc
    refine (Put_spec hA h.mem T h.m hKA hVA kc vc hk hv).mono ?_
    rintro _ w' ⟨R', M', h1, h2, rfl⟩
    exact ⟨rfl, R', M', h1, h2⟩
  cases hfull : putFull d.h A d.i key d.es with
  | true =>
    rw [hfull] at put
    refine ⟨A, d, true, rfl, rfl, h, .refl A, fun _ => ⟨rfl, rfl, ?_⟩, fun h => (by cases h), put⟩
    unfold putFull at hfull
    simp only [Bool.and_eq_true, Bool.not_eq_true', decide_eq_true_eq] at hfull
    have hw : wantsF A.fan (sizes d.h A d.i key) ≤ d.h + 1 := by
      have hl := sizes_len d.h T.tree (Bnd.all key)
      unfold wantsF
      split
      · omega
      · rename_i hne
        have := trail_le A.fan (sizes d.h A d.i key)
        omega
    exact ⟨hfull.1, by omega⟩
  | false =>
    rw [hfull] at put
    obtain ⟨h', ps', hI, _⟩ := h.put key val hfull
    have m := (putTop_ok T.tree T.acc T.f1 key val).choose_spec.choose_spec.1
    exact ⟨_, _, false, rfl, by rfl, hI, ⟨m.fan, m.most, m.last⟩, fun h => (by cases h), fun _ => by rfl, put⟩
theorem dPut {A : Ar} {D1 D2 : List Tr} {d : Tr} (h : Inv A (D1 ++ d :: D2)) {key val : Key} (hk : key.length ≤ 1048576) (hv : val.length ≤ 1048576) :
    ∃ A' d' full, d'.r = d.r ∧ Inv A' (D1 ++ d' :: D2) ∧ Same A A' ∧ (full = true → A' = A ∧ d' = d ∧ inE key d.es = false ∧ A.most < A.nodes + d.h + 1) ∧ (full = false → d'.es = insE key val d.es) ∧ PutC A A' d.r key val full (inE key d.es) := by
  obtain ⟨A', d', full, _, h⟩ := dPut0 h hk hv
  exact ⟨A', d', full, h⟩
theorem dDel {A : Ar} {D1 D2 : List Tr} {d : Tr} (h : Inv A (D1 ++ d :: D2)) (key : Key) :
    ∃ A' d', d'.r = d.r ∧ Inv A' (D1 ++ d' :: D2) ∧ Same A A' ∧ d'.es = delE key d.es ∧ DelC A A' d.r key (inE key d.es) := by
  have T := h.at_
  have del : DelC A (if inE key d.es then delTop d.h A d.i key else A) d.r key (inE key d.es) := by
    intro R M w g hA Ω KA hKA kc
    exact Delete_spec hA h.mem T hKA kc
  cases hin : inE key d.es with
  | false =>
    rw [hin] at del
    exact ⟨A, d, rfl, h, .refl A, (del_no (by rw [← inE_has]; exact hin)).symm, del⟩
  | true =>
    rw [hin] at del
    obtain ⟨h', ps', hI⟩ := h.del hin
    have m := (delTop_ok T.tree T.acc T.f1 hin).choose_spec.choose_spec.1
    exact ⟨_, _, by rfl, hI, ⟨m.fan, m.most, m.last⟩, by rfl, del⟩
theorem dCreate {A : Ar} {D : List Tr} (h : Inv A D) (hn : A.nodes < A.most) (hc : D.length < 1000) (hl : A.last < 1000000) : ∃ A' i, Inv A' (D ++ [⟨((A.last + 1 : Nat) : Int), i, 1, [], [i]⟩]) ∧ A'.fan = A.fan ∧ A'.most = A.most ∧ A'.last = A.last + 1 ∧ CreC A A' := by
  obtain ⟨i, hI⟩ := h.made hn hc
  have m := (mv_place { A with last := A.last + 1 } N0).1
  have hfree := Acc.free h.acc
  refine ⟨mkT A, i, hI, m.fan, m.most, m.last, ?_⟩
  intro R M w g hA
  refine (Create_spec hA (by have := h.f1; omega) hfree.2 hfree.1 (by have := h.len; have := h.m; omega) hl (h.miss fun d hd => ?_) (by rw [h.trees]; simp; omega)).mono ?_
  · have := (h.last d hd).2; omega
  · intro r w' hr
    rw [if_neg (by rw [h.trees]; simp; omega)] at hr
    exact hr
theorem dFull {A : Ar} {D : List Tr} (h : Inv A D) (hn : A.most ≤ A.nodes ∨ 1000 ≤ D.length) (hl : A.last < 1000000) {R M : Nat → Prop} {w : World} {g : Nat} (hA : Ar1 R M w g A) :
    CallsV Try.prog 77 #[.pointer (some ⟨g, 0, none⟩)] w fun v w' => v = .tuple #[.int .i64 0, .int .i64 5] ∧ Ext w w' := by
  have hfree := Acc.free h.acc
  refine (Create_spec hA (by have := h.f1; omega) hfree.2 hfree.1 (by have := h.len; have := h.m; omega) hl (h.miss fun d hd => ?_) (by rw [h.trees]; simp; have := h.cnt; omega)).mono ?_
  · have := (h.last d hd).2; omega
  · intro r w' hr
    rw [if_pos (by rw [h.trees]; simp; omega)] at hr
    exact hr
theorem dCheck {A : Ar} {D : List Tr} (h : Inv A D) {R M : Nat → Prop} {w : World} {g : Nat} (hA : Ar1 R M w g A) : CallsV Try.prog 83 #[.pointer (some ⟨g, 0, none⟩)] w fun r w' => r = .int .i64 0 ∧ Ext w w' := Check_spec hA h.whole
theorem dSave {A : Ar} {D : List Tr} (h : Inv A D) {R M : Nat → Prop} {w : World} {g : Nat} (hA : Ar1 R M w g A) : CallsV Try.prog 71 #[.pointer (some ⟨g, 0, none⟩)] w fun r w' => ∃ sb R', r = .pointer (some ⟨sb, 0, none⟩) ∧ Ar1 R' M w' g A ∧ Chg R M w R' M w' ∧ Ext w w' ∧ Sv1 (Om R' M) w' sb g A := by
  have h1 := h.len; have h2 := h.m; have h3 := (Acc.free h.acc).2; have h4 := h.f1
  exact Save_spec hA (by omega) (by omega) (by omega)
theorem dLoad {A B : Ar} {D D' : List Tr} (h : Inv A D) (hB : Inv B D') (h1 : B.fan = A.fan) (h2 : B.most = A.most) {R M : Nat → Prop} {w : World} {g sb : Nat} (hA : Ar1 R M w g A) (s : Sv1 (Om R M) w sb g B) :
    CallsV Try.prog 75 #[.pointer (some ⟨g, 0, none⟩), .pointer (some ⟨sb, 0, none⟩)] w fun r w' => r = .int .i64 0 ∧ ∃ R' M', Ar1 R' M' w' g B ∧ Chg R M w R' M' w' := by
  have h1' := hB.len; have h2' := hB.m; have h3 := (Acc.free hB.acc).2; have h4 := h.f1
  exact Load_spec hA (by omega) s h1 h2 (by omega) (by omega)
theorem Inv.nodesE {A : Ar} {D : List Tr} (h : Inv A D) : A.nodes = (D.map fun d => d.ps.length).sum := by
  have := h.acc.nodes
  rw [List.length_nil, Nat.zero_add, List.length_flatMap] at this
  exact this
theorem nd_mid {D1 D2 : List Tr} {d : Tr} (h : ((D1 ++ d :: D2).map fun d => d.r).Nodup) : ∀ x ∈ D1 ++ D2, x.r ≠ d.r := by
  intro x hx he
  rw [List.map_append, List.map_cons, List.nodup_append] at h
  obtain ⟨n1, n2, n3⟩ := h
  rw [List.nodup_cons] at n2
  rcases List.mem_append.1 hx with h | h
  · exact n3 x.r (List.mem_map.2 ⟨x, h, rfl⟩) d.r (by simp) he
  · exact n2.1 (List.mem_map.2 ⟨x, h, he⟩)
end Go.Proofs.Ythfagbfllheneaa
set_option linter.unusedVariables false
set_option maxRecDepth 100000
namespace Go.Proofs.Ythfagbfllheneaa
open Go Go.Sx
noncomputable def cardindexref04_Compare.W : Option Addr → Nat → Nat → Option Addr → Nat → Nat → World → (Value → World → Prop) → Prop := fun (a_A : Option Addr) (a_n a_c : Nat) (b_A : Option Addr)
 (b_n b_c : Nat) (w : World) (K : Value → World → Prop) => ∃ (J : World → Prop), (∀ (w : World), J w → bif decide ((↑a_n : Int) < (↑b_n : Int)) then K (Value.int IntKind.i64 (-1 : Int)) w else
 bif decide ((↑b_n : Int) < (↑a_n : Int)) then K (Value.int IntKind.i64 (1 : Int)) w else K (Value.int IntKind.i64 (0 : Int)) w) ∧ ∃ (I : Int → World → Prop) (μ : Int → World → Nat), I (0 :
 Int) w ∧ ∀ (x : Int) (w : World), I x w → bif decide (x < (↑a_n : Int)) then bif decide (x < (↑b_n : Int)) then ∃ (ad : Addr), a_A = some ad ∧ ((0 : Int) ≤ x ∧ x < (↑a_n :
 Int)) ∧ ∃ (S : World → Prop), S (World.drew w) ∧ ∃ (x_1 : Int), (∀ (u : World), S u → World.cell? u (Addr.add ad (Int.toNat x * 1)) = some (Value.int IntKind.u8 x_1)) ∧ ∃ (ad : Addr), b_A =
 some ad ∧ ((0 : Int) ≤ x ∧ x < (↑b_n : Int)) ∧ ∃ (x_2 : Int), (∀ (u : World), S u → World.cell? u (Addr.add ad (Int.toNat x * 1)) = some (Value.int IntKind.u8 x_2)) ∧ bif decide
 (x_1 < x_2) then K (Value.int IntKind.i64 (-1 : Int)) (World.drew w) else ∃ (ad : Addr), a_A = some ad ∧ ((0 : Int) ≤ x ∧ x < (↑a_n : Int)) ∧ ∃ (S : World → Prop), S (World.drew (World.drew w))
 ∧ ∃ (x_3 : Int), (∀ (u : World), S u → World.cell? u (Addr.add ad (Int.toNat x * 1)) = some (Value.int IntKind.u8 x_3)) ∧ ∃ (ad : Addr), b_A = some ad ∧ ((0 : Int) ≤ x ∧ x < (↑b_n : Int))
 ∧ ∃ (x_4 : Int), (∀ (u : World), S u → World.cell? u (Addr.add ad (Int.toNat x * 1)) = some (Value.int IntKind.u8 x_4)) ∧ bif decide (x_4 < x_3) then K (Value.int IntKind.i64 (1 :
 Int)) (World.drew (World.drew w)) else I (IntKind.wrap IntKind.i64 (x + (1 : Int))) (World.drew (World.drew w)) ∧ μ (IntKind.wrap IntKind.i64 (x + (1 : Int))) (World.drew (World.drew w)) < μ x w else J
 w else J w
theorem cardindexref04_Compare.calls (ok : Okay Try.prog) {a_A : Option Addr} {a_n : Nat} {a_c : Nat} {b_A : Option Addr} {b_n : Nat} {b_c : Nat} {w : World} {K : Value → World → Prop} (h : cardindexref04_Compare.W a_A a_n a_c b_A b_n b_c w K) : CallsV Try.prog 84 #[.slice a_A a_n a_c, .slice b_A b_n b_c] w K :=
  fnW_calls ok Try.func84 (an := (.named (.seq .auto (.join [] (.seq .auto (.block (.loop [(5, .one (.int .i64))] .auto))) .auto)))) (args := [.slice a_A a_n a_c, .slice b_A b_n b_c]) (Eq.mp (by kernel_rfl) h)
noncomputable def cardindexref04_Trees_Find.W : Option Addr → Nat → Nat → Int → Int → World → (Value → World → Prop) → Prop := fun (t0_A : Option Addr) (t0_n t0_c : Nat) (t1 root : Int) (w : World) (K
 : Value → World → Prop) => ∀ (g : Nat) (w' : World), Fresh w g w' [Value.slice t0_A t0_n t0_c, Value.int IntKind.i64 t1] 61 → ∃ (I : Int → World → Prop) (μ : Int → World → Nat), I (0 : Int) w' ∧ ∀ (x :
 Int) (w : World), I x w → ∃ (x_1 : Option Addr) (x_2 x_3 : Nat), World.cell? w (Addr.add (Addr.mk g 0 none) 0) = some (Value.slice x_1 x_2 x_3) ∧ bif decide (x < (↑x_2 : Int))
 then ∃ (x_4 : Option Addr) (x_5 x_6 : Nat), World.cell? w (Addr.add (Addr.mk g 0 none) 0) = some (Value.slice x_4 x_5 x_6) ∧ ∃ (ad : Addr), x_4 = some ad ∧ ((0 : Int) ≤ x ∧ x <
 (↑x_5 : Int)) ∧ ∃ (x_7 : Int), World.cell? w (Addr.add (Addr.add ad (Int.toNat x * 2)) 0) = some (Value.int IntKind.i64 x_7) ∧ bif decide (x_7 = root) then K (Value.int IntKind.i64 x)
 w else I (IntKind.wrap IntKind.i64 (x + (1 : Int))) w ∧ μ (IntKind.wrap IntKind.i64 (x + (1 : Int))) w < μ x w else K (Value.int IntKind.i64 (-1 : Int)) w
theorem cardindexref04_Trees_Find.calls (ok : Okay Try.prog) {t0_A : Option Addr} {t0_n : Nat} {t0_c : Nat} {t1 : Int} {root : Int} {w : World} {K : Value → World → Prop} (h : cardindexref04_Trees_Find.W t0_A t0_n t0_c t1 root w K) : CallsV Try.prog 36 #[.agg #[.slice t0_A t0_n t0_c, .int .i64 t1], .int .i64 root] w K :=
  fnW_calls ok Try.func36 (an := (.named (.seq .auto (.seq (.seq .auto (.block (.loop [(5, .one (.int .i64))] .auto))) .auto)))) (args := [.agg #[.slice t0_A t0_n t0_c, .int .i64 t1], .int .i64 root]) (Eq.mp (by kernel_rfl) h)
noncomputable def cardindexref04_Trees_with.W : Option Addr → Nat → Nat → Int → Int → Option Addr → Nat → Nat → World → (Value → World → Prop) → Prop := fun (t0_A : Option Addr) (t0_n t0_c : Nat) (t1
 atx : Int) (l_A : Option Addr) (l_n l_c : Nat) (w : World) (K : Value → World → Prop) => ∀ (g : Nat) (w' : World), Fresh w g w' [Value.slice t0_A t0_n t0_c, Value.int IntKind.i64 t1] 61 → ∀ (g_1 : Nat)
 (w'_1 : World), Fresh w' g_1 w'_1 [Value.slice none 0 0, Value.int IntKind.i64 (0 : Int)] 61 → ∃ (I : Option Addr → Nat → Nat → Int → World → Prop) (μ : Option Addr → Nat → Nat → Int → World →
 Nat), I none 0 0 (0 : Int) w'_1 ∧ ∀ (x : Option Addr) (x_1 x_2 : Nat) (x_3 : Int) (w : World), I x x_1 x_2 x_3 w → ∃ (x_4 : Option Addr) (x_5 x_6 : Nat), World.cell? w (Addr.add (Addr.mk g 0
 none) 0) = some (Value.slice x_4 x_5 x_6) ∧ bif decide (x_3 < (↑x_5 : Int)) then ∃ (x_7 : Option Addr) (x_8 x_9 : Nat), World.cell? w (Addr.add (Addr.mk g 0 none) 0) =
 some (Value.slice x_7 x_8 x_9) ∧ ∃ (ad : Addr), x_7 = some ad ∧ ((0 : Int) ≤ x_3 ∧ x_3 < (↑x_8 : Int)) ∧ ∃ (x_10 : Int), World.cell? w (Addr.add (Addr.add ad (Int.toNat x_3 * 2)) 0) =
 some (Value.int IntKind.i64 x_10) ∧ ∃ (x_11 : Option Addr) (x_12 x_13 : Nat), World.cell? w (Addr.add (Addr.add ad (Int.toNat x_3 * 2)) 1) = some (Value.slice x_11 x_12 x_13) ∧ ∀ (g :
 Nat) (w' : World), Fresh w g w' [Value.int IntKind.i64 (0 : Int), Value.slice none 0 0] 132 → stOK (Addr.mk g 0 none) 0 [Value.int IntKind.i64 x_10, Value.slice x_11 x_12 x_13] w' ∧ ∀
 (w'_2 : World), w'_2 = setAll (Addr.mk g 0 none) 0 [Value.int IntKind.i64 x_10, Value.slice x_11 x_12 x_13] w' → bif decide (x_3 = atx) then stOK (Addr.add (Addr.mk g 0 none) 1)
 0 [Value.slice l_A l_n l_c] w'_2 ∧ ∀ (w' : World), w' = setAll (Addr.add (Addr.mk g 0 none) 1) 0 [Value.slice l_A l_n l_c] w'_2 → ∃ (x_14 : Int), World.cell? w' (Addr.add (Addr.mk g 0
 none) 0) = some (Value.int IntKind.i64 x_14) ∧ ∃ (x_15 : Option Addr) (x_16 x_17 : Nat), World.cell? w' (Addr.add (Addr.mk g 0 none) 1) = some (Value.slice x_15 x_16 x_17) ∧
 ∀ (g : Nat) (w'_3 : World), Fresh w' g w'_3 [Value.int IntKind.i64 x_14, Value.slice x_15 x_16 x_17] 132 → ∃ (x_18 : Option Addr) (x_19 x_20 : Nat) (w' : World), RunsTo Try.prog (Builtin.append_
 (Array.mk [59, 59]) 59 #[Value.slice x x_1 x_2, Value.slice (some (Addr.mk g 0 none)) 1 1]) w'_3 (Value.slice x_18 x_19 x_20) w' ∧ I x_18 x_19 x_20 (IntKind.wrap IntKind.i64 (x_3 + (1 :
 Int))) w' ∧ μ x_18 x_19 x_20 (IntKind.wrap IntKind.i64 (x_3 + (1 : Int))) w' < μ x x_1 x_2 x_3 w else ∃ (x_14 : Int), World.cell? w'_2 (Addr.add (Addr.mk g 0 none) 0) = some (Value.int
 IntKind.i64 x_14) ∧ ∃ (x_15 : Option Addr) (x_16 x_17 : Nat), World.cell? w'_2 (Addr.add (Addr.mk g 0 none) 1) = some (Value.slice x_15 x_16 x_17) ∧ ∀ (g : Nat) (w' : World), Fresh w'_2 g
 w' [Value.int IntKind.i64 x_14, Value.slice x_15 x_16 x_17] 132 → ∃ (x_18 : Option Addr) (x_19 x_20 : Nat) (w'_3 : World), RunsTo Try.prog (Builtin.append_ (Array.mk [59, 59]) 59 #[Value.slice x x_1
 x_2, Value.slice (some (Addr.mk g 0 none)) 1 1]) w' (Value.slice x_18 x_19 x_20) w'_3 ∧ I x_18 x_19 x_20 (IntKind.wrap IntKind.i64 (x_3 + (1 : Int))) w'_3 ∧ μ x_18 x_19 x_20 (IntKind.wrap
 IntKind.i64 (x_3 + (1 : Int))) w'_3 < μ x x_1 x_2 x_3 w else stOK (Addr.add (Addr.mk g 0 none) 0) 0 [Value.slice x x_1 x_2] w ∧ ∀ (w' : World), w' = setAll (Addr.add (Addr.mk g 0 none) 0)
 0 [Value.slice x x_1 x_2] w → ∃ (x : Option Addr) (x_7 x_8 : Nat), World.cell? w' (Addr.add (Addr.mk g 0 none) 0) = some (Value.slice x x_7 x_8) ∧ ∃ (x_9 : Int), World.cell? w' (Addr.add
 (Addr.mk g 0 none) 1) = some (Value.int IntKind.i64 x_9) ∧ stOK (Addr.mk g_1 0 none) 0 [Value.slice x x_7 x_8, Value.int IntKind.i64 x_9] w' ∧ ∀ (w'_2 : World), w'_2 = setAll
 (Addr.mk g_1 0 none) 0 [Value.slice x x_7 x_8, Value.int IntKind.i64 x_9] w' → ∃ (x : Option Addr) (x_10 x_11 : Nat), World.cell? w'_2 (Addr.add (Addr.mk g_1 0 none) 0) = some
 (Value.slice x x_10 x_11) ∧ ∃ (x_12 : Int), World.cell? w'_2 (Addr.add (Addr.mk g_1 0 none) 1) = some (Value.int IntKind.i64 x_12) ∧ K (Value.agg #[Value.slice x x_10 x_11, Value.int
 IntKind.i64 x_12]) w'_2
theorem cardindexref04_Trees_with.calls (ok : Okay Try.prog) {t0_A : Option Addr} {t0_n : Nat} {t0_c : Nat} {t1 : Int} {atx : Int} {l_A : Option Addr} {l_n : Nat} {l_c : Nat} {w : World} {K : Value → World → Prop} (h : cardindexref04_Trees_with.W t0_A t0_n t0_c t1 atx l_A l_n l_c w K) : CallsV Try.prog 85 #[.agg #[.slice t0_A t0_n t0_c, .int .i64 t1], .int .i64 atx, .slice l_A l_n l_c] w K :=
  fnW_calls ok Try.func85 (an := (.named (.seq .auto (.seq .auto (.seq (.seq .auto (.block (.loop [(7, .one .slc), (8, .one (.int .i64))] .auto))) .auto))))) (args := [.agg #[.slice t0_A t0_n t0_c, .int .i64 t1], .int .i64 atx, .slice l_A l_n l_c]) (Eq.mp (by kernel_rfl) h)
noncomputable def cardindexref04_Trees_Create.W : Option Addr → Nat → Nat → Int → World → (Value → World → Prop) → Prop := fun (t0_A : Option Addr) (t0_n t0_c : Nat) (t1 : Int) (w : World) (K : Value →
 World → Prop) => ∀ (g : Nat) (w' : World), Fresh w g w' [Value.slice t0_A t0_n t0_c, Value.int IntKind.i64 t1] 61 → ∀ (g_1 : Nat) (w'_1 : World), Fresh w' g_1 w'_1 [Value.slice none 0 0,
 Value.int IntKind.i64 (0 : Int)] 61 → ∃ (x : Option Addr) (x_1 x_2 : Nat), World.cell? w'_1 (Addr.add (Addr.mk g 0 none) 0) = some (Value.slice x x_1 x_2) ∧ ∃ (x_3 : Option Addr) (x_4 x_5
 : Nat) (w' : World), RunsTo Try.prog (Builtin.append_ (Array.mk [59, 59]) 59 #[Value.slice none 0 0, Value.slice x x_1 x_2]) w'_1 (Value.slice x_3 x_4 x_5) w' ∧ ∃ (x : Int), World.cell? w'
 (Addr.add (Addr.mk g 0 none) 1) = some (Value.int IntKind.i64 x) ∧ stOK (Addr.add (Addr.mk g 0 none) 1) 0 [Value.int IntKind.i64 (IntKind.wrap IntKind.i64 (x + (1 : Int)))] w' ∧ ∀
 (w'_2 : World), w'_2 = setAll (Addr.add (Addr.mk g 0 none) 1) 0 [Value.int IntKind.i64 (IntKind.wrap IntKind.i64 (x + (1 : Int)))] w' → ∃ (x : Int), World.cell? w'_2 (Addr.add (Addr.mk g 0
 none) 1) = some (Value.int IntKind.i64 x) ∧ ∀ (g_2 : Nat) (w' : World), Fresh w'_2 g_2 w' [Value.int IntKind.i64 x, Value.slice none 0 0] 132 → ∃ (x : Option Addr) (x_6 x_7 : Nat)
 (w'_3 : World), RunsTo Try.prog (Builtin.append_ (Array.mk [59, 59]) 59 #[Value.slice x_3 x_4 x_5, Value.slice (some (Addr.mk g_2 0 none)) 1 1]) w' (Value.slice x x_6 x_7) w'_3 ∧ stOK
 (Addr.add (Addr.mk g 0 none) 0) 0 [Value.slice x x_6 x_7] w'_3 ∧ ∀ (w' : World), w' = setAll (Addr.add (Addr.mk g 0 none) 0) 0 [Value.slice x x_6 x_7] w'_3 → ∃ (x : Option Addr) (x_8 x_9
 : Nat), World.cell? w' (Addr.add (Addr.mk g 0 none) 0) = some (Value.slice x x_8 x_9) ∧ ∃ (x_10 : Int), World.cell? w' (Addr.add (Addr.mk g 0 none) 1) = some (Value.int
 IntKind.i64 x_10) ∧ stOK (Addr.mk g_1 0 none) 0 [Value.slice x x_8 x_9, Value.int IntKind.i64 x_10] w' ∧ ∀ (w'_4 : World), w'_4 = setAll (Addr.mk g_1 0 none) 0 [Value.slice x x_8 x_9,
 Value.int IntKind.i64 x_10] w' → ∃ (x : Option Addr) (x_11 x_12 : Nat), World.cell? w'_4 (Addr.add (Addr.mk g_1 0 none) 0) = some (Value.slice x x_11 x_12) ∧ ∃ (x_13 : Int), World.cell?
 w'_4 (Addr.add (Addr.mk g_1 0 none) 1) = some (Value.int IntKind.i64 x_13) ∧ K (Value.agg #[Value.slice x x_11 x_12, Value.int IntKind.i64 x_13]) w'_4
theorem cardindexref04_Trees_Create.calls (ok : Okay Try.prog) {t0_A : Option Addr} {t0_n : Nat} {t0_c : Nat} {t1 : Int} {w : World} {K : Value → World → Prop} (h : cardindexref04_Trees_Create.W t0_A t0_n t0_c t1 w K) : CallsV Try.prog 42 #[.agg #[.slice t0_A t0_n t0_c, .int .i64 t1]] w K :=
  fnW_calls ok Try.func42 (an := (.named .auto)) (args := [.agg #[.slice t0_A t0_n t0_c, .int .i64 t1]]) (Eq.mp (by kernel_rfl) h)
noncomputable def cardindexref04_Trees_Drop.W : Option Addr → Nat → Nat → Int → Int → World → (Value → World → Prop) → Prop := fun (t0_A : Option Addr) (t0_n t0_c : Nat) (t1 atx : Int) (w : World) (K :
 Value → World → Prop) => ∀ (g : Nat) (w' : World), Fresh w g w' [Value.slice t0_A t0_n t0_c, Value.int IntKind.i64 t1] 61 → ∀ (g_1 : Nat) (w'_1 : World), Fresh w' g_1 w'_1 [Value.slice none 0 0,
 Value.int IntKind.i64 (0 : Int)] 61 → ∃ (I : Option Addr → Nat → Nat → Int → World → Prop) (μ : Option Addr → Nat → Nat → Int → World → Nat), I none 0 0 (0 : Int) w'_1 ∧ ∀ (x : Option Addr) (x_1
 x_2 : Nat) (x_3 : Int) (w : World), I x x_1 x_2 x_3 w → ∃ (x_4 : Option Addr) (x_5 x_6 : Nat), World.cell? w (Addr.add (Addr.mk g 0 none) 0) = some (Value.slice x_4 x_5 x_6) ∧ bif
 decide (x_3 < (↑x_5 : Int)) then bif !decide (x_3 = atx) then ∃ (x_7 : Option Addr) (x_8 x_9 : Nat), World.cell? w (Addr.add (Addr.mk g 0 none) 0) = some (Value.slice
 x_7 x_8 x_9) ∧ ∃ (ad : Addr), x_7 = some ad ∧ ((0 : Int) ≤ x_3 ∧ x_3 < (↑x_8 : Int)) ∧ ∃ (x_10 : Int), World.cell? w (Addr.add (Addr.add ad (Int.toNat x_3 * 2)) 0) = some (Value.int
 IntKind.i64 x_10) ∧ ∃ (x_11 : Option Addr) (x_12 x_13 : Nat), World.cell? w (Addr.add (Addr.add ad (Int.toNat x_3 * 2)) 1) = some (Value.slice x_11 x_12 x_13) ∧ ∀ (g : Nat) (w' : World), Fresh w
 g w' [Value.int IntKind.i64 x_10, Value.slice x_11 x_12 x_13] 132 → ∃ (x_14 : Option Addr) (x_15 x_16 : Nat) (w'_2 : World), RunsTo Try.prog (Builtin.append_ (Array.mk [59, 59]) 59 #[Value.slice x x_1
 x_2, Value.slice (some (Addr.mk g 0 none)) 1 1]) w' (Value.slice x_14 x_15 x_16) w'_2 ∧ I x_14 x_15 x_16 (IntKind.wrap IntKind.i64 (x_3 + (1 : Int))) w'_2 ∧ μ x_14 x_15 x_16 (IntKind.wrap
 IntKind.i64 (x_3 + (1 : Int))) w'_2 < μ x x_1 x_2 x_3 w else I x x_1 x_2 (IntKind.wrap IntKind.i64 (x_3 + (1 : Int))) w ∧ μ x x_1 x_2 (IntKind.wrap IntKind.i64 (x_3 + (1 : Int))) w < μ x x_1 x_2 x_3 w
 else stOK (Addr.add (Addr.mk g 0 none) 0) 0 [Value.slice x x_1 x_2] w ∧ ∀ (w' : World), w' = setAll (Addr.add (Addr.mk g 0 none) 0) 0 [Value.slice x x_1 x_2] w → ∃ (x : Option Addr) (x_7
 x_8 : Nat), World.cell? w' (Addr.add (Addr.mk g 0 none) 0) = some (Value.slice x x_7 x_8) ∧ ∃ (x_9 : Int), World.cell? w' (Addr.add (Addr.mk g 0 none) 1) = some (Value.int
 IntKind.i64 x_9) ∧ stOK (Addr.mk g_1 0 none) 0 [Value.slice x x_7 x_8, Value.int IntKind.i64 x_9] w' ∧ ∀ (w'_2 : World), w'_2 = setAll (Addr.mk g_1 0 none) 0 [Value.slice x x_7 x_8,
 Value.int IntKind.i64 x_9] w' → ∃ (x : Option Addr) (x_10 x_11 : Nat), World.cell? w'_2 (Addr.add (Addr.mk g_1 0 none) 0) = some (Value.slice x x_10 x_11) ∧ ∃ (x_12 : Int), World.cell?
 w'_2 (Addr.add (Addr.mk g_1 0 none) 1) = some (Value.int IntKind.i64 x_12) ∧ K (Value.agg #[Value.slice x x_10 x_11, Value.int IntKind.i64 x_12]) w'_2
theorem cardindexref04_Trees_Drop.calls (ok : Okay Try.prog) {t0_A : Option Addr} {t0_n : Nat} {t0_c : Nat} {t1 : Int} {atx : Int} {w : World} {K : Value → World → Prop} (h : cardindexref04_Trees_Drop.W t0_A t0_n t0_c t1 atx w K) : CallsV Try.prog 43 #[.agg #[.slice t0_A t0_n t0_c, .int .i64 t1], .int .i64 atx] w K :=
  fnW_calls ok Try.func43 (an := (.named (.seq .auto (.seq .auto (.seq (.seq .auto (.block (.loop [(5, .one .slc), (6, .one (.int .i64))] .auto))) .auto))))) (args := [.agg #[.slice t0_A t0_n t0_c, .int .i64 t1], .int .i64 atx]) (Eq.mp (by kernel_rfl) h)
noncomputable def cardindexref04_Trees_Place.W : Option Addr → Nat → Nat → Int → Int → Option Addr → Nat → Nat → World → (Value → World → Prop) → Prop := fun (t0_A : Option Addr) (t0_n t0_c : Nat) (t1
 atx : Int) (key_A : Option Addr) (key_n key_c : Nat) (w : World) (K : Value → World → Prop) => ∀ (g : Nat) (w' : World), Fresh w g w' [Value.slice t0_A t0_n t0_c, Value.int IntKind.i64 t1] 61 → ∃ (x :
 Option Addr) (x_1 x_2 : Nat), World.cell? w' (Addr.add (Addr.mk g 0 none) 0) = some (Value.slice x x_1 x_2) ∧ ∃ (ad : Addr), x = some ad ∧ ((0 : Int) ≤ atx ∧ atx < (↑x_1 : Int)) ∧
 ∃ (x : Option Addr) (x_3 x_4 : Nat), World.cell? w' (Addr.add (Addr.add ad (Int.toNat atx * 2)) 1) = some (Value.slice x x_3 x_4) ∧ ∃ (J : Int → World → Prop), (∀ (x_5 : Int) (w : World), J x_5
 w → bif decide (x_5 < (↑x_3 : Int)) then ∃ (ad : Addr), x = some ad ∧ ((0 : Int) ≤ x_5 ∧ x_5 < (↑x_3 : Int)) ∧ ∃ (x : Option Addr) (x_6 x_7 : Nat), World.cell? w (Addr.add (Addr.add ad
 (Int.toNat x_5 * 2)) 0) = some (Value.slice x x_6 x_7) ∧ CallsV Try.prog 84 #[Value.slice x x_6 x_7, Value.slice key_A key_n key_c] w fun (v : Value) (w' : World) => ∃ (x : Int), v = Value.int
 IntKind.i64 x ∧ K (Value.tuple #[Value.int IntKind.i64 x_5, Value.bool (decide (x = (0 : Int)))]) w' else K (Value.tuple #[Value.int IntKind.i64 x_5, Value.bool false]) w) ∧ ∃ (I : Int →
 World → Prop) (μ : Int → World → Nat), I (0 : Int) w' ∧ ∀ (x_5 : Int) (w : World), I x_5 w → bif decide (x_5 < (↑x_3 : Int)) then ∃ (ad : Addr), x = some ad ∧ ((0 : Int) ≤ x_5 ∧ x_5 <
 (↑x_3 : Int)) ∧ ∃ (x : Option Addr) (x_6 x_7 : Nat), World.cell? w (Addr.add (Addr.add ad (Int.toNat x_5 * 2)) 0) = some (Value.slice x x_6 x_7) ∧ CallsV Try.prog 84 #[Value.slice x x_6 x_7,
 Value.slice key_A key_n key_c] w fun (v : Value) (w' : World) => ∃ (x : Int), v = Value.int IntKind.i64 x ∧ bif decide (x < (0 : Int)) then I (IntKind.wrap IntKind.i64 (x_5 + (1 : Int))) w' ∧
 μ (IntKind.wrap IntKind.i64 (x_5 + (1 : Int))) w' < μ x_5 w else J x_5 w' else J x_5 w
theorem cardindexref04_Trees_Place.calls (ok : Okay Try.prog) {t0_A : Option Addr} {t0_n : Nat} {t0_c : Nat} {t1 : Int} {atx : Int} {key_A : Option Addr} {key_n : Nat} {key_c : Nat} {w : World} {K : Value → World → Prop} (h : cardindexref04_Trees_Place.W t0_A t0_n t0_c t1 atx key_A key_n key_c w K) : CallsV Try.prog 37 #[.agg #[.slice t0_A t0_n t0_c, .int .i64 t1], .int .i64 atx, .slice key_A key_n key_c] w K :=
  fnW_calls ok Try.func37 (an := (.named (.seq .auto (.seq .auto (.seq .auto (.join [(9, .one (.int .i64))] (.block (.loop [(9, .one (.int .i64))] .auto)) .auto)))))) (args := [.agg #[.slice t0_A t0_n t0_c, .int .i64 t1], .int .i64 atx, .slice key_A key_n key_c]) (Eq.mp (by kernel_rfl) h)
noncomputable def cardindexref04_Trees_Put.W : Option Addr → Nat → Nat → Int → Int → Option Addr → Nat → Nat → Option Addr → Nat → Nat → World → (Value → World → Prop) → Prop := fun (t0_A : Option
 Addr) (t0_n t0_c : Nat) (t1 atx : Int) (key_A : Option Addr) (key_n key_c : Nat) (val_A : Option Addr) (val_n val_c : Nat) (w : World) (K : Value → World → Prop) => ∀ (g : Nat) (w' : World), Fresh w g
 w' [Value.slice t0_A t0_n t0_c, Value.int IntKind.i64 t1] 61 → ∀ (g_1 : Nat) (w'_1 : World), Fresh w' g_1 w'_1 [Value.slice none 0 0, Value.int IntKind.i64 (0 : Int)] 61 → ∃ (x : Option Addr)
 (x_1 x_2 : Nat), World.cell? w'_1 (Addr.add (Addr.mk g 0 none) 0) = some (Value.slice x x_1 x_2) ∧ ∃ (x_3 : Int), World.cell? w'_1 (Addr.add (Addr.mk g 0 none) 1) = some
 (Value.int IntKind.i64 x_3) ∧ CallsV Try.prog 37 #[Value.agg #[Value.slice x x_1 x_2, Value.int IntKind.i64 x_3], Value.int IntKind.i64 atx, Value.slice key_A key_n key_c] w'_1 fun (v : Value) (w' :
 World) => ∃ (x : Int) (x_4 : Bool), v = Value.tuple #[Value.int IntKind.i64 x, Value.bool x_4] ∧ ∃ (x_5 : Option Addr) (x_6 x_7 : Nat) (w'_2 : World), RunsTo Try.prog (Builtin.append_ (Array.mk [28,
 28]) 28 #[Value.slice none 0 0, Value.slice key_A key_n key_c]) w' (Value.slice x_5 x_6 x_7) w'_2 ∧ ∃ (x_8 : Option Addr) (x_9 x_10 : Nat) (w' : World), RunsTo Try.prog (Builtin.append_
 (Array.mk [28, 28]) 28 #[Value.slice none 0 0, Value.slice val_A val_n val_c]) w'_2 (Value.slice x_8 x_9 x_10) w' ∧ ∀ (g_2 : Nat) (w'_3 : World), Fresh w' g_2 w'_3 [Value.slice none 0 0,
 Value.slice none 0 0] 135 → stOK (Addr.mk g_2 0 none) 0 [Value.slice x_5 x_6 x_7, Value.slice x_8 x_9 x_10] w'_3 ∧ ∀ (w' : World), w' = setAll (Addr.mk g_2 0 none) 0 [Value.slice
 x_5 x_6 x_7, Value.slice x_8 x_9 x_10] w'_3 → ∃ (x_11 : Option Addr) (x_12 x_13 : Nat), World.cell? w' (Addr.add (Addr.mk g 0 none) 0) = some (Value.slice x_11 x_12 x_13) ∧ ∃ (ad : Addr),
 x_11 = some ad ∧ ((0 : Int) ≤ atx ∧ atx < (↑x_12 : Int)) ∧ ∃ (x_14 : Option Addr) (x_15 x_16 : Nat), World.cell? w' (Addr.add (Addr.add ad (Int.toNat atx * 2)) 1) = some (Value.slice x_14
 x_15 x_16) ∧ ((0 : Int) ≤ x ∧ x ≤ (↑x_16 : Int)) ∧ ∃ (x_17 : Option Addr) (x_18 x_19 : Nat) (w'_4 : World), RunsTo Try.prog (Builtin.append_ (Array.mk [130, 130]) 130 #[Value.slice none 0 0,
 Value.slice (cutAt x_14 x_16 0 2) (Int.toNat x - 0) (x_16 - 0)]) w' (Value.slice x_17 x_18 x_19) w'_4 ∧ ∃ (x_20 : Option Addr) (x_21 x_22 : Nat), World.cell? w'_4 (Addr.add (Addr.mk g_2 0 none)
 0) = some (Value.slice x_20 x_21 x_22) ∧ ∃ (x_23 : Option Addr) (x_24 x_25 : Nat), World.cell? w'_4 (Addr.add (Addr.mk g_2 0 none) 1) = some (Value.slice x_23 x_24 x_25) ∧ ∀ (g_3 :
 Nat) (w' : World), Fresh w'_4 g_3 w' [Value.slice x_20 x_21 x_22, Value.slice x_23 x_24 x_25] 135 → ∃ (x_26 : Option Addr) (x_27 x_28 : Nat) (w'_5 : World), RunsTo Try.prog (Builtin.append_ (Array.mk
 [130, 130]) 130 #[Value.slice x_17 x_18 x_19, Value.slice (some (Addr.mk g_3 0 none)) 1 1]) w' (Value.slice x_26 x_27 x_28) w'_5 ∧ ∃ (J : Int → World → Prop), (∀ (x : Int) (w : World), J
 x w → ∃ (S : World → Prop), S (World.drew w) ∧ ∃ (x_29 : Option Addr) (x_30 x_31 : Nat), (∀ (u : World), S u → World.cell? u (Addr.add (Addr.mk g 0 none) 0) = some (Value.slice x_29 x_30
 x_31)) ∧ ∃ (x_32 : Int), (∀ (u : World), S u → World.cell? u (Addr.add (Addr.mk g 0 none) 1) = some (Value.int IntKind.i64 x_32)) ∧ ((0 : Int) ≤ x ∧ x ≤ (↑x_15 : Int)) ∧ ∃ (x_33 : Option
 Addr) (x_34 x_35 : Nat) (w' : World), RunsTo Try.prog (Builtin.append_ (Array.mk [130, 130]) 130 #[Value.slice x_26 x_27 x_28, Value.slice (cutAt x_14 x_16 (Int.toNat x) 2) (x_15 - Int.toNat x) (x_16 -
 Int.toNat x)]) (World.drew w) (Value.slice x_33 x_34 x_35) w' ∧ S w' ∧ CallsV Try.prog 85 #[Value.agg #[Value.slice x_29 x_30 x_31, Value.int IntKind.i64 x_32], Value.int IntKind.i64 atx, Value.slice
 x_33 x_34 x_35] w' fun (v : Value) (w' : World) => ∃ (x : Option Addr) (x_36 x_37 : Nat) (x_38 : Int), v = Value.agg #[Value.slice x x_36 x_37, Value.int IntKind.i64 x_38] ∧ stOK (Addr.mk g_1 0
 none) 0 [Value.slice x x_36 x_37, Value.int IntKind.i64 x_38] w' ∧ ∀ (w'_6 : World), w'_6 = setAll (Addr.mk g_1 0 none) 0 [Value.slice x x_36 x_37, Value.int IntKind.i64 x_38] w' → ∃ (x :
 Option Addr) (x_39 x_40 : Nat), World.cell? w'_6 (Addr.add (Addr.mk g_1 0 none) 0) = some (Value.slice x x_39 x_40) ∧ ∃ (x_41 : Int), World.cell? w'_6 (Addr.add (Addr.mk g_1 0
 none) 1) = some (Value.int IntKind.i64 x_41) ∧ K (Value.agg #[Value.slice x x_39 x_40, Value.int IntKind.i64 x_41]) w'_6) ∧ bif x_4 then J (IntKind.wrap IntKind.i64 (x + (1 : Int))) w'_5
 else J x w'_5
theorem cardindexref04_Trees_Put.calls (ok : Okay Try.prog) {t0_A : Option Addr} {t0_n : Nat} {t0_c : Nat} {t1 : Int} {atx : Int} {key_A : Option Addr} {key_n : Nat} {key_c : Nat} {val_A : Option Addr} {val_n : Nat} {val_c : Nat} {w : World} {K : Value → World → Prop} (h : cardindexref04_Trees_Put.W t0_A t0_n t0_c t1 atx key_A key_n key_c val_A val_n val_c w K) : CallsV Try.prog 38 #[.agg #[.slice t0_A t0_n t0_c, .int .i64 t1], .int .i64 atx, .slice key_A key_n key_c, .slice val_A val_n val_c] w K :=
  fnW_calls ok Try.func38 (an := (.named (.seq .auto (.seq .auto (.seq .auto (.seq .auto (.seq .auto (.seq .auto (.seq .auto (.seq .auto (.join [(9, .one (.int .i64))] .auto .auto))))))))))) (args := [.agg #[.slice t0_A t0_n t0_c, .int .i64 t1], .int .i64 atx, .slice key_A key_n key_c, .slice val_A val_n val_c]) (Eq.mp (by kernel_rfl) h)
noncomputable def cardindexref04_Trees_Delete.W : Option Addr → Nat → Nat → Int → Int → Option Addr → Nat → Nat → World → (Value → World → Prop) → Prop := fun (t0_A : Option Addr) (t0_n t0_c : Nat) (t1
 atx : Int) (key_A : Option Addr) (key_n key_c : Nat) (w : World) (K : Value → World → Prop) => ∀ (g : Nat) (w' : World), Fresh w g w' [Value.slice t0_A t0_n t0_c, Value.int IntKind.i64 t1] 61 → ∀ (g_1
 : Nat) (w'_1 : World), Fresh w' g_1 w'_1 [Value.slice none 0 0, Value.int IntKind.i64 (0 : Int)] 61 → ∃ (x : Option Addr) (x_1 x_2 : Nat), World.cell? w'_1 (Addr.add (Addr.mk g 0 none) 0)
 = some (Value.slice x x_1 x_2) ∧ ∃ (x_3 : Int), World.cell? w'_1 (Addr.add (Addr.mk g 0 none) 1) = some (Value.int IntKind.i64 x_3) ∧ CallsV Try.prog 37 #[Value.agg #[Value.slice x
 x_1 x_2, Value.int IntKind.i64 x_3], Value.int IntKind.i64 atx, Value.slice key_A key_n key_c] w'_1 fun (v : Value) (w' : World) => ∃ (x : Int) (x_4 : Bool), v = Value.tuple #[Value.int IntKind.i64 x,
 Value.bool x_4] ∧ bif !x_4 then ∃ (x : Option Addr) (x_5 x_6 : Nat), World.cell? w' (Addr.add (Addr.mk g 0 none) 0) = some (Value.slice x x_5 x_6) ∧ ∃ (x_7 : Int), World.cell? w'
 (Addr.add (Addr.mk g 0 none) 1) = some (Value.int IntKind.i64 x_7) ∧ stOK (Addr.mk g_1 0 none) 0 [Value.slice x x_5 x_6, Value.int IntKind.i64 x_7] w' ∧ ∀ (w'_2 : World), w'_2 =
 setAll (Addr.mk g_1 0 none) 0 [Value.slice x x_5 x_6, Value.int IntKind.i64 x_7] w' → ∃ (x : Option Addr) (x_8 x_9 : Nat), World.cell? w'_2 (Addr.add (Addr.mk g_1 0 none) 0) = some
 (Value.slice x x_8 x_9) ∧ ∃ (x_10 : Int), World.cell? w'_2 (Addr.add (Addr.mk g_1 0 none) 1) = some (Value.int IntKind.i64 x_10) ∧ K (Value.agg #[Value.slice x x_8 x_9, Value.int
 IntKind.i64 x_10]) w'_2 else ∃ (x_5 : Option Addr) (x_6 x_7 : Nat), World.cell? w' (Addr.add (Addr.mk g 0 none) 0) = some (Value.slice x_5 x_6 x_7) ∧ ∃ (ad : Addr), x_5 = some ad ∧
 ((0 : Int) ≤ atx ∧ atx < (↑x_6 : Int)) ∧ ∃ (x_8 : Option Addr) (x_9 x_10 : Nat), World.cell? w' (Addr.add (Addr.add ad (Int.toNat atx * 2)) 1) = some (Value.slice x_8 x_9 x_10) ∧ ((0 : Int) ≤ x
 ∧ x ≤ (↑x_10 : Int)) ∧ ∃ (x_11 : Option Addr) (x_12 x_13 : Nat) (w'_2 : World), RunsTo Try.prog (Builtin.append_ (Array.mk [130, 130]) 130 #[Value.slice none 0 0, Value.slice (cutAt x_8 x_10 0
 2) (Int.toNat x - 0) (x_10 - 0)]) w' (Value.slice x_11 x_12 x_13) w'_2 ∧ ∃ (S : World → Prop), S (World.drew w'_2) ∧ ∃ (x_14 : Option Addr) (x_15 x_16 : Nat), (∀ (u : World), S u → World.cell? u
 (Addr.add (Addr.mk g 0 none) 0) = some (Value.slice x_14 x_15 x_16)) ∧ ∃ (x_17 : Int), (∀ (u : World), S u → World.cell? u (Addr.add (Addr.mk g 0 none) 1) = some (Value.int
 IntKind.i64 x_17)) ∧ ((0 : Int) ≤ IntKind.wrap IntKind.i64 (x + (1 : Int)) ∧ IntKind.wrap IntKind.i64 (x + (1 : Int)) ≤ (↑x_9 : Int)) ∧ ∃ (x_18 : Option Addr) (x_19 x_20 : Nat) (w' : World), RunsTo
 Try.prog (Builtin.append_ (Array.mk [130, 130]) 130 #[Value.slice x_11 x_12 x_13, Value.slice (cutAt x_8 x_10 (Int.toNat (IntKind.wrap IntKind.i64 (x + (1 : Int)))) 2) (x_9 - Int.toNat (IntKind.wrap
 IntKind.i64 (x + (1 : Int)))) (x_10 - Int.toNat (IntKind.wrap IntKind.i64 (x + (1 : Int))))]) (World.drew w'_2) (Value.slice x_18 x_19 x_20) w' ∧ S w' ∧ CallsV Try.prog 85 #[Value.agg #[Value.slice
 x_14 x_15 x_16, Value.int IntKind.i64 x_17], Value.int IntKind.i64 atx, Value.slice x_18 x_19 x_20] w' fun (v : Value) (w' : World) => ∃ (x : Option Addr) (x_21 x_22 : Nat) (x_23 : Int), v = Value.agg
 #[Value.slice x x_21 x_22, Value.int IntKind.i64 x_23] ∧ stOK (Addr.mk g_1 0 none) 0 [Value.slice x x_21 x_22, Value.int IntKind.i64 x_23] w' ∧ ∀ (w'_3 : World), w'_3 = setAll (Addr.mk g_1 0
 none) 0 [Value.slice x x_21 x_22, Value.int IntKind.i64 x_23] w' → ∃ (x : Option Addr) (x_24 x_25 : Nat), World.cell? w'_3 (Addr.add (Addr.mk g_1 0 none) 0) = some (Value.slice x
 x_24 x_25) ∧ ∃ (x_26 : Int), World.cell? w'_3 (Addr.add (Addr.mk g_1 0 none) 1) = some (Value.int IntKind.i64 x_26) ∧ K (Value.agg #[Value.slice x x_24 x_25, Value.int IntKind.i64 x_26])
 w'_3
theorem cardindexref04_Trees_Delete.calls (ok : Okay Try.prog) {t0_A : Option Addr} {t0_n : Nat} {t0_c : Nat} {t1 : Int} {atx : Int} {key_A : Option Addr} {key_n : Nat} {key_c : Nat} {w : World} {K : Value → World → Prop} (h : cardindexref04_Trees_Delete.W t0_A t0_n t0_c t1 atx key_A key_n key_c w K) : CallsV Try.prog 41 #[.agg #[.slice t0_A t0_n t0_c, .int .i64 t1], .int .i64 atx, .slice key_A key_n key_c] w K :=
  fnW_calls ok Try.func41 (an := (.named .auto)) (args := [.agg #[.slice t0_A t0_n t0_c, .int .i64 t1], .int .i64 atx, .slice key_A key_n key_c]) (Eq.mp (by kernel_rfl) h)
end Go.Proofs.Ythfagbfllheneaa
set_option linter.unusedVariables false
set_option linter.unusedSimpArgs false
namespace Go.Proofs.Ythfagbfllheneaa
open Go Go.Sx T4
/-! ## plain -/
/-! ## kinds -/
def KEn : Kd (Key × Key) := ⟨2, fun Ω w p cs => ∃ a b, cs = [a, b] ∧ KBs.rep Ω w p.1 [a] ∧ KBs.rep Ω w p.2 [b], fun ⟨_, _, h, _⟩ => by simp [h], fun ⟨a, b, h, h1, h2⟩ st => ⟨a, b, h, KBs.keep h1 st, KBs.keep h2 st⟩⟩
theorem KEn_pos : 0 < KEn.size := by decide
abbrev KEs : Kd Es := Kd.slice KEn KEn_pos
def KTr : Kd (Int × Es) := ⟨2, fun Ω w p cs => ∃ b, cs = [.int .i64 p.1, b] ∧ KEs.rep Ω w p.2 [b], fun ⟨_, h, _⟩ => by simp [h], fun ⟨b, h, h1⟩ st => ⟨b, h, KEs.keep h1 st⟩⟩
theorem KTr_pos : 0 < KTr.size := by decide
section
variable {Ω : Nat → Prop} {w : World}
end
/-! ## Compare -/
/-! ## Find, Place -/
def Fnd (F : List (Int × Es)) (r : Int) (i : Int) : Prop := (i = -1 ∧ ∀ p ∈ F, p.1 ≠ r) ∨ ∃ (j : Nat) (es : Es), i = (j : Int) ∧ F[j]? = some (r, es) ∧ ∀ k p, F[k]? = some p → k < j → p.1 ≠ r
end Go.Proofs.Ythfagbfllheneaa
set_option linter.unusedVariables false
set_option linter.unusedSimpArgs false
namespace Go.Proofs.Ythfagbfllheneaa
open Go Go.Sx T4
section
variable {w : World} {Ω : Nat → Prop}
def TrR (Ω : Nat → Prop) (w : World) (A : Option Addr) (c : Nat) (F : List (Int × Es)) : Prop := Imm KTr Ω w A F ∧ F.length ≤ c
theorem TrR.keep {Ω' : Nat → Prop} {w' : World} {A : Option Addr} {c : Nat} {F : List (Int × Es)} (h : TrR Ω w A c F) (st : Step Ω w Ω' w') : TrR Ω' w' A c F := ⟨h.1.keep KTr_pos st, h.2⟩
theorem TrR.ext {w' : World} {A : Option Addr} {c : Nat} {F : List (Int × Es)} (h : TrR Ω w A c F) (e : Ext w w') : TrR Ω w' A c F := h.keep (e.step Ω)
end
end Go.Proofs.Ythfagbfllheneaa
set_option linter.unusedVariables false
set_option linter.unusedSimpArgs false
namespace Go.Proofs.Ythfagbfllheneaa
open Go Go.Sx T4
section
variable {w : World} {Ω : Nat → Prop}
/-! ## told -/
def EnR (Ω : Nat → Prop) (w : World) (x : Option (Key × Key)) (v : Value) : Prop := match x with
  | none => v = .tuple #[.agg #[.slice none 0 0, .slice none 0 0], .bool false]
  | some (k, v') => ∃ A1 c1 A2 c2, v = .tuple #[.agg #[.slice A1 k.length c1, .slice A2 v'.length c2], .bool true] ∧ k.length ≤ c1 ∧ v'.length ≤ c2 ∧ Imm KB Ω w A1 k ∧ Imm KB Ω w A2 v'
theorem EnR.keep {x : Option (Key × Key)} {v : Value} {Ω' : Nat → Prop} {w' : World} (h : EnR Ω w x v) (st : Step Ω w Ω' w') : EnR Ω' w' x v := by
  cases x with
  | none => exact h
  | some p => obtain ⟨k, v'⟩ := p; obtain ⟨A1, c1, A2, c2, rfl, h1, h2, h3, h4⟩ := h; exact ⟨A1, c1, A2, c2, rfl, h1, h2, h3.keep KB_pos st, h4.keep KB_pos st⟩
theorem EnR.ext {x : Option (Key × Key)} {v : Value} {w' : World} (h : EnR Ω w x v) (e : Ext w w') : EnR Ω w' x v := by
  cases x with
  | none => exact h
  | some p => obtain ⟨k, v'⟩ := p; obtain ⟨A1, c1, A2, c2, rfl, h1, h2, h3, h4⟩ := h; exact ⟨A1, c1, A2, c2, rfl, h1, h2, h3.ext KB_pos e, h4.ext KB_pos e⟩
theorem EnR.form {x : Option (Key × Key)} {v : Value} (h : EnR Ω w x v) : ∃ A1 n1 c1 A2 n2 c2 b, v = .tuple #[.agg #[.slice A1 n1 c1, .slice A2 n2 c2], .bool b] := by
  cases x with
  | none => exact ⟨_, _, _, _, _, _, _, h⟩
  | some p => obtain ⟨k, v'⟩ := p; obtain ⟨A1, c1, A2, c2, h, _⟩ := h; exact ⟨_, _, _, _, _, _, _, h⟩
end
end Go.Proofs.Ythfagbfllheneaa
set_option linter.unusedVariables false
set_option linter.unusedSimpArgs false
namespace Go.Proofs.Ythfagbfllheneaa
open Go Go.Sx T4
/-! ## forests -/
def fo (d : Tr) : Int × Es := (d.r, d.es)
abbrev foD (Ds : List Tr) : List (Int × Es) := Ds.map fo
def gF : List (Int × Es) → Int → Option Es
  | [], _ => none
  | (x, u) :: l, a => if a = x then some u else gF l a
theorem gF_none {F : List (Int × Es)} {r : Int} (h : ∀ p ∈ F, p.1 ≠ r) : gF F r = none := by
  induction F with
  | nil => rfl
  | cons p F ih =>
    obtain ⟨x, u⟩ := p
    have hx : x ≠ r := h (x, u) (by simp)
    show (if r = x then some u else gF F r) = none
    rw [if_neg fun e => hx e.symm]
    exact ih fun p hp => h p (by simp [hp])
theorem gF_at : ∀ {F : List (Int × Es)} {r : Int} {j : Nat} {es : Es}, F[j]? = some (r, es) → (∀ k p, F[k]? = some p → k < j → p.1 ≠ r) → gF F r = some es
  | [], _, _, _, h, _ => by simp at h
  | (x, u) :: F, r, 0, es, h, _ => by
    simp at h
    obtain ⟨rfl, rfl⟩ := h
    show (if x = x then some u else _) = _
    rw [if_pos rfl]
  | (x, u) :: F, r, j + 1, es, h, hn => by
    have hx : x ≠ r := hn 0 (x, u) rfl (by omega)
    show (if r = x then some u else gF F r) = _
    rw [if_neg fun e => hx e.symm]
    exact gF_at (by simpa using h) fun k p hk hlt => hn (k + 1) p (by simpa using hk) (by omega)
theorem Fnd.cases {F : List (Int × Es)} {r i : Int} (h : Fnd F r i) : (i = -1 ∧ gF F r = none ∧ ∀ p ∈ F, p.1 ≠ r) ∨ ∃ (j : Nat) (es : Es), i = (j : Int) ∧ F[j]? = some (r, es) ∧ gF F r = some es := by
  rcases h with ⟨h1, h2⟩ | ⟨j, es, h1, h2, h3⟩
  · exact .inl ⟨h1, gF_none h2, h2⟩
  · exact .inr ⟨j, es, h1, h2, gF_at h2 h3⟩
theorem find_split {Ds : List Tr} {r : Int} : (gF (foD Ds) r = none ∧ ∀ d ∈ Ds, d.r ≠ r) ∨ ∃ D1 d D2, Ds = D1 ++ d :: D2 ∧ d.r = r ∧ gF (foD Ds) r = some d.es := by
  induction Ds with
  | nil => exact .inl ⟨rfl, fun d h => by cases h⟩
  | cons x Ds ih =>
    by_cases hx : r = x.r
    · exact .inr ⟨[], x, Ds, rfl, hx.symm, by show (if r = x.r then some x.es else _) = _; rw [if_pos hx]⟩
    · have e : gF (foD (x :: Ds)) r = gF (foD Ds) r := by show (if r = x.r then some x.es else _) = _; rw [if_neg hx]
      rcases ih with ⟨h1, h2⟩ | ⟨D1, d, D2, h1, h2, h3⟩
      · refine .inl ⟨by rw [e]; exact h1, fun d hd => ?_⟩
        rcases List.mem_cons.1 hd with rfl | hd
        · exact fun h => hx h.symm
        · exact h2 d hd
      · exact .inr ⟨x :: D1, d, D2, by rw [h1]; rfl, h2, by rw [e]; exact h3⟩
section
variable {R M : Nat → Prop} {w : World} {g : Nat} {A : Ar} {Ds : List Tr}
theorem uAfter (h : Ar1 R M w g A) (hI : Inv A Ds) (root : Int) {key : Key} {Ω : Nat → Prop} {KA : Option Addr} (hKA : Imm KB Ω w KA key) (kc : Nat) (at_ : Bool) :
    CallsV Try.prog 89 #[.pointer (some ⟨g, 0, none⟩), .int .i64 root, .slice KA key.length kc, .bool at_] w fun r w' => Told w ((gF (foD Ds) root).bind (aftE key at_)) r w' ∧ Ext w w' := by
  rcases find_split (Ds := Ds) (r := root) with ⟨h1, h2⟩ | ⟨D1, d, D2, rfl, rfl, h3⟩
  · rw [h1]
    refine (After_none h (by have := hI.f1; omega) (hI.miss h2) KA key.length kc at_).mono ?_
    rintro _ w' ⟨rfl, rfl⟩
    exact ⟨rfl, .refl _ _⟩
  · rw [h3]
    exact oAfter h hI.one.1 hKA kc at_
theorem uBefore (h : Ar1 R M w g A) (hI : Inv A Ds) (root : Int) {key : Key} {Ω : Nat → Prop} {KA : Option Addr} (hKA : Imm KB Ω w KA key) (kc : Nat) (at_ : Bool) :
    CallsV Try.prog 90 #[.pointer (some ⟨g, 0, none⟩), .int .i64 root, .slice KA key.length kc, .bool at_] w fun r w' => Told w ((gF (foD Ds) root).bind (befE key at_)) r w' ∧ Ext w w' := by
  rcases find_split (Ds := Ds) (r := root) with ⟨h1, h2⟩ | ⟨D1, d, D2, rfl, rfl, h3⟩
  · rw [h1]
    refine (Before_none h (by have := hI.f1; omega) (hI.miss h2) KA key.length kc at_).mono ?_
    rintro _ w' ⟨rfl, rfl⟩
    exact ⟨rfl, .refl _ _⟩
  · rw [h3]
    exact oBefore h hI.one.1 hKA kc at_
theorem uLast (h : Ar1 R M w g A) (hI : Inv A Ds) (root : Int) :
    CallsV Try.prog 91 #[.pointer (some ⟨g, 0, none⟩), .int .i64 root] w fun r w' => Told w ((gF (foD Ds) root).bind fun es => es.getLast?) r w' ∧ Ext w w' := by
  rcases find_split (Ds := Ds) (r := root) with ⟨h1, h2⟩ | ⟨D1, d, D2, rfl, rfl, h3⟩
  · rw [h1]
    refine (Last_none h (by have := hI.f1; omega) (hI.miss h2)).mono ?_
    rintro _ w' ⟨rfl, rfl⟩
    exact ⟨rfl, .refl _ _⟩
  · rw [h3]
    exact oLast h hI.one.1
def lenO : Option Es → Nat
  | none => 0
  | some es => es.length
theorem uLen (h : Ar1 R M w g A) (hI : Inv A Ds) (root : Int) :
    CallsV Try.prog 82 #[.pointer (some ⟨g, 0, none⟩), .int .i64 root] w fun r w' => r = iv (lenO (gF (foD Ds) root)) ∧ Ext w w' := by
  rcases find_split (Ds := Ds) (r := root) with ⟨h1, h2⟩ | ⟨D1, d, D2, rfl, rfl, h3⟩
  · rw [h1]
    exact Len_none h (by have := hI.f1; omega) (hI.miss h2)
  · rw [h3]
    exact oLen h hI.one.1
theorem uGet (h : Ar1 R M w g A) (hI : Inv A Ds) (root : Int) {key : Key} {Ω : Nat → Prop} {KA : Option Addr} (hKA : Imm KB Ω w KA key) (kc : Nat) :
    CallsV Try.prog 88 #[.pointer (some ⟨g, 0, none⟩), .int .i64 root, .slice KA key.length kc] w fun r w' => Ext w w' ∧ (match (gF (foD Ds) root).bind (getE key) with | none => r = .tuple #[.slice none 0 0, .bool false] | some v => ∃ B d, r = .tuple #[.slice B v.length d, .bool true] ∧ OwnB w' B d v ∧ New w B ∧ v.length ≤ 1048576) := by
  rcases find_split (Ds := Ds) (r := root) with ⟨h1, h2⟩ | ⟨D1, d, D2, rfl, rfl, h3⟩
  · rw [h1]
    refine (Get_none h (by have := hI.f1; omega) (hI.miss h2) KA key.length kc).mono ?_
    rintro _ w' ⟨rfl, rfl⟩
    exact ⟨.refl _ _, rfl⟩
  · rw [h3]
    exact oGet h hI.one.1 hKA kc
end
/-! ## the document's -/
structure Sml (F : List (Int × Es)) (n : Nat) : Prop where
  len : F.length ≤ n
  es : ∀ p ∈ F, p.2.length ≤ n
  keys : ∀ p ∈ F, ∀ q ∈ p.2, q.1.length ≤ 1048576
theorem Sml.mono {F : List (Int × Es)} {n m : Nat} (h : Sml F n) (hm : n ≤ m) : Sml F m := ⟨Nat.le_trans h.len hm, fun p hp => Nat.le_trans (h.es p hp) hm, h.keys⟩
section
variable {w : World} {Ω : Nat → Prop}
def TI (Ω : Nat → Prop) (w : World) (x : Option (Key × Key)) (A : Option Addr) (n : Nat) (B : Option Addr) (m : Nat) (ok : Bool) : Prop := match x with
  | none => A = none ∧ n = 0 ∧ B = none ∧ m = 0 ∧ ok = false
  | some (k, v) => n = k.length ∧ m = v.length ∧ ok = true ∧ Imm KB Ω w A k ∧ Imm KB Ω w B v
theorem TI.keep {Ω' : Nat → Prop} {w' : World} {x : Option (Key × Key)} {A : Option Addr} {n : Nat} {B : Option Addr} {m : Nat} {ok : Bool} (h : TI Ω w x A n B m ok) (st : Step Ω w Ω' w') : TI Ω' w' x A n B m ok := by
  cases x with
  | none => exact h
  | some p => obtain ⟨h1, h2, h3, h4, h5⟩ := h; exact ⟨h1, h2, h3, h4.keep KB_pos st, h5.keep KB_pos st⟩
theorem TI.ext {w' : World} {x : Option (Key × Key)} {A : Option Addr} {n : Nat} {B : Option Addr} {m : Nat} {ok : Bool} (h : TI Ω w x A n B m ok) (e : Ext w w') : TI Ω w' x A n B m ok := h.keep (e.step Ω)
theorem Told.ti {w0 : World} {x : Option (Key × Key)} {r : Value} (h : Told w0 x r w) (hΩ : ∀ k, Ω k → k < w0.heap.size) : ∃ A n c B m d ok, r = .tuple #[.slice A n c, .slice B m d, .bool ok] ∧ TI Ω w x A n B m ok := by
  cases x with
  | none => exact ⟨none, 0, 0, none, 0, 0, false, h, rfl, rfl, rfl, rfl, rfl⟩
  | some p =>
    obtain ⟨k, v⟩ := p
    obtain ⟨A, c, B, d, rfl, h2, h3, n1, n2, _⟩ := h
    exact ⟨A, _, c, B, _, d, true, rfl, rfl, rfl, rfl, h2.imm fun b hb hω => by have := n1 b hb; have := hΩ b hω; omega, h3.imm fun b hb hω => by have := n2 b hb; have := hΩ b hω; omega⟩
end
theorem gF_nd {F : List (Int × Es)} (hn : (F.map fun p => p.1).Nodup) {k : Nat} {r : Int} {es : Es} (h : F[k]? = some (r, es)) : gF F r = some es := by
  refine gF_at h fun j p hj hlt he => ?_
  have h1 : (F.map fun p => p.1)[j]? = some r := by simp [hj, he]
  have h2 : (F.map fun p => p.1)[k]? = some r := by simp [h]
  have hk := (List.getElem?_eq_some_iff.1 h2).1
  have := (List.getElem?_inj (by have := (List.getElem?_eq_some_iff.1 h1).1; exact this) hn).1 (h1.trans h2.symm)
  omega
theorem Inv.ndF {A : Ar} {Ds : List Tr} (h : Inv A Ds) : ((foD Ds).map fun p => p.1).Nodup := by
  have := h.nd
  have e : (foD Ds).map (fun p => p.1) = Ds.map fun d => d.r := by unfold foD; rw [List.map_map]; rfl
  rw [e]; exact this
theorem Sml.set {F : List (Int × Es)} {n : Nat} (h : Sml F n) (j : Nat) (r : Int) {es : Es} (h1 : es.length ≤ n) (h2 : ∀ q ∈ es, q.1.length ≤ 1048576) : Sml (F.set j (r, es)) n := by
  refine ⟨by simpa using h.len, fun p hp => ?_, fun p hp => ?_⟩
  · rcases List.mem_or_eq_of_mem_set hp with hp | rfl
    · exact h.es p hp
    · exact h1
  · rcases List.mem_or_eq_of_mem_set hp with hp | rfl
    · exact h.keys p hp
    · exact h2
end Go.Proofs.Ythfagbfllheneaa
set_option linter.unusedVariables false
set_option maxRecDepth 100000
namespace Go.Proofs.Ythfagbfllheneaa
open Go Go.Sx
noncomputable def undo_New.W : Int → Int → World → (Value → World → Prop) → Prop := fun (fan most : Int) (w : World) (K : Value → World → Prop) => CallsV Try.prog 69 #[Value.int IntKind.i64 fan,
 Value.int IntKind.i64 most] w fun (v : Value) (w' : World) => ∃ (x : Option Addr) (x_1 : Int), v = Value.tuple #[Value.pointer x, Value.int IntKind.i64 x_1] ∧ bif !decide (x_1 = (0 : Int))
 then K (Value.tuple #[Value.pointer none, Value.int IntKind.i64 x_1]) w' else ∀ (g : Nat) (w'_1 : World), Fresh w' g w'_1 [Value.pointer x, Value.slice none 0 0, Value.slice none 0
 0] 81 → K (Value.tuple #[Value.pointer (some (Addr.mk g 0 none)), Value.int IntKind.i64 (0 : Int)]) w'_1
theorem undo_New.calls (ok : Okay Try.prog) {fan : Int} {most : Int} {w : World} {K : Value → World → Prop} (h : undo_New.W fan most w K) : CallsV Try.prog 15 #[.int .i64 fan, .int .i64 most] w K :=
  fnW_calls ok Try.func15 (an := (.named .auto)) (args := [.int .i64 fan, .int .i64 most]) (Eq.mp (by kernel_rfl) h)
noncomputable def undo_Store_of.W : Option Addr → World → (Value → World → Prop) → Prop := fun (s : Option Addr) (w : World) (K : Value → World → Prop) => bif Option.isNone s then K (Value.pointer
 none) w else ∃ (a : Addr), s = some a ∧ ∃ (x : Option Addr), World.cell? w (Addr.add a 0) = some (Value.pointer x) ∧ K (Value.pointer x) w
theorem undo_Store_of.calls (ok : Okay Try.prog) {s : Option Addr} {w : World} {K : Value → World → Prop} (h : undo_Store_of.W s w K) : CallsV Try.prog 76 #[.pointer s] w K :=
  fnW_calls ok Try.func76 (an := (.named .auto)) (args := [.pointer s]) (Eq.mp (by kernel_rfl) h)
noncomputable def undo_Store_made.W : Option Addr → World → (Value → World → Prop) → Prop := fun (s : Option Addr) (w : World) (K : Value → World → Prop) => bif !Option.isNone s then ∃ (a : Addr), s =
 some a ∧ ∃ (x : Option Addr), World.cell? w (Addr.add a 0) = some (Value.pointer x) ∧ K (Value.bool !Option.isNone x) w else K (Value.bool false) w
theorem undo_Store_made.calls (ok : Okay Try.prog) {s : Option Addr} {w : World} {K : Value → World → Prop} (h : undo_Store_made.W s w K) : CallsV Try.prog 70 #[.pointer s] w K :=
  fnW_calls ok Try.func70 (an := (.named .auto)) (args := [.pointer s]) (Eq.mp (by kernel_rfl) h)
noncomputable def undo_Store_is.W : Option Addr → Int → World → (Value → World → Prop) → Prop := fun (s : Option Addr) (n : Int) (w : World) (K : Value → World → Prop) => CallsV Try.prog 70
 #[Value.pointer s] w fun (v : Value) (w' : World) => ∃ (x : Bool), v = Value.bool x ∧ bif !x then K (Value.int IntKind.i64 (1 : Int)) w' else bif decide (n < (1 : Int)) then K (Value.int
 IntKind.i64 (60 : Int)) w' else ∃ (a : Addr), s = some a ∧ ∃ (x : Option Addr) (x_1 x_2 : Nat), World.cell? w' (Addr.add a 2) = some (Value.slice x x_1 x_2) ∧ bif decide ((↑x_1
 : Int) < n) then K (Value.int IntKind.i64 (60 : Int)) w' else K (Value.int IntKind.i64 (0 : Int)) w'
theorem undo_Store_is.calls (ok : Okay Try.prog) {s : Option Addr} {n : Int} {w : World} {K : Value → World → Prop} (h : undo_Store_is.W s n w K) : CallsV Try.prog 73 #[.pointer s, .int .i64 n] w K :=
  fnW_calls ok Try.func73 (an := (.named .auto)) (args := [.pointer s, .int .i64 n]) (Eq.mp (by kernel_rfl) h)
noncomputable def undo_Store_Create.W : Option Addr → World → (Value → World → Prop) → Prop := fun (s : Option Addr) (w : World) (K : Value → World → Prop) => CallsV Try.prog 76 #[Value.pointer s] w
 fun (v : Value) (w' : World) => ∃ (x : Option Addr), v = Value.pointer x ∧ CallsV Try.prog 77 #[Value.pointer x] w' fun (v : Value) (w' : World) => ∃ (x x_1 : Int), v = Value.tuple #[Value.int
 IntKind.i64 x, Value.int IntKind.i64 x_1] ∧ bif decide (x_1 = (0 : Int)) then ∃ (a : Addr), s = some a ∧ ∃ (x_2 : Option Addr) (x_3 x_4 : Nat), World.cell? w' (Addr.add a 1) =
 some (Value.slice x_2 x_3 x_4) ∧ ∀ (g : Nat) (w'_1 : World), Fresh w' g w'_1 [Value.int IntKind.i64 x] 3 → ∃ (x_5 : Option Addr) (x_6 x_7 : Nat) (w' : World), RunsTo Try.prog (Builtin.append_
 (Array.mk [37, 37]) 37 #[Value.slice x_2 x_3 x_4, Value.slice (some (Addr.mk g 0 none)) 1 1]) w'_1 (Value.slice x_5 x_6 x_7) w' ∧ ∃ (a : Addr), s = some a ∧ stOK (Addr.add a 1) 0
 [Value.slice x_5 x_6 x_7] w' ∧ ∀ (w'_2 : World), w'_2 = setAll (Addr.add a 1) 0 [Value.slice x_5 x_6 x_7] w' → K (Value.tuple #[Value.int IntKind.i64 x, Value.int IntKind.i64 x_1]) w'_2 else K
 (Value.tuple #[Value.int IntKind.i64 x, Value.int IntKind.i64 x_1]) w'
theorem undo_Store_Create.calls (ok : Okay Try.prog) {s : Option Addr} {w : World} {K : Value → World → Prop} (h : undo_Store_Create.W s w K) : CallsV Try.prog 26 #[.pointer s] w K :=
  fnW_calls ok Try.func26 (an := (.named .auto)) (args := [.pointer s]) (Eq.mp (by kernel_rfl) h)
noncomputable def undo_Store_Drop.W : Option Addr → Int → World → (Value → World → Prop) → Prop := fun (s : Option Addr) (id : Int) (w : World) (K : Value → World → Prop) => ∀ (g : Nat) (w' : World),
 Fresh w g w' [Value.int IntKind.i64 id] 3 → ∃ (J : Int → World → Prop), (∀ (x : Int) (w : World), J x w → bif decide (x = (0 : Int)) then ∃ (a : Addr), s = some a ∧ ∃ (x_1 : Option
 Addr) (x_2 x_3 : Nat), World.cell? w (Addr.add a 1) = some (Value.slice x_1 x_2 x_3) ∧ CallsV Try.prog 72 #[Value.slice x_1 x_2 x_3] w fun (v : Value) (w' : World) => ∃ (x_4 : Option Addr) (x_5
 x_6 : Nat), v = Value.slice x_4 x_5 x_6 ∧ CallsV Try.prog 80 #[Value.slice x_4 x_5 x_6, Value.func (Fn.func 81) #[] #[Value.pointer (some (Addr.mk g 0 none))]] w' fun (v : Value) (w' :
 World) => ∃ (x_7 : Option Addr) (x_8 x_9 : Nat), v = Value.slice x_7 x_8 x_9 ∧ ∃ (a : Addr), s = some a ∧ stOK (Addr.add a 1) 0 [Value.slice x_7 x_8 x_9] w' ∧ ∀ (w'_1 : World), w'_1 = setAll
 (Addr.add a 1) 0 [Value.slice x_7 x_8 x_9] w' → K (Value.int IntKind.i64 x) w'_1 else K (Value.int IntKind.i64 x) w) ∧ ∃ (S : World → Prop), S (World.drew w') ∧ ∃ (x : Int), (∀ (u : World), S u →
 World.cell? u (Addr.mk g 0 none) = some (Value.int IntKind.i64 x)) ∧ CallsV Try.prog 76 #[Value.pointer s] (World.drew w') fun (v : Value) (w' : World) => ∃ (x_1 : Option Addr), v =
 Value.pointer x_1 ∧ S w' ∧ CallsV Try.prog 79 #[Value.pointer x_1, Value.int IntKind.i64 x] w' fun (v : Value) (w' : World) => ∃ (x : Int), v = Value.int IntKind.i64 x ∧ J x w'
theorem undo_Store_Drop.calls (ok : Okay Try.prog) {s : Option Addr} {id : Int} {w : World} {K : Value → World → Prop} (h : undo_Store_Drop.W s id w K) : CallsV Try.prog 31 #[.pointer s, .int .i64 id] w K :=
  fnW_calls ok Try.func31 (an := (.named (.seq .auto (.join [(5, .one (.int .i64))] .auto .auto)))) (args := [.pointer s, .int .i64 id]) (Eq.mp (by kernel_rfl) h)
noncomputable def undo_Store_Put.W : Option Addr → Int → Option Addr → Nat → Nat → Option Addr → Nat → Nat → World → (Value → World → Prop) → Prop := fun (s : Option Addr) (id : Int) (key_A : Option
 Addr) (key_n key_c : Nat) (val_A : Option Addr) (val_n val_c : Nat) (w : World) (K : Value → World → Prop) => CallsV Try.prog 76 #[Value.pointer s] w fun (v : Value) (w' : World) => ∃ (x : Option
 Addr), v = Value.pointer x ∧ CallsV Try.prog 78 #[Value.pointer x, Value.int IntKind.i64 id, Value.slice key_A key_n key_c, Value.slice val_A val_n val_c] w' fun (v : Value) (w' : World) => ∃ (x :
 Bool) (x_1 : Int), v = Value.tuple #[Value.bool x, Value.int IntKind.i64 x_1] ∧ K (Value.tuple #[Value.bool x, Value.int IntKind.i64 x_1]) w'
theorem undo_Store_Put.calls (ok : Okay Try.prog) {s : Option Addr} {id : Int} {key_A : Option Addr} {key_n : Nat} {key_c : Nat} {val_A : Option Addr} {val_n : Nat} {val_c : Nat} {w : World} {K : Value → World → Prop} (h : undo_Store_Put.W s id key_A key_n key_c val_A val_n val_c w K) : CallsV Try.prog 29 #[.pointer s, .int .i64 id, .slice key_A key_n key_c, .slice val_A val_n val_c] w K :=
  fnW_calls ok Try.func29 (an := (.named .auto)) (args := [.pointer s, .int .i64 id, .slice key_A key_n key_c, .slice val_A val_n val_c]) (Eq.mp (by kernel_rfl) h)
noncomputable def undo_Store_Delete.W : Option Addr → Int → Option Addr → Nat → Nat → World → (Value → World → Prop) → Prop := fun (s : Option Addr) (id : Int) (key_A : Option Addr) (key_n key_c : Nat)
 (w : World) (K : Value → World → Prop) => CallsV Try.prog 76 #[Value.pointer s] w fun (v : Value) (w' : World) => ∃ (x : Option Addr), v = Value.pointer x ∧ CallsV Try.prog 87 #[Value.pointer x,
 Value.int IntKind.i64 id, Value.slice key_A key_n key_c] w' fun (v : Value) (w' : World) => ∃ (x : Bool) (x_1 : Int), v = Value.tuple #[Value.bool x, Value.int IntKind.i64 x_1] ∧ K (Value.tuple
 #[Value.bool x, Value.int IntKind.i64 x_1]) w'
theorem undo_Store_Delete.calls (ok : Okay Try.prog) {s : Option Addr} {id : Int} {key_A : Option Addr} {key_n : Nat} {key_c : Nat} {w : World} {K : Value → World → Prop} (h : undo_Store_Delete.W s id key_A key_n key_c w K) : CallsV Try.prog 40 #[.pointer s, .int .i64 id, .slice key_A key_n key_c] w K :=
  fnW_calls ok Try.func40 (an := (.named .auto)) (args := [.pointer s, .int .i64 id, .slice key_A key_n key_c]) (Eq.mp (by kernel_rfl) h)
noncomputable def undo_Store_Get.W : Option Addr → Int → Option Addr → Nat → Nat → World → (Value → World → Prop) → Prop := fun (s : Option Addr) (id : Int) (key_A : Option Addr) (key_n key_c : Nat) (w
 : World) (K : Value → World → Prop) => CallsV Try.prog 76 #[Value.pointer s] w fun (v : Value) (w' : World) => ∃ (x : Option Addr), v = Value.pointer x ∧ CallsV Try.prog 88 #[Value.pointer x, Value.int
 IntKind.i64 id, Value.slice key_A key_n key_c] w' fun (v : Value) (w' : World) => ∃ (x : Option Addr) (x_1 x_2 : Nat) (x_3 : Bool), v = Value.tuple #[Value.slice x x_1 x_2, Value.bool x_3] ∧ K
 (Value.tuple #[Value.slice x x_1 x_2, Value.bool x_3]) w'
theorem undo_Store_Get.calls (ok : Okay Try.prog) {s : Option Addr} {id : Int} {key_A : Option Addr} {key_n : Nat} {key_c : Nat} {w : World} {K : Value → World → Prop} (h : undo_Store_Get.W s id key_A key_n key_c w K) : CallsV Try.prog 49 #[.pointer s, .int .i64 id, .slice key_A key_n key_c] w K :=
  fnW_calls ok Try.func49 (an := (.named .auto)) (args := [.pointer s, .int .i64 id, .slice key_A key_n key_c]) (Eq.mp (by kernel_rfl) h)
noncomputable def undo_Store_After.W : Option Addr → Int → Option Addr → Nat → Nat → Bool → World → (Value → World → Prop) → Prop := fun (s : Option Addr) (id : Int) (key_A : Option Addr) (key_n key_c
 : Nat) (atx : Bool) (w : World) (K : Value → World → Prop) => CallsV Try.prog 76 #[Value.pointer s] w fun (v : Value) (w' : World) => ∃ (x : Option Addr), v = Value.pointer x ∧ CallsV Try.prog 89
 #[Value.pointer x, Value.int IntKind.i64 id, Value.slice key_A key_n key_c, Value.bool atx] w' fun (v : Value) (w' : World) => ∃ (x : Option Addr) (x_1 x_2 : Nat) (x_3 : Option Addr) (x_4 x_5 : Nat)
 (x_6 : Bool), v = Value.tuple #[Value.slice x x_1 x_2, Value.slice x_3 x_4 x_5, Value.bool x_6] ∧ K (Value.tuple #[Value.slice x x_1 x_2, Value.slice x_3 x_4 x_5, Value.bool x_6]) w'
theorem undo_Store_After.calls (ok : Okay Try.prog) {s : Option Addr} {id : Int} {key_A : Option Addr} {key_n : Nat} {key_c : Nat} {atx : Bool} {w : World} {K : Value → World → Prop} (h : undo_Store_After.W s id key_A key_n key_c atx w K) : CallsV Try.prog 50 #[.pointer s, .int .i64 id, .slice key_A key_n key_c, .bool atx] w K :=
  fnW_calls ok Try.func50 (an := (.named .auto)) (args := [.pointer s, .int .i64 id, .slice key_A key_n key_c, .bool atx]) (Eq.mp (by kernel_rfl) h)
noncomputable def undo_Store_Before.W : Option Addr → Int → Option Addr → Nat → Nat → Bool → World → (Value → World → Prop) → Prop := fun (s : Option Addr) (id : Int) (key_A : Option Addr) (key_n key_c
 : Nat) (atx : Bool) (w : World) (K : Value → World → Prop) => CallsV Try.prog 76 #[Value.pointer s] w fun (v : Value) (w' : World) => ∃ (x : Option Addr), v = Value.pointer x ∧ CallsV Try.prog 90
 #[Value.pointer x, Value.int IntKind.i64 id, Value.slice key_A key_n key_c, Value.bool atx] w' fun (v : Value) (w' : World) => ∃ (x : Option Addr) (x_1 x_2 : Nat) (x_3 : Option Addr) (x_4 x_5 : Nat)
 (x_6 : Bool), v = Value.tuple #[Value.slice x x_1 x_2, Value.slice x_3 x_4 x_5, Value.bool x_6] ∧ K (Value.tuple #[Value.slice x x_1 x_2, Value.slice x_3 x_4 x_5, Value.bool x_6]) w'
theorem undo_Store_Before.calls (ok : Okay Try.prog) {s : Option Addr} {id : Int} {key_A : Option Addr} {key_n : Nat} {key_c : Nat} {atx : Bool} {w : World} {K : Value → World → Prop} (h : undo_Store_Before.W s id key_A key_n key_c atx w K) : CallsV Try.prog 51 #[.pointer s, .int .i64 id, .slice key_A key_n key_c, .bool atx] w K :=
  fnW_calls ok Try.func51 (an := (.named .auto)) (args := [.pointer s, .int .i64 id, .slice key_A key_n key_c, .bool atx]) (Eq.mp (by kernel_rfl) h)
noncomputable def undo_Store_Last.W : Option Addr → Int → World → (Value → World → Prop) → Prop := fun (s : Option Addr) (id : Int) (w : World) (K : Value → World → Prop) => CallsV Try.prog 76
 #[Value.pointer s] w fun (v : Value) (w' : World) => ∃ (x : Option Addr), v = Value.pointer x ∧ CallsV Try.prog 91 #[Value.pointer x, Value.int IntKind.i64 id] w' fun (v : Value) (w' : World) => ∃ (x :
 Option Addr) (x_1 x_2 : Nat) (x_3 : Option Addr) (x_4 x_5 : Nat) (x_6 : Bool), v = Value.tuple #[Value.slice x x_1 x_2, Value.slice x_3 x_4 x_5, Value.bool x_6] ∧ K (Value.tuple #[Value.slice x x_1
 x_2, Value.slice x_3 x_4 x_5, Value.bool x_6]) w'
theorem undo_Store_Last.calls (ok : Okay Try.prog) {s : Option Addr} {id : Int} {w : World} {K : Value → World → Prop} (h : undo_Store_Last.W s id w K) : CallsV Try.prog 52 #[.pointer s, .int .i64 id] w K :=
  fnW_calls ok Try.func52 (an := (.named .auto)) (args := [.pointer s, .int .i64 id]) (Eq.mp (by kernel_rfl) h)
noncomputable def undo_Store_Len.W : Option Addr → Int → World → (Value → World → Prop) → Prop := fun (s : Option Addr) (id : Int) (w : World) (K : Value → World → Prop) => CallsV Try.prog 76
 #[Value.pointer s] w fun (v : Value) (w' : World) => ∃ (x : Option Addr), v = Value.pointer x ∧ CallsV Try.prog 82 #[Value.pointer x, Value.int IntKind.i64 id] w' fun (v : Value) (w' : World) => ∃ (x :
 Int), v = Value.int IntKind.i64 x ∧ K (Value.int IntKind.i64 x) w'
theorem undo_Store_Len.calls (ok : Okay Try.prog) {s : Option Addr} {id : Int} {w : World} {K : Value → World → Prop} (h : undo_Store_Len.W s id w K) : CallsV Try.prog 34 #[.pointer s, .int .i64 id] w K :=
  fnW_calls ok Try.func34 (an := (.named .auto)) (args := [.pointer s, .int .i64 id]) (Eq.mp (by kernel_rfl) h)
noncomputable def undo_Store_Trees.W : Option Addr → World → (Value → World → Prop) → Prop := fun (s : Option Addr) (w : World) (K : Value → World → Prop) => bif Option.isNone s then K (Value.slice
 none 0 0) w else ∃ (a : Addr), s = some a ∧ ∃ (x : Option Addr) (x_1 x_2 : Nat), World.cell? w (Addr.add a 1) = some (Value.slice x x_1 x_2) ∧ CallsV Try.prog 72 #[Value.slice x
 x_1 x_2] w fun (v : Value) (w' : World) => ∃ (x : Option Addr) (x_3 x_4 : Nat), v = Value.slice x x_3 x_4 ∧ K (Value.slice x x_3 x_4) w'
theorem undo_Store_Trees.calls (ok : Okay Try.prog) {s : Option Addr} {w : World} {K : Value → World → Prop} (h : undo_Store_Trees.W s w K) : CallsV Try.prog 33 #[.pointer s] w K :=
  fnW_calls ok Try.func33 (an := (.named .auto)) (args := [.pointer s]) (Eq.mp (by kernel_rfl) h)
noncomputable def undo_Store_Nodes.W : Option Addr → World → (Value → World → Prop) → Prop := fun (s : Option Addr) (w : World) (K : Value → World → Prop) => CallsV Try.prog 76 #[Value.pointer s] w fun
 (v : Value) (w' : World) => ∃ (x : Option Addr), v = Value.pointer x ∧ CallsV Try.prog 86 #[Value.pointer x] w' fun (v : Value) (w' : World) => ∃ (x : Int), v = Value.int IntKind.i64 x ∧ K (Value.int
 IntKind.i64 x) w'
theorem undo_Store_Nodes.calls (ok : Okay Try.prog) {s : Option Addr} {w : World} {K : Value → World → Prop} (h : undo_Store_Nodes.W s w K) : CallsV Try.prog 39 #[.pointer s] w K :=
  fnW_calls ok Try.func39 (an := (.named .auto)) (args := [.pointer s]) (Eq.mp (by kernel_rfl) h)
noncomputable def undo_Store_Check.W : Option Addr → World → (Value → World → Prop) → Prop := fun (s : Option Addr) (w : World) (K : Value → World → Prop) => CallsV Try.prog 76 #[Value.pointer s] w fun
 (v : Value) (w' : World) => ∃ (x : Option Addr), v = Value.pointer x ∧ CallsV Try.prog 83 #[Value.pointer x] w' fun (v : Value) (w' : World) => ∃ (x : Int), v = Value.int IntKind.i64 x ∧ K (Value.int
 IntKind.i64 x) w'
theorem undo_Store_Check.calls (ok : Okay Try.prog) {s : Option Addr} {w : World} {K : Value → World → Prop} (h : undo_Store_Check.W s w K) : CallsV Try.prog 35 #[.pointer s] w K :=
  fnW_calls ok Try.func35 (an := (.named .auto)) (args := [.pointer s]) (Eq.mp (by kernel_rfl) h)
noncomputable def undo_Store_Mark.W : Option Addr → World → (Value → World → Prop) → Prop := fun (s : Option Addr) (w : World) (K : Value → World → Prop) => CallsV Try.prog 70 #[Value.pointer s] w fun
 (v : Value) (w' : World) => ∃ (x : Bool), v = Value.bool x ∧ bif !x then K (Value.tuple #[Value.int IntKind.i64 (0 : Int), Value.int IntKind.i64 (1 : Int)]) w' else ∃ (a : Addr), s = some a ∧ ∃
 (x : Option Addr) (x_1 x_2 : Nat), World.cell? w' (Addr.add a 2) = some (Value.slice x x_1 x_2) ∧ bif decide ((100 : Int) ≤ (↑x_1 : Int)) then K (Value.tuple #[Value.int IntKind.i64 (0
 : Int), Value.int IntKind.i64 (5 : Int)]) w' else ∃ (J : World → Prop), (∀ (w : World), J w → ∃ (a : Addr), s = some a ∧ ∃ (x : Option Addr) (x_3 x_4 : Nat), World.cell? w (Addr.add a 2) =
 some (Value.slice x x_3 x_4) ∧ K (Value.tuple #[Value.int IntKind.i64 (↑x_3 : Int), Value.int IntKind.i64 (0 : Int)]) w) ∧ ∃ (a : Addr), s = some a ∧ ∃ (S : World → Prop), S (World.drew
 w') ∧ ∃ (x : Option Addr) (x_3 x_4 : Nat), (∀ (u : World), S u → World.cell? u (Addr.add a 2) = some (Value.slice x x_3 x_4)) ∧ ∃ (a : Addr), s = some a ∧ ∃ (x_5 : Option Addr), (∀ (u :
 World), S u → World.cell? u (Addr.add a 0) = some (Value.pointer x_5)) ∧ ∃ (a : Addr), s = some a ∧ ∃ (x_6 : Option Addr) (x_7 x_8 : Nat), (∀ (u : World), S u → World.cell? u (Addr.add a
 1) = some (Value.slice x_6 x_7 x_8)) ∧ CallsV Try.prog 71 #[Value.pointer x_5] (World.drew w') fun (v : Value) (w' : World) => ∃ (x_9 : Option Addr), v = Value.pointer x_9 ∧ S w' ∧ CallsV
 Try.prog 72 #[Value.slice x_6 x_7 x_8] w' fun (v : Value) (w' : World) => ∃ (x_10 : Option Addr) (x_11 x_12 : Nat), v = Value.slice x_10 x_11 x_12 ∧ S w' ∧ ∀ (g : Nat) (w'_1 : World), Fresh w' g w'_1
 [Value.pointer x_9, Value.slice x_10 x_11 x_12] 122 → S w'_1 ∧ ∃ (x_13 : Option Addr) (x_14 x_15 : Nat) (w' : World), RunsTo Try.prog (Builtin.append_ (Array.mk [79, 79]) 79 #[Value.slice x x_3 x_4,
 Value.slice (some (Addr.mk g 0 none)) 1 1]) w'_1 (Value.slice x_13 x_14 x_15) w' ∧ ∃ (a : Addr), s = some a ∧ stOK (Addr.add a 2) 0 [Value.slice x_13 x_14 x_15] w' ∧ ∀ (w'_2 :
 World), w'_2 = setAll (Addr.add a 2) 0 [Value.slice x_13 x_14 x_15] w' → J w'_2
theorem undo_Store_Mark.calls (ok : Okay Try.prog) {s : Option Addr} {w : World} {K : Value → World → Prop} (h : undo_Store_Mark.W s w K) : CallsV Try.prog 18 #[.pointer s] w K :=
  fnW_calls ok Try.func18 (an := (.named (.seq .auto (.seq .auto (.join [] .auto .auto))))) (args := [.pointer s]) (Eq.mp (by kernel_rfl) h)
noncomputable def undo_Store_Back.W : Option Addr → Int → World → (Value → World → Prop) → Prop := fun (s : Option Addr) (n : Int) (w : World) (K : Value → World → Prop) => CallsV Try.prog 73
 #[Value.pointer s, Value.int IntKind.i64 n] w fun (v : Value) (w' : World) => ∃ (x : Int), v = Value.int IntKind.i64 x ∧ bif !decide (x = (0 : Int)) then K (Value.int IntKind.i64 x) w' else ∃
 (a : Addr), s = some a ∧ ∃ (x : Option Addr) (x_1 x_2 : Nat), World.cell? w' (Addr.add a 2) = some (Value.slice x x_1 x_2) ∧ ∃ (ad : Addr), x = some ad ∧ ((0 : Int) ≤ IntKind.wrap
 IntKind.i64 (n - (1 : Int)) ∧ IntKind.wrap IntKind.i64 (n - (1 : Int)) < (↑x_1 : Int)) ∧ ∃ (x : Option Addr), World.cell? w' (Addr.add (Addr.add ad (Int.toNat (IntKind.wrap IntKind.i64 (n - (1 : Int)))
 * 2)) 0) = some (Value.pointer x) ∧ ∃ (x_3 : Option Addr) (x_4 x_5 : Nat), World.cell? w' (Addr.add (Addr.add ad (Int.toNat (IntKind.wrap IntKind.i64 (n - (1 : Int))) * 2)) 1) = some
 (Value.slice x_3 x_4 x_5) ∧ ∀ (g : Nat) (w'_1 : World), Fresh w' g w'_1 [Value.pointer none, Value.slice none 0 0] 122 → stOK (Addr.mk g 0 none) 0 [Value.pointer x, Value.slice x_3
 x_4 x_5] w'_1 ∧ ∀ (w' : World), w' = setAll (Addr.mk g 0 none) 0 [Value.pointer x, Value.slice x_3 x_4 x_5] w'_1 → ∃ (J : World → Prop), (∀ (w : World), J w → ∃ (a : Addr), s = some a ∧ ∃
 (S : World → Prop), S (World.drew w) ∧ ∃ (x : Option Addr), (∀ (u : World), S u → World.cell? u (Addr.add a 0) = some (Value.pointer x)) ∧ ∃ (x_6 : Option Addr), (∀ (u : World), S u →
 World.cell? u (Addr.add (Addr.mk g 0 none) 0) = some (Value.pointer x_6)) ∧ CallsV Try.prog 75 #[Value.pointer x, Value.pointer x_6] (World.drew w) fun (v : Value) (w' : World) => ∃ (x :
 Int), v = Value.int IntKind.i64 x ∧ K (Value.int IntKind.i64 x) w') ∧ ∃ (S : World → Prop), S (World.drew w') ∧ ∃ (x : Option Addr) (x_6 x_7 : Nat), (∀ (u : World), S u → World.cell? u (Addr.add
 (Addr.mk g 0 none) 1) = some (Value.slice x x_6 x_7)) ∧ ∃ (a : Addr), s = some a ∧ ∃ (x_8 : Option Addr) (x_9 x_10 : Nat), (∀ (u : World), S u → World.cell? u (Addr.add a 2) =
 some (Value.slice x_8 x_9 x_10)) ∧ ((0 : Int) ≤ IntKind.wrap IntKind.i64 (n - (1 : Int)) ∧ IntKind.wrap IntKind.i64 (n - (1 : Int)) ≤ (↑x_10 : Int)) ∧ ∃ (a : Addr), s = some a ∧ stOK
 (Addr.add a 1) 0 [Value.slice x x_6 x_7] (World.drew w') ∧ ∀ (w'_2 : World), w'_2 = setAll (Addr.add a 1) 0 [Value.slice x x_6 x_7] (World.drew w') → ∃ (a : Addr), s = some a ∧ stOK (Addr.add a
 2) 0 [Value.slice (cutAt x_8 x_10 0 2) (Int.toNat (IntKind.wrap IntKind.i64 (n - (1 : Int))) - 0) (x_10 - 0)] w'_2 ∧ ∀ (w' : World), w' = setAll (Addr.add a 2) 0 [Value.slice (cutAt x_8 x_10 0 2)
 (Int.toNat (IntKind.wrap IntKind.i64 (n - (1 : Int))) - 0) (x_10 - 0)] w'_2 → J w'
theorem undo_Store_Back.calls (ok : Okay Try.prog) {s : Option Addr} {n : Int} {w : World} {K : Value → World → Prop} (h : undo_Store_Back.W s n w K) : CallsV Try.prog 25 #[.pointer s, .int .i64 n] w K :=
  fnW_calls ok Try.func25 (an := (.named (.seq .auto (.seq .auto (.seq .auto (.join [] .auto .auto)))))) (args := [.pointer s, .int .i64 n]) (Eq.mp (by kernel_rfl) h)
noncomputable def undo_Store_Free.W : Option Addr → Int → World → (Value → World → Prop) → Prop := fun (s : Option Addr) (n : Int) (w : World) (K : Value → World → Prop) => CallsV Try.prog 73
 #[Value.pointer s, Value.int IntKind.i64 n] w fun (v : Value) (w' : World) => ∃ (x : Int), v = Value.int IntKind.i64 x ∧ bif !decide (x = (0 : Int)) then K (Value.int IntKind.i64 x) w' else ∃
 (a : Addr), s = some a ∧ ∃ (x : Option Addr) (x_1 x_2 : Nat), World.cell? w' (Addr.add a 2) = some (Value.slice x x_1 x_2) ∧ ((0 : Int) ≤ IntKind.wrap IntKind.i64 (n - (1 : Int)) ∧
 IntKind.wrap IntKind.i64 (n - (1 : Int)) ≤ (↑x_2 : Int)) ∧ ∃ (a : Addr), s = some a ∧ stOK (Addr.add a 2) 0 [Value.slice (cutAt x x_2 0 2) (Int.toNat (IntKind.wrap IntKind.i64 (n - (1 : Int))) -
 0) (x_2 - 0)] w' ∧ ∀ (w'_1 : World), w'_1 = setAll (Addr.add a 2) 0 [Value.slice (cutAt x x_2 0 2) (Int.toNat (IntKind.wrap IntKind.i64 (n - (1 : Int))) - 0) (x_2 - 0)] w' → K (Value.int IntKind.i64 (0
 : Int)) w'_1
theorem undo_Store_Free.calls (ok : Okay Try.prog) {s : Option Addr} {n : Int} {w : World} {K : Value → World → Prop} (h : undo_Store_Free.W s n w K) : CallsV Try.prog 19 #[.pointer s, .int .i64 n] w K :=
  fnW_calls ok Try.func19 (an := (.named .auto)) (args := [.pointer s, .int .i64 n]) (Eq.mp (by kernel_rfl) h)
noncomputable def undo_Store_Marks.W : Option Addr → World → (Value → World → Prop) → Prop := fun (s : Option Addr) (w : World) (K : Value → World → Prop) => bif Option.isNone s then K (Value.int
 IntKind.i64 (0 : Int)) w else ∃ (a : Addr), s = some a ∧ ∃ (x : Option Addr) (x_1 x_2 : Nat), World.cell? w (Addr.add a 2) = some (Value.slice x x_1 x_2) ∧ K (Value.int IntKind.i64 (↑x_1
 : Int)) w
theorem undo_Store_Marks.calls (ok : Okay Try.prog) {s : Option Addr} {w : World} {K : Value → World → Prop} (h : undo_Store_Marks.W s w K) : CallsV Try.prog 24 #[.pointer s] w K :=
  fnW_calls ok Try.func24 (an := (.named .auto)) (args := [.pointer s]) (Eq.mp (by kernel_rfl) h)
noncomputable def undo_Store_Drop_1.W : Int → Addr → World → (Value → World → Prop) → Prop := fun (x : Int) (a1 : Addr) (w : World) (K : Value → World → Prop) => ∃ (x_1 : Int), World.cell? w a1 =
 some (Value.int IntKind.i64 x_1) ∧ K (Value.bool (decide (x = x_1))) w
theorem undo_Store_Drop_1.calls (ok : Okay Try.prog) {x : Int} {a1 : Addr} {w : World} {K : Value → World → Prop} (h : undo_Store_Drop_1.W x a1 w K) : CallsV Try.prog 81 #[.int .i64 x, .pointer (some a1)] w K :=
  fnW_calls ok Try.func81 (an := (.named .auto)) (args := [.int .i64 x, .pointer (some a1)]) (Eq.mp (by kernel_rfl) h)
end Go.Proofs.Ythfagbfllheneaa
set_option linter.unusedVariables false
set_option maxRecDepth 100000
namespace Go.Proofs.Ythfagbfllheneaa
open Go Go.Sx
noncomputable def slices_DeleteFunc_int_int.W : Option Addr → Nat → Nat → Value → World → (Value → World → Prop) → Prop := fun (s_A : Option Addr) (s_n s_c : Nat) (del : Value) (w : World) (K : Value →
 World → Prop) => CallsV Try.prog 118 #[Value.slice s_A s_n s_c, del] w fun (v : Value) (w' : World) => ∃ (x : Int), v = Value.int IntKind.i64 x ∧ bif decide (x = (-1 : Int)) then K
 (Value.slice s_A s_n s_c) w' else ∃ (I : Int → Int → World → Prop) (μ : Int → Int → World → Nat), I x (IntKind.wrap IntKind.i64 (x + (1 : Int))) w' ∧ ∀ (x x_1 : Int) (w : World), I x x_1 w → bif
 decide (x_1 < (↑s_n : Int)) then ∃ (ad : Addr), s_A = some ad ∧ ((0 : Int) ≤ x_1 ∧ x_1 < (↑s_n : Int)) ∧ ∃ (x_2 : Int), World.cell? w (Addr.add ad (Int.toNat x_1 * 1)) = some
 (Value.int IntKind.i64 x_2) ∧ ∃ (fid : Nat) (first captured : Array Value), del = Value.func (Fn.func fid) first captured ∧ bodied Try.prog fid = true ∧ CallsV Try.prog fid (List.toArray
 (Array.toList first ++ ([Value.int IntKind.i64 x_2] ++ Array.toList captured))) w fun (r : Value) (w' : World) => ∃ (x_3 : Bool), r = Value.bool x_3 ∧ bif !x_3 then ∃ (ad : Addr), s_A = some ad
 ∧ ((0 : Int) ≤ x ∧ x < (↑s_n : Int)) ∧ stOK (Addr.add ad (Int.toNat x * 1)) 0 [Value.int IntKind.i64 x_2] w' ∧ ∀ (w'_1 : World), w'_1 = setAll (Addr.add ad (Int.toNat x * 1)) 0 [Value.int IntKind.i64
 x_2] w' → I (IntKind.wrap IntKind.i64 (x + (1 : Int))) (IntKind.wrap IntKind.i64 (x_1 + (1 : Int))) w'_1 ∧ μ (IntKind.wrap IntKind.i64 (x + (1 : Int))) (IntKind.wrap IntKind.i64 (x_1 + (1 : Int))) w'_1
 < μ x x_1 w else I x (IntKind.wrap IntKind.i64 (x_1 + (1 : Int))) w' ∧ μ x (IntKind.wrap IntKind.i64 (x_1 + (1 : Int))) w' < μ x x_1 w else ((0 : Int) ≤ x ∧ x ≤ (↑s_n : Int)) ∧ ∃ (w' : World), RunsTo
 Try.prog (Builtin.clear_ (Array.mk [37]) 0 #[Value.slice (cutAt s_A s_c (Int.toNat x) 1) (s_n - Int.toNat x) (s_c - Int.toNat x)]) w (Value.tuple #[]) w' ∧ ((0 : Int) ≤ x ∧ x ≤ (↑s_c : Int)) ∧ K
 (Value.slice (cutAt s_A s_c 0 1) (Int.toNat x - 0) (s_c - 0)) w'
theorem slices_DeleteFunc_int_int.calls (ok : Okay Try.prog) {s_A : Option Addr} {s_n : Nat} {s_c : Nat} {del : Value} {w : World} {K : Value → World → Prop} (h : slices_DeleteFunc_int_int.W s_A s_n s_c del w K) : CallsV Try.prog 80 #[.slice s_A s_n s_c, del] w K :=
  fnW_calls ok Try.func80 (an := (.named (.named (.seq .auto (.seq .auto (.seq .auto (.seq (.seq .auto (.block (.loop [(5, .one (.int .i64)), (6, .one (.int .i64))] .auto))) .auto))))))) (args := [.slice s_A s_n s_c, del]) (Eq.mp (by kernel_rfl) h)
noncomputable def slices_IndexFunc_int_int.W : Option Addr → Nat → Nat → Value → World → (Value → World → Prop) → Prop := fun (s_A : Option Addr) (s_n s_c : Nat) (f : Value) (w : World) (K : Value →
 World → Prop) => ∃ (I : Int → World → Prop) (μ : Int → World → Nat), I (0 : Int) w ∧ ∀ (x : Int) (w : World), I x w → bif decide (x < (↑s_n : Int)) then ∃ (ad : Addr), s_A = some ad ∧
 ((0 : Int) ≤ x ∧ x < (↑s_n : Int)) ∧ ∃ (x_1 : Int), World.cell? w (Addr.add ad (Int.toNat x * 1)) = some (Value.int IntKind.i64 x_1) ∧ ∃ (fid : Nat) (first captured : Array Value), f =
 Value.func (Fn.func fid) first captured ∧ bodied Try.prog fid = true ∧ CallsV Try.prog fid (List.toArray (Array.toList first ++ ([Value.int IntKind.i64 x_1] ++ Array.toList captured))) w fun (r :
 Value) (w' : World) => ∃ (x_2 : Bool), r = Value.bool x_2 ∧ bif x_2 then K (Value.int IntKind.i64 x) w' else I (IntKind.wrap IntKind.i64 (x + (1 : Int))) w' ∧ μ (IntKind.wrap IntKind.i64 (x + (1 :
 Int))) w' < μ x w else K (Value.int IntKind.i64 (-1 : Int)) w
theorem slices_IndexFunc_int_int.calls (ok : Okay Try.prog) {s_A : Option Addr} {s_n : Nat} {s_c : Nat} {f : Value} {w : World} {K : Value → World → Prop} (h : slices_IndexFunc_int_int.W s_A s_n s_c f w K) : CallsV Try.prog 118 #[.slice s_A s_n s_c, f] w K :=
  fnW_calls ok Try.func118 (an := (.named (.named (.seq .auto (.seq (.seq .auto (.block (.loop [(8, .one (.int .i64))] .auto))) .auto))))) (args := [.slice s_A s_n s_c, f]) (Eq.mp (by kernel_rfl) h)
end Go.Proofs.Ythfagbfllheneaa
set_option linter.unusedVariables false
set_option linter.unusedSimpArgs false
namespace Go.Proofs.Ythfagbfllheneaa
open Go Go.Sx T4
abbrev KI : Kd Int := Kd.int .i64
theorem KI_pos : 0 < KI.size := by decide
theorem oneI : One KI := ⟨rfl, fun h v hv => by cases h; simp at hv; subst hv; rfl⟩
theorem itemI {Ω : Nat → Prop} {w : World} {A : Option Addr} {l : List Int} (h : Imm KI Ω w A l) {j : Nat} (hj : j < l.length) : ∃ ad, A = some ad ∧ w.cell? (ad.add (j * 1)) = some (.int .i64 l[j]) := by
  obtain ⟨ad, hA, _, cs, hr, hv⟩ := h j l[j] (List.getElem?_eq_getElem hj)
  exact ⟨ad, hA, hv 0 _ (by rw [show cs = [.int .i64 l[j]] from hr]; rfl)⟩
end Go.Proofs.Ythfagbfllheneaa
set_option linter.unusedVariables false
set_option linter.unusedSimpArgs false
namespace Go.Proofs.Ythfagbfllheneaa
open Go Go.Sx T4
def idsD (D : List Tr) : List Int := D.map fun d => d.r
theorem idsD_len (D : List Tr) : (idsD D).length = D.length := by simp [idsD]
structure Mk where
  sb : Nat
  MA : Option Addr
  mc : Nat
  A : Ar
  D : List Tr
def mkC (a : Mk) : List Value := [.pointer (some ⟨a.sb, 0, none⟩), .slice a.MA (idsD a.D).length a.mc]
def KMk : Kd Mk := ⟨2, fun _ _ a cs => cs = mkC a, fun h => by simp [h, mkC], fun h _ => h⟩
theorem KMk_pos : 0 < KMk.size := by decide
theorem slM : SlT Try.prog 79 122 2 32 [.pointer none, .slice none 0 0] := ⟨by kernel_rfl, ⟨Try.t122, by kernel_rfl, by kernel_rfl, by kernel_rfl, .agg #[.pointer none, .slice none 0 0], by kernel_rfl, by kernel_rfl⟩, rfl, by decide⟩
structure Ab where
  A : Ar
  D : List Tr
  ms : List (Ar × List Tr)
structure StoA (T : Nat → Prop) (u : World) (s : Nat) (q : Ab) (g : Nat) (R M : Nat → Prop) (IA : Option Addr) (ic : Nat) (X : Option Addr) (xc : Nat) (L : List Mk) (idl : List Int) : Prop where
  ar : Ar1 R M u g q.A
  inv : Inv q.A q.D
  blk : Blk u s [.pointer (some ⟨g, 0, none⟩), .slice IA idl.length ic, .slice X L.length xc]
  rT : ∀ k, R k → T k
  sT : T s
  iT : ∀ k, ownB IA k → T k
  xT : ∀ k, ownB X k → T k
  mT : ∀ x ∈ L, ∀ k, ownB x.MA k → T k
  tlt : ∀ k, T k → k < u.heap.size
  sR : ¬ R s
  iO : ∀ k, ownB IA k → ¬ R k ∧ k ≠ s
  xO : ∀ k, ownB X k → ¬ R k ∧ k ≠ s ∧ ¬ ownB IA k
  mO : ∀ x ∈ L, ∀ k, ownB x.MA k → ¬ R k ∧ k ≠ s ∧ ¬ ownB IA k ∧ ¬ ownB X k
  mD : L.Pairwise fun a b => ∀ k, ownB a.MA k → ¬ ownB b.MA k
  ids : OwnK KI u IA ic idl
  marks : OwnK KMk u X xc L
  good : ∀ x ∈ L, Sv1 (Om R M) u x.sb g x.A ∧ Inv x.A x.D ∧ x.A.fan = q.A.fan ∧ x.A.most = q.A.most ∧ OwnK KI u x.MA x.mc (idsD x.D)
  ms : L.map (fun x => (x.A, x.D)) = q.ms
  cnt : L.length ≤ 100
structure Tch (T : Nat → Prop) (u : World) (T' : Nat → Prop) (u' : World) : Prop where
  fr : Fr T u u'
  sub : ∀ k, T' k → T k ∨ u.heap.size ≤ k
theorem Tch.refl (T : Nat → Prop) (u : World) : Tch T u T u := ⟨.refl _ _, fun _ h => .inl h⟩
theorem Tch.ext {T : Nat → Prop} {u u' : World} (e : Ext u u') : Tch T u T u' := ⟨e.fr, fun _ h => .inl h⟩
theorem Tch.trans {T T' T'' : Nat → Prop} {u u' u'' : World} (h : Tch T u T' u') (h' : Tch T' u' T'' u'') : Tch T u T'' u'' :=
  ⟨h.fr.trans h'.fr (fun _ _ h => h) (fun k hk ht => (h.sub k ht).resolve_right (by omega)), fun k hk => (h'.sub k hk).elim (h.sub k) fun h2 => .inr (Nat.le_trans h.fr.size h2)⟩
theorem Tch.keepExt {T T' : Nat → Prop} {w0 u u' : World} (c : Tch T u T' u') (e : Ext w0 u) (hT : ∀ k, T k → w0.heap.size ≤ k) : Ext w0 u' ∧ ∀ k, T' k → w0.heap.size ≤ k :=
  ⟨e.trans c.fr (fun _ _ h => h) (fun k hk ht => by have := hT k ht; omega), fun k hk => (c.sub k hk).elim (hT k) fun h => Nat.le_trans e.size h⟩
theorem Tch.blk {T T' : Nat → Prop} {u u' : World} (c : Tch T u T' u') {k : Nat} {cs : List Value} (hb : Blk u k cs) (hk : ¬ T k) : Blk u' k cs ∧ ¬ T' k := ⟨hb.keep c.fr hk, fun h => (c.sub k h).elim hk fun h2 => by have := hb.lt; omega⟩
section
variable {T : Nat → Prop} {u : World} {s : Nat} {q : Ab} {g : Nat} {R M : Nat → Prop} {IA : Option Addr} {ic : Nat} {X : Option Addr} {xc : Nat} {L : List Mk} {idl : List Int}
theorem StoA.frame (h : StoA T u s q g R M IA ic X xc L idl) {S : Nat → Prop} {u' : World} (f : Fr S u u') (hS : ∀ k, k < u.heap.size → S k → ¬ T k) : StoA T u' s q g R M IA ic X xc L idl := by
  have off : ∀ k, T k → ¬ S k := fun k ht hs => hS k (h.tlt k ht) hs ht
  refine ⟨h.ar.frame f fun k hk hs hr => hS k hk hs (h.rT k hr), h.inv, h.blk.keep f (off s h.sT), h.rT, h.sT, h.iT, h.xT, h.mT, fun k hk => Nat.lt_of_lt_of_le (h.tlt k hk) f.size, h.sR, h.iO, h.xO, h.mO, h.mD, h.ids.fr f (fun k hk => off k (h.iT k hk)) (fun _ _ _ h => h), h.marks.fr f (fun k hk => off k (h.xT k hk)) (fun _ _ _ h => h), fun x hx => ?_, h.ms, h.cnt⟩
  obtain ⟨g1, g2, g3, g4, g5⟩ := h.good x hx
  exact ⟨g1.keep (f.step (fun k hk hs => .inl fun hr => hS k hk hs (h.rT k hr)) (fun _ _ h => h)), g2, g3, g4, g5.fr f (fun k hk => off k (h.mT x hx k hk)) (fun _ _ _ h => h)⟩
theorem StoA.ext (h : StoA T u s q g R M IA ic X xc L idl) {u' : World} (e : Ext u u') : StoA T u' s q g R M IA ic X xc L idl := h.frame e fun _ _ h => h.elim
theorem StoA.chg (h : StoA T u s q g R M IA ic X xc L idl) {u' : World} {A' : Ar} {D' : List Tr} {R' M' : Nat → Prop} (h' : Ar1 R' M' u' g A') (c : Chg R M u R' M' u') (hI : Inv A' D') (h1 : A'.fan = q.A.fan) (h2 : A'.most = q.A.most) :
    ∃ T', StoA T' u' s ⟨A', D', q.ms⟩ g R' M' IA ic X xc L idl ∧ Tch T u T' u' := by
  have mr := h.ar.mr
  have off : ∀ {k}, ¬ R k → ¬ M k := fun hr hm => hr (mr _ hm)
  have hs := c.fr.size
  refine ⟨fun k => T k ∨ R' k, ⟨h', hI, h.blk.keep c.fr (off h.sR), fun k hk => .inr hk, .inl h.sT, fun k hk => .inl (h.iT k hk), fun k hk => .inl (h.xT k hk), fun x hx k hk => .inl (h.mT x hx k hk), fun k hk => ?_, c.off h.blk.lt h.sR, fun k hk => ⟨c.off (h.ids.lt k hk) (h.iO k hk).1, (h.iO k hk).2⟩, fun k hk => ⟨c.off (h.marks.lt k hk) (h.xO k hk).1, (h.xO k hk).2⟩, fun x hx k hk => ⟨c.off (h.tlt k (h.mT x hx k hk)) (h.mO x hx k hk).1, (h.mO x hx k hk).2⟩, h.mD, h.ids.fr c.fr (fun k hk => off (h.iO k hk).1) (fun _ _ _ h => h), h.marks.fr c.fr (fun k hk => off (h.xO k hk).1) (fun _ _ _ h => h), fun x hx => ?_, h.ms, h.cnt⟩, ⟨c.fr.mono fun k _ hm => h.rT k (mr k hm), fun k hk => ?_⟩⟩
  · rcases hk with hk | hk
    · have := h.tlt k hk; omega
    · exact h'.lt k hk
  · obtain ⟨g1, g2, g3, g4, g5⟩ := h.good x hx
    exact ⟨g1.keep c.step, g2, g3.trans h1.symm, g4.trans h2.symm, g5.fr c.fr (fun k hk => off (h.mO x hx k hk).1) (fun _ _ _ h => h)⟩
  · rcases hk with hk | hk
    · exact .inl hk
    · exact (c.r' k hk).imp (h.rT k) id
theorem StoA.setIds (h : StoA T u s q g R M IA ic X xc L idl) {u' : World} {IA' : Option Addr} {ic' : Nat} {idl' : List Int} (ho : OwnK KI u' IA' ic' idl') (gr : Grew IA IA' u u') :
    stOK ((⟨s, 0, none⟩ : Addr).add 1) 0 [.slice IA' idl'.length ic'] u' ∧ ∀ u2, u2 = setAll ((⟨s, 0, none⟩ : Addr).add 1) 0 [.slice IA' idl'.length ic'] u' → ∃ T', StoA T' u2 s q g R M IA' ic' X xc L idl' ∧ Tch T u T' u2 := by
  have bs := h.blk.keep gr.fr (fun hk => (h.iO _ hk).2 rfl)
  obtain ⟨p1, p2⟩ := setF bs (o := 1) (by simp) (.slice IA' idl'.length ic')
  refine ⟨p1, fun u2 hu => ?_⟩
  obtain ⟨b2, f2⟩ := p2 u2 hu
  have hsz := gr.fr.size
  have hsz2 := f2.size
  -- both steps at once
  have f : Fr (fun k => ownB IA k ∨ k = s) u u2 := (gr.fr.mono fun _ _ h => .inl h).trans f2 (fun _ _ h => h) (fun _ _ h => .inr h)
  have isT : ∀ k, ownB IA k ∨ k = s → T k := fun k hk => hk.elim (h.iT k) fun e => e ▸ h.sT
  have notR : ∀ k, ownB IA k ∨ k = s → ¬ R k := fun k hk => hk.elim (fun hk => (h.iO k hk).1) fun e => e ▸ h.sR
  have new : ∀ k, ownB IA' k → ownB IA k ∨ u.heap.size ≤ k := gr.sub
  have hsl := h.blk.lt
  refine ⟨fun k => T k ∨ ownB IA' k, ⟨h.ar.frame f fun k _ hk => notR k hk, h.inv, by simpa using b2, fun k hk => .inl (h.rT k hk), .inl h.sT, fun k hk => .inr hk, fun k hk => .inl (h.xT k hk), fun x hx k hk => .inl (h.mT x hx k hk), fun k hk => ?_, h.sR, fun k hk => ?_, fun k hk => ?_, fun x hx k hk => ?_, h.mD, ho.fr f2 (fun k hk e => ?_) (fun _ _ _ h => h), h.marks.fr f (fun k hk hk' => hk'.elim (h.xO k hk).2.2 fun e => (h.xO k hk).2.1 e) (fun _ _ _ h => h), fun x hx => ?_, h.ms, h.cnt⟩, ⟨f.mono fun k _ hk => isT k hk, fun k hk => ?_⟩⟩
  · rcases hk with hk | hk
    · have := h.tlt k hk; omega
    · have := ho.lt k hk; omega
  · rcases new k hk with hk | hk
    · exact h.iO k hk
    · exact ⟨fun hr => by have := h.tlt k (h.rT k hr); omega, by omega⟩
  · refine ⟨(h.xO k hk).1, (h.xO k hk).2.1, fun hi => ?_⟩
    rcases new k hi with hi | hi
    · exact (h.xO k hk).2.2 hi
    · have := h.marks.lt k hk; omega
  · obtain ⟨m1, m2, m3, m4⟩ := h.mO x hx k hk
    refine ⟨m1, m2, fun hi => ?_, m4⟩
    rcases new k hi with hi | hi
    · exact m3 hi
    · have := h.tlt k (h.mT x hx k hk); omega
  · have e : k = s := e
    rcases new k hk with hk | hk
    · exact (h.iO k hk).2 e
    · omega
  · obtain ⟨g1, g2, g3, g4, g5⟩ := h.good x hx
    exact ⟨g1.keep (f.step (fun k _ hk => .inl (notR k hk)) (fun _ _ h => h)), g2, g3, g4, g5.fr f (fun k hk hk' => hk'.elim (h.mO x hx k hk).2.2.1 fun e => (h.mO x hx k hk).2.1 e) (fun _ _ _ h => h)⟩
  · rcases hk with hk | hk
    · exact .inl hk
    · exact (new k hk).imp (h.iT k) id
end
end Go.Proofs.Ythfagbfllheneaa
