/- Part 3 of the texts of this claim: the engine, contracts, plain laws. -/
import Derived.Test.YthfagbfllheneaaZCApart6P2
import Derived.MapKept
import Derived.WalkKit
import Derived.ProofKit
import Derived.OpenShut
import Derived.Carry
import Derived.Deep.Slices
import Derived.ChangeMaps5
set_option linter.unusedVariables false
set_option linter.unusedSectionVars false
set_option linter.unusedSimpArgs false
namespace Go.Sx
open Go.MapKept
section
variable {P : Program} {α : Type} [DecidableEq α]
def getM : List (α × Value) → α → Option Value
  | [], _ => none
  | (x, u) :: l, a => if a = x then some u else getM l a
def setM : List (α × Value) → α → Value → List (α × Value)
  | [], a, v => [(a, v)]
  | (x, u) :: l, a, v => if a = x then (a, v) :: l else (x, u) :: setM l a v
def findM : List (α × Value) → α → Nat → Option (Nat × Value)
  | [], _, _ => none
  | (x, u) :: l, a, i => if a = x then some (i, u) else findM l a (i + 1)
theorem findM_get (a : α) : ∀ (l : List (α × Value)) (i : Nat), (findM l a i).map (·.2) = getM l a
  | [], _ => rfl
  | (x, u) :: l, i => by
    rw [findM, getM]
    split
    · rfl
    · exact findM_get a l (i + 1)
theorem findM_none (a : α) (v : Value) : ∀ (l : List (α × Value)) (i : Nat), findM l a i = none → setM l a v = l ++ [(a, v)]
  | [], _, _ => rfl
  | (x, u) :: l, i, h => by
    rw [findM] at h
    split at h
    · cases h
    · rename_i hne
      rw [setM, if_neg hne, findM_none a v l (i + 1) h]; rfl
theorem findM_some (a : α) (v : Value) : ∀ (l : List (α × Value)) (i j : Nat) (u : Value), findM l a i = some (j, u) → ∃ n, j = i + n ∧ l[n]? = some (a, u) ∧ setM l a v = l.set n (a, v)
  | [], _, _, _, h => by cases h
  | (x, u) :: l, i, j, u', h => by
    rw [findM] at h
    split at h
    · rename_i he
      subst he
      cases h
      exact ⟨0, rfl, rfl, by rw [setM, if_pos rfl]; rfl⟩
    · rename_i hne
      obtain ⟨n, h1, h2, h3⟩ := findM_some a v l (i + 1) j u' h
      exact ⟨n + 1, by omega, by simpa using h2, by rw [setM, if_neg hne, h3]; rfl⟩
structure KeyF (P : Program) (kt : TypeId) (d : TypeDesc) (f : α → Value) : Prop where
  und : und P kt = some d
  key : ∀ a, IsKey d (f a)
  inj : ∀ a b, f a = f b → a = b
def MapK (f : α → Value) (w : World) (b : Nat) (l : List (α × Value)) : Prop := ∃ es clock, w.heap[b]? = some (.map es clock) ∧ es.toList.map (fun e => (e.key, e.val)) = l.map (fun p => (f p.1, p.2))
theorem MapK.lt {f : α → Value} {w : World} {b : Nat} {l : List (α × Value)} (h : MapK f w b l) : b < w.heap.size := by
  obtain ⟨es, c, h, _⟩ := h; exact (Array.getElem?_eq_some_iff.1 h).1
theorem MapK.keep {f : α → Value} {w w' : World} {b : Nat} {l : List (α × Value)} {S : Nat → Prop} (h : MapK f w b l) (hf : Fr S w w') (hn : ¬ S b) : MapK f w' b l := by
  have hl := h.lt
  obtain ⟨es, c, h, he⟩ := h; exact ⟨es, c, (hf.block b hl hn).trans h, he⟩
theorem MapK.ext {f : α → Value} {w w' : World} {b : Nat} {l : List (α × Value)} (h : MapK f w b l) (e : Ext w w') : MapK f w' b l := h.keep e (fun h => h)
theorem MapK.new (f : α → Value) (w : World) : MapK f (w.alloc (.map #[] 0)) w.heap.size [] := ⟨#[], 0, (MapKept.heap_alloc w _).1, rfl⟩
theorem makeMap_run (t : TypeId) (w : World) : RunsTo P (Instr.makeMap t none) w (.map (some w.heap.size)) (w.alloc (.map #[] 0)) := by
  unfold RunsTo; simp [Instr.makeMap]
theorem findNow_M {kt : TypeId} {d : TypeDesc} {f : α → Value} (F : KeyF P kt d f) (a : α) : ∀ (es : List MapEntry) (l : List (α × Value)) (i : Nat), es.map (fun e => (e.key, e.val)) = l.map (fun p => (f p.1, p.2)) → Instr.findNow d (f a) es i = some (findM l a i)
  | [], [], _, _ => rfl
  | [], _ :: _, _, h => by cases h
  | _ :: _, [], _, h => by cases h
  | e :: es, (x, u) :: l, i, h => by
    simp only [List.map_cons, List.cons.injEq, Prod.mk.injEq] at h
    obtain ⟨⟨h1, h2⟩, h3⟩ := h
    obtain ⟨r, hr, hiff⟩ := sameNow_of_keys (F.key a) (F.key x)
    rw [Instr.findNow, h1, hr, findM]
    by_cases hax : a = x
    · subst hax
      rw [if_pos rfl, hiff.2 rfl]
      simp [h2]
    · rw [if_neg hax]
      cases r with
      | true => exact absurd (F.inj _ _ (hiff.1 rfl)) hax
      | false => exact findNow_M F a es l (i + 1) h3
theorem MapK.look {kt et t : TypeId} {d : TypeDesc} {f : α → Value} (F : KeyF P kt d f) (ht : Go.Sx.und P t = some (.map kt et)) {w : World} {b : Nat} {l : List (α × Value)} (h : MapK f w b l) (a : α) {z : Value} (hz : ∀ w, (zeroValue et).run P w = .ok z w) :
    RunsTo P (Instr.lookup t (.map (some b)) (f a) true) w (.tuple #[(getM l a).getD z, .bool (getM l a).isSome]) w ∧ RunsTo P (Instr.lookup t (.map (some b)) (f a) false) w ((getM l a).getD z) w := by
  obtain ⟨es, clock, hb, he⟩ := h
  have hf := findNow_M F a es.toList l 0 he
  have hg := findM_get a l 0
  have hc : (Instr.checkKey es.isEmpty 10000 kt (f a)).run P w = .ok () w := MapKept.run_checkKey (und_underlying F.und) (F.key a) _ 9999
  rw [← hg]
  cases hr : findM l a 0 with
  | none =>
    rw [hr] at hf
    constructor <;> simp [RunsTo, Instr.lookup, run_und ht, MapKept.run_getObj_map hb, hc, MapKept.run_findKey (und_underlying F.und) hf, Result.andThen, hz]
  | some p =>
    obtain ⟨j, u⟩ := p
    rw [hr] at hf
    constructor <;> simp [RunsTo, Instr.lookup, run_und ht, MapKept.run_getObj_map hb, hc, MapKept.run_findKey (und_underlying F.und) hf, Result.andThen]
theorem MapK.update {kt et t : TypeId} {d : TypeDesc} {f : α → Value} (F : KeyF P kt d f) (ht : Go.Sx.und P t = some (.map kt et)) {w : World} {b : Nat} {l : List (α × Value)} (h : MapK f w b l) (a : α) (v : Value) :
    ∃ w', RunsTo P (Instr.mapUpdate t (.map (some b)) (f a) v) w () w' ∧ MapK f w' b (setM l a v) ∧ Fr (fun k => k = b) w w' := by
  obtain ⟨es, clock, hb, he⟩ := h
  have hf := findNow_M F a es.toList l 0 he
  have hc : (Instr.checkKey false 10000 kt (f a)).run P w = .ok () w := MapKept.run_checkKey (und_underlying F.und) (F.key a) _ 9999
  have frame : ∀ o : Obj, Fr (fun k => k = b) w { w with heap := w.heap.setIfInBounds b o } := fun o => ⟨rfl, rfl, rfl, by simp, fun k _ hn => (MapKept.heap_set hb (o' := o)).2 k hn⟩
  cases hr : findM l a 0 with
  | none =>
    rw [hr] at hf
    refine ⟨{ w with heap := w.heap.setIfInBounds b (.map (es.push { key := f a, val := v, born := clock }) (clock + 1)) }, ?_, ⟨_, _, (MapKept.heap_set hb).1, ?_⟩, frame _⟩
    · simp [RunsTo, Instr.mapUpdate, run_und ht, MapKept.run_getObj_map hb, hc, MapKept.run_findKey (und_underlying F.und) hf, MapKept.run_setObj_map _ hb, Result.andThen]
    · rw [findM_none a v l 0 hr]; simp [he]
  | some p =>
    obtain ⟨j, u⟩ := p
    rw [hr] at hf
    obtain ⟨n, hj, hn, hs⟩ := findM_some a v l 0 j u hr
    rw [Nat.zero_add] at hj
    obtain rfl : j = n := hj
    have hk : ∃ e, es[j]? = some e ∧ e.key = f a := by
      have := congrArg (fun q => q[j]?) he
      simp only [List.getElem?_map, hn, Option.map_some] at this
      cases h' : es.toList[j]? with
      | none => rw [h'] at this; cases this
      | some e => rw [h'] at this; simp at this; exact ⟨e, by simpa using h', this.1⟩
    obtain ⟨e, hen, hek⟩ := hk
    have hst : (Instr.keyThatStays (((es[j]?).map (·.key)).getD (f a)) (f a)).run P w = .ok (f a) w := by
      rw [hen]; simp only [Option.map_some, Option.getD_some, hek]
      exact MapKept.run_keyThatStays (F.key a)
    refine ⟨{ w with heap := w.heap.setIfInBounds b (.map (es.modify j fun e => { e with key := f a, val := v }) clock) }, ?_, ⟨_, _, (MapKept.heap_set hb).1, ?_⟩, frame _⟩
    · simp [RunsTo, Instr.mapUpdate, run_und ht, MapKept.run_getObj_map hb, hc, MapKept.run_findKey (und_underlying F.und) hf, MapKept.run_setObj_map _ hb, Result.andThen, hst]
    · rw [hs, Array.toList_modify]
      apply List.ext_getElem?
      intro i
      have hi := congrArg (fun q => q[i]?) he
      simp only [List.getElem?_map] at hi
      simp only [List.getElem?_map, List.getElem?_modify, List.getElem?_set]
      by_cases hni : j = i
      · subst hni
        have hl : j < l.length := (List.getElem?_eq_some_iff.1 hn).1
        have : es.toList[j]? = some e := by simpa using hen
        simp [this, hl]
      · simp only [hni, if_false]
        cases h' : es.toList[i]? with
        | none => rw [h'] at hi; simpa using hi
        | some q => rw [h'] at hi; simpa using hi
end
theorem keyInt {P : Program} {kt : TypeId} {q : IntKind} (h : und P kt = some (.int q)) : KeyF P kt (.int q) (fun a : Int => Value.int q a) := ⟨h, fun a => by simp [IsKey], fun a b e => by cases e; rfl⟩
end Go.Sx
set_option linter.unusedVariables false
set_option linter.unusedSimpArgs false
namespace Go.Sx
inductive Sl
  | b (g : Nat) (vs : List Value)
  | o (A : Option Addr) (n c : Nat) (xs : List Value)
def Sl.okIn (u : World) : Sl → Prop
  | .b g vs => Blk u g vs
  | .o A n c xs => Own u 1 A n c xs
def Sl.has : Sl → Nat → Prop
  | .b g _ => fun k => k = g
  | .o A _ _ _ => ownB A
theorem Sl.lt {u : World} : ∀ {s : Sl}, s.okIn u → ∀ k, s.has k → k < u.heap.size
  | .b g vs, h, k, hk => by have hk : k = g := hk; subst hk; exact Blk.lt h
  | .o A n c xs, h, k, hk => Own.lt h k hk
theorem Sl.keep {u u' : World} {S : Nat → Prop} (hf : Fr S u u') : ∀ {s : Sl}, s.okIn u → (∀ k, s.has k → ¬ S k) → s.okIn u'
  | .b g vs, h, hn => Blk.keep h hf (hn g rfl)
  | .o A n c xs, h, hn => Own.keep h hf hn
structure Sls (w0 u : World) (L : List (Option Sl)) : Prop where
  ext : Ext w0 u
  good : ∀ (j : Nat) (s : Sl), L[j]? = some (some s) → s.okIn u ∧ ∀ k, s.has k → w0.heap.size ≤ k
  dis : ∀ (i j : Nat) (s t : Sl), i ≠ j → L[i]? = some (some s) → L[j]? = some (some t) → ∀ k, s.has k → ¬ t.has k
theorem Sls.start {w0 u : World} (e : Ext w0 u) (n : Nat) : Sls w0 u (List.replicate n none) :=
  ⟨e, fun j s h => by rw [List.getElem?_replicate] at h; split at h <;> simp at h, fun i j s t _ h => by rw [List.getElem?_replicate] at h; split at h <;> simp at h⟩
theorem Sls.put {w0 u u' : World} {L : List (Option Sl)} (h : Sls w0 u L) {S : Nat → Prop} (hf : Fr S u u') (i : Nat) (hS : ∀ k, S k → ∃ s, L[i]? = some (some s) ∧ s.has k) (s : Sl) (hs : s.okIn u') (hn : ∀ k, s.has k → (∃ t, L[i]? = some (some t) ∧ t.has k) ∨ u.heap.size ≤ k) : Sls w0 u' (L.set i (some s)) := by
  have hget : ∀ {j : Nat} {t : Sl}, (L.set i (some s))[j]? = some (some t) → (i = j ∧ t = s) ∨ (i ≠ j ∧ L[j]? = some (some t)) := by
    intro j t hj
    rw [List.getElem?_set] at hj
    split at hj
    · rename_i e
      split at hj
      · simp at hj; exact .inl ⟨e, hj.symm⟩
      · cases hj
    · rename_i e; exact .inr ⟨e, hj⟩
  have hnew : ∀ (j : Nat) (t : Sl), i ≠ j → L[j]? = some (some t) → ∀ k, s.has k → ¬ t.has k := by
    intro j t hij hj k hk hk'
    rcases hn k hk with ⟨t', h1, h2⟩ | h1
    · exact h.dis i j t' t hij h1 hj k h2 hk'
    · have := Sl.lt (h.good j t hj).1 k hk'; omega
  refine ⟨⟨hf.os.trans h.ext.os, hf.tape.trans h.ext.tape, hf.output.trans h.ext.output, Nat.le_trans h.ext.size hf.size, fun k hk _ => (hf.block k (Nat.lt_of_lt_of_le hk h.ext.size) fun hk' => ?_).trans (h.ext.block k hk fun h => h)⟩, fun j t hj => ?_, fun a b s' t hab ha hb k => ?_⟩
  · obtain ⟨t, h1, h2⟩ := hS k hk'
    have := (h.good i t h1).2 k h2
    omega
  · rcases hget hj with ⟨rfl, rfl⟩ | ⟨hij, hj⟩
    · refine ⟨hs, fun k hk => ?_⟩
      rcases hn k hk with ⟨t', h1, h2⟩ | h1
      · exact (h.good _ t' h1).2 k h2
      · exact Nat.le_trans h.ext.size h1
    · obtain ⟨h1, h2⟩ := h.good j t hj
      refine ⟨Sl.keep hf h1 fun k hk hk' => ?_, h2⟩
      obtain ⟨t', h3, h4⟩ := hS k hk'
      exact h.dis i j t' t hij h3 hj k h4 hk
  · rcases hget ha with ⟨e1, e2⟩ | ⟨hia, ha2⟩
    · rcases hget hb with ⟨e3, e4⟩ | ⟨hib, hb2⟩
      · exact absurd (e1.symm.trans e3) hab
      · rw [e2]; exact hnew b t hib hb2 k
    · rcases hget hb with ⟨e3, e4⟩ | ⟨hib, hb2⟩
      · rw [e4]; exact fun hk hk' => hnew a s' hia ha2 k hk' hk
      · exact h.dis a b s' t hab ha2 hb2 k
theorem Sls.alloc {w0 u u' : World} {L : List (Option Sl)} (h : Sls w0 u L) {g : Nat} {vs : List Value} {e : TypeId} (f : Fresh u g u' vs e) (i : Nat) : Sls w0 u' (L.set i (some (.b g vs))) :=
  h.put f.ext i (fun _ h => h.elim) _ f.blk fun k hk => .inr (by have hk : k = g := hk; rw [hk]; exact f.ge)
theorem Sls.new {w0 u u' : World} {L : List (Option Sl)} (h : Sls w0 u L) {A : Option Addr} {n c : Nat} {xs : List Value} (e : Ext u u') (ho : Own u' 1 A n c xs) (hn : New u A) (i : Nat) : Sls w0 u' (L.set i (some (.o A n c xs))) :=
  h.put e i (fun _ h => h.elim) _ ho fun k hk => .inr (hn k hk)
theorem Sls.grow {w0 u u' : World} {L : List (Option Sl)} (h : Sls w0 u L) {i : Nat} {A A' : Option Addr} {n n' c c' : Nat} {xs xs' : List Value} (hi : L[i]? = some (some (.o A n c xs))) (g : Grew A A' u u') (ho : Own u' 1 A' n' c' xs') : Sls w0 u' (L.set i (some (.o A' n' c' xs'))) :=
  h.put g.fr i (fun k hk => ⟨_, hi, hk⟩) _ ho fun k hk => (g.sub k hk).imp (fun h => ⟨_, hi, h⟩) id
theorem Sls.step {w0 u u' : World} {L : List (Option Sl)} (h : Sls w0 u L) (e : Ext u u') : Sls w0 u' L :=
  ⟨h.ext.trans' e, fun j s hj => ⟨Sl.keep e (h.good j s hj).1 fun _ _ h => h, (h.good j s hj).2⟩, h.dis⟩
theorem Sls.ownAt {w0 u : World} {L : List (Option Sl)} (h : Sls w0 u L) (i : Nat) {A : Option Addr} {n c : Nat} {xs : List Value} (hi : L[i]? = some (some (.o A n c xs))) : Own u 1 A n c xs ∧ ∀ k, ownB A k → w0.heap.size ≤ k := h.good i _ hi
theorem Sls.blkAt {w0 u : World} {L : List (Option Sl)} (h : Sls w0 u L) (i : Nat) {g : Nat} {vs : List Value} (hi : L[i]? = some (some (.b g vs))) : Blk u g vs ∧ w0.heap.size ≤ g := ⟨(h.good i _ hi).1, (h.good i _ hi).2 g rfl⟩
theorem Sls.off {w0 u : World} {L : List (Option Sl)} (h : Sls w0 u L) {i j : Nat} (hij : i ≠ j) {A : Option Addr} {n c : Nat} {xs : List Value} {g : Nat} {vs : List Value} (hi : L[i]? = some (some (.o A n c xs))) (hj : L[j]? = some (some (.b g vs))) : ¬ ownB A g := fun hk => h.dis i j _ _ hij hi hj g hk rfl
section
variable {α : Type} {K : Kd α}
theorem own_imm (hK : One K) {Ω Ω' : Nat → Prop} {w0 u : World} {A : Option Addr} {c : Nat} {l : List α} {xs : List Value} (ho : Own u 1 A l.length c xs) (hf : F2 (fun a v => K.rep Ω w0 a [v]) l xs) (st : Step Ω w0 Ω' u) (hΩ : ∀ k, ownB A k → ¬ Ω' k) : Imm K Ω' u A l := by
  refine Own.imm (K := K) hK.pos (by rw [hK.sz]; exact ho) hΩ fun i a ha => ?_
  obtain ⟨v, hv, hr⟩ := hf.get ha
  rw [hK.sz, chunk1 hv]
  exact K.keep hr st
theorem F2.insert {β γ : Type} {R : β → γ → Prop} {l : List β} {m : List γ} (h : F2 R l m) {i : Nat} (hi : i ≤ l.length) {a : β} {b : γ} (hab : R a b) : F2 R (l.insertIdx i a) (m.take i ++ b :: m.drop i) := by
  rw [insertIdx_eq _ _ _ hi]
  exact (h.take i).append (.cons hab (h.drop i))
theorem F2.set {β γ : Type} {R : β → γ → Prop} {l : List β} {m : List γ} (h : F2 R l m) (i : Nat) {a : β} {b : γ} (hab : R a b) : F2 R (l.set i a) (m.set i b) := by
  induction h generalizing i with
  | nil => exact .nil
  | cons h h' ih => cases i with | zero => exact .cons hab h' | succ i => exact .cons h (ih i)
theorem F2.erase {β γ : Type} {R : β → γ → Prop} {l : List β} {m : List γ} (h : F2 R l m) (i : Nat) : F2 R (l.eraseIdx i) (m.eraseIdx i) := by
  induction h generalizing i with
  | nil => exact .nil
  | cons h h' ih => cases i with | zero => exact h' | succ i => exact .cons h (ih i)
def KV1 : Kd Value := ⟨1, fun _ _ a cs => cs = [a] ∧ a.oneCell' = true, fun h => by simp [h.1], fun h _ => h⟩
theorem oneV1 : One KV1 := ⟨rfl, fun h v hv => by obtain ⟨rfl, h1⟩ := h; simp at hv; subst hv; exact h1⟩
theorem Cells.imm {w : World} {B : Option Addr} {ys : List Value} (h : Cells w B ys) (h1 : ∀ v ∈ ys, v.oneCell' = true) : Imm KV1 NoB w B ys := fun i a ha => by
  obtain ⟨ad, hA, hc⟩ := h i a ha
  refine ⟨ad, hA, fun h => h, [a], ⟨rfl, h1 a (List.mem_of_getElem? ha)⟩, fun j v hj => ?_⟩
  cases j with
  | zero => simp at hj; subst hj; rw [show i * KV1.size + 0 = i from Nat.mul_one i]; exact hc
  | succ j => simp at hj
theorem own_of {Ω : Nat → Prop} {w : World} {A : Option Addr} {c : Nat} {l : List Value} (h : OwnK (Kd.out Ω KV1) w A c l) : Own w 1 A l.length c l := by
  obtain ⟨xs, ho, hf⟩ := (ownK1 (oneV1.out Ω)).1 h
  have : xs = l := by
    clear h ho
    induction hf with
    | nil => rfl
    | cons h _ ih => have h : [_] = [_] ∧ _ := h; rw [ih, (List.cons.inj h.1).1]
  subst this
  exact ho
end
end Go.Sx
set_option linter.unusedVariables false
set_option linter.unusedSimpArgs false
namespace Go.Sx
open Go.ChangeShapes Go.WideShapes Go.ChangeAt Go.RowKit
theorem Ext.below {w w' : World} (h : Ext w w') : Below w.heap.size w w' := ⟨h.os, h.tape, h.output, h.size, fun k hk => h.block k hk (fun h => h)⟩
section
variable {H : Type} {enc : TypeId × Value → H} {P : Program}
theorem trodAll_stays (hl : laidOutB P = true) {w w' : World} {sp : Nat → Bool} (hb : Below w.heap.size w w') : ∀ {ts : List TypeId} {vs : List Value} {ds : List (DataW H)} {ps : List MemPlace},
    (∀ t ∈ ts, P.readableRec t = true ∧ t < P.types.size) → DataW.TrodAll enc P w 0 (fun _ => true) true ts vs ds ps → (∀ p ∈ ps, p.block < w.heap.size) → (∀ p ∈ ps, sp p.block = true) → DataW.TrodAll enc P w' 0 sp true ts vs ds ps
  | [], [], [], _, _, h, _, _ => h
  | _ :: _, _ :: _, _ :: _, _, hT, ⟨p, q, h1, h2, e⟩, hlt, hs =>
    ⟨p, q, WideElems.Trod_stays hl (hT _ (List.mem_cons.2 (.inl rfl))).1 (hT _ (List.mem_cons.2 (.inl rfl))).2 h1 (fun x hx => hb.same (hlt x (by rw [e]; exact List.mem_append_left _ hx))) (fun x hx => hs x (by rw [e]; exact List.mem_append_left _ hx)),
      trodAll_stays hl hb (fun t ht => hT t (List.mem_cons.2 (.inr ht))) h2 (fun x hx => hlt x (by rw [e]; exact List.mem_append_right _ hx)) (fun x hx => hs x (by rw [e]; exact List.mem_append_right _ hx)), e⟩

theorem post_law {f : Func} {s : ChangeSpec} {apart fresh handsOn again : Bool} {W W' : World} {args : Array Value} {ds gs : List (DataW H)} {before : List MemPlace}
    (hW : DataW.Whole enc P f.params.toList s.vars apart W args.toList ds gs before) (hv : s.vars = []) (hfn : s.fn H (ds ++ gs) = { results := [.lit (.bool true)], args := ds })
    (hl : laidOutB P = true) (hT : ∀ t ∈ f.params.toList, P.readableRec t = true ∧ t < P.types.size) {tb : TypeId} (hres : f.resultTypes = #[tb]) (htb : P.underlying tb = some .bool) (e : Ext W W') :
    s.post enc P f apart fresh handsOn again W args (.bool true) W' := by
  have hW' := hW
  obtain ⟨p, q, hA, hV, hb, hz, hn⟩ := hW
  rw [hv] at hV
  obtain ⟨rfl, rfl⟩ := trodVars_none hV
  rw [List.append_nil] at hb
  subst hb
  have hlt : ∀ x ∈ before, x.block < W.heap.size := fun x hx => by simpa using hW'.lt x hx
  have hargs : ∀ sp : Nat → Bool, (∀ x ∈ before, sp x.block = true) → DataW.TrodAll enc P W' 0 sp true f.params.toList args.toList (s.fn H (ds ++ [])).args before := by
    intro sp hsp
    rw [hfn]
    exact trodAll_stays hl e.below hT hA hlt hsp
  have hr : ∀ (b : Nat) (sp : Nat → Bool) (hd : Bool), DataW.TrodAll enc P W' b sp hd f.resultTypes.toList ((Value.bool true).resultList f.resultTypes.size) (s.fn H (ds ++ [])).results [] := by
    intro b sp hd
    rw [hfn, hres]
    exact trodAll_cons_mk (shut_bool htb _) trodAll_mk0
  have hvars : ∀ sp : Nat → Bool, DataW.TrodVars enc P W' sp s.vars (s.fn H (ds ++ [])).vars [] := by
    intro sp
    rw [hfn, hv]
    exact rfl
  have hold : ∀ x ∈ before, (fun b => decide (b < W.heap.size)) x.block = true := fun x hx => by simpa using hlt x hx
  refine ⟨ds, [], before, [], before, [], by simpa using hW', hr _ _ _, hargs _ hold, hvars _, World.keptBut_mono (fun x hx => ⟨hx, .inr (.inl hx)⟩) (e.below.frame _), fun _ => ⟨?_, _, _, ([] ++ before) ++ [], ⟨[] ++ before, [], trodAll_append (hargs _ (fun _ _ => rfl)) (hr _ _ _), hvars _, rfl, ?_, ?_⟩, ?_⟩⟩
  · exact ok_one (by rw [hres]) rfl (okWide_bool_mk htb _)
  · intro b off hp
    have hp' : MemPlace.cell b off ∈ before := by simpa using hp
    rw [e.below.frozen (p := ⟨b, off, none⟩) (hlt _ hp')]
    exact hz b off (by simpa using hp')
  · intro ha
    have := hn ha
    simpa using this
  · intro x hx _
    simpa using hx
end
end Go.Sx
set_option linter.unusedVariables false
set_option linter.unusedSimpArgs false
namespace Go.Sx
open Go.ChangeShapes Go.WideShapes Go.ChangeAt Go.RowKit
def Opens {α : Type} (P : Program) (t : TypeId) (K : Kd α) (good : α → Prop) : Prop :=
  ∀ {H : Type} (enc : TypeId × Value → H) (w : World) (fuel : Nat) (cs : List Value) (x : DataW H × List MemPlace), DataW.trod enc P w 0 (fun _ => true) true fuel t cs = some x → ∃ a, K.rep NoB w a cs ∧ good a
section
variable {P : Program}
theorem opens_u8 {t : TypeId} (h : P.underlying t = some (.int .u8)) : Opens P t Kd.u8 (fun _ => True) := by
  intro H enc w fuel cs x hx
  obtain ⟨n, rfl, _, hw⟩ := DataW.trod_int h hx
  have hb : 0 ≤ n ∧ n ≤ 255 := by simpa [Lit.wf, IntKind.min, IntKind.max, IntKind.signed, IntKind.bits] using hw
  refine ⟨n.toNat.toUInt8, ?_, trivial⟩
  show [Value.int .u8 n] = [u8 n.toNat.toUInt8]
  rw [← toUInt8_int (by omega), Int.toNat_of_nonneg hb.1]
theorem opens_int {t : TypeId} {k : IntKind} (h : P.underlying t = some (.int k)) : Opens P t (Kd.int k) (fun n => (Lit.int k n).wf = true) := by
  intro H enc w fuel cs x hx
  obtain ⟨n, rfl, _, hw⟩ := DataW.trod_int h hx
  exact ⟨n, rfl, hw⟩
theorem opens_slice {α : Type} {K : Kd α} {t e : TypeId} {good : α → Prop} (ht : P.underlying t = some (.slice e)) (hc : P.cellsOf e = K.size) (hz : 0 < K.size) (he : Opens P e K good) :
    Opens P t (Kd.slice K hz) (fun l => l.length ≤ maxLen ∧ ∀ a ∈ l, good a) := by
  intro H enc w fuel cs x hx
  rcases Go.Deep.open_slice ht hx with ⟨rfl, _⟩ | ⟨a, len, cap, m, n, D, Pl, rfl, _, hl, hm, hmm, _, hel⟩
  · exact ⟨[], ⟨none, 0, rfl, Nat.le_refl _, Imm.nil K _ _ _⟩, by simp, by simp⟩
  · rw [if_pos rfl] at hmm
    subst hmm
    have hex : ∀ i : Fin len, ∃ b, ∃ cs', w.cells? 0 (a.add (i.val * K.size)) K.size = some cs' ∧ K.rep NoB w b cs' ∧ good b := fun i => by
      obtain ⟨cs', h1, h2⟩ := hel i.val (Nat.lt_of_lt_of_le i.isLt hl)
      obtain ⟨b, hb, hg⟩ := he enc w n cs' _ h2
      rw [hc] at h1
      exact ⟨b, cs', h1, hb, hg⟩
    let f : Fin len → α := fun i => Classical.choose (hex i)
    have hf : ∀ i, ∃ cs', w.cells? 0 (a.add (i.val * K.size)) K.size = some cs' ∧ K.rep NoB w (f i) cs' ∧ good (f i) := fun i => Classical.choose_spec (hex i)
    refine ⟨List.ofFn f, ⟨some a, m, by rw [List.length_ofFn], by rw [List.length_ofFn]; exact hl, ?_⟩, by rw [List.length_ofFn]; omega, ?_⟩
    · intro i b hi
      have hlt : i < len := by have := (List.getElem?_eq_some_iff.1 hi).1; rwa [List.length_ofFn] at this
      have hb : f ⟨i, hlt⟩ = b := by simpa [List.getElem?_ofFn, hlt] using hi
      obtain ⟨cs', h1, h2, _⟩ := hf ⟨i, hlt⟩
      rw [hb] at h2
      refine ⟨a, rfl, fun h => h, cs', h2, fun j v hj => ?_⟩
      obtain ⟨_, hlen, hcell⟩ := World.cells?_some h1
      have hjl : j < K.size := by rw [← hlen]; exact (List.getElem?_eq_some_iff.1 hj).1
      rw [← add_add, hcell j hjl]
      exact hj
    · intro b hb
      obtain ⟨i, rfl⟩ := List.mem_ofFn.1 hb
      obtain ⟨_, _, _, hg⟩ := hf i
      exact hg

theorem arg_slice {α : Type} {K : Kd α} {H : Type} {enc : TypeId × Value → H} {W : World} {r : Reach} {base : Nat} {t e : TypeId} {good : α → Prop} {v : Value} {d : DataW H} {ps : List MemPlace} (ht : P.underlying t = some (.slice e)) (hc : P.cellsOf e = K.size) (hz : 0 < K.size) (he : Opens P e K good)
    (hval : Value.okWide P W r base t v) (h : DataW.Trod enc P W 0 (fun _ => true) true t v d ps) : ∃ A c l, v = .slice A l.length c ∧ l.length ≤ c ∧ l.length ≤ maxLen ∧ Imm K NoB W A l ∧ ∀ a ∈ l, good a := by
  obtain ⟨A, n, c, rfl⟩ := okWide_slice ht hval
  obtain ⟨fuel, hf⟩ := h
  obtain ⟨l, ⟨A', c', he', hl, hi⟩, hm, hg⟩ := opens_slice ht hc hz he enc W fuel _ _ hf
  have : Value.slice A n c = .slice A' l.length c' := by simpa [Value.cells] using he'
  cases this
  exact ⟨A, c, l, rfl, hl, hm, hi, hg⟩
def sfs (P : Program) (t : TypeId) : Array Field := match P.underlying t with | some (.struct fs) => fs | _ => #[]
theorem opens_fields {t : TypeId} (ht : P.underlying t = some (.struct (sfs P t))) {H : Type} {enc : TypeId × Value → H} {w : World} {fuel : Nat} {cs : List Value} {x : DataW H × List MemPlace} (h : DataW.trod enc P w 0 (fun _ => true) true fuel t cs = some x) :
    cs.length = P.cellsOf t ∧ ∀ {α : Type} (i : Nat) {ft : TypeId} {off : Nat} {K : Kd α} {good : α → Prop}, ((sfs P t)[i]?).map (fun f => (f.type, f.offset)) = some (ft, off) → P.cellsOf ft = K.size → Opens P ft K good → ∃ a, K.rep NoB w a ((cs.drop off).take K.size) ∧ good a := by
  obtain ⟨xs, n, _, rfl, hl, hlen, hf⟩ := DataW.trod_struct ht h
  refine ⟨hl, fun {α} i {ft off K good} hi hc ho => ?_⟩
  cases hg : (sfs P t)[i]? with
  | none => simp [hg] at hi
  | some f =>
    simp [hg] at hi
    obtain ⟨rfl, rfl⟩ := hi
    have h1 := hf i f hg
    have hlt : i < xs.length := by rw [hlen]; exact (Array.getElem?_eq_some_iff.1 hg).1
    rw [List.getElem?_eq_getElem hlt] at h1
    rw [hc] at h1
    exact ho enc w n _ _ h1
end
end Go.Sx
