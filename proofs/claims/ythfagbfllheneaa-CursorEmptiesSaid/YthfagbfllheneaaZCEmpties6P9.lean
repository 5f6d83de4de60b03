/- Part 9 of the texts of this claim: the engine, contracts, plain laws. -/
import Derived.Test.YthfagbfllheneaaZCEmpties6P8
import Derived.Test.YthfagbfllheneaaProg
import Derived.Test.YthfagbfllheneaaZCEmpties6P2
set_option linter.unusedVariables false
set_option linter.unusedSimpArgs false
namespace Go.Proofs.Ythfagbfllheneaa
open Go Go.Sx T4
def entW (back : Bool) (es : Es) (i : Nat) : Option (Key × Key) := if back = true then (if i < es.length then es[es.length - 1 - i]? else none) else es[i]?
def WS (back : Bool) (es0 : Es) (i m : Nat) (es : Es) : Prop := i ≤ es0.length ∧ ∃ kept : Es, kept.length = m ∧
  if back = true then es = es0.take (es0.length - i) ++ kept ∧ kept.Sublist (es0.drop (es0.length - i)) else es = kept ++ es0.drop i ∧ kept.Sublist (es0.take i)
theorem mid {es0 : Es} (hu : UpE es0) {j : Nat} (hj : j < es0.length) : (∀ x ∈ es0.take j, T4.lt x.1 es0[j].1) ∧ (∀ y ∈ es0.drop (j + 1), T4.lt es0[j].1 y.1) ∧ es0.drop j = es0[j] :: es0.drop (j + 1) ∧ es0.take (j + 1) = es0.take j ++ [es0[j]] := by
  have h1 : es0.drop j = es0[j] :: es0.drop (j + 1) := List.drop_eq_getElem_cons hj
  have h2 : es0.take (j + 1) = es0.take j ++ [es0[j]] := List.take_succ_eq_append_getElem hj
  have hu : List.Pairwise T4.lt (es0.map (·.1)) := hu
  rw [List.pairwise_map] at hu
  have hu' : List.Pairwise (fun a b : Key × Key => T4.lt a.1 b.1) (es0.take j ++ es0[j] :: es0.drop (j + 1)) := by rw [← h1, List.take_append_drop]; exact hu
  obtain ⟨_, a, b⟩ := List.pairwise_append.1 hu'
  exact ⟨fun x hx => b x hx _ (List.mem_cons_self ..), fun y hy => (List.pairwise_cons.1 a).1 y hy, h1, h2⟩
theorem getE_hd (p : Key × Key) (r : Es) : getE p.1 (p :: r) = some p.2 := by obtain ⟨k, v⟩ := p; rw [getE, if_neg (lt_irrefl k), if_pos rfl]
theorem delE_hd (p : Key × Key) (r : Es) : delE p.1 (p :: r) = r := by obtain ⟨k, v⟩ := p; rw [delE, if_neg (lt_irrefl k), if_pos rfl]
theorem WS.start (back : Bool) (es0 : Es) : WS back es0 0 0 es0 := by
  refine ⟨Nat.zero_le _, [], rfl, ?_⟩
  cases back <;> simp
theorem WS.fin {back : Bool} {es0 es : Es} {m : Nat} (h : WS back es0 es0.length m es) : es.length = m := by
  obtain ⟨_, kept, rfl, h⟩ := h
  cases back <;> simp at h <;> rw [h.1] <;> simp
theorem WS.at_ {back : Bool} {es0 : Es} (hu : UpE es0) {i m : Nat} {es : Es} (h : WS back es0 i m es) (hi : i < es0.length) : ∃ p, entW back es0 i = some p ∧ p ∈ es0 ∧ atX [(1, es)] 1 (some p.1) = some p ∧ WS back es0 (i + 1) m (delE p.1 es) ∧ WS back es0 (i + 1) (m + 1) es ∧
    ∀ m' es', WS back es0 (i + 1) m' es' → (if back = true then prevX [(1, es')] 1 (some p.1) else nextX [(1, es')] 1 (some p.1)) = entW back es0 (i + 1) := by
  obtain ⟨_, kept, rfl, h⟩ := h
  cases back with
  | false =>
    simp only [Bool.false_eq_true, if_false] at h
    obtain ⟨rfl, hk⟩ := h
    obtain ⟨h1, h2, h3, h4⟩ := mid hu hi
    have hk1 : ∀ x ∈ kept, T4.lt x.1 es0[i].1 := fun x hx => h1 x (hk.subset hx)
    refine ⟨es0[i], by simp [entW, hi], List.getElem_mem hi, ?_, ?_, ?_, ?_⟩
    · show ((some (kept ++ es0.drop i)).bind (getE es0[i].1)).map (fun v => (es0[i].1, v)) = some es0[i]
      show (getE es0[i].1 (kept ++ es0.drop i)).map (fun v => (es0[i].1, v)) = some es0[i]
      rw [getE_low hk1, h3, getE_hd]; rfl
    · refine ⟨hi, kept, rfl, ?_⟩
      simp only [Bool.false_eq_true, if_false]
      rw [delE_low hk1, h3, delE_hd]
      exact ⟨rfl, by rw [h4]; exact hk.trans (List.sublist_append_left _ _)⟩
    · refine ⟨hi, kept ++ [es0[i]], by simp, ?_⟩
      simp only [Bool.false_eq_true, if_false]
      exact ⟨by rw [h3]; simp, by rw [h4]; exact hk.append (List.Sublist.refl _)⟩
    · rintro m' es' ⟨_, kept', rfl, h'⟩
      simp only [Bool.false_eq_true, if_false] at h' ⊢
      obtain ⟨rfl, hk'⟩ := h'
      show aftE es0[i].1 false (kept' ++ es0.drop (i + 1)) = _
      have hno : aftE es0[i].1 false kept' = none := by
        cases hx : aftE es0[i].1 false kept' with
        | none => rfl
        | some q =>
          have hq := aftP es0[i].1 false (es := kept') (List.Pairwise.sublist (hk'.map _) (List.Pairwise.sublist ((List.take_sublist (i + 1) es0).map _) hu))
          rw [hx] at hq
          obtain ⟨hm, hok, _⟩ := hq
          have hm2 := hk'.subset hm
          rw [h4] at hm2
          rcases hok with hok | ⟨hf, _⟩
          · rcases List.mem_append.1 hm2 with hm2 | hm2
            · exact absurd hok (lt_asymm (h1 q hm2))
            · rw [List.mem_singleton.1 hm2] at hok; exact absurd hok (lt_irrefl _)
          · cases hf
      rw [aftE_app, hno]
      show aftE es0[i].1 false (es0.drop (i + 1)) = _
      rw [aftE_head h2]
      simp [entW]
  | true =>
    simp only [if_true] at h
    obtain ⟨j, hj⟩ : ∃ j, es0.length - i = j + 1 := ⟨es0.length - i - 1, by omega⟩
    have hj1 : es0.length - 1 - i = j := by omega
    have hj2 : es0.length - (i + 1) = j := by omega
    have hjl : j < es0.length := by omega
    rw [hj] at h
    obtain ⟨rfl, hk⟩ := h
    obtain ⟨h1, h2, h3, h4⟩ := mid hu hjl
    have hk1 : ∀ x ∈ kept, T4.lt es0[j].1 x.1 := fun x hx => h2 x (hk.subset hx)
    refine ⟨es0[j], by simp [entW, hi, hj1], List.getElem_mem hjl, ?_, ?_, ?_, ?_⟩
    · show (getE es0[j].1 (es0.take (j + 1) ++ kept)).map (fun v => (es0[j].1, v)) = some es0[j]
      rw [h4, List.append_assoc, getE_low h1, List.singleton_append, getE_hd]; rfl
    · refine ⟨hi, kept, rfl, ?_⟩
      simp only [if_true]
      rw [h4, List.append_assoc, delE_low h1, List.singleton_append, delE_hd, hj2]
      exact ⟨rfl, by rw [h3]; exact List.Sublist.cons _ hk⟩
    · refine ⟨hi, es0[j] :: kept, by simp, ?_⟩
      simp only [if_true]
      rw [hj2]
      exact ⟨by rw [h4, List.append_assoc]; rfl, by rw [h3]; exact hk.cons_cons _⟩
    · rintro m' es' ⟨_, kept', rfl, h'⟩
      simp only [if_true] at h' ⊢
      rw [hj2] at h'
      obtain ⟨rfl, hk'⟩ := h'
      show befE es0[j].1 false (es0.take j ++ kept') = _
      have hno : befE es0[j].1 false kept' = none := by
        cases hx : befE es0[j].1 false kept' with
        | none => rfl
        | some q =>
          have hq := befP es0[j].1 false (es := kept') (List.Pairwise.sublist (hk'.map _) (List.Pairwise.sublist ((List.drop_sublist j es0).map _) hu))
          rw [hx] at hq
          obtain ⟨hm, hok, _⟩ := hq
          have hm2 := hk'.subset hm
          rw [h3] at hm2
          rcases hok with hok | ⟨hf, _⟩
          · rcases List.mem_cons.1 hm2 with hm2 | hm2
            · rw [hm2] at hok; exact absurd hok (lt_irrefl _)
            · exact absurd hok (lt_asymm (h2 q hm2))
          · cases hf
      rw [befE_low h1, hno]
      show (es0.take j).getLast? = _
      by_cases h0 : j = 0
      · subst h0
        have : ¬ i + 1 < es0.length := by omega
        simp [entW, this]
      · have : i + 1 < es0.length := by omega
        rw [List.getLast?_eq_getElem?, List.length_take, Nat.min_eq_left (by omega), List.getElem?_take, if_pos (by omega)]
        simp only [entW, if_true, if_pos this]
        congr 1; omega
theorem at_gone {es : Es} (hu : UpE es) (key : Key) : atX [(1, delE key es)] 1 (some key) = none := by
  show (getE key (delE key es)).map (fun v => (key, v)) = none
  cases hx : getE key (delE key es) with
  | none => rfl
  | some v =>
    have : inE key (delE key es) = true := by unfold inE; rw [hx]; rfl
    obtain ⟨y, hy⟩ := (inE_mem (delE_up hu)).1 this
    exact absurd rfl ((mem_delE hu _).1 hy).2
end Go.Proofs.Ythfagbfllheneaa
set_option linter.unusedVariables false
set_option maxRecDepth 100000
namespace Go.Proofs.Ythfagbfllheneaa
open Go Go.Sx
noncomputable def cardindexlaw06_CursorEmpties.W : Option Addr → Nat → Nat → Bool → Bool → World → (Value → World → Prop) → Prop := fun (keys_A : Option Addr) (keys_n keys_c : Nat) (back second : Bool)
 (w : World) (K : Value → World → Prop) => CallsV Try.prog 53 #[Value.slice keys_A keys_n keys_c] w fun (v : Value) (w' : World) => ∃ (x x_1 : Option Addr) (x_2 : Value) (x_3 : Bool), v = Value.tuple
 #[Value.pointer x, Value.pointer x_1, x_2, Value.bool x_3] ∧ ∀ (g : Nat) (w'_1 : World), Fresh w' g w'_1 (List.map Value.bool (List.replicate 256 false)) 90 → ∃ (l : List Bool), (x_2 = boolsV l ∧
 List.length l = 256) ∧ stOK (Addr.mk g 0 none) 0 (List.map Value.bool l) w'_1 ∧ ∀ (w' : World), w' = setAll (Addr.mk g 0 none) 0 (List.map Value.bool l) w'_1 → bif !x_3 then K (Value.bool
 false) w' else ∃ (J : Value → Value → World → Prop), (∀ (x_4 x_5 : Value) (w : World), J x_4 x_5 w → CallsV Try.prog 34 #[Value.pointer x, Value.int IntKind.i64 (1 : Int)] w fun (v : Value) (w' :
 World) => ∃ (x_6 : Int), v = Value.int IntKind.i64 x_6 ∧ ∃ (fid : Nat) (first captured : Array Value), x_4 = Value.func (Fn.func fid) first captured ∧ bodied Try.prog fid = true ∧ CallsV Try.prog
 fid (List.toArray (Array.toList first ++ ([] ++ Array.toList captured))) w' fun (r : Value) (w' : World) => ∃ (x_7 : Bool), r = Value.bool x_7 ∧ ∃ (I : Int → Int → Bool → World → Prop) (μ : Int → Int →
 Bool → World → Nat), I (0 : Int) (0 : Int) x_7 w' ∧ ∀ (x_8 x_9 : Int) (x_10 : Bool) (w : World), I x_8 x_9 x_10 w → bif x_10 then bif !second then CallsV Try.prog 56 #[Value.pointer x_1] w fun (v :
 Value) (w' : World) => ∃ (x : Int), v = Value.int IntKind.i64 x ∧ bif decide (x < (0 : Int)) then K (Value.bool false) w' else ((0 : Int) ≤ x ∧ x < (↑256 : Int)) ∧ ∃ (x_11 : Bool),
 World.cell? w' (Addr.add (Addr.mk g 0 none) (Int.toNat x * 1)) = some (Value.bool x_11) ∧ bif !x_11 then K (Value.bool false) w' else CallsV Try.prog 67 #[Value.pointer x_1] w' fun
 (v : Value) (w' : World) => ∃ (x : Int), v = Value.int IntKind.i64 x ∧ bif !decide (x = (0 : Int)) then K (Value.bool false) w' else CallsV Try.prog 64 #[Value.pointer x_1] w' fun (v :
 Value) (w' : World) => ∃ (x : Bool), v = Value.bool x ∧ bif x then K (Value.bool false) w' else CallsV Try.prog 67 #[Value.pointer x_1] w' fun (v : Value) (w' : World) => ∃ (x : Int), v =
 Value.int IntKind.i64 x ∧ bif !decide (x = (70 : Int)) then K (Value.bool false) w' else ∃ (fid : Nat) (first captured : Array Value), x_5 = Value.func (Fn.func fid) first captured ∧
 bodied Try.prog fid = true ∧ CallsV Try.prog fid (List.toArray (Array.toList first ++ ([] ++ Array.toList captured))) w' fun (r : Value) (w' : World) => ∃ (x : Bool), r = Value.bool x ∧ I
 (IntKind.wrap IntKind.i64 (x_8 + (1 : Int))) (IntKind.wrap IntKind.i64 (x_9 + (1 : Int))) x w' ∧ μ (IntKind.wrap IntKind.i64 (x_8 + (1 : Int))) (IntKind.wrap IntKind.i64 (x_9 + (1 : Int))) x w' < μ x_8
 x_9 x_10 w else (2 : Int) ≠ (0 : Int) ∧ bif decide (Int.tmod x_9 (2 : Int) = (0 : Int)) then CallsV Try.prog 56 #[Value.pointer x_1] w fun (v : Value) (w' : World) => ∃ (x : Int), v =
 Value.int IntKind.i64 x ∧ bif decide (x < (0 : Int)) then K (Value.bool false) w' else ((0 : Int) ≤ x ∧ x < (↑256 : Int)) ∧ ∃ (x_11 : Bool), World.cell? w' (Addr.add (Addr.mk g 0
 none) (Int.toNat x * 1)) = some (Value.bool x_11) ∧ bif !x_11 then K (Value.bool false) w' else CallsV Try.prog 67 #[Value.pointer x_1] w' fun (v : Value) (w' : World) => ∃ (x :
 Int), v = Value.int IntKind.i64 x ∧ bif !decide (x = (0 : Int)) then K (Value.bool false) w' else CallsV Try.prog 64 #[Value.pointer x_1] w' fun (v : Value) (w' : World) => ∃ (x : Bool),
 v = Value.bool x ∧ bif x then K (Value.bool false) w' else CallsV Try.prog 67 #[Value.pointer x_1] w' fun (v : Value) (w' : World) => ∃ (x : Int), v = Value.int IntKind.i64 x ∧ bif
 !decide (x = (70 : Int)) then K (Value.bool false) w' else ∃ (fid : Nat) (first captured : Array Value), x_5 = Value.func (Fn.func fid) first captured ∧ bodied Try.prog fid = true ∧
 CallsV Try.prog fid (List.toArray (Array.toList first ++ ([] ++ Array.toList captured))) w' fun (r : Value) (w' : World) => ∃ (x : Bool), r = Value.bool x ∧ I (IntKind.wrap IntKind.i64 (x_8 + (1 :
 Int))) (IntKind.wrap IntKind.i64 (x_9 + (1 : Int))) x w' ∧ μ (IntKind.wrap IntKind.i64 (x_8 + (1 : Int))) (IntKind.wrap IntKind.i64 (x_9 + (1 : Int))) x w' < μ x_8 x_9 x_10 w else ∃ (fid : Nat) (first
 captured : Array Value), x_5 = Value.func (Fn.func fid) first captured ∧ bodied Try.prog fid = true ∧ CallsV Try.prog fid (List.toArray (Array.toList first ++ ([] ++ Array.toList captured))) w fun
 (r : Value) (w' : World) => ∃ (x : Bool), r = Value.bool x ∧ I x_8 (IntKind.wrap IntKind.i64 (x_9 + (1 : Int))) x w' ∧ μ x_8 (IntKind.wrap IntKind.i64 (x_9 + (1 : Int))) x w' < μ x_8 x_9 x_10 w else ∃
 (J : Int → World → Prop), (∀ (x_11 : Int) (w : World), J x_11 w → bif decide (x_9 = x_6) then bif decide (x_8 = x_11) then CallsV Try.prog 34 #[Value.pointer x, Value.int
 IntKind.i64 (1 : Int)] w fun (v : Value) (w' : World) => ∃ (x_12 : Int), v = Value.int IntKind.i64 x_12 ∧ bif decide (x_12 = IntKind.wrap IntKind.i64 (x_6 - x_11)) then CallsV Try.prog 35
 #[Value.pointer x] w' fun (v : Value) (w' : World) => ∃ (x : Int), v = Value.int IntKind.i64 x ∧ bif decide (x = (0 : Int)) then CallsV Try.prog 59 #[] w' fun (v : Value) (w' : World) => ∃ (x
 : Bool), v = Value.bool x ∧ K (Value.bool x) w' else K (Value.bool false) w' else K (Value.bool false) w' else K (Value.bool false) w else K (Value.bool false) w) ∧ bif second then
 (2 : Int) ≠ (0 : Int) ∧ J (IntKind.wrap IntKind.i64 (Int.tdiv (IntKind.wrap IntKind.i64 (x_6 + (1 : Int))) (2 : Int))) w else J x_6 w) ∧ bif back then J (Value.func (Fn.func 62) #[Value.pointer x_1]
 #[]) (Value.func (Fn.func 63) #[Value.pointer x_1] #[]) w' else J (Value.func (Fn.func 61) #[Value.pointer x_1] #[]) (Value.func (Fn.func 57) #[Value.pointer x_1] #[]) w'
theorem cardindexlaw06_CursorEmpties.calls (ok : Okay Try.prog) {keys_A : Option Addr} {keys_n : Nat} {keys_c : Nat} {back : Bool} {second : Bool} {w : World} {K : Value → World → Prop} (h : cardindexlaw06_CursorEmpties.W keys_A keys_n keys_c back second w K) : CallsV Try.prog 13 #[.slice keys_A keys_n keys_c, .bool back, .bool second] w K :=
  fnW_calls ok Try.func13 (an := (.named (.named (.seq .auto (.seq .auto (.seq .auto (.seq .auto (.join [(11, .one .val), (12, .one .val)] .auto (.seq .auto (.seq .auto (.seq (.seq .auto (.block (.loop [(14, .one (.int .i64)), (15, .one (.int .i64)), (16, .one .bool)] .auto))) (.seq .auto (.join [(18, .one (.int .i64))] .auto .auto))))))))))))) (args := [.slice keys_A keys_n keys_c, .bool back, .bool second]) (Eq.mp (by kernel_rfl) h)
end Go.Proofs.Ythfagbfllheneaa
set_option linter.unusedVariables false
set_option linter.unusedSimpArgs false
namespace Go.Proofs.Ythfagbfllheneaa
open Go Go.Sx T4
theorem entW_ge {back : Bool} {es : Es} {i : Nat} (h : es.length ≤ i) : entW back es i = none := by
  cases back
  · show es[i]? = none; exact List.getElem?_eq_none h
  · show (if i < es.length then _ else none) = none; rw [if_neg (by omega)]
def Cnt (second : Bool) (i g m : Nat) : Prop := g + m = i ∧ (second = false → m = 0) ∧ (second = true → g = (i + 1) / 2)
abbrev fFst (back : Bool) : Nat := if back = true then 62 else 61
abbrev fNxt (back : Bool) : Nat := if back = true then 63 else 57
section
variable {w u : World} {T C : Nat → Prop} {s g : Nat} {A : Ar} {D : List Tr} {k : Option Key} {es : Es}
theorem firstW (H : Gs w u T C s A D es) (hc : Cur (OC T C) u g s 1 k) (hg : C g) (back : Bool) : CallsV Try.prog (fFst back) #[.pointer (some ⟨g, 0, none⟩)] u fun r u' => r = .bool (entW back es 0).isSome ∧ Gs w u' T C s A D es ∧ Cur (OC T C) u' g s 1 ((entW back es 0).map fun p => p.1) ∧ Fr (fun k => k = g) u u' := by
  cases back
  · exact gRewind H hc hg (aft_first es)
  · refine gLast H hc hg ?_
    show es.getLast? = if 0 < es.length then es[es.length - 1 - 0]? else none
    rw [List.getLast?_eq_getElem?]
    by_cases h : 0 < es.length
    · rw [if_pos h]; rfl
    · rw [if_neg h, List.getElem?_eq_none (by omega)]
theorem nextW (H : Gs w u T C s A D es) {key : Key} (hc : Cur (OC T C) u g s 1 (some key)) (hg : C g) (back : Bool) {x : Option (Key × Key)} (hx : (if back = true then prevX [(1, es)] 1 (some key) else nextX [(1, es)] 1 (some key)) = x) : CallsV Try.prog (fNxt back) #[.pointer (some ⟨g, 0, none⟩)] u fun r u' => r = .bool x.isSome ∧ Gs w u' T C s A D es ∧ Cur (OC T C) u' g s 1 (x.map fun p => p.1) ∧ Fr (fun k => k = g) u u' := by
  cases back
  · exact gNext H hc hg hx
  · exact gPrev H hc hg hx
end
structure EmI (w u : World) (g gt s : Nat) (es0 : Es) (l : List Bool) (back second : Bool) (ii gg : Nat) : Prop where
  ex : ∃ T A D es m, Gs w u T (fun k => k = g ∨ k = gt) s A D es ∧ TabB u gt l ∧ WS back es0 ii m es ∧ Cnt second ii gg m ∧ Cur (OC T fun k => k = g ∨ k = gt) u g s 1 ((entW back es0 ii).map fun p => p.1)
set_option maxRecDepth 10000 in
set_option maxHeartbeats 1000000 in
theorem CursorEmpties_spec {Ω : Nat → Prop} {w : World} {KA : Option Addr} {kc : Nat} {keys : List UInt8} (iK : Imm KB Ω w KA keys) (hkc : keys.length ≤ kc) (back second : Bool) :
    CallsV Try.prog 13 #[.slice KA keys.length kc, .bool back, .bool second] w fun r w' => r = .bool true ∧ Ext w w' := by
  refine cardindexlaw06_CursorEmpties.calls okay ?_
  unfold cardindexlaw06_CursorEmpties.W
  refine (grown_spec iK hkc).mono ?_
  rintro _ w1 ⟨s, g, T, A, D, es0, l, rfl, G, hc, hT, _⟩
  refine ⟨_, _, _, _, rfl, ?_⟩
  intro gt w2 f2
  refine ⟨l, ⟨rfl, hT.len⟩, ?_⟩
  have p := putAll (vs := l.map Value.bool) f2.blk (by rw [List.length_map, List.length_map, List.length_replicate, hT.len])
  refine ⟨p.1, fun w3 hw3 => ?_⟩
  obtain ⟨q1, q2⟩ := p.2 w3 hw3
  have hgl := (hc NoB).lt
  have hgt := f2.ge
  have hne : gt ≠ g := by omega
  have e3 : Ext w1 w3 := f2.ext.trans q2 (fun _ _ h => h) (fun k hk e => by have e : k = gt := e; omega)
  have hgw : w.heap.size ≤ gt := Nat.le_trans G.e.size hgt
  have hzT : ¬ T gt := fun h => by have := G.sto.lt gt h; omega
  have G3 := (G.ext e3).add hgw q1.lt hzT
  have C0 : Cur (OC T fun k => k = g ∨ k = gt) w3 g s 1 none := (hc _).ext e3
  have hu := hT.up
  have hel := hT.len_le
  clear hc G p q2 e3 hzT f2 hgl hgt
  refine brnb (fun h => by cases h) fun _ => ⟨fun x y u => x = .func (.func (fFst back)) #[.pointer (some ⟨g, 0, none⟩)] #[] ∧ y = .func (.func (fNxt back)) #[.pointer (some ⟨g, 0, none⟩)] #[] ∧ u = w3, ?_, br (fun h => by subst h; exact ⟨rfl, rfl, rfl⟩) (fun h => by subst h; exact ⟨rfl, rfl, rfl⟩)⟩
  rintro _ _ u ⟨rfl, rfl, rfl⟩
  refine (gLen G3).mono ?_
  rintro _ u1 ⟨rfl, e1⟩
  refine ⟨_, rfl, fFst back, #[.pointer (some ⟨g, 0, none⟩)], #[], rfl, by cases back <;> kernel_rfl, (firstW (G3.ext e1) (C0.ext e1) (.inl rfl) back).mono ?_⟩
  rintro _ u2 ⟨rfl, G2, C2, f2⟩
  have t2 : TabB u2 gt l := (q1.ext e1).keep f2 hne
  refine ⟨_, rfl, fun x y m u => ∃ ii gg : Nat, x = (gg : Int) ∧ y = (ii : Int) ∧ ii ≤ es0.length ∧ m = (entW back es0 ii).isSome ∧ EmI w u g gt s es0 l back second ii gg, fun _ y _ _ => (es0.length - y).toNat, ⟨0, 0, rfl, rfl, Nat.zero_le _, rfl, ⟨T, A, D, es0, 0, G2, t2, WS.start back es0, ⟨rfl, fun _ => rfl, fun _ => rfl⟩, C2⟩⟩, ?_⟩
  clear t2 C2 G2 f2 C0 G3 q1 e1
  rintro _ _ _ u ⟨ii, gg, rfl, rfl, hile, rfl, ⟨T, A, D, es, m, G, tab, hW, hC, C⟩⟩
  have htm : Int.tmod (ii : Int) 2 = ((ii % 2 : Nat) : Int) := by rw [Int.tmod_eq_emod_of_nonneg (by omega)]; omega
  have hii1 : IntKind.i64.wrap ((ii : Int) + 1) = ((ii + 1 : Nat) : Int) := by rw [wi _ (by omega) (by omega)]; omega
  have hggm := hC.1
  have hgg1 : IntKind.i64.wrap ((gg : Int) + 1) = ((gg + 1 : Nat) : Int) := by rw [wi _ (by omega) (by omega)]; omega
  refine br (fun hm => ?_) (fun hm => ?_)
  · have hlt : ii < es0.length := by
      refine Nat.lt_of_not_le fun h => ?_
      rw [entW_ge h] at hm; cases hm
    obtain ⟨pp, hent, hmem, hat, hdel, hkeep, hnext⟩ := hW.at_ hu hlt
    obtain ⟨b, hb, hlb⟩ := hT.mem hmem
    obtain ⟨pk, v⟩ := pp
    have hb : pk = [b] := hb
    subst hb
    rw [hent] at C
    replace C : Cur (OC T fun k => k = g ∨ k = gt) u g s 1 (some [b]) := C
    have hbl := u8_lt b
    rw [hii1, hgg1]
    refine brnb (fun hs => ?a) (fun hs => ⟨by decide, brd (fun he => ?b) (fun ho => ?c)⟩)
    case c =>
      rw [htm] at ho
      refine ⟨fNxt back, #[.pointer (some ⟨g, 0, none⟩)], #[], rfl, by cases back <;> kernel_rfl, (nextW G C (.inl rfl) back (hnext _ _ hkeep)).mono ?_⟩
      rintro _ u3 ⟨rfl, G3, C3, f3⟩
      refine ⟨_, rfl, ⟨ii + 1, gg, rfl, rfl, by omega, rfl, ⟨T, A, D, es, m + 1, G3, Blk.keep tab f3 hne, hkeep, ⟨by omega, fun h => absurd h (by rw [hs]; decide), fun h => by have := hC.2.2 h; omega⟩, C3⟩⟩, by dsimp only; omega⟩
    all_goals
      have hev : second = true → ii % 2 = 0 := by first | exact fun h => absurd h (by rw [hs]; decide) | exact fun _ => by rw [htm] at he; omega
      have hcnt : Cnt second (ii + 1) (gg + 1) m := ⟨by omega, hC.2.1, fun h => by have h1 := hev h; have h2 := hC.2.2 h; omega⟩
      refine (one_spec G C hat).mono ?_
      rintro _ u3 ⟨rfl, e3⟩
      have G3 := G.ext e3
      have C3 := C.ext e3
      have hget := TabB.get (Blk.ext tab e3) (j := b.toNat) (by rw [hT.len]; exact hbl)
      rw [hlb] at hget
      refine ⟨_, rfl, brd (fun h => absurd h (by omega)) fun _ => ⟨⟨by omega, by omega⟩, _, by rw [Int.toNat_natCast]; exact hget, brnb (fun h => by cases h) fun _ => (gDelete G3 C3 (.inl rfl) hat).mono ?_⟩⟩
      rintro _ u4 ⟨rfl, T4, A4, D4, G4, C4, c4⟩
      obtain ⟨tab4, _⟩ := c4.blk (Blk.ext tab e3) (G3.cT gt (.inr rfl))
      have hgone : atX [(1, delE [b] es)] 1 (some [b]) = none := at_gone G.upE [b]
      refine ⟨_, rfl, brn (fun h => absurd rfl h) fun _ => (cValid G4.sto C4).mono ?_⟩
      rintro _ u5 ⟨rfl, e5⟩
      have hval : (atX (foD D4) 1 (some [b])).isSome = false := by rw [G4.fo, hgone]; rfl
      refine ⟨_, rfl, br (fun h => absurd (show (atX (foD D4) 1 (some [b])).isSome = true from h) (by rw [hval]; decide)) fun _ => (gDelete0 (G4.ext e5) (C4.ext e5) hgone).mono ?_⟩
      rintro _ u6 ⟨rfl, e6⟩
      have e56 := e5.trans' e6
      refine ⟨_, rfl, brn (fun h => absurd rfl h) fun _ => ⟨fNxt back, #[.pointer (some ⟨g, 0, none⟩)], #[], rfl, by cases back <;> kernel_rfl, (nextW (G4.ext e56) (C4.ext e56) (.inl rfl) back (hnext _ _ hdel)).mono ?_⟩⟩
      rintro _ u7 ⟨rfl, G7, C7, f7⟩
      exact ⟨_, rfl, ⟨ii + 1, gg + 1, rfl, rfl, by omega, rfl, ⟨T4, A4, D4, _, m, G7, Blk.keep (Blk.ext tab4 e56) f7 hne, hdel, hcnt, C7⟩⟩, by dsimp only; omega⟩
  · have hin : ii = es0.length := by
      refine Nat.le_antisymm hile (Nat.le_of_not_lt fun h => ?_)
      obtain ⟨pp, hent, _⟩ := hW.at_ hu h
      rw [hent] at hm; cases hm
    subst hin
    have hlen := hW.fin
    have hn1 : IntKind.i64.wrap (((es0.length : Nat) : Int) + 1) = ((es0.length + 1 : Nat) : Int) := hii1
    refine ⟨fun x u' => x = (gg : Int) ∧ u' = u, ?_, br (fun hs => ⟨by decide, ?_, rfl⟩) fun hs => ⟨?_, rfl⟩⟩
    · rintro _ _ ⟨rfl, rfl⟩
      refine brd (fun _ => brd (fun _ => (gLen G).mono ?_) fun h => absurd rfl h) fun h => absurd rfl h
      rintro _ u1 ⟨rfl, e1⟩
      have hw : IntKind.i64.wrap (((es0.length : Nat) : Int) - (gg : Int)) = ((es.length : Nat) : Int) := by rw [wi _ (by omega) (by omega)]; omega
      refine ⟨_, rfl, ?_⟩
      rw [hw]
      refine brd (fun _ => (sCheck (G.ext e1).sto).mono ?_) fun h => absurd rfl h
      rintro _ u2 ⟨rfl, e2⟩
      refine ⟨_, rfl, brd (fun _ => (awake6_spec u2).mono ?_) fun h => absurd rfl h⟩
      rintro _ u3 ⟨rfl, e3⟩
      exact ⟨_, rfl, rfl, ((G.e.trans' e1).trans' e2).trans' e3⟩
    · have h2 := hC.2.2 hs
      rw [hn1, Int.tdiv_eq_ediv_of_nonneg (by omega), wi _ (by omega) (by omega)]
      omega
    · have h2 := hC.2.1 hs
      omega
end Go.Proofs.Ythfagbfllheneaa
