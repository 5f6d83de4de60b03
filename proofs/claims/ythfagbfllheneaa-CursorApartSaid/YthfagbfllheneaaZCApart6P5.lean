/- Part 5 of the texts of this claim: the engine, contracts, plain laws. -/
import Derived.Test.YthfagbfllheneaaZCApart6P4
import Derived.Test.YthfagbfllheneaaZCApart6P2
import Derived.Lib.Bytealg
import Derived.Lib.BytesEntry
import Derived.Laws.Externs
import Derived.Test.YthfagbfllheneaaZCApart6P3
set_option linter.unusedVariables false
set_option linter.unusedSimpArgs false
namespace Go.Proofs.Ythfagbfllheneaa
open Go Go.Sx T4
theorem slB : SlT Try.prog 28 5 1 1 [.int .u8 0] := ⟨by kernel_rfl, ⟨Try.t5, by kernel_rfl, by kernel_rfl, by kernel_rfl, .int .u8 0, by kernel_rfl, by kernel_rfl⟩, rfl, by decide⟩
theorem slI : SlT Try.prog 37 3 1 8 [.int .i64 0] := ⟨by kernel_rfl, ⟨Try.t3, by kernel_rfl, by kernel_rfl, by kernel_rfl, .int .i64 0, by kernel_rfl, by kernel_rfl⟩, rfl, by decide⟩
theorem slS : SlT Try.prog 155 28 1 24 [.slice none 0 0] := ⟨by kernel_rfl, ⟨Try.t28, by kernel_rfl, by kernel_rfl, by kernel_rfl, .slice none 0 0, by kernel_rfl, by kernel_rfl⟩, rfl, by decide⟩
theorem slP : SlT Try.prog 146 150 1 8 [.pointer none] := ⟨by kernel_rfl, ⟨Try.t150, by kernel_rfl, by kernel_rfl, by kernel_rfl, .pointer none, by kernel_rfl, by kernel_rfl⟩, rfl, by decide⟩
theorem oneB : One KB := ⟨rfl, fun h v hv => by cases h; simp at hv; subst hv; rfl⟩
theorem oneBs : One KBs := ⟨rfl, fun h v hv => by obtain ⟨A, c, rfl, _⟩ := h; simp at hv; subst hv; rfl⟩
def KN : Kd Nat := ⟨1, fun _ _ a cs => cs = [.int .i64 (a : Int)], fun h => by simp [h], fun h _ => h⟩
theorem oneN : One KN := ⟨rfl, fun h v hv => by cases h; simp at hv; subst hv; rfl⟩

theorem CloneB_spec {α : Type} {K : Kd α} (hK : One K) {Ω : Nat → Prop} {w : World} {A : Option Addr} {c : Nat} {l : List α} (h : Imm K Ω w A l) (hl : l.length ≤ 2097152) :
    CallsV Try.prog 114 #[.slice A l.length c] w fun r w' => ∃ A' c', r = .slice A' l.length c' ∧ OwnK (Kd.out Ω K) w' A' c' l ∧ Ext w w' ∧ New w A' ∧ (A = none → A' = none) := by
  refine slices_Clone_byte_byte.calls okay ?_
  unfold slices_Clone_byte_byte.W
  refine br (fun hn => ?_) (fun hn => ?_)
  · have hA : A = none := by cases A <;> simp_all
    have : l = [] := by
      cases l with
      | nil => rfl
      | cons v l => obtain ⟨ad, h, _⟩ := h 0 v rfl; rw [hA] at h; cases h
    subst this
    exact ⟨none, 0, rfl, OwnK.nil _ _, .refl _ _, New.none _, fun _ => rfl⟩
  · intro g w1 f
    have e := f.ext
    obtain ⟨rfl, rfl⟩ := f
    have ho : OwnK (Kd.out Ω K) (w.alloc (.cells (([] : List Value).toArray) 5)) (some ⟨w.heap.size, 0, none⟩) 0 [] := ownK_lit (K := Kd.out Ω K) (l := []) (by simp) (by simp [maxLen]) (fun i a h => by simp at h)
    obtain ⟨A', c', w', hr, ho', g'⟩ := ho.append (by rw [(hK.out Ω).sz]; exact slB) (ty := 28) (cb := c) (h.outs.toOwn (hK.out Ω).pos e (New.self w 0 none)) (fun a cs h => hK.one h) (by simp only [maxLen, List.length_nil]; omega) (by simp only [List.length_nil]; omega)
    refine ⟨_, _, _, _, hr, A', c', by simp, by simpa using ho', g'.ext e (New.self w 0 none), g'.new e (New.self w 0 none), fun hA => ?_⟩
    rw [hA] at hn; cases hn

theorem CloneS_spec {α : Type} {K : Kd α} (hK : One K) {Ω : Nat → Prop} {w : World} {A : Option Addr} {c : Nat} {l : List α} (h : Imm K Ω w A l) (hl : l.length ≤ 2097152) :
    CallsV Try.prog 128 #[.slice A l.length c] w fun r w' => ∃ A' c', r = .slice A' l.length c' ∧ OwnK (Kd.out Ω K) w' A' c' l ∧ Ext w w' ∧ New w A' ∧ (A = none → A' = none) := by
  refine slices_Clone_byte_byte_2.calls okay ?_
  unfold slices_Clone_byte_byte_2.W
  refine br (fun hn => ?_) (fun hn => ?_)
  · have hA : A = none := by cases A <;> simp_all
    have : l = [] := by
      cases l with
      | nil => rfl
      | cons v l => obtain ⟨ad, h, _⟩ := h 0 v rfl; rw [hA] at h; cases h
    subst this
    exact ⟨none, 0, rfl, OwnK.nil _ _, .refl _ _, New.none _, fun _ => rfl⟩
  · intro g w1 f
    have e := f.ext
    obtain ⟨rfl, rfl⟩ := f
    have ho : OwnK (Kd.out Ω K) (w.alloc (.cells (([] : List Value).toArray) 28)) (some ⟨w.heap.size, 0, none⟩) 0 [] := ownK_lit (K := Kd.out Ω K) (l := []) (by simp) (by simp [maxLen]) (fun i a h => by simp at h)
    obtain ⟨A', c', w', hr, ho', g'⟩ := ho.append (by rw [(hK.out Ω).sz]; exact slS) (ty := 155) (cb := c) (h.outs.toOwn (hK.out Ω).pos e (New.self w 0 none)) (fun a cs h => hK.one h) (by simp only [maxLen, List.length_nil]; omega) (by simp only [List.length_nil]; omega)
    refine ⟨_, _, _, _, hr, A', c', by simp, by simpa using ho', g'.ext e (New.self w 0 none), g'.new e (New.self w 0 none), fun hA => ?_⟩
    rw [hA] at hn; cases hn

theorem CloneI_spec {α : Type} {K : Kd α} (hK : One K) {Ω : Nat → Prop} {w : World} {A : Option Addr} {c : Nat} {l : List α} (h : Imm K Ω w A l) (hl : l.length ≤ 2097152) :
    CallsV Try.prog 72 #[.slice A l.length c] w fun r w' => ∃ A' c', r = .slice A' l.length c' ∧ OwnK (Kd.out Ω K) w' A' c' l ∧ Ext w w' ∧ New w A' ∧ (A = none → A' = none) := by
  refine slices_Clone_int_int.calls okay ?_
  unfold slices_Clone_int_int.W
  refine br (fun hn => ?_) (fun hn => ?_)
  · have hA : A = none := by cases A <;> simp_all
    have : l = [] := by
      cases l with
      | nil => rfl
      | cons v l => obtain ⟨ad, h, _⟩ := h 0 v rfl; rw [hA] at h; cases h
    subst this
    exact ⟨none, 0, rfl, OwnK.nil _ _, .refl _ _, New.none _, fun _ => rfl⟩
  · intro g w1 f
    have e := f.ext
    obtain ⟨rfl, rfl⟩ := f
    have ho : OwnK (Kd.out Ω K) (w.alloc (.cells (([] : List Value).toArray) 3)) (some ⟨w.heap.size, 0, none⟩) 0 [] := ownK_lit (K := Kd.out Ω K) (l := []) (by simp) (by simp [maxLen]) (fun i a h => by simp at h)
    obtain ⟨A', c', w', hr, ho', g'⟩ := ho.append (by rw [(hK.out Ω).sz]; exact slI) (ty := 37) (cb := c) (h.outs.toOwn (hK.out Ω).pos e (New.self w 0 none)) (fun a cs h => hK.one h) (by simp only [maxLen, List.length_nil]; omega) (by simp only [List.length_nil]; omega)
    refine ⟨_, _, _, _, hr, A', c', by simp, by simpa using ho', g'.ext e (New.self w 0 none), g'.new e (New.self w 0 none), fun hA => ?_⟩
    rw [hA] at hn; cases hn

theorem CloneP_spec {α : Type} {K : Kd α} (hK : One K) {Ω : Nat → Prop} {w : World} {A : Option Addr} {c : Nat} {l : List α} (h : Imm K Ω w A l) (hl : l.length ≤ 2097152) :
    CallsV Try.prog 105 #[.slice A l.length c] w fun r w' => ∃ A' c', r = .slice A' l.length c' ∧ OwnK (Kd.out Ω K) w' A' c' l ∧ Ext w w' ∧ New w A' ∧ (A = none → A' = none) := by
  refine slices_Clone_tree_node_tree_node.calls okay ?_
  unfold slices_Clone_tree_node_tree_node.W
  refine br (fun hn => ?_) (fun hn => ?_)
  · have hA : A = none := by cases A <;> simp_all
    have : l = [] := by
      cases l with
      | nil => rfl
      | cons v l => obtain ⟨ad, h, _⟩ := h 0 v rfl; rw [hA] at h; cases h
    subst this
    exact ⟨none, 0, rfl, OwnK.nil _ _, .refl _ _, New.none _, fun _ => rfl⟩
  · intro g w1 f
    have e := f.ext
    obtain ⟨rfl, rfl⟩ := f
    have ho : OwnK (Kd.out Ω K) (w.alloc (.cells (([] : List Value).toArray) 150)) (some ⟨w.heap.size, 0, none⟩) 0 [] := ownK_lit (K := Kd.out Ω K) (l := []) (by simp) (by simp [maxLen]) (fun i a h => by simp at h)
    obtain ⟨A', c', w', hr, ho', g'⟩ := ho.append (by rw [(hK.out Ω).sz]; exact slP) (ty := 146) (cb := c) (h.outs.toOwn (hK.out Ω).pos e (New.self w 0 none)) (fun a cs h => hK.one h) (by simp only [maxLen, List.length_nil]; omega) (by simp only [List.length_nil]; omega)
    refine ⟨_, _, _, _, hr, A', c', by simp, by simpa using ho', g'.ext e (New.self w 0 none), g'.new e (New.self w 0 none), fun hA => ?_⟩
    rw [hA] at hn; cases hn

theorem overlapsS {w : World} {vb sb so c : Nat} {v : Value} {n : Nat} {cur : Array Value} {e : TypeId} {fr : Nat × Nat} (hv : Blk w vb [v]) (hs : w.heap[sb]? = some (.cells cur e fr)) (hne : vb ≠ sb) (hc : cur.size ≠ 0) :
    RunsTo Try.prog (callFunc 136 #[.slice (some ⟨vb, 0, none⟩) 1 1, .slice (some ⟨sb, so, none⟩) n c]) w (.value (.bool false)) w := by
  obtain ⟨e', hv⟩ := hv
  unfold RunsTo
  rw [run_callFunc_extern Try.func136 (by kernel_rfl) (by kernel_rfl) (by kernel_rfl) (e := Extern.SlicesOverlaps.overlaps #[155, 155] #[4]) (by kernel_rfl)]
  obtain ⟨i, hi, hsz, _, _⟩ := slS.hi
  rw [Lib.run_overlaps_apart (P := Try.prog) w 155 4 28 (und_underlying slS.ht) i.size (fun w => run_size hi w) ⟨vb, 0, none⟩ ⟨sb, so, none⟩ 1 1 n c hne e' e 1 cur.size (by simp [World.shape?, hv]) (by simp [World.shape?, hs]) hc (by simp [World.frozen?, hv]) (by simp [World.frozen?, hv])]
  rfl
theorem insertS {w : World} {A : Option Addr} {n c : Nat} {xs : List Value} (h : Own w 1 A n c xs) (h1 : ∀ v ∈ xs, v.oneCell' = true) {i : Nat} (hi : i ≤ n) {vb : Nat} {v : Value} (hv : Blk w vb [v]) (hv1 : v.oneCell' = true) (hne : ¬ ownB A vb) (hn : n ≤ 2097152) :
    CallsV Try.prog 129 #[.slice A n c, .int .i64 (i : Int), .slice (some ⟨vb, 0, none⟩) 1 1] w fun r w' => ∃ A' c', r = .slice A' (n + 1) c' ∧ Own w' 1 A' (n + 1) c' (xs.take i ++ v :: xs.drop i) ∧ Grew A A' w w' := by
  have hxl : xs.length = n := by simpa using h.1
  have cV : ∀ {u : World} {S : Nat → Prop}, Fr S w u → ¬ S vb → Cells u (some ⟨vb, 0, none⟩) [v] := fun hf hn j x hj => by
    have hb := hv.keep hf hn
    exact ⟨_, rfl, hb.cell (by simpa using hj)⟩
  have one1 : ∀ x ∈ [v], x.oneCell' = true := fun x hx => by simp at hx; subst hx; exact hv1
  refine slices_Insert_byte_byte.calls okay ?_
  unfold slices_Insert_byte_byte.W
  refine ⟨⟨by omega, by omega⟩, brd (fun h => by omega) fun _ => brd (fun hin => ?_) fun hin => brd (fun hcap => ?_) fun hcap => ?_⟩
  · obtain ⟨A', c', w', hr, ho, hf, hb, _⟩ := append_own (P := Try.prog) slS (ty := 155) (t2 := 155) ⟨_, slS.ht, fun _ h => by cases h⟩ h (Src.cells (m := 1) (c := 1) (by simp) (cV (.refl NoB w) (fun h => h)) one1) (by simp only [maxLen]; omega) (by omega)
    refine ⟨_, _, _, _, hr, A', c', rfl, ?_, hf, hb⟩
    have : i = n := by omega
    subst this
    rw [← hxl, List.take_length, List.drop_length]
    rw [hxl]; exact ho
  · rw [wi _ (by omega) (by omega)] at hcap
    have hci : i ≤ c := by have := h.le; omega
    refine ⟨⟨by omega, by omega⟩, ?_⟩
    obtain ⟨A', c', w1, hr, ho, e1, n1, hA'⟩ := append_zeros (P := Try.prog) slS (ki := .i64) (by kernel_rfl) (ty := 155) (t2 := 3) (h.take hi) (m := n + 1 - i) (by omega) (by simp only [maxLen]; omega) (by omega) (by omega)
    rw [Nat.mul_one] at ho
    refine ⟨A', i + (n + 1 - i), c', w1, ?_, ?_⟩
    · rw [cutAt_zero, Int.toNat_natCast, Nat.sub_zero, Nat.sub_zero, show IntKind.i64.wrap (IntKind.i64.wrap ((n : Int) + ((1 : Nat) : Int)) - (i : Int)) = ((n + 1 - i : Nat) : Int) by rw [wi ((n : Int) + ((1 : Nat) : Int)) (by omega) (by omega), wi _ (by omega) (by omega)]; omega]
      exact hr
    obtain ⟨w2, hr2, ho2, f2⟩ := copy_at (P := Try.prog) slS (ty := 3) (t2 := 155) ho (k := i) (c2 := c' - i) (cb := 1) (m := 1) (cV e1 (fun h => h)) (by omega) (by simp; omega) one1
    refine ⟨⟨by omega, by omega⟩, _, w2, by rw [Int.toNat_natCast]; exact hr2, ?_⟩
    rw [wi _ (by omega) (by omega)]
    have hcs : Cells w2.drew (cutAt A c i 1) (xs.drop i) := ((h.cellsAt i).keep e1 (fun _ _ h => h)).keep (f2.ext (Fr.drew _ w2)) (fun k hk hk' => by
      have hlt : k < w.heap.size := h.lt k (by
        obtain ⟨ad, hA, hb⟩ := hk
        unfold cutAt at hA
        split at hA
        · exact ⟨ad, hA, hb⟩
        · cases A with
          | none => cases hA
          | some a => simp at hA; subst hA; exact ⟨a, rfl, by rw [← hb, add_block]⟩)
      have := n1 k hk'
      omega)
    obtain ⟨w3, hr3, ho3, f3⟩ := copy_at (P := Try.prog) slS (ty := 3) (t2 := 155) (ho2.keep (Fr.drew NoB w2) (fun _ _ h => h)) (k := i + 1) (c2 := c' - (i + 1)) (cb := c - i) (m := n - i) hcs (by omega) (by simp; omega) (fun x hx => h1 x (List.mem_of_mem_drop hx))
    refine ⟨⟨by omega, by omega⟩, ⟨by omega, by omega⟩, ((List.drop i xs).length : Int), w3, ?_, A', c', by rw [show i + (n + 1 - i) = n + 1 by omega], ?_, ?_⟩
    · rw [Int.toNat_natCast, show ((1 : Nat) : Int) = 1 from rfl, show ((i : Int) + 1).toNat = i + 1 by omega]
      exact hr3
    · rw [show i + (n + 1 - i) = n + 1 by omega] at ho3
      have e : xs.take i ++ v :: xs.drop i = List.take (i + 1) (List.take i (List.take i xs ++ List.replicate (n + 1 - i) (.slice none 0 0)) ++ [v] ++ List.drop (i + [v].length) (List.take i xs ++ List.replicate (n + 1 - i) (.slice none 0 0))) ++ List.drop i xs ++ List.drop (i + 1 + (List.drop i xs).length) (List.take i (List.take i xs ++ List.replicate (n + 1 - i) (.slice none 0 0)) ++ [v] ++ List.drop (i + [v].length) (List.take i xs ++ List.replicate (n + 1 - i) (.slice none 0 0))) := by
        exact (ins_grow xs _ v i (by omega) (by rw [List.length_replicate]; omega)).symm
      rw [e]; exact ho3
    · have e2 : Ext w w2 := ⟨f2.os.trans e1.os, f2.tape.trans e1.tape, f2.output.trans e1.output, Nat.le_trans e1.size f2.size, fun k hk _ => (f2.block k (Nat.lt_of_lt_of_le hk e1.size) (fun hb => by have := n1 k hb; omega)).trans (e1.block k hk (fun h => h))⟩
      have e3 : Ext w w2.drew := e2.ext (Fr.drew NoB w2)
      refine ⟨⟨f3.os.trans e3.os, f3.tape.trans e3.tape, f3.output.trans e3.output, Nat.le_trans e3.size f3.size, fun k hk _ => (f3.block k (Nat.lt_of_lt_of_le hk e3.size) (fun hb => by have := n1 k hb; omega)).trans (e3.block k hk (fun h => h))⟩, fun k hk => .inr (n1 k hk)⟩
  · rw [wi _ (by omega) (by omega)] at hcap
    rw [wi _ (by omega) (by omega), wi _ (by omega) (by omega)]
    have hle := h.le
    have e1 : ((n : Int) + 1).toNat = n + 1 := by omega
    have e2 : ((i : Int) + 1).toNat = i + 1 := by omega
    rw [show ((1 : Nat) : Int) = 1 from rfl, cutAt_zero, e1, e2, Int.toNat_natCast, Nat.sub_zero, Nat.sub_zero]
    obtain ⟨zs, hz, hm⟩ := h.more (n' := n + 1) (by omega) (by omega)
    obtain ⟨z, rfl⟩ : ∃ z, zs = [z] := by
      match zs, hz with
      | [z], _ => exact ⟨z, rfl⟩
      | [], hz => simp at hz <;> omega
      | _ :: _ :: _, hz => simp at hz <;> omega
    rcases hm.2.2 with ⟨_, h0, _⟩ | ⟨g, cur, e, lo, hi', rfl, hg, hnc, hcs, ht, hfz⟩
    · omega
    have hgv : vb ≠ g := fun e => hne (by rw [ownB_some]; exact e.symm)
    have hcut : cutAt (some ⟨g, 0, none⟩) c (i + 1) 1 = some ⟨g, i + 1, none⟩ := by
      unfold cutAt; rw [if_neg (by omega)]; simp [add_new]
    refine ⟨⟨by omega, by omega⟩, ⟨by omega, by omega⟩, false, w, by rw [hcut]; exact overlapsS hv hg hgv (by omega), ?_⟩
    refine brnb (fun _ => ?_) (fun h => by cases h)
    refine ⟨⟨by omega, by omega⟩, ⟨by omega, by omega⟩, ?_⟩
    obtain ⟨w1, hr1, ho1, f1⟩ := copy_at (P := Try.prog) slS (ty := 3) (t2 := 155) (hm.keep (Fr.drew NoB w) (fun _ _ h => h)) (k := i + 1) (c2 := c - (i + 1)) (cb := c - i) (m := n + 1 - i) (ys := xs.drop i) ((h.cellsAt i).keep (Fr.drew NoB w) (fun _ _ h => h)) (by omega) (by simp; omega) (fun x hx => h1 x (List.mem_of_mem_drop hx))
    refine ⟨_, w1, hr1, ⟨by omega, by omega⟩, ?_⟩
    obtain ⟨w2, hr2, ho2, f2⟩ := copy_at (P := Try.prog) slS (ty := 3) (t2 := 155) ho1 (k := i) (c2 := c - i) (cb := 1) (m := 1) (cV ((Fr.drew (ownB (some ⟨g, 0, none⟩)) w).trans f1 (fun _ _ h => h) (fun _ _ h => h)) hne) (by omega) (by simp; omega) one1
    refine ⟨_, w2, hr2, _, c, rfl, ?_, ⟨(Fr.drew (ownB (some ⟨g, 0, none⟩)) w).trans (f1.trans f2 (fun _ _ h => h) (fun _ _ h => h)) (fun _ _ h => h) (fun _ _ h => h), fun k hk => .inl hk⟩⟩
    have e : xs.take i ++ v :: xs.drop i = List.take i (List.take (i + 1) (xs ++ [z]) ++ List.drop i xs ++ List.drop (i + 1 + (List.drop i xs).length) (xs ++ [z])) ++ [v] ++ List.drop (i + [v].length) (List.take (i + 1) (xs ++ [z]) ++ List.drop i xs ++ List.drop (i + 1 + (List.drop i xs).length) (xs ++ [z])) := by
      exact (ins_shift xs z v i (by omega)).symm
    rw [e]; exact ho2
theorem DeleteS_spec {α : Type} {K : Kd α} (hK : One K) {w : World} {A : Option Addr} {c : Nat} {l : List α} (h : OwnK K w A c l) {i : Nat} (hi : i < l.length) (hn : l.length ≤ 2097152) :
    CallsV Try.prog 134 #[.slice A l.length c, .int .i64 (i : Int), .int .i64 ((i : Int) + 1)] w fun r w' => r = .slice A (l.length - 1) c ∧ OwnK K w' A c (l.eraseIdx i) ∧ Fr (ownB A) w w' := by
  obtain ⟨xs, ho, hf⟩ := (ownK1 hK).1 h
  have hxl : xs.length = l.length := hf.len
  have hle := ho.le
  refine slices_Delete_byte_byte.calls okay ?_
  unfold slices_Delete_byte_byte.W
  have e1 : ((i : Int) + 1).toNat = i + 1 := by omega
  rw [e1, Int.toNat_natCast, Int.toNat_natCast, cutAt_zero, Nat.sub_zero, Nat.sub_zero]
  refine ⟨⟨by omega, by omega⟩, ⟨by omega, by omega⟩, ⟨by omega, by omega⟩, brd (fun h => by omega) fun _ => ⟨⟨by omega, by omega⟩, ⟨by omega, by omega⟩, ?_⟩⟩
  obtain ⟨w1, hr1, ho1, f1⟩ := append_room (P := Try.prog) slS ⟨_, slS.ht, fun _ h => by cases h⟩ (t2 := 155) (ty := 155) (ho.keep (Fr.drew NoB w) (fun _ _ h => h)) (k := i) (cb := c - (i + 1)) (ys := xs.drop (i + 1)) ((ho.cellsAt (i + 1)).keep (Fr.drew NoB w) (fun _ _ h => h)) (by simp; omega) (fun x hx => hf.ones hK x (List.mem_of_mem_drop hx))
  rw [List.length_drop, hxl] at hr1
  have hl2 : i + (l.length - (i + 1)) = l.length - 1 := by omega
  rw [hl2] at hr1
  refine ⟨_, _, _, w1, hr1, ⟨by omega, by omega⟩, ⟨by omega, by omega⟩, ?_⟩
  rw [Int.toNat_natCast]
  obtain ⟨w2, hr2, ho2, f2⟩ := clear_at (P := Try.prog) slS rfl (ty := 0) ho1 (k := l.length - 1) (by omega) (c - (l.length - 1))
  refine ⟨w2, hr2, rfl, (ownK1 hK).2 ⟨xs.take i ++ xs.drop (i + 1), ?_, ?_⟩, ?_⟩
  · rw [List.length_eraseIdx_of_lt hi]
    have e : List.take (l.length - 1) (List.take i xs ++ List.drop (i + 1) xs ++ List.drop (i + (List.drop (i + 1) xs).length) xs) = xs.take i ++ xs.drop (i + 1) := by
      rw [List.take_append_of_le_length (by simp; omega), List.take_of_length_le (by simp; omega)]
    rw [← e]; exact ho2
  · rw [eraseIdx_eq]
    have st : Step (ownB A) w (ownB A) w2 := ((Fr.drew (ownB A) w).trans (f1.trans f2 (fun _ _ h => h) (fun _ _ h => h)) (fun _ _ h => h) (fun _ _ h => h)).step (fun _ _ h => h) (fun _ _ h => h)
    exact ((hf.step st).take i).append ((hf.step st).drop (i + 1))
  · exact (Fr.drew (ownB A) w).trans (f1.trans f2 (fun _ _ h => h) (fun _ _ h => h)) (fun _ _ h => h) (fun _ _ h => h)
theorem GrowS_spec (w : World) (n : Nat) (hn : n ≤ 2097152) : CallsV Try.prog 145 #[.slice none 0 0, .int .i64 (n : Int)] w fun r w' => ∃ A' c', r = .slice A' 0 c' ∧ Own w' 1 A' 0 c' [] ∧ Ext w w' ∧ New w A' := by
  refine slices_Grow_byte_byte.calls okay ?_
  unfold slices_Grow_byte_byte.W
  refine ⟨fun u => u = w, ?_, brd (fun h => by omega) fun _ => rfl⟩
  rintro _ rfl
  refine brd (fun h => ?_) (fun h => ?_)
  · have e1 : IntKind.i64.wrap ((n : Int) - IntKind.i64.wrap (((0 : Nat) : Int) - ((0 : Nat) : Int))) = (n : Int) := by rw [show IntKind.i64.wrap (((0 : Nat) : Int) - ((0 : Nat) : Int)) = 0 from wi _ (by omega) (by omega), wi _ (by omega) (by omega)]; omega
    rw [e1] at h ⊢
    obtain ⟨A', c', w1, hr, ho, e1, n1, hA'⟩ := append_zeros (P := Try.prog) slS (ki := .i64) (by kernel_rfl) (ty := 155) (t2 := 3) (Own.nil _ 1) (m := n) (by omega) (by simp only [maxLen]; omega) (by omega) (by omega)
    refine ⟨⟨by omega, by omega⟩, _, _, _, _, hr, ⟨by omega, by omega⟩, A', c', by rw [cutAt_zero]; rfl, by simpa using ho.take (Nat.zero_le _), e1, n1⟩
  · exact ⟨none, 0, rfl, Own.nil _ _, .refl _ _, New.none _⟩
theorem ConcatS_spec {α : Type} {K : Kd α} (hK : One K) {Ω : Nat → Prop} {w : World} {A : Option Addr} {c : Nat} {ll : List (List α)} (h : Imm (Kd.slice K hK.pos) Ω w A ll) (hn : ll.flatten.length ≤ 2097152) (hll : ll.length ≤ 1000) :
    CallsV Try.prog 140 #[.slice A ll.length c] w fun r w' => ∃ A' c', r = .slice A' ll.flatten.length c' ∧ OwnK (Kd.out Ω K) w' A' c' ll.flatten ∧ Ext w w' ∧ New w A' := by
  have hsum : ∀ k, (ll.take k).flatten.length ≤ ll.flatten.length := fun k => by
    conv => rhs; rw [← List.take_append_drop k ll]
    rw [List.flatten_append, List.length_append]; omega
  have hstep : ∀ k (hk : k < ll.length), (ll.take (k + 1)).flatten = (ll.take k).flatten ++ ll[k] := fun k hk => by
    rw [List.take_succ_eq_append_getElem hk, List.flatten_append, List.flatten_singleton]
  obtain ⟨w0, hw0⟩ : ∃ w0, w = w0 := ⟨_, rfl⟩
  subst w
  refine slices_Concat_byte_byte.calls okay ?_
  unfold slices_Concat_byte_byte.W
  refine ⟨fun x i u => u = w0 ∧ ∃ k : Nat, i = (k : Int) ∧ k ≤ ll.length ∧ x = ((ll.take k).flatten.length : Int), fun _ i _ => ll.length - i.toNat, ⟨rfl, 0, rfl, Nat.zero_le _, by simp⟩, ?_⟩
  rintro _ _ u0 ⟨hu0, k, rfl, hk, rfl⟩
  subst u0
  refine brd (fun hlt => ?_) (fun hge => ?_)
  · have hk' : k < ll.length := by omega
    obtain ⟨ad, hA, B, cb, hcb, hB, hcell⟩ := h.item (x := (k : Int)) (by omega) (by omega)
    rw [Int.toNat_natCast] at hcb hB hcell
    have hg : ll.getD k [] = ll[k] := by simp [List.getD, hk']
    rw [hg] at hcb hB hcell
    have h1 := hsum (k + 1)
    rw [hstep k hk', List.length_append] at h1
    refine ⟨ad, hA, ⟨by omega, by omega⟩, _, _, _, hcell _ (.refl _ _), ?_⟩
    rw [wi _ (by omega) (by omega), wi _ (by omega) (by omega)]
    refine brd (fun h => by omega) fun _ => ⟨⟨rfl, k + 1, by omega, by omega, ?_⟩, by dsimp only; omega⟩
    rw [hstep k hk', List.length_append]; omega
  · have hk' : k = ll.length := by omega
    subst hk'
    rw [List.take_length]
    refine (GrowS_spec _ _ hn).mono ?_
    rintro _ w1 ⟨A1, c1, rfl, ho, e1, n1⟩
    refine ⟨_, _, _, rfl, fun A2 n2 c2 i u => ∃ k : Nat, i = (k : Int) ∧ k ≤ ll.length ∧ n2 = (ll.take k).flatten.length ∧ OwnK (Kd.out Ω K) u A2 c2 (ll.take k).flatten ∧ Ext w0 u ∧ New w0 A2, fun _ _ _ i _ => ll.length - i.toNat, ⟨0, rfl, Nat.zero_le _, by simp, ?_, e1, n1⟩, ?_⟩
    · exact (ownK1 (hK.out Ω)).2 ⟨[], by simpa using ho, .nil⟩
    · rintro A2 _ c2 _ u ⟨k, rfl, hk, rfl, hou, eu, nu⟩
      refine brd (fun hlt => ?_) (fun hge => ?_)
      · have hk' : k < ll.length := by omega
        obtain ⟨ad, hA, B, cb, hcb, hB, hcell⟩ := h.item (x := (k : Int)) (by omega) (by omega)
        rw [Int.toNat_natCast] at hcb hB hcell
        have hg : ll.getD k [] = ll[k] := by simp [List.getD, hk']
        rw [hg] at hcb hB hcell
        have h1 := hsum (k + 1)
        rw [hstep k hk', List.length_append] at h1
        refine ⟨ad, hA, ⟨by omega, by omega⟩, _, _, _, hcell _ eu, ?_⟩
        obtain ⟨A3, c3, w3, hr, ho3, g3⟩ := hou.append (by rw [(hK.out Ω).sz]; exact slS) (ty := 155) (cb := cb) (hB.outs.toOwn (hK.out Ω).pos eu nu) (fun a cs h => hK.one h) (by simp only [maxLen]; omega) (by omega)
        rw [wi _ (by omega) (by omega)]
        refine ⟨_, _, _, w3, hr, ⟨k + 1, by omega, by omega, ?_, ?_, g3.ext eu nu, g3.new eu nu⟩, by dsimp only; omega⟩
        · rw [hstep k hk']
        · rw [hstep k hk']; exact ho3
      · have hk' : k = ll.length := by omega
        subst hk'
        rw [List.take_length] at hou ⊢
        exact ⟨A2, c2, rfl, hou, eu, nu⟩

theorem overlapsI {w : World} {vb sb so c : Nat} {v : Value} {n : Nat} {cur : Array Value} {e : TypeId} {fr : Nat × Nat} (hv : Blk w vb [v]) (hs : w.heap[sb]? = some (.cells cur e fr)) (hne : vb ≠ sb) (hc : cur.size ≠ 0) :
    RunsTo Try.prog (callFunc 138 #[.slice (some ⟨vb, 0, none⟩) 1 1, .slice (some ⟨sb, so, none⟩) n c]) w (.value (.bool false)) w := by
  obtain ⟨e', hv⟩ := hv
  unfold RunsTo
  rw [run_callFunc_extern Try.func138 (by kernel_rfl) (by kernel_rfl) (by kernel_rfl) (e := Extern.SlicesOverlaps.overlaps #[37, 37] #[4]) (by kernel_rfl)]
  obtain ⟨i, hi, hsz, _, _⟩ := slI.hi
  rw [Lib.run_overlaps_apart (P := Try.prog) w 37 4 3 (und_underlying slI.ht) i.size (fun w => run_size hi w) ⟨vb, 0, none⟩ ⟨sb, so, none⟩ 1 1 n c hne e' e 1 cur.size (by simp [World.shape?, hv]) (by simp [World.shape?, hs]) hc (by simp [World.frozen?, hv]) (by simp [World.frozen?, hv])]
  rfl
theorem insertI {w : World} {A : Option Addr} {n c : Nat} {xs : List Value} (h : Own w 1 A n c xs) (h1 : ∀ v ∈ xs, v.oneCell' = true) {i : Nat} (hi : i ≤ n) {vb : Nat} {v : Value} (hv : Blk w vb [v]) (hv1 : v.oneCell' = true) (hne : ¬ ownB A vb) (hn : n ≤ 2097152) :
    CallsV Try.prog 131 #[.slice A n c, .int .i64 (i : Int), .slice (some ⟨vb, 0, none⟩) 1 1] w fun r w' => ∃ A' c', r = .slice A' (n + 1) c' ∧ Own w' 1 A' (n + 1) c' (xs.take i ++ v :: xs.drop i) ∧ Grew A A' w w' := by
  have hxl : xs.length = n := by simpa using h.1
  have cV : ∀ {u : World} {S : Nat → Prop}, Fr S w u → ¬ S vb → Cells u (some ⟨vb, 0, none⟩) [v] := fun hf hn j x hj => by
    have hb := hv.keep hf hn
    exact ⟨_, rfl, hb.cell (by simpa using hj)⟩
  have one1 : ∀ x ∈ [v], x.oneCell' = true := fun x hx => by simp at hx; subst hx; exact hv1
  refine slices_Insert_int_int.calls okay ?_
  unfold slices_Insert_int_int.W
  refine ⟨⟨by omega, by omega⟩, brd (fun h => by omega) fun _ => brd (fun hin => ?_) fun hin => brd (fun hcap => ?_) fun hcap => ?_⟩
  · obtain ⟨A', c', w', hr, ho, hf, hb, _⟩ := append_own (P := Try.prog) slI (ty := 37) (t2 := 37) ⟨_, slI.ht, fun _ h => by cases h⟩ h (Src.cells (m := 1) (c := 1) (by simp) (cV (.refl NoB w) (fun h => h)) one1) (by simp only [maxLen]; omega) (by omega)
    refine ⟨_, _, _, _, hr, A', c', rfl, ?_, hf, hb⟩
    have : i = n := by omega
    subst this
    rw [← hxl, List.take_length, List.drop_length]
    rw [hxl]; exact ho
  · rw [wi _ (by omega) (by omega)] at hcap
    have hci : i ≤ c := by have := h.le; omega
    refine ⟨⟨by omega, by omega⟩, ?_⟩
    obtain ⟨A', c', w1, hr, ho, e1, n1, hA'⟩ := append_zeros (P := Try.prog) slI (ki := .i64) (by kernel_rfl) (ty := 37) (t2 := 3) (h.take hi) (m := n + 1 - i) (by omega) (by simp only [maxLen]; omega) (by omega) (by omega)
    rw [Nat.mul_one] at ho
    refine ⟨A', i + (n + 1 - i), c', w1, ?_, ?_⟩
    · rw [cutAt_zero, Int.toNat_natCast, Nat.sub_zero, Nat.sub_zero, show IntKind.i64.wrap (IntKind.i64.wrap ((n : Int) + ((1 : Nat) : Int)) - (i : Int)) = ((n + 1 - i : Nat) : Int) by rw [wi ((n : Int) + ((1 : Nat) : Int)) (by omega) (by omega), wi _ (by omega) (by omega)]; omega]
      exact hr
    obtain ⟨w2, hr2, ho2, f2⟩ := copy_at (P := Try.prog) slI (ty := 3) (t2 := 37) ho (k := i) (c2 := c' - i) (cb := 1) (m := 1) (cV e1 (fun h => h)) (by omega) (by simp; omega) one1
    refine ⟨⟨by omega, by omega⟩, _, w2, by rw [Int.toNat_natCast]; exact hr2, ?_⟩
    rw [wi _ (by omega) (by omega)]
    have hcs : Cells w2.drew (cutAt A c i 1) (xs.drop i) := ((h.cellsAt i).keep e1 (fun _ _ h => h)).keep (f2.ext (Fr.drew _ w2)) (fun k hk hk' => by
      have hlt : k < w.heap.size := h.lt k (by
        obtain ⟨ad, hA, hb⟩ := hk
        unfold cutAt at hA
        split at hA
        · exact ⟨ad, hA, hb⟩
        · cases A with
          | none => cases hA
          | some a => simp at hA; subst hA; exact ⟨a, rfl, by rw [← hb, add_block]⟩)
      have := n1 k hk'
      omega)
    obtain ⟨w3, hr3, ho3, f3⟩ := copy_at (P := Try.prog) slI (ty := 3) (t2 := 37) (ho2.keep (Fr.drew NoB w2) (fun _ _ h => h)) (k := i + 1) (c2 := c' - (i + 1)) (cb := c - i) (m := n - i) hcs (by omega) (by simp; omega) (fun x hx => h1 x (List.mem_of_mem_drop hx))
    refine ⟨⟨by omega, by omega⟩, ⟨by omega, by omega⟩, ((List.drop i xs).length : Int), w3, ?_, A', c', by rw [show i + (n + 1 - i) = n + 1 by omega], ?_, ?_⟩
    · rw [Int.toNat_natCast, show ((1 : Nat) : Int) = 1 from rfl, show ((i : Int) + 1).toNat = i + 1 by omega]
      exact hr3
    · rw [show i + (n + 1 - i) = n + 1 by omega] at ho3
      have e : xs.take i ++ v :: xs.drop i = List.take (i + 1) (List.take i (List.take i xs ++ List.replicate (n + 1 - i) (.int .i64 0)) ++ [v] ++ List.drop (i + [v].length) (List.take i xs ++ List.replicate (n + 1 - i) (.int .i64 0))) ++ List.drop i xs ++ List.drop (i + 1 + (List.drop i xs).length) (List.take i (List.take i xs ++ List.replicate (n + 1 - i) (.int .i64 0)) ++ [v] ++ List.drop (i + [v].length) (List.take i xs ++ List.replicate (n + 1 - i) (.int .i64 0))) := by
        exact (ins_grow xs _ v i (by omega) (by rw [List.length_replicate]; omega)).symm
      rw [e]; exact ho3
    · have e2 : Ext w w2 := ⟨f2.os.trans e1.os, f2.tape.trans e1.tape, f2.output.trans e1.output, Nat.le_trans e1.size f2.size, fun k hk _ => (f2.block k (Nat.lt_of_lt_of_le hk e1.size) (fun hb => by have := n1 k hb; omega)).trans (e1.block k hk (fun h => h))⟩
      have e3 : Ext w w2.drew := e2.ext (Fr.drew NoB w2)
      refine ⟨⟨f3.os.trans e3.os, f3.tape.trans e3.tape, f3.output.trans e3.output, Nat.le_trans e3.size f3.size, fun k hk _ => (f3.block k (Nat.lt_of_lt_of_le hk e3.size) (fun hb => by have := n1 k hb; omega)).trans (e3.block k hk (fun h => h))⟩, fun k hk => .inr (n1 k hk)⟩
  · rw [wi _ (by omega) (by omega)] at hcap
    rw [wi _ (by omega) (by omega), wi _ (by omega) (by omega)]
    have hle := h.le
    have e1 : ((n : Int) + 1).toNat = n + 1 := by omega
    have e2 : ((i : Int) + 1).toNat = i + 1 := by omega
    rw [show ((1 : Nat) : Int) = 1 from rfl, cutAt_zero, e1, e2, Int.toNat_natCast, Nat.sub_zero, Nat.sub_zero]
    obtain ⟨zs, hz, hm⟩ := h.more (n' := n + 1) (by omega) (by omega)
    obtain ⟨z, rfl⟩ : ∃ z, zs = [z] := by
      match zs, hz with
      | [z], _ => exact ⟨z, rfl⟩
      | [], hz => simp at hz <;> omega
      | _ :: _ :: _, hz => simp at hz <;> omega
    rcases hm.2.2 with ⟨_, h0, _⟩ | ⟨g, cur, e, lo, hi', rfl, hg, hnc, hcs, ht, hfz⟩
    · omega
    have hgv : vb ≠ g := fun e => hne (by rw [ownB_some]; exact e.symm)
    have hcut : cutAt (some ⟨g, 0, none⟩) c (i + 1) 1 = some ⟨g, i + 1, none⟩ := by
      unfold cutAt; rw [if_neg (by omega)]; simp [add_new]
    refine ⟨⟨by omega, by omega⟩, ⟨by omega, by omega⟩, false, w, by rw [hcut]; exact overlapsI hv hg hgv (by omega), ?_⟩
    refine brnb (fun _ => ?_) (fun h => by cases h)
    refine ⟨⟨by omega, by omega⟩, ⟨by omega, by omega⟩, ?_⟩
    obtain ⟨w1, hr1, ho1, f1⟩ := copy_at (P := Try.prog) slI (ty := 3) (t2 := 37) (hm.keep (Fr.drew NoB w) (fun _ _ h => h)) (k := i + 1) (c2 := c - (i + 1)) (cb := c - i) (m := n + 1 - i) (ys := xs.drop i) ((h.cellsAt i).keep (Fr.drew NoB w) (fun _ _ h => h)) (by omega) (by simp; omega) (fun x hx => h1 x (List.mem_of_mem_drop hx))
    refine ⟨_, w1, hr1, ⟨by omega, by omega⟩, ?_⟩
    obtain ⟨w2, hr2, ho2, f2⟩ := copy_at (P := Try.prog) slI (ty := 3) (t2 := 37) ho1 (k := i) (c2 := c - i) (cb := 1) (m := 1) (cV ((Fr.drew (ownB (some ⟨g, 0, none⟩)) w).trans f1 (fun _ _ h => h) (fun _ _ h => h)) hne) (by omega) (by simp; omega) one1
    refine ⟨_, w2, hr2, _, c, rfl, ?_, ⟨(Fr.drew (ownB (some ⟨g, 0, none⟩)) w).trans (f1.trans f2 (fun _ _ h => h) (fun _ _ h => h)) (fun _ _ h => h) (fun _ _ h => h), fun k hk => .inl hk⟩⟩
    have e : xs.take i ++ v :: xs.drop i = List.take i (List.take (i + 1) (xs ++ [z]) ++ List.drop i xs ++ List.drop (i + 1 + (List.drop i xs).length) (xs ++ [z])) ++ [v] ++ List.drop (i + [v].length) (List.take (i + 1) (xs ++ [z]) ++ List.drop i xs ++ List.drop (i + 1 + (List.drop i xs).length) (xs ++ [z])) := by
      exact (ins_shift xs z v i (by omega)).symm
    rw [e]; exact ho2
theorem DeleteI_spec {α : Type} {K : Kd α} (hK : One K) {w : World} {A : Option Addr} {c : Nat} {l : List α} (h : OwnK K w A c l) {i : Nat} (hi : i < l.length) (hn : l.length ≤ 2097152) :
    CallsV Try.prog 142 #[.slice A l.length c, .int .i64 (i : Int), .int .i64 ((i : Int) + 1)] w fun r w' => r = .slice A (l.length - 1) c ∧ OwnK K w' A c (l.eraseIdx i) ∧ Fr (ownB A) w w' := by
  obtain ⟨xs, ho, hf⟩ := (ownK1 hK).1 h
  have hxl : xs.length = l.length := hf.len
  have hle := ho.le
  refine slices_Delete_int_int.calls okay ?_
  unfold slices_Delete_int_int.W
  have e1 : ((i : Int) + 1).toNat = i + 1 := by omega
  rw [e1, Int.toNat_natCast, Int.toNat_natCast, cutAt_zero, Nat.sub_zero, Nat.sub_zero]
  refine ⟨⟨by omega, by omega⟩, ⟨by omega, by omega⟩, ⟨by omega, by omega⟩, brd (fun h => by omega) fun _ => ⟨⟨by omega, by omega⟩, ⟨by omega, by omega⟩, ?_⟩⟩
  obtain ⟨w1, hr1, ho1, f1⟩ := append_room (P := Try.prog) slI ⟨_, slI.ht, fun _ h => by cases h⟩ (t2 := 37) (ty := 37) (ho.keep (Fr.drew NoB w) (fun _ _ h => h)) (k := i) (cb := c - (i + 1)) (ys := xs.drop (i + 1)) ((ho.cellsAt (i + 1)).keep (Fr.drew NoB w) (fun _ _ h => h)) (by simp; omega) (fun x hx => hf.ones hK x (List.mem_of_mem_drop hx))
  rw [List.length_drop, hxl] at hr1
  have hl2 : i + (l.length - (i + 1)) = l.length - 1 := by omega
  rw [hl2] at hr1
  refine ⟨_, _, _, w1, hr1, ⟨by omega, by omega⟩, ⟨by omega, by omega⟩, ?_⟩
  rw [Int.toNat_natCast]
  obtain ⟨w2, hr2, ho2, f2⟩ := clear_at (P := Try.prog) slI rfl (ty := 0) ho1 (k := l.length - 1) (by omega) (c - (l.length - 1))
  refine ⟨w2, hr2, rfl, (ownK1 hK).2 ⟨xs.take i ++ xs.drop (i + 1), ?_, ?_⟩, ?_⟩
  · rw [List.length_eraseIdx_of_lt hi]
    have e : List.take (l.length - 1) (List.take i xs ++ List.drop (i + 1) xs ++ List.drop (i + (List.drop (i + 1) xs).length) xs) = xs.take i ++ xs.drop (i + 1) := by
      rw [List.take_append_of_le_length (by simp; omega), List.take_of_length_le (by simp; omega)]
    rw [← e]; exact ho2
  · rw [eraseIdx_eq]
    have st : Step (ownB A) w (ownB A) w2 := ((Fr.drew (ownB A) w).trans (f1.trans f2 (fun _ _ h => h) (fun _ _ h => h)) (fun _ _ h => h) (fun _ _ h => h)).step (fun _ _ h => h) (fun _ _ h => h)
    exact ((hf.step st).take i).append ((hf.step st).drop (i + 1))
  · exact (Fr.drew (ownB A) w).trans (f1.trans f2 (fun _ _ h => h) (fun _ _ h => h)) (fun _ _ h => h) (fun _ _ h => h)
theorem GrowI_spec (w : World) (n : Nat) (hn : n ≤ 2097152) : CallsV Try.prog 146 #[.slice none 0 0, .int .i64 (n : Int)] w fun r w' => ∃ A' c', r = .slice A' 0 c' ∧ Own w' 1 A' 0 c' [] ∧ Ext w w' ∧ New w A' := by
  refine slices_Grow_int_int.calls okay ?_
  unfold slices_Grow_int_int.W
  refine ⟨fun u => u = w, ?_, brd (fun h => by omega) fun _ => rfl⟩
  rintro _ rfl
  refine brd (fun h => ?_) (fun h => ?_)
  · have e1 : IntKind.i64.wrap ((n : Int) - IntKind.i64.wrap (((0 : Nat) : Int) - ((0 : Nat) : Int))) = (n : Int) := by rw [show IntKind.i64.wrap (((0 : Nat) : Int) - ((0 : Nat) : Int)) = 0 from wi _ (by omega) (by omega), wi _ (by omega) (by omega)]; omega
    rw [e1] at h ⊢
    obtain ⟨A', c', w1, hr, ho, e1, n1, hA'⟩ := append_zeros (P := Try.prog) slI (ki := .i64) (by kernel_rfl) (ty := 37) (t2 := 3) (Own.nil _ 1) (m := n) (by omega) (by simp only [maxLen]; omega) (by omega) (by omega)
    refine ⟨⟨by omega, by omega⟩, _, _, _, _, hr, ⟨by omega, by omega⟩, A', c', by rw [cutAt_zero]; rfl, by simpa using ho.take (Nat.zero_le _), e1, n1⟩
  · exact ⟨none, 0, rfl, Own.nil _ _, .refl _ _, New.none _⟩
theorem ConcatI_spec {α : Type} {K : Kd α} (hK : One K) {Ω : Nat → Prop} {w : World} {A : Option Addr} {c : Nat} {ll : List (List α)} (h : Imm (Kd.slice K hK.pos) Ω w A ll) (hn : ll.flatten.length ≤ 2097152) (hll : ll.length ≤ 1000) :
    CallsV Try.prog 141 #[.slice A ll.length c] w fun r w' => ∃ A' c', r = .slice A' ll.flatten.length c' ∧ OwnK (Kd.out Ω K) w' A' c' ll.flatten ∧ Ext w w' ∧ New w A' := by
  have hsum : ∀ k, (ll.take k).flatten.length ≤ ll.flatten.length := fun k => by
    conv => rhs; rw [← List.take_append_drop k ll]
    rw [List.flatten_append, List.length_append]; omega
  have hstep : ∀ k (hk : k < ll.length), (ll.take (k + 1)).flatten = (ll.take k).flatten ++ ll[k] := fun k hk => by
    rw [List.take_succ_eq_append_getElem hk, List.flatten_append, List.flatten_singleton]
  obtain ⟨w0, hw0⟩ : ∃ w0, w = w0 := ⟨_, rfl⟩
  subst w
  refine slices_Concat_int_int.calls okay ?_
  unfold slices_Concat_int_int.W
  refine ⟨fun x i u => u = w0 ∧ ∃ k : Nat, i = (k : Int) ∧ k ≤ ll.length ∧ x = ((ll.take k).flatten.length : Int), fun _ i _ => ll.length - i.toNat, ⟨rfl, 0, rfl, Nat.zero_le _, by simp⟩, ?_⟩
  rintro _ _ u0 ⟨hu0, k, rfl, hk, rfl⟩
  subst u0
  refine brd (fun hlt => ?_) (fun hge => ?_)
  · have hk' : k < ll.length := by omega
    obtain ⟨ad, hA, B, cb, hcb, hB, hcell⟩ := h.item (x := (k : Int)) (by omega) (by omega)
    rw [Int.toNat_natCast] at hcb hB hcell
    have hg : ll.getD k [] = ll[k] := by simp [List.getD, hk']
    rw [hg] at hcb hB hcell
    have h1 := hsum (k + 1)
    rw [hstep k hk', List.length_append] at h1
    refine ⟨ad, hA, ⟨by omega, by omega⟩, _, _, _, hcell _ (.refl _ _), ?_⟩
    rw [wi _ (by omega) (by omega), wi _ (by omega) (by omega)]
    refine brd (fun h => by omega) fun _ => ⟨⟨rfl, k + 1, by omega, by omega, ?_⟩, by dsimp only; omega⟩
    rw [hstep k hk', List.length_append]; omega
  · have hk' : k = ll.length := by omega
    subst hk'
    rw [List.take_length]
    refine (GrowI_spec _ _ hn).mono ?_
    rintro _ w1 ⟨A1, c1, rfl, ho, e1, n1⟩
    refine ⟨_, _, _, rfl, fun A2 n2 c2 i u => ∃ k : Nat, i = (k : Int) ∧ k ≤ ll.length ∧ n2 = (ll.take k).flatten.length ∧ OwnK (Kd.out Ω K) u A2 c2 (ll.take k).flatten ∧ Ext w0 u ∧ New w0 A2, fun _ _ _ i _ => ll.length - i.toNat, ⟨0, rfl, Nat.zero_le _, by simp, ?_, e1, n1⟩, ?_⟩
    · exact (ownK1 (hK.out Ω)).2 ⟨[], by simpa using ho, .nil⟩
    · rintro A2 _ c2 _ u ⟨k, rfl, hk, rfl, hou, eu, nu⟩
      refine brd (fun hlt => ?_) (fun hge => ?_)
      · have hk' : k < ll.length := by omega
        obtain ⟨ad, hA, B, cb, hcb, hB, hcell⟩ := h.item (x := (k : Int)) (by omega) (by omega)
        rw [Int.toNat_natCast] at hcb hB hcell
        have hg : ll.getD k [] = ll[k] := by simp [List.getD, hk']
        rw [hg] at hcb hB hcell
        have h1 := hsum (k + 1)
        rw [hstep k hk', List.length_append] at h1
        refine ⟨ad, hA, ⟨by omega, by omega⟩, _, _, _, hcell _ eu, ?_⟩
        obtain ⟨A3, c3, w3, hr, ho3, g3⟩ := hou.append (by rw [(hK.out Ω).sz]; exact slI) (ty := 37) (cb := cb) (hB.outs.toOwn (hK.out Ω).pos eu nu) (fun a cs h => hK.one h) (by simp only [maxLen]; omega) (by omega)
        rw [wi _ (by omega) (by omega)]
        refine ⟨_, _, _, w3, hr, ⟨k + 1, by omega, by omega, ?_, ?_, g3.ext eu nu, g3.new eu nu⟩, by dsimp only; omega⟩
        · rw [hstep k hk']
        · rw [hstep k hk']; exact ho3
      · have hk' : k = ll.length := by omega
        subst hk'
        rw [List.take_length] at hou ⊢
        exact ⟨A2, c2, rfl, hou, eu, nu⟩

theorem bytesOf_run {w : World} {Ω : Nat → Prop} {A : Option Addr} {l : List UInt8} (h : Imm KB Ω w A l) (c : Nat) : (Extern.Bytes.bytesOf (.slice A l.length c)).run Try.prog w = .ok ⟨l.toArray⟩ w := by
  cases A with
  | none =>
    have : l = [] := by
      cases l with
      | nil => rfl
      | cons b r => obtain ⟨ad, h, _⟩ := h 0 b rfl; cases h
    subst this; rfl
  | some ad =>
    have := Lib.run_loadBytesX (P := Try.prog) (w := w) (l.map fun b => (b.toNat : Int)) ad .empty (fun j x hj => by
      rw [List.getElem?_map] at hj
      cases hb : l[j]? with
      | none => simp [hb] at hj
      | some b =>
        simp [hb] at hj; subst hj
        obtain ⟨ad', hA, _, cs, hr, hc⟩ := h j b hb
        cases hA; cases hr
        have h2 := hc 0 _ rfl
        rw [show j * KB.size + 0 = j from Nat.mul_one j] at h2
        exact h2)
    have e2 : Lib.bytesOf (l.map (fun b => (b.toNat : Int))) = l := by
      unfold Lib.bytesOf
      rw [List.map_map]; conv => rhs; rw [← List.map_id l]
      apply List.map_congr_left; intro b _; simp
    rw [e2] at this
    simp [Extern.Bytes.bytesOf, ByteArray.empty, ByteArray.emptyWithCapacity] at this ⊢
    rw [this]
    congr 2
    exact Array.empty_append
theorem Compare_spec {w : World} {Ω Ω' : Nat → Prop} {A B : Option Addr} {a b : List UInt8} (ha : Imm KB Ω w A a) (hb : Imm KB Ω' w B b) (ca cb : Nat) :
    CallsV Try.prog 111 #[.slice A a.length ca, .slice B b.length cb] w fun r w' => r = .int .i64 (Lib.compareBytes a b) ∧ w' = w := by
  refine bytes_Compare.calls okay ?_
  unfold bytes_Compare.W
  refine ⟨_, w, ?_, rfl, rfl⟩
  unfold RunsTo
  rw [run_callFunc_extern Try.func126 (by kernel_rfl) (by kernel_rfl) (by kernel_rfl) (e := Extern.BytealgCompare.compare) (by kernel_rfl)]
  have : (Extern.BytealgCompare.compare #[.slice A a.length ca, .slice B b.length cb]).run Try.prog w = .ok (.int .i64 (Lib.compareBytes a b)) w := by
    change Sem.run Try.prog (do pure (goInt (Extern.BytealgCompare.cmp (← Extern.Bytes.bytesOf (.slice A a.length ca)) (← Extern.Bytes.bytesOf (.slice B b.length cb))))) w = _
    simp only [Sem.run_bind, bytesOf_run ha, bytesOf_run hb, Sem.run_pure, Result.andThen_ok]
    rw [Lib.cmp_eq]
    rfl
  rw [this]
  rfl
theorem Search_spec {w : World} {Ω Ω' : Nat → Prop} {A B : Option Addr} {ks : List Key} {key : Key} (h : Imm KBs Ω w A ks) (hb : Imm KB Ω' w B key) (hu : Up ks) (hl : ks.length ≤ 2097152) (c cb : Nat) :
    CallsV Try.prog 110 #[.slice A ks.length c, .slice B key.length cb, .func (.func 111) #[] #[]] w fun r w' => r = .tuple #[.int .i64 (pos ks key : Int), .bool (has ks key)] ∧ w' = w := by
  refine slices_BinarySearchFunc_byte_byte_byte.calls okay ?_
  unfold slices_BinarySearchFunc_byte_byte_byte.W
  refine ⟨fun i j u => u = w ∧ ∃ p q : Nat, i = (p : Int) ∧ j = (q : Int) ∧ p ≤ q ∧ q ≤ ks.length ∧ (∀ k (hk : k < ks.length), k < p → lt ks[k] key) ∧ (∀ k (hk : k < ks.length), q ≤ k → ¬ lt ks[k] key), fun i j _ => (j - i).toNat, ⟨rfl, 0, ks.length, rfl, rfl, Nat.zero_le _, Nat.le_refl _, fun k _ h => by omega, fun k h1 h2 => by omega⟩, ?_⟩
  rintro _ _ _ ⟨rfl, p, q, rfl, rfl, hpq, hq, h1, h2⟩
  refine brd (fun hlt => ?_) (fun hge => ?_)
  · have hm : IntKind.i64.wrap (Int.fdiv (IntKind.u64.wrap (IntKind.i64.wrap ((p : Int) + (q : Int)))) (2 ^ Min.min ((1 : Int).toNat) 64)) = (((p + q) / 2 : Nat) : Int) := by
      rw [wi ((p : Int) + (q : Int)) (by omega) (by omega), wu _ (by omega) (by omega)]
      have : Int.fdiv ((p : Int) + q) (2 ^ Min.min ((1 : Int).toNat) 64) = (((p + q) / 2 : Nat) : Int) := by
        rw [show (2 ^ Min.min ((1 : Int).toNat) 64 : Int) = 2 from rfl, Int.fdiv_eq_ediv_of_nonneg _ (by omega)]
        omega
      rw [this, wi _ (by omega) (by omega)]
    rw [hm]
    have hr : (p + q) / 2 < ks.length := by omega
    obtain ⟨ad, hA, B', c', hc', hB, hcell⟩ := h.item (x := (((p + q) / 2 : Nat) : Int)) (by omega) (by omega)
    rw [Int.toNat_natCast] at hc' hB hcell
    have hg : ks.getD ((p + q) / 2) [] = ks[(p + q) / 2] := by simp [List.getD, hr]
    rw [hg] at hc' hB hcell
    refine ⟨by decide, ad, hA, ⟨by omega, by omega⟩, _, _, _, by rw [Int.toNat_natCast]; exact hcell _ (.refl _ _), _, _, _, rfl, by kernel_rfl, ?_⟩
    refine (Compare_spec hB hb c' cb).mono ?_
    rintro _ _ ⟨rfl, rfl⟩
    rw [wi _ (by omega) (by omega)]
    refine ⟨_, rfl, brd (fun hc => ?_) (fun hc => ?_)⟩
    · refine ⟨⟨rfl, (p + q) / 2 + 1, q, by omega, rfl, by omega, hq, fun k hk hk' => ?_, h2⟩, by dsimp only; omega⟩
      rcases Nat.lt_or_ge k ((p + q) / 2) with h3 | h3
      · exact lt_trans (List.pairwise_iff_getElem.1 hu k _ hk hr h3) hc
      · obtain rfl : k = (p + q) / 2 := by omega
        exact hc
    · refine ⟨⟨rfl, p, (p + q) / 2, rfl, rfl, by omega, by omega, h1, fun k hk hk' h3 => hc ?_⟩, by dsimp only; omega⟩
      rcases Nat.lt_or_ge ((p + q) / 2) k with h4 | h4
      · exact lt_trans (List.pairwise_iff_getElem.1 hu _ k hr hk h4) h3
      · obtain rfl : k = (p + q) / 2 := by omega
        exact h3
  · obtain rfl : p = q := by omega
    have hp : p = pos ks key := pos_unique hu hq h1 h2
    refine brd (fun hlt => ?_) (fun hge => ?_)
    · have hr : p < ks.length := by omega
      obtain ⟨ad, hA, B', c', hc', hB, hcell⟩ := h.item (x := (p : Int)) (by omega) (by omega)
      rw [Int.toNat_natCast] at hc' hB hcell
      have hg : ks.getD p [] = ks[p] := by simp [List.getD, hr]
      rw [hg] at hc' hB hcell
      refine ⟨ad, hA, ⟨by omega, by omega⟩, _, _, _, by rw [Int.toNat_natCast]; exact hcell _ (.refl _ _), _, _, _, rfl, by kernel_rfl, ?_⟩
      refine (Compare_spec hB hb c' cb).mono ?_
      rintro _ _ ⟨rfl, rfl⟩
      refine ⟨_, rfl, ?_, rfl⟩
      rw [← hp]
      congr 3
      unfold has
      rw [← hp, List.getElem?_eq_getElem hr]
      have : (Lib.compareBytes ks[p] key = 0) ↔ (some ks[p] = some key) := ⟨fun h => by rw [cmp_zero _ _ h], fun h => by rw [Option.some.inj h]; exact cmp_self key⟩
      simp only [this]
    · refine ⟨?_, rfl⟩
      rw [← hp]
      unfold has
      rw [← hp, List.getElem?_eq_none (by omega)]
      rfl
end Go.Proofs.Ythfagbfllheneaa
set_option linter.unusedVariables false
set_option linter.unusedSimpArgs false
namespace T4
structure Nod where
  keys : List Key
  vals : List Key
  kids : List Nat
def N0 : Nod := ⟨[], [], []⟩
def Nod.size (n : Nod) : Nat := if n.kids = [] then n.keys.length else n.kids.length
structure Ar where
  fan : Nat
  most : Nat
  at_ : List (Option Nod)
  free : List Nat
  trees : List (Int × Nat)
  last : Nat
def Ar.nd (A : Ar) (i : Nat) : Option Nod := (A.at_[i]?).getD none
def Ar.nodes (A : Ar) : Nat := A.at_.length - A.free.length
def setN (A : Ar) (i : Nat) (n : Nod) : Ar := { A with at_ := A.at_.set i (some n) }
def place (A : Ar) (n : Nod) : Ar × Nat :=
  if A.free.length = 0 then ({ A with at_ := A.at_ ++ [some n] }, A.at_.length)
  else ({ A with at_ := A.at_.set (A.free.getD (A.free.length - 1) 0) (some n), free := A.free.take (A.free.length - 1) }, A.free.getD (A.free.length - 1) 0)
def drop (A : Ar) (i : Nat) : Ar := { A with at_ := A.at_.set i none, free := A.free ++ [i] }
/-! ## accounts: each place is of one tree, or free -/
def Acc (A : Ar) (Q P : List Nat) : Prop := ∀ x, Q.count x + P.count x + A.free.count x = if x < A.at_.length then 1 else 0
theorem Acc.perm {A : Ar} {Q P Q' P' : List Nat} (h : Acc A Q P) (e : ∀ x, Q.count x + P.count x = Q'.count x + P'.count x) : Acc A Q' P' := fun x => by rw [← e x]; exact h x
theorem Acc.lt {A : Ar} {Q P : List Nat} (h : Acc A Q P) {x : Nat} (hx : x ∈ P) : x < A.at_.length := by
  have h1 := h x
  have h2 := List.count_pos_iff.2 hx
  split at h1
  · assumption
  · omega
theorem Acc.ne {A : Ar} {Q P : List Nat} (h : Acc A Q P) {x : Nat} (hx : x ∈ P) : x ∉ Q ∧ x ∉ A.free := by
  have h1 := h x
  have h2 := List.count_pos_iff.2 hx
  refine ⟨fun hq => ?_, fun hq => ?_⟩
  · have := List.count_pos_iff.2 hq
    split at h1 <;> omega
  · have := List.count_pos_iff.2 hq
    split at h1 <;> omega
structure Mv (A A' : Ar) (P P' : List Nat) : Prop where
  fan : A'.fan = A.fan
  most : A'.most = A.most
  trees : A'.trees = A.trees
  last : A'.last = A.last
  acc : ∀ Q, Acc A Q P → Acc A' Q P' ∧ ∀ j ∈ Q, A'.nd j = A.nd j
theorem Mv.refl (A : Ar) (P : List Nat) : Mv A A P P := ⟨rfl, rfl, rfl, rfl, fun Q h => ⟨h, fun _ _ => rfl⟩⟩
theorem Mv.trans {A B C : Ar} {P P' P'' : List Nat} (h : Mv A B P P') (h' : Mv B C P' P'') : Mv A C P P'' :=
  ⟨h'.fan.trans h.fan, h'.most.trans h.most, h'.trees.trans h.trees, h'.last.trans h.last, fun Q hq => by
    obtain ⟨h1, h2⟩ := h.acc Q hq
    obtain ⟨h3, h4⟩ := h'.acc Q h1
    exact ⟨h3, fun j hj => (h4 j hj).trans (h2 j hj)⟩⟩
theorem Mv.frame {A B : Ar} {P P' R R1 R1' : List Nat} (h : Mv A B P P') (e : ∀ x, R1.count x = R.count x + P.count x) (e' : ∀ x, R1'.count x = R.count x + P'.count x) : Mv A B R1 R1' :=
  ⟨h.fan, h.most, h.trees, h.last, fun Q hq => by
    obtain ⟨h1, h2⟩ := h.acc (Q ++ R) (hq.perm fun x => by rw [e, List.count_append]; omega)
    exact ⟨h1.perm fun x => by rw [e', List.count_append]; omega, fun j hj => h2 j (List.mem_append_left _ hj)⟩⟩
theorem nd_set (A : Ar) (i : Nat) (n : Nod) (h : i < A.at_.length) : (setN A i n).nd i = some n := by simp [Ar.nd, setN, h]
theorem nd_set_ne (A : Ar) (i j : Nat) (n : Nod) (h : i ≠ j) : (setN A i n).nd j = A.nd j := by simp [Ar.nd, setN, List.getElem?_set_ne h]
theorem mv_set (A : Ar) (i : Nat) (n : Nod) : Mv A (setN A i n) [i] [i] := by
  refine ⟨rfl, rfl, rfl, rfl, fun Q h => ⟨fun x => by have := h x; simpa [setN] using this, fun j hj => nd_set_ne A i j n ?_⟩⟩
  rintro rfl
  exact (h.ne (x := i) (by simp)).1 hj
theorem mv_place (A : Ar) (n : Nod) : Mv A (place A n).1 [] [(place A n).2] ∧ ((∃ Q P, Acc A Q P) → (place A n).1.nd (place A n).2 = some n) := by
  unfold place
  by_cases h0 : A.free.length = 0
  · rw [if_pos h0]
    have hf : A.free = [] := List.eq_nil_of_length_eq_zero h0
    refine ⟨⟨rfl, rfl, rfl, rfl, fun Q h => ⟨fun x => ?_, fun j hj => ?_⟩⟩, fun _ => by simp [Ar.nd]⟩
    · have h1 := h x
      simp only [List.count_nil, List.count_cons, List.length_append, List.length_cons, List.length_nil, hf] at h1 ⊢
      by_cases h2 : A.at_.length = x
      · subst h2
        have h5 : ¬ A.at_.length < A.at_.length := by omega
        rw [if_neg h5] at h1
        rw [if_pos (show A.at_.length < A.at_.length + (0 + 1) by omega)]
        simp only [beq_self_eq_true, if_true]
        omega
      · have h3 : (A.at_.length == x) = false := by simpa using h2
        rw [h3]
        simp only [Bool.false_eq_true, if_false]
        by_cases h4 : x < A.at_.length
        · rw [if_pos h4] at h1; rw [if_pos (by omega)]; omega
        · rw [if_neg h4] at h1; rw [if_neg (by omega)]; omega
    · have hj2 : j < A.at_.length := by
        have h1 := h j
        have := List.count_pos_iff.2 hj
        split at h1
        · assumption
        · omega
      simp only [Ar.nd]
      rw [List.getElem?_append_left hj2]
  · rw [if_neg h0]
    have hl : A.free.length - 1 < A.free.length := by omega
    have hg : A.free.getD (A.free.length - 1) 0 = A.free[A.free.length - 1] := by simp [List.getD, hl]
    have hfr : A.free = A.free.take (A.free.length - 1) ++ [A.free[A.free.length - 1]] := by
      conv => lhs; rw [← List.take_append_drop (A.free.length - 1) A.free]
      rw [List.drop_eq_getElem_cons hl, show A.free.length - 1 + 1 = A.free.length by omega, List.drop_length]
    rw [hg]
    generalize hx0 : A.free[A.free.length - 1] = x0 at *
    have hmem : x0 ∈ A.free := by rw [← hx0]; simp
    refine ⟨⟨rfl, rfl, rfl, rfl, fun Q h => ⟨fun x => ?_, fun j hj => ?_⟩⟩, fun ⟨Q, P, h⟩ => ?_⟩
    · have h1 := h x
      rw [hfr] at h1
      simp only [List.count_nil, List.count_append, List.length_set] at h1 ⊢
      omega
    · have hne : x0 ≠ j := by
        rintro rfl
        have h1 := h x0
        have := List.count_pos_iff.2 hj
        have := List.count_pos_iff.2 hmem
        split at h1 <;> omega
      simp only [Ar.nd]
      rw [List.getElem?_set_ne hne]
    · have hlt : x0 < A.at_.length := by
        have h1 := h x0
        have := List.count_pos_iff.2 hmem
        split at h1
        · assumption
        · omega
      simp [Ar.nd, hlt]
theorem mv_drop (A : Ar) (i : Nat) : Mv A (drop A i) [i] [] := by
  refine ⟨rfl, rfl, rfl, rfl, fun Q h => ⟨fun x => ?_, fun j hj => ?_⟩⟩
  · have h1 := h x
    simp only [drop, List.count_nil, List.count_append, List.length_set] at h1 ⊢
    omega
  · have hne : i ≠ j := by
      rintro rfl
      exact (h.ne (x := i) (by simp)).1 hj
    simp [Ar.nd, drop, List.getElem?_set_ne hne]
/-! ## trees -/
def Bnd (lo hi : Option Key) (k : Key) : Prop := (∀ l, lo = some l → ¬ lt k l) ∧ (∀ u, hi = some u → lt k u)
def Btw (lo hi : Option Key) (k : Key) : Prop := (∀ l, lo = some l → lt l k) ∧ (∀ u, hi = some u → lt k u)
abbrev TP := Nat → Option Key → Option Key → Es → List Nat → Prop
inductive Kids (T : TP) : Option Key → Option Key → List Key → List Nat → Es → List Nat → Prop
  | one {i lo hi es ps} : T i lo hi es ps → Kids T lo hi [] [i] es ps
  | cons {i lo hi k ks is es es' ps ps'} : T i lo (some k) es ps → Btw lo hi k → Kids T (some k) hi ks is es' ps' → Kids T lo hi (k :: ks) (i :: is) (es ++ es') (ps ++ ps')
inductive Left (T : TP) : Option Key → List Key → List Nat → Option Key → Es → List Nat → Prop
  | nil {lo} : Left T lo [] [] lo [] []
  | cons {i lo k ks is mid es es' ps ps'} : T i lo (some k) es ps → (∀ l, lo = some l → lt l k) → Left T (some k) ks is mid es' ps' → (∀ l, mid = some l → ¬ lt l k) → Left T lo (k :: ks) (i :: is) mid (es ++ es') (ps ++ ps')
inductive Right (T : TP) : Option Key → Option Key → List Key → List Nat → Es → List Nat → Prop
  | nil {hi} : Right T hi hi [] [] [] []
  | cons {k hi ks is es ps} : (∀ u, hi = some u → lt k u) → Kids T (some k) hi ks is es ps → Right T (some k) hi (k :: ks) is es ps
def Tree (nd : Nat → Option Nod) (fan : Nat) : Nat → Nat × Nat → TP
  | 0, _, _, _, _, _, _ => False
  | h + 1, mn, i, lo, hi, es, ps => ∃ n, nd i = some n ∧ n.size ≤ fan ∧
    ((h = 0 ∧ mn.1 ≤ n.size ∧ n.kids = [] ∧ n.keys = keysE es ∧ n.vals = valsE es ∧ UpE es ∧ (∀ k ∈ n.keys, Bnd lo hi k) ∧ ps = [i]) ∨
     (0 < h ∧ mn.2 ≤ n.size ∧ n.vals = [] ∧ ∃ ps', ps = i :: ps' ∧ Kids (Tree nd fan h (fan / 2, fan / 2)) lo hi n.keys n.kids es ps'))
abbrev Reg (nd : Nat → Option Nod) (fan h : Nat) : TP := Tree nd fan h (fan / 2, fan / 2)
theorem Kids.len {T : TP} {lo hi : Option Key} {ks : List Key} {is : List Nat} {es : Es} {ps : List Nat} (h : Kids T lo hi ks is es ps) : is.length = ks.length + 1 := by
  induction h with
  | one _ => rfl
  | cons _ _ _ ih => simp [ih]
theorem Kids.mono {T T' : TP} {lo hi : Option Key} {ks : List Key} {is : List Nat} {es : Es} {ps : List Nat} (h : Kids T lo hi ks is es ps) (m : ∀ {i lo hi es p}, T i lo hi es p → (∀ j ∈ p, j ∈ ps) → T' i lo hi es p) : Kids T' lo hi ks is es ps := by
  induction h with
  | one h => exact .one (m h fun _ h => h)
  | cons h hb hk ih => exact .cons (m h fun j hj => List.mem_append_left _ hj) hb (ih fun h h' => m h fun j hj => List.mem_append_right _ (h' j hj))
theorem Left.mono {T T' : TP} {lo mid : Option Key} {ks : List Key} {is : List Nat} {es : Es} {ps : List Nat} (h : Left T lo ks is mid es ps) (m : ∀ {i lo hi es p}, T i lo hi es p → (∀ j ∈ p, j ∈ ps) → T' i lo hi es p) : Left T' lo ks is mid es ps := by
  induction h with
  | nil => exact .nil
  | cons h hb hk hm ih => exact .cons (m h fun j hj => List.mem_append_left _ hj) hb (ih fun h h' => m h fun j hj => List.mem_append_right _ (h' j hj)) hm
theorem Right.mono {T T' : TP} {mid hi : Option Key} {ks : List Key} {is : List Nat} {es : Es} {ps : List Nat} (h : Right T mid hi ks is es ps) (m : ∀ {i lo hi es p}, T i lo hi es p → (∀ j ∈ p, j ∈ ps) → T' i lo hi es p) : Right T' mid hi ks is es ps := by
  cases h with
  | nil => exact .nil
  | cons hb hk => exact .cons hb (hk.mono m)
theorem Tree.keep {nd nd' : Nat → Option Nod} {fan : Nat} : ∀ {h : Nat} {mn : Nat × Nat} {i : Nat} {lo hi : Option Key} {es : Es} {ps : List Nat}, Tree nd fan h mn i lo hi es ps → (∀ j ∈ ps, nd' j = nd j) → Tree nd' fan h mn i lo hi es ps
  | 0, _, _, _, _, _, _, h, _ => h.elim
  | h + 1, mn, i, lo, hi, es, ps, ⟨n, h1, h2, h4⟩, hn => by
    rcases h4 with ⟨e0, h3, h5, h6, h7, h8, h9, rfl⟩ | ⟨e0, h3, h5, ps', rfl, hk⟩
    · exact ⟨n, (hn i (by simp)).trans h1, h2, .inl ⟨e0, h3, h5, h6, h7, h8, h9, rfl⟩⟩
    · refine ⟨n, (hn i (by simp)).trans h1, h2, .inr ⟨e0, h3, h5, ps', rfl, hk.mono fun ht hs => ?_⟩⟩
      exact Tree.keep ht fun j hj => hn j (by simp [hs j hj])
theorem Tree.size {nd : Nat → Option Nod} {fan : Nat} {h : Nat} {mn mn' : Nat × Nat} {i : Nat} {lo hi : Option Key} {es : Es} {ps : List Nat} (ht : Tree nd fan h mn i lo hi es ps) (hs : ∀ n, nd i = some n → (h = 1 → mn.1 ≤ n.size → mn'.1 ≤ n.size) ∧ (1 < h → mn.2 ≤ n.size → mn'.2 ≤ n.size)) : Tree nd fan h mn' i lo hi es ps := by
  cases h with
  | zero => exact ht.elim
  | succ h =>
    obtain ⟨n, h1, h2, h4⟩ := ht
    obtain ⟨s1, s2⟩ := hs n h1
    rcases h4 with ⟨e0, h3, h5⟩ | ⟨e0, h3, h5⟩
    · exact ⟨n, h1, h2, .inl ⟨e0, s1 (by omega) h3, h5⟩⟩
    · exact ⟨n, h1, h2, .inr ⟨e0, s2 (by omega) h3, h5⟩⟩
theorem Tree.weak {nd : Nat → Option Nod} {fan : Nat} {h : Nat} {mn mn' : Nat × Nat} {i : Nat} {lo hi : Option Key} {es : Es} {ps : List Nat} (ht : Tree nd fan h mn i lo hi es ps) (h1 : mn'.1 ≤ mn.1) (h2 : mn'.2 ≤ mn.2) : Tree nd fan h mn' i lo hi es ps :=
  ht.size fun n _ => ⟨fun _ h => by omega, fun _ h => by omega⟩
theorem Bnd.le {lo hi lo' hi' : Option Key} {k : Key} (h : Bnd lo hi k) (h1 : ∀ l, lo' = some l → ∃ l', lo = some l' ∧ ¬ lt l' l) (h2 : ∀ u, hi' = some u → ∃ u', hi = some u' ∧ ¬ lt u u') : Bnd lo' hi' k := by
  refine ⟨fun l hl => ?_, fun u hu => ?_⟩
  · obtain ⟨l', e, h3⟩ := h1 l hl
    intro h4
    exact h.1 l' e (lt_of_lt_nlt h4 h3)
  · obtain ⟨u', e, h3⟩ := h2 u hu
    exact lt_of_lt_nlt (h.2 u' e) h3
def InB (T : TP) : Prop := ∀ {i lo hi es ps}, T i lo hi es ps → ∀ x ∈ es, Bnd lo hi x.1
theorem Kids.inB {T : TP} (hT : InB T) {lo hi : Option Key} {ks : List Key} {is : List Nat} {es : Es} {ps : List Nat} (h : Kids T lo hi ks is es ps) : ∀ x ∈ es, Bnd lo hi x.1 := by
  induction h with
  | one h => exact hT h
  | cons h hb hk ih =>
    rename_i i lo hi k ks is es es' ps ps'
    intro x hx
    rcases List.mem_append.1 hx with hx | hx
    · have := hT h x hx
      refine ⟨this.1, fun u hu => ?_⟩
      exact lt_trans (this.2 k rfl) (hb.2 u hu)
    · have := ih x hx
      refine ⟨fun l hl h => ?_, this.2⟩
      exact this.1 k rfl (lt_trans h (hb.1 l hl))
theorem Tree.inB {nd : Nat → Option Nod} {fan : Nat} : ∀ {h : Nat} {mn : Nat × Nat}, InB (Tree nd fan h mn)
  | 0, _, _, _, _, _, _, h => h.elim
  | h + 1, mn, i, lo, hi, es, ps, ⟨n, h1, h2, h4⟩ => by
    rcases h4 with ⟨e0, h3, h5, h6, h7, h8, h9, rfl⟩ | ⟨e0, h3, h5, ps', rfl, hk⟩
    · intro x hx
      exact h9 x.1 (by rw [h6]; exact List.mem_map.2 ⟨x, hx, rfl⟩)
    · exact hk.inB Tree.inB
theorem Kids.up {T : TP} (hT : InB T) (hU : ∀ {i lo hi es ps}, T i lo hi es ps → UpE es) {lo hi : Option Key} {ks : List Key} {is : List Nat} {es : Es} {ps : List Nat} (h : Kids T lo hi ks is es ps) : UpE es := by
  induction h with
  | one h => exact hU h
  | cons h hb hk ih =>
    rename_i i lo hi k ks is es es' ps ps'
    show Up (keysE (es ++ es'))
    rw [keysE_append]
    refine List.pairwise_append.2 ⟨hU h, ih, fun a ha b hb' => ?_⟩
    obtain ⟨x, hx, rfl⟩ := List.mem_map.1 ha
    obtain ⟨y, hy, rfl⟩ := List.mem_map.1 hb'
    exact lt_of_lt_nlt ((hT h x hx).2 k rfl) ((hk.inB hT y hy).1 k rfl)
theorem Tree.up {nd : Nat → Option Nod} {fan : Nat} : ∀ {h : Nat} {mn : Nat × Nat} {i : Nat} {lo hi : Option Key} {es : Es} {ps : List Nat}, Tree nd fan h mn i lo hi es ps → UpE es
  | 0, _, _, _, _, _, _, h => h.elim
  | h + 1, mn, i, lo, hi, es, ps, ⟨n, h1, h2, h4⟩ => by
    rcases h4 with ⟨e0, h3, h5, h6, h7, h8, h9, rfl⟩ | ⟨e0, h3, h5, ps', rfl, hk⟩
    · exact h8
    · exact hk.up Tree.inB Tree.up
theorem Kids.keys {T : TP} {lo hi : Option Key} {ks : List Key} {is : List Nat} {es : Es} {ps : List Nat} (h : Kids T lo hi ks is es ps) : Up ks ∧ ∀ k ∈ ks, Btw lo hi k := by
  induction h with
  | one h => exact ⟨List.Pairwise.nil, fun k h => by simp at h⟩
  | cons h hb hk ih =>
    rename_i i lo hi k ks is es es' ps ps'
    refine ⟨List.pairwise_cons.2 ⟨fun y hy => (ih.2 y hy).1 k rfl, ih.1⟩, fun y hy => ?_⟩
    rcases List.mem_cons.1 hy with rfl | hy
    · exact hb
    · exact ⟨fun l hl => lt_trans (hb.1 l hl) ((ih.2 y hy).1 k rfl), (ih.2 y hy).2⟩
theorem Kids.find {T : TP} (hT : InB T) {key : Key} {lo hi : Option Key} {ks : List Key} {is : List Nat} {es : Es} {ps : List Nat} (h : Kids T lo hi ks is es ps) (hb : Bnd lo hi key) :
    ∃ ks1 ks2 is1 is2 i lo' hi' es1 es2 e ps1 ps2 p, ks = ks1 ++ ks2 ∧ is = is1 ++ i :: is2 ∧ ks1.length = bel ks key ∧ is1.length = bel ks key ∧ Left T lo ks1 is1 lo' es1 ps1 ∧ T i lo' hi' e p ∧ Right T hi' hi ks2 is2 es2 ps2 ∧
      es = es1 ++ (e ++ es2) ∧ ps = ps1 ++ (p ++ ps2) ∧ Bnd lo' hi' key ∧ (∀ x ∈ es1, lt x.1 key) ∧ (∀ x ∈ es2, lt key x.1) ∧ (∀ l, lo' = some l → lo = some l ∨ ∃ l0, ks1.getLast? = some l0 ∧ l = l0) ∧ (∀ k, hi' = some k → ks2 ≠ [] → ∀ l, lo' = some l → lt l k) := by
  induction h with
  | one h =>
    rename_i i lo hi es ps
    exact ⟨[], [], [], [], i, lo, hi, [], [], es, [], [], ps, rfl, rfl, rfl, rfl, .nil, h, .nil, by simp, by simp, hb, by simp, by simp, fun l hl => .inl hl, fun k _ h => absurd rfl h⟩
  | cons h hbt hk ih =>
    rename_i i lo hi k ks is es es' ps ps'
    rw [bel_cons]
    by_cases hlt : lt key k
    · rw [if_pos hlt]
      refine ⟨[], k :: ks, [], is, i, lo, some k, [], es', es, [], ps', ps, rfl, rfl, rfl, rfl, .nil, h, .cons hbt.2 hk, rfl, rfl, ⟨hb.1, fun u hu => by cases hu; exact hlt⟩, by simp, fun x hx => ?_, fun l hl => .inl hl, fun k' hk' _ l hl => by cases hk'; exact hbt.1 l hl⟩
      exact lt_of_lt_nlt hlt ((hk.inB hT x hx).1 k rfl)
    · rw [if_neg hlt]
      obtain ⟨ks1, ks2, is1, is2, i', lo', hi', es1, es2, e, ps1, ps2, p, h1, h2, h3, h4, h5, h6, h7, h8, h9, h10, h11, h12, h13, h14⟩ := ih ⟨fun l hl => by cases hl; exact hlt, hb.2⟩
      have hmid : ∀ l, lo' = some l → ¬ lt l k := fun l hl => by
        rcases h13 l hl with h | ⟨l0, h, rfl⟩
        · cases h; exact lt_irrefl _
        · have hm : l ∈ ks := by rw [h1]; exact List.mem_append_left _ (List.mem_of_getLast? h)
          exact lt_asymm ((hk.keys.2 l hm).1 k rfl)
      refine ⟨k :: ks1, ks2, i :: is1, is2, i', lo', hi', es ++ es1, es2, e, ps ++ ps1, ps2, p, by rw [h1]; rfl, by rw [h2]; rfl, by simp [h3], by simp [h4], .cons h hbt.1 h5 hmid, h6, h7, by rw [h8]; simp, by rw [h9]; simp, h10, fun x hx => ?_, h12, fun l hl => ?_, h14⟩
      · rcases List.mem_append.1 hx with hx | hx
        · exact lt_of_lt_nlt ((hT h x hx).2 k rfl) hlt
        · exact h11 x hx
      · rcases h13 l hl with h | ⟨l0, h, rfl⟩
        · cases h
          rename_i heq
          cases ks1 with
          | nil => exact .inr ⟨k, rfl, rfl⟩
          | cons y ks1 =>
            exfalso
            cases h5 with
            | cons _ hlt2 hl2 hm2 =>
              exact hm2 _ hl (hlt2 _ rfl)
        · right
          refine ⟨l, ?_, rfl⟩
          rw [List.getLast?_cons, h]; rfl
theorem Left.join {T : TP} {lo mid hi : Option Key} {ks1 ks2 : List Key} {is1 is2 : List Nat} {es1 es2 : Es} {ps1 ps2 : List Nat} (h : Left T lo ks1 is1 mid es1 ps1) (hhi : ∀ k ∈ ks1, ∀ u, hi = some u → lt k u) (hk : Kids T mid hi ks2 is2 es2 ps2) : Kids T lo hi (ks1 ++ ks2) (is1 ++ is2) (es1 ++ es2) (ps1 ++ ps2) := by
  induction h with
  | nil => exact hk
  | cons h hb hl hm ih =>
    rename_i i lo k ks is mid es es' ps ps'
    rw [List.cons_append, List.cons_append, List.append_assoc, List.append_assoc]
    exact .cons h ⟨hb, hhi k (by simp)⟩ (ih (fun k' hk' => hhi k' (by simp [hk'])) hk)
theorem Right.join {T : TP} {i : Nat} {lo mid hi : Option Key} {ks : List Key} {is : List Nat} {e es : Es} {p ps : List Nat} (h : T i lo mid e p) (hr : Right T mid hi ks is es ps) (hlo : ∀ k, mid = some k → ks ≠ [] → ∀ l, lo = some l → lt l k) : Kids T lo hi ks (i :: is) (e ++ es) (p ++ ps) := by
  cases hr with
  | nil => simpa using Kids.one h
  | cons hb hk => exact .cons h ⟨hlo _ rfl (by simp), hb⟩ hk
end T4
set_option linter.unusedVariables false
set_option linter.unusedSimpArgs false
namespace T4
def nodeAt (A : Ar) (i : Nat) : Nod := (A.nd i).getD N0
def kid (n : Nod) (k : Nat) : Nat := n.kids.getD k 0
def splitF (A : Ar) (i : Nat) (n : Nod) : Ar × Option (Key × Nat) :=
  if n.size ≤ A.fan then (setN A i n, none)
  else
    let h := (n.size + 1) / 2
    if n.kids = [] then
      let q := place (setN (setN A i n) i ⟨n.keys.take h, n.vals.take h, []⟩) ⟨n.keys.drop h, n.vals.drop h, []⟩
      (q.1, some (n.keys.getD h [], q.2))
    else
      let q := place (setN (setN A i n) i ⟨n.keys.take (h - 1), [], n.kids.take h⟩) ⟨n.keys.drop h, [], n.kids.drop h⟩
      (q.1, some (n.keys.getD (h - 1) [], q.2))
def leafPut (n : Nod) (key val : Key) : Nod :=
  if has n.keys key then ⟨n.keys, n.vals.set (pos n.keys key) val, []⟩ else ⟨n.keys.insertIdx (pos n.keys key) key, n.vals.insertIdx (pos n.keys key) val, []⟩
def putF : Nat → Ar → Nat → Key → Key → Ar × Option (Key × Nat)
  | 0, A, _, _, _ => (A, none)
  | h + 1, A, i, key, val =>
    let n := nodeAt A i
    if n.kids = [] then splitF A i (leafPut n key val)
    else
      let k := bel n.keys key
      let q := putF h A (kid n k) key val
      match q.2 with
      | none => (q.1, none)
      | some (b, rt) => splitF q.1 i ⟨n.keys.insertIdx k b, [], n.kids.insertIdx (k + 1) rt⟩
def sizes : Nat → Ar → Nat → Key → List Nat
  | 0, A, i, _ => []
  | h + 1, A, i, key => let n := nodeAt A i; n.size :: (if n.kids = [] then [] else sizes h A (kid n (bel n.keys key)) key)
def trail (fan : Nat) : List Nat → Nat
  | [] => 0
  | s :: r => if trail fan r = r.length ∧ fan ≤ s then trail fan r + 1 else trail fan r
theorem trail_le (fan : Nat) : ∀ l : List Nat, trail fan l ≤ l.length
  | [] => Nat.le_refl _
  | s :: r => by have := trail_le fan r; rw [trail, List.length_cons]; split <;> omega
theorem insertIdx_app {α : Type} (l r : List α) (x : α) : (l ++ r).insertIdx l.length x = l ++ x :: r := by
  induction l with
  | nil => simp
  | cons a l ih => simp [ih]
theorem Kids.cut {T : TP} {lo hi : Option Key} {ks : List Key} {is : List Nat} {es : Es} {ps : List Nat} (h : Kids T lo hi ks is es ps) : ∀ (m : Nat), 0 < m → m < is.length →
    ∃ k es1 es2 ps1 ps2, ks[m - 1]? = some k ∧ Btw lo hi k ∧ Kids T lo (some k) (ks.take (m - 1)) (is.take m) es1 ps1 ∧ Kids T (some k) hi (ks.drop m) (is.drop m) es2 ps2 ∧ es = es1 ++ es2 ∧ ps = ps1 ++ ps2 := by
  induction h with
  | one h => intro m h1 h2; simp at h2; omega
  | cons h hb hk ih =>
    rename_i i lo hi k ks is es es' ps ps'
    intro m h1 h2
    rcases Nat.eq_or_lt_of_le h1 with h3 | h3
    · obtain rfl : m = 1 := by omega
      exact ⟨k, es, es', ps, ps', rfl, hb, by simpa using Kids.one h, by simpa using hk, rfl, rfl⟩
    · obtain ⟨k', es1, es2, ps1, ps2, q1, q2, q3, q4, q5, q6⟩ := ih (m - 1) (by omega) (by simp at h2; omega)
      obtain ⟨j, rfl⟩ : ∃ j, m = j + 2 := ⟨m - 2, by omega⟩
      simp only [Nat.add_sub_cancel, show j + 2 - 1 = j + 1 by omega] at q1 q3 q4 ⊢
      refine ⟨k', es ++ es1, es2, ps ++ ps1, ps2, by simpa using q1, ⟨fun l hl => lt_trans (hb.1 l hl) (q2.1 k rfl), q2.2⟩, ?_, by simpa using q4, by rw [q5]; simp, by rw [q6]; simp⟩
      rw [List.take_succ_cons, List.take_succ_cons]
      exact .cons h ⟨hb.1, fun u hu => by cases hu; exact q2.1 k rfl⟩ q3
def Put1 (A A' : Ar) (h : Nat) (mn : Nat × Nat) (i : Nat) (lo hi : Option Key) (es : Es) (ps : List Nat) : Option (Key × Nat) → Nat → Prop
  | none, t => ∃ ps', Mv A A' ps ps' ∧ Tree A'.nd A.fan h mn i lo hi es ps' ∧ ps'.length = ps.length + t
  | some (b, rt), t => ∃ es1 es2 ps1 ps2, es = es1 ++ es2 ∧ Btw lo hi b ∧ Mv A A' ps (ps1 ++ ps2) ∧ Reg A'.nd A.fan h i lo (some b) es1 ps1 ∧ Reg A'.nd A.fan h rt (some b) hi es2 ps2 ∧ ps1.length + ps2.length = ps.length + t
theorem Mv.nds {A B : Ar} {P P' : List Nat} (h : Mv A B P P') {Q : List Nat} (hq : Acc A Q P) : ∀ j ∈ Q, B.nd j = A.nd j := (h.acc Q hq).2
theorem Acc.split {A : Ar} {Q P : List Nat} (h : Acc A Q P) : Acc A (Q ++ P) [] := h.perm fun x => by simp
theorem mid {l : List Key} {h : Nat} (hl : h < l.length) : l = l.take h ++ l.getD h [] :: l.drop (h + 1) := by
  conv => lhs; rw [← List.take_append_drop h l, List.drop_eq_getElem_cons hl]
  simp [List.getD, hl]
theorem two_places {A : Ar} {i : Nat} {P Q : List Nat} (hA : Acc A Q (i :: P)) (n x y : Nod) :
    let q := place (setN (setN A i n) i x) y
    Mv A q.1 (i :: P) (i :: q.2 :: P) ∧ q.1.nd i = some x ∧ q.1.nd q.2 = some y ∧ (∀ j ∈ P, q.1.nd j = A.nd j) ∧ q.1.fan = A.fan := by
  intro q
  have hq : q = place (setN (setN A i n) i x) y := rfl
  have m1 : Mv A (setN (setN A i n) i x) [i] [i] := (mv_set A i n).trans (mv_set _ i x)
  obtain ⟨m2, hy⟩ := mv_place (setN (setN A i n) i x) y
  rw [← hq] at m2 hy
  clear_value q
  have hA1 : Acc A (Q ++ P) [i] := hA.perm fun z => by simp [List.count_append, List.count_cons] <;> omega
  obtain ⟨a1, n1⟩ := m1.acc _ hA1
  obtain ⟨a2, n2⟩ := m2.acc _ a1.split
  have hi : i < A.at_.length := hA.lt (by simp)
  refine ⟨Mv.trans (P' := i :: P) (m1.frame (R := P) (fun z => by simp [List.count_cons]) (fun z => by simp [List.count_cons])) (m2.frame (R := i :: P) (fun z => by simp) (fun z => by simp [List.count_cons] <;> omega)), ?_, hy ⟨_, _, a1⟩, fun j hj => ?_, m2.fan.trans m1.fan⟩
  · have := n2 i (by simp)
    exact this.trans (nd_set _ i x (by simpa [setN] using hi))
  · exact (n2 j (by simp [hj])).trans (n1 j (by simp [hj]))
theorem split_leaf {A : Ar} {Q : List Nat} {i : Nat} {lo hi : Option Key} {es : Es} {mn : Nat × Nat} (hA : Acc A Q [i]) (hfan : 4 ≤ A.fan) (hu : UpE es) (hb : ∀ x ∈ es, Bnd lo hi x.1) (hs : es.length ≤ A.fan + 1) (ht : mn.1 ≤ es.length) :
    Put1 A (splitF A i ⟨keysE es, valsE es, []⟩).1 1 mn i lo hi es [i] (splitF A i ⟨keysE es, valsE es, []⟩).2 (if es.length ≤ A.fan then 0 else 1) ∧ ((splitF A i ⟨keysE es, valsE es, []⟩).2.isSome = decide (A.fan < es.length)) := by
  have hsz : (⟨keysE es, valsE es, []⟩ : Nod).size = es.length := by simp [Nod.size, keysE_length]
  have hil : i < A.at_.length := hA.lt (by simp)
  have hbk : ∀ k ∈ keysE es, Bnd lo hi k := fun k hk => by obtain ⟨x, hx, rfl⟩ := List.mem_map.1 hk; exact hb x hx
  unfold splitF
  rw [hsz]
  by_cases hle : es.length ≤ A.fan
  · rw [if_pos hle, if_pos hle]
    refine ⟨⟨[i], mv_set A i _, ⟨_, nd_set A i _ hil, by rw [hsz]; exact hle, .inl ⟨rfl, by rw [hsz]; exact ht, rfl, rfl, rfl, hu, hbk, rfl⟩⟩, rfl⟩, by simp <;> omega⟩
  · rw [if_neg hle, if_neg hle]
    dsimp only
    rw [if_pos rfl]
    generalize hh : (es.length + 1) / 2 = h
    have h1 : h < es.length := by omega
    have h0 : 0 < h := by omega
    obtain ⟨m, x1, x2, _, hf⟩ := two_places hA ⟨keysE es, valsE es, []⟩ ⟨(keysE es).take h, (valsE es).take h, []⟩ ⟨(keysE es).drop h, (valsE es).drop h, []⟩
    generalize place (setN (setN A i ⟨keysE es, valsE es, []⟩) i ⟨(keysE es).take h, (valsE es).take h, []⟩) ⟨(keysE es).drop h, (valsE es).drop h, []⟩ = q at *
    have hkl : h < (keysE es).length := by rw [keysE_length]; exact h1
    have hmid := mid hkl
    have hu' : Up (keysE es) := hu
    have hget : (keysE es).getD h [] = (keysE es)[h] := by simp [List.getD, hkl]
    have hmem : (keysE es).getD h [] ∈ keysE es := by rw [hget]; simp
    rw [hmid] at hu'
    obtain ⟨u1, u2, u3⟩ := List.pairwise_append.1 hu'
    have hk1 : keysE (es.take h) = (keysE es).take h := by simp [keysE, List.map_take]
    have hk2 : keysE (es.drop h) = (keysE es).drop h := by simp [keysE, List.map_drop]
    have hv1 : valsE (es.take h) = (valsE es).take h := by simp [valsE, List.map_take]
    have hv2 : valsE (es.drop h) = (valsE es).drop h := by simp [valsE, List.map_drop]
    have hdrop : (keysE es).drop h = (keysE es).getD h [] :: (keysE es).drop (h + 1) := by rw [List.drop_eq_getElem_cons hkl, hget]
    refine ⟨⟨es.take h, es.drop h, [i], [q.2], (List.take_append_drop h es).symm, ?_, m, ?_, ?_, rfl⟩, by simp <;> omega⟩
    · refine ⟨fun l hl => ?_, fun u hu2 => (hbk _ hmem).2 u hu2⟩
      have h00 : (keysE es)[0]'(by omega) ∈ (keysE es).take h := by
        rw [List.mem_take_iff_getElem]
        exact ⟨0, by omega, rfl⟩
      have h3 := u3 _ h00 _ (List.mem_cons_self)
      exact lt_of_nlt_lt ((hbk _ (List.mem_of_mem_take h00)).1 l hl) h3
    · refine ⟨_, x1, ?_, .inl ⟨rfl, ?_, rfl, hk1.symm, hv1.symm, by show Up (keysE (es.take h)); rw [hk1]; exact u1, fun k hk => ?_, rfl⟩⟩
      · simp [Nod.size, keysE_length]; omega
      · simp [Nod.size, keysE_length]; omega
      · exact ⟨(hbk k (List.mem_of_mem_take hk)).1, fun u hu2 => by cases hu2; exact u3 k hk _ List.mem_cons_self⟩
    · refine ⟨_, x2, ?_, .inl ⟨rfl, ?_, rfl, hk2.symm, hv2.symm, by show Up (keysE (es.drop h)); rw [hk2, hdrop]; exact u2, fun k hk => ?_, rfl⟩⟩
      · simp [Nod.size, keysE_length]; omega
      · simp [Nod.size, keysE_length]; omega
      · refine ⟨fun l hl => ?_, (hbk k (List.mem_of_mem_drop hk)).2⟩
        cases hl
        have hk : k ∈ (keysE es).drop h := hk
        rw [hdrop] at hk
        rcases List.mem_cons.1 hk with rfl | hk
        · exact lt_irrefl _
        · exact lt_asymm ((List.pairwise_cons.1 u2).1 k hk)
theorem split_inner {A : Ar} {Q : List Nat} {h i : Nat} {lo hi : Option Key} {es : Es} {ks : List Key} {is : List Nat} {ps : List Nat} {mn : Nat × Nat} (h0 : 0 < h) (hA : Acc A Q (i :: ps)) (hfan : 4 ≤ A.fan) (hk : Kids (Reg A.nd A.fan h) lo hi ks is es ps) (hs : is.length ≤ A.fan + 1) (ht : mn.2 ≤ is.length) (ht2 : 2 ≤ is.length) :
    Put1 A (splitF A i ⟨ks, [], is⟩).1 (h + 1) mn i lo hi es (i :: ps) (splitF A i ⟨ks, [], is⟩).2 (if is.length ≤ A.fan then 0 else 1) ∧ ((splitF A i ⟨ks, [], is⟩).2.isSome = decide (A.fan < is.length)) := by
  have hne : is ≠ [] := by intro e; rw [e] at ht2; simp at ht2
  have hsz : (⟨ks, [], is⟩ : Nod).size = is.length := by simp [Nod.size, hne]
  have hil : i < A.at_.length := hA.lt (by simp)
  unfold splitF
  rw [hsz]
  by_cases hle : is.length ≤ A.fan
  · rw [if_pos hle, if_pos hle]
    have m : Mv A (setN A i ⟨ks, [], is⟩) (i :: ps) (i :: ps) := (mv_set A i _).frame (R := ps) (fun z => by simp [List.count_cons] <;> omega) (fun z => by simp [List.count_cons] <;> omega)
    have hA1 : Acc A (Q ++ ps) [i] := hA.perm fun z => by simp [List.count_append, List.count_cons] <;> omega
    have n1 := (mv_set A i ⟨ks, [], is⟩).nds hA1
    refine ⟨⟨i :: ps, m, ⟨_, nd_set A i _ hil, by rw [hsz]; exact hle, .inr ⟨h0, by rw [hsz]; exact ht, rfl, ps, rfl, ?_⟩⟩, rfl⟩, by simp <;> omega⟩
    exact hk.mono fun htr hsub => htr.keep fun j hj => n1 j (by simp [hsub j hj])
  · rw [if_neg hle, if_neg hle]
    dsimp only
    rw [if_neg hne]
    generalize hh : (is.length + 1) / 2 = m
    obtain ⟨k, es1, es2, ps1, ps2, q1, q2, q3, q4, rfl, rfl⟩ := hk.cut m (by omega) (by omega)
    obtain ⟨mm, x1, x2, x3, hf⟩ := two_places hA ⟨ks, [], is⟩ ⟨ks.take (m - 1), [], is.take m⟩ ⟨ks.drop m, [], is.drop m⟩
    generalize place (setN (setN A i ⟨ks, [], is⟩) i ⟨ks.take (m - 1), [], is.take m⟩) ⟨ks.drop m, [], is.drop m⟩ = q at *
    have hg : ks.getD (m - 1) [] = k := by simp [List.getD, q1]
    have e1 : is.take m ≠ [] := fun e => by have h1 := congrArg List.length e; rw [List.length_take, List.length_nil] at h1; omega
    have e2 : is.drop m ≠ [] := fun e => by have h1 := congrArg List.length e; rw [List.length_drop, List.length_nil] at h1; omega
    rw [hg]
    refine ⟨⟨es1, es2, i :: ps1, q.2 :: ps2, rfl, q2, ?_, ?_, ?_, by simp <;> omega⟩, by simp <;> omega⟩
    · exact mm.trans ((Mv.refl _ _).frame (P := i :: q.2 :: (ps1 ++ ps2)) (P' := i :: q.2 :: (ps1 ++ ps2)) (R := []) (fun z => by simp) (fun z => by simp [List.count_cons, List.count_append] <;> omega))
    · refine ⟨_, x1, ?_, .inr ⟨h0, ?_, rfl, ps1, rfl, ?_⟩⟩
      · simp [Nod.size, e1]; omega
      · simp [Nod.size, e1]; omega
      · exact q3.mono fun htr hsub => htr.keep fun j hj => x3 j (by simp [hsub j hj])
    · refine ⟨_, x2, ?_, .inr ⟨h0, ?_, rfl, ps2, rfl, ?_⟩⟩
      · simp [Nod.size, e2]; omega
      · simp [Nod.size, e2]; omega
      · exact q4.mono fun htr hsub => htr.keep fun j hj => x3 j (by simp [hsub j hj])
theorem leafPut_eq {es : Es} {key val : Key} (hu : UpE es) : leafPut ⟨keysE es, valsE es, []⟩ key val = ⟨keysE (insE key val es), valsE (insE key val es), []⟩ := by
  unfold leafPut
  dsimp only
  cases hh : has (keysE es) key with
  | true => obtain ⟨h1, h2⟩ := ins_has (val := val) hh; rw [if_pos rfl, h1, h2]
  | false => obtain ⟨h1, h2⟩ := ins_no (val := val) hh; rw [if_neg (by decide), h1, h2]
def takes (A : Ar) (h i : Nat) (key : Key) (es : Es) : Nat := if inE key es then 0 else trail A.fan (sizes h A i key)
theorem inE_has (key : Key) (es : Es) : inE key es = has (keysE es) key := by
  unfold inE
  rw [get_has]
  cases hh : has (keysE es) key with
  | false => rfl
  | true =>
    rw [if_pos rfl]
    have h1 := of_decide_eq_true hh
    have h2 := (List.getElem?_eq_some_iff.1 h1).1
    rw [keysE_length] at h2
    have : pos (keysE es) key < (valsE es).length := by rw [valsE_length]; exact h2
    rw [List.getElem?_eq_getElem this]; rfl
theorem put_ok : ∀ (h : Nat) {A : Ar} {Q : List Nat} {i : Nat} {mn : Nat × Nat} {lo hi : Option Key} {es : Es} {ps : List Nat} {key val : Key}, Tree A.nd A.fan h mn i lo hi es ps → Acc A Q ps → 4 ≤ A.fan → Bnd lo hi key →
    Put1 A (putF h A i key val).1 h mn i lo hi (insE key val es) ps (putF h A i key val).2 (takes A h i key es) ∧
      ((putF h A i key val).2.isSome = (!inE key es && decide (trail A.fan (sizes h A i key) = (sizes h A i key).length)))
  | 0, _, _, _, _, _, _, _, _, _, _, ht, _, _, _ => ht.elim
  | h + 1, A, Q, i, mn, lo, hi, es, ps, key, val, ⟨n, hn, hsz, hc⟩, hA, hfan, hb => by
    have hna : nodeAt A i = n := by simp [nodeAt, hn]
    rcases hc with ⟨rfl, hmin, hk, hkeys, hvals, hu, hbn, rfl⟩ | ⟨h0, hmin, hv, ps', rfl, hk⟩
    · have hne : n = ⟨keysE es, valsE es, []⟩ := by cases n; simp_all
      have hsz' : n.size = es.length := by rw [hne]; simp [Nod.size, keysE_length]
      rw [putF]
      dsimp only
      rw [hna, if_pos hk, hne, leafPut_eq hu]
      have hlen := insE_len (key := key) (val := val) (es := es)
      have hhas := inE_has key es
      have hsl : sizes 1 A i key = [es.length] := by simp [sizes, hna, hk, hsz']
      obtain ⟨s1, s2⟩ := split_leaf (mn := mn) hA hfan (insE_up (val := val) (key := key) hu) (fun x hx => by
        rcases insE_mem hx with rfl | hx
        · exact hb
        · exact hbn x.1 (by rw [hkeys]; exact List.mem_map.2 ⟨x, hx, rfl⟩)) (by rw [hlen]; split <;> omega) (by rw [hlen]; omega)
      have ht : takes A 1 i key es = if (insE key val es).length ≤ A.fan then 0 else 1 := by
        unfold takes
        rw [hsl, hlen, hhas]
        cases has (keysE es) key with
        | true => simp; omega
        | false =>
          simp only [trail, List.length_nil, true_and, Bool.false_eq_true, if_false]
          by_cases h1 : A.fan ≤ es.length
          · rw [if_pos h1, if_neg (by omega)]
          · rw [if_neg h1, if_pos (by omega)]
      rw [ht]
      refine ⟨s1, ?_⟩
      rw [s2, hsl, hlen, hhas]
      cases has (keysE es) key with
      | true => simp; omega
      | false =>
        simp only [trail, List.length_nil, true_and, Bool.false_eq_true, if_false, Bool.not_false, Bool.true_and, List.length_cons, decide_eq_decide]
        by_cases h1 : A.fan ≤ es.length
        · rw [if_pos h1]; omega
        · rw [if_neg h1]; omega
    · have hkl := hk.len
      have hne : n.kids ≠ [] := by intro e; rw [e] at hkl; simp at hkl
      have hsz' : n.size = n.kids.length := by simp [Nod.size, hne]
      obtain ⟨ks1, ks2, is1, is2, i', lo', hi', es1, es2, e, ps1, ps2, p, f1, f2, f3, f4, f5, f6, f7, rfl, rfl, f10, f11, f12, f13, f14⟩ := hk.find Tree.inB hb
      have hkeys := hk.keys
      have hkid : kid n (bel n.keys key) = i' := by rw [kid, f2, ← f4]; simp [List.getD]
      have hA1 : Acc A (Q ++ (i :: (ps1 ++ ps2))) p := hA.perm fun z => by simp [List.count_cons, List.count_append] <;> omega
      obtain ⟨r1, r2⟩ := put_ok h (val := val) f6 hA1 hfan f10
      have hin : inE key (es1 ++ (e ++ es2)) = inE key e := by unfold inE; rw [getE_low f11, getE_high f12]
      have hins : insE key val (es1 ++ (e ++ es2)) = es1 ++ (insE key val e ++ es2) := by rw [insE_low f11, insE_high f12]
      have hsl : sizes (h + 1) A i key = n.kids.length :: sizes h A i' key := by rw [sizes, hna, if_neg hne, hkid, hsz']
      rw [putF]
      dsimp only
      rw [hna, if_neg hne, hkid, hins, hsl]
      generalize hq : putF h A i' key val = q at *
      obtain ⟨A', r⟩ := q
      have keepL : ∀ {P' : List Nat}, Mv A A' p P' → Left (Reg A'.nd A.fan h) lo ks1 is1 lo' es1 ps1 := fun m => f5.mono fun htr hs => htr.keep fun j hj => m.nds hA1 j (by simp [hs j hj])
      have keepR : ∀ {P' : List Nat}, Mv A A' p P' → Right (Reg A'.nd A.fan h) hi' hi ks2 is2 es2 ps2 := fun m => f7.mono fun htr hs => htr.keep fun j hj => m.nds hA1 j (by simp [hs j hj])
      have hks1 : ∀ k ∈ ks1, ∀ u, hi = some u → lt k u := fun k hk' => (hkeys.2 k (by rw [f1]; exact List.mem_append_left _ hk')).2
      have htk : takes A (h + 1) i key (es1 ++ (e ++ es2)) = if inE key e then 0 else trail A.fan (n.kids.length :: sizes h A i' key) := by unfold takes; rw [hin, hsl]
      rw [htk, hin]
      cases r with
      | none =>
        obtain ⟨p', m, ht, hlen⟩ := r1
        have htr : trail A.fan (n.kids.length :: sizes h A i' key) = trail A.fan (sizes h A i' key) ∨ inE key e = true := by
          cases hie : inE key e with
          | true => exact .inr rfl
          | false =>
            left
            rw [hie] at r2
            have : ¬ trail A.fan (sizes h A i' key) = (sizes h A i' key).length := by
              intro h'; rw [decide_eq_true h'] at r2; cases r2
            rw [trail, if_neg (fun h => this h.1)]
        have hm : Mv A A' (i :: (ps1 ++ (p ++ ps2))) (i :: (ps1 ++ (p' ++ ps2))) := m.frame (R := i :: (ps1 ++ ps2)) (fun z => by simp [List.count_cons, List.count_append] <;> omega) (fun z => by simp [List.count_cons, List.count_append] <;> omega)
        refine ⟨⟨_, hm, ⟨n, (m.nds hA1 i (by simp)).trans hn, hsz, .inr ⟨h0, hmin, hv, _, rfl, ?_⟩⟩, ?_⟩, ?_⟩
        · rw [f1, f2]
          exact (keepL m).join hks1 ((keepR m).join ht f14)
        · unfold takes at hlen
          simp only [List.length_cons, List.length_append, hlen]
          rcases htr with h' | h'
          · rw [h']; omega
          · rw [h']; simp <;> omega
        · show false = _
          rcases htr with h' | h'
          · cases hie : inE key e with
            | true => rfl
            | false =>
              rw [h']
              have := trail_le A.fan (sizes h A i' key)
              simp; omega
          · rw [h']; rfl
      | some br =>
        obtain ⟨b, rt⟩ := br
        obtain ⟨e1, e2, p1, p2, he, hbt, m, t1, t2, hlen⟩ := r1
        have hie : inE key e = false ∧ trail A.fan (sizes h A i' key) = (sizes h A i' key).length := by
          have : true = _ := r2
          cases hie : inE key e with
          | true => rw [hie] at this; cases this
          | false => rw [hie] at this; exact ⟨rfl, of_decide_eq_true this.symm⟩
        have hks : n.keys.insertIdx (bel n.keys key) b = ks1 ++ b :: ks2 := by rw [← f3]; conv => lhs; rw [f1]
                                                                               exact insertIdx_app _ _ _
        have hkd : n.kids.insertIdx (bel n.keys key + 1) rt = is1 ++ i' :: rt :: is2 := by
          have : bel n.keys key + 1 = (is1 ++ [i']).length := by simp [f4]
          rw [this, f2, show is1 ++ i' :: is2 = (is1 ++ [i']) ++ is2 by simp, insertIdx_app]
          simp
        have hm : Mv A A' (i :: (ps1 ++ (p ++ ps2))) (i :: (ps1 ++ (p1 ++ (p2 ++ ps2)))) := m.frame (R := i :: (ps1 ++ ps2)) (fun z => by simp [List.count_cons, List.count_append] <;> omega) (fun z => by simp [List.count_cons, List.count_append] <;> omega)
        obtain ⟨hA2, _⟩ := hm.acc Q hA
        have hK : Kids (Reg A'.nd A'.fan h) lo hi (ks1 ++ b :: ks2) (is1 ++ i' :: rt :: is2) (es1 ++ (insE key val e ++ es2)) (ps1 ++ (p1 ++ (p2 ++ ps2))) := by
          rw [m.fan, he, List.append_assoc]
          refine (keepL m).join hks1 (.cons t1 ⟨hbt.1, fun u hu => ?_⟩ ((keepR m).join t2 fun k hk' _ l hl => by cases hl; exact hbt.2 k hk'))
          cases hr : hi' with
          | none =>
            rw [hr] at f7
            cases f7 with
            | nil => cases hu
          | some k' =>
            rw [hr] at f7 hbt
            have h1 := hbt.2 k' rfl
            cases f7 with
            | nil => cases hu; exact h1
            | cons h2 _ => exact lt_trans h1 (h2 u hu)
        have hl2 : (is1 ++ i' :: rt :: is2).length = n.kids.length + 1 := by rw [f2]; simp; omega
        obtain ⟨s1, s2⟩ := split_inner (mn := mn) h0 hA2 (by rw [m.fan]; exact hfan) hK (by rw [hl2, m.fan]; omega) (by rw [hl2]; omega) (by rw [hl2]; have : 0 < n.kids.length := List.length_pos_iff.2 hne; omega)
        dsimp only
        rw [hks, hkd]
        have htr : trail A.fan (n.kids.length :: sizes h A i' key) = trail A.fan (sizes h A i' key) + (if (is1 ++ i' :: rt :: is2).length ≤ A'.fan then 0 else 1) := by
          rw [trail, hl2, m.fan]
          by_cases h1 : A.fan ≤ n.kids.length
          · rw [if_pos ⟨hie.2, h1⟩, if_neg (by omega)]
          · rw [if_neg (fun h => h1 h.2), if_pos (by omega)]; rfl
        refine ⟨?_, ?_⟩
        · rw [hie.1, if_neg (by decide), htr]
          unfold takes at hlen
          rw [hie.1, if_neg (by decide)] at hlen
          generalize splitF A' i ⟨ks1 ++ b :: ks2, [], is1 ++ i' :: rt :: is2⟩ = q2 at *
          generalize (if (is1 ++ i' :: rt :: is2).length ≤ A'.fan then 0 else 1) = tt at *
          obtain ⟨A2, r2⟩ := q2
          cases r2 with
          | none =>
            obtain ⟨pp, m2, tr2, hl3⟩ := s1
            exact ⟨pp, hm.trans m2, by rw [← m.fan]; exact tr2, by rw [hl3]; simp; omega⟩
          | some br2 =>
            obtain ⟨b2, rt2⟩ := br2
            obtain ⟨x1, x2, y1, y2, g1, g2, g3, g4, g5, g6⟩ := s1
            exact ⟨x1, x2, y1, y2, g1, g2, hm.trans g3, by rw [← m.fan]; exact g4, by rw [← m.fan]; exact g5, by rw [g6]; simp; omega⟩
        · rw [s2, hie.1, hl2, m.fan, Bool.not_false, Bool.true_and]
          refine decide_eq_decide.2 ?_
          rw [htr, hl2, m.fan, List.length_cons]
          have := hie.2
          split <;> omega
end T4
set_option linter.unusedVariables false
set_option linter.unusedSimpArgs false
namespace T4
def joinN (s : Key) (x y : Nod) : Nod := if x.kids = [] then ⟨x.keys ++ y.keys, x.vals ++ y.vals, []⟩ else ⟨x.keys ++ (s :: y.keys), [], x.kids ++ y.kids⟩
def evenF (A : Ar) (i k : Nat) : Ar :=
  let n := nodeAt A i
  let m := joinN (n.keys.getD k []) (nodeAt A (kid n k)) (nodeAt A (kid n (k + 1)))
  if m.size ≤ A.fan then setN (drop (setN A (kid n k) m) (kid n (k + 1))) i ⟨n.keys.eraseIdx k, [], n.kids.eraseIdx (k + 1)⟩
  else
    let h := m.size / 2
    if m.kids = [] then setN (setN (setN A (kid n k) ⟨m.keys.take h, m.vals.take h, []⟩) (kid n (k + 1)) ⟨m.keys.drop h, m.vals.drop h, []⟩) i ⟨n.keys.set k (m.keys.getD h []), [], n.kids⟩
    else setN (setN (setN A (kid n k) ⟨m.keys.take (h - 1), [], m.kids.take h⟩) (kid n (k + 1)) ⟨m.keys.drop h, [], m.kids.drop h⟩) i ⟨n.keys.set k (m.keys.getD (h - 1) []), [], n.kids⟩
def leafCut (n : Nod) (key : Key) : Nod := ⟨n.keys.eraseIdx (pos n.keys key), n.vals.eraseIdx (pos n.keys key), []⟩
def cutF : Nat → Ar → Nat → Key → Ar
  | 0, A, _, _ => A
  | h + 1, A, i, key =>
    let n := nodeAt A i
    if n.kids = [] then setN A i (leafCut n key)
    else
      let k := bel n.keys key
      let A' := cutF h A (kid n k) key
      if (nodeAt A' (kid n k)).size < A'.fan / 2 then evenF A' i (max k 1 - 1) else A'
theorem eraseIdx_app {α : Type} (l r : List α) (x : α) : (l ++ x :: r).eraseIdx l.length = l ++ r := by
  induction l with
  | nil => simp
  | cons a l ih => simp [ih]
theorem set_app {α : Type} (l r : List α) (x y : α) : (l ++ x :: r).set l.length y = l ++ y :: r := by
  induction l with
  | nil => simp
  | cons a l ih => simp [ih]
theorem Kids.append {T : TP} {lo hi : Option Key} {s : Key} {ks1 ks2 : List Key} {is1 is2 : List Nat} {es1 es2 : Es} {ps1 ps2 : List Nat} (h : Kids T lo (some s) ks1 is1 es1 ps1) (hlo : ∀ l, lo = some l → lt l s) (hhi : ∀ u, hi = some u → lt s u) (hk : Kids T (some s) hi ks2 is2 es2 ps2) :
    Kids T lo hi (ks1 ++ s :: ks2) (is1 ++ is2) (es1 ++ es2) (ps1 ++ ps2) := by
  generalize hm : some s = m at h
  induction h with
  | one h => subst hm; exact .cons h ⟨hlo, hhi⟩ hk
  | cons h hb hk' ih =>
    subst hm
    rw [List.cons_append, List.cons_append, List.append_assoc, List.append_assoc]
    exact .cons h ⟨hb.1, fun u hu => lt_trans (hb.2 s rfl) (hhi u hu)⟩ (ih (fun l hl => by cases hl; exact hb.2 s rfl) rfl)
theorem Left.unsnoc {T : TP} {lo mid : Option Key} {ks : List Key} {is : List Nat} {es : Es} {ps : List Nat} (h : Left T lo ks is mid es ps) (hne : is ≠ []) :
    ∃ ksL isL loL esL psL s a ea pa, ks = ksL ++ [s] ∧ is = isL ++ [a] ∧ mid = some s ∧ Left T lo ksL isL loL esL psL ∧ T a loL (some s) ea pa ∧ es = esL ++ ea ∧ ps = psL ++ pa ∧ (∀ l, loL = some l → lt l s) ∧ isL.length = ksL.length := by
  induction h with
  | nil => exact absurd rfl hne
  | cons h hb hl hm ih =>
    rename_i i lo k ks is mid es es' ps ps'
    cases hl with
    | nil => exact ⟨[], [], lo, [], [], k, i, es, ps, rfl, rfl, rfl, .nil, h, by simp, by simp, hb, rfl⟩
    | cons h2 hb2 hl2 hm2 =>
      obtain ⟨ksL, isL, loL, esL, psL, s, a, ea, pa, e1, e2, e3, e4, e5, e6, e7, e8, e9⟩ := ih (by simp)
      refine ⟨k :: ksL, i :: isL, loL, es ++ esL, ps ++ psL, s, a, ea, pa, by rw [e1]; rfl, by rw [e2]; rfl, e3, .cons h hb e4 ?_, e5, by rw [e6]; simp, by rw [e7]; simp, e8, by simp [e9]⟩
      intro l hl
      cases e4 with
      | nil => cases hl; exact lt_irrefl _
      | cons h3 hb3 hl3 hm3 =>
        exact lt_asymm (lt_of_lt_nlt (hb3 k rfl) (hm3 l hl))
theorem Right.uncons {T : TP} {mid hi : Option Key} {ks : List Key} {is : List Nat} {es : Es} {ps : List Nat} (h : Right T mid hi ks is es ps) (hne : is ≠ []) :
    ∃ s ksR b isR hiR eb esR pb psR, mid = some s ∧ ks = s :: ksR ∧ is = b :: isR ∧ T b (some s) hiR eb pb ∧ Right T hiR hi ksR isR esR psR ∧ es = eb ++ esR ∧ ps = pb ++ psR ∧ (∀ u, hiR = some u → lt s u) := by
  cases h with
  | nil => exact absurd rfl hne
  | cons hb hk =>
    cases hk with
    | one h => exact ⟨_, [], _, [], hi, _, [], _, [], rfl, rfl, rfl, h, .nil, by simp, by simp, hb⟩
    | cons h hbt hk2 => exact ⟨_, _, _, _, _, _, _, _, _, rfl, rfl, rfl, h, .cons hbt.2 hk2, rfl, rfl, fun u hu => by cases hu; exact hbt.1 _ rfl⟩
theorem nd_drop_ne (A : Ar) (i j : Nat) (h : i ≠ j) : (drop A i).nd j = A.nd j := by simp [Ar.nd, drop, List.getElem?_set_ne h]
theorem inner_size (ks : List Key) (is : List Nat) (h : is ≠ []) : (⟨ks, [], is⟩ : Nod).size = is.length := by simp [Nod.size, h]
theorem leaf_size (ks vs : List Key) : (⟨ks, vs, []⟩ : Nod).size = ks.length := by simp [Nod.size]
theorem Kids.ne {T : TP} {lo hi : Option Key} {ks : List Key} {is : List Nat} {es : Es} {ps : List Nat} (h : Kids T lo hi ks is es ps) : is ≠ [] := by
  have := h.len; intro e; rw [e] at this; simp at this
theorem join_ok {nd : Nat → Option Nod} {fan h : Nat} {mn : Nat × Nat} {a b : Nat} {lo hi : Option Key} {s : Key} {ea eb : Es} {pa pb : List Nat} {x y : Nod} (ha : Tree nd fan h mn a lo (some s) ea pa) (hb : Tree nd fan h mn b (some s) hi eb pb) (hx : nd a = some x) (hy : nd b = some y) (hlo : ∀ l, lo = some l → lt l s) (hhi : ∀ u, hi = some u → lt s u) :
    (joinN s x y).size = x.size + y.size ∧
    ((h = 1 ∧ joinN s x y = ⟨keysE (ea ++ eb), valsE (ea ++ eb), []⟩ ∧ UpE (ea ++ eb) ∧ (∀ k ∈ keysE (ea ++ eb), Bnd lo hi k) ∧ pa = [a] ∧ pb = [b]) ∨
     (1 < h ∧ ∃ ks is qa qb, joinN s x y = ⟨ks, [], is⟩ ∧ is ≠ [] ∧ pa = a :: qa ∧ pb = b :: qb ∧ Kids (Reg nd fan (h - 1)) lo hi ks is (ea ++ eb) (qa ++ qb))) := by
  have iA := ha.inB
  have iB := hb.inB
  have uA := ha.up
  have uB := hb.up
  cases h with
  | zero => exact ha.elim
  | succ h =>
    obtain ⟨n, h1, h2, h4⟩ := ha
    obtain ⟨m, g1, g2, g4⟩ := hb
    rw [hx] at h1; cases h1
    rw [hy] at g1; cases g1
    rcases h4 with ⟨e0, h3, h5, h6, h7, h8, h9, rfl⟩ | ⟨e0, h3, h5, qa, rfl, hk⟩
    · rcases g4 with ⟨_, g3, g5, g6, g7, g8, g9, rfl⟩ | ⟨g0, _⟩
      · have e : joinN s x y = ⟨keysE (ea ++ eb), valsE (ea ++ eb), []⟩ := by rw [joinN, if_pos h5, h6, h7, g6, g7, keysE_append, valsE_append]
        refine ⟨by rw [e, leaf_size, keysE_append, List.length_append, ← h6, ← g6]; simp [Nod.size, h5, g5], .inl ⟨by omega, e, ?_, ?_, rfl, rfl⟩⟩
        · show Up (keysE (ea ++ eb))
          rw [keysE_append]
          refine List.pairwise_append.2 ⟨uA, uB, fun p hp q hq => ?_⟩
          obtain ⟨z, hz, rfl⟩ := List.mem_map.1 hp
          obtain ⟨t, ht, rfl⟩ := List.mem_map.1 hq
          exact lt_of_lt_nlt ((iA z hz).2 s rfl) ((iB t ht).1 s rfl)
        · intro k hk
          rw [keysE_append] at hk
          rcases List.mem_append.1 hk with hk | hk
          · obtain ⟨z, hz, rfl⟩ := List.mem_map.1 hk
            have := iA z hz
            exact ⟨this.1, fun u hu => lt_trans (this.2 s rfl) (hhi u hu)⟩
          · obtain ⟨z, hz, rfl⟩ := List.mem_map.1 hk
            have := iB z hz
            exact ⟨fun l hl h => this.1 s rfl (lt_trans h (hlo l hl)), this.2⟩
      · omega
    · rcases g4 with ⟨g0, _⟩ | ⟨g0, g3, g5, qb, rfl, gk⟩
      · omega
      · have hne := hk.ne
        have gne := gk.ne
        have e : joinN s x y = ⟨x.keys ++ (s :: y.keys), [], x.kids ++ y.kids⟩ := by rw [joinN, if_neg hne]
        refine ⟨by rw [e, inner_size _ _ (by simp [hne]), List.length_append]; simp [Nod.size, hne, gne], .inr ⟨by omega, _, _, qa, qb, e, by simp [hne], rfl, rfl, ?_⟩⟩
        exact hk.append hlo hhi gk
theorem even_ok {A : Ar} {Q : List Nat} {h i a b : Nat} {lo loL hiR hi : Option Key} {s : Key} {ksL ksR : List Key} {isL isR : List Nat} {esL ea eb esR : Es} {psL pa pb psR : List Nat} {mn : Nat × Nat}
    (hn : A.nd i = some ⟨ksL ++ s :: ksR, [], isL ++ a :: b :: isR⟩) (hlen : isL.length = ksL.length) (hA : Acc A Q (i :: (psL ++ (pa ++ (pb ++ psR))))) (hfan : 4 ≤ A.fan)
    (hL : Left (Reg A.nd A.fan h) lo ksL isL loL esL psL) (hR : Right (Reg A.nd A.fan h) hiR hi ksR isR esR psR) (ha : Tree A.nd A.fan h mn a loL (some s) ea pa) (hb : Tree A.nd A.fan h mn b (some s) hiR eb pb)
    (hlo : ∀ l, loL = some l → lt l s) (hhi : ∀ u, hiR = some u → lt s u) (hks : ∀ k ∈ ksL, ∀ u, hi = some u → lt k u) (hRL : ∀ k, hiR = some k → ksR ≠ [] → ∀ l, loL = some l → lt l k)
    (hsum : ∀ x y, A.nd a = some x → A.nd b = some y → A.fan / 2 ≤ x.size + y.size) :
    ∃ ks is ps, Mv A (evenF A i ksL.length) (i :: (psL ++ (pa ++ (pb ++ psR)))) (i :: ps) ∧ (evenF A i ksL.length).nd i = some ⟨ks, [], is⟩ ∧ Kids (Reg (evenF A i ksL.length).nd A.fan h) lo hi ks is (esL ++ (ea ++ (eb ++ esR))) ps ∧ is.length ≤ isL.length + 2 + isR.length ∧ isL.length + 1 + isR.length ≤ is.length := by
  obtain ⟨x, hx, hxs⟩ : ∃ x, A.nd a = some x ∧ x.size ≤ A.fan := by cases h with | zero => exact ha.elim | succ h => obtain ⟨n, h1, h2, _⟩ := ha; exact ⟨n, h1, h2⟩
  obtain ⟨y, hy, hys⟩ : ∃ x, A.nd b = some x ∧ x.size ≤ A.fan := by cases h with | zero => exact hb.elim | succ h => obtain ⟨n, h1, h2, _⟩ := hb; exact ⟨n, h1, h2⟩
  have hs := hsum x y hx hy
  obtain ⟨hms, hm⟩ := join_ok ha hb hx hy hlo hhi
  have hpa : ∃ qa, pa = a :: qa := by rcases hm with ⟨_, _, _, _, h, _⟩ | ⟨_, _, _, qa, _, _, _, h, _⟩ <;> exact ⟨_, h⟩
  have hpb : ∃ qb, pb = b :: qb := by rcases hm with ⟨_, _, _, _, _, h⟩ | ⟨_, _, _, _, qb, _, _, _, h, _⟩ <;> exact ⟨_, h⟩
  obtain ⟨qa, rfl⟩ := hpa
  obtain ⟨qb, rfl⟩ := hpb
  -- each place is another one
  have cnt : ∀ z, Q.count z + (i :: (psL ++ (a :: qa ++ (b :: qb ++ psR)))).count z ≤ 1 := fun z => by have := hA z; split at this <;> omega
  have dj : i ≠ a ∧ i ≠ b ∧ a ≠ b ∧ (∀ j ∈ psL, j ≠ i ∧ j ≠ a ∧ j ≠ b) ∧ (∀ j ∈ psR, j ≠ i ∧ j ≠ a ∧ j ≠ b) ∧ (∀ j ∈ qa, j ≠ i ∧ j ≠ a ∧ j ≠ b) ∧ (∀ j ∈ qb, j ≠ i ∧ j ≠ a ∧ j ≠ b) := by
    have key : ∀ z, (if i = z then 1 else 0) + psL.count z + (if a = z then 1 else 0) + qa.count z + (if b = z then 1 else 0) + qb.count z + psR.count z ≤ 1 := fun z => by
      have := cnt z
      simp only [List.count_cons, List.count_append, beq_iff_eq] at this
      omega
    refine ⟨?_, ?_, ?_, ?_, ?_, ?_, ?_⟩
    · rintro rfl; have := key i; simp at this; omega
    · rintro rfl; have := key i; simp at this; omega
    · rintro rfl; have := key a; simp at this; omega
    all_goals
      intro j hj
      have h1 := List.count_pos_iff.2 hj
      have h2 := key j
      refine ⟨?_, ?_, ?_⟩ <;> (rintro rfl; simp at h2; omega)
  obtain ⟨d1, d2, d3, dL, dR, da, db⟩ := dj
  have hil : i < A.at_.length := hA.lt (by simp)
  have hal : a < A.at_.length := hA.lt (by simp)
  have hbl : b < A.at_.length := hA.lt (by simp)
  have hni : nodeAt A i = ⟨ksL ++ s :: ksR, [], isL ++ a :: b :: isR⟩ := by simp [nodeAt, hn]
  have hk1 : kid ⟨ksL ++ s :: ksR, [], isL ++ a :: b :: isR⟩ ksL.length = a := by rw [kid, ← hlen]; simp [List.getD]
  have hk2 : kid ⟨ksL ++ s :: ksR, [], isL ++ a :: b :: isR⟩ (ksL.length + 1) = b := by rw [kid, ← hlen]; simp [List.getD]
  have hsk : (ksL ++ s :: ksR).getD ksL.length [] = s := by simp [List.getD]
  have hna : nodeAt A a = x := by simp [nodeAt, hx]
  have hnb : nodeAt A b = y := by simp [nodeAt, hy]
  unfold evenF
  dsimp only
  rw [hni, hk1, hk2, hna, hnb]
  dsimp only
  rw [hsk, eraseIdx_app, set_app]
  have her : (isL ++ a :: b :: isR).eraseIdx (ksL.length + 1) = isL ++ a :: isR := by
    rw [← hlen, show isL.length + 1 = (isL ++ [a]).length by simp, show isL ++ a :: b :: isR = (isL ++ [a]) ++ b :: isR by simp, eraseIdx_app]; simp
  rw [her]
  by_cases hle : (joinN s x y).size ≤ A.fan
  · rw [if_pos hle]
    have mv : Mv A (setN (drop (setN A a (joinN s x y)) b) i ⟨ksL ++ ksR, [], isL ++ a :: isR⟩) (i :: (psL ++ (a :: qa ++ (b :: qb ++ psR)))) (i :: (psL ++ (a :: qa ++ (qb ++ psR)))) := by
      refine Mv.trans ((mv_set A a (joinN s x y)).frame (R := i :: (psL ++ (qa ++ (b :: qb ++ psR)))) (R1' := i :: (psL ++ (a :: qa ++ (b :: qb ++ psR)))) (fun z => by simp [List.count_cons, List.count_append] <;> omega) (fun z => by simp [List.count_cons, List.count_append] <;> omega)) ?_
      refine Mv.trans ((mv_drop _ b).frame (R := i :: (psL ++ (a :: qa ++ (qb ++ psR)))) (R1' := i :: (psL ++ (a :: qa ++ (qb ++ psR)))) (fun z => by simp [List.count_cons, List.count_append] <;> omega) (fun z => by simp)) ?_
      exact (mv_set _ i _).frame (R := psL ++ (a :: qa ++ (qb ++ psR))) (fun z => by simp [List.count_cons, List.count_append] <;> omega) (fun z => by simp [List.count_cons, List.count_append] <;> omega)
    have ndi : (setN (drop (setN A a (joinN s x y)) b) i ⟨ksL ++ ksR, [], isL ++ a :: isR⟩).nd i = some ⟨ksL ++ ksR, [], isL ++ a :: isR⟩ := nd_set _ i _ (by simpa [setN, drop] using hil)
    have ndj : ∀ j, j ≠ i → j ≠ a → j ≠ b → (setN (drop (setN A a (joinN s x y)) b) i ⟨ksL ++ ksR, [], isL ++ a :: isR⟩).nd j = A.nd j := fun j h1 h2 h3 => by
      rw [nd_set_ne _ _ _ _ (fun e => h1 e.symm), nd_drop_ne _ _ _ (fun e => h3 e.symm), nd_set_ne _ _ _ _ (fun e => h2 e.symm)]
    have nda : (setN (drop (setN A a (joinN s x y)) b) i ⟨ksL ++ ksR, [], isL ++ a :: isR⟩).nd a = some (joinN s x y) := by
      rw [nd_set_ne _ _ _ _ d1, nd_drop_ne _ _ _ (fun e => d3 e.symm), nd_set _ _ _ hal]
    generalize setN (drop (setN A a (joinN s x y)) b) i ⟨ksL ++ ksR, [], isL ++ a :: isR⟩ = B at *
    have tm : Reg B.nd A.fan h a loL hiR (ea ++ eb) (a :: (qa ++ qb)) := by
      rcases hm with ⟨h1, e, hu, hbn, _, _⟩ | ⟨h1, ks, is, qa', qb', e, hne, e1, e2, hk⟩
      · obtain ⟨h0, rfl⟩ : ∃ h0, h = h0 + 1 := ⟨h - 1, by omega⟩
        obtain rfl : h0 = 0 := by omega
        rename_i e1 e2
        cases e1; cases e2
        exact ⟨_, nda, hle, .inl ⟨rfl, by rw [hms]; exact hs, by rw [e], by rw [e], by rw [e], hu, by rw [e]; exact hbn, rfl⟩⟩
      · obtain ⟨h0, rfl⟩ : ∃ h0, h = h0 + 1 := ⟨h - 1, by omega⟩
        cases e1; cases e2
        refine ⟨_, nda, hle, .inr ⟨by omega, by rw [hms]; exact hs, by rw [e], _, rfl, ?_⟩⟩
        rw [e]
        exact hk.mono fun ht hsub => ht.keep fun j hj => by
          rcases List.mem_append.1 (hsub j hj) with h | h
          · obtain ⟨g1, g2, g3⟩ := da j h; exact ndj j g1 g2 g3
          · obtain ⟨g1, g2, g3⟩ := db j h; exact ndj j g1 g2 g3
    refine ⟨_, _, psL ++ (a :: (qa ++ qb) ++ psR), mv.trans ((Mv.refl _ _).frame (P := i :: (psL ++ (a :: qa ++ (qb ++ psR)))) (P' := i :: (psL ++ (a :: qa ++ (qb ++ psR)))) (R := []) (fun z => by simp) (fun z => by simp [List.count_cons, List.count_append] <;> omega)), ndi, ?_, by simp <;> omega, by simp <;> omega⟩
    have hj : ea ++ (eb ++ esR) = (ea ++ eb) ++ esR := by simp
    rw [hj]
    exact (hL.mono fun ht hsub => ht.keep fun j hj => by obtain ⟨g1, g2, g3⟩ := dL j (hsub j hj); exact ndj j g1 g2 g3).join hks ((hR.mono fun ht hsub => ht.keep fun j hj => by obtain ⟨g1, g2, g3⟩ := dR j (hsub j hj); exact ndj j g1 g2 g3).join tm hRL)
  · rw [if_neg hle]
    -- two even ones
    have two : ∀ (u v : Nod) (k' : Key) (e1 e2 : Es) (p1 p2 : List Nat), (∀ (nd : Nat → Option Nod), nd a = some u → nd b = some v → (∀ j ∈ qa ++ qb, nd j = A.nd j) → Reg nd A.fan h a loL (some k') e1 (a :: p1) ∧ Reg nd A.fan h b (some k') hiR e2 (b :: p2)) → ea ++ eb = e1 ++ e2 → qa ++ qb = p1 ++ p2 → Btw loL hiR k' →
        ∃ ks is ps, Mv A (setN (setN (setN A a u) b v) i ⟨ksL ++ k' :: ksR, [], isL ++ a :: b :: isR⟩) (i :: (psL ++ (a :: qa ++ (b :: qb ++ psR)))) (i :: ps) ∧ (setN (setN (setN A a u) b v) i ⟨ksL ++ k' :: ksR, [], isL ++ a :: b :: isR⟩).nd i = some ⟨ks, [], is⟩ ∧
          Kids (Reg (setN (setN (setN A a u) b v) i ⟨ksL ++ k' :: ksR, [], isL ++ a :: b :: isR⟩).nd A.fan h) lo hi ks is (esL ++ (ea ++ (eb ++ esR))) ps ∧ is.length ≤ isL.length + 2 + isR.length ∧ isL.length + 1 + isR.length ≤ is.length := by
      intro u v k' e1 e2 p1 p2 hT he hp hbt
      have ndi : (setN (setN (setN A a u) b v) i ⟨ksL ++ k' :: ksR, [], isL ++ a :: b :: isR⟩).nd i = some ⟨ksL ++ k' :: ksR, [], isL ++ a :: b :: isR⟩ := nd_set _ i _ (by simpa [setN] using hil)
      have ndj : ∀ j, j ≠ i → j ≠ a → j ≠ b → (setN (setN (setN A a u) b v) i ⟨ksL ++ k' :: ksR, [], isL ++ a :: b :: isR⟩).nd j = A.nd j := fun j h1 h2 h3 => by
        rw [nd_set_ne _ _ _ _ (fun e => h1 e.symm), nd_set_ne _ _ _ _ (fun e => h3 e.symm), nd_set_ne _ _ _ _ (fun e => h2 e.symm)]
      have nda : (setN (setN (setN A a u) b v) i ⟨ksL ++ k' :: ksR, [], isL ++ a :: b :: isR⟩).nd a = some u := by
        rw [nd_set_ne _ _ _ _ d1, nd_set_ne _ _ _ _ (fun e => d3 e.symm), nd_set _ _ _ hal]
      have ndb : (setN (setN (setN A a u) b v) i ⟨ksL ++ k' :: ksR, [], isL ++ a :: b :: isR⟩).nd b = some v := by
        rw [nd_set_ne _ _ _ _ d2, nd_set _ _ _ (by simpa [setN] using hbl)]
      have mv : Mv A (setN (setN (setN A a u) b v) i ⟨ksL ++ k' :: ksR, [], isL ++ a :: b :: isR⟩) (i :: (psL ++ (a :: qa ++ (b :: qb ++ psR)))) (i :: (psL ++ (a :: p1 ++ (b :: p2 ++ psR)))) := by
        have hpc : ∀ z, qa.count z + qb.count z = p1.count z + p2.count z := fun z => by have := congrArg (List.count z) hp; simpa [List.count_append] using this
        refine Mv.trans ((mv_set A a u).frame (R := i :: (psL ++ (qa ++ (b :: qb ++ psR)))) (R1' := i :: (psL ++ (a :: qa ++ (b :: qb ++ psR)))) (fun z => by simp [List.count_cons, List.count_append] <;> omega) (fun z => by simp [List.count_cons, List.count_append] <;> omega)) ?_
        refine Mv.trans ((mv_set _ b v).frame (R := i :: (psL ++ (a :: qa ++ (qb ++ psR)))) (R1' := i :: (psL ++ (a :: qa ++ (b :: qb ++ psR)))) (fun z => by simp [List.count_cons, List.count_append] <;> omega) (fun z => by simp [List.count_cons, List.count_append] <;> omega)) ?_
        exact (mv_set _ i _).frame (R := psL ++ (a :: qa ++ (b :: qb ++ psR))) (fun z => by simp [List.count_cons, List.count_append] <;> omega) (fun z => by have := hpc z; simp [List.count_cons, List.count_append] <;> omega)
      generalize setN (setN (setN A a u) b v) i ⟨ksL ++ k' :: ksR, [], isL ++ a :: b :: isR⟩ = B at *
      obtain ⟨t1, t2⟩ := hT B.nd nda ndb (fun j hj => by
        rcases List.mem_append.1 hj with h | h
        · obtain ⟨g1, g2, g3⟩ := da j h; exact ndj j g1 g2 g3
        · obtain ⟨g1, g2, g3⟩ := db j h; exact ndj j g1 g2 g3)
      refine ⟨_, _, psL ++ (a :: p1 ++ (b :: p2 ++ psR)), mv, ndi, ?_, by simp <;> omega, by simp <;> omega⟩
      have hj : ea ++ (eb ++ esR) = e1 ++ (e2 ++ esR) := by rw [← List.append_assoc, he, List.append_assoc]
      rw [hj]
      refine (hL.mono fun ht hsub => ht.keep fun j hj => by obtain ⟨g1, g2, g3⟩ := dL j (hsub j hj); exact ndj j g1 g2 g3).join hks ?_
      refine .cons t1 ⟨hbt.1, fun z hz => ?_⟩ ((hR.mono fun ht hsub => ht.keep fun j hj => by obtain ⟨g1, g2, g3⟩ := dR j (hsub j hj); exact ndj j g1 g2 g3).join t2 fun k hk' _ l hl => by cases hl; exact hbt.2 k hk')
      cases hr : hiR with
      | none =>
        rw [hr] at hR
        cases hR with
        | nil => cases hz
      | some k2 =>
        rw [hr] at hR hbt
        have h1 := hbt.2 k2 rfl
        cases hR with
        | nil => cases hz; exact h1
        | cons h2 _ => exact lt_trans h1 (h2 z hz)
    rcases hm with ⟨h1, e, hu, hbn, e1, e2⟩ | ⟨h1, ks, is, qa', qb', e, hne, e1, e2, hk⟩
    · cases e1; cases e2
      rw [e] at hle hms ⊢
      dsimp only
      rw [leaf_size] at hle hms ⊢
      rw [if_pos rfl]
      obtain ⟨h0, rfl⟩ : ∃ h0, h = h0 + 1 := ⟨h - 1, by omega⟩
      obtain rfl : h0 = 0 := by omega
      generalize hes : ea ++ eb = es at *
      generalize hh : (keysE es).length / 2 = hf at *
      have hkl : hf < (keysE es).length := by omega
      have hmid := mid hkl
      have hget : (keysE es).getD hf [] = (keysE es)[hf] := by simp [List.getD, hkl]
      have hmem : (keysE es).getD hf [] ∈ keysE es := by rw [hget]; simp
      have hu' : Up (keysE es) := hu
      rw [hmid] at hu'
      obtain ⟨u1, u2, u3⟩ := List.pairwise_append.1 hu'
      have hk1' : keysE (es.take hf) = (keysE es).take hf := by simp [keysE, List.map_take]
      have hk2' : keysE (es.drop hf) = (keysE es).drop hf := by simp [keysE, List.map_drop]
      have hv1 : valsE (es.take hf) = (valsE es).take hf := by simp [valsE, List.map_take]
      have hv2 : valsE (es.drop hf) = (valsE es).drop hf := by simp [valsE, List.map_drop]
      have hdrop : (keysE es).drop hf = (keysE es).getD hf [] :: (keysE es).drop (hf + 1) := by rw [List.drop_eq_getElem_cons hkl, hget]
      have hkl2 := keysE_length es
      refine two ⟨(keysE es).take hf, (valsE es).take hf, []⟩ ⟨(keysE es).drop hf, (valsE es).drop hf, []⟩ ((keysE es).getD hf []) (es.take hf) (es.drop hf) [] [] (fun nd na nb _ => ⟨?_, ?_⟩) (by rw [List.take_append_drop]) rfl ?_
      · refine ⟨_, na, ?_, .inl ⟨rfl, ?_, rfl, hk1'.symm, hv1.symm, by show Up (keysE (es.take hf)); rw [hk1']; exact u1, fun k hk => ?_, rfl⟩⟩
        · rw [leaf_size]; simp; omega
        · rw [leaf_size]; simp; omega
        · exact ⟨(hbn k (List.mem_of_mem_take hk)).1, fun u hu2 => by cases hu2; exact u3 k hk _ List.mem_cons_self⟩
      · refine ⟨_, nb, ?_, .inl ⟨rfl, ?_, rfl, hk2'.symm, hv2.symm, by show Up (keysE (es.drop hf)); rw [hk2', hdrop]; exact u2, fun k hk => ?_, rfl⟩⟩
        · rw [leaf_size]; simp; omega
        · rw [leaf_size]; simp; omega
        · refine ⟨fun l hl => ?_, (hbn k (List.mem_of_mem_drop hk)).2⟩
          cases hl
          have hk : k ∈ (keysE es).drop hf := hk
          rw [hdrop] at hk
          rcases List.mem_cons.1 hk with rfl | hk
          · exact lt_irrefl _
          · exact lt_asymm ((List.pairwise_cons.1 u2).1 k hk)
      · refine ⟨fun l hl => ?_, fun u hu2 => (hbn _ hmem).2 u hu2⟩
        have h00 : (keysE es)[0]'(by omega) ∈ (keysE es).take hf := by
          rw [List.mem_take_iff_getElem]
          exact ⟨0, by omega, rfl⟩
        have h3 := u3 _ h00 _ (List.mem_cons_self)
        exact lt_of_nlt_lt ((hbn _ (List.mem_of_mem_take h00)).1 l hl) h3
    · cases e1; cases e2
      rw [e] at hle hms ⊢
      dsimp only
      rw [inner_size _ _ hne] at hle hms ⊢
      rw [if_neg hne]
      obtain ⟨h0, rfl⟩ : ∃ h0, h = h0 + 1 := ⟨h - 1, by omega⟩
      rw [Nat.add_sub_cancel] at hk
      generalize hh : is.length / 2 = hf at *
      obtain ⟨k, es1, es2, ps1, ps2, q1, q2, q3, q4, q5, q6⟩ := hk.cut hf (by omega) (by omega)
      have hg : ks.getD (hf - 1) [] = k := by simp [List.getD, q1]
      have en1 : is.take hf ≠ [] := fun e => by have h1 := congrArg List.length e; rw [List.length_take, List.length_nil] at h1; omega
      have en2 : is.drop hf ≠ [] := fun e => by have h1 := congrArg List.length e; rw [List.length_drop, List.length_nil] at h1; omega
      rw [hg, set_app]
      refine two ⟨ks.take (hf - 1), [], is.take hf⟩ ⟨ks.drop hf, [], is.drop hf⟩ k es1 es2 ps1 ps2 (fun nd na nb nq => ⟨?_, ?_⟩) q5 q6 q2
      · refine ⟨_, na, ?_, .inr ⟨by omega, ?_, rfl, ps1, rfl, ?_⟩⟩
        · rw [inner_size _ _ en1]; simp; omega
        · rw [inner_size _ _ en1]; simp; omega
        · exact q3.mono fun ht hsub => ht.keep fun j hj => nq j (by rw [q6]; simp [hsub j hj])
      · refine ⟨_, nb, ?_, .inr ⟨by omega, ?_, rfl, ps2, rfl, ?_⟩⟩
        · rw [inner_size _ _ en2]; simp; omega
        · rw [inner_size _ _ en2]; simp; omega
        · exact q4.mono fun ht hsub => ht.keep fun j hj => nq j (by rw [q6]; simp [hsub j hj])
theorem cut_ok : ∀ (h : Nat) {A : Ar} {Q : List Nat} {i : Nat} {mn : Nat × Nat} {lo hi : Option Key} {es : Es} {ps : List Nat} {key : Key}, Tree A.nd A.fan h mn i lo hi es ps → Acc A Q ps → 4 ≤ A.fan → 2 ≤ mn.2 → Bnd lo hi key → inE key es = true →
    ∃ ps', Mv A (cutF h A i key) ps ps' ∧ Tree (cutF h A i key).nd A.fan h (mn.1 - 1, mn.2 - 1) i lo hi (delE key es) ps'
  | 0, _, _, _, _, _, _, _, _, _, ht, _, _, _, _, _ => ht.elim
  | h + 1, A, Q, i, mn, lo, hi, es, ps, key, ⟨n, hn, hsz, hc⟩, hA, hfan, hmn, hb, hin => by
    have hna : nodeAt A i = n := by simp [nodeAt, hn]
    rcases hc with ⟨rfl, hmin, hk, hkeys, hvals, hu, hbn, rfl⟩ | ⟨h0, hmin, hv, ps', rfl, hk⟩
    · have hne : n = ⟨keysE es, valsE es, []⟩ := by cases n; simp_all
      have hh : has (keysE es) key = true := by rw [← inE_has]; exact hin
      obtain ⟨d1, d2⟩ := del_has hh
      have hl := delE_len (key := key) (es := es)
      rw [hh, if_pos rfl] at hl
      rw [cutF]
      dsimp only
      rw [hna, if_pos hk]
      have e : leafCut n key = ⟨keysE (delE key es), valsE (delE key es), []⟩ := by rw [hne, leafCut, d1, d2]
      rw [e]
      rw [hne, leaf_size, keysE_length] at hsz hmin
      refine ⟨[i], mv_set A i _, ⟨_, nd_set A i _ (hA.lt (by simp)), ?_, .inl ⟨rfl, ?_, rfl, rfl, rfl, delE_up hu, fun k hk' => ?_, rfl⟩⟩⟩
      · rw [leaf_size, keysE_length]; omega
      · rw [leaf_size, keysE_length]; dsimp only; omega
      · refine hbn k ?_
        rw [hkeys]
        exact (delE_sub.map _).subset hk'
    · have hkl := hk.len
      have hne : n.kids ≠ [] := hk.ne
      have hsz' : n.size = n.kids.length := by simp [Nod.size, hne]
      have hnn : n = ⟨n.keys, [], n.kids⟩ := by cases n; simp_all
      obtain ⟨ks1, ks2, is1, is2, i', lo', hi', es1, es2, e, ps1, ps2, p, f1, f2, f3, f4, f5, f6, f7, rfl, rfl, f10, f11, f12, f13, f14⟩ := hk.find Tree.inB hb
      have hkeys := hk.keys
      have hkid : kid n (bel n.keys key) = i' := by rw [kid, f2, ← f4]; simp [List.getD]
      have hA1 : Acc A (Q ++ (i :: (ps1 ++ ps2))) p := hA.perm fun z => by simp [List.count_cons, List.count_append] <;> omega
      have hin2 : inE key e = true := by unfold inE at hin ⊢; rw [getE_low f11, getE_high f12] at hin; exact hin
      have hdel : delE key (es1 ++ (e ++ es2)) = es1 ++ (delE key e ++ es2) := by rw [delE_low f11, delE_high f12]
      obtain ⟨p', m, ht⟩ := cut_ok h f6 hA1 hfan (by show 2 ≤ A.fan / 2; omega) f10 hin2
      rw [cutF]
      dsimp only
      rw [hna, if_neg hne, hkid, hdel]
      generalize hq : cutF h A i' key = A' at *
      have hL : Left (Reg A'.nd A.fan h) lo ks1 is1 lo' es1 ps1 := f5.mono fun htr hs => htr.keep fun j hj => m.nds hA1 j (by simp [hs j hj])
      have hR : Right (Reg A'.nd A.fan h) hi' hi ks2 is2 es2 ps2 := f7.mono fun htr hs => htr.keep fun j hj => m.nds hA1 j (by simp [hs j hj])
      have hks1 : ∀ k ∈ ks1, ∀ u, hi = some u → lt k u := fun k hk' => (hkeys.2 k (by rw [f1]; exact List.mem_append_left _ hk')).2
      have hm : Mv A A' (i :: (ps1 ++ (p ++ ps2))) (i :: (ps1 ++ (p' ++ ps2))) := m.frame (R := i :: (ps1 ++ ps2)) (fun z => by simp [List.count_cons, List.count_append] <;> omega) (fun z => by simp [List.count_cons, List.count_append] <;> omega)
      obtain ⟨hA2, _⟩ := hm.acc Q hA
      have hni : A'.nd i = some n := (m.nds hA1 i (by simp)).trans hn
      have hkn : 2 ≤ n.kids.length := by omega
      obtain ⟨x, hx⟩ : ∃ x, A'.nd i' = some x := by cases h with | zero => exact ht.elim | succ h => obtain ⟨x, h1, _⟩ := ht; exact ⟨x, h1⟩
      have hxn : nodeAt A' i' = x := by simp [nodeAt, hx]
      rw [hxn, m.fan]
      by_cases hlt : x.size < A.fan / 2
      rotate_left
      · rw [if_neg hlt]
        have ht2 : Reg A'.nd A.fan h i' lo' hi' (delE key e) p' := ht.size fun y hy => by rw [hx] at hy; cases hy; exact ⟨fun _ _ => by dsimp only; omega, fun _ _ => by dsimp only; omega⟩
        refine ⟨_, hm, ⟨n, hni, hsz, .inr ⟨h0, by dsimp only; omega, hv, _, rfl, ?_⟩⟩⟩
        rw [f1, f2]
        exact hL.join hks1 (hR.join ht2 f14)
      rw [if_pos hlt]
      have hxsz : A.fan / 2 - 1 ≤ x.size := by
        cases h with
        | zero => exact ht.elim
        | succ h =>
          obtain ⟨y, h1, h2, h4⟩ := ht
          rw [hx] at h1; cases h1
          rcases h4 with ⟨_, h3, _⟩ | ⟨_, h3, _⟩ <;> exact h3
      have regsz : ∀ {j : Nat} {l u : Option Key} {ee : Es} {pp : List Nat} {y : Nod}, Reg A'.nd A.fan h j l u ee pp → A'.nd j = some y → A.fan / 2 ≤ y.size := by
        intro j l u ee pp y hr hy
        cases h with
        | zero => exact hr.elim
        | succ h =>
          obtain ⟨z, h1, h2, h4⟩ := hr
          rw [hy] at h1; cases h1
          rcases h4 with ⟨_, h3, _⟩ | ⟨_, h3, _⟩ <;> exact h3
      have fin : ∀ {k' : Nat}, (∃ ks is pp, Mv A' (evenF A' i k') (i :: (ps1 ++ (p' ++ ps2))) (i :: pp) ∧ (evenF A' i k').nd i = some ⟨ks, [], is⟩ ∧ Kids (Reg (evenF A' i k').nd A'.fan h) lo hi ks is (es1 ++ (delE key e ++ es2)) pp ∧ is.length ≤ n.kids.length ∧ n.kids.length - 1 ≤ is.length) →
          ∃ ps', Mv A (evenF A' i k') (i :: (ps1 ++ (p ++ ps2))) ps' ∧ Tree (evenF A' i k').nd A.fan (h + 1) (mn.1 - 1, mn.2 - 1) i lo hi (es1 ++ (delE key e ++ es2)) ps' := by
        rintro k' ⟨ks, is, pp, g1, g2, g3, g4, g5⟩
        rw [m.fan] at g3
        refine ⟨_, hm.trans g1, ⟨_, g2, ?_, .inr ⟨h0, ?_, rfl, pp, rfl, g3⟩⟩⟩
        · rw [inner_size _ _ g3.ne]; omega
        · rw [inner_size _ _ g3.ne]; dsimp only; omega
      by_cases hz : is1 = []
      · subst hz
        have hk0 : bel n.keys key = 0 := by simpa using f4.symm
        cases f5
        have hne2 : is2 ≠ [] := by intro e; rw [f2, e] at hkn; simp at hkn
        obtain ⟨s, ksR, b, isR, hiR, eb, esR, pb, psR, g1, g2, g3, g4, g5, g6, g7, g8⟩ := hR.uncons hne2
        subst g1; subst g2; subst g3; subst g6; subst g7
        have hlo : ∀ l, lo = some l → lt l s := fun l hl => f14 s rfl (by simp) l hl
        rw [hk0]
        have hEq : n = ⟨[] ++ s :: ksR, [], [] ++ i' :: b :: isR⟩ := by rw [hnn, f1, f2]
        have := even_ok (A := A') (Q := Q) (h := h) (i := i) (a := i') (b := b) (ksL := []) (isL := []) (psL := []) (esL := []) (mn := (A.fan / 2 - 1, A.fan / 2 - 1)) (by rw [hni, hEq]) rfl (by simpa using hA2) (by rw [m.fan]; exact hfan) .nil (by rw [m.fan]; exact g5) (by rw [m.fan]; exact ht) (by rw [m.fan]; exact g4.weak (by dsimp only; omega) (by dsimp only; omega)) hlo g8 (by simp) (fun k hk' hne3 l hl => lt_trans (hlo l hl) (g8 k hk')) (fun x' y' hx' hy' => by
          rw [hx] at hx'; cases hx'
          have := regsz g4 hy'
          rw [m.fan]; omega)
        obtain ⟨ks, is, pp, q1, q2, q3, q4, q5⟩ := this
        refine fin (k' := max 0 1 - 1) ⟨ks, is, pp, by simpa using q1, q2, by simpa using q3, ?_, ?_⟩
        · rw [f2]; simp at q4 ⊢; omega
        · rw [f2]; simp at q5 ⊢; omega
      · obtain ⟨ksL, isL, loL, esL, psL, s, a, ea, pa, g1, g2, g3, g4, g5, g6, g7, g8, g9⟩ := hL.unsnoc hz
        subst g1; subst g2; subst g3; subst g6; subst g7
        have hkk : max (bel n.keys key) 1 - 1 = ksL.length := by rw [← f4]; simp; omega
        rw [hkk]
        have hsh : ∀ u, hi' = some u → lt s u := by
          intro u hu
          cases hks2 : ks2 with
          | nil =>
            rw [hks2] at f7
            cases f7 with
            | nil => exact hks1 s (by simp) u hu
          | cons y ks2' => exact f14 u hu (by rw [hks2]; simp) s rfl
        have hEq : n = ⟨ksL ++ s :: ks2, [], isL ++ a :: i' :: is2⟩ := by rw [hnn, f1, f2]; simp
        have := even_ok (A := A') (Q := Q) (h := h) (i := i) (a := a) (b := i') (ksL := ksL) (isL := isL) (psL := psL) (esL := esL) (mn := (A.fan / 2 - 1, A.fan / 2 - 1)) (by rw [hni, hEq]) g9 (by simpa using hA2) (by rw [m.fan]; exact hfan) (by rw [m.fan]; exact g4) (by rw [m.fan]; exact hR) (by rw [m.fan]; exact g5.weak (by dsimp only; omega) (by dsimp only; omega)) (by rw [m.fan]; exact ht) g8 hsh (fun k hk' => hks1 k (by simp [hk'])) (fun k hk' hne3 l hl => lt_trans (g8 l hl) (hsh k hk')) (fun x' y' hx' hy' => by
          rw [hx] at hy'; cases hy'
          have := regsz g5 hx'
          rw [m.fan]; omega)
        obtain ⟨ks, is, pp, q1, q2, q3, q4, q5⟩ := this
        refine fin (k' := ksL.length) ⟨ks, is, pp, by simpa using q1, q2, by simpa using q3, ?_, ?_⟩
        · rw [f2]; simp at q4 ⊢; omega
        · rw [f2]; simp at q5 ⊢; omega
end T4
set_option linter.unusedVariables false
set_option linter.unusedSimpArgs false
namespace T4
def leafF : Nat → Ar → Nat → Key → Nod × List Nat
  | 0, A, i, _ => (nodeAt A i, [i])
  | h + 1, A, i, key => let n := nodeAt A i; if n.kids = [] then (n, [i]) else let q := leafF h A (kid n (bel n.keys key)) key; (q.1, i :: q.2)
def entryF (n : Nod) (k : Int) : Option (Key × Key) := if k < 0 ∨ (n.keys.length : Int) ≤ k then none else some (n.keys.getD k.toNat [], n.vals.getD k.toNat [])
def firstL : Nat → Ar → Nat → Nod
  | 0, A, i => nodeAt A i
  | h + 1, A, i => let n := nodeAt A i; if n.kids = [] then n else firstL h A (kid n 0)
def lastL : Nat → Ar → Nat → Nod
  | 0, A, i => nodeAt A i
  | h + 1, A, i => let n := nodeAt A i; if n.kids = [] then n else lastL h A (kid n (n.kids.length - 1))
def nextF : Nat → Ar → Nat → Key → Option Nat → Nod × Option Nat
  | 0, A, i, _, nx => (nodeAt A i, nx)
  | h + 1, A, i, key, nx => let n := nodeAt A i; if n.kids = [] then (n, nx) else let k := bel n.keys key; nextF h A (kid n k) key (if k + 1 < n.kids.length then some (kid n (k + 1)) else nx)
def aheadF : Nat → Ar → Nat → Key → Option Nat → Nod × Option Nat
  | 0, A, i, _, nx => (nodeAt A i, nx)
  | h + 1, A, i, key, nx => let n := nodeAt A i; if n.kids = [] then (n, nx) else let k := bel n.keys key; aheadF h A (kid n k) key (if 0 < k then some (kid n (k - 1)) else nx)
def afterF (h : Nat) (A : Ar) (i : Nat) (key : Key) (at_ : Bool) : Option (Key × Key) :=
  let q := nextF h A i key none
  let k := pos q.1.keys key + (if has q.1.keys key && !at_ then 1 else 0)
  match q.2 with
  | none => entryF q.1 k
  | some j => if k < q.1.keys.length then entryF q.1 k else entryF (firstL h A j) 0
def beforeF (h : Nat) (A : Ar) (i : Nat) (key : Key) (at_ : Bool) : Option (Key × Key) :=
  let q := aheadF h A i key none
  let k : Int := (pos q.1.keys key : Int) - (if !has q.1.keys key || !at_ then 1 else 0)
  match q.2 with
  | none => entryF q.1 k
  | some j => if 0 ≤ k then entryF q.1 k else let n := lastL h A j; entryF n ((n.keys.length : Int) - 1)
def allF : Nat → Ar → Nat → List Nat
  | 0, _, i => [i]
  | h + 1, A, i => i :: ((nodeAt A i).kids.reverse.flatMap (allF h A))
theorem entry_leaf (es : Es) (k : Nat) : entryF ⟨keysE es, valsE es, []⟩ (k : Int) = es[k]? := by
  unfold entryF
  dsimp only
  rw [keysE_length, Int.toNat_natCast]
  by_cases h : k < es.length
  · rw [if_neg (by omega), List.getElem?_eq_getElem h]
    simp [keysE, valsE, List.getD, h]
  · rw [if_pos (by omega), List.getElem?_eq_none (by omega)]
theorem entry_neg (n : Nod) (k : Int) (h : k < 0) : entryF n k = none := by unfold entryF; rw [if_pos (.inl h)]
theorem Kids.head {T : TP} {lo hi : Option Key} {ks : List Key} {is : List Nat} {es : Es} {ps : List Nat} (h : Kids T lo hi ks is es ps) : ∃ j is' e es' p ps' hi', is = j :: is' ∧ T j lo hi' e p ∧ es = e ++ es' ∧ ps = p ++ ps' := by
  cases h with
  | one h => exact ⟨_, [], _, [], _, [], _, rfl, h, by simp, by simp⟩
  | cons h _ _ => exact ⟨_, _, _, _, _, _, _, rfl, h, rfl, rfl⟩
theorem Kids.last {T : TP} {lo hi : Option Key} {ks : List Key} {is : List Nat} {es : Es} {ps : List Nat} (h : Kids T lo hi ks is es ps) : ∃ j is' e es' p ps' lo', is = is' ++ [j] ∧ T j lo' hi e p ∧ es = es' ++ e ∧ ps = ps' ++ p := by
  induction h with
  | one h => exact ⟨_, [], _, [], _, [], _, rfl, h, by simp, by simp⟩
  | cons h _ _ ih =>
    rename_i i lo hi k ks is es es0 ps ps0 _ _
    obtain ⟨j, is', e, es', p, ps', lo', h1, h2, h3, h4⟩ := ih
    exact ⟨j, i :: is', e, es ++ es', p, ps ++ ps', lo', by rw [h1]; rfl, h2, by rw [h3]; simp, by rw [h4]; simp⟩
theorem Kids.each {T : TP} {lo hi : Option Key} {ks : List Key} {is : List Nat} {es : Es} {ps : List Nat} (h : Kids T lo hi ks is es ps) {f : Es → Nat} (hf : ∀ a b, f (a ++ b) = f a + f b) {c : Nat} (hc : ∀ {i lo hi es ps}, T i lo hi es ps → c ≤ f es) : is.length * c ≤ f es := by
  induction h with
  | one h => simpa using hc h
  | cons h _ _ ih => rw [hf, List.length_cons, Nat.add_mul, Nat.one_mul]; have := hc h; omega
theorem Reg.least {nd : Nat → Option Nod} {fan : Nat} : ∀ {h : Nat} {i : Nat} {lo hi : Option Key} {es : Es} {ps : List Nat}, Reg nd fan h i lo hi es ps → (fan / 2) ^ h ≤ es.length
  | 0, _, _, _, _, _, ht => ht.elim
  | h + 1, i, lo, hi, es, ps, ⟨n, hn, hs, hc⟩ => by
    rcases hc with ⟨rfl, hm, hk, hkeys, _⟩ | ⟨h0, hm, _, ps', rfl, hk⟩
    · have : n.size = es.length := by simp [Nod.size, hk, hkeys, keysE_length]
      simpa [this] using hm
    · have h1 := hk.each (f := List.length) (fun a b => by simp) (c := (fan / 2) ^ h) (fun ht => Reg.least ht)
      have h2 : n.size = n.kids.length := by simp [Nod.size, hk.ne]
      have h3 : fan / 2 * (fan / 2) ^ h ≤ n.kids.length * (fan / 2) ^ h := Nat.mul_le_mul_right _ (by rw [← h2]; exact hm)
      rw [Nat.pow_succ, Nat.mul_comm]
      omega
theorem Reg.ne {nd : Nat → Option Nod} {fan h : Nat} {i : Nat} {lo hi : Option Key} {es : Es} {ps : List Nat} (ht : Reg nd fan h i lo hi es ps) (hf : 4 ≤ fan) : es ≠ [] := by
  have h1 := ht.least
  have h2 : 0 < (fan / 2) ^ h := Nat.pow_pos (by omega)
  intro e
  rw [e] at h1
  simp at h1
  omega
theorem first_ok : ∀ (h : Nat) {A : Ar} {i : Nat} {mn : Nat × Nat} {lo hi : Option Key} {es : Es} {ps : List Nat}, Tree A.nd A.fan h mn i lo hi es ps → 4 ≤ A.fan → ∀ m, h ≤ m + 1 → entryF (firstL m A i) 0 = es.head?
  | 0, _, _, _, _, _, _, _, ht, _, _, _ => ht.elim
  | h + 1, A, i, mn, lo, hi, es, ps, ⟨n, hn, hs, hc⟩, hf, m, hm => by
    have hna : nodeAt A i = n := by simp [nodeAt, hn]
    rcases hc with ⟨rfl, _, hk, h5, h6, _⟩ | ⟨h0, _, _, ps', rfl, hk⟩
    · have e1 : firstL m A i = n := by
        cases m with
        | zero => rw [firstL, hna]
        | succ m => rw [firstL, hna, if_pos hk]
      have hne : n = ⟨keysE es, valsE es, []⟩ := by cases n; simp_all
      rw [e1, hne]
      have := entry_leaf es 0
      rw [List.head?_eq_getElem?]
      exact this
    · obtain ⟨m, rfl⟩ : ∃ m', m = m' + 1 := ⟨m - 1, by omega⟩
      rw [firstL, hna, if_neg hk.ne]
      obtain ⟨j, is', e, es', p, ps'', hi', h1, h2, rfl, rfl⟩ := hk.head
      rw [show kid n 0 = j by simp [kid, h1, List.getD], first_ok h h2 hf m (by omega)]
      have := Reg.ne h2 hf
      cases e with
      | nil => exact absurd rfl this
      | cons x e => rfl
theorem last_ok : ∀ (h : Nat) {A : Ar} {i : Nat} {mn : Nat × Nat} {lo hi : Option Key} {es : Es} {ps : List Nat}, Tree A.nd A.fan h mn i lo hi es ps → 4 ≤ A.fan → ∀ m, h ≤ m + 1 → entryF (lastL m A i) (((lastL m A i).keys.length : Int) - 1) = es.getLast?
  | 0, _, _, _, _, _, _, _, ht, _, _, _ => ht.elim
  | h + 1, A, i, mn, lo, hi, es, ps, ⟨n, hn, hs, hc⟩, hf, m, hm => by
    have hna : nodeAt A i = n := by simp [nodeAt, hn]
    rcases hc with ⟨rfl, _, hk, h5, h6, _⟩ | ⟨h0, _, _, ps', rfl, hk⟩
    · have e1 : lastL m A i = n := by
        cases m with
        | zero => rw [lastL, hna]
        | succ m => rw [lastL, hna, if_pos hk]
      have hne : n = ⟨keysE es, valsE es, []⟩ := by cases n; simp_all
      rw [e1, hne]
      dsimp only
      rw [keysE_length]
      cases es with
      | nil => exact entry_neg _ _ (by simp)
      | cons x r =>
        have := entry_leaf (x :: r) r.length
        rw [show (((x :: r).length : Nat) : Int) - 1 = (r.length : Int) by simp]
        rw [this, List.getLast?_eq_getElem?]
        simp
    · obtain ⟨m, rfl⟩ : ∃ m', m = m' + 1 := ⟨m - 1, by omega⟩
      obtain ⟨j, is', e, es', p, ps'', lo', h1, h2, rfl, rfl⟩ := hk.last
      have e1 : lastL (m + 1) A i = lastL m A j := by
        rw [lastL, hna, if_neg hk.ne, show kid n (n.kids.length - 1) = j by simp [kid, h1, List.getD]]
      rw [e1, last_ok h h2 hf m (by omega)]
      have := Reg.ne h2 hf
      rw [List.getLast?_append]
      cases hl : e.getLast? with
      | none => exact absurd (List.getLast?_eq_none_iff.1 hl) this
      | some x => rfl
theorem leaf_ok : ∀ (h : Nat) {A : Ar} {i : Nat} {mn : Nat × Nat} {lo hi : Option Key} {es : Es} {ps : List Nat} {key : Key}, Tree A.nd A.fan h mn i lo hi es ps → Bnd lo hi key →
    ∃ es1 e es2, (leafF h A i key).1 = ⟨keysE e, valsE e, []⟩ ∧ es = es1 ++ (e ++ es2) ∧ UpE e ∧ (∀ x ∈ es1, lt x.1 key) ∧ (∀ x ∈ es2, lt key x.1) ∧ (leafF h A i key).2.map (fun j => (nodeAt A j).size) = sizes h A i key ∧ (leafF h A i key).2.length = h
  | 0, _, _, _, _, _, _, _, _, ht, _ => ht.elim
  | h + 1, A, i, mn, lo, hi, es, ps, key, ⟨n, hn, hs, hc⟩, hb => by
    have hna : nodeAt A i = n := by simp [nodeAt, hn]
    rcases hc with ⟨rfl, _, hk, h5, h6, hu, _⟩ | ⟨h0, _, _, ps', rfl, hk⟩
    · have hne : n = ⟨keysE es, valsE es, []⟩ := by cases n; simp_all
      refine ⟨[], es, [], ?_, by simp, hu, by simp, by simp, ?_, ?_⟩
      · rw [leafF, hna, if_pos hk]; exact hne
      · rw [leafF, sizes, hna, if_pos hk, if_pos hk]; simp [hna]
      · rw [leafF, hna, if_pos hk]; rfl
    · obtain ⟨ks1, ks2, is1, is2, i', lo', hi', es1, es2, e, ps1, ps2, p, f1, f2, f3, f4, f5, f6, f7, rfl, rfl, f10, f11, f12, f13, f14⟩ := hk.find Tree.inB hb
      have hkid : kid n (bel n.keys key) = i' := by rw [kid, f2, ← f4]; simp [List.getD]
      obtain ⟨x1, x, x2, g1, g2, g3, g4, g5, g6, g7⟩ := leaf_ok h f6 f10
      rw [leafF, sizes, hna, if_neg hk.ne, if_neg hk.ne, hkid]
      refine ⟨es1 ++ x1, x, x2 ++ es2, g1, by rw [g2]; simp, g3, fun y hy => ?_, fun y hy => ?_, ?_, by simp [g7]⟩
      · rcases List.mem_append.1 hy with hy | hy
        · exact f11 y hy
        · exact g4 y hy
      · rcases List.mem_append.1 hy with hy | hy
        · exact g5 y hy
        · exact f12 y hy
      · rw [List.map_cons, g6, hna]
theorem next_ok : ∀ (h : Nat) {A : Ar} {i : Nat} {mn : Nat × Nat} {lo hi : Option Key} {es : Es} {ps : List Nat} {key : Key} (H : Nat) (nx : Option Nat), Tree A.nd A.fan h mn i lo hi es ps → Bnd lo hi key → 4 ≤ A.fan → h ≤ H →
    ∃ es1 e es2, (nextF h A i key nx).1 = ⟨keysE e, valsE e, []⟩ ∧ es = es1 ++ (e ++ es2) ∧ UpE e ∧ (∀ x ∈ es1, lt x.1 key) ∧ (∀ x ∈ es2, lt key x.1) ∧
      ((es2 = [] ∧ (nextF h A i key nx).2 = nx) ∨ (es2 ≠ [] ∧ ∃ j, (nextF h A i key nx).2 = some j ∧ entryF (firstL H A j) 0 = es2.head? ∧ ∃ h' lo' hi' es' ps', Reg A.nd A.fan h' j lo' hi' es' ps' ∧ h' < h))
  | 0, _, _, _, _, _, _, _, _, _, _, ht, _, _, _ => ht.elim
  | h + 1, A, i, mn, lo, hi, es, ps, key, H, nx, ⟨n, hn, hs, hc⟩, hb, hf, hH => by
    have hna : nodeAt A i = n := by simp [nodeAt, hn]
    rcases hc with ⟨rfl, _, hk, h5, h6, hu, _⟩ | ⟨h0, _, _, ps', rfl, hk⟩
    · have hne : n = ⟨keysE es, valsE es, []⟩ := by cases n; simp_all
      have e1 : nextF (0 + 1) A i key nx = (n, nx) := by rw [nextF, hna, if_pos hk]
      rw [e1]
      exact ⟨[], es, [], hne, by simp, hu, by simp, by simp, .inl ⟨rfl, rfl⟩⟩
    · obtain ⟨ks1, ks2, is1, is2, i', lo', hi', es1, es2, e, ps1, ps2, p, f1, f2, f3, f4, f5, f6, f7, rfl, rfl, f10, f11, f12, f13, f14⟩ := hk.find Tree.inB hb
      have hkid : kid n (bel n.keys key) = i' := by rw [kid, f2, ← f4]; simp [List.getD]
      have e1 : nextF (h + 1) A i key nx = nextF h A i' key (if bel n.keys key + 1 < n.kids.length then some (kid n (bel n.keys key + 1)) else nx) := by
        rw [nextF, hna, if_neg hk.ne]; dsimp only; rw [hkid]
      rw [e1]
      generalize hnx : (if bel n.keys key + 1 < n.kids.length then some (kid n (bel n.keys key + 1)) else nx) = nx'
      obtain ⟨x1, x, x2, g1, g2, g3, g4, g5, g6⟩ := next_ok h H nx' f6 f10 hf (by omega)
      refine ⟨es1 ++ x1, x, x2 ++ es2, g1, by rw [g2]; simp, g3, fun y hy => ?_, fun y hy => ?_, ?_⟩
      · rcases List.mem_append.1 hy with hy | hy
        · exact f11 y hy
        · exact g4 y hy
      · rcases List.mem_append.1 hy with hy | hy
        · exact g5 y hy
        · exact f12 y hy
      · rcases g6 with ⟨rfl, g7⟩ | ⟨g7, j, g8, g9, h', l', u', ee, pp, g10, g11⟩
        · rw [g7, List.nil_append]
          by_cases hz : is2 = []
          · left
            rw [if_neg (by rw [f2, hz]; simp; omega)] at hnx
            refine ⟨?_, hnx.symm⟩
            subst hz
            cases f7 with
            | nil => rfl
            | cons _ hk2 => exact absurd rfl hk2.ne
          · right
            obtain ⟨s, ksR, b, isR, hiR, eb, esR, pb, psR, q1, q2, q3, q4, q5, q6, q7, q8⟩ := f7.uncons hz
            have hb2 : kid n (bel n.keys key + 1) = b := by rw [kid, f2, q3, ← f4]; simp [List.getD]
            rw [if_pos (by rw [f2, q3]; simp; omega), hb2] at hnx
            have hne := Reg.ne q4 hf
            subst q6
            refine ⟨by simp [hne], b, hnx.symm, ?_, h, _, _, _, _, q4, by omega⟩
            rw [first_ok h q4 hf H (by omega)]
            cases eb with
            | nil => exact absurd rfl hne
            | cons y eb => rfl
        · right
          refine ⟨by simp [g7], j, g8, ?_, h', l', u', ee, pp, g10, by omega⟩
          rw [g9]
          cases x2 with
          | nil => exact absurd rfl g7
          | cons y x2 => rfl
theorem ahead_ok : ∀ (h : Nat) {A : Ar} {i : Nat} {mn : Nat × Nat} {lo hi : Option Key} {es : Es} {ps : List Nat} {key : Key} (H : Nat) (nx : Option Nat), Tree A.nd A.fan h mn i lo hi es ps → Bnd lo hi key → 4 ≤ A.fan → h ≤ H →
    ∃ es1 e es2, (aheadF h A i key nx).1 = ⟨keysE e, valsE e, []⟩ ∧ es = es1 ++ (e ++ es2) ∧ UpE e ∧ (∀ x ∈ es1, lt x.1 key) ∧ (∀ x ∈ es2, lt key x.1) ∧
      ((es1 = [] ∧ (aheadF h A i key nx).2 = nx) ∨ (es1 ≠ [] ∧ ∃ j, (aheadF h A i key nx).2 = some j ∧ entryF (lastL H A j) (((lastL H A j).keys.length : Int) - 1) = es1.getLast? ∧ ∃ h' lo' hi' es' ps', Reg A.nd A.fan h' j lo' hi' es' ps' ∧ h' < h))
  | 0, _, _, _, _, _, _, _, _, _, _, ht, _, _, _ => ht.elim
  | h + 1, A, i, mn, lo, hi, es, ps, key, H, nx, ⟨n, hn, hs, hc⟩, hb, hf, hH => by
    have hna : nodeAt A i = n := by simp [nodeAt, hn]
    rcases hc with ⟨rfl, _, hk, h5, h6, hu, _⟩ | ⟨h0, _, _, ps', rfl, hk⟩
    · have hne : n = ⟨keysE es, valsE es, []⟩ := by cases n; simp_all
      have e1 : aheadF (0 + 1) A i key nx = (n, nx) := by rw [aheadF, hna, if_pos hk]
      rw [e1]
      exact ⟨[], es, [], hne, by simp, hu, by simp, by simp, .inl ⟨rfl, rfl⟩⟩
    · obtain ⟨ks1, ks2, is1, is2, i', lo', hi', es1, es2, e, ps1, ps2, p, f1, f2, f3, f4, f5, f6, f7, rfl, rfl, f10, f11, f12, f13, f14⟩ := hk.find Tree.inB hb
      have hkid : kid n (bel n.keys key) = i' := by rw [kid, f2, ← f4]; simp [List.getD]
      have e1 : aheadF (h + 1) A i key nx = aheadF h A i' key (if 0 < bel n.keys key then some (kid n (bel n.keys key - 1)) else nx) := by
        rw [aheadF, hna, if_neg hk.ne]; dsimp only; rw [hkid]
      rw [e1]
      generalize hnx : (if 0 < bel n.keys key then some (kid n (bel n.keys key - 1)) else nx) = nx'
      obtain ⟨x1, x, x2, g1, g2, g3, g4, g5, g6⟩ := ahead_ok h H nx' f6 f10 hf (by omega)
      refine ⟨es1 ++ x1, x, x2 ++ es2, g1, by rw [g2]; simp, g3, fun y hy => ?_, fun y hy => ?_, ?_⟩
      · rcases List.mem_append.1 hy with hy | hy
        · exact f11 y hy
        · exact g4 y hy
      · rcases List.mem_append.1 hy with hy | hy
        · exact g5 y hy
        · exact f12 y hy
      · rcases g6 with ⟨rfl, g7⟩ | ⟨g7, j, g8, g9, h', l', u', ee, pp, g10, g11⟩
        · rw [g7, List.append_nil]
          by_cases hz : is1 = []
          · left
            rw [if_neg (by rw [← f4, hz]; simp)] at hnx
            refine ⟨?_, hnx.symm⟩
            subst hz
            cases f5
            rfl
          · right
            obtain ⟨ksL, isL, loL, esL, psL, s, a, ea, pa, q1, q2, q3, q4, q5, q6, q7, q8, q9⟩ := f5.unsnoc hz
            have ha2 : kid n (bel n.keys key - 1) = a := by rw [kid, f2, q2, ← f4, q2]; simp [List.getD]
            rw [if_pos (by rw [← f4, q2]; simp), ha2] at hnx
            have hne := Reg.ne q5 hf
            subst q6
            refine ⟨by simp [hne], a, hnx.symm, ?_, h, _, _, _, _, q5, by omega⟩
            rw [last_ok h q5 hf H (by omega), List.getLast?_append]
            cases hl : ea.getLast? with
            | none => exact absurd (List.getLast?_eq_none_iff.1 hl) hne
            | some x => rfl
        · right
          refine ⟨by simp [g7], j, g8, ?_, h', l', u', ee, pp, g10, by omega⟩
          rw [g9, List.getLast?_append]
          cases hl : x1.getLast? with
          | none => exact absurd (List.getLast?_eq_none_iff.1 hl) g7
          | some x => rfl
theorem Bnd.all (k : Key) : Bnd none none k := ⟨fun l h => (by cases h), fun u h => (by cases h)⟩
theorem after_ok {h : Nat} {A : Ar} {i : Nat} {mn : Nat × Nat} {es : Es} {ps : List Nat} (ht : Tree A.nd A.fan h mn i none none es ps) (hf : 4 ≤ A.fan) (key : Key) (at_ : Bool) : afterF h A i key at_ = aftE key at_ es := by
  obtain ⟨es1, e, es2, g1, rfl, g3, g4, g5, g6⟩ := next_ok h h none ht (Bnd.all key) hf (Nat.le_refl _)
  have hp := pos_le (keysE e) key
  rw [keysE_length] at hp
  rw [aftE_low g4, aftE_app, aft_pos g3, aftE_head g5]
  unfold afterF
  generalize nextF h A i key none = q at *
  obtain ⟨n, nx⟩ := q
  dsimp only at g1 g6 ⊢
  subst g1
  dsimp only
  generalize pos (keysE e) key + (if (has (keysE e) key && !at_) = true then 1 else 0) = k
  have hE := entry_leaf e k
  rcases g6 with ⟨rfl, rfl⟩ | ⟨g7, j, rfl, g9, _⟩
  · dsimp only
    rw [hE]
    cases e[k]? <;> rfl
  · dsimp only
    rw [keysE_length]
    by_cases hk : k < e.length
    · rw [if_pos hk, hE, List.getElem?_eq_getElem hk]
    · rw [if_neg hk, g9, List.getElem?_eq_none (by omega)]
theorem before_ok {h : Nat} {A : Ar} {i : Nat} {mn : Nat × Nat} {es : Es} {ps : List Nat} (ht : Tree A.nd A.fan h mn i none none es ps) (hf : 4 ≤ A.fan) (key : Key) (at_ : Bool) : beforeF h A i key at_ = befE key at_ es := by
  obtain ⟨es1, e, es2, g1, rfl, g3, g4, g5, g6⟩ := ahead_ok h h none ht (Bnd.all key) hf (Nat.le_refl _)
  have hp := pos_le (keysE e) key
  rw [keysE_length] at hp
  rw [befE_low g4, befE_high g5, bef_pos g3]
  unfold beforeF
  generalize aheadF h A i key none = q at *
  obtain ⟨n, nx⟩ := q
  dsimp only at g1 g6 ⊢
  subst g1
  dsimp only
  have hhas : has (keysE e) key = true → pos (keysE e) key < e.length := fun hh => by
    have h1 := (List.getElem?_eq_some_iff.1 (of_decide_eq_true hh)).1
    rwa [keysE_length] at h1
  generalize hb : (has (keysE e) key && at_) = b
  have hbn : (!has (keysE e) key || !at_) = !b := by rw [← hb]; simp
  rw [hbn]
  have hk : ((pos (keysE e) key : Nat) : Int) - (if (!b) = true then 1 else 0) = if b = true then ((pos (keysE e) key : Nat) : Int) else ((pos (keysE e) key : Nat) : Int) - 1 := by cases b <;> simp
  rw [hk]
  have hbh : b = true → pos (keysE e) key < e.length := fun h' => hhas (by rw [h'] at hb; simp at hb; exact hb.1)
  generalize pos (keysE e) key = k at *
  have hE : ∀ k : Nat, entryF ⟨keysE e, valsE e, []⟩ (k : Int) = e[k]? := entry_leaf e
  cases b with
  | true =>
    have hkl := hbh rfl
    simp only [if_true]
    rcases g6 with ⟨rfl, rfl⟩ | ⟨g7, j, rfl, g9, _⟩
    · dsimp only
      rw [hE, List.getElem?_eq_getElem hkl]
    · dsimp only
      rw [if_pos (by omega), hE, List.getElem?_eq_getElem hkl]
  | false =>
    simp only [Bool.false_eq_true, if_false]
    by_cases h0 : k = 0
    · subst h0
      rw [if_pos rfl]
      rcases g6 with ⟨rfl, rfl⟩ | ⟨g7, j, rfl, g9, _⟩
      · exact entry_neg _ _ (by simp)
      · dsimp only
        rw [if_neg (by simp), g9]
    · rw [if_neg h0]
      have hk1 : ((k : Nat) : Int) - 1 = ((k - 1 : Nat) : Int) := by omega
      have hkl : k - 1 < e.length := by omega
      rw [hk1, hE, List.getElem?_eq_getElem hkl]
      rcases g6 with ⟨rfl, rfl⟩ | ⟨g7, j, rfl, g9, _⟩
      · rfl
      · dsimp only
        rw [if_pos (by omega)]
theorem all_count : ∀ (h : Nat) {A : Ar} {i : Nat} {mn : Nat × Nat} {lo hi : Option Key} {es : Es} {ps : List Nat}, Tree A.nd A.fan h mn i lo hi es ps → ∀ z, (allF h A i).count z = ps.count z
  | 0, _, _, _, _, _, _, _, ht, _ => ht.elim
  | h + 1, A, i, mn, lo, hi, es, ps, ⟨n, hn, hs, hc⟩, z => by
    have hna : nodeAt A i = n := by simp [nodeAt, hn]
    rw [allF, hna]
    rcases hc with ⟨rfl, _, hk, h5, h6, hu, _, rfl⟩ | ⟨h0, _, _, ps', rfl, hk⟩
    · rw [hk]; simp
    · rw [List.count_cons, List.count_cons]
      congr 1
      have : ∀ {lo hi : Option Key} {ks : List Key} {is : List Nat} {es : Es} {ps : List Nat}, Kids (Reg A.nd A.fan h) lo hi ks is es ps → (is.reverse.flatMap (allF h A)).count z = ps.count z := by
        intro lo hi ks is es ps hk
        induction hk with
        | one h1 => simp [all_count h h1 z]
        | cons h1 _ _ ih => rw [List.reverse_cons, List.flatMap_append, List.count_append, ih, List.count_append]; simp [all_count h h1 z]; omega
      exact this hk
end T4
set_option linter.unusedVariables false
set_option linter.unusedSimpArgs false
namespace T4
theorem count_range (n x : Nat) : (List.range n).count x = if x < n then 1 else 0 := by
  induction n with
  | zero => simp
  | succ n ih =>
    rw [List.range_succ, List.count_append, ih, List.count_cons, List.count_nil, Nat.zero_add]
    by_cases h : n = x
    · subst h; simp
    · have : (n == x) = false := by simpa using h
      rw [this]
      simp only [Bool.false_eq_true, if_false, Nat.add_zero]
      by_cases h2 : x < n
      · rw [if_pos h2, if_pos (by omega)]
      · rw [if_neg h2, if_neg (by omega)]
theorem Acc.total {A : Ar} {Q P : List Nat} (h : Acc A Q P) : A.at_.length = Q.length + P.length + A.free.length := by
  have hp : (Q ++ P ++ A.free).Perm (List.range A.at_.length) := by
    rw [List.perm_iff_count]
    intro x
    rw [List.count_append, List.count_append, count_range]
    exact h x
  have := hp.length_eq
  simpa [Nat.add_assoc] using this.symm
theorem Acc.nodes {A : Ar} {Q P : List Nat} (h : Acc A Q P) : A.nodes = Q.length + P.length := by unfold Ar.nodes; rw [h.total]; omega
def wantsF (fan : Nat) (l : List Nat) : Nat := if trail fan l = l.length then l.length + 1 else trail fan l
def putTop (h : Nat) (A : Ar) (i : Nat) (key val : Key) : Ar :=
  let q := putF h A i key val
  match q.2 with
  | none => q.1
  | some (b, rt) => let p := place q.1 (nodeAt q.1 i); setN p.1 i ⟨[b], [], [p.2, rt]⟩
theorem sizes_len : ∀ (h : Nat) {A : Ar} {i : Nat} {mn : Nat × Nat} {lo hi : Option Key} {es : Es} {ps : List Nat} {key : Key}, Tree A.nd A.fan h mn i lo hi es ps → Bnd lo hi key → (sizes h A i key).length = h := by
  intro h A i mn lo hi es ps key ht hb
  obtain ⟨es1, e, es2, g1, g2, g3, g4, g5, g6, g7⟩ := leaf_ok h ht hb
  rw [← g6, List.length_map, g7]
theorem putTop_ok {h : Nat} {A : Ar} {Q : List Nat} {i : Nat} {es : Es} {ps : List Nat} (ht : Tree A.nd A.fan h (0, 2) i none none es ps) (hA : Acc A Q ps) (hf : 4 ≤ A.fan) (key val : Key) :
    ∃ h' ps', Mv A (putTop h A i key val) ps ps' ∧ Tree (putTop h A i key val).nd A.fan h' (0, 2) i none none (insE key val es) ps' ∧ ps'.length = ps.length + (if inE key es then 0 else wantsF A.fan (sizes h A i key)) := by
  obtain ⟨r1, r2⟩ := put_ok h (val := val) ht hA hf (Bnd.all key)
  unfold putTop
  generalize putF h A i key val = q at *
  obtain ⟨A', r⟩ := q
  dsimp only at r1 r2 ⊢
  cases r with
  | none =>
    obtain ⟨ps', m, t, hl⟩ := r1
    refine ⟨h, ps', m, t, ?_⟩
    rw [hl]
    unfold takes wantsF
    cases hin : inE key es with
    | true => rfl
    | false =>
      rw [hin] at r2
      have : ¬ trail A.fan (sizes h A i key) = (sizes h A i key).length := by intro h'; rw [decide_eq_true h'] at r2; cases r2
      rw [if_neg this]
  | some br =>
    obtain ⟨b, rt⟩ := br
    obtain ⟨es1, es2, ps1, ps2, he, hbt, m, t1, t2, hl⟩ := r1
    dsimp only
    have hie : inE key es = false ∧ trail A.fan (sizes h A i key) = (sizes h A i key).length := by
      cases hin : inE key es with
      | true => rw [hin] at r2; cases r2
      | false => rw [hin] at r2; exact ⟨rfl, of_decide_eq_true r2.symm⟩
    obtain ⟨n, hn, p1, hp1⟩ : ∃ n, A'.nd i = some n ∧ ∃ p1, ps1 = i :: p1 := by
      cases h with
      | zero => exact t1.elim
      | succ h =>
        obtain ⟨n, h1, h2, h4⟩ := t1
        rcases h4 with ⟨_, _, _, _, _, _, _, h5⟩ | ⟨_, _, _, p, h5, _⟩
        · exact ⟨n, h1, [], h5⟩
        · exact ⟨n, h1, p, h5⟩
    subst hp1
    have hna : nodeAt A' i = n := by simp [nodeAt, hn]
    rw [hna]
    obtain ⟨hA', _⟩ := m.acc Q hA
    obtain ⟨m2, hx⟩ := mv_place A' n
    have hfan := m.fan
    obtain ⟨hA2, n2⟩ := m2.acc _ hA'.split
    have hx := hx ⟨_, _, hA'⟩
    generalize hqq : place A' n = p at *
    have m3 := mv_set p.1 i ⟨[b], [], [p.2, rt]⟩
    have hA3 : Acc p.1 (Q ++ (p1 ++ ps2) ++ [p.2]) [i] := hA2.perm fun z => by simp [List.count_cons, List.count_append] <;> omega
    have n3 := m3.nds hA3
    have hil : i < p.1.at_.length := hA3.lt (by simp)
    have hk1 : ∀ j ∈ p1 ++ ps2, (setN p.1 i ⟨[b], [], [p.2, rt]⟩).nd j = A'.nd j := fun j hj => (n3 j (by simp at hj ⊢; rcases hj with h | h <;> simp [h])).trans (n2 j (by simp at hj ⊢; rcases hj with h | h <;> simp [h]))
    have hkx : (setN p.1 i ⟨[b], [], [p.2, rt]⟩).nd p.2 = some n := (n3 p.2 (by simp)).trans hx
    refine ⟨h + 1, i :: (p.2 :: p1 ++ ps2), ?_, ⟨_, nd_set _ i _ hil, by rw [inner_size _ _ (by simp)]; simp; omega, .inr ⟨?_, by rw [inner_size _ _ (by simp)]; simp, rfl, _, rfl, ?_⟩⟩, ?_⟩
    · refine m.trans ((m2.frame (R := i :: (p1 ++ ps2)) (R1' := i :: (p.2 :: p1 ++ ps2)) (fun z => by simp [List.count_cons, List.count_append]) (fun z => by simp [List.count_cons, List.count_append] <;> omega)).trans (m3.frame (R := p.2 :: p1 ++ ps2) (fun z => by simp [List.count_cons, List.count_append] <;> omega) (fun z => by simp [List.count_cons, List.count_append] <;> omega)))
    · cases h with
      | zero => exact t1.elim
      | succ h => omega
    · rw [he]
      refine .cons (k := b) (es := es1) (ps := p.2 :: p1) ?_ hbt (.one (t2.keep fun j hj => hk1 j (by simp [hj])))
      cases h with
      | zero => exact t1.elim
      | succ h =>
        obtain ⟨n', h1, h2, h4⟩ := t1
        rw [hn] at h1; cases h1
        rcases h4 with ⟨e0, h3, h5, h6, h7, h8, h9, h10⟩ | ⟨e0, h3, h5, p', h10, hk⟩
        · cases h10
          exact ⟨n, hkx, h2, .inl ⟨e0, h3, h5, h6, h7, h8, h9, rfl⟩⟩
        · cases h10
          exact ⟨n, hkx, h2, .inr ⟨e0, h3, h5, p1, rfl, hk.mono fun htr hs => htr.keep fun j hj => hk1 j (by simp [hs j hj])⟩⟩
    · unfold takes at hl
      rw [hie.1, if_neg (by decide)] at hl
      rw [hie.1, if_neg (by decide), wantsF, if_pos hie.2]
      have := hie.2
      simp at hl ⊢
      omega
def delTop (h : Nat) (A : Ar) (i : Nat) (key : Key) : Ar :=
  let B := cutF h A i key
  let n := nodeAt B i
  if n.kids.length = 1 then drop (setN B i (nodeAt B (kid n 0))) (kid n 0) else B
theorem delTop_ok {h : Nat} {A : Ar} {Q : List Nat} {i : Nat} {es : Es} {ps : List Nat} {key : Key} (ht : Tree A.nd A.fan h (0, 2) i none none es ps) (hA : Acc A Q ps) (hf : 4 ≤ A.fan) (hin : inE key es = true) :
    ∃ h' ps', Mv A (delTop h A i key) ps ps' ∧ Tree (delTop h A i key).nd A.fan h' (0, 2) i none none (delE key es) ps' := by
  obtain ⟨ps', m, t⟩ := cut_ok h ht hA hf (by decide) (Bnd.all key) hin
  unfold delTop
  generalize cutF h A i key = B at *
  dsimp only
  obtain ⟨hB, _⟩ := m.acc Q hA
  cases h with
  | zero => exact ht.elim
  | succ h =>
    obtain ⟨n, hn, hs, hc⟩ := t
    have hna : nodeAt B i = n := by simp [nodeAt, hn]
    rw [hna]
    rcases hc with ⟨rfl, h3, hk, h5⟩ | ⟨h0, h3, hv, p', rfl, hk⟩
    · rw [hk, if_neg (by simp)]
      exact ⟨1, ps', m, n, hn, hs, .inl ⟨rfl, by dsimp only; omega, hk, h5⟩⟩
    · by_cases h1 : n.kids.length = 1
      rotate_left
      · rw [if_neg h1]
        have : 2 ≤ n.size := by
          have h2 : n.size = n.kids.length := by simp [Nod.size, hk.ne]
          have := List.length_pos_iff.2 hk.ne
          omega
        exact ⟨h + 1, _, m, n, hn, hs, .inr ⟨h0, this, hv, p', rfl, hk⟩⟩
      · rw [if_pos h1]
        have hkl := hk.len
        obtain ⟨j, is', e, es', p, pp, hi', g1, g2, g3, g4⟩ := hk.head
        have hi0 : is' = [] := by rw [g1] at h1; simpa using h1
        subst hi0
        have hkeys : n.keys = [] := by rw [h1] at hkl; exact List.eq_nil_of_length_eq_zero (by omega)
        have hkid : kid n 0 = j := by simp [kid, g1, List.getD]
        rw [hkid]
        rw [hkeys, g1] at hk
        have tj : Reg B.nd A.fan h j none none (delE key es) p' := by
          cases hk with
          | one h => exact h
        obtain ⟨x, hx, p2, hp2⟩ : ∃ x, B.nd j = some x ∧ ∃ p2, p' = j :: p2 := by
          cases h with
          | zero => exact tj.elim
          | succ h =>
            obtain ⟨x, h1, h2, h4⟩ := tj
            rcases h4 with ⟨_, _, _, _, _, _, _, h5⟩ | ⟨_, _, _, q, h5, _⟩
            · exact ⟨x, h1, [], h5⟩
            · exact ⟨x, h1, q, h5⟩
        subst hp2
        have hxa : nodeAt B j = x := by simp [nodeAt, hx]
        rw [hxa]
        have cnt : ∀ z, Q.count z + (i :: j :: p2).count z ≤ 1 := fun z => by have := hB z; split at this <;> omega
        have key' : ∀ z, (if i = z then 1 else 0) + (if j = z then 1 else 0) + p2.count z ≤ 1 := fun z => by
          have := cnt z
          simp only [List.count_cons, beq_iff_eq] at this
          omega
        have hij : j ≠ i := by rintro rfl; have := key' j; simp at this; omega
        have hp2i : ∀ z ∈ p2, z ≠ i ∧ z ≠ j := fun z hz => by
          have h1 := List.count_pos_iff.2 hz
          have h2 := key' z
          refine ⟨?_, ?_⟩ <;> (rintro rfl; simp at h2; omega)
        have hil : i < B.at_.length := hB.lt (by simp)
        have nd1 : (drop (setN B i x) j).nd i = some x := by rw [nd_drop_ne _ _ _ hij, nd_set _ _ _ hil]
        have nd2 : ∀ z ∈ p2, (drop (setN B i x) j).nd z = B.nd z := fun z hz => by rw [nd_drop_ne _ _ _ (fun e => (hp2i z hz).2 e.symm), nd_set_ne _ _ _ _ (fun e => (hp2i z hz).1 e.symm)]
        refine ⟨h, i :: p2, m.trans (Mv.trans (P' := i :: j :: p2) ((mv_set B i x).frame (R := j :: p2) (fun z => by simp [List.count_cons] <;> omega) (fun z => by simp [List.count_cons] <;> omega)) ((mv_drop _ j).frame (R := i :: p2) (fun z => by simp [List.count_cons] <;> omega) (fun z => by simp))), ?_⟩
        cases h with
        | zero => exact tj.elim
        | succ h =>
          obtain ⟨x', q1, q2, q4⟩ := tj
          rw [hx] at q1; cases q1
          rcases q4 with ⟨e0, q3, q5, q6, q7, q8, q9, q10⟩ | ⟨e0, q3, q5, q, q10, qk⟩
          · cases q10
            exact ⟨x, nd1, q2, .inl ⟨e0, by dsimp only; omega, q5, q6, q7, q8, q9, rfl⟩⟩
          · cases q10
            exact ⟨x, nd1, q2, .inr ⟨e0, by dsimp only at q3 ⊢; omega, q5, p2, rfl, qk.mono fun htr hs => htr.keep fun z hz => nd2 z (hs z hz)⟩⟩
def dropAll (A : Ar) (l : List Nat) : Ar := l.foldl drop A
theorem mv_dropAll : ∀ (l : List Nat) (A : Ar), Mv A (dropAll A l) l []
  | [], A => Mv.refl A []
  | x :: l, A => ((mv_drop A x).frame (R := l) (R1 := x :: l) (R1' := l) (fun z => by simp [List.count_cons]) (fun z => by simp)).trans (mv_dropAll l (drop A x))
theorem Reg.places {nd : Nat → Option Nod} {fan : Nat} (hf : 4 ≤ fan) : ∀ {h : Nat} {i : Nat} {lo hi : Option Key} {es : Es} {ps : List Nat}, Reg nd fan h i lo hi es ps → ps.length + 1 ≤ es.length
  | 0, _, _, _, _, _, ht => ht.elim
  | h + 1, i, lo, hi, es, ps, ⟨n, hn, hs, hc⟩ => by
    rcases hc with ⟨rfl, hm, hk, hkeys, _, _, _, rfl⟩ | ⟨h0, hm, _, ps', rfl, hk⟩
    · have : n.size = es.length := by simp [Nod.size, hk, hkeys, keysE_length]
      simp only [List.length_cons, List.length_nil]
      have : fan / 2 ≤ n.size := hm
      omega
    · have : ∀ {lo hi : Option Key} {ks : List Key} {is : List Nat} {es : Es} {ps : List Nat}, Kids (Reg nd fan h) lo hi ks is es ps → ps.length + is.length ≤ es.length := by
        intro lo hi ks is es ps hk
        induction hk with
        | one h1 => exact Reg.places hf h1
        | cons h1 _ _ ih => have := Reg.places hf h1; simp only [List.length_append, List.length_cons]; omega
      have h1 := this hk
      have h2 : n.size = n.kids.length := by simp [Nod.size, hk.ne]
      have h3 : fan / 2 ≤ n.size := hm
      simp only [List.length_cons]
      omega
theorem Tree.places {nd : Nat → Option Nod} {fan : Nat} (hf : 4 ≤ fan) {h : Nat} {i : Nat} {lo hi : Option Key} {es : Es} {ps : List Nat} (ht : Tree nd fan h (0, 2) i lo hi es ps) : ps.length ≤ 1 + es.length := by
  cases h with
  | zero => exact ht.elim
  | succ h =>
    obtain ⟨n, hn, hs, hc⟩ := ht
    rcases hc with ⟨rfl, hm, hk, hkeys, _, _, _, rfl⟩ | ⟨h0, hm, _, ps', rfl, hk⟩
    · simp
    · have : ∀ {lo hi : Option Key} {ks : List Key} {is : List Nat} {es : Es} {ps : List Nat}, Kids (Reg nd fan h) lo hi ks is es ps → ps.length + is.length ≤ es.length := by
        intro lo hi ks is es ps hk
        induction hk with
        | one h1 => exact Reg.places hf h1
        | cons h1 _ _ ih => have := Reg.places hf h1; simp only [List.length_append, List.length_cons]; omega
      have h1 := this hk
      simp only [List.length_cons]
      omega
theorem Tree.least {nd : Nat → Option Nod} {fan : Nat} {h : Nat} {i : Nat} {lo hi : Option Key} {es : Es} {ps : List Nat} (ht : Tree nd fan h (0, 2) i lo hi es ps) (h1 : 1 < h) : 2 * (fan / 2) ^ (h - 1) ≤ es.length := by
  obtain ⟨k, rfl⟩ : ∃ k, h = k + 1 := ⟨h - 1, by omega⟩
  obtain ⟨n, hn, hs, hc⟩ := ht
  rcases hc with ⟨rfl, _⟩ | ⟨h0, hm, _, ps', rfl, hk⟩
  · omega
  · have h1 := hk.each (f := List.length) (fun a b => by simp) (c := (fan / 2) ^ k) (fun ht => Reg.least ht)
    have h2 : n.size = n.kids.length := by simp [Nod.size, hk.ne]
    have h3 : 2 * (fan / 2) ^ k ≤ n.kids.length * (fan / 2) ^ k := Nat.mul_le_mul_right _ (by rw [← h2]; exact hm)
    simpa using Nat.le_trans h3 h1
theorem Tree.height {nd : Nat → Option Nod} {fan : Nat} {h : Nat} {mn : Nat × Nat} {i : Nat} {lo hi : Option Key} {es : Es} {ps : List Nat} (ht : Tree nd fan h mn i lo hi es ps) : 1 ≤ h ∧ h ≤ ps.length := by
  induction h generalizing i mn lo hi es ps with
  | zero => exact ht.elim
  | succ h ih =>
    obtain ⟨n, hn, hs, hc⟩ := ht
    rcases hc with ⟨rfl, _, _, _, _, _, _, rfl⟩ | ⟨h0, hm, _, ps', rfl, hk⟩
    · simp
    · obtain ⟨j, is', e, es', p, pp, hi', g1, g2, g3, rfl⟩ := hk.head
      have := ih g2
      simp only [List.length_cons, List.length_append]
      omega
end T4
set_option linter.unusedVariables false
set_option linter.unusedSimpArgs false
namespace Go.Proofs.Ythfagbfllheneaa
open Go Go.Sx T4
structure NOk (n : Nod) : Prop where
  k : n.keys.length ≤ 1000
  v : n.vals.length ≤ 1000
  c : n.kids.length ≤ 1000
  kl : ∀ x ∈ n.keys, x.length ≤ 1048576
  vl : ∀ x ∈ n.vals, x.length ≤ 1048576
structure NodAt (Ω : Nat → Prop) (w : World) (b : Nat) (n : Nod) (A1 : Option Addr) (c1 : Nat) (A2 : Option Addr) (c2 : Nat) (A3 : Option Addr) (c3 : Nat) : Prop where
  blk : Blk w b [.slice A1 n.keys.length c1, .slice A2 n.vals.length c2, .slice A3 n.kids.length c3]
  off : ¬ Ω b
  l1 : n.keys.length ≤ c1
  l2 : n.vals.length ≤ c2
  l3 : n.kids.length ≤ c3
  keys : Imm KBs Ω w A1 n.keys
  vals : Imm KBs Ω w A2 n.vals
  kids : Imm KN Ω w A3 n.kids
  nil : A3 = none ↔ n.kids = []
  okn : NOk n
theorem KN_pos : 0 < KN.size := by decide
theorem NodAt.keep {Ω Ω' : Nat → Prop} {w w' : World} {b : Nat} {n : Nod} {A1 : Option Addr} {c1 : Nat} {A2 : Option Addr} {c2 : Nat} {A3 : Option Addr} {c3 : Nat} (h : NodAt Ω w b n A1 c1 A2 c2 A3 c3) (st : Step Ω w Ω' w') : NodAt Ω' w' b n A1 c1 A2 c2 A3 c3 := by
  refine ⟨?_, st.out h.blk.lt h.off, h.l1, h.l2, h.l3, h.keys.keep KBs_pos st, h.vals.keep KBs_pos st, h.kids.keep KN_pos st, h.nil, h.okn⟩
  obtain ⟨e, he⟩ := h.blk
  exact ⟨e, (st.block b h.blk.lt h.off).trans he⟩
def NoR (Ω : Nat → Prop) (w : World) : Option Nod → List Value → Prop
  | none, cs => cs = [.pointer none]
  | some n, cs => ∃ b A1 c1 A2 c2 A3 c3, cs = [.pointer (some ⟨b, 0, none⟩)] ∧ NodAt Ω w b n A1 c1 A2 c2 A3 c3
def KNo : Kd (Option Nod) := ⟨1, NoR, fun {Ω w a cs} h => by
    cases a with
    | none => have h : cs = _ := h; rw [h]; rfl
    | some n => obtain ⟨_, _, _, _, _, _, _, h, _⟩ := h; rw [h]; rfl, fun {Ω w a cs Ω' w'} h st => by
    cases a with
    | none => exact h
    | some n => obtain ⟨b, A1, c1, A2, c2, A3, c3, e, h⟩ := h; exact ⟨b, A1, c1, A2, c2, A3, c3, e, h.keep st⟩⟩
theorem oneP : One KNo := ⟨rfl, fun {Ω w a cs} h v hv => by
  cases a with
  | none => have h : cs = _ := h; rw [h] at hv; simp at hv; subst hv; rfl
  | some n => obtain ⟨_, _, _, _, _, _, _, h, _⟩ := h; rw [h] at hv; simp at hv; subst hv; rfl⟩
def Om (R M : Nat → Prop) : Nat → Prop := fun k => ¬ R k ∨ M k
abbrev iv (n : Nat) : Value := .int .i64 (n : Int)
def arC (At : Option Addr) (ac : Nat) (Fa : Option Addr) (fc mb : Nat) (A : Ar) : List Value := [iv A.fan, iv A.most, .slice At A.at_.length ac, .slice Fa A.free.length fc, .map (some mb), iv A.last]
def mapE (l : List (Int × Nat)) : List (Int × Value) := l.map fun p => (p.1, iv p.2)
abbrev fI : Int → Value := fun a => .int .i64 a
def Stm (w : World) (b : Nat) : Prop := ∃ es clock, w.heap[b]? = some (.map es clock) ∧ Go.MapKept.Stamped es clock
theorem Stm.lt {w : World} {b : Nat} (h : Stm w b) : b < w.heap.size := by obtain ⟨es, c, h, _⟩ := h; exact (Array.getElem?_eq_some_iff.1 h).1
theorem Stm.keep {w w' : World} {b : Nat} {S : Nat → Prop} (h : Stm w b) (hf : Fr S w w') (hn : ¬ S b) : Stm w' b := by
  have hl := h.lt
  obtain ⟨es, c, h, hs⟩ := h
  exact ⟨es, c, (hf.block b hl hn).trans h, hs⟩
structure ArA (R M : Nat → Prop) (w : World) (g : Nat) (At : Option Addr) (ac : Nat) (Fa : Option Addr) (fc mb : Nat) (A : Ar) : Prop where
  blk : Blk w g (arC At ac Fa fc mb A)
  rlt : ∀ k, R k → k < w.heap.size
  mr : ∀ k, M k → R k
  mg : M g
  mA : ∀ k, ownB At k → M k
  mF : ∀ k, ownB Fa k → M k
  mm : M mb
  gA : ¬ ownB At g
  gF : ¬ ownB Fa g
  aF : ∀ k, ownB At k → ¬ ownB Fa k
  at_ : OwnK (Kd.out (Om R M) KNo) w At ac A.at_
  free : OwnK KN w Fa fc A.free
  trees : MapK fI w mb (mapE A.trees)
  stm : Stm w mb
def Ar1 (R M : Nat → Prop) (w : World) (g : Nat) (A : Ar) : Prop := ∃ At ac Fa fc mb, ArA R M w g At ac Fa fc mb A
structure Chg (R M : Nat → Prop) (w : World) (R' M' : Nat → Prop) (w' : World) : Prop where
  fr : Fr M w w'
  m : ∀ k, M' k → M k ∨ w.heap.size ≤ k
  r : ∀ k, R k → R' k
  r' : ∀ k, R' k → R k ∨ w.heap.size ≤ k
theorem Chg.refl (R M : Nat → Prop) (w : World) : Chg R M w R M w := ⟨.refl _ _, fun _ h => .inl h, fun _ h => h, fun _ h => .inl h⟩
theorem Chg.trans {R M R' M' R'' M'' : Nat → Prop} {w w' w'' : World} (h : Chg R M w R' M' w') (h' : Chg R' M' w' R'' M'' w'') : Chg R M w R'' M'' w'' :=
  ⟨h.fr.trans h'.fr (fun _ _ h => h) (fun k hk hm => (h.m k hm).resolve_right (by omega)),
   fun k hk => (h'.m k hk).elim (h.m k) fun h2 => .inr (Nat.le_trans h.fr.size h2),
   fun k hk => h'.r k (h.r k hk),
   fun k hk => (h'.r' k hk).elim (h.r' k) fun h2 => .inr (Nat.le_trans h.fr.size h2)⟩
theorem Chg.ext {R M : Nat → Prop} {w w' : World} (e : Ext w w') : Chg R M w R M w' := ⟨e.fr, fun _ h => .inl h, fun _ h => h, fun _ h => .inl h⟩
theorem Chg.step {R M R' M' : Nat → Prop} {w w' : World} (h : Chg R M w R' M' w') : Step (Om R M) w (Om R' M') w' :=
  ⟨h.fr.size, fun k hk hn => h.fr.block k hk fun hm => hn (.inr hm), fun k hk ho => ho.elim (fun hr => .inl fun h2 => hr (h.r k h2)) fun hm => .inr ((h.m k hm).resolve_right (by omega))⟩
theorem Ext.om {w w' : World} (e : Ext w w') (R M : Nat → Prop) : Step (Om R M) w (Om R M) w' := e.step _
theorem ArA.more {R R' M : Nat → Prop} {w : World} {g : Nat} {At : Option Addr} {ac : Nat} {Fa : Option Addr} {fc mb : Nat} {A : Ar} (h : ArA R M w g At ac Fa fc mb A) (h1 : ∀ k, R k → R' k) (h2 : ∀ k, R' k → k < w.heap.size) : ArA R' M w g At ac Fa fc mb A :=
  ⟨h.blk, h2, fun k hk => h1 k (h.mr k hk), h.mg, h.mA, h.mF, h.mm, h.gA, h.gF, h.aF, h.at_.toOut (.refl NoB w) (fun _ _ h => h) (fun _ _ h => h.elim) (fun k _ hk => .inr (hk.imp (fun h' h => h' (h1 k h)) id)), h.free, h.trees, h.stm⟩
theorem ArA.frame {R M : Nat → Prop} {w w' : World} {g : Nat} {At : Option Addr} {ac : Nat} {Fa : Option Addr} {fc mb : Nat} {A : Ar} (h : ArA R M w g At ac Fa fc mb A) {S : Nat → Prop} (hf : Fr S w w') (hS : ∀ k, k < w.heap.size → S k → ¬ R k) : ArA R M w' g At ac Fa fc mb A := by
  have off : ∀ k, M k → ¬ S k := fun k hm hs => hS k (h.rlt k (h.mr k hm)) hs (h.mr k hm)
  refine ⟨h.blk.keep hf (off g h.mg), fun k hk => Nat.lt_of_lt_of_le (h.rlt k hk) hf.size, h.mr, h.mg, h.mA, h.mF, h.mm, h.gA, h.gF, h.aF, h.at_.toOut hf (fun k hk => off k (h.mA k hk)) (fun k hk hs => .inr (.inl (hS k hk hs))) (fun k _ h => .inr h), ?_, h.trees.keep hf (off mb h.mm), h.stm.keep hf (off mb h.mm)⟩
  exact h.free.fr hf (fun k hk => off k (h.mF k hk)) fun a cs _ h => h
theorem ArA.ext {R M : Nat → Prop} {w w' : World} {g : Nat} {At : Option Addr} {ac : Nat} {Fa : Option Addr} {fc mb : Nat} {A : Ar} (h : ArA R M w g At ac Fa fc mb A) (e : Ext w w') : ArA R M w' g At ac Fa fc mb A := h.frame e fun _ _ h => h.elim
theorem Ar1.ext {R M : Nat → Prop} {w w' : World} {g : Nat} {A : Ar} (h : Ar1 R M w g A) (e : Ext w w') : Ar1 R M w' g A := by
  obtain ⟨At, ac, Fa, fc, mb, h⟩ := h; exact ⟨At, ac, Fa, fc, mb, h.ext e⟩
theorem Ar1.frame {R M : Nat → Prop} {w w' : World} {g : Nat} {A : Ar} (h : Ar1 R M w g A) {S : Nat → Prop} (hf : Fr S w w') (hS : ∀ k, k < w.heap.size → S k → ¬ R k) : Ar1 R M w' g A := by
  obtain ⟨At, ac, Fa, fc, mb, h⟩ := h; exact ⟨At, ac, Fa, fc, mb, h.frame hf hS⟩
theorem Ar1.more {R R' M : Nat → Prop} {w : World} {g : Nat} {A : Ar} (h : Ar1 R M w g A) (h1 : ∀ k, R k → R' k) (h2 : ∀ k, R' k → k < w.heap.size) : Ar1 R' M w g A := by
  obtain ⟨At, ac, Fa, fc, mb, h⟩ := h; exact ⟨At, ac, Fa, fc, mb, h.more h1 h2⟩
theorem Ar1.lt {R M : Nat → Prop} {w : World} {g : Nat} {A : Ar} (h : Ar1 R M w g A) : ∀ k, R k → k < w.heap.size := by
  obtain ⟨At, ac, Fa, fc, mb, h⟩ := h; exact h.rlt
theorem ArA.mbOff {R M : Nat → Prop} {w : World} {g : Nat} {At : Option Addr} {ac : Nat} {Fa : Option Addr} {fc mb : Nat} {A : Ar} (h : ArA R M w g At ac Fa fc mb A) : mb ≠ g ∧ ¬ ownB At mb ∧ ¬ ownB Fa mb := by
  obtain ⟨es, cl, hm, _⟩ := h.trees
  have own : ∀ {A : Option Addr} {n c sz : Nat} {xs : List Value}, Own w sz A n c xs → ¬ ownB A mb := by
    rintro A n c sz xs ho ⟨ad, hA, hb⟩
    rcases ho.2.2 with ⟨h, _⟩ | ⟨g', cur, e, lo, hi, h, hg, _⟩
    · rw [h] at hA; cases hA
    · rw [h] at hA; cases hA; subst hb; rw [hm] at hg; cases hg
  refine ⟨?_, ?_, ?_⟩
  · rintro rfl
    obtain ⟨e, he⟩ := h.blk
    rw [hm] at he; cases he
  · obtain ⟨xs, ho, _⟩ := h.at_; exact own ho
  · obtain ⟨xs, ho, _⟩ := h.free; exact own ho
theorem ArA.cell {R M : Nat → Prop} {w : World} {g : Nat} {At : Option Addr} {ac : Nat} {Fa : Option Addr} {fc mb : Nat} {A : Ar} (h : ArA R M w g At ac Fa fc mb A) {i : Nat} {a : Option Nod} (hi : A.at_[i]? = some a) : ∃ ga v, At = some ⟨ga, 0, none⟩ ∧ w.cell? ⟨ga, i, none⟩ = some v ∧ NoR (Om R M) w a [v] := by
  obtain ⟨xs, ho, hf⟩ := (ownK1 (oneP.out _)).1 h.at_
  obtain ⟨v, hv, hr⟩ := hf.get hi
  obtain ⟨ga, rfl, hc⟩ := ho.cells hv
  exact ⟨ga, v, rfl, hc, KNo.keep hr ⟨Nat.le_refl _, fun _ _ _ => rfl, fun k _ h => .inr h⟩⟩
theorem nd_at {A : Ar} {i : Nat} {n : Nod} (h : A.nd i = some n) : A.at_[i]? = some (some n) := by
  unfold Ar.nd at h
  cases hc : A.at_[i]? with
  | none => rw [hc] at h; cases h
  | some a => rw [hc] at h; simp at h; rw [h]
theorem ArA.node {R M : Nat → Prop} {w : World} {g : Nat} {At : Option Addr} {ac : Nat} {Fa : Option Addr} {fc mb : Nat} {A : Ar} (h : ArA R M w g At ac Fa fc mb A) {i : Nat} {n : Nod} (hi : A.nd i = some n) : i < A.at_.length ∧ ∃ ga b A1 c1 A2 c2 A3 c3, At = some ⟨ga, 0, none⟩ ∧ w.cell? ⟨ga, i, none⟩ = some (.pointer (some ⟨b, 0, none⟩)) ∧ NodAt (Om R M) w b n A1 c1 A2 c2 A3 c3 := by
  have h1 := nd_at hi
  obtain ⟨ga, v, hA, hc, b, A1, c1, A2, c2, A3, c3, e, hn⟩ := h.cell h1
  cases e
  exact ⟨(List.getElem?_eq_some_iff.1 h1).1, ga, b, A1, c1, A2, c2, A3, c3, hA, hc, hn⟩
theorem ArA.setAt {R M : Nat → Prop} {w : World} {g : Nat} {At : Option Addr} {ac : Nat} {Fa : Option Addr} {fc mb : Nat} {A : Ar} (h : ArA R M w g At ac Fa fc mb A) {i : Nat} (hi : i < A.at_.length) {a : Option Nod} {v : Value} (ha : NoR (Om R M) w a [v]) :
    ∃ ga, At = some ⟨ga, 0, none⟩ ∧ stOK ((⟨ga, 0, none⟩ : Addr).add (i * 1)) 0 [v] w ∧ ∀ w', w' = setAll ((⟨ga, 0, none⟩ : Addr).add (i * 1)) 0 [v] w → ArA R M w' g At ac Fa fc mb { A with at_ := A.at_.set i a } ∧ Chg R M w R M w' := by
  obtain ⟨xs, ho, hf⟩ := (ownK1 (oneP.out _)).1 h.at_
  have hxl := hf.len
  obtain ⟨ga, hA, h1, h2, h3⟩ := ho.at_ (j := i) (by omega)
  subst hA
  refine ⟨ga, rfl, ?_, ?_⟩
  · rw [add_new, Nat.zero_add, Nat.mul_one]; exact ⟨h1, h2⟩
  · rintro w' rfl
    rw [add_new, Nat.zero_add, Nat.mul_one]
    obtain ⟨ho', hfr⟩ := h3 v
    have hset : setAll (⟨ga, i, none⟩ : Addr) 0 [v] w = w.setCell ⟨ga, i, none⟩ v := by simp [setAll, add_zero']
    rw [hset]
    have st : Step (Om R M) w (Om R M) (w.setCell ⟨ga, i, none⟩ v) := hfr.step (fun k _ hk => .inr (h.mA k hk)) (fun _ _ h => h)
    have mOff := h.mbOff
    refine ⟨⟨by have := h.blk.keep hfr h.gA; simpa [arC] using this, fun k hk => Nat.lt_of_lt_of_le (h.rlt k hk) hfr.size, h.mr, h.mg, h.mA, h.mF, h.mm, h.gA, h.gF, h.aF, ?_, h.free.fr hfr (fun k hk hk' => h.aF k hk' hk) (fun _ _ _ h => h), h.trees.keep hfr mOff.2.1, h.stm.keep hfr mOff.2.1⟩, ⟨hfr.mono fun k _ hk => h.mA k hk, fun _ h => .inl h, fun _ h => h, fun _ h => .inl h⟩⟩
    refine (ownK1 (oneP.out _)).2 ⟨xs.set i v, by rw [List.length_set]; exact ho', F2.of (by simp [hxl]) fun j x y hx hy => ?_⟩
    have st2 : Step (fun k => ownB (some ⟨ga, 0, none⟩) k ∨ Om R M k) w (fun k => ownB (some ⟨ga, 0, none⟩) k ∨ Om R M k) (w.setCell ⟨ga, i, none⟩ v) := hfr.step (fun k _ hk => .inl hk) (fun _ _ h => h)
    rw [List.getElem?_set] at hx hy
    by_cases hij : i = j
    · subst hij
      rw [if_pos rfl, if_pos hi] at hx
      rw [if_pos rfl, if_pos (by omega)] at hy
      cases hx; cases hy
      exact KNo.keep ha ⟨hfr.size, fun k hk hn => hfr.block k hk fun h' => hn (.inr (h.mA k h')), fun k _ hk => hk.elim (fun h' => .inr (h.mA k h')) id⟩
    · rw [if_neg hij] at hx hy
      obtain ⟨y', hy', hr⟩ := hf.get hx
      rw [hy] at hy'; cases hy'
      exact KNo.keep hr st2
end Go.Proofs.Ythfagbfllheneaa
set_option linter.unusedVariables false
set_option linter.unusedSimpArgs false
namespace Go.Proofs.Ythfagbfllheneaa
open Go Go.Sx T4
def getT : List (Int × Nat) → Int → Option Nat
  | [], _ => none
  | (x, u) :: l, a => if a = x then some u else getT l a
theorem getT_M (a : Int) : ∀ l : List (Int × Nat), getM (mapE l) a = (getT l a).map iv
  | [] => rfl
  | (x, u) :: l => by
    have ih := getT_M a l
    show (if a = x then some (iv u) else getM (mapE l) a) = (if a = x then some u else getT l a).map iv
    split
    · rfl
    · exact ih
theorem made_spec {R M : Nat → Prop} {w : World} {g : Nat} {A : Ar} (h : Ar1 R M w g A) (hf : 0 < A.fan) : CallsV Try.prog 104 #[.pointer (some ⟨g, 0, none⟩)] w fun r w' => r = .bool true ∧ w' = w := by
  obtain ⟨At, ac, Fa, fc, mb, h⟩ := h
  refine tree_Arena_made.calls okay ?_
  unfold tree_Arena_made.W
  refine brnb (fun _ => ⟨_, rfl, _, h.blk.cell rfl, ?_, rfl⟩) (fun h => by cases h)
  simp; omega
theorem keyI : KeyF Try.prog 3 (.int .i64) fI := keyInt (by kernel_rfl)
theorem zeroI (w : World) : (zeroValue 3).run Try.prog w = .ok (.int .i64 0) w := by
  have h : inf Try.prog 3 = some Try.t3 := by kernel_rfl
  simp only [zeroValue, Sem.run_bind, run_inf h, Result.andThen_ok]
  rfl
theorem top_spec {R M : Nat → Prop} {w : World} {g : Nat} {A : Ar} (h : Ar1 R M w g A) (hf : 0 < A.fan) (root : Int) : CallsV Try.prog 108 #[.pointer (some ⟨g, 0, none⟩), .int .i64 root] w fun r w' => r = (match getT A.trees root with | some i => .tuple #[iv i, .int .i64 0] | none => .tuple #[.int .i64 0, .int .i64 41]) ∧ w' = w := by
  refine tree_Arena_top.calls okay ?_
  unfold tree_Arena_top.W
  refine (made_spec h hf).same ⟨_, rfl, brnb (fun h => by cases h) (fun _ => ?_)⟩
  obtain ⟨At, ac, Fa, fc, mb, h⟩ := h
  refine ⟨_, rfl, _, h.blk.cell rfl, ?_⟩
  have hl := (h.trees.look (P := Try.prog) keyI (t := 145) (kt := 3) (et := 3) (by kernel_rfl) root (z := .int .i64 0) zeroI).1
  rw [getT_M] at hl
  cases hg : getT A.trees root with
  | none =>
    rw [hg] at hl
    exact ⟨_, _, _, hl, brnb (fun _ => ⟨rfl, rfl⟩) (fun h => by cases h)⟩
  | some i =>
    rw [hg] at hl
    exact ⟨_, _, _, hl, brnb (fun h => by cases h) (fun _ => ⟨rfl, rfl⟩)⟩
theorem size_spec {Ω : Nat → Prop} {w : World} {b : Nat} {n : Nod} {A1 : Option Addr} {c1 : Nat} {A2 : Option Addr} {c2 : Nat} {A3 : Option Addr} {c3 : Nat} (h : NodAt Ω w b n A1 c1 A2 c2 A3 c3) : CallsV Try.prog 127 #[.pointer (some ⟨b, 0, none⟩)] w fun r w' => r = iv n.size ∧ w' = w := by
  refine tree_node_size.calls okay ?_
  unfold tree_node_size.W
  refine ⟨_, rfl, _, _, _, h.blk.cell rfl, ?_⟩
  refine brnb (fun hn => ?_) (fun hn => ?_)
  · have : n.kids ≠ [] := fun e => by rw [h.nil.2 e] at hn; cases hn
    exact ⟨_, rfl, _, _, _, h.blk.cell rfl, by rw [Nod.size, if_neg this], rfl⟩
  · have : n.kids = [] := h.nil.1 (by cases A3 <;> simp_all)
    exact ⟨_, rfl, _, _, _, h.blk.cell rfl, by rw [Nod.size, if_pos this], rfl⟩
theorem below_spec {Ω Ω' : Nat → Prop} {w : World} {b : Nat} {n : Nod} {A1 : Option Addr} {c1 : Nat} {A2 : Option Addr} {c2 : Nat} {A3 : Option Addr} {c3 : Nat} (h : NodAt Ω w b n A1 c1 A2 c2 A3 c3) (hu : Up n.keys) {B : Option Addr} {key : Key} (hb : Imm KB Ω' w B key) (cb : Nat) :
    CallsV Try.prog 121 #[.pointer (some ⟨b, 0, none⟩), .slice B key.length cb] w fun r w' => r = iv (bel n.keys key) ∧ w' = w := by
  refine tree_node_below.calls okay ?_
  unfold tree_node_below.W
  have hk := h.okn.k
  have hp := pos_le n.keys key
  refine ⟨_, rfl, _, _, _, h.blk.cell rfl, (Search_spec h.keys hb hu (by omega) c1 cb).same ⟨_, _, rfl, ?_⟩⟩
  have e := bel_pos hu key
  refine br (fun ht => ⟨?_, rfl⟩) (fun hf => ⟨?_, rfl⟩)
  · rw [ht, if_pos rfl] at e; rw [wi _ (by omega) (by omega), e]; simp [iv]
  · rw [hf, if_neg (by simp)] at e; rw [e]; simp [iv]
theorem Nodes_spec {R M : Nat → Prop} {w : World} {g : Nat} {A : Ar} (h : Ar1 R M w g A) (h1 : A.free.length ≤ A.at_.length) (h2 : A.at_.length ≤ 1048576) : CallsV Try.prog 86 #[.pointer (some ⟨g, 0, none⟩)] w fun r w' => r = iv A.nodes ∧ w' = w.drew := by
  obtain ⟨At, ac, Fa, fc, mb, h⟩ := h
  refine tree_Arena_Nodes.calls okay ?_
  unfold tree_Arena_Nodes.W
  refine br (fun h => by cases h) (fun _ => ⟨_, rfl, fun u => u = w.drew, rfl, ?_⟩)
  have hb := h.blk.keep (Fr.drew NoB w) (fun h => h)
  refine ⟨_, _, _, fun u hu => by subst hu; exact hb.cell rfl, _, rfl, _, _, _, fun u hu => by subst hu; exact hb.cell rfl, ?_, rfl⟩
  rw [wi _ (by omega) (by omega)]
  unfold Ar.nodes iv
  congr 1
  omega
theorem setF {w : World} {g : Nat} {cur : List Value} (b : Blk w g cur) {o : Nat} (ho : o < cur.length) (v : Value) : stOK ((⟨g, 0, none⟩ : Addr).add o) 0 [v] w ∧ ∀ w', w' = setAll ((⟨g, 0, none⟩ : Addr).add o) 0 [v] w → Blk w' g (cur.set o v) ∧ Fr (fun k => k = g) w w' := by
  rw [add_new, Nat.zero_add]
  refine ⟨b.stOK [v] 0 (by simp; omega), ?_⟩
  rintro w' rfl
  exact ⟨Blk.setAll (o := o) [v] 0 b, Fr.setAll [v] 0 w⟩
def FreeOk (A : Ar) : Prop := ∀ x ∈ A.free, x < A.at_.length
theorem place_specA {R M : Nat → Prop} {w : World} {g : Nat} {At : Option Addr} {ac : Nat} {Fa : Option Addr} {fc mb : Nat} {A : Ar} (h : ArA R M w g At ac Fa fc mb A) (hl : A.at_.length ≤ 1048576) (hF : FreeOk A) (hfl : A.free.length ≤ 1048576) {n : Nod} {p : Option Addr} (hn : NoR (Om R M) w (some n) [.pointer p]) :
    CallsV Try.prog 107 #[.pointer (some ⟨g, 0, none⟩), .pointer p] w fun r w' => r = iv (place A n).2 ∧ ∃ R' M', (∃ At' ac' Fa' fc', ArA R' M' w' g At' ac' Fa' fc' mb (place A n).1) ∧ Chg R M w R' M' w' := by
  refine tree_Arena_place.calls okay ?_
  unfold tree_Arena_place.W
  unfold place
  refine ⟨_, rfl, _, _, _, h.blk.cell rfl, brd (fun hlt => ?_) (fun hge => ?_)⟩
  · have h0 : ¬ A.free.length = 0 := by omega
    rw [if_neg h0]
    have hk : A.free.length - 1 < A.free.length := by omega
    have e1 : IntKind.i64.wrap ((A.free.length : Int) - 1) = ((A.free.length - 1 : Nat) : Int) := by rw [wi _ (by omega) (by omega)]; omega
    rw [e1, Int.toNat_natCast]
    obtain ⟨xs, ho, hf⟩ := (ownK1 oneN).1 h.free
    have hg : A.free.getD (A.free.length - 1) 0 = A.free[A.free.length - 1] := by simp [List.getD, hk]
    rw [hg]
    obtain ⟨v, hv, hr⟩ := hf.get (i := A.free.length - 1) (a := A.free[A.free.length - 1]) (by simp)
    have hr : [v] = [iv A.free[A.free.length - 1]] := hr
    cases hr
    obtain ⟨gf, rfl, hc⟩ := ho.cells hv
    have hx := hF A.free[A.free.length - 1] (by simp)
    refine ⟨_, rfl, _, _, _, h.blk.cell rfl, _, rfl, ⟨by omega, by omega⟩, _, by rw [add_new, Nat.zero_add, Nat.mul_one]; exact hc, _, rfl, _, _, _, h.blk.cell rfl, ⟨by omega, by have := ho.le; omega⟩, _, rfl, ?_⟩
    obtain ⟨s1, s2⟩ := setF h.blk (o := 3) (by simp [arC]) (.slice (cutAt (some ⟨gf, 0, none⟩) fc 0 1) (A.free.length - 1) fc)
    refine ⟨s1, fun w1 hw1 => ?_⟩
    obtain ⟨b1, f1⟩ := s2 w1 hw1
    rw [cutAt_zero] at b1
    have mOff := h.mbOff
    have h1 : ArA R M w1 g At ac (some ⟨gf, 0, none⟩) fc mb { A with free := A.free.take (A.free.length - 1) } := by
      refine ⟨by simpa [arC, List.length_take, Nat.min_eq_left (show A.free.length - 1 ≤ A.free.length by omega)] using b1, fun k hk => Nat.lt_of_lt_of_le (h.rlt k hk) f1.size, h.mr, h.mg, h.mA, h.mF, h.mm, h.gA, h.gF, h.aF, h.at_.toOut f1 (fun k hk e => h.gA (e ▸ hk)) (fun k _ e => .inr (.inr (e ▸ h.mg))) (fun k _ h => .inr h), (h.free.take _ (by omega)).fr f1 (fun k hk e => h.gF (e ▸ hk)) (fun _ _ _ h => h), h.trees.keep f1 mOff.1, h.stm.keep f1 mOff.1⟩
    have c1 : Chg R M w R M w1 := ⟨f1.mono fun k _ e => e ▸ h.mg, fun _ h => .inl h, fun _ h => h, fun _ h => .inl h⟩
    obtain ⟨ga, rfl, s3, s4⟩ := h1.setAt (i := A.free[A.free.length - 1]) hx (a := some n) (v := .pointer p) (KNo.keep (a := some n) hn c1.step)
    refine ⟨_, rfl, _, _, _, h1.blk.cell rfl, _, rfl, ⟨by omega, Int.ofNat_lt.2 hx⟩, by rw [Int.toNat_natCast]; exact s3, fun w2 hw2 => ?_⟩
    rw [Int.toNat_natCast] at hw2
    obtain ⟨h2, c2⟩ := s4 w2 hw2
    exact ⟨rfl, R, M, ⟨_, _, _, _, h2⟩, c1.trans c2⟩
  · have h0 : A.free.length = 0 := by omega
    rw [if_pos h0]
    refine ⟨_, rfl, _, _, _, h.blk.cell rfl, ?_⟩
    intro g1 w1 f
    obtain ⟨rfl, rfl⟩ := f
    have hat := h.at_
    obtain ⟨A', c', w2, hr, ho, gr⟩ := hat.push (by rw [(oneP.out _).sz]; exact slP) (ty := 146) (a := some n) (cs := [.pointer p]) (KNo.keep (a := some n) hn ⟨Nat.le_refl _, fun _ _ _ => rfl, fun k _ hk => hk.elim (fun h' => .inr (h.mA k h')) id⟩) (fun v hv => by simp at hv; subst hv; rfl) (e' := 150) (by simp only [maxLen]; omega) (by omega)
    have hbk : Blk w2 g (arC At ac Fa fc mb A) := h.blk.keep gr.fr h.gA
    obtain ⟨s1, s2⟩ := setF hbk (o := 2) (by simp [arC]) (.slice A' (A.at_ ++ [some n]).length c')
    refine ⟨_, _, _, w2, hr, _, rfl, s1, fun w3 hw3 => ?_⟩
    obtain ⟨b3, f3⟩ := s2 w3 hw3
    have mOff := h.mbOff
    have hRlt := h.rlt
    have hgl := h.blk.lt
    have nA : ∀ k, ownB A' k → (ownB At k ∨ w.heap.size ≤ k) := gr.sub
    have gA' : ¬ ownB A' g := fun hk => (nA g hk).elim h.gA (by omega)
    have hlt2 := ho.lt
    let R' : Nat → Prop := fun k => R k ∨ ownB A' k
    let M' : Nat → Prop := fun k => (M k ∧ (ownB At k → ownB A' k)) ∨ ownB A' k
    refine ⟨_, rfl, _, _, _, b3.cell rfl, ?_, R', M', ⟨A', c', Fa, fc, ?_⟩, ⟨?_, ?_, fun k hk => .inl hk, ?_⟩⟩
    · have e1 : IntKind.i64.wrap (((A.at_ ++ [some n]).length : Int) - 1) = (A.at_.length : Int) := by
        rw [List.length_append, List.length_singleton, wi _ (by omega) (by omega)]; omega
      exact congrArg (Value.int .i64) e1
    · have st : ∀ k, k < w.heap.size → (ownB A' k ∨ Om R' M' k) → (ownB At k ∨ Om R M k) := by
        intro k hk h'
        rcases h' with h' | h'
        · exact .inl ((nA k h').resolve_right (by omega))
        · rcases h' with h' | h'
          · exact .inr (.inl fun hr => h' (.inl hr))
          · rcases h' with h' | h'
            · exact .inr (.inr h'.1)
            · exact .inl ((nA k h').resolve_right (by omega))
      refine ⟨b3, ?_, ?_, .inl ⟨h.mg, fun hk => absurd hk h.gA⟩, fun k hk => .inr hk, fun k hk => .inl ⟨h.mF k hk, fun hk' => absurd hk (h.aF k hk')⟩, .inl ⟨h.mm, fun hk => absurd hk mOff.2.1⟩, gA', h.gF, ?_, ?_, ?_, ?_, ?_⟩
      · rintro k (hk | hk)
        · exact Nat.lt_of_lt_of_le (Nat.lt_of_lt_of_le (hRlt k hk) gr.fr.size) f3.size
        · exact Nat.lt_of_lt_of_le (hlt2 k hk) f3.size
      · rintro k (hk | hk)
        · exact .inl (h.mr k hk.1)
        · exact .inr hk
      · intro k hk hk'
        rcases nA k hk with h' | h'
        · exact h.aF k h' hk'
        · have := h.free.lt k hk'; omega
      · have h2 : OwnK (Kd.out (Om R' M') KNo) w2 A' c' (A.at_ ++ [some n]) := by
          obtain ⟨xs, ho', hr'⟩ := ho
          exact ⟨xs, ho', fun i a ha => KNo.keep (hr' i a ha) ⟨Nat.le_refl _, fun _ _ _ => rfl, fun k hk h' => by
            rcases h' with h' | h'
            · exact .inl h'
            · rcases h' with h' | h'
              · exact .inr (.inl fun hr => h' (.inl hr))
              · rcases h' with h' | h'
                · exact .inr (.inr h'.1)
                · exact .inl h'⟩⟩
        exact h2.toOut f3 (fun k hk e => gA' (e ▸ hk)) (fun k _ e => .inr (.inr (.inl ⟨e ▸ h.mg, fun hk => absurd (e ▸ hk) h.gA⟩))) (fun k _ h => .inr h)
      · exact (h.free.fr gr.fr (fun k hk hk' => h.aF k hk' hk) (fun _ _ _ h => h)).fr f3 (fun k hk e => h.gF (e ▸ hk)) (fun _ _ _ h => h)
      · exact (h.trees.keep gr.fr mOff.2.1).keep f3 mOff.1
      · exact (h.stm.keep gr.fr mOff.2.1).keep f3 mOff.1
    · exact gr.fr.trans f3 (fun k _ hk => h.mA k hk) (fun k _ e => e ▸ h.mg)
    · rintro k (hk | hk)
      · exact .inl hk.1
      · exact (nA k hk).imp (h.mA k) id
    · rintro k (hk | hk)
      · exact .inl hk
      · exact (nA k hk).imp (fun h' => h.mr k (h.mA k h')) id
theorem place_spec {R M : Nat → Prop} {w : World} {g : Nat} {A : Ar} (h : Ar1 R M w g A) (hl : A.at_.length ≤ 1048576) (hF : FreeOk A) (hfl : A.free.length ≤ 1048576) {n : Nod} {p : Option Addr} (hn : NoR (Om R M) w (some n) [.pointer p]) :
    CallsV Try.prog 107 #[.pointer (some ⟨g, 0, none⟩), .pointer p] w fun r w' => r = iv (place A n).2 ∧ ∃ R' M', Ar1 R' M' w' g (place A n).1 ∧ Chg R M w R' M' w' := by
  obtain ⟨At, ac, Fa, fc, mb, h⟩ := h
  refine (place_specA h hl hF hfl hn).mono ?_
  rintro r w' ⟨hr, R', M', ⟨At', ac', Fa', fc', h'⟩, c⟩
  exact ⟨hr, R', M', ⟨_, _, _, _, _, h'⟩, c⟩
theorem drop_spec {R M : Nat → Prop} {w : World} {g : Nat} {A : Ar} (h : Ar1 R M w g A) (hfl : A.free.length ≤ 1048576) {i : Nat} (hi : i < A.at_.length) :
    CallsV Try.prog 117 #[.pointer (some ⟨g, 0, none⟩), iv i] w fun r w' => r = .tuple #[] ∧ ∃ R' M', Ar1 R' M' w' g (drop A i) ∧ Chg R M w R' M' w' := by
  obtain ⟨At, ac, Fa, fc, mb, h⟩ := h
  refine tree_Arena_drop.calls okay ?_
  unfold tree_Arena_drop.W
  obtain ⟨ga, rfl, s3, s4⟩ := h.setAt hi (a := none) (v := .pointer none) rfl
  refine ⟨_, rfl, _, _, _, h.blk.cell rfl, _, rfl, ⟨by omega, by omega⟩, by rw [Int.toNat_natCast]; exact s3, fun w1 hw1 => ?_⟩
  rw [Int.toNat_natCast] at hw1
  obtain ⟨h1, c1⟩ := s4 w1 hw1
  refine ⟨_, rfl, _, _, _, h1.blk.cell rfl, ?_⟩
  intro g1 w2 f
  obtain ⟨rfl, rfl⟩ := f
  obtain ⟨A', c', w3, hr, ho, gr⟩ := h1.free.push (K := KN) slI (ty := 37) (a := i) (cs := [iv i]) rfl (fun v hv => by simp at hv; subst hv; rfl) (e' := 3) (by simp only [maxLen]; show A.free.length + 1 ≤ _; omega) (by show (A.free.length + 1) * 8 ≤ _; omega)
  have hbk : Blk w3 g _ := h1.blk.keep gr.fr h1.gF
  obtain ⟨s1, s2⟩ := setF hbk (o := 3) (by simp [arC]) (.slice A' (A.free ++ [i]).length c')
  refine ⟨_, _, _, w3, hr, _, rfl, s1, fun w4 hw4 => ?_⟩
  obtain ⟨b4, f4⟩ := s2 w4 hw4
  have mOff := h1.mbOff
  have hgl := h1.blk.lt
  have nA : ∀ k, ownB A' k → (ownB Fa k ∨ w1.heap.size ≤ k) := gr.sub
  have gA' : ¬ ownB A' g := fun hk => (nA g hk).elim h1.gF (by omega)
  have hlt2 := ho.lt
  have hatl := h1.at_.lt
  let R' : Nat → Prop := fun k => R k ∨ ownB A' k
  let M' : Nat → Prop := fun k => M k ∨ ownB A' k
  have c2 : Chg R M w1 R' M' w4 := by
    refine ⟨gr.fr.trans f4 (fun k _ hk => h1.mF k hk) (fun k _ e => e ▸ h1.mg), ?_, fun k hk => .inl hk, ?_⟩
    · rintro k (hk | hk)
      · exact .inl hk
      · exact (nA k hk).imp (h1.mF k) id
    · rintro k (hk | hk)
      · exact .inl hk
      · exact (nA k hk).imp (fun h' => h1.mr k (h1.mF k h')) id
  refine ⟨rfl, R', M', ⟨some ⟨ga, 0, none⟩, ac, A', c', mb, ?_⟩, c1.trans c2⟩
  refine ⟨by simpa [arC, drop] using b4, ?_, ?_, .inl h1.mg, fun k hk => .inl (h1.mA k hk), fun k hk => .inr hk, .inl h1.mm, h1.gA, gA', ?_, ?_, ?_, ?_, ?_⟩
  · rintro k (hk | hk)
    · exact Nat.lt_of_lt_of_le (h1.rlt k hk) c2.fr.size
    · exact Nat.lt_of_lt_of_le (hlt2 k hk) f4.size
  · rintro k (hk | hk)
    · exact .inl (h1.mr k hk)
    · exact .inr hk
  · intro k hk hk'
    rcases nA k hk' with h' | h'
    · exact h1.aF k hk h'
    · have := hatl k hk; omega
  · have fr2 : Fr (fun k => ownB Fa k ∨ k = g) w1 w4 := gr.fr.trans f4 (fun k _ hk => .inl hk) (fun k _ e => .inr e)
    refine h1.at_.toOut fr2 (fun k hk h' => h'.elim (h1.aF k hk) fun e => h1.gA (e ▸ hk)) (fun k _ hk => .inr (.inr (hk.elim (h1.mF k) fun e => e ▸ h1.mg))) (fun k hk h' => ?_)
    · rcases h' with h' | h' | h'
      · exact .inr (.inl fun hr => h' (.inl hr))
      · exact .inr (.inr h')
      · exact .inr (.inr (h1.mF k ((nA k h').resolve_right (by omega))))
  · exact ho.fr f4 (fun k hk e => gA' (e ▸ hk)) (fun _ _ _ h => h)
  · exact (h1.trees.keep gr.fr mOff.2.2).keep f4 mOff.1
  · exact (h1.stm.keep gr.fr mOff.2.2).keep f4 mOff.1
end Go.Proofs.Ythfagbfllheneaa
set_option linter.unusedVariables false
set_option linter.unusedSimpArgs false
namespace Go.Proofs.Ythfagbfllheneaa
open Go Go.Sx T4
/-! ## trees, by their nodes -/
theorem kids_nth {T : TP} {lo hi : Option Key} {ks : List Key} {is : List Nat} {es : Es} {ps : List Nat} (h : T4.Kids T lo hi ks is es ps) : ∀ (c j : Nat), is[c]? = some j → ∃ lo' hi' es' ps', T j lo' hi' es' ps' := by
  induction h with
  | one h => intro c j hc; cases c with | zero => simp at hc; subst hc; exact ⟨_, _, _, _, h⟩ | succ c => simp at hc
  | cons h _ _ ih => intro c j hc; cases c with | zero => simp at hc; subst hc; exact ⟨_, _, _, _, h⟩ | succ c => exact ih c j (by simpa using hc)
theorem kid_get {n : Nod} {c : Nat} (h : c < n.kids.length) : n.kids[c]? = some (kid n c) := by simp [kid, List.getD, h]
theorem tree_node {nd : Nat → Option Nod} {fan k : Nat} {mn : Nat × Nat} {j : Nat} {lo hi : Option Key} {es : Es} {ps : List Nat} (h : Tree nd fan k mn j lo hi es ps) :
    ∃ n, nd j = some n ∧ n.size ≤ fan ∧ ((k = 1 ∧ n.kids = [] ∧ n.keys = keysE es ∧ n.vals = valsE es ∧ UpE es ∧ n.vals.length = n.keys.length) ∨
      (∃ k', k = k' + 1 ∧ 0 < k' ∧ n.kids ≠ [] ∧ n.vals = [] ∧ Up n.keys ∧ n.kids.length = n.keys.length + 1 ∧ (∀ c, c < n.kids.length → ∃ lo' hi' es' ps', Reg nd fan k' (kid n c) lo' hi' es' ps') ∧
        ∀ key, Bnd lo hi key → bel n.keys key < n.kids.length ∧ ∃ lo' hi' es' ps', Reg nd fan k' (kid n (bel n.keys key)) lo' hi' es' ps' ∧ Bnd lo' hi' key ∧ ∃ rest : List Nat, j ∈ rest ∧ ∀ z, ps.count z = rest.count z + ps'.count z)) := by
  cases k with
  | zero => exact h.elim
  | succ k =>
    obtain ⟨n, hn, hs, hc⟩ := h
    refine ⟨n, hn, hs, ?_⟩
    rcases hc with ⟨rfl, h3, hk, hkeys, hvals, hu, hb, rfl⟩ | ⟨h0, h3, hv, ps', rfl, hk⟩
    · exact .inl ⟨rfl, hk, hkeys, hvals, hu, by rw [hkeys, hvals, keysE_length, valsE_length]⟩
    · refine .inr ⟨k, rfl, h0, hk.ne, hv, hk.keys.1, hk.len, fun c hc => kids_nth hk c _ (kid_get hc), fun key hb => ?_⟩
      obtain ⟨ks1, ks2, is1, is2, i, lo', hi', es1, es2, e, ps1, ps2, p, h1, h2, h4, h5, h6, h7, h8, h9, h10, h11, _⟩ := hk.find Tree.inB hb
      have hlt : bel n.keys key < n.kids.length := by rw [h2]; simp; omega
      have hi' : kid n (bel n.keys key) = i := by
        have : n.kids[bel n.keys key]? = some i := by rw [h2, ← h5]; simp
        rw [kid_get hlt] at this; exact Option.some.inj this
      exact ⟨hlt, lo', _, e, p, hi' ▸ h7, h11, j :: (ps1 ++ ps2), by simp, fun z => by rw [h10]; simp only [List.count_cons, List.count_append]; omega⟩
/-! ## a node's cells -/
theorem NodAt.kidC {Ω : Nat → Prop} {w : World} {b : Nat} {n : Nod} {A1 : Option Addr} {c1 : Nat} {A2 : Option Addr} {c2 : Nat} {A3 : Option Addr} {c3 : Nat} (h : NodAt Ω w b n A1 c1 A2 c2 A3 c3) {c : Nat} (hc : c < n.kids.length) : ∃ ad, A3 = some ad ∧ w.cell? (ad.add (c * 1)) = some (iv (kid n c)) := by
  obtain ⟨ad, hA, _, cs, hr, hv⟩ := h.kids c (kid n c) (kid_get hc)
  cases hr
  exact ⟨ad, hA, hv 0 _ rfl⟩
theorem list_item {Ω : Nat → Prop} {w : World} {A : Option Addr} {l : List Key} (h : Imm KBs Ω w A l) {c : Nat} (hc : c < l.length) : ∃ ad B cb, A = some ad ∧ w.cell? (ad.add (c * 1)) = some (.slice B (l.getD c []).length cb) ∧ (l.getD c []).length ≤ cb ∧ Imm KB Ω w B (l.getD c []) := by
  have hg : l[c]? = some (l.getD c []) := by simp [List.getD, hc]
  obtain ⟨ad, hA, _, cs, ⟨B, cb, hr, hcb, hB⟩, hv⟩ := h c _ hg
  subst hr
  exact ⟨ad, B, cb, hA, hv 0 _ rfl, hcb, hB⟩
theorem Ext.cell {w u : World} (e : Ext w u) {a : Addr} {v : Value} (h : w.cell? a = some v) : u.cell? a = some v := Fr.cell e (fun h => h) h
/-! ## New -/
def A0 (fan most : Nat) : Ar := ⟨fan, most, [], [], [], 0⟩
theorem New_spec (w : World) (fan most : Nat) (h1 : 4 ≤ fan) (h2 : fan ≤ 64) (h3 : 1 ≤ most) (h4 : most ≤ 65536) :
    CallsV Try.prog 69 #[iv fan, iv most] w fun r w' => ∃ g R M, r = .tuple #[.pointer (some ⟨g, 0, none⟩), .int .i64 0] ∧ Ar1 R M w' g (A0 fan most) ∧ Ext w w' ∧ ∀ k, R k → w.heap.size ≤ k := by
  refine tree_New.calls okay ?_
  unfold tree_New.W
  refine brd (fun h => by omega) fun _ => brd (fun h => by omega) fun _ => brd (fun h => by omega) fun _ => brd (fun h => by omega) fun _ => ⟨_, _, makeMap_run _ _, ?_⟩
  intro g w1 f
  have hs : (w.alloc (.map #[] 0)).heap.size = w.heap.size + 1 := by simp [World.alloc, -World.alloc_eq]
  have hge := f.ge
  have e0 : Ext w (w.alloc (.map #[] 0)) := Fr.alloc NoB w _
  refine ⟨g, fun k => w.heap.size ≤ k ∧ k < w1.heap.size, fun k => k = g ∨ k = w.heap.size, rfl, ⟨none, 0, none, 0, w.heap.size, ?_⟩, e0.trans' f.ext, fun k hk => hk.1⟩
  have hlt := f.lt
  refine ⟨f.blk, fun k hk => hk.2, ?_, .inl rfl, fun k hk => (ownB_none k hk).elim, fun k hk => (ownB_none k hk).elim, .inr rfl, ownB_none g, ownB_none g, fun k hk => (ownB_none k hk).elim, OwnK.nil _ _, OwnK.nil _ _, (MapK.new fI w).ext f.ext, Stm.keep (w := w.alloc (.map #[] 0)) ⟨#[], 0, Go.heap_alloc_new w _, Go.MapKept.stamped_empty 0⟩ f.ext (fun h => h)⟩
  rintro k (rfl | rfl) <;> omega
/-! ## an entry of a leaf -/
def eR (A : Option Addr) (c : Nat) (k : Key) (B : Option Addr) (d : Nat) (v : Key) : Value := .tuple #[.slice A k.length c, .slice B v.length d, .bool true]
def eN : Value := .tuple #[.slice none 0 0, .slice none 0 0, .bool false]
def Told (w : World) (x : Option (Key × Key)) (r : Value) (w' : World) : Prop := match x with
  | none => r = eN
  | some (k, v) => ∃ A c B d, r = eR A c k B d v ∧ OwnB w' A c k ∧ OwnB w' B d v ∧ New w A ∧ New w B ∧ (∀ b, ownB A b → ¬ ownB B b) ∧ k.length ≤ 1048576 ∧ v.length ≤ 1048576
theorem Told.from {w0 w w' : World} {x : Option (Key × Key)} {r : Value} (h : Told w x r w') (e : Ext w0 w) : Told w0 x r w' := by
  cases x with
  | none => exact h
  | some p => obtain ⟨k, v⟩ := p; obtain ⟨A, c, B, d, h1, h2, h3, h4, h5, h6⟩ := h; exact ⟨A, c, B, d, h1, h2, h3, h4.ext e, h5.ext e, h6⟩
theorem ownB_of {Ω : Nat → Prop} {w : World} {A : Option Addr} {c : Nat} {l : List UInt8} (h : OwnK (Kd.out Ω KB) w A c l) : OwnB w A c l := by
  obtain ⟨xs, ho, hf⟩ := (ownK1 (oneB.out Ω)).1 h
  have : xs = l.map u8 := by
    apply List.ext_getElem?
    intro i
    rw [List.getElem?_map]
    cases hl : l[i]? with
    | none =>
      have := (List.getElem?_eq_none_iff.1 hl)
      rw [List.getElem?_eq_none (by rw [hf.len]; exact this)]; rfl
    | some a =>
      obtain ⟨v, hv, hr⟩ := hf.get hl
      have hr : [v] = [u8 a] := hr
      cases hr
      rw [hv]; rfl
  subst this
  exact ho
theorem CloneB_own {Ω : Nat → Prop} {w : World} {A : Option Addr} {c : Nat} {l : List UInt8} (h : Imm KB Ω w A l) (hl : l.length ≤ 2097152) : CallsV Try.prog 114 #[.slice A l.length c] w fun r w' => ∃ A' c', r = .slice A' l.length c' ∧ OwnB w' A' c' l ∧ Ext w w' ∧ New w A' := by
  refine (CloneB_spec oneB h hl).mono ?_
  rintro _ w' ⟨A', c', rfl, ho, e, n, _⟩
  exact ⟨A', c', rfl, ownB_of ho, e, n⟩
theorem entry_spec {Ω : Nat → Prop} {w : World} {b : Nat} {n : Nod} {A1 : Option Addr} {c1 : Nat} {A2 : Option Addr} {c2 : Nat} {A3 : Option Addr} {c3 : Nat} (h : NodAt Ω w b n A1 c1 A2 c2 A3 c3) (hv : n.vals.length = n.keys.length) (k : Int) :
    CallsV Try.prog 122 #[.pointer (some ⟨b, 0, none⟩), .int .i64 k] w fun r w' => Told w (entryF n k) r w' ∧ Ext w w' := by
  refine tree_entry.calls okay ?_
  unfold tree_entry.W
  unfold entryF
  refine brd (fun hk => ?_) fun hk => ⟨_, rfl, _, _, _, h.blk.cell rfl, brd (fun hk2 => ?_) fun hk2 => ?_⟩
  · rw [if_pos (.inl hk)]; exact ⟨rfl, .refl _ _⟩
  · rw [if_pos (.inr hk2)]; exact ⟨rfl, .refl _ _⟩
  · rw [if_neg (by omega)]
    obtain ⟨i, rfl⟩ : ∃ i : Nat, k = (i : Int) := ⟨k.toNat, by omega⟩
    have hi : i < n.keys.length := by omega
    obtain ⟨ad, B, cb, hA, hc, hcb, hB⟩ := list_item h.keys hi
    obtain ⟨ad2, B2, cb2, hA2, hc2, hcb2, hB2⟩ := list_item h.vals (c := i) (by omega)
    have ed : Ext w w.drew := Fr.drew NoB w
    have hkl : (n.keys.getD i []).length ≤ 1048576 := h.okn.kl _ (by simp [List.getD, hi])
    have hvl : (n.vals.getD i []).length ≤ 1048576 := h.okn.vl _ (by simp [List.getD, show i < n.vals.length by omega])
    rw [Int.toNat_natCast]
    refine ⟨_, rfl, fun u => Ext w u, ed, _, _, _, fun u e => (h.blk.ext e).cell rfl, ad, hA, ⟨by omega, by omega⟩, _, _, _, fun u e => Ext.cell e hc, _, rfl, _, _, _, fun u e => (h.blk.ext e).cell rfl, ad2, hA2, ⟨by omega, by omega⟩, _, _, _, fun u e => Ext.cell e hc2, ?_⟩
    refine (CloneB_own (hB.ext KB_pos ed) (by omega)).mono ?_
    rintro _ w1 ⟨A', c', rfl, ho1, e1, n1⟩
    have e1' := ed.trans' e1
    refine ⟨_, _, _, rfl, e1', (CloneB_own (hB2.ext KB_pos e1') (by omega)).mono ?_⟩
    rintro _ w2 ⟨B', d', rfl, ho2, e2, n2⟩
    refine ⟨_, _, _, rfl, e1'.trans' e2, ⟨A', c', B', d', rfl, ho1.ext e2, ho2, n1.ext ed, n2.ext e1', fun k hk hk' => ?_, hkl, hvl⟩, e1'.trans' e2⟩
    have := ho1.lt k hk
    have := n2 k hk'
    omega
/-! ## the way to a leaf -/
theorem leaf_spec {R M : Nat → Prop} {w : World} {g : Nat} {A : Ar} (h : Ar1 R M w g A) {H : Nat} {mn : Nat × Nat} {i : Nat} {lo hi : Option Key} {es : Es} {ps : List Nat} {key : Key} (ht : Tree A.nd A.fan H mn i lo hi es ps) (hb : Bnd lo hi key) (hH : H ≤ 1048576) {Ω : Nat → Prop} {B : Option Addr} (hB : Imm KB Ω w B key) (cb : Nat) :
    CallsV Try.prog 109 #[.pointer (some ⟨g, 0, none⟩), iv i, .slice B key.length cb] w fun r w' => ∃ b A1 c1 A2 c2 A3 c3 W wc, r = .tuple #[.pointer (some ⟨b, 0, none⟩), .slice W (leafF H A i key).2.length wc] ∧ NodAt (Om R M) w' b (leafF H A i key).1 A1 c1 A2 c2 A3 c3 ∧ OwnK KN w' W wc (leafF H A i key).2 ∧ Ext w w' ∧ New w W := by
  obtain ⟨At, ac, Fa, fc, mb, h⟩ := h
  refine tree_Arena_leaf.calls okay ?_
  unfold tree_Arena_leaf.W
  intro g0 w1 f
  have e1 := f.ext
  obtain ⟨n, hn, _, _⟩ := tree_node ht
  obtain ⟨hil, ga, b, A1, c1, A2, c2, A3, c3, rfl, hc, hN⟩ := (h.ext e1).node hn
  have hna : nodeAt A i = n := by simp [nodeAt, hn]
  have how : OwnK KN w1 (some ⟨g0, 0, none⟩) 1 [i] := by
    obtain ⟨rfl, rfl⟩ := f
    exact ownK_lit (K := KN) (l := [i]) (cs := [iv i]) rfl (by simp [maxLen]) (fun j a hj => by cases j with | zero => simp at hj; subst hj; rfl | succ j => simp at hj)
  have hnw : New w (some ⟨g0, 0, none⟩) := fun k hk => by rw [ownB_some] at hk; subst hk; exact f.ge
  refine ⟨_, rfl, _, _, _, (h.ext e1).blk.cell rfl, _, rfl, ⟨by omega, by omega⟩, _, by rw [add_new, Nat.zero_add, Int.toNat_natCast, Nat.mul_one]; exact hc, ?_⟩
  refine ⟨fun W m wc p u => ∃ k j mn lo hi es ps pre b A1 c1 A2 c2 A3 c3, Tree A.nd A.fan k mn j lo hi es ps ∧ Bnd lo hi key ∧ pre.length + k = H ∧ m = pre.length + 1 ∧ p = some ⟨b, 0, none⟩ ∧ NodAt (Om R M) u b (nodeAt A j) A1 c1 A2 c2 A3 c3 ∧ OwnK KN u W wc (pre ++ [j]) ∧ Ext w u ∧ New w W ∧ (leafF H A i key).1 = (leafF k A j key).1 ∧ (leafF H A i key).2 = pre ++ (leafF k A j key).2, fun _ m _ _ _ => H + 1 - m, ⟨H, i, mn, lo, hi, es, ps, [], b, A1, c1, A2, c2, A3, c3, ht, hb, by simp, rfl, rfl, hna ▸ hN, how, e1, hnw, rfl, rfl⟩, ?_⟩
  rintro W m wc p u ⟨k, j, mn, lo, hi, es, ps, pre, b, A1, c1, A2, c2, A3, c3, ht, hb, hpk, rfl, rfl, hN, how, eu, hnw, hl1, hl2⟩
  obtain ⟨n, hn, hsz, hcs⟩ := tree_node ht
  have hna : nodeAt A j = n := by simp [nodeAt, hn]
  rw [hna] at hN
  refine ⟨_, rfl, _, _, _, hN.blk.cell rfl, brnb (fun hnn => ?_) (fun hnn => ?_)⟩
  · have hne : n.kids ≠ [] := fun e => by rw [hN.nil.2 e] at hnn; cases hnn
    rcases hcs with ⟨_, hk, _⟩ | ⟨k', rfl, h0, _, _, hu, hlen, _, hfind⟩
    · exact absurd hk hne
    obtain ⟨hbl, lo', hi', es', ps', ht', hb', _⟩ := hfind key hb
    have ed : Ext u u.drew := Fr.drew NoB u
    have ewd := eu.trans' ed
    refine ⟨_, rfl, fun v => Ext u v, ed, _, _, _, fun v e => (hN.blk.ext e).cell rfl, ?_⟩
    have hNd := hN.keep (Ext.om ed R M)
    refine (below_spec hNd hu (hB.ext KB_pos ewd) cb).mono ?_
    rintro _ _ ⟨rfl, rfl⟩
    obtain ⟨ad, hA3, hkc⟩ := hN.kidC hbl
    obtain ⟨n', hn', _, _⟩ := tree_node ht'
    have hna' : nodeAt A (kid n (bel n.keys key)) = n' := by simp [nodeAt, hn']
    obtain ⟨hil', ga', b', B1, d1, B2, d2, B3, d3, hAt, hc', hN'⟩ := (h.ext ewd).node hn'
    cases hAt
    refine ⟨_, rfl, ed, ad, hA3, ⟨by omega, by omega⟩, fun v => Ext u v, ed, _, fun v e => by rw [Int.toNat_natCast]; exact Ext.cell e hkc, _, rfl, _, _, _, (h.ext ewd).blk.cell rfl, _, rfl, ⟨by omega, by omega⟩, _, by rw [add_new, Nat.zero_add, Int.toNat_natCast, Nat.mul_one]; exact hc', ?_⟩
    intro g1 w2 f2
    obtain ⟨rfl, rfl⟩ := f2
    obtain ⟨A', c', w3, hr, ho, gr⟩ := (how.ext ed).push (K := KN) slI (ty := 37) (a := kid n (bel n.keys key)) (cs := [iv (kid n (bel n.keys key))]) rfl (fun v hv => by simp at hv; subst hv; rfl) (e' := 3) (by simp only [maxLen, List.length_append, List.length_singleton]; omega) (by simp only [List.length_append, List.length_singleton]; omega)
    have e3 : Ext w w3 := gr.ext ewd hnw
    have st3 : Step (Om R M) u.drew (Om R M) w3 := gr.fr.step (fun k hk hk' => .inl fun hR => by
      have h1 := hnw k hk'
      have h2 := h.rlt k hR
      omega) (fun _ _ h => h)
    have hll : leafF (k' + 1) A j key = ((leafF k' A (kid n (bel n.keys key)) key).1, j :: (leafF k' A (kid n (bel n.keys key)) key).2) := by
      rw [leafF, hna]; exact if_neg hne
    have hlp : (pre ++ [j]).length = pre.length + 1 := by simp
    refine ⟨_, _, _, w3, by rw [hlp] at hr; exact hr, ⟨k', kid n (bel n.keys key), _, lo', hi', es', ps', pre ++ [j], b', B1, d1, B2, d2, B3, d3, ht', hb', by simp; omega, by simp, rfl, hna'.symm ▸ hN'.keep st3, ho, e3, gr.new ewd hnw, by rw [hl1, hll], by rw [hl2, hll]; simp⟩, by simp; omega⟩
  · have hk : n.kids = [] := hN.nil.1 (by cases A3 <;> simp_all)
    have h0 : 1 ≤ k := by cases k with | zero => exact ht.elim | succ k => omega
    obtain ⟨k', rfl⟩ : ∃ k', k = k' + 1 := ⟨k - 1, by omega⟩
    have hll : leafF (k' + 1) A j key = (n, [j]) := by rw [leafF, hna]; exact if_pos hk
    rw [hll] at hl1 hl2
    refine ⟨b, A1, c1, A2, c2, A3, c3, W, wc, ?_, by rw [hl1]; exact hN, by rw [hl2]; exact how, eu, hnw⟩
    rw [hl2]; simp
end Go.Proofs.Ythfagbfllheneaa
set_option linter.unusedVariables false
set_option linter.unusedSimpArgs false
namespace Go.Proofs.Ythfagbfllheneaa
open Go Go.Sx T4
def Ra (R : Nat → Prop) (w w' : World) : Nat → Prop := fun k => R k ∨ (w.heap.size ≤ k ∧ k < w'.heap.size)
theorem Ar1.absorb {R M : Nat → Prop} {w w' : World} {g : Nat} {A : Ar} (h : Ar1 R M w g A) (e : Ext w w') : Ar1 (Ra R w w') M w' g A ∧ Chg R M w (Ra R w w') M w' := by
  have hl := h.lt
  refine ⟨(h.ext e).more (fun k hk => .inl hk) ?_, ⟨e.fr, fun _ h => .inl h, fun _ h => .inl h, fun k hk => hk.imp id fun h => h.1⟩⟩
  rintro k (hk | hk)
  · exact Nat.lt_of_lt_of_le (hl k hk) e.size
  · exact hk.2
theorem Ar1.mlt {R M : Nat → Prop} {w : World} {g : Nat} {A : Ar} (h : Ar1 R M w g A) : ∀ k, M k → k < w.heap.size := by
  obtain ⟨At, ac, Fa, fc, mb, h⟩ := h; exact fun k hk => h.rlt k (h.mr k hk)
theorem ra_off {R M : Nat → Prop} {w w' : World} (hM : ∀ k, M k → k < w.heap.size) {k : Nat} (h1 : w.heap.size ≤ k) (h2 : k < w'.heap.size) : ¬ Om (Ra R w w') M k := by
  rintro (h | h)
  · exact h (.inr ⟨h1, h2⟩)
  · have := hM k h; omega
theorem ra_sub {R M : Nat → Prop} {w w' : World} {k : Nat} (h : Om (Ra R w w') M k) : Om R M k := h.imp (fun h h' => h (.inl h')) id
theorem clone_imm {α : Type} {K : Kd α} (hK : One K) {Ω Ω' : Nat → Prop} {u w' : World} {A : Option Addr} {c : Nat} {l : List α} (ho : OwnK (Kd.out Ω K) u A c l) (e : Ext u w') (hΩ : ∀ k, ownB A k → ¬ Ω' k) (hs : ∀ k, Ω' k → Ω k) : Imm K Ω' w' A l :=
  OwnK.immOut hK (ho.toOut e (fun _ _ h => h) (fun _ _ h => h.elim) (fun k _ h => .inr (hs k h))) hΩ
theorem imm_take {α : Type} {K : Kd α} {Ω : Nat → Prop} {w : World} {A : Option Addr} {l : List α} (h : Imm K Ω w A l) (n : Nat) : Imm K Ω w A (l.take n) := fun i a ha => by
  rw [List.getElem?_take] at ha
  split at ha
  · exact h i a ha
  · cases ha
theorem imm_drop {α : Type} {K : Kd α} (hK : One K) {Ω : Nat → Prop} {w : World} {A : Option Addr} {l : List α} (h : Imm K Ω w A l) {c : Nat} (hc : l.length ≤ c) (n : Nat) : Imm K Ω w (cutAt A c n 1) (l.drop n) := by
  have := h.cut (lo := n) (hi := l.length) (m := c) hc
  rwa [List.take_length, hK.sz] at this
theorem NOk.cut {n : Nod} (h : NOk n) {ks vs : List Key} {is : List Nat} (h1 : ∀ k ∈ ks, k ∈ n.keys) (h2 : ∀ v ∈ vs, v ∈ n.vals) (l1 : ks.length ≤ 1000) (l2 : vs.length ≤ 1000) (l3 : is.length ≤ 1000) : NOk ⟨ks, vs, is⟩ :=
  ⟨l1, l2, l3, fun x hx => h.kl x (h1 x hx), fun x hx => h.vl x (h2 x hx)⟩
theorem half (x : Nat) (hx : x ≤ 1048576) : IntKind.i64.wrap (Int.tdiv (IntKind.i64.wrap ((x : Int) + 1)) 2) = (((x + 1) / 2 : Nat) : Int) := by
  rw [wi ((x : Int) + 1) (by omega) (by omega), Int.tdiv_eq_ediv_of_nonneg (by omega), wi _ (by omega) (by omega)]
  omega
def NGood (n : Nod) : Prop := (n.kids = [] ∧ n.vals.length = n.keys.length) ∨ (n.kids ≠ [] ∧ n.vals = [] ∧ n.kids.length = n.keys.length + 1)
def PutR (Ω : Nat → Prop) (w : World) : Option (Key × Nat) → Value → Prop
  | none, r => r = .tuple #[.slice none 0 0, .int .i64 0, .bool false]
  | some (b, rt), r => ∃ B cb, r = .tuple #[.slice B b.length cb, iv rt, .bool true] ∧ b.length ≤ cb ∧ b.length ≤ 1048576 ∧ Imm KB Ω w B b
theorem NodAt.fresh {R M : Nat → Prop} {w u w' : World} {b : Nat} {n : Nod} {A1 : Option Addr} {c1 : Nat} {A2 : Option Addr} {c2 : Nat} {A3 : Option Addr} {c3 : Nat} {e : TypeId} (hM : ∀ k, M k → k < w.heap.size) (ew : Ext w u)
    (f : Fresh u b w' [.slice A1 n.keys.length c1, .slice A2 n.vals.length c2, .slice A3 n.kids.length c3] e) (l1 : n.keys.length ≤ c1) (l2 : n.vals.length ≤ c2) (l3 : n.kids.length ≤ c3)
    (h1 : Imm KBs (Om (Ra R w w') M) w' A1 n.keys) (h2 : Imm KBs (Om (Ra R w w') M) w' A2 n.vals) (h3 : Imm KN (Om (Ra R w w') M) w' A3 n.kids) (hn : A3 = none ↔ n.kids = []) (hok : NOk n) : NodAt (Om (Ra R w w') M) w' b n A1 c1 A2 c2 A3 c3 :=
  ⟨f.blk, ra_off hM (Nat.le_trans ew.size f.ge) f.lt, l1, l2, l3, h1, h2, h3, hn, hok⟩
theorem Ar1.setAt {R M : Nat → Prop} {w : World} {g : Nat} {A : Ar} (h : Ar1 R M w g A) {i : Nat} (hi : i < A.at_.length) {n : Nod} {p : Option Addr} (ha : NoR (Om R M) w (some n) [.pointer p]) :
    ∃ ga ac fc Fa mb, Blk w g (arC (some ⟨ga, 0, none⟩) ac Fa fc mb A) ∧ stOK ((⟨ga, 0, none⟩ : Addr).add (i * 1)) 0 [.pointer p] w ∧ ∀ w', w' = setAll ((⟨ga, 0, none⟩ : Addr).add (i * 1)) 0 [.pointer p] w → Ar1 R M w' g (setN A i n) ∧ Chg R M w R M w' := by
  obtain ⟨At, ac, Fa, fc, mb, h⟩ := h
  obtain ⟨ga, rfl, h1, h2⟩ := h.setAt hi ha
  refine ⟨ga, ac, fc, Fa, mb, h.blk, h1, fun w' hw => ?_⟩
  obtain ⟨h3, h4⟩ := h2 w' hw
  exact ⟨⟨_, _, _, _, _, h3⟩, h4⟩
theorem split_spec {R M : Nat → Prop} {w : World} {g : Nat} {A : Ar} (h : Ar1 R M w g A) (hl : A.at_.length ≤ 1048576) (hF : FreeOk A) (hfl : A.free.length ≤ 1048576) (hfan : 4 ≤ A.fan) {i : Nat} (hi : i < A.at_.length) {n : Nod} {b : Nat} {A1 : Option Addr} {c1 : Nat} {A2 : Option Addr} {c2 : Nat} {A3 : Option Addr} {c3 : Nat}
    (hn : NodAt (Om R M) w b n A1 c1 A2 c2 A3 c3) (hg : NGood n) :
    CallsV Try.prog 130 #[.pointer (some ⟨g, 0, none⟩), iv i, .pointer (some ⟨b, 0, none⟩)] w fun r w' => ∃ R' M', Ar1 R' M' w' g (splitF A i n).1 ∧ Chg R M w R' M' w' ∧ PutR (Om R' M') w' (splitF A i n).2 r := by
  refine tree_Arena_split.calls okay ?_
  unfold tree_Arena_split.W
  have hok := hn.okn
  have hsz : n.size ≤ 1000 := by unfold Nod.size; have := hok.k; have := hok.c; split <;> omega
  obtain ⟨ga, ac, fc, Fa, mb, hb, s1, s2⟩ := h.setAt hi (n := n) ⟨b, A1, c1, A2, c2, A3, c3, rfl, hn⟩
  refine ⟨_, rfl, _, _, _, hb.cell rfl, _, rfl, ⟨by omega, by omega⟩, by rw [Int.toNat_natCast]; exact s1, fun w1 hw1 => ?_⟩
  rw [Int.toNat_natCast] at hw1
  obtain ⟨h1, ch1⟩ := s2 w1 hw1
  have hn1 := hn.keep ch1.step
  refine (size_spec hn1).same ⟨_, rfl, ?_⟩
  have hb1 : ∃ At ac Fa fc mb, Blk w1 g (arC At ac Fa fc mb (setN A i n)) := by obtain ⟨At, ac, Fa, fc, mb, h⟩ := h1; exact ⟨At, ac, Fa, fc, mb, h.blk⟩
  obtain ⟨_, _, _, _, _, hb1⟩ := hb1
  refine ⟨_, rfl, _, hb1.cell rfl, brd (fun hle => ?_) (fun hgt => ?_)⟩
  · have hle' : n.size ≤ A.fan := by have : (n.size : Int) ≤ (A.fan : Int) := hle; omega
    have e : splitF A i n = (setN A i n, none) := by unfold splitF; rw [if_pos hle']
    rw [e]
    exact ⟨R, M, h1, ch1, rfl⟩
  have hgt' : ¬ n.size ≤ A.fan := fun h' => hgt (by show (n.size : Int) ≤ (A.fan : Int); omega)
  simp only [half n.size (by omega)]
  generalize hh : (n.size + 1) / 2 = hf
  have hM1 := h1.mlt
  have hil : i < (setN A i n).at_.length := by simp [setN]; exact hi
  refine ⟨by decide, _, rfl, _, _, _, hn1.blk.cell rfl, br (fun hnn => ?_) (fun hnn => ?_)⟩
  · -- a leaf
    have hk : n.kids = [] := hn1.nil.1 (by cases A3 <;> simp_all)
    have hv : n.vals.length = n.keys.length := by rcases hg with h | h; exact h.2; exact absurd hk h.1
    have hs : n.size = n.keys.length := by rw [Nod.size, if_pos hk]
    have hA3 : A3 = none := hn1.nil.2 hk
    subst hA3
    let n1 : Nod := ⟨n.keys.take hf, n.vals.take hf, []⟩
    let n2 : Nod := ⟨n.keys.drop hf, n.vals.drop hf, []⟩
    have e : splitF A i n = ((place (setN (setN A i n) i n1) n2).1, some (n.keys.getD hf [], (place (setN (setN A i n) i n1) n2).2)) := by
      unfold splitF; rw [if_neg hgt', if_pos hk, hh]
    rw [e]
    refine ⟨fun u => ∃ R2 M2, Ar1 R2 M2 u g (setN (setN A i n) i n1) ∧ Chg R M w R2 M2 u, ?_, ?_⟩
    · rintro u ⟨R2, M2, h2, ch2⟩
      have hn2 := hn.keep ch2.step
      have hM2 := h2.mlt
      have ed : Ext u u.drew := Fr.drew NoB u
      obtain ⟨ad, B, cb, hA, hc, hcb, hB⟩ := list_item hn2.keys (c := hf) (by omega)
      have fr : ∀ {v}, Ext u v → Fr M2 u v := fun e => e.fr
      refine ⟨_, rfl, fun v => Fr M2 u v, fr ed, _, _, _, fun v e => (hn2.blk.keep e fun hm => hn2.off (.inr hm)).cell rfl, ad, hA, ⟨by omega, by omega⟩, B, (n.keys.getD hf []).length, cb, fun v e => ?_, _, rfl, _, _, _, fun v e => (hn2.blk.keep e fun hm => hn2.off (.inr hm)).cell rfl, ⟨by omega, by omega⟩, _, rfl, _, _, _, fun v e => (hn2.blk.keep e fun hm => hn2.off (.inr hm)).cell rfl, ⟨by omega, by omega⟩, ?_⟩
      · rw [Int.toNat_natCast]
        refine e.cell (fun hm => ?_) hc
        obtain ⟨ad', hA', hoff, _⟩ := hn2.keys hf _ (by simp [List.getD, show hf < n.keys.length by omega] : n.keys[hf]? = some (n.keys.getD hf []))
        rw [hA] at hA'; cases hA'
        exact hoff (.inr (by rw [add_block] at hm; exact hm))
      · rw [Int.toNat_natCast, ← List.length_drop, ← List.length_drop]
        refine (CloneS_spec oneBs (imm_drop oneBs (hn2.keys.ext KBs_pos ed) hn2.l1 hf) (by rw [List.length_drop]; omega)).mono ?_
        rintro _ v1 ⟨B1, d1, rfl, o1, e1, nw1, _⟩
        have e1' := ed.trans' e1
        refine ⟨_, _, _, rfl, fr e1', ?_⟩
        refine (CloneS_spec oneBs (imm_drop oneBs (hn2.vals.ext KBs_pos e1') hn2.l2 hf) (by rw [List.length_drop]; omega)).mono ?_
        rintro _ v2 ⟨B2, d2, rfl, o2, e2, nw2, _⟩
        have e2' := e1'.trans' e2
        refine ⟨_, _, _, rfl, fr e2', ?_⟩
        intro b2 v3 f3
        have e3' := e2'.trans' f3.ext
        obtain ⟨h3, ch3⟩ := h2.absorb e3'
        have i1 := clone_imm oneBs o1 (e2.trans' f3.ext) (Ω' := Om (Ra R2 u v3) M2) (fun k hk => ra_off hM2 ((nw1.ext ed) k hk) (Nat.lt_of_lt_of_le (o1.lt k hk) (e2.trans' f3.ext).size)) (fun k => ra_sub)
        have i2 := clone_imm oneBs o2 f3.ext (Ω' := Om (Ra R2 u v3) M2) (fun k hk => ra_off hM2 ((nw2.ext e1') k hk) (Nat.lt_of_lt_of_le (o2.lt k hk) f3.ext.size)) (fun k => ra_sub)
        have hN2 : NodAt (Om (Ra R2 u v3) M2) v3 b2 n2 B1 d1 B2 d2 none 0 := NodAt.fresh hM2 e2' f3 o1.le o2.le (Nat.le_refl _) i1 i2 (Imm.nil _ _ _ _) (by simp [n2]) (hok.cut (fun k hk => List.mem_of_mem_drop hk) (fun k hk => List.mem_of_mem_drop hk) (by rw [List.length_drop]; have := hok.k; omega) (by rw [List.length_drop]; have := hok.v; omega) (by simp))
        refine ⟨fr e3', ?_⟩
        refine (place_spec h3 (by simp [setN]; exact hl) (by intro x hx; simp [setN]; exact hF x hx) hfl (n := n2) ⟨b2, B1, d1, B2, d2, none, 0, rfl, hN2⟩).mono ?_
        rintro _ v4 ⟨rfl, R4, M4, h4, ch4⟩
        have chA := ch3.trans ch4
        refine ⟨_, rfl, chA.fr, R4, M4, h4, ch2.trans chA, B, cb, rfl, hcb, ?_, hB.keep KB_pos chA.step⟩
        exact hok.kl _ (by simp [List.getD, show hf < n.keys.length by omega])
    · have ed : Ext w1 w1.drew := Fr.drew NoB w1
      have hle1 := hn1.l1
      have hle2 := hn1.l2
      obtain ⟨At', ac', Fa', fc', mb', h1a⟩ := h1
      refine ⟨_, rfl, fun v => Ext w1 v, ed, _, _, _, fun v e => (h1a.blk.ext e).cell rfl, _, rfl, _, _, _, fun v e => (hn1.blk.ext e).cell rfl, ⟨by omega, by omega⟩, ⟨by omega, by omega⟩, _, rfl, _, _, _, fun v e => (hn1.blk.ext e).cell rfl, ⟨by omega, by omega⟩, ⟨by omega, by omega⟩, ?_⟩
      intro b1 v1 f1
      rw [Int.toNat_natCast, cutAt_zero, cutAt_zero, Nat.sub_zero] at f1
      have e1' := ed.trans' f1.ext
      have h1' : Ar1 R M w1 g (setN A i n) := ⟨_, _, _, _, _, h1a⟩
      obtain ⟨h2, ch2⟩ := h1'.absorb e1'
      have hst : Step (Om R M) w1 (Om (Ra R w1 v1) M) v1 := ch2.step
      have hk1 : hf = n1.keys.length := by simp [n1, List.length_take]; omega
      have hk2 : hf = n1.vals.length := by simp [n1, List.length_take]; omega
      have hN1 : NodAt (Om (Ra R w1 v1) M) v1 b1 n1 A1 hf A2 hf none 0 := NodAt.fresh hM1 ed (by rw [← hk1, ← hk2]; exact f1) (by omega) (by omega) (Nat.le_refl _) ((imm_take hn1.keys hf).keep KBs_pos hst) ((imm_take hn1.vals hf).keep KBs_pos hst) (Imm.nil _ _ _ _) (by simp [n1]) (hok.cut (fun k hk => List.mem_of_mem_take hk) (fun k hk => List.mem_of_mem_take hk) (by rw [List.length_take]; omega) (by rw [List.length_take]; omega) (by simp))
      obtain ⟨ga2, ac2, fc2, Fa2, mb2, hb2, s1, s2⟩ := h2.setAt hil (n := n1) ⟨b1, A1, hf, A2, hf, none, 0, rfl, hN1⟩
      have hb2' := h1a.blk.ext e1'
      obtain ⟨ex, hx⟩ := hb2
      obtain ⟨ey, hy⟩ := hb2'
      rw [hx] at hy
      have hcs := (Obj.cells.inj (Option.some.inj hy)).1
      have hAt : At' = some ⟨ga2, 0, none⟩ := by simp [arC] at hcs; exact hcs.1.1.symm
      refine ⟨e1', _, hAt, ⟨by omega, by omega⟩, by rw [Int.toNat_natCast]; exact s1, fun v2 hv2 => ?_⟩
      rw [Int.toNat_natCast] at hv2
      obtain ⟨h3, ch3⟩ := s2 v2 hv2
      exact ⟨_, _, h3, ch1.trans (ch2.trans ch3)⟩
  · -- an inner node
    have hk : n.kids ≠ [] := fun e => by rw [hn1.nil.2 e] at hnn; cases hnn
    obtain ⟨hv, hlen⟩ : n.vals = [] ∧ n.kids.length = n.keys.length + 1 := by rcases hg with h | h; exact absurd h.1 hk; exact h.2
    have hs : n.size = n.kids.length := by rw [Nod.size, if_neg hk]
    have hA3 : A3 ≠ none := fun e => hk (hn1.nil.1 e)
    have hw1 : IntKind.i64.wrap (((hf : Nat) : Int) - 1) = ((hf - 1 : Nat) : Int) := by rw [wi _ (by omega) (by omega)]; omega
    simp only [hw1]
    let n1 : Nod := ⟨n.keys.take (hf - 1), [], n.kids.take hf⟩
    let n2 : Nod := ⟨n.keys.drop hf, [], n.kids.drop hf⟩
    have e : splitF A i n = ((place (setN (setN A i n) i n1) n2).1, some (n.keys.getD (hf - 1) [], (place (setN (setN A i n) i n1) n2).2)) := by
      unfold splitF; rw [if_neg hgt', if_neg hk, hh]
    rw [e]
    refine ⟨fun u => ∃ R2 M2, Ar1 R2 M2 u g (setN (setN A i n) i n1) ∧ Chg R M w R2 M2 u, ?_, ?_⟩
    · rintro u ⟨R2, M2, h2, ch2⟩
      have hn2 := hn.keep ch2.step
      have hM2 := h2.mlt
      have ed : Ext u u.drew := Fr.drew NoB u
      obtain ⟨ad, B, cb, hA, hc, hcb, hB⟩ := list_item hn2.keys (c := hf - 1) (by omega)
      have fr : ∀ {v}, Ext u v → Fr M2 u v := fun e => e.fr
      refine ⟨_, rfl, fun v => Fr M2 u v, fr ed, _, _, _, fun v e => (hn2.blk.keep e fun hm => hn2.off (.inr hm)).cell rfl, ad, hA, ⟨by omega, by omega⟩, B, (n.keys.getD (hf - 1) []).length, cb, fun v e => ?_, _, rfl, _, _, _, fun v e => (hn2.blk.keep e fun hm => hn2.off (.inr hm)).cell rfl, ⟨by omega, by omega⟩, _, rfl, _, _, _, fun v e => (hn2.blk.keep e fun hm => hn2.off (.inr hm)).cell rfl, ⟨by omega, by omega⟩, ?_⟩
      · rw [Int.toNat_natCast]
        refine e.cell (fun hm => ?_) hc
        obtain ⟨ad', hA', hoff, _⟩ := hn2.keys (hf - 1) _ (by simp [List.getD, show hf - 1 < n.keys.length by omega] : n.keys[hf - 1]? = some (n.keys.getD (hf - 1) []))
        rw [hA] at hA'; cases hA'
        exact hoff (.inr (by rw [add_block] at hm; exact hm))
      · rw [Int.toNat_natCast, ← List.length_drop, ← List.length_drop]
        refine (CloneS_spec oneBs (imm_drop oneBs (hn2.keys.ext KBs_pos ed) hn2.l1 hf) (by rw [List.length_drop]; omega)).mono ?_
        rintro _ v1 ⟨B1, d1, rfl, o1, e1, nw1, _⟩
        have e1' := ed.trans' e1
        refine ⟨_, _, _, rfl, fr e1', ?_⟩
        refine (CloneI_spec oneN (imm_drop oneN (hn2.kids.ext KN_pos e1') hn2.l3 hf) (by rw [List.length_drop]; omega)).mono ?_
        rintro _ v2 ⟨B2, d2, rfl, o2, e2, nw2, _⟩
        have e2' := e1'.trans' e2
        refine ⟨_, _, _, rfl, fr e2', ?_⟩
        intro b2 v3 f3
        have e3' := e2'.trans' f3.ext
        obtain ⟨h3, ch3⟩ := h2.absorb e3'
        have i1 := clone_imm oneBs o1 (e2.trans' f3.ext) (Ω' := Om (Ra R2 u v3) M2) (fun k hk => ra_off hM2 ((nw1.ext ed) k hk) (Nat.lt_of_lt_of_le (o1.lt k hk) (e2.trans' f3.ext).size)) (fun k => ra_sub)
        have i2 := clone_imm oneN o2 f3.ext (Ω' := Om (Ra R2 u v3) M2) (fun k hk => ra_off hM2 ((nw2.ext e1') k hk) (Nat.lt_of_lt_of_le (o2.lt k hk) f3.ext.size)) (fun k => ra_sub)
        have hkd : n.kids.drop hf ≠ [] := by
          intro e'; have := congrArg List.length e'; rw [List.length_drop] at this; simp at this; omega
        have hB2 : B2 ≠ none := by
          rintro rfl
          cases hd : n.kids.drop hf with
          | nil => exact hkd hd
          | cons x r => obtain ⟨ad, h, _⟩ := i2 0 x (by rw [hd]; rfl); cases h
        have hN2 : NodAt (Om (Ra R2 u v3) M2) v3 b2 n2 B1 d1 none 0 B2 d2 := NodAt.fresh hM2 e2' f3 o1.le (Nat.le_refl _) o2.le i1 (Imm.nil _ _ _ _) i2 ⟨fun e' => absurd e' hB2, fun e' => absurd e' hkd⟩ (hok.cut (fun k hk => List.mem_of_mem_drop hk) (fun k hk => by cases hk) (by rw [List.length_drop]; have := hok.k; omega) (by simp) (by rw [List.length_drop]; have := hok.c; omega))
        refine ⟨fr e3', ?_⟩
        refine (place_spec h3 (by simp [setN]; exact hl) (by intro x hx; simp [setN]; exact hF x hx) hfl (n := n2) ⟨b2, B1, d1, none, 0, B2, d2, rfl, hN2⟩).mono ?_
        rintro _ v4 ⟨rfl, R4, M4, h4, ch4⟩
        have chA := ch3.trans ch4
        refine ⟨_, rfl, chA.fr, R4, M4, h4, ch2.trans chA, B, cb, rfl, hcb, ?_, hB.keep KB_pos chA.step⟩
        exact hok.kl _ (by simp [List.getD, show hf - 1 < n.keys.length by omega])
    · have ed : Ext w1 w1.drew := Fr.drew NoB w1
      have hle1 := hn1.l1
      have hle3 := hn1.l3
      obtain ⟨At', ac', Fa', fc', mb', h1a⟩ := h1
      refine ⟨_, rfl, fun v => Ext w1 v, ed, _, _, _, fun v e => (h1a.blk.ext e).cell rfl, _, rfl, _, _, _, fun v e => (hn1.blk.ext e).cell rfl, ⟨by omega, by omega⟩, ⟨by omega, by omega⟩, _, rfl, _, _, _, fun v e => (hn1.blk.ext e).cell rfl, ⟨by omega, by omega⟩, ⟨by omega, by omega⟩, ?_⟩
      intro b1 v1 f1
      rw [Int.toNat_natCast, Int.toNat_natCast, cutAt_zero, cutAt_zero, Nat.sub_zero, Nat.sub_zero] at f1
      have e1' := ed.trans' f1.ext
      have h1' : Ar1 R M w1 g (setN A i n) := ⟨_, _, _, _, _, h1a⟩
      obtain ⟨h2, ch2⟩ := h1'.absorb e1'
      have hst : Step (Om R M) w1 (Om (Ra R w1 v1) M) v1 := ch2.step
      have hk1 : hf - 1 = n1.keys.length := by simp [n1, List.length_take]; omega
      have hk2 : hf = n1.kids.length := by simp [n1, List.length_take]; omega
      have hkd : n.kids.take hf ≠ [] := by
        intro e'; have := congrArg List.length e'; rw [List.length_take, List.length_nil] at this; omega
      have hN1 : NodAt (Om (Ra R w1 v1) M) v1 b1 n1 A1 (hf - 1) none 0 A3 hf := NodAt.fresh hM1 ed (by rw [← hk1, ← hk2]; exact f1) (by omega) (Nat.le_refl _) (by omega) ((imm_take hn1.keys (hf - 1)).keep KBs_pos hst) (Imm.nil _ _ _ _) ((imm_take hn1.kids hf).keep KN_pos hst) ⟨fun e' => absurd e' hA3, fun e' => absurd e' hkd⟩ (hok.cut (fun k hk => List.mem_of_mem_take hk) (fun k hk => by cases hk) (by rw [List.length_take]; omega) (by simp) (by rw [List.length_take]; omega))
      obtain ⟨ga2, ac2, fc2, Fa2, mb2, hb2, s1, s2⟩ := h2.setAt hil (n := n1) ⟨b1, A1, hf - 1, none, 0, A3, hf, rfl, hN1⟩
      have hb2' := h1a.blk.ext e1'
      obtain ⟨ex, hx⟩ := hb2
      obtain ⟨ey, hy⟩ := hb2'
      rw [hx] at hy
      have hcs := (Obj.cells.inj (Option.some.inj hy)).1
      have hAt : At' = some ⟨ga2, 0, none⟩ := by simp [arC] at hcs; exact hcs.1.1.symm
      refine ⟨e1', _, hAt, ⟨by omega, by omega⟩, by rw [Int.toNat_natCast]; exact s1, fun v2 hv2 => ?_⟩
      rw [Int.toNat_natCast] at hv2
      obtain ⟨h3, ch3⟩ := s2 v2 hv2
      exact ⟨_, _, h3, ch1.trans (ch2.trans ch3)⟩
end Go.Proofs.Ythfagbfllheneaa
