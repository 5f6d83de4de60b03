/- Part 8 of the texts of this claim: the engine, contracts, plain laws. -/
import Derived.Test.YtadlhdiejmilmaaZCNone4P7
/- Layer 4: an arena that New did not make. -/
set_option linter.unusedVariables false
set_option linter.unusedSimpArgs false
namespace Go.Proofs.Ytadlhdiejmilmaa
open Go Go.Sx T4
open Go.RowKit Go.Shelf
attribute [local go_sem] Oper.semAt_some
/-- no arena: no block, or one of nothing -/
def NotA (w : World) (a : Option Addr) : Prop := a = none ∨ ∃ g, a = some ⟨g, 0, none⟩ ∧ Blk w g [.int .i64 0, .int .i64 0, .slice none 0 0, .slice none 0 0, .map none, .int .i64 0]
theorem NotA.ext {w w' : World} {a : Option Addr} (h : NotA w a) (e : Ext w w') : NotA w' a := h.imp id fun ⟨g, h1, h2⟩ => ⟨g, h1, h2.ext e⟩
variable {w : World} {a : Option Addr}
theorem nMade (h : NotA w a) : CallsV Try.prog 43 #[.pointer a] w fun r w' => r = .bool false ∧ w' = w := by
  refine tree_Arena_made.calls okay ?_
  unfold tree_Arena_made.W
  rcases h with rfl | ⟨g, rfl, hb⟩
  · exact ⟨rfl, rfl⟩
  · exact ⟨_, rfl, _, hb.cell rfl, rfl, rfl⟩
theorem nTop (h : NotA w a) (root : Int) : CallsV Try.prog 45 #[.pointer a, .int .i64 root] w fun r w' => r = .tuple #[.int .i64 0, .int .i64 1] ∧ w' = w := by
  refine tree_Arena_top.calls okay ?_
  unfold tree_Arena_top.W
  exact (nMade h).same ⟨_, rfl, brnb (fun _ => ⟨rfl, rfl⟩) (fun h => by cases h)⟩
theorem nCreate (h : NotA w a) : CallsV Try.prog 14 #[.pointer a] w fun r w' => r = .tuple #[.int .i64 0, .int .i64 1] ∧ w' = w := by
  refine tree_Arena_Create.calls okay ?_
  unfold tree_Arena_Create.W
  exact (nMade h).same ⟨_, rfl, brnb (fun _ => ⟨rfl, rfl⟩) (fun h => by cases h)⟩
theorem nPut (h : NotA w a) (root : Int) (KA VA : Option Addr) (kn kc vn vc : Nat) : CallsV Try.prog 17 #[.pointer a, .int .i64 root, .slice KA kn kc, .slice VA vn vc] w fun r w' => r = .tuple #[.bool false, .int .i64 1] ∧ w' = w := by
  refine tree_Arena_Put.calls okay ?_
  unfold tree_Arena_Put.W
  exact (nTop h root).same ⟨_, _, rfl, brn (fun _ => ⟨rfl, rfl⟩) (fun h => by cases h)⟩
theorem nDelete (h : NotA w a) (root : Int) (KA : Option Addr) (kn kc : Nat) : CallsV Try.prog 29 #[.pointer a, .int .i64 root, .slice KA kn kc] w fun r w' => r = .tuple #[.bool false, .int .i64 1] ∧ w' = w := by
  refine tree_Arena_Delete.calls okay ?_
  unfold tree_Arena_Delete.W
  exact (nTop h root).same ⟨_, _, rfl, brn (fun _ => ⟨rfl, rfl⟩) (fun h => by cases h)⟩
theorem nGet (h : NotA w a) (root : Int) (KA : Option Addr) (kn kc : Nat) : CallsV Try.prog 23 #[.pointer a, .int .i64 root, .slice KA kn kc] w fun r w' => r = .tuple #[.slice none 0 0, .bool false] ∧ w' = w := by
  refine tree_Arena_Get.calls okay ?_
  unfold tree_Arena_Get.W
  exact (nTop h root).same ⟨_, _, rfl, brn (fun _ => ⟨rfl, rfl⟩) (fun h => by cases h)⟩
theorem nAfter (h : NotA w a) (root : Int) (KA : Option Addr) (kn kc : Nat) (at_ : Bool) : CallsV Try.prog 24 #[.pointer a, .int .i64 root, .slice KA kn kc, .bool at_] w fun r w' => r = eN ∧ w' = w := by
  refine tree_Arena_After.calls okay ?_
  unfold tree_Arena_After.W
  exact (nTop h root).same ⟨_, _, rfl, brn (fun _ => ⟨rfl, rfl⟩) (fun h => by cases h)⟩
theorem nBefore (h : NotA w a) (root : Int) (KA : Option Addr) (kn kc : Nat) (at_ : Bool) : CallsV Try.prog 33 #[.pointer a, .int .i64 root, .slice KA kn kc, .bool at_] w fun r w' => r = eN ∧ w' = w := by
  refine tree_Arena_Before.calls okay ?_
  unfold tree_Arena_Before.W
  exact (nTop h root).same ⟨_, _, rfl, brn (fun _ => ⟨rfl, rfl⟩) (fun h => by cases h)⟩
theorem nLast (h : NotA w a) (root : Int) : CallsV Try.prog 25 #[.pointer a, .int .i64 root] w fun r w' => r = eN ∧ w' = w := by
  refine tree_Arena_Last.calls okay ?_
  unfold tree_Arena_Last.W
  exact (nTop h root).same ⟨_, _, rfl, brn (fun _ => ⟨rfl, rfl⟩) (fun h => by cases h)⟩
theorem nDrop (h : NotA w a) (root : Int) : CallsV Try.prog 30 #[.pointer a, .int .i64 root] w fun r w' => r = .int .i64 1 ∧ w' = w := by
  refine tree_Arena_Drop.calls okay ?_
  unfold tree_Arena_Drop.W
  exact (nTop h root).same ⟨_, _, rfl, brn (fun _ => ⟨rfl, rfl⟩) (fun h => by cases h)⟩
theorem nDeep (h : NotA w a) (root : Int) : CallsV Try.prog 16 #[.pointer a, .int .i64 root] w fun r w' => r = .int .i64 0 ∧ w' = w := by
  refine tree_Arena_Deep.calls okay ?_
  unfold tree_Arena_Deep.W
  exact (nTop h root).same ⟨_, _, rfl, brn (fun _ => ⟨rfl, rfl⟩) (fun h => by cases h)⟩
theorem nSave (h : NotA w a) : CallsV Try.prog 31 #[.pointer a] w fun r w' => r = .pointer none ∧ w' = w := by
  refine tree_Arena_Save.calls okay ?_
  unfold tree_Arena_Save.W
  exact (nMade h).same ⟨_, rfl, brnb (fun _ => ⟨rfl, rfl⟩) (fun h => by cases h)⟩
theorem nLoad (h : NotA w a) (s : Option Addr) : CallsV Try.prog 32 #[.pointer a, .pointer s] w fun r w' => r = .int .i64 1 ∧ w' = w := by
  refine tree_Arena_Load.calls okay ?_
  unfold tree_Arena_Load.W
  exact (nMade h).same ⟨_, rfl, brnb (fun _ => ⟨rfl, rfl⟩) (fun h => by cases h)⟩
theorem nNodes (h : NotA w a) : CallsV Try.prog 15 #[.pointer a] w fun r w' => r = .int .i64 0 ∧ Ext w w' := by
  refine tree_Arena_Nodes.calls okay ?_
  unfold tree_Arena_Nodes.W
  rcases h with rfl | ⟨g, rfl, hb⟩
  · exact br (fun _ => ⟨rfl, .refl _ _⟩) (fun h => by cases h)
  · refine br (fun h => by cases h) (fun _ => ⟨_, rfl, fun u => u = w.drew, rfl, ?_⟩)
    have hb := hb.ext (Fr.drew NoB w)
    exact ⟨_, _, _, fun u hu => by subst hu; exact hb.cell rfl, _, rfl, _, _, _, fun u hu => by subst hu; exact hb.cell rfl, rfl, Fr.drew NoB w⟩
theorem nLen_in (h : NotA w a) (root : Int) : CallsIn Fence.wide 0 Try.prog 28 #[.pointer a, .int .i64 root] w fun e w' => ∃ v, e = .returned v ∧ v = .int .i64 0 ∧ Ext w w' := by
  refine callsIn_of_wp_marks Try.func28 len_body trivial ?_ rfl
  simp only [Try.ntmps28, List.size_toArray, List.length_cons, List.length_nil, Nat.reduceAdd, Nat.reduceSub, Array.replicate_succ, Array.replicate_zero, List.push_toArray, List.append_toArray, List.nil_append, List.cons_append]
  simp only [len0, len1, len2, len4, len5, Try.f28]
  have e1 : Ext w (w.alloc (Obj.cells #[Value.pointer a] 24)) := Fr.alloc NoB w _
  have hba : Blk (w.alloc (Obj.cells #[Value.pointer a] 24)) w.heap.size [.pointer a] := Blk.alloc w [.pointer a] 24
  have hc : (w.alloc (Obj.cells #[Value.pointer a] 24)).cell? ⟨w.heap.size, 0, none⟩ = some (.pointer a) := hba.cell0 rfl
  gi_wp2
  have hin : CallsIn Fence.wide 0 Try.prog 45 #[.pointer a, .int .i64 root] (w.alloc (Obj.cells #[Value.pointer a] 24)) fun e w' => e = .returned (.tuple #[.int .i64 0, .int .i64 1]) ∧ w' = w.alloc (Obj.cells #[Value.pointer a] 24) := by
    refine callsIn_wide.2 (Calls.mono (nTop (h.ext e1) root) ?_)
    rintro e w' ⟨v, rfl, rfl, rfl⟩
    exact ⟨rfl, rfl⟩
  refine ⟨trivial, rfl, hin.mono ?_⟩
  rintro e w' ⟨rfl, rfl⟩
  gi_wp2
  exact ⟨_, results_tmp rfl _ _ _, _, rfl, rfl, e1⟩
theorem nCheck_in (h : NotA w a) : CallsIn Fence.wide 0 Try.prog 19 #[.pointer a] w fun e w' => ∃ v, e = .returned v ∧ v = .int .i64 1 ∧ Ext w w' := by
  refine callsIn_of_wp_marks Try.func19 chk_body trivial ?_ rfl
  simp only [Try.ntmps19, List.size_toArray, List.length_cons, List.length_nil, Nat.reduceAdd, Nat.reduceSub, Array.replicate_succ, Array.replicate_zero, List.push_toArray, List.append_toArray, List.nil_append, List.cons_append]
  simp only [chk0, chk1, chk3, chk4, Try.f19]
  gi_wp2
  have hin : CallsIn Fence.wide 0 Try.prog 43 #[.pointer a] w fun e w' => e = .returned (.bool false) ∧ w' = w := by
    refine callsIn_wide.2 (Calls.mono (nMade h) ?_)
    rintro e w' ⟨v, rfl, rfl, rfl⟩
    exact ⟨rfl, rfl⟩
  refine ⟨trivial, rfl, hin.mono ?_⟩
  rintro e w' ⟨rfl, hw'⟩
  obtain rfl : w = w' := hw'.symm
  gi_wp2
  exact ⟨_, results_tmp rfl _ _ _, _, rfl, rfl, .refl _ _⟩
theorem nLen (h : NotA w a) (root : Int) : CallsV Try.prog 28 #[.pointer a, .int .i64 root] w fun r w' => r = .int .i64 0 ∧ Ext w w' := callsIn_wide.1 (nLen_in h root)
theorem nCheck (h : NotA w a) : CallsV Try.prog 19 #[.pointer a] w fun r w' => r = .int .i64 1 ∧ Ext w w' := callsIn_wide.1 (nCheck_in h)
theorem TreeNone_spec (root : Int) (KA : Option Addr) (kn kc : Nat) (VA : Option Addr) (vn vc : Nat) (at_ : Bool) :
    CallsV Try.prog 11 #[.int .i64 root, .slice KA kn kc, .slice VA vn vc, .bool at_] w fun r w' => r = .bool true ∧ Ext w w' := by
  refine cardindexlaw04_TreeNone.calls okay ?_
  unfold cardindexlaw04_TreeNone.W
  intro g1 w1 f1 g2 w2 f2
  have e12 : Ext w w2 := f1.ext.trans' f2.ext
  have b1 := f1.blk.ext f2.ext
  refine ⟨fun x u => ∃ j : Nat, j ≤ 2 ∧ x = (j : Int) ∧ Ext w2 u, fun x _ => (2 - x).toNat, ⟨0, by omega, rfl, .refl _ _⟩, ?_⟩
  rintro _ u ⟨j, hj, rfl, eu⟩
  refine brd (fun hlt => ?_) (fun _ => ?_)
  · obtain ⟨a, hc, hn⟩ : ∃ a, u.cell? ⟨g2, j, none⟩ = some (.pointer a) ∧ NotA u a := by
      have hb := f2.blk.ext eu
      have : j = 0 ∨ j = 1 := by omega
      rcases this with rfl | rfl
      · exact ⟨none, hb.cell0 rfl, .inl rfl⟩
      · exact ⟨some ⟨g1, 0, none⟩, hb.cell0 rfl, .inr ⟨g1, rfl, b1.ext eu⟩⟩
    refine ⟨_, rfl, ⟨by omega, by omega⟩, _, by rw [Int.toNat_natCast, add_new, Nat.zero_add, Nat.mul_one]; exact hc, ?_⟩
    refine (nCreate hn).same ⟨_, _, rfl, (nPut hn root KA VA kn kc vn vc).same ⟨_, _, rfl, (nDelete hn root KA kn kc).same ⟨_, _, rfl, (nGet hn root KA kn kc).same ⟨_, _, _, _, rfl, (nAfter hn root KA kn kc at_).same ⟨_, _, _, _, _, _, _, rfl, (nBefore hn root KA kn kc at_).same ⟨_, _, _, _, _, _, _, rfl, (nLast hn root).same ⟨_, _, _, _, _, _, _, rfl, ?_⟩⟩⟩⟩⟩⟩⟩
    refine brn (fun h => absurd rfl h) fun _ => brn (fun h => absurd rfl h) fun _ => brn (fun h => absurd rfl h) fun _ => ?_
    refine (nDrop hn root).same ⟨_, rfl, brn (fun h => absurd rfl h) fun _ => (nCheck hn).mono ?_⟩
    rintro _ u1 ⟨rfl, e1⟩
    have hn1 := hn.ext e1
    refine ⟨_, rfl, brn (fun h => absurd rfl h) fun _ => (nLoad hn1 none).same ⟨_, rfl, brn (fun h => absurd rfl h) fun _ => (nSave hn1).same ⟨_, rfl, brnb (fun h => by cases h) fun _ => ?_⟩⟩⟩
    refine br (fun h => by cases h) fun _ => br (fun h => by cases h) fun _ => br (fun h => by cases h) fun _ => br (fun h => by cases h) fun _ => br (fun h => by cases h) fun _ => br (fun h => by cases h) fun _ => (nLen hn1 root).mono ?_
    rintro _ u2 ⟨rfl, e2⟩
    have hn2 := hn1.ext e2
    refine ⟨_, rfl, (nDeep hn2 root).same ⟨_, rfl, (nNodes hn2).mono ?_⟩⟩
    rintro _ u3 ⟨rfl, e3⟩
    refine ⟨_, rfl, brn (fun h => absurd (by decide) h) fun _ => ?_⟩
    rw [wi _ (by omega) (by omega)]
    exact ⟨⟨j + 1, by omega, by omega, ((eu.trans' e1).trans' e2).trans' e3⟩, by dsimp only; omega⟩
  · refine (awake_spec u).mono ?_
    rintro _ u1 ⟨rfl, e1⟩
    exact ⟨_, rfl, rfl, (e12.trans' eu).trans' e1⟩
end Go.Proofs.Ytadlhdiejmilmaa
