/- Layer 3: how values and strings compare. -/
import Derived.Test.YtakmlaliglmnmaaR4
import Derived.Test.YtakmlaliglmnmaaR7Pure
import Derived.Test.YtakmlaliglmnmaaNestsC
import Derived.Laws.Externs
set_option linter.unusedVariables false
set_option linter.unusedSimpArgs false
namespace Go.Proofs.Ytakmlaliglmnmaa
open Go Go.Sx R1
theorem CompareString_spec (a b : ByteArray) (w : World) : CallsV Try.prog 90 #[.string a, .string b] w fun v w' => v = .int .i64 (Lib.compareBytes (sb a) (sb b)) ∧ w' = w := by
  refine internal_bytealg_CompareString.calls okay ?_
  unfold internal_bytealg_CompareString.W
  refine ⟨_, w, ?_, rfl, rfl⟩
  unfold RunsTo
  rw [run_callFunc_extern Try.func94 (by kernel_rfl) (by kernel_rfl) (by kernel_rfl) (e := Extern.BytealgCompare.compare) (by kernel_rfl), Lib.run_compareString]
  rfl
theorem sCompare_spec (a b : ByteArray) (w : World) : CallsV Try.prog 75 #[.string a, .string b] w fun v w' => v = .int .i64 (Lib.compareBytes (sb a) (sb b)) ∧ w' = w := by
  refine strings_Compare.calls okay ?_
  unfold strings_Compare.W
  exact (CompareString_spec a b w).same ⟨_, rfl, rfl, rfl⟩
theorem cmpI_spec (x y : Int) (w : World) : CallsV Try.prog 74 #[.int .i64 x, .int .i64 y] w fun v w' => v = .int .i64 (cmpI x y) ∧ w' = w := by
  have nan : ∀ (x : Int) (w : World), CallsV Try.prog 89 #[.int .i64 x] w fun v w' => v = .bool false ∧ w' = w := by
    intro x w
    refine cmp_isNaN_int64.calls okay ?_
    unfold cmp_isNaN_int64.W
    exact ⟨by simp, rfl⟩
  refine cmp_Compare_int64.calls okay ?_
  unfold cmp_Compare_int64.W
  refine (nan x w).same ⟨_, rfl, (nan y w).same ⟨_, rfl, ?_⟩⟩
  rw [cond_false, cond_false]
  unfold cmpI
  refine brd (fun h => ⟨by rw [if_pos h], rfl⟩) (fun h => brd (fun h2 => ⟨by rw [if_neg h, if_pos h2], rfl⟩) (fun h2 => ⟨by rw [if_neg h, if_neg h2], rfl⟩))
theorem cmpK_spec (x y : Int) (w : World) : CallsV Try.prog 73 #[.int .u8 x, .int .u8 y] w fun v w' => v = .int .i64 (cmpI x y) ∧ w' = w := by
  have nan : ∀ (x : Int) (w : World), CallsV Try.prog 88 #[.int .u8 x] w fun v w' => v = .bool false ∧ w' = w := by
    intro x w
    refine cmp_isNaN_api_Kind.calls okay ?_
    unfold cmp_isNaN_api_Kind.W
    exact ⟨by simp, rfl⟩
  refine cmp_Compare_api_Kind.calls okay ?_
  unfold cmp_Compare_api_Kind.W
  refine (nan x w).same ⟨_, rfl, (nan y w).same ⟨_, rfl, ?_⟩⟩
  rw [cond_false, cond_false]
  unfold cmpI
  refine brd (fun h => ⟨by rw [if_pos h], rfl⟩) (fun h => brd (fun h2 => ⟨by rw [if_neg h, if_pos h2], rfl⟩) (fun h2 => ⟨by rw [if_neg h, if_neg h2], rfl⟩))
theorem vcmp_spec (a b : V) (w : World) : CallsV Try.prog 48 #[.agg #[.int .u8 a.k, .int .i64 a.n, .string a.s], .agg #[.int .u8 b.k, .int .i64 b.n, .string b.s]] w fun v w' => v = .int .i64 (vcmp a b) ∧ Ext w w' := by
  refine value_Compare.calls okay ?_
  unfold value_Compare.W
  have b1 : Blk (w.alloc (.cells #[.int .u8 a.k, .int .i64 a.n, .string a.s] 31)) w.heap.size [.int .u8 a.k, .int .i64 a.n, .string a.s] := Blk.alloc _ _ _
  have e1 : Ext w (w.alloc (.cells #[.int .u8 a.k, .int .i64 a.n, .string a.s] 31)) := Fr.alloc NoB w _
  generalize w.heap.size = g1 at *
  generalize w.alloc (.cells #[.int .u8 a.k, .int .i64 a.n, .string a.s] 31) = w1 at *
  have b2 : Blk (w1.alloc (.cells #[.int .u8 b.k, .int .i64 b.n, .string b.s] 31)) w1.heap.size [.int .u8 b.k, .int .i64 b.n, .string b.s] := Blk.alloc _ _ _
  have e2 : Ext w1 (w1.alloc (.cells #[.int .u8 b.k, .int .i64 b.n, .string b.s] 31)) := Fr.alloc NoB w1 _
  generalize w1.heap.size = g2 at *
  generalize w1.alloc (.cells #[.int .u8 b.k, .int .i64 b.n, .string b.s] 31) = W at *
  have b1 := b1.ext e2
  have eW := e1.trans' e2
  unfold vcmp
  refine ⟨_, b1.cell rfl, _, b2.cell rfl, brn (fun h => ?_) (fun h => ?_)⟩
  · rw [if_pos h]
    exact ⟨_, b1.cell rfl, _, b2.cell rfl, (cmpK_spec _ _ W).same ⟨_, rfl, rfl, eW⟩⟩
  rw [if_neg (by simpa using h)]
  refine ⟨_, b1.cell rfl, brd (fun h1 => ?_) (fun h1 => ?_)⟩
  · rw [if_pos h1]
    exact ⟨_, b1.cell rfl, _, b2.cell rfl, (cmpI_spec _ _ W).same ⟨_, rfl, rfl, eW⟩⟩
  rw [if_neg h1]
  refine ⟨_, b1.cell rfl, brd (fun h2 => ?_) (fun h2 => ?_)⟩
  · rw [if_pos (.inl h2)]
    exact ⟨_, b1.cell rfl, _, b2.cell rfl, (sCompare_spec _ _ W).same ⟨_, rfl, rfl, eW⟩⟩
  refine ⟨_, b1.cell rfl, brd (fun h3 => ?_) (fun h3 => ?_)⟩
  · rw [if_pos (.inr h3)]
    exact ⟨_, b1.cell rfl, _, b2.cell rfl, (sCompare_spec _ _ W).same ⟨_, rfl, rfl, eW⟩⟩
  · rw [if_neg (by omega)]
    exact ⟨rfl, eW⟩
theorem compareBytes_sign : ∀ (s t : List UInt8), Lib.compareBytes s t = -1 ∨ Lib.compareBytes s t = 0 ∨ Lib.compareBytes s t = 1
  | [], [] => .inr (.inl rfl)
  | [], _ :: _ => .inl rfl
  | _ :: _, [] => .inr (.inr rfl)
  | a :: s, b :: t => by
    have := compareBytes_sign s t
    rw [Lib.compareBytes]
    split
    · exact .inl rfl
    · split
      · exact .inr (.inr rfl)
      · exact this
theorem cmpI_sign (x y : Int) : cmpI x y = -1 ∨ cmpI x y = 0 ∨ cmpI x y = 1 := by
  unfold cmpI
  split
  · simp
  · split <;> simp
theorem vcmp_sign (a b : V) : vcmp a b = -1 ∨ vcmp a b = 0 ∨ vcmp a b = 1 := by
  unfold vcmp
  split
  · exact cmpI_sign _ _
  · split
    · exact cmpI_sign _ _
    · split
      · exact compareBytes_sign _ _
      · exact .inr (.inl rfl)
end Go.Proofs.Ytakmlaliglmnmaa
