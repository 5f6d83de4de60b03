/- Layer 3: RecordOrder. -/
import Derived.Test.YtpaockbhbdeekaaR6
import Derived.Test.YtpaockbhbdeekaaR7Pure
import Derived.Test.YtpaockbhbdeekaaNestsC
import Derived.Laws.Externs
set_option linter.unusedVariables false
set_option linter.unusedSimpArgs false
namespace Go.Proofs.Ytpaockbhbdeekaa
open Go Go.Sx R1

theorem CompareString_spec (a b : ByteArray) (w : World) : CallsV Try.prog 45 #[.string a, .string b] w fun v w' => v = .int .i64 (Lib.compareBytes (sb a) (sb b)) ∧ w' = w := by
  refine internal_bytealg_CompareString.calls okay ?_
  unfold internal_bytealg_CompareString.W
  refine ⟨_, w, ?_, rfl, rfl⟩
  unfold RunsTo
  rw [run_callFunc_extern Try.func72 (by kernel_rfl) (by kernel_rfl) (by kernel_rfl) (e := Extern.BytealgCompare.compare) (by kernel_rfl), Lib.run_compareString]
  rfl
theorem sCompare_spec (a b : ByteArray) (w : World) : CallsV Try.prog 19 #[.string a, .string b] w fun v w' => v = .int .i64 (Lib.compareBytes (sb a) (sb b)) ∧ w' = w := by
  refine strings_Compare.calls okay ?_
  unfold strings_Compare.W
  exact (CompareString_spec a b w).same ⟨_, rfl, rfl, rfl⟩
theorem cmpI_spec (x y : Int) (w : World) : CallsV Try.prog 74 #[.int .i64 x, .int .i64 y] w fun v w' => v = .int .i64 (cmpI x y) ∧ w' = w := by
  have nan : ∀ (x : Int) (w : World), CallsV Try.prog 84 #[.int .i64 x] w fun v w' => v = .bool false ∧ w' = w := by
    intro x w
    refine cmp_isNaN_int64.calls okay ?_
    unfold cmp_isNaN_int64.W
    exact ⟨by simp, rfl⟩
  refine cmp_Compare_int64.calls okay ?_
  unfold cmp_Compare_int64.W
  refine (nan x w).same ⟨_, rfl, (nan y w).same ⟨_, rfl, ?_⟩⟩
  rw [cond_false, cond_false]
  unfold cmpI
  refine brd (fun h => ⟨by rw [if_pos h], rfl⟩) (fun h => brd (fun h2 => ⟨by rw [if_neg h, if_pos h2], rfl⟩) (fun h2 => ⟨by rw [if_neg h, if_neg h2], rfl⟩))
theorem cmpK_spec (x y : Int) (w : World) : CallsV Try.prog 73 #[.int .u8 x, .int .u8 y] w fun v w' => v = .int .i64 (cmpI x y) ∧ w' = w := by
  have nan : ∀ (x : Int) (w : World), CallsV Try.prog 83 #[.int .u8 x] w fun v w' => v = .bool false ∧ w' = w := by
    intro x w
    refine cmp_isNaN_api_Kind.calls okay ?_
    unfold cmp_isNaN_api_Kind.W
    exact ⟨by simp, rfl⟩
  refine cmp_Compare_api_Kind.calls okay ?_
  unfold cmp_Compare_api_Kind.W
  refine (nan x w).same ⟨_, rfl, (nan y w).same ⟨_, rfl, ?_⟩⟩
  rw [cond_false, cond_false]
  unfold cmpI
  refine brd (fun h => ⟨by rw [if_pos h], rfl⟩) (fun h => brd (fun h2 => ⟨by rw [if_neg h, if_pos h2], rfl⟩) (fun h2 => ⟨by rw [if_neg h, if_neg h2], rfl⟩))
theorem vcmp_spec (a b : V) (w : World) : CallsV Try.prog 46 #[.agg #[.int .u8 a.k, .int .i64 a.n, .string a.s], .agg #[.int .u8 b.k, .int .i64 b.n, .string b.s]] w fun v w' => v = .int .i64 (vcmp a b) ∧ Ext w w' := by
  refine value_Compare.calls okay ?_
  unfold value_Compare.W
  have b1 : Blk (w.alloc (.cells #[.int .u8 a.k, .int .i64 a.n, .string a.s] 37)) w.heap.size [.int .u8 a.k, .int .i64 a.n, .string a.s] := Blk.alloc _ _ _
  have e1 : Ext w (w.alloc (.cells #[.int .u8 a.k, .int .i64 a.n, .string a.s] 37)) := Fr.alloc NoB w _
  generalize w.heap.size = g1 at *
  generalize w.alloc (.cells #[.int .u8 a.k, .int .i64 a.n, .string a.s] 37) = w1 at *
  have b2 : Blk (w1.alloc (.cells #[.int .u8 b.k, .int .i64 b.n, .string b.s] 37)) w1.heap.size [.int .u8 b.k, .int .i64 b.n, .string b.s] := Blk.alloc _ _ _
  have e2 : Ext w1 (w1.alloc (.cells #[.int .u8 b.k, .int .i64 b.n, .string b.s] 37)) := Fr.alloc NoB w1 _
  generalize w1.heap.size = g2 at *
  generalize w1.alloc (.cells #[.int .u8 b.k, .int .i64 b.n, .string b.s] 37) = W at *
  have b1 := b1.ext e2
  have eW := e1.trans' e2
  unfold vcmp
  refine ⟨_, b1.cell rfl, _, b2.cell rfl, brn (fun h => ?_) (fun h => ?_)⟩
  · rw [if_pos h]
    exact ⟨_, b1.cell rfl, _, b2.cell rfl, (cmpK_spec _ _ W).same ⟨_, rfl, rfl, eW⟩⟩
  rw [if_neg (by simpa using h)]
  refine ⟨_, b1.cell rfl, brd (fun h1 => ?_) (fun h1 => ?_)⟩
  · rw [if_pos h1]
    exact ⟨_, b1.cell rfl, _, b2.cell rfl, (cmpI_spec _ _ W).same ⟨_, rfl, rfl, eW⟩⟩
  rw [if_neg h1]
  refine ⟨_, b1.cell rfl, brd (fun h2 => ?_) (fun h2 => ?_)⟩
  · rw [if_pos (.inl h2)]
    exact ⟨_, b1.cell rfl, _, b2.cell rfl, (sCompare_spec _ _ W).same ⟨_, rfl, rfl, eW⟩⟩
  refine ⟨_, b1.cell rfl, brd (fun h3 => ?_) (fun h3 => ?_)⟩
  · rw [if_pos (.inr h3)]
    exact ⟨_, b1.cell rfl, _, b2.cell rfl, (sCompare_spec _ _ W).same ⟨_, rfl, rfl, eW⟩⟩
  · rw [if_neg (by omega)]
    exact ⟨rfl, eW⟩
theorem compareBytes_sign : ∀ (s t : List UInt8), Lib.compareBytes s t = -1 ∨ Lib.compareBytes s t = 0 ∨ Lib.compareBytes s t = 1
  | [], [] => .inr (.inl rfl)
  | [], _ :: _ => .inl rfl
  | _ :: _, [] => .inr (.inr rfl)
  | a :: s, b :: t => by
    have := compareBytes_sign s t
    rw [Lib.compareBytes]
    split
    · exact .inl rfl
    · split
      · exact .inr (.inr rfl)
      · exact this
theorem cmpI_sign (x y : Int) : cmpI x y = -1 ∨ cmpI x y = 0 ∨ cmpI x y = 1 := by
  unfold cmpI
  split
  · simp
  · split <;> simp
theorem vcmp_sign (a b : V) : vcmp a b = -1 ∨ vcmp a b = 0 ∨ vcmp a b = 1 := by
  unfold vcmp
  split
  · exact cmpI_sign _ _
  · split
    · exact cmpI_sign _ _
    · split
      · exact compareBytes_sign _ _
      · exact .inr (.inl rfl)
theorem dropV (l : List V) (j : Nat) (h : j < l.length) : l.drop j = l.getD j V0 :: l.drop (j + 1) := by
  rw [List.drop_eq_getElem_cons h]; simp [List.getD, h]
theorem dropF (l : List Bool) (j : Nat) (h : j < l.length) : l.drop j = l.getD j false :: l.drop (j + 1) := by
  rw [List.drop_eq_getElem_cons h]; simp [List.getD, h]
theorem rows_spec {w : World} {A B D : Option Addr} {ac bc dc n m k : Nat} {a b : List V} {ds : List Bool} (hn : n = a.length) (hm : m = b.length) (hk : k = ds.length) (hA : Imm KV NoB w A a) (hB : Imm KV NoB w B b) (hD : Imm Kd.bool NoB w D ds) (h1 : a.length = ds.length) (h2 : b.length = ds.length) (hl : a.length ≤ 1000) :
    CallsV Try.prog 20 #[.slice A n ac, .slice B m bc, .slice D k dc] w fun v w' => v = .int .i64 (rowsC a b ds) ∧ Ext w w' := by
  subst hn; subst hm; subst hk
  refine cardindexlaw03_rows.calls okay ?_
  unfold cardindexlaw03_rows.W
  refine ⟨fun x u => ∃ j : Nat, j ≤ a.length ∧ x = (j : Int) ∧ rowsC a b ds = rowsC (a.drop j) (b.drop j) (ds.drop j) ∧ Ext w u, fun x _ => (a.length - x).toNat, ⟨0, by omega, rfl, rfl, .refl _ _⟩, ?_⟩
  rintro _ u ⟨j, hj, rfl, hr, e⟩
  refine brd (fun hlt => ?_) (fun hge => ?_)
  · have hd := e.trans' (Fr.drew NoB u)
    obtain ⟨ad, hA', _, cA⟩ := itemV hA (x := (j : Int)) (by omega) (by omega)
    obtain ⟨bd, hB', _, cB⟩ := itemV hB (x := (j : Int)) (by omega) (by omega)
    rw [dropV a j (by omega), dropV b j (by omega), dropF ds j (by omega), rowsC] at hr
    rw [Int.toNat_natCast] at cA cB
    simp only [Int.toNat_natCast]
    refine ⟨fun u => Ext w u, hd, ad, hA', ⟨by omega, by omega⟩, _, fun u hu => (cA u (.inr (.inl hu))).1, _, fun u hu => (cA u (.inr (.inl hu))).2.1, _, fun u hu => (cA u (.inr (.inl hu))).2.2,
      bd, hB', ⟨by omega, by omega⟩, _, fun u hu => (cB u (.inr (.inl hu))).1, _, fun u hu => (cB u (.inr (.inl hu))).2.1, _, fun u hu => (cB u (.inr (.inl hu))).2.2, ?_⟩
    have hsg := vcmp_sign (a.getD j V0) (b.getD j V0)
    refine (vcmp_spec _ _ u.drew).mono ?_
    rintro _ u1 ⟨rfl, e1⟩
    have e1 := hd.trans' e1
    generalize vcmp (a.getD j V0) (b.getD j V0) = c at *
    refine ⟨_, rfl, fun u => Ext w u, fun _ h => h, e1, brn (fun hc => ?_) (fun hc => ?_)⟩
    · rw [if_pos hc] at hr
      obtain ⟨dd, hD', cD⟩ := itemF (hD.ext KBo_pos e1) (x := (j : Int)) (by omega) (by omega)
      rw [Int.toNat_natCast] at cD
      refine ⟨dd, hD', ⟨by omega, by omega⟩, _, cD, br (fun ht => ?_) (fun ht => ?_)⟩
      · rw [ht, if_pos rfl] at hr
        rw [hr, wi _ (by omega) (by omega)]
        exact ⟨by rw [Int.zero_sub], e1⟩
      · rw [ht, if_neg (by decide)] at hr
        rw [hr]; exact ⟨rfl, e1⟩
    · rw [if_neg (by simpa using hc)] at hr
      rw [wi _ (by omega) (by omega)]
      exact ⟨⟨j + 1, by omega, rfl, hr, e1⟩, by omega⟩
  · obtain rfl : j = a.length := by omega
    have h0 : ∀ b ds, rowsC [] b ds = 0 := fun b ds => by simp [rowsC]
    rw [List.drop_length, h0] at hr
    rw [hr]; exact ⟨rfl, e⟩

theorem RecordOrder_holds {w : World} {AA BA LA : Option Addr} {ac bc lc : Nat} {a b : List V} {l : List Bool} (hA : Imm KV NoB w AA a) (hB : Imm KV NoB w BA b) (hL : Imm Kd.bool NoB w LA l) (hal : a.length ≤ maxLen) (hbl : b.length ≤ maxLen) (hac : a.length ≤ ac) (hbc : b.length ≤ bc) (hll : l.length ≤ maxLen) (hg : ∀ v ∈ a, good v) (hgb : ∀ v ∈ b, good v) :
    CallsV Try.prog 6 #[.slice AA a.length ac, .slice BA b.length bc, .slice LA l.length lc] w fun v w' => v = .bool true ∧ Ext w w' := by
  refine cardindexlaw03_RecordOrder.calls okay ?_
  unfold cardindexlaw03_RecordOrder.W
  have aw : ∀ w5, Ext w w5 → CallsV Try.prog 12 #[] w5 fun v w' => ∃ x, v = .bool x ∧ ((fun v w' => v = .bool true ∧ Ext w w' : Value → World → Prop) (.bool x) w') := by
    intro w5 e5
    refine (awake_spec w5).mono ?_
    rintro v w6 ⟨rfl, e6⟩
    exact ⟨_, rfl, rfl, e5.trans' e6⟩
  refine (right3_spec hA hal (20 : Nat)).mono ?_
  rintro _ w1 ⟨rfl, e1⟩
  refine ⟨_, rfl, brnb (fun _ => aw _ e1) (fun h3 => ?_)⟩
  obtain ⟨h20, h100, hr⟩ := right3_true h3
  refine (right3_spec (hB.ext KV_pos e1) hbl (20 : Nat)).mono ?_
  rintro _ w2 ⟨rfl, e2⟩
  have e2 := e1.trans' e2
  refine ⟨_, rfl, brnb (fun _ => aw _ e2) (fun h4 => ?_)⟩
  obtain ⟨k20, k100, kr⟩ := right3_true h4
  have hmin : (if (b.length : Int) < (a.length : Int) then (b.length : Int) else (a.length : Int)) = ((min a.length b.length : Nat) : Int) := by split <;> omega
  have hma : min a.length b.length ≤ a.length := by omega
  have hmb : min a.length b.length ≤ b.length := by omega
  rw [hmin]
  generalize min a.length b.length = n at *
  refine (flags_spec (hL.ext KBo_pos e2) hll n (by omega)).mono ?_
  rintro _ w3 ⟨D, dc, rfl, oD, e3, nD⟩
  have e3 := e2.trans' e3
  have hdl := fl_length l n
  generalize fl l n = ds at *
  simp only [Int.toNat_natCast]
  refine ⟨_, _, _, rfl, ⟨by omega, by omega⟩, ?_⟩
  have ta : (a.take n).drop 0 = a.take n := by simp
  have tb : (b.take n).drop 0 = b.take n := by simp
  have cA : ∀ {u}, Ext w u → Imm KV NoB u (cutAt AA ac 0 3) (a.take n) := fun hu => by
    have := (hA.ext KV_pos hu).cut (lo := 0) (hi := n) (m := ac) (by omega)
    rw [ta] at this; exact this
  have cB : ∀ {u}, Ext w u → Imm KV NoB u (cutAt BA bc 0 3) (b.take n) := fun hu => by
    have := (hB.ext KV_pos hu).cut (lo := 0) (hi := n) (m := bc) (by omega)
    rw [tb] at this; exact this
  have hlA : n - 0 = (a.take n).length := by rw [List.length_take]; omega
  have hlB : n - 0 = (b.take n).length := by rw [List.length_take]; omega
  have hr' : ∀ v ∈ a.take n, right v = true := fun v hv => hr v (List.mem_of_mem_take hv)
  have kr' : ∀ v ∈ b.take n, right v = true := fun v hv => kr v (List.mem_of_mem_take hv)
  have hg' : ∀ v ∈ a.take n, good v := fun v hv => hg v (List.mem_of_mem_take hv)
  have kg' : ∀ v ∈ b.take n, good v := fun v hv => hgb v (List.mem_of_mem_take hv)
  obtain ⟨hR, hRl⟩ := keyR_of (l := a.take n) (ds := ds) (by omega) hr' (fun v hv => h100 v (List.mem_of_mem_take hv)) (by omega)
  obtain ⟨hR2, hR2l⟩ := keyR_of (l := b.take n) (ds := ds) (by omega) kr' (fun v hv => k100 v (List.mem_of_mem_take hv)) (by omega)
  have hcmp := key_cmp (a.take n) (b.take n) ds (by omega) (by omega) hr' kr' hg' kg'
  refine (Key_at hlA rfl (cA e3) oD.imm (max100 (by omega)) (max100 (by omega)) hg').mono ?_
  rw [hR]
  rintro _ w4 ⟨X, cX, rfl, oX, e4, nX⟩
  refine ⟨_, _, _, _, rfl, ⟨by omega, by omega⟩, ?_⟩
  have e4' := e3.trans' e4
  refine (Key_at hlB rfl (cB e4') (oD.imm.ext KBo_pos e4) (max100 (by omega)) (max100 (by omega)) kg').mono ?_
  rw [hR2]
  rintro _ w5 ⟨Y, cY, rfl, oY, e5, nY⟩
  have e5' := e4'.trans' e5
  dsimp only at oX oY ⊢
  refine ⟨_, _, _, _, rfl, fun u => Ext w5 u, Fr.drew NoB w5, brd (fun _ => brd (fun _ => ?_) (fun h => absurd rfl h)) (fun h => absurd rfl h)⟩
  refine ⟨_, to_str_all bt (oX.ext e5).imm0 _, _, to_str_all bt oY.imm0 _, ⟨by omega, by omega⟩, ⟨by omega, by omega⟩, ?_⟩
  refine (sCompare_spec _ _ _).same ⟨_, rfl, fun u => Ext w5 u, fun _ h => h, Fr.drew NoB w5, ?_⟩
  have ed : Ext w w5.drew := e5'.trans' (Fr.drew NoB w5)
  have eD : Ext w3 w5.drew := e4.trans' (e5.trans' (Fr.drew NoB w5))
  refine (rows_spec hlA hlB rfl (cA ed) (cB ed) (oD.imm.ext KBo_pos eD) (by omega) (by omega) (by omega)).mono ?_
  rintro _ w6 ⟨rfl, e6⟩
  refine ⟨_, rfl, fun u => Ext w5 u, fun _ h => h, (Fr.drew NoB w5).ext e6, brd (fun _ => ?_) (fun h => absurd (by rw [← hcmp]; simp [sb]) h)⟩
  refine (awake_spec w6).mono ?_
  rintro v w7 ⟨rfl, e7⟩
  have e57 : Ext w5 w7 := Ext.trans' ((Fr.drew NoB w5).ext e6) e7
  exact ⟨_, rfl, fun u => Ext w5 u, fun _ h => h, e57, rfl, e5'.trans' e57⟩
end Go.Proofs.Ytpaockbhbdeekaa
