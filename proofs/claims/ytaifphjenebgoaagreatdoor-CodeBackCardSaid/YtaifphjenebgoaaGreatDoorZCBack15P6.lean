/- Part 6 of the texts of this claim: the engine, contracts, plain laws. -/
import Derived.Test.YtaifphjenebgoaaGreatDoorZCBack15P5
import Derived.Test.YtaifphjenebgoaaGreatDoorZCBack15P3
import Derived.Test.YtaifphjenebgoaaGreatDoorZCBack15P4
set_option linter.unusedVariables false
set_option linter.unusedSimpArgs false
namespace Go.Proofs.YtaifphjenebgoaaGreatDoor
open Go Go.Sx R1 K15
section
variable {b : List UInt8} {A : Option Addr} {c : Nat} {w0 w w' : World} {g : Nat} {s : Option (List UInt8)}
theorem Rdr.new {s' : Option (List UInt8)} (h : Rdr b A c w0 w g s) {g1 : Nat} (hg : w.heap.size ≤ g1) {S : World} (f : Fr (At g1) w' S) (h' : Rdr b A c w0 w' g s') : Rdr b A c w0 S g s' :=
  h'.fr f (fun e => by have e : g = g1 := e; have := h.lt; omega) (fun k hk e => by have e : k = g1 := e; have := h.ge; have := h.lt; omega)
theorem Fr.new {g1 : Nat} {S : World} (f : Fr (At g) w w') (hg : w.heap.size ≤ g1) (q : Fr (At g1) w' S) : Fr (At g) w S :=
  f.trans q (fun _ _ h => h) (fun k hk e => by have e : k = g1 := e; omega)
theorem constO_ok {l : List UInt8} {v : V} (h : Got (blobO 1048576) s l) (hv : gV l = some v) : adv (K15.constO gV) s = adv (blobO 1048576) s ∧ Got (K15.constO gV) s v := by
  cases s with
  | none => exact ⟨rfl, Got.bad rfl⟩
  | some b =>
    cases hb : blobO 1048576 b with
    | none =>
      have : K15.constO gV b = none := by unfold K15.constO; rw [hb]
      exact ⟨by rw [adv_bad hb, adv_bad this], Got.bad (adv_bad this)⟩
    | some z =>
      obtain rfl := h z.1 z.2 hb
      have : K15.constO gV b = some (v, z.2) := by unfold K15.constO; rw [hb]; simp only; rw [hv]; rfl
      exact ⟨by rw [adv_ok (x := z.1) (a := z.2) hb, adv_ok this], Got.ok this⟩
theorem constO_bad {l : List UInt8} (h : Got (blobO 1048576) s l) (hv : gV l = none) : adv (K15.constO gV) s = none := by
  cases s with
  | none => rfl
  | some b =>
    cases hb : blobO 1048576 b with
    | none => exact adv_bad (by unfold K15.constO; rw [hb])
    | some z =>
      obtain rfl := h z.1 z.2 hb
      exact adv_bad (by unfold K15.constO; rw [hb]; simp only; rw [hv]; rfl)
theorem rtextf_spec (h : Rdr b A c w0 w g s) {g2 : Nat} (hb : Blk w g2 [.pointer (some ⟨g, 0, none⟩)]) :
    CallsV Tryz.prog 32 #[.pointer (some ⟨g2, 0, none⟩)] w fun v w' => ∃ x : ByteArray, v = .string x ∧ Rdr b A c w0 w' g (adv (textO 200) s) ∧ Got (textO 200) s x ∧ Fr (At g) w w' := by
  refine code_Read_1.calls okay ?_
  unfold code_Read_1.W
  refine ⟨_, hb.cell (o := 0) (i := 0) rfl, ?_⟩
  refine (rblob_spec h 200 (by omega)).mono ?_
  rintro _ w1 ⟨B, d, l, rfl, ho, _, h1, q1, _, f1⟩
  exact ⟨_, _, _, rfl, _, _, to_str bt (ho.imm (Ω := NoB) (fun _ _ h => h)) d, _, rfl, by rw [adv_text]; exact h1, q1.text, f1⟩
theorem rconst_spec (h : Rdr b A c w0 w g s) :
    CallsV Tryz.prog 35 #[.pointer (some ⟨g, 0, none⟩)] w fun v w' => ∃ x : V, v = .agg #[.int .u8 x.k, .int .i64 x.n, .string x.s] ∧ Rdr b A c w0 w' g (adv (K15.constO gV) s) ∧ Got (K15.constO gV) s x ∧ Fr (At g) w w' := by
  refine code_reader_constant.calls okay ?_
  unfold code_reader_constant.W
  intro g1 w1 f1
  have hg1 := f1.ge
  refine (rblob_spec (h.ex f1.ext) 1048576 (by omega)).mono ?_
  rintro _ w2 ⟨B, d, l, rfl, ho, nB, h2, q2, hl, f2⟩
  refine ⟨_, _, _, rfl, ?_⟩
  have gne : ¬ At g g1 := fun e => by have e : g1 = g := e; have := h.lt; omega
  refine (Get_spec (n := l.length) rfl (ho.imm (Ω := NoB) (fun _ _ h => h)) (by omega) ho.le).mono ?_
  rintro _ w3 ⟨C, e, rfl, hC, e3, _⟩
  refine ⟨_, _, _, _, rfl, ?_⟩
  have bk3 : Blk w3 g1 [.int .u8 0, .int .i64 0, .string (ByteArray.mk #[])] := (f1.blk.keep f2 gne).ext e3
  have fw3 : Fr (At g) w w3 := (f1.ext.fr.trans f2 (fun _ _ h => h) (fun _ _ h => h)).ext e3.fr
  have bad : gV l = none → ∃ a, (some ⟨g, 0, none⟩ : Option Addr) = some a ∧ stOK (a.add 2) 0 [.bool true] w3 ∧ ∀ w'_1, w'_1 = setAll (a.add 2) 0 [.bool true] w3 →
      stOK ⟨g1, 0, none⟩ 0 [.int .u8 0, .int .i64 0, .string (ByteArray.mk #[])] w'_1 ∧ ∀ w', w' = setAll ⟨g1, 0, none⟩ 0 [.int .u8 0, .int .i64 0, .string (ByteArray.mk #[])] w'_1 →
        ∃ x, w'.cell? ((⟨g1, 0, none⟩ : Addr).add 0) = some (.int .u8 x) ∧ ∃ x_6, w'.cell? ((⟨g1, 0, none⟩ : Addr).add 1) = some (.int .i64 x_6) ∧ ∃ x_7, w'.cell? ((⟨g1, 0, none⟩ : Addr).add 2) = some (.string x_7) ∧
          ∃ y : V, Value.agg #[.int .u8 x, .int .i64 x_6, .string x_7] = .agg #[.int .u8 y.k, .int .i64 y.n, .string y.s] ∧ Rdr b A c w0 w' g (adv (K15.constO gV) s) ∧ Got (K15.constO gV) s y ∧ Fr (At g) w w' := fun hv => by
    refine ⟨_, rfl, h2.failOK e3 _, fun w4 hw4 => ?_⟩
    obtain ⟨h4, f4⟩ := h2.fail e3 hw4
    have bk4 : Blk w4 g1 [.int .u8 0, .int .i64 0, .string (ByteArray.mk #[])] := ((f1.blk.keep f2 gne).keep f4 gne)
    refine ⟨bk4.stOK _ 0 (by simp), fun w5 hw5 => ?_⟩
    obtain ⟨bk5, f5⟩ := set0 bk4 hw5 rfl
    have ha := constO_bad q2 hv
    refine ⟨_, bk5.cell rfl, _, bk5.cell rfl, _, bk5.cell rfl, ⟨0, 0, ByteArray.mk #[]⟩, rfl, ?_, Got.bad ha, ?_⟩
    · rw [ha]
      exact h.new hg1 f5 h4
    · exact Fr.new (f1.ext.fr.trans (f2.trans f4 (fun _ _ h => h) (fun _ _ h => h)) (fun _ _ h => h) (fun _ _ h => h)) hg1 f5
  cases hp : getP l with
  | none => 
    have hr : getR l = ([], 10) := by unfold getR; rw [hp]
    refine brn (fun _ => bad (by unfold gV; rw [hp])) (fun h0 => by rw [hr] at h0; cases h0)
  | some row =>
    have hr : getR l = (row, 0) := by unfold getR; rw [hp]
    rw [hr] at hC ⊢
    refine brn (fun h0 => absurd rfl h0) (fun _ => brn (fun h1 => bad ?_) (fun h1 => ?_))
    · unfold gV; rw [hp]
      match row, h1 with
      | [], _ => rfl
      | [v], h1 => exact absurd rfl h1
      | _ :: _ :: _, _ => rfl
    obtain ⟨v, rfl⟩ : ∃ v, row = [v] := by
      match row, h1 with
      | [v], _ => exact ⟨v, rfl⟩
      | [], h1 => cases h1
      | _ :: _ :: r, h1 => simp only [List.length_cons] at h1; omega
    obtain ⟨ad, rfl, cs, hrep, hcell⟩ := at1 (hC.imm KV_pos) (j := 0) (by simp)
    obtain rfl : cs = vc v := hrep
    refine ⟨ad, rfl, ⟨by omega, by simp⟩, _, hcell w3 (.refl _ _) 0 _ rfl, _, hcell w3 (.refl _ _) 1 _ rfl, _, hcell w3 (.refl _ _) 2 _ rfl, bk3.stOK _ 0 (by simp), fun w4 hw4 => ?_⟩
    obtain ⟨bk4, f4⟩ := set0 bk3 hw4 rfl
    obtain ⟨ha, hgot⟩ := constO_ok q2 (show gV l = some v by unfold gV; rw [hp])
    refine ⟨_, bk4.cell rfl, _, bk4.cell rfl, _, bk4.cell rfl, v, rfl, ?_, hgot, Fr.new fw3 hg1 f4⟩
    rw [ha]
    exact h.new hg1 f4 (h2.ex e3)
theorem rcur_spec (h : Rdr b A c w0 w g s) :
    CallsV Tryz.prog 37 #[.pointer (some ⟨g, 0, none⟩)] w fun v w' => ∃ x : Cur, v = .agg #[.string x.name, .bool x.ix, .bool x.wr] ∧ Rdr b A c w0 w' g (adv curO s) ∧ Got curO s x ∧ Fr (At g) w w' := by
  refine code_reader_cursor.calls okay ?_
  unfold code_reader_cursor.W
  intro g1 w1 f1
  have hg1 := f1.ge
  have gne : ¬ At g g1 := fun e => by have e : g1 = g := e; have := h.lt; omega
  refine (rblob_spec (h.ex f1.ext) 200 (by omega)).mono ?_
  rintro _ w2 ⟨B, d, l, rfl, ho, _, h2, q2, hl, f2⟩
  refine ⟨_, _, _, rfl, _, _, to_str bt (ho.imm (Ω := NoB) (fun _ _ h => h)) d, ?_⟩
  intro g2 w3 f3
  have hg2 := f3.ge
  have sz : w.heap.size ≤ w2.heap.size := Nat.le_trans f1.ext.size f2.size
  have gne2 : ¬ At g g2 := fun e => by have e : g2 = g := e; have := h.lt; omega
  have g12 : g1 ≠ g2 := by have := f1.lt; have := f2.size; omega
  have p3 : Fr (At g) w w3 := ((f1.ext.fr.trans f2 (fun _ _ h => h) (fun _ _ h => h)).ext f3.ext.fr)
  have bk1 : Blk w3 g1 _ := (f1.blk.keep f2 gne).ext f3.ext
  refine ⟨f3.blk.stOK _ 0 (by simp), fun w4 hw4 => ?_⟩
  obtain ⟨b4, f4⟩ := set0 f3.blk hw4 rfl
  have h4 := h.new (by omega) f4 (h2.ex f3.ext)
  have p4 := Fr.new p3 (by omega) f4
  have bk1 := bk1.keep f4 (fun e => g12 e)
  refine (rflag_spec h4).mono ?_
  rintro _ w5 ⟨x, rfl, h5, q5, f5⟩
  have b5 := b4.keep f5 gne2
  have bk1 := bk1.keep f5 gne
  refine ⟨_, rfl, cellOK b5 (by simp), fun w6 hw6 => ?_⟩
  obtain ⟨b6, f6⟩ := cellSet b5 hw6
  have p5 := p4.trans f5 (fun _ _ h => h) (fun _ _ h => h)
  have h6 := h.new (by omega) f6 h5
  have p6 := Fr.new p5 (by omega) f6
  have bk1 := bk1.keep f6 (fun e => g12 e)
  refine (rflag_spec h6).mono ?_
  rintro _ w7 ⟨y, rfl, h7, q7, f7⟩
  have b7 := b6.keep f7 gne2
  have bk1 := bk1.keep f7 gne
  refine ⟨_, rfl, cellOK b7 (by simp), fun w8 hw8 => ?_⟩
  obtain ⟨b8, f8⟩ := cellSet b7 hw8
  have p7 := p6.trans f7 (fun _ _ h => h) (fun _ _ h => h)
  have h8 := h.new (by omega) f8 h7
  have p8 := Fr.new p7 (by omega) f8
  have bk1 := bk1.keep f8 (fun e => g12 e)
  refine ⟨_, b8.cell rfl, _, b8.cell rfl, _, b8.cell rfl, bk1.stOK _ 0 (by simp), fun w9 hw9 => ?_⟩
  obtain ⟨b9, f9⟩ := set0 bk1 hw9 rfl
  refine ⟨_, b9.cell rfl, _, b9.cell rfl, _, b9.cell rfl, ⟨⟨l.toArray⟩, x, y⟩, rfl, ?_, ?_, Fr.new p8 hg1 f9⟩
  · unfold curO
    rw [adv_map, adv_seq, adv_seq, adv_text]
    exact h.new hg1 f9 h8
  · exact Got.map (fun z : ByteArray × (Bool × Bool) => (⟨z.1, z.2.1, z.2.2⟩ : Cur)) (q2.text.seq (Got.seq (by rw [adv_text]; exact q5) (by rw [adv_text]; exact q7)))
theorem rtot_spec (h : Rdr b A c w0 w g s) :
    CallsV Tryz.prog 41 #[.pointer (some ⟨g, 0, none⟩)] w fun v w' => ∃ x : Tot, v = .agg #[.string x.fn, .bool x.dist] ∧ Rdr b A c w0 w' g (adv totO s) ∧ Got totO s x ∧ Fr (At g) w w' := by
  refine code_reader_total.calls okay ?_
  unfold code_reader_total.W
  intro g1 w1 f1
  have hg1 := f1.ge
  have gne : ¬ At g g1 := fun e => by have e : g1 = g := e; have := h.lt; omega
  refine (rblob_spec (h.ex f1.ext) 200 (by omega)).mono ?_
  rintro _ w2 ⟨B, d, l, rfl, ho, _, h2, q2, hl, f2⟩
  refine ⟨_, _, _, rfl, _, _, to_str bt (ho.imm (Ω := NoB) (fun _ _ h => h)) d, ?_⟩
  intro g2 w3 f3
  have hg2 := f3.ge
  have sz : w.heap.size ≤ w2.heap.size := Nat.le_trans f1.ext.size f2.size
  have gne2 : ¬ At g g2 := fun e => by have e : g2 = g := e; have := h.lt; omega
  have g12 : g1 ≠ g2 := by have := f1.lt; have := f2.size; omega
  have p3 : Fr (At g) w w3 := ((f1.ext.fr.trans f2 (fun _ _ h => h) (fun _ _ h => h)).ext f3.ext.fr)
  have bk1 : Blk w3 g1 _ := (f1.blk.keep f2 gne).ext f3.ext
  refine ⟨f3.blk.stOK _ 0 (by simp), fun w4 hw4 => ?_⟩
  obtain ⟨b4, f4⟩ := set0 f3.blk hw4 rfl
  have h4 := h.new (by omega) f4 (h2.ex f3.ext)
  have p4 := Fr.new p3 (by omega) f4
  have bk1 := bk1.keep f4 (fun e => g12 e)
  refine (rflag_spec h4).mono ?_
  rintro _ w5 ⟨x, rfl, h5, q5, f5⟩
  have b5 := b4.keep f5 gne2
  have bk1 := bk1.keep f5 gne
  refine ⟨_, rfl, cellOK b5 (by simp), fun w6 hw6 => ?_⟩
  obtain ⟨b6, f6⟩ := cellSet b5 hw6
  have p5 := p4.trans f5 (fun _ _ h => h) (fun _ _ h => h)
  have h6 := h.new (by omega) f6 h5
  have p6 := Fr.new p5 (by omega) f6
  have bk1 := bk1.keep f6 (fun e => g12 e)
  refine ⟨_, b6.cell rfl, _, b6.cell rfl, bk1.stOK _ 0 (by simp), fun w9 hw9 => ?_⟩
  obtain ⟨b9, f9⟩ := set0 bk1 hw9 rfl
  refine ⟨_, b9.cell rfl, _, b9.cell rfl, ⟨⟨l.toArray⟩, x⟩, rfl, ?_, ?_, Fr.new p6 hg1 f9⟩
  · unfold totO
    rw [adv_map, adv_seq, adv_text]
    exact h.new hg1 f9 h6
  · exact Got.map (fun z : ByteArray × Bool => (⟨z.1, z.2⟩ : Tot)) (q2.text.seq (by rw [adv_text]; exact q5))
theorem rins_spec (h : Rdr b A c w0 w g s) :
    CallsV Tryz.prog 43 #[.pointer (some ⟨g, 0, none⟩)] w fun v w' => ∃ x : Ins, v = .agg #[.int .u8 x.op, .int .i64 x.a, .int .i64 x.b, .int .i64 x.c, .int .i64 x.d] ∧ Rdr b A c w0 w' g (adv insO s) ∧ Got insO s x ∧ Fr (At g) w w' := by
  refine code_reader_instr.calls okay ?_
  unfold code_reader_instr.W
  intro g1 w1 f1 g2 w2 f2
  have hg1 := f1.ge
  have hg2 := f2.ge
  have z1 := f1.ext.size
  have gne : ¬ At g g1 := fun e => by have e : g1 = g := e; have := h.lt; omega
  have gne2 : ¬ At g g2 := fun e => by have e : g2 = g := e; have := h.lt; omega
  have g12 : g1 ≠ g2 := by have := f1.lt; omega
  refine (rnum_spec ((h.ex f1.ext).ex f2.ext) 255 (by omega)).mono ?_
  rintro _ w3 ⟨op, rfl, h3, q3, hop, f3⟩
  have b3 := f2.blk.keep f3 gne2
  have bk1 := (f1.blk.ext f2.ext).keep f3 gne
  refine ⟨_, rfl, ?_⟩
  rw [w8 op (by omega) (by omega)]
  refine ⟨cellOK b3 (by simp), fun w4 hw4 => ?_⟩
  obtain ⟨b4, f4⟩ := cellSet b3 hw4
  have p3 : Fr (At g) w w3 := (f1.ext.fr.ext f2.ext.fr).trans f3 (fun _ _ h => h) (fun _ _ h => h)
  have h4 := h.new (by omega) f4 h3
  have p4 := Fr.new p3 (by omega) f4
  have bk1 := bk1.keep f4 (fun e => g12 e)
  have b4' : Blk w4 g2 (.int .u8 op :: List.map (Value.int .i64) (([] : List Int) ++ List.replicate (4 - ([] : List Int).length) (0 : Int))) := b4
  obtain ⟨s1, hs1⟩ : ∃ s1, s1 = adv (numO 255) s := ⟨_, rfl⟩
  rw [← hs1] at h4
  refine ⟨fun x u => ∃ l : List Int, l.length ≤ 4 ∧ x = (l.length : Int) ∧ Blk u g2 (.int .u8 op :: (l ++ List.replicate (4 - l.length) 0).map (Value.int .i64)) ∧ Blk u g1 [.int .u8 0, .int .i64 0, .int .i64 0, .int .i64 0, .int .i64 0] ∧
    Rdr b A c w0 u g (adv (repO (numO bigM) l.length) s1) ∧ Got (repO (numO bigM) l.length) s1 l ∧ Fr (At g) w u, fun x _ => (4 - x).toNat, ⟨[], by simp, rfl, b4', bk1, by rw [List.length_nil, adv_rep0]; exact h4, Got.rep0 _ _, p4⟩, ?_⟩
  rintro _ u ⟨l, hl, rfl, bu, bk1, hu, qu, pu⟩
  have step : ∀ (k : Nat), l.length = k → k < 4 → CallsV Tryz.prog 30 #[.pointer (some ⟨g, 0, none⟩), .int .i64 1099511627776] u fun v w' => ∃ x_1, v = .int .i64 x_1 ∧
      ∃ a, (some ((⟨g2, 0, none⟩ : Addr).add (k + 1)) : Option Addr) = some a ∧ stOK a 0 [.int .i64 x_1] w' ∧ ∀ w'_3, w'_3 = setAll a 0 [.int .i64 x_1] w' →
        (∃ l : List Int, l.length ≤ 4 ∧ IntKind.i64.wrap (((k : Nat) : Int) + 1) = (l.length : Int) ∧ Blk w'_3 g2 (.int .u8 op :: (l ++ List.replicate (4 - l.length) 0).map (Value.int .i64)) ∧ Blk w'_3 g1 [.int .u8 0, .int .i64 0, .int .i64 0, .int .i64 0, .int .i64 0] ∧
          Rdr b A c w0 w'_3 g (adv (repO (numO bigM) l.length) s1) ∧ Got (repO (numO bigM) l.length) s1 l ∧ Fr (At g) w w'_3) ∧ (4 - IntKind.i64.wrap (((k : Nat) : Int) + 1)).toNat < (4 - ((k : Nat) : Int)).toNat := by
    intro k hk hk4
    refine (rnum_spec hu 1099511627776 (by omega)).mono ?_
    rintro _ v ⟨x, rfl, hv, qv, _, fv⟩
    have bv := bu.keep fv gne2
    have bk1 := bk1.keep fv gne
    refine ⟨_, rfl, _, rfl, cellOK bv (by simp; omega), fun y hy => ?_⟩
    obtain ⟨by_, fy⟩ := cellSet bv hy
    rw [wi ((k : Int) + 1) (by omega) (by omega)]
    refine ⟨⟨l ++ [x], by simp; omega, by simp; omega, ?_, bk1.keep fy (fun e => g12 e), ?_, ?_, Fr.new (pu.trans fv (fun _ _ h => h) (fun _ _ h => h)) (by omega) fy⟩, by omega⟩
    · have : (Value.int .u8 op :: (l ++ List.replicate (4 - l.length) 0).map (Value.int .i64)).set (k + 1) (.int .i64 x) = .int .u8 op :: (l ++ [x] ++ List.replicate (4 - (l ++ [x]).length) 0).map (Value.int .i64) := by
        rw [List.set_cons_succ]
        congr 1
        subst hk
        rw [List.map_append, List.set_append_right _ _ (by simp), List.length_map, Nat.sub_self, List.length_append, List.length_singleton, show 4 - l.length = (4 - (l.length + 1)) + 1 by omega, List.replicate_succ]
        simp
      rw [← this]; exact by_
    · rw [List.length_append, List.length_singleton, adv_rep]
      exact h.new (by omega) fy hv
    · rw [List.length_append, List.length_singleton]
      exact qu.rep qv
  refine brd (fun hlt => ⟨⟨by omega, by omega⟩, ?_⟩) (fun hge => ?_)
  · refine brd (fun h0 => ?_) (fun h0 => brd (fun h1 => ?_) (fun h1 => brd (fun h2 => ?_) (fun h2 => brd (fun h3 => ?_) (fun h3 => by omega))))
    · have hk : l.length = 0 := by omega
      rw [hk]; exact step 0 hk (by omega)
    · have hk : l.length = 1 := by omega
      rw [hk]; exact step 1 hk (by omega)
    · have hk : l.length = 2 := by omega
      rw [hk]; exact step 2 hk (by omega)
    · have hk : l.length = 3 := by omega
      rw [hk]; exact step 3 hk (by omega)
  · obtain ⟨p, q, t, z, rfl⟩ : ∃ p q t z, l = [p, q, t, z] := by
      match l, hl, hge with
      | [p, q, t, z], _, _ => exact ⟨p, q, t, z, rfl⟩
      | [], _, hge => simp at hge
      | [_], _, hge => simp at hge
      | [_, _], _, hge => simp at hge
      | [_, _, _], _, hge => simp at hge
      | _ :: _ :: _ :: _ :: _ :: r, hl, _ => simp only [List.length_cons] at hl; omega
    refine ⟨_, bu.cell rfl, _, bu.cell rfl, _, bu.cell rfl, _, bu.cell rfl, _, bu.cell rfl, bk1.stOK _ 0 (by simp), fun w9 hw9 => ?_⟩
    obtain ⟨b9, f9⟩ := set0 bk1 hw9 rfl
    refine ⟨_, b9.cell rfl, _, b9.cell rfl, _, b9.cell rfl, _, b9.cell rfl, _, b9.cell rfl, ⟨op, p, q, t, z⟩, rfl, ?_, ?_, Fr.new pu hg1 f9⟩
    · unfold insO
      rw [adv_map, adv_seq, ← hs1, ← adv_four]
      exact h.new hg1 f9 hu
    · exact Got.map (fun z : Int × (Int × (Int × (Int × Int))) => (⟨z.1, z.2.1, z.2.2.1, z.2.2.2.1, z.2.2.2.2⟩ : Ins)) (q3.seq (by rw [← hs1]; exact Got.four qu))
end
end Go.Proofs.YtaifphjenebgoaaGreatDoor
set_option linter.unusedVariables false
set_option linter.unusedSimpArgs false
namespace Go.Proofs.YtaifphjenebgoaaGreatDoor
open Go Go.Sx R1 K15
section
variable {b : List UInt8} {A : Option Addr} {c : Nat} {w0 w w' : World} {g : Nat} {s : Option (List UInt8)}
theorem own_old {α : Type} {K : Kd α} (hz : 0 < K.size) {u : World} {B : Option Addr} {d : Nat} {l : List α} (h : OwnK (Kd.out (Old w) K) u B d l) (n : New w B) : Imm K (Old w) u B l := by
  obtain ⟨xs, ho, hr⟩ := h
  exact Own.imm (K := K) hz ho (fun k hk ho => absurd ho (Nat.not_lt.2 (n k hk))) (fun i a ha => K.keep (hr i a ha) ⟨Nat.le_refl _, fun _ _ _ => rfl, fun k hk h => .inr h⟩)
theorem own_fr {α : Type} {K : Kd α} {u u1 : World} {B : Option Addr} {d : Nat} {l : List α} (hg : g < w.heap.size) (h : OwnK (Kd.out (Old w) K) u B d l) (n : New w B) (f : Fr (At g) u u1) : OwnK (Kd.out (Old w) K) u1 B d l :=
  h.fr f (fun k hk e => by have e : k = g := e; have := n k hk; omega) (fun a cs _ hr => K.keep hr (f.step (fun k hk e => .inr (by have e : k = g := e; show k < w.heap.size; omega)) (fun _ _ h => h)))
theorem rep_old {α : Type} {K : Kd α} {u u1 : World} {B : Option Addr} {d : Nat} {l : List α} {y : α} {cs : List Value} (hs : w.heap.size ≤ u.heap.size) (ho : OwnK (Kd.out (Old w) K) u B d l) (h : K.rep (Old u) u1 y cs) : (Kd.out (Old w) K).rep (ownB B) u1 y cs :=
  K.keep h ⟨Nat.le_refl _, fun _ _ _ => rfl, fun k hk hh => hh.elim (fun hB => ho.lt k hB) (fun hw => Nat.lt_of_lt_of_le hw hs)⟩
theorem slE_bool : SlT Tryz.prog 57 4 1 1 [.bool false] := ⟨by kernel_rfl, ⟨Tryz.t4, by kernel_rfl, by kernel_rfl, by kernel_rfl, .bool false, by kernel_rfl, by kernel_rfl⟩, rfl, by decide⟩
theorem some_bool_spec (h : Rdr b A c w0 w g s) (most : Nat) (hm : most ≤ 5000) {r : Rd Bool} {fid : Nat} {first cap : Array Value} (hb : bodied Tryz.prog fid = true)
    (hE : ∀ u s, Rdr b A c w0 u g s → Fr (At g) w u → CallsV Tryz.prog fid (first.toList ++ ([] ++ cap.toList)).toArray u fun v u' => ∃ x : Bool, v = .bool x ∧ Rdr b A c w0 u' g (adv r s) ∧ Got r s x ∧ Fr (At g) u u') :
    CallsV Tryz.prog 73 #[.pointer (some ⟨g, 0, none⟩), .int .i64 most, .func (.func fid) first cap] w fun v w' => ∃ (B : Option Addr) (d : Nat) (l : List Bool), v = .slice B l.length d ∧ l.length ≤ d ∧ l.length ≤ most ∧ Imm Kd.bool (Old w) w' B l ∧
      Rdr b A c w0 w' g (adv (someO most r) s) ∧ Got (someO most r) s l ∧ Fr (At g) w w' := by
  refine code_some_bool.calls okay ?_
  unfold code_some_bool.W
  have hgw := h.lt
  have h0w := h.ext.size
  refine (rnum_spec h most (by omega)).mono ?_
  rintro _ w1 ⟨x, rfl, h1, qx, hx, f1⟩
  refine ⟨_, rfl, ?_⟩
  obtain ⟨s1, hs1⟩ : ∃ s1, s1 = adv (numO most) s := ⟨_, rfl⟩
  have hsm := adv_some (r := r) qx
  rw [← hs1] at h1 hsm
  refine ⟨fun B n d k u => ∃ (l : List Bool) (j : Nat), n = l.length ∧ k = (j : Int) ∧ l.length + j = x.toNat ∧ OwnK (Kd.out (Old w) Kd.bool) u B d l ∧ New w B ∧ Rdr b A c w0 u g (adv (repO r l.length) s1) ∧ Got (repO r l.length) s1 l ∧ Fr (At g) w u, fun _ _ _ k _ => k.toNat,
    ⟨[], x.toNat, rfl, by omega, by simp, OwnK.nil _ _, New.none _, by rw [List.length_nil, adv_rep0]; exact h1, Got.rep0 _ _, f1⟩, ?_⟩
  rintro B _ d _ u ⟨l, j, rfl, rfl, hlj, hown, hnew, hu, qu, pu⟩
  have zu := pu.size
  have done : adv (repO r l.length) s1 = adv (repO r x.toNat) s1 → Got (repO r x.toNat) s1 l → ∃ (B' : Option Addr) (d' : Nat) (l' : List Bool), Value.slice B l.length d = .slice B' l'.length d' ∧ l'.length ≤ d' ∧ l'.length ≤ most ∧ Imm Kd.bool (Old w) u B' l' ∧
      Rdr b A c w0 u g (adv (someO most r) s) ∧ Got (someO most r) s l' ∧ Fr (At g) w u := fun he hq =>
    ⟨B, d, l, rfl, hown.le, by omega, own_old KBo_pos hown hnew, by rw [hsm, ← he]; exact hu, qx.some (by rw [← hs1]; exact hq), pu⟩
  refine brd (fun hj => ?_) (fun hj => ?_)
  · obtain ⟨a, ha, bk, hst⟩ := hu.st
    refine ⟨_, rfl, _, bk.cell rfl, brnb (fun hf => ?_) (fun ht => ?_)⟩
    · refine ⟨fid, first, cap, rfl, hb, ?_⟩
      refine (hE u _ hu pu).mono ?_
      rintro _ u1 ⟨y, rfl, h1, q1, f1⟩
      have hrep : Kd.bool.rep (Old u) u1 y [.bool y] := rfl
      refine ⟨_, rfl, fun g3 u2 f3 => ?_⟩
      obtain ⟨rfl, rfl⟩ := f3
      have hown1 := own_fr hgw hown hnew f1
      obtain ⟨B', d', u3, hrun, hown3, hgr⟩ := OwnK.push (K := Kd.out (Old w) Kd.bool) slE_bool (ty := 57) hown1 (rep_old zu hown hrep) (by
        intro v hv
        simp only [List.mem_cons, List.not_mem_nil, or_false] at hv
        rcases hv with rfl <;> rfl) (e' := 4) (by simp only [maxLen]; omega) (by omega)
      refine ⟨_, _, _, _, hrun, ?_⟩
      rw [wi ((j : Int) - 1) (by omega) (by omega)]
      have z1 := f1.size
      have hnew' : New w B' := fun k hk => (hgr.sub k hk).elim (fun h => hnew k h) (fun h => by have h : u1.heap.size ≤ k := h; omega)
      refine ⟨⟨l ++ [y], j - 1, rfl, by omega, by rw [List.length_append, List.length_singleton]; omega, hown3, hnew', ?_, ?_, ?_⟩, by dsimp only; omega⟩
      · rw [List.length_append, List.length_singleton, adv_rep]
        exact h1.fr hgr.fr (fun hk => by have := hnew g hk; omega) (fun k hk hB => by have := hnew k hB; omega)
      · rw [List.length_append, List.length_singleton]; exact qu.rep q1
      · exact (pu.trans f1 (fun _ _ h => h) (fun _ _ h => h)).trans hgr.fr (fun _ _ h => h) (fun k hk hB => by have := hnew k hB; omega)
    · have hn : adv (repO r l.length) s1 = none := by cases hq : adv (repO r l.length) s1 with | none => rfl | some z => rw [hq] at ht; cases ht
      have hn' : adv (repO r x.toNat) s1 = none := by rw [← hlj]; exact adv_rep_none hn j
      exact done (by rw [hn, hn']) (Got.bad hn')
  · have hj0 : l.length = x.toNat := by omega
    exact done (by rw [hj0]) (by rw [← hj0]; exact qu)
theorem slE_string : SlT Tryz.prog 22 9 1 16 [.string ByteArray.empty] := ⟨by kernel_rfl, ⟨Tryz.t9, by kernel_rfl, by kernel_rfl, by kernel_rfl, .string ByteArray.empty, by kernel_rfl, by kernel_rfl⟩, rfl, by decide⟩
theorem some_string_spec (h : Rdr b A c w0 w g s) (most : Nat) (hm : most ≤ 5000) {r : Rd ByteArray} {fid : Nat} {first cap : Array Value} (hb : bodied Tryz.prog fid = true)
    (hE : ∀ u s, Rdr b A c w0 u g s → Fr (At g) w u → CallsV Tryz.prog fid (first.toList ++ ([] ++ cap.toList)).toArray u fun v u' => ∃ x : ByteArray, v = .string x ∧ Rdr b A c w0 u' g (adv r s) ∧ Got r s x ∧ Fr (At g) u u') :
    CallsV Tryz.prog 31 #[.pointer (some ⟨g, 0, none⟩), .int .i64 most, .func (.func fid) first cap] w fun v w' => ∃ (B : Option Addr) (d : Nat) (l : List ByteArray), v = .slice B l.length d ∧ l.length ≤ d ∧ l.length ≤ most ∧ Imm Kd.str (Old w) w' B l ∧
      Rdr b A c w0 w' g (adv (someO most r) s) ∧ Got (someO most r) s l ∧ Fr (At g) w w' := by
  refine code_some_string.calls okay ?_
  unfold code_some_string.W
  have hgw := h.lt
  have h0w := h.ext.size
  refine (rnum_spec h most (by omega)).mono ?_
  rintro _ w1 ⟨x, rfl, h1, qx, hx, f1⟩
  refine ⟨_, rfl, ?_⟩
  obtain ⟨s1, hs1⟩ : ∃ s1, s1 = adv (numO most) s := ⟨_, rfl⟩
  have hsm := adv_some (r := r) qx
  rw [← hs1] at h1 hsm
  refine ⟨fun B n d k u => ∃ (l : List ByteArray) (j : Nat), n = l.length ∧ k = (j : Int) ∧ l.length + j = x.toNat ∧ OwnK (Kd.out (Old w) Kd.str) u B d l ∧ New w B ∧ Rdr b A c w0 u g (adv (repO r l.length) s1) ∧ Got (repO r l.length) s1 l ∧ Fr (At g) w u, fun _ _ _ k _ => k.toNat,
    ⟨[], x.toNat, rfl, by omega, by simp, OwnK.nil _ _, New.none _, by rw [List.length_nil, adv_rep0]; exact h1, Got.rep0 _ _, f1⟩, ?_⟩
  rintro B _ d _ u ⟨l, j, rfl, rfl, hlj, hown, hnew, hu, qu, pu⟩
  have zu := pu.size
  have done : adv (repO r l.length) s1 = adv (repO r x.toNat) s1 → Got (repO r x.toNat) s1 l → ∃ (B' : Option Addr) (d' : Nat) (l' : List ByteArray), Value.slice B l.length d = .slice B' l'.length d' ∧ l'.length ≤ d' ∧ l'.length ≤ most ∧ Imm Kd.str (Old w) u B' l' ∧
      Rdr b A c w0 u g (adv (someO most r) s) ∧ Got (someO most r) s l' ∧ Fr (At g) w u := fun he hq =>
    ⟨B, d, l, rfl, hown.le, by omega, own_old KStr_pos hown hnew, by rw [hsm, ← he]; exact hu, qx.some (by rw [← hs1]; exact hq), pu⟩
  refine brd (fun hj => ?_) (fun hj => ?_)
  · obtain ⟨a, ha, bk, hst⟩ := hu.st
    refine ⟨_, rfl, _, bk.cell rfl, brnb (fun hf => ?_) (fun ht => ?_)⟩
    · refine ⟨fid, first, cap, rfl, hb, ?_⟩
      refine (hE u _ hu pu).mono ?_
      rintro _ u1 ⟨y, rfl, h1, q1, f1⟩
      have hrep : Kd.str.rep (Old u) u1 y [.string y] := rfl
      refine ⟨_, rfl, fun g3 u2 f3 => ?_⟩
      obtain ⟨rfl, rfl⟩ := f3
      have hown1 := own_fr hgw hown hnew f1
      obtain ⟨B', d', u3, hrun, hown3, hgr⟩ := OwnK.push (K := Kd.out (Old w) Kd.str) slE_string (ty := 22) hown1 (rep_old zu hown hrep) (by
        intro v hv
        simp only [List.mem_cons, List.not_mem_nil, or_false] at hv
        rcases hv with rfl <;> rfl) (e' := 9) (by simp only [maxLen]; omega) (by omega)
      refine ⟨_, _, _, _, hrun, ?_⟩
      rw [wi ((j : Int) - 1) (by omega) (by omega)]
      have z1 := f1.size
      have hnew' : New w B' := fun k hk => (hgr.sub k hk).elim (fun h => hnew k h) (fun h => by have h : u1.heap.size ≤ k := h; omega)
      refine ⟨⟨l ++ [y], j - 1, rfl, by omega, by rw [List.length_append, List.length_singleton]; omega, hown3, hnew', ?_, ?_, ?_⟩, by dsimp only; omega⟩
      · rw [List.length_append, List.length_singleton, adv_rep]
        exact h1.fr hgr.fr (fun hk => by have := hnew g hk; omega) (fun k hk hB => by have := hnew k hB; omega)
      · rw [List.length_append, List.length_singleton]; exact qu.rep q1
      · exact (pu.trans f1 (fun _ _ h => h) (fun _ _ h => h)).trans hgr.fr (fun _ _ h => h) (fun k hk hB => by have := hnew k hB; omega)
    · have hn : adv (repO r l.length) s1 = none := by cases hq : adv (repO r l.length) s1 with | none => rfl | some z => rw [hq] at ht; cases ht
      have hn' : adv (repO r x.toNat) s1 = none := by rw [← hlj]; exact adv_rep_none hn j
      exact done (by rw [hn, hn']) (Got.bad hn')
  · have hj0 : l.length = x.toNat := by omega
    exact done (by rw [hj0]) (by rw [← hj0]; exact qu)
theorem slE_api_Value : SlT Tryz.prog 23 54 3 32 [.int .u8 0, .int .i64 0, .string ByteArray.empty] := ⟨by kernel_rfl, ⟨Tryz.t54, by kernel_rfl, by kernel_rfl, by kernel_rfl, .agg #[.int .u8 0, .int .i64 0, .string ByteArray.empty], by kernel_rfl, by kernel_rfl⟩, rfl, by decide⟩
theorem some_api_Value_spec (h : Rdr b A c w0 w g s) (most : Nat) (hm : most ≤ 5000) {r : Rd V} {fid : Nat} {first cap : Array Value} (hb : bodied Tryz.prog fid = true)
    (hE : ∀ u s, Rdr b A c w0 u g s → Fr (At g) w u → CallsV Tryz.prog fid (first.toList ++ ([] ++ cap.toList)).toArray u fun v u' => ∃ x : V, v = .agg #[.int .u8 x.k, .int .i64 x.n, .string x.s] ∧ Rdr b A c w0 u' g (adv r s) ∧ Got r s x ∧ Fr (At g) u u') :
    CallsV Tryz.prog 34 #[.pointer (some ⟨g, 0, none⟩), .int .i64 most, .func (.func fid) first cap] w fun v w' => ∃ (B : Option Addr) (d : Nat) (l : List V), v = .slice B l.length d ∧ l.length ≤ d ∧ l.length ≤ most ∧ Imm KV (Old w) w' B l ∧
      Rdr b A c w0 w' g (adv (someO most r) s) ∧ Got (someO most r) s l ∧ Fr (At g) w w' := by
  refine code_some_api_Value.calls okay ?_
  unfold code_some_api_Value.W
  have hgw := h.lt
  have h0w := h.ext.size
  refine (rnum_spec h most (by omega)).mono ?_
  rintro _ w1 ⟨x, rfl, h1, qx, hx, f1⟩
  refine ⟨_, rfl, ?_⟩
  obtain ⟨s1, hs1⟩ : ∃ s1, s1 = adv (numO most) s := ⟨_, rfl⟩
  have hsm := adv_some (r := r) qx
  rw [← hs1] at h1 hsm
  refine ⟨fun B n d k u => ∃ (l : List V) (j : Nat), n = l.length ∧ k = (j : Int) ∧ l.length + j = x.toNat ∧ OwnK (Kd.out (Old w) KV) u B d l ∧ New w B ∧ Rdr b A c w0 u g (adv (repO r l.length) s1) ∧ Got (repO r l.length) s1 l ∧ Fr (At g) w u, fun _ _ _ k _ => k.toNat,
    ⟨[], x.toNat, rfl, by omega, by simp, OwnK.nil _ _, New.none _, by rw [List.length_nil, adv_rep0]; exact h1, Got.rep0 _ _, f1⟩, ?_⟩
  rintro B _ d _ u ⟨l, j, rfl, rfl, hlj, hown, hnew, hu, qu, pu⟩
  have zu := pu.size
  have done : adv (repO r l.length) s1 = adv (repO r x.toNat) s1 → Got (repO r x.toNat) s1 l → ∃ (B' : Option Addr) (d' : Nat) (l' : List V), Value.slice B l.length d = .slice B' l'.length d' ∧ l'.length ≤ d' ∧ l'.length ≤ most ∧ Imm KV (Old w) u B' l' ∧
      Rdr b A c w0 u g (adv (someO most r) s) ∧ Got (someO most r) s l' ∧ Fr (At g) w u := fun he hq =>
    ⟨B, d, l, rfl, hown.le, by omega, own_old KV_pos hown hnew, by rw [hsm, ← he]; exact hu, qx.some (by rw [← hs1]; exact hq), pu⟩
  refine brd (fun hj => ?_) (fun hj => ?_)
  · obtain ⟨a, ha, bk, hst⟩ := hu.st
    refine ⟨_, rfl, _, bk.cell rfl, brnb (fun hf => ?_) (fun ht => ?_)⟩
    · refine ⟨fid, first, cap, rfl, hb, ?_⟩
      refine (hE u _ hu pu).mono ?_
      rintro _ u1 ⟨y, rfl, h1, q1, f1⟩
      have hrep : KV.rep (Old u) u1 y [.int .u8 y.k, .int .i64 y.n, .string y.s] := rfl
      refine ⟨_, _, _, rfl, fun g3 u2 f3 => ?_⟩
      obtain ⟨rfl, rfl⟩ := f3
      have hown1 := own_fr hgw hown hnew f1
      obtain ⟨B', d', u3, hrun, hown3, hgr⟩ := OwnK.push (K := Kd.out (Old w) KV) slE_api_Value (ty := 23) hown1 (rep_old zu hown hrep) (by
        intro v hv
        simp only [List.mem_cons, List.not_mem_nil, or_false] at hv
        rcases hv with rfl | rfl | rfl <;> rfl) (e' := 54) (by simp only [maxLen]; omega) (by omega)
      refine ⟨_, _, _, _, hrun, ?_⟩
      rw [wi ((j : Int) - 1) (by omega) (by omega)]
      have z1 := f1.size
      have hnew' : New w B' := fun k hk => (hgr.sub k hk).elim (fun h => hnew k h) (fun h => by have h : u1.heap.size ≤ k := h; omega)
      refine ⟨⟨l ++ [y], j - 1, rfl, by omega, by rw [List.length_append, List.length_singleton]; omega, hown3, hnew', ?_, ?_, ?_⟩, by dsimp only; omega⟩
      · rw [List.length_append, List.length_singleton, adv_rep]
        exact h1.fr hgr.fr (fun hk => by have := hnew g hk; omega) (fun k hk hB => by have := hnew k hB; omega)
      · rw [List.length_append, List.length_singleton]; exact qu.rep q1
      · exact (pu.trans f1 (fun _ _ h => h) (fun _ _ h => h)).trans hgr.fr (fun _ _ h => h) (fun k hk hB => by have := hnew k hB; omega)
    · have hn : adv (repO r l.length) s1 = none := by cases hq : adv (repO r l.length) s1 with | none => rfl | some z => rw [hq] at ht; cases ht
      have hn' : adv (repO r x.toNat) s1 = none := by rw [← hlj]; exact adv_rep_none hn j
      exact done (by rw [hn, hn']) (Got.bad hn')
  · have hj0 : l.length = x.toNat := by omega
    exact done (by rw [hj0]) (by rw [← hj0]; exact qu)
theorem slE_api_Cur : SlT Tryz.prog 24 56 3 24 [.string ByteArray.empty, .bool false, .bool false] := ⟨by kernel_rfl, ⟨Tryz.t56, by kernel_rfl, by kernel_rfl, by kernel_rfl, .agg #[.string ByteArray.empty, .bool false, .bool false], by kernel_rfl, by kernel_rfl⟩, rfl, by decide⟩
theorem some_api_Cur_spec (h : Rdr b A c w0 w g s) (most : Nat) (hm : most ≤ 5000) {r : Rd Cur} {fid : Nat} {first cap : Array Value} (hb : bodied Tryz.prog fid = true)
    (hE : ∀ u s, Rdr b A c w0 u g s → Fr (At g) w u → CallsV Tryz.prog fid (first.toList ++ ([] ++ cap.toList)).toArray u fun v u' => ∃ x : Cur, v = .agg #[.string x.name, .bool x.ix, .bool x.wr] ∧ Rdr b A c w0 u' g (adv r s) ∧ Got r s x ∧ Fr (At g) u u') :
    CallsV Tryz.prog 36 #[.pointer (some ⟨g, 0, none⟩), .int .i64 most, .func (.func fid) first cap] w fun v w' => ∃ (B : Option Addr) (d : Nat) (l : List Cur), v = .slice B l.length d ∧ l.length ≤ d ∧ l.length ≤ most ∧ Imm KCur (Old w) w' B l ∧
      Rdr b A c w0 w' g (adv (someO most r) s) ∧ Got (someO most r) s l ∧ Fr (At g) w w' := by
  refine code_some_api_Cur.calls okay ?_
  unfold code_some_api_Cur.W
  have hgw := h.lt
  have h0w := h.ext.size
  refine (rnum_spec h most (by omega)).mono ?_
  rintro _ w1 ⟨x, rfl, h1, qx, hx, f1⟩
  refine ⟨_, rfl, ?_⟩
  obtain ⟨s1, hs1⟩ : ∃ s1, s1 = adv (numO most) s := ⟨_, rfl⟩
  have hsm := adv_some (r := r) qx
  rw [← hs1] at h1 hsm
  refine ⟨fun B n d k u => ∃ (l : List Cur) (j : Nat), n = l.length ∧ k = (j : Int) ∧ l.length + j = x.toNat ∧ OwnK (Kd.out (Old w) KCur) u B d l ∧ New w B ∧ Rdr b A c w0 u g (adv (repO r l.length) s1) ∧ Got (repO r l.length) s1 l ∧ Fr (At g) w u, fun _ _ _ k _ => k.toNat,
    ⟨[], x.toNat, rfl, by omega, by simp, OwnK.nil _ _, New.none _, by rw [List.length_nil, adv_rep0]; exact h1, Got.rep0 _ _, f1⟩, ?_⟩
  rintro B _ d _ u ⟨l, j, rfl, rfl, hlj, hown, hnew, hu, qu, pu⟩
  have zu := pu.size
  have done : adv (repO r l.length) s1 = adv (repO r x.toNat) s1 → Got (repO r x.toNat) s1 l → ∃ (B' : Option Addr) (d' : Nat) (l' : List Cur), Value.slice B l.length d = .slice B' l'.length d' ∧ l'.length ≤ d' ∧ l'.length ≤ most ∧ Imm KCur (Old w) u B' l' ∧
      Rdr b A c w0 u g (adv (someO most r) s) ∧ Got (someO most r) s l' ∧ Fr (At g) w u := fun he hq =>
    ⟨B, d, l, rfl, hown.le, by omega, own_old KCur_pos hown hnew, by rw [hsm, ← he]; exact hu, qx.some (by rw [← hs1]; exact hq), pu⟩
  refine brd (fun hj => ?_) (fun hj => ?_)
  · obtain ⟨a, ha, bk, hst⟩ := hu.st
    refine ⟨_, rfl, _, bk.cell rfl, brnb (fun hf => ?_) (fun ht => ?_)⟩
    · refine ⟨fid, first, cap, rfl, hb, ?_⟩
      refine (hE u _ hu pu).mono ?_
      rintro _ u1 ⟨y, rfl, h1, q1, f1⟩
      have hrep : KCur.rep (Old u) u1 y [.string y.name, .bool y.ix, .bool y.wr] := rfl
      refine ⟨_, _, _, rfl, fun g3 u2 f3 => ?_⟩
      obtain ⟨rfl, rfl⟩ := f3
      have hown1 := own_fr hgw hown hnew f1
      obtain ⟨B', d', u3, hrun, hown3, hgr⟩ := OwnK.push (K := Kd.out (Old w) KCur) slE_api_Cur (ty := 24) hown1 (rep_old zu hown hrep) (by
        intro v hv
        simp only [List.mem_cons, List.not_mem_nil, or_false] at hv
        rcases hv with rfl | rfl | rfl <;> rfl) (e' := 56) (by simp only [maxLen]; omega) (by omega)
      refine ⟨_, _, _, _, hrun, ?_⟩
      rw [wi ((j : Int) - 1) (by omega) (by omega)]
      have z1 := f1.size
      have hnew' : New w B' := fun k hk => (hgr.sub k hk).elim (fun h => hnew k h) (fun h => by have h : u1.heap.size ≤ k := h; omega)
      refine ⟨⟨l ++ [y], j - 1, rfl, by omega, by rw [List.length_append, List.length_singleton]; omega, hown3, hnew', ?_, ?_, ?_⟩, by dsimp only; omega⟩
      · rw [List.length_append, List.length_singleton, adv_rep]
        exact h1.fr hgr.fr (fun hk => by have := hnew g hk; omega) (fun k hk hB => by have := hnew k hB; omega)
      · rw [List.length_append, List.length_singleton]; exact qu.rep q1
      · exact (pu.trans f1 (fun _ _ h => h) (fun _ _ h => h)).trans hgr.fr (fun _ _ h => h) (fun k hk hB => by have := hnew k hB; omega)
    · have hn : adv (repO r l.length) s1 = none := by cases hq : adv (repO r l.length) s1 with | none => rfl | some z => rw [hq] at ht; cases ht
      have hn' : adv (repO r x.toNat) s1 = none := by rw [← hlj]; exact adv_rep_none hn j
      exact done (by rw [hn, hn']) (Got.bad hn')
  · have hj0 : l.length = x.toNat := by omega
    exact done (by rw [hj0]) (by rw [← hj0]; exact qu)
theorem slE_api_Sort : SlT Tryz.prog 25 59 3 40 [.slice none 0 0, .int .i64 0, .bool false] := ⟨by kernel_rfl, ⟨Tryz.t59, by kernel_rfl, by kernel_rfl, by kernel_rfl, .agg #[.slice none 0 0, .int .i64 0, .bool false], by kernel_rfl, by kernel_rfl⟩, rfl, by decide⟩
theorem some_api_Sort_spec (h : Rdr b A c w0 w g s) (most : Nat) (hm : most ≤ 5000) {r : Rd Srt} {fid : Nat} {first cap : Array Value} (hb : bodied Tryz.prog fid = true)
    (hE : ∀ u s, Rdr b A c w0 u g s → Fr (At g) w u → CallsV Tryz.prog fid (first.toList ++ ([] ++ cap.toList)).toArray u fun v u' => ∃ (x : Srt) (B1 : Option Addr) (d1 : Nat), v = .agg #[.slice B1 x.desc.length d1, .int .i64 x.cols, .bool x.dist] ∧ x.desc.length ≤ d1 ∧ Imm Kd.bool (Old u) u' B1 x.desc ∧ Rdr b A c w0 u' g (adv r s) ∧ Got r s x ∧ Fr (At g) u u') :
    CallsV Tryz.prog 38 #[.pointer (some ⟨g, 0, none⟩), .int .i64 most, .func (.func fid) first cap] w fun v w' => ∃ (B : Option Addr) (d : Nat) (l : List Srt), v = .slice B l.length d ∧ l.length ≤ d ∧ l.length ≤ most ∧ Imm KSrt (Old w) w' B l ∧
      Rdr b A c w0 w' g (adv (someO most r) s) ∧ Got (someO most r) s l ∧ Fr (At g) w w' := by
  refine code_some_api_Sort.calls okay ?_
  unfold code_some_api_Sort.W
  have hgw := h.lt
  have h0w := h.ext.size
  refine (rnum_spec h most (by omega)).mono ?_
  rintro _ w1 ⟨x, rfl, h1, qx, hx, f1⟩
  refine ⟨_, rfl, ?_⟩
  obtain ⟨s1, hs1⟩ : ∃ s1, s1 = adv (numO most) s := ⟨_, rfl⟩
  have hsm := adv_some (r := r) qx
  rw [← hs1] at h1 hsm
  refine ⟨fun B n d k u => ∃ (l : List Srt) (j : Nat), n = l.length ∧ k = (j : Int) ∧ l.length + j = x.toNat ∧ OwnK (Kd.out (Old w) KSrt) u B d l ∧ New w B ∧ Rdr b A c w0 u g (adv (repO r l.length) s1) ∧ Got (repO r l.length) s1 l ∧ Fr (At g) w u, fun _ _ _ k _ => k.toNat,
    ⟨[], x.toNat, rfl, by omega, by simp, OwnK.nil _ _, New.none _, by rw [List.length_nil, adv_rep0]; exact h1, Got.rep0 _ _, f1⟩, ?_⟩
  rintro B _ d _ u ⟨l, j, rfl, rfl, hlj, hown, hnew, hu, qu, pu⟩
  have zu := pu.size
  have done : adv (repO r l.length) s1 = adv (repO r x.toNat) s1 → Got (repO r x.toNat) s1 l → ∃ (B' : Option Addr) (d' : Nat) (l' : List Srt), Value.slice B l.length d = .slice B' l'.length d' ∧ l'.length ≤ d' ∧ l'.length ≤ most ∧ Imm KSrt (Old w) u B' l' ∧
      Rdr b A c w0 u g (adv (someO most r) s) ∧ Got (someO most r) s l' ∧ Fr (At g) w u := fun he hq =>
    ⟨B, d, l, rfl, hown.le, by omega, own_old KSrt_pos hown hnew, by rw [hsm, ← he]; exact hu, qx.some (by rw [← hs1]; exact hq), pu⟩
  refine brd (fun hj => ?_) (fun hj => ?_)
  · obtain ⟨a, ha, bk, hst⟩ := hu.st
    refine ⟨_, rfl, _, bk.cell rfl, brnb (fun hf => ?_) (fun ht => ?_)⟩
    · refine ⟨fid, first, cap, rfl, hb, ?_⟩
      refine (hE u _ hu pu).mono ?_
      rintro _ u1 ⟨y, B1, d1, rfl, hd1, hi1, h1, q1, f1⟩
      have hrep : KSrt.rep (Old u) u1 y [.slice B1 y.desc.length d1, .int .i64 y.cols, .bool y.dist] := ⟨B1, d1, rfl, hd1, hi1⟩
      refine ⟨_, _, _, _, _, rfl, fun g3 u2 f3 => ?_⟩
      obtain ⟨rfl, rfl⟩ := f3
      have hown1 := own_fr hgw hown hnew f1
      obtain ⟨B', d', u3, hrun, hown3, hgr⟩ := OwnK.push (K := Kd.out (Old w) KSrt) slE_api_Sort (ty := 25) hown1 (rep_old zu hown hrep) (by
        intro v hv
        simp only [List.mem_cons, List.not_mem_nil, or_false] at hv
        rcases hv with rfl | rfl | rfl <;> rfl) (e' := 59) (by simp only [maxLen]; omega) (by omega)
      refine ⟨_, _, _, _, hrun, ?_⟩
      rw [wi ((j : Int) - 1) (by omega) (by omega)]
      have z1 := f1.size
      have hnew' : New w B' := fun k hk => (hgr.sub k hk).elim (fun h => hnew k h) (fun h => by have h : u1.heap.size ≤ k := h; omega)
      refine ⟨⟨l ++ [y], j - 1, rfl, by omega, by rw [List.length_append, List.length_singleton]; omega, hown3, hnew', ?_, ?_, ?_⟩, by dsimp only; omega⟩
      · rw [List.length_append, List.length_singleton, adv_rep]
        exact h1.fr hgr.fr (fun hk => by have := hnew g hk; omega) (fun k hk hB => by have := hnew k hB; omega)
      · rw [List.length_append, List.length_singleton]; exact qu.rep q1
      · exact (pu.trans f1 (fun _ _ h => h) (fun _ _ h => h)).trans hgr.fr (fun _ _ h => h) (fun k hk hB => by have := hnew k hB; omega)
    · have hn : adv (repO r l.length) s1 = none := by cases hq : adv (repO r l.length) s1 with | none => rfl | some z => rw [hq] at ht; cases ht
      have hn' : adv (repO r x.toNat) s1 = none := by rw [← hlj]; exact adv_rep_none hn j
      exact done (by rw [hn, hn']) (Got.bad hn')
  · have hj0 : l.length = x.toNat := by omega
    exact done (by rw [hj0]) (by rw [← hj0]; exact qu)
theorem slE_api_Acc : SlT Tryz.prog 26 61 2 24 [.string ByteArray.empty, .bool false] := ⟨by kernel_rfl, ⟨Tryz.t61, by kernel_rfl, by kernel_rfl, by kernel_rfl, .agg #[.string ByteArray.empty, .bool false], by kernel_rfl, by kernel_rfl⟩, rfl, by decide⟩
theorem some_api_Acc_spec (h : Rdr b A c w0 w g s) (most : Nat) (hm : most ≤ 5000) {r : Rd Tot} {fid : Nat} {first cap : Array Value} (hb : bodied Tryz.prog fid = true)
    (hE : ∀ u s, Rdr b A c w0 u g s → Fr (At g) w u → CallsV Tryz.prog fid (first.toList ++ ([] ++ cap.toList)).toArray u fun v u' => ∃ x : Tot, v = .agg #[.string x.fn, .bool x.dist] ∧ Rdr b A c w0 u' g (adv r s) ∧ Got r s x ∧ Fr (At g) u u') :
    CallsV Tryz.prog 40 #[.pointer (some ⟨g, 0, none⟩), .int .i64 most, .func (.func fid) first cap] w fun v w' => ∃ (B : Option Addr) (d : Nat) (l : List Tot), v = .slice B l.length d ∧ l.length ≤ d ∧ l.length ≤ most ∧ Imm KTot (Old w) w' B l ∧
      Rdr b A c w0 w' g (adv (someO most r) s) ∧ Got (someO most r) s l ∧ Fr (At g) w w' := by
  refine code_some_api_Acc.calls okay ?_
  unfold code_some_api_Acc.W
  have hgw := h.lt
  have h0w := h.ext.size
  refine (rnum_spec h most (by omega)).mono ?_
  rintro _ w1 ⟨x, rfl, h1, qx, hx, f1⟩
  refine ⟨_, rfl, ?_⟩
  obtain ⟨s1, hs1⟩ : ∃ s1, s1 = adv (numO most) s := ⟨_, rfl⟩
  have hsm := adv_some (r := r) qx
  rw [← hs1] at h1 hsm
  refine ⟨fun B n d k u => ∃ (l : List Tot) (j : Nat), n = l.length ∧ k = (j : Int) ∧ l.length + j = x.toNat ∧ OwnK (Kd.out (Old w) KTot) u B d l ∧ New w B ∧ Rdr b A c w0 u g (adv (repO r l.length) s1) ∧ Got (repO r l.length) s1 l ∧ Fr (At g) w u, fun _ _ _ k _ => k.toNat,
    ⟨[], x.toNat, rfl, by omega, by simp, OwnK.nil _ _, New.none _, by rw [List.length_nil, adv_rep0]; exact h1, Got.rep0 _ _, f1⟩, ?_⟩
  rintro B _ d _ u ⟨l, j, rfl, rfl, hlj, hown, hnew, hu, qu, pu⟩
  have zu := pu.size
  have done : adv (repO r l.length) s1 = adv (repO r x.toNat) s1 → Got (repO r x.toNat) s1 l → ∃ (B' : Option Addr) (d' : Nat) (l' : List Tot), Value.slice B l.length d = .slice B' l'.length d' ∧ l'.length ≤ d' ∧ l'.length ≤ most ∧ Imm KTot (Old w) u B' l' ∧
      Rdr b A c w0 u g (adv (someO most r) s) ∧ Got (someO most r) s l' ∧ Fr (At g) w u := fun he hq =>
    ⟨B, d, l, rfl, hown.le, by omega, own_old KTot_pos hown hnew, by rw [hsm, ← he]; exact hu, qx.some (by rw [← hs1]; exact hq), pu⟩
  refine brd (fun hj => ?_) (fun hj => ?_)
  · obtain ⟨a, ha, bk, hst⟩ := hu.st
    refine ⟨_, rfl, _, bk.cell rfl, brnb (fun hf => ?_) (fun ht => ?_)⟩
    · refine ⟨fid, first, cap, rfl, hb, ?_⟩
      refine (hE u _ hu pu).mono ?_
      rintro _ u1 ⟨y, rfl, h1, q1, f1⟩
      have hrep : KTot.rep (Old u) u1 y [.string y.fn, .bool y.dist] := rfl
      refine ⟨_, _, rfl, fun g3 u2 f3 => ?_⟩
      obtain ⟨rfl, rfl⟩ := f3
      have hown1 := own_fr hgw hown hnew f1
      obtain ⟨B', d', u3, hrun, hown3, hgr⟩ := OwnK.push (K := Kd.out (Old w) KTot) slE_api_Acc (ty := 26) hown1 (rep_old zu hown hrep) (by
        intro v hv
        simp only [List.mem_cons, List.not_mem_nil, or_false] at hv
        rcases hv with rfl | rfl <;> rfl) (e' := 61) (by simp only [maxLen]; omega) (by omega)
      refine ⟨_, _, _, _, hrun, ?_⟩
      rw [wi ((j : Int) - 1) (by omega) (by omega)]
      have z1 := f1.size
      have hnew' : New w B' := fun k hk => (hgr.sub k hk).elim (fun h => hnew k h) (fun h => by have h : u1.heap.size ≤ k := h; omega)
      refine ⟨⟨l ++ [y], j - 1, rfl, by omega, by rw [List.length_append, List.length_singleton]; omega, hown3, hnew', ?_, ?_, ?_⟩, by dsimp only; omega⟩
      · rw [List.length_append, List.length_singleton, adv_rep]
        exact h1.fr hgr.fr (fun hk => by have := hnew g hk; omega) (fun k hk hB => by have := hnew k hB; omega)
      · rw [List.length_append, List.length_singleton]; exact qu.rep q1
      · exact (pu.trans f1 (fun _ _ h => h) (fun _ _ h => h)).trans hgr.fr (fun _ _ h => h) (fun k hk hB => by have := hnew k hB; omega)
    · have hn : adv (repO r l.length) s1 = none := by cases hq : adv (repO r l.length) s1 with | none => rfl | some z => rw [hq] at ht; cases ht
      have hn' : adv (repO r x.toNat) s1 = none := by rw [← hlj]; exact adv_rep_none hn j
      exact done (by rw [hn, hn']) (Got.bad hn')
  · have hj0 : l.length = x.toNat := by omega
    exact done (by rw [hj0]) (by rw [← hj0]; exact qu)
theorem slE_api_Instr : SlT Tryz.prog 27 46 5 40 [.int .u8 0, .int .i64 0, .int .i64 0, .int .i64 0, .int .i64 0] := ⟨by kernel_rfl, ⟨Tryz.t46, by kernel_rfl, by kernel_rfl, by kernel_rfl, .agg #[.int .u8 0, .int .i64 0, .int .i64 0, .int .i64 0, .int .i64 0], by kernel_rfl, by kernel_rfl⟩, rfl, by decide⟩
theorem some_api_Instr_spec (h : Rdr b A c w0 w g s) (most : Nat) (hm : most ≤ 5000) {r : Rd Ins} {fid : Nat} {first cap : Array Value} (hb : bodied Tryz.prog fid = true)
    (hE : ∀ u s, Rdr b A c w0 u g s → Fr (At g) w u → CallsV Tryz.prog fid (first.toList ++ ([] ++ cap.toList)).toArray u fun v u' => ∃ x : Ins, v = .agg #[.int .u8 x.op, .int .i64 x.a, .int .i64 x.b, .int .i64 x.c, .int .i64 x.d] ∧ Rdr b A c w0 u' g (adv r s) ∧ Got r s x ∧ Fr (At g) u u') :
    CallsV Tryz.prog 42 #[.pointer (some ⟨g, 0, none⟩), .int .i64 most, .func (.func fid) first cap] w fun v w' => ∃ (B : Option Addr) (d : Nat) (l : List Ins), v = .slice B l.length d ∧ l.length ≤ d ∧ l.length ≤ most ∧ Imm KIns (Old w) w' B l ∧
      Rdr b A c w0 w' g (adv (someO most r) s) ∧ Got (someO most r) s l ∧ Fr (At g) w w' := by
  refine code_some_api_Instr.calls okay ?_
  unfold code_some_api_Instr.W
  have hgw := h.lt
  have h0w := h.ext.size
  refine (rnum_spec h most (by omega)).mono ?_
  rintro _ w1 ⟨x, rfl, h1, qx, hx, f1⟩
  refine ⟨_, rfl, ?_⟩
  obtain ⟨s1, hs1⟩ : ∃ s1, s1 = adv (numO most) s := ⟨_, rfl⟩
  have hsm := adv_some (r := r) qx
  rw [← hs1] at h1 hsm
  refine ⟨fun B n d k u => ∃ (l : List Ins) (j : Nat), n = l.length ∧ k = (j : Int) ∧ l.length + j = x.toNat ∧ OwnK (Kd.out (Old w) KIns) u B d l ∧ New w B ∧ Rdr b A c w0 u g (adv (repO r l.length) s1) ∧ Got (repO r l.length) s1 l ∧ Fr (At g) w u, fun _ _ _ k _ => k.toNat,
    ⟨[], x.toNat, rfl, by omega, by simp, OwnK.nil _ _, New.none _, by rw [List.length_nil, adv_rep0]; exact h1, Got.rep0 _ _, f1⟩, ?_⟩
  rintro B _ d _ u ⟨l, j, rfl, rfl, hlj, hown, hnew, hu, qu, pu⟩
  have zu := pu.size
  have done : adv (repO r l.length) s1 = adv (repO r x.toNat) s1 → Got (repO r x.toNat) s1 l → ∃ (B' : Option Addr) (d' : Nat) (l' : List Ins), Value.slice B l.length d = .slice B' l'.length d' ∧ l'.length ≤ d' ∧ l'.length ≤ most ∧ Imm KIns (Old w) u B' l' ∧
      Rdr b A c w0 u g (adv (someO most r) s) ∧ Got (someO most r) s l' ∧ Fr (At g) w u := fun he hq =>
    ⟨B, d, l, rfl, hown.le, by omega, own_old KIns_pos hown hnew, by rw [hsm, ← he]; exact hu, qx.some (by rw [← hs1]; exact hq), pu⟩
  refine brd (fun hj => ?_) (fun hj => ?_)
  · obtain ⟨a, ha, bk, hst⟩ := hu.st
    refine ⟨_, rfl, _, bk.cell rfl, brnb (fun hf => ?_) (fun ht => ?_)⟩
    · refine ⟨fid, first, cap, rfl, hb, ?_⟩
      refine (hE u _ hu pu).mono ?_
      rintro _ u1 ⟨y, rfl, h1, q1, f1⟩
      have hrep : KIns.rep (Old u) u1 y [.int .u8 y.op, .int .i64 y.a, .int .i64 y.b, .int .i64 y.c, .int .i64 y.d] := rfl
      refine ⟨_, _, _, _, _, rfl, fun g3 u2 f3 => ?_⟩
      obtain ⟨rfl, rfl⟩ := f3
      have hown1 := own_fr hgw hown hnew f1
      obtain ⟨B', d', u3, hrun, hown3, hgr⟩ := OwnK.push (K := Kd.out (Old w) KIns) slE_api_Instr (ty := 27) hown1 (rep_old zu hown hrep) (by
        intro v hv
        simp only [List.mem_cons, List.not_mem_nil, or_false] at hv
        rcases hv with rfl | rfl | rfl | rfl | rfl <;> rfl) (e' := 46) (by simp only [maxLen]; omega) (by omega)
      refine ⟨_, _, _, _, hrun, ?_⟩
      rw [wi ((j : Int) - 1) (by omega) (by omega)]
      have z1 := f1.size
      have hnew' : New w B' := fun k hk => (hgr.sub k hk).elim (fun h => hnew k h) (fun h => by have h : u1.heap.size ≤ k := h; omega)
      refine ⟨⟨l ++ [y], j - 1, rfl, by omega, by rw [List.length_append, List.length_singleton]; omega, hown3, hnew', ?_, ?_, ?_⟩, by dsimp only; omega⟩
      · rw [List.length_append, List.length_singleton, adv_rep]
        exact h1.fr hgr.fr (fun hk => by have := hnew g hk; omega) (fun k hk hB => by have := hnew k hB; omega)
      · rw [List.length_append, List.length_singleton]; exact qu.rep q1
      · exact (pu.trans f1 (fun _ _ h => h) (fun _ _ h => h)).trans hgr.fr (fun _ _ h => h) (fun k hk hB => by have := hnew k hB; omega)
    · have hn : adv (repO r l.length) s1 = none := by cases hq : adv (repO r l.length) s1 with | none => rfl | some z => rw [hq] at ht; cases ht
      have hn' : adv (repO r x.toNat) s1 = none := by rw [← hlj]; exact adv_rep_none hn j
      exact done (by rw [hn, hn']) (Got.bad hn')
  · have hj0 : l.length = x.toNat := by omega
    exact done (by rw [hj0]) (by rw [← hj0]; exact qu)
end
end Go.Proofs.YtaifphjenebgoaaGreatDoor
set_option linter.unusedVariables false
set_option linter.unusedSimpArgs false
namespace Go.Proofs.YtaifphjenebgoaaGreatDoor
open Go Go.Sx R1 K15
section
variable {b : List UInt8} {A : Option Addr} {c : Nat} {w0 w w' : World} {g : Nat} {s : Option (List UInt8)}
theorem rsrt_spec (h : Rdr b A c w0 w g s) :
    CallsV Tryz.prog 39 #[.pointer (some ⟨g, 0, none⟩)] w fun v w' => ∃ (x : Srt) (B1 : Option Addr) (d1 : Nat), v = .agg #[.slice B1 x.desc.length d1, .int .i64 x.cols, .bool x.dist] ∧ x.desc.length ≤ d1 ∧ Imm Kd.bool (Old w) w' B1 x.desc ∧
      Rdr b A c w0 w' g (adv srtO s) ∧ Got srtO s x ∧ Fr (At g) w w' := by
  refine code_reader_sorter.calls okay ?_
  unfold code_reader_sorter.W
  intro g1 w1 f1
  have hg1 := f1.ge
  have hgw := h.lt
  have gne : ¬ At g g1 := fun e => by have e : g1 = g := e; omega
  refine (some_bool_spec (h.ex f1.ext) 30 (by omega) (r := flagO) (fid := 72) (first := #[.pointer (some ⟨g, 0, none⟩)]) (cap := #[]) (by kernel_rfl) (fun u s hu fu => rflag_spec hu)).mono ?_
  rintro _ w2 ⟨B, d, l, rfl, hd, hl, hi, h2, q2, f2⟩
  refine ⟨_, _, _, rfl, ?_⟩
  intro g2 w3 f3
  have hg2 := f3.ge
  have z1 := f1.ext.size
  have z2 := f2.size
  have lt1 := f1.lt
  have gne2 : ¬ At g g2 := fun e => by have e : g2 = g := e; omega
  have g12 : g1 ≠ g2 := by omega
  have hi3 : Imm Kd.bool (fun k => k < w1.heap.size ∨ k = g2) w3 B l := hi.keep (by decide) ⟨f3.ext.size, fun k hk _ => f3.ext.block k hk (fun h => h), fun k hk hh => hh.elim (fun h => h) (fun e => by omega)⟩
  have p3 : Fr (At g) w w3 := ((f1.ext.fr.trans f2 (fun _ _ h => h) (fun _ _ h => h)).ext f3.ext.fr)
  have bk1 : Blk w3 g1 _ := (f1.blk.keep f2 gne).ext f3.ext
  refine ⟨f3.blk.stOK _ 0 (by simp), fun w4 hw4 => ?_⟩
  obtain ⟨b4, f4⟩ := set0 f3.blk hw4 rfl
  have h4 := h.new (by omega) f4 (h2.ex f3.ext)
  have p4 := Fr.new p3 (by omega) f4
  have bk1 := bk1.keep f4 (fun e => g12 e)
  have keepG : ∀ {u v : World}, Fr (At g) u v → Imm Kd.bool (fun k => k < w1.heap.size ∨ k = g2) u B l → Imm Kd.bool (fun k => k < w1.heap.size ∨ k = g2) v B l := fun f hi =>
    hi.keep (by decide) (f.step (fun k _ e => .inl (by have e : k = g := e; omega)) (fun _ _ h => h))
  have keep2 : ∀ {u v : World}, Fr (At g2) u v → Imm Kd.bool (fun k => k < w1.heap.size ∨ k = g2) u B l → Imm Kd.bool (fun k => k < w1.heap.size ∨ k = g2) v B l := fun f hi =>
    hi.keep (by decide) (f.step (fun k _ e => .inr e) (fun _ _ h => h))
  have keep1 : ∀ {u v : World}, Fr (At g1) u v → Imm Kd.bool (fun k => k < w1.heap.size ∨ k = g2) u B l → Imm Kd.bool (fun k => k < w1.heap.size ∨ k = g2) v B l := fun f hi =>
    hi.keep (by decide) (f.step (fun k _ e => .inl (by have e : k = g1 := e; omega)) (fun _ _ h => h))
  have hi4 := keep2 f4 hi3
  refine (rnum_spec h4 60 (by omega)).mono ?_
  rintro _ w5 ⟨x, rfl, h5, q5, hx, f5⟩
  have b5 := b4.keep f5 gne2
  have bk1 := bk1.keep f5 gne
  have hi5 := keepG f5 hi4
  refine ⟨_, rfl, cellOK b5 (by simp), fun w6 hw6 => ?_⟩
  obtain ⟨b6, f6⟩ := cellSet b5 hw6
  have p5 := p4.trans f5 (fun _ _ h => h) (fun _ _ h => h)
  have h6 := h.new (by omega) f6 h5
  have p6 := Fr.new p5 (by omega) f6
  have bk1 := bk1.keep f6 (fun e => g12 e)
  have hi6 := keep2 f6 hi5
  refine (rflag_spec h6).mono ?_
  rintro _ w7 ⟨y, rfl, h7, q7, f7⟩
  have b7 := b6.keep f7 gne2
  have bk1 := bk1.keep f7 gne
  have hi7 := keepG f7 hi6
  refine ⟨_, rfl, cellOK b7 (by simp), fun w8 hw8 => ?_⟩
  obtain ⟨b8, f8⟩ := cellSet b7 hw8
  have p7 := p6.trans f7 (fun _ _ h => h) (fun _ _ h => h)
  have h8 := h.new (by omega) f8 h7
  have p8 := Fr.new p7 (by omega) f8
  have bk1 := bk1.keep f8 (fun e => g12 e)
  have hi8 := keep2 f8 hi7
  refine ⟨_, _, _, b8.cell rfl, _, b8.cell rfl, _, b8.cell rfl, bk1.stOK _ 0 (by simp), fun w9 hw9 => ?_⟩
  obtain ⟨b9, f9⟩ := set0 bk1 hw9 rfl
  have hi9 := keep1 f9 hi8
  refine ⟨_, _, _, b9.cell rfl, _, b9.cell rfl, _, b9.cell rfl, ⟨l, x, y⟩, B, d, rfl, hd, ?_, ?_, ?_, Fr.new p8 hg1 f9⟩
  · exact hi9.keep (by decide) ⟨Nat.le_refl _, fun _ _ _ => rfl, fun k _ hk => .inl (by have hk : k < w.heap.size := hk; omega)⟩
  · unfold srtO
    rw [adv_map, adv_seq, adv_seq]
    exact h.new hg1 f9 h8
  · exact Got.map (fun z : List Bool × (Int × Bool) => (⟨z.1, z.2.1, z.2.2⟩ : Srt)) (q2.seq (Got.seq q5 q7))
end
end Go.Proofs.YtaifphjenebgoaaGreatDoor
set_option linter.unusedVariables false
set_option linter.unusedSimpArgs false
namespace Go.Proofs.YtaifphjenebgoaaGreatDoor
open Go Go.Sx R1 K15
def PZ : Prog := ⟨0, 0, 0, [], [], [], [], [], []⟩
def AZ : PAd := ⟨none, 0, none, 0, none, 0, none, 0, none, 0, none, 0⟩
theorem PIm.zero (w : World) : PIm w PZ AZ := ⟨Imm.nil _ _ _ _, Imm.nil _ _ _ _, Imm.nil _ _ _ _, Imm.nil _ _ _ _, Imm.nil _ _ _ _, Imm.nil _ _ _ _, Nat.zero_le _, Nat.zero_le _, Nat.zero_le _, Nat.zero_le _, Nat.zero_le _, Nat.zero_le _, Nat.zero_le _⟩
section
variable {b : List UInt8} {A : Option Addr} {c : Nat} {w w5 u v z : World} {g g1 g2 g3 : Nat} {s s' : Option (List UInt8)} {cs : List Value}
structure RSt (b : List UInt8) (A : Option Addr) (c : Nat) (w w5 u : World) (g g1 g2 g3 : Nat) (s : Option (List UInt8)) (cs : List Value) : Prop where
  rd : Rdr b A c w u g1 s
  b0 : Blk u g (pcs PZ AZ)
  b2 : Blk u g2 [.pointer (some ⟨g1, 0, none⟩)]
  b3 : Blk u g3 cs
  le : w5.heap.size ≤ u.heap.size
  o0 : w.heap.size ≤ g
  o1 : g < g1
  o2 : g1 < g2
  o3 : g2 < g3
  o4 : g3 < w5.heap.size
theorem RSt.ok (h : RSt b A c w w5 u g g1 g2 g3 s cs) (f : Fr (At g1) u v) {k : Nat} (hk : k < cs.length) (x : Value) : stOK ((⟨g3, 0, none⟩ : Addr).add k) 0 [x] v := by
  have o2 := h.o2
  have o3 := h.o3
  exact cellOK (h.b3.keep f (fun e => by have e : g3 = g1 := e; omega)) hk
theorem RSt.next (h : RSt b A c w w5 u g g1 g2 g3 s cs) (f : Fr (At g1) u v) (rd : Rdr b A c w v g1 s') {k : Nat} {x : Value} (hz : z = setAll ((⟨g3, 0, none⟩ : Addr).add k) 0 [x] v) :
    RSt b A c w w5 z g g1 g2 g3 s' (cs.set k x) ∧ Fr (Old w5) u z := by
  have o0 := h.o0
  have o1 := h.o1
  have o2 := h.o2
  have o3 := h.o3
  have o4 := h.o4
  have hb := h.b3.keep f (fun e => by have e : g3 = g1 := e; omega)
  obtain ⟨b3, q⟩ := cellSet hb hz
  have n1 : ∀ {k : Nat}, k < g3 → ¬ At g3 k := fun hk e => by have e : _ = g3 := e; omega
  have n2 : ∀ {k : Nat}, k ≠ g1 → ¬ At g1 k := fun hk e => hk e
  have g3l : (Fr (At g3)) v z := q
  refine ⟨⟨rd.fr q (n1 (by omega)) (fun k hk => n1 (by omega)), (h.b0.keep f (n2 (by omega))).keep q (n1 (by omega)), (h.b2.keep f (n2 (by omega))).keep q (n1 o3), b3, Nat.le_trans h.le (Nat.le_trans f.size q.size), o0, o1, o2, o3, o4⟩, ?_⟩
  exact f.trans q (fun k _ e => by have e : k = g1 := e; show k < w5.heap.size; omega) (fun k _ e => by have e : k = g3 := e; show k < w5.heap.size; omega)
theorem imm_old {α : Type} {K : Kd α} (hz : 0 < K.size) (h : w5.heap.size ≤ u.heap.size) {B : Option Addr} {l : List α} (hi : Imm K (Old u) v B l) : Imm K (Old w5) v B l :=
  hi.keep hz ⟨Nat.le_refl _, fun _ _ _ => rfl, fun k _ hk => Nat.lt_of_lt_of_le hk h⟩
theorem imm_fr {α : Type} {K : Kd α} (hz : 0 < K.size) {B : Option Addr} {l : List α} (hi : Imm K (Old w5) u B l) (f : Fr (Old w5) u v) : Imm K (Old w5) v B l :=
  hi.keep hz (f.step (fun _ _ h => h) (fun _ _ h => h))
theorem imm_no {α : Type} {K : Kd α} (hz : 0 < K.size) {B : Option Addr} {l : List α} (hi : Imm K (Old w5) u B l) : Imm K NoB u B l :=
  hi.keep hz ⟨Nat.le_refl _, fun _ _ _ => rfl, fun _ _ h => h.elim⟩
set_option maxRecDepth 20000 in
set_option maxHeartbeats 4000000 in
theorem Read_spec (hb : Imm KB NoB w A b) (hc : b.length ≤ c) (hl : b.length ≤ 140737488355328) (hT : Tab w) :
    CallsV Tryz.prog 9 #[.slice A b.length c] w fun v w' => ∃ (q : Prog) (a : PAd) (e : Int), v = .tuple #[pagg q a, .int .i64 e] ∧ PIm w' q a ∧ Ext w w' ∧ ((readO gV b = some q ∧ e = 0) ∨ (readO gV b = none ∧ q = PZ ∧ e = 140)) := by
  refine code_Read.calls okay ?_
  unfold code_Read.W
  intro g w1 f0 g1 w2 f1 g2 w3 f2
  have y0 := f0.ge
  have y1 := f1.ge
  have y2 := f2.ge
  have l0 := f0.lt
  have l1 := f1.lt
  have l2 := f2.lt
  refine ⟨f2.blk.stOK _ 0 (by simp), fun w4 hw4 => ?_⟩
  obtain ⟨b2, q2⟩ := set0 f2.blk hw4 rfl
  intro g3 w5 f3
  have y3 := f3.ge
  have l3 := f3.lt
  have z4 := q2.size
  have n2 : ∀ {k : Nat}, k < g2 → ¬ At g2 k := fun hk e => by have e : _ = g2 := e; omega
  have e3 : Ext w w3 := (f0.ext.trans' f1.ext).trans' f2.ext
  have e4 : Ext w w4 := e3.trans q2 (fun _ _ h => h) (fun k hk e => by have e : k = g2 := e; omega)
  have st : RSt b A c w w5 w5 g g1 g2 g3 (some b) (pcs PZ AZ) :=
    ⟨⟨hb, hc, hl, by omega, e4.trans' f3.ext, 0, Nat.zero_le _, ((f1.blk.ext f2.ext).keep q2 (n2 (by omega))).ext f3.ext, fun r hr => by cases hr; rfl⟩,
      (((f0.blk.ext f1.ext).ext f2.ext).keep q2 (n2 (by omega))).ext f3.ext, b2.ext f3.ext, f3.blk, Nat.le_refl _, by omega, by omega, by omega, by omega, l3⟩
  clear q2 b2 f0 f1 f2 f3 hw4
  have zz := st.le
  refine ⟨_, st.b2.cell0 rfl, ?_⟩
  refine (rnum_spec st.rd 1099511627776 (by omega)).mono ?_
  rintro _ v1 ⟨x1, rfl, d1, k1, r1, h1⟩
  refine ⟨_, rfl, st.ok h1 (by simp) _, fun u1 hu => ?_⟩
  obtain ⟨st, F1⟩ := st.next h1 d1 hu
  refine ⟨_, st.b2.cell0 rfl, ?_⟩
  refine (rnum_spec st.rd 250 (by omega)).mono ?_
  rintro _ v2 ⟨x2, rfl, d2, k2, r2, h2⟩
  refine ⟨_, rfl, st.ok h2 (by simp) _, fun u2 hu => ?_⟩
  obtain ⟨st, F2⟩ := st.next h2 d2 hu
  refine ⟨_, st.b2.cell0 rfl, ?_⟩
  refine (rnum_spec st.rd 1000 (by omega)).mono ?_
  rintro _ v3 ⟨x3, rfl, d3, k3, r3, h3⟩
  refine ⟨_, rfl, st.ok h3 (by simp) _, fun u3 hu => ?_⟩
  obtain ⟨st, F3⟩ := st.next h3 d3 hu
  clear F1 F2 F3
  have ne21 : ¬ At g1 g2 := fun e => by have e : g2 = g1 := e; have := st.o2; omega
  refine ⟨_, st.b2.cell0 rfl, ?_⟩
  refine (some_string_spec st.rd 200 (by omega) (r := textO 200) (fid := 32) (first := #[]) (cap := #[.pointer (some ⟨g2, 0, none⟩)]) (by kernel_rfl) (fun u s hu fu => rtextf_spec hu (st.b2.keep fu ne21))).mono ?_
  rintro _ v4 ⟨B4, c4, m4, rfl, hc4, hm4, i4, d4, k4, h4⟩
  have i4 := imm_old KStr_pos st.le i4
  refine ⟨_, _, _, rfl, st.ok h4 (by simp) _, fun u4 hu => ?_⟩
  have f4 := (cellSet (st.b3.keep h4 (fun e => by have e : g3 = g1 := e; have := st.o2; have := st.o3; omega)) hu).2
  have o4 := st.o4
  have o3 := st.o3
  have set3 : ∀ {u v : World}, Fr (fun k => k = g3) u v → Fr (Old w5) u v := fun f => f.mono (fun k _ e => by show k < w5.heap.size; omega)
  have i4 := imm_fr KStr_pos i4 (set3 f4)
  obtain ⟨st, F4⟩ := st.next h4 d4 hu
  refine ⟨_, st.b2.cell0 rfl, _, st.b2.cell0 rfl, ?_⟩
  refine (some_api_Value_spec st.rd 1000 (by omega) (r := K15.constO gV) (fid := 35) (first := #[.pointer (some ⟨g1, 0, none⟩)]) (cap := #[]) (by kernel_rfl) (fun u s hu fu => rconst_spec hu)).mono ?_
  rintro _ v5 ⟨B5, c5, m5, rfl, hc5, hm5, i5, d5, k5, h5⟩
  have i5 := imm_old KV_pos st.le i5
  refine ⟨_, _, _, rfl, st.ok h5 (by simp) _, fun u5 hu => ?_⟩
  have i5 := imm_fr KV_pos i5 (set3 (cellSet (st.b3.keep h5 (fun e => by have e : g3 = g1 := e; have := st.o2; omega)) hu).2)
  obtain ⟨st, F5⟩ := st.next h5 d5 hu
  have i4 := imm_fr KStr_pos i4 F5
  refine ⟨_, st.b2.cell0 rfl, _, st.b2.cell0 rfl, ?_⟩
  refine (some_api_Cur_spec st.rd 12 (by omega) (r := curO) (fid := 37) (first := #[.pointer (some ⟨g1, 0, none⟩)]) (cap := #[]) (by kernel_rfl) (fun u s hu fu => rcur_spec hu)).mono ?_
  rintro _ v6 ⟨B6, c6, m6, rfl, hc6, hm6, i6, d6, k6, h6⟩
  have i6 := imm_old KCur_pos st.le i6
  refine ⟨_, _, _, rfl, st.ok h6 (by simp) _, fun u6 hu => ?_⟩
  have i6 := imm_fr KCur_pos i6 (set3 (cellSet (st.b3.keep h6 (fun e => by have e : g3 = g1 := e; have := st.o2; omega)) hu).2)
  obtain ⟨st, F6⟩ := st.next h6 d6 hu
  have i4 := imm_fr KStr_pos i4 F6
  have i5 := imm_fr KV_pos i5 F6
  refine ⟨_, st.b2.cell0 rfl, _, st.b2.cell0 rfl, ?_⟩
  refine (some_api_Sort_spec st.rd 6 (by omega) (r := srtO) (fid := 39) (first := #[.pointer (some ⟨g1, 0, none⟩)]) (cap := #[]) (by kernel_rfl) (fun u s hu fu => rsrt_spec hu)).mono ?_
  rintro _ v7 ⟨B7, c7, m7, rfl, hc7, hm7, i7, d7, k7, h7⟩
  have i7 := imm_old KSrt_pos st.le i7
  refine ⟨_, _, _, rfl, st.ok h7 (by simp) _, fun u7 hu => ?_⟩
  have i7 := imm_fr KSrt_pos i7 (set3 (cellSet (st.b3.keep h7 (fun e => by have e : g3 = g1 := e; have := st.o2; omega)) hu).2)
  obtain ⟨st, F7⟩ := st.next h7 d7 hu
  have i4 := imm_fr KStr_pos i4 F7
  have i5 := imm_fr KV_pos i5 F7
  have i6 := imm_fr KCur_pos i6 F7
  refine ⟨_, st.b2.cell0 rfl, _, st.b2.cell0 rfl, ?_⟩
  refine (some_api_Acc_spec st.rd 60 (by omega) (r := totO) (fid := 41) (first := #[.pointer (some ⟨g1, 0, none⟩)]) (cap := #[]) (by kernel_rfl) (fun u s hu fu => rtot_spec hu)).mono ?_
  rintro _ v8 ⟨B8, c8, m8, rfl, hc8, hm8, i8, d8, k8, h8⟩
  have i8 := imm_old KTot_pos st.le i8
  refine ⟨_, _, _, rfl, st.ok h8 (by simp) _, fun u8 hu => ?_⟩
  have i8 := imm_fr KTot_pos i8 (set3 (cellSet (st.b3.keep h8 (fun e => by have e : g3 = g1 := e; have := st.o2; omega)) hu).2)
  obtain ⟨st, F8⟩ := st.next h8 d8 hu
  have i4 := imm_fr KStr_pos i4 F8
  have i5 := imm_fr KV_pos i5 F8
  have i6 := imm_fr KCur_pos i6 F8
  have i7 := imm_fr KSrt_pos i7 F8
  refine ⟨_, st.b2.cell0 rfl, _, st.b2.cell0 rfl, ?_⟩
  refine (some_api_Instr_spec st.rd 4000 (by omega) (r := insO) (fid := 43) (first := #[.pointer (some ⟨g1, 0, none⟩)]) (cap := #[]) (by kernel_rfl) (fun u s hu fu => rins_spec hu)).mono ?_
  rintro _ v9 ⟨B9, c9, m9, rfl, hc9, hm9, i9, d9, k9, h9⟩
  have i9 := imm_old KIns_pos st.le i9
  refine ⟨_, _, _, rfl, st.ok h9 (by simp) _, fun u9 hu => ?_⟩
  have i9 := imm_fr KIns_pos i9 (set3 (cellSet (st.b3.keep h9 (fun e => by have e : g3 = g1 := e; have := st.o2; omega)) hu).2)
  obtain ⟨st, F9⟩ := st.next h9 d9 hu
  have i4 := imm_fr KStr_pos i4 F9
  have i5 := imm_fr KV_pos i5 F9
  have i6 := imm_fr KCur_pos i6 F9
  have i7 := imm_fr KSrt_pos i7 F9
  have i8 := imm_fr KTot_pos i8 F9
  clear F4 F5 F6 F7 F8 F9 h1 h2 h3 h4 h5 h6 h7 h8 h9
  -- what was read, as one
  have got : Got (progO gV) (some b) ⟨x1, x2, x3, m4, m5, m6, m7, m8, m9⟩ := Got.map ofT (x := (x1, (x2, (x3, (m4, (m5, (m6, (m7, (m8, m9))))))))) (Got.seq k1 (Got.seq k2 (Got.seq k3 (Got.seq k4 (Got.seq k5 (Got.seq k6 (Got.seq k7 (Got.seq k8 k9))))))))
  have hs : adv (progO gV) (some b) = adv (someO 4000 insO) (adv (someO 60 totO) (adv (someO 6 srtO) (adv (someO 12 curO) (adv (someO 1000 (K15.constO gV)) (adv (someO 200 (textO 200)) (adv (numO 1000) (adv (numO 250) (adv (numO bigM) (some b))))))))) := by
    unfold progO
    rw [adv_map, adv_seq, adv_seq, adv_seq, adv_seq, adv_seq, adv_seq, adv_seq, adv_seq]
  have hs' := hs.symm
  have rd := st.rd
  have b0 := st.b0
  have b2 := st.b2
  have b3 := st.b3
  have w0g := st.o0
  change Rdr b A c w u9 g1 (adv (someO 4000 insO) (adv (someO 60 totO) (adv (someO 6 srtO) (adv (someO 12 curO) (adv (someO 1000 (K15.constO gV)) (adv (someO 200 (textO 200)) (adv (numO 1000) (adv (numO 250) (adv (numO bigM) (some b)))))))))) at rd
  rw [hs'] at rd
  have b3 : Blk u9 g3 (pcs ⟨x1, x2, x3, m4, m5, m6, m7, m8, m9⟩ ⟨B4, c4, B5, c5, B6, c6, B7, c7, B8, c8, B9, c9⟩) := b3
  have hp : ∀ z, Fr (Old w5) u9 z → PIm z ⟨x1, x2, x3, m4, m5, m6, m7, m8, m9⟩ ⟨B4, c4, B5, c5, B6, c6, B7, c7, B8, c8, B9, c9⟩ := fun z f => ⟨imm_no KStr_pos (imm_fr KStr_pos i4 f), imm_no KV_pos (imm_fr KV_pos i5 f), imm_no KCur_pos (imm_fr KCur_pos i6 f), imm_no KSrt_pos (imm_fr KSrt_pos i7 f), imm_no KTot_pos (imm_fr KTot_pos i8 f), imm_no KIns_pos (imm_fr KIns_pos i9 f),
    by simp only [maxLen]; omega, by simp only [maxLen]; omega, by simp only [maxLen]; omega, by simp only [maxLen]; omega, by simp only [maxLen]; omega, by simp only [maxLen]; omega, hc9⟩
  generalize (⟨x1, x2, x3, m4, m5, m6, m7, m8, m9⟩ : Prog) = p at *
  generalize (⟨B4, c4, B5, c5, B6, c6, B7, c7, B8, c8, B9, c9⟩ : PAd) = a at *
  clear st i4 i5 i6 i7 i8 i9 k1 k2 k3 k4 k5 k6 k7 k8 k9 d1 d2 d3 d4 d5 d6 d7 d8 d9 hs hs'
  have hd : g ≠ g3 := by omega
  have none_ : ∀ (u : World) (e : Ext w u) (bz : Blk u g (pcs PZ AZ)), readO gV b = none → stOK ⟨g, 0, none⟩ 0 (pcs PZ AZ) u ∧ ∀ z, z = setAll ⟨g, 0, none⟩ 0 (pcs PZ AZ) u → Blk z g (pcs PZ AZ) ∧
      ∃ (q : Prog) (a : PAd) (e : Int), Value.tuple #[pagg PZ AZ, .int .i64 140] = .tuple #[pagg q a, .int .i64 e] ∧ PIm z q a ∧ Ext w z ∧ ((readO gV b = some q ∧ e = 0) ∨ (readO gV b = none ∧ q = PZ ∧ e = 140)) := fun u e bz hn => by
    refine ⟨bz.stOK _ 0 (by simp), fun z hz => ?_⟩
    obtain ⟨b1, f1⟩ := set0 bz hz rfl
    exact ⟨b1, PZ, AZ, 140, rfl, PIm.zero z, e.trans f1 (fun _ _ h => h) (fun k hk e => by have e : k = g := e; omega), .inr ⟨hn, rfl, rfl⟩⟩
  obtain ⟨at_, hat, bk, hrest⟩ := rd.st
  have ew := rd.ext
  refine ⟨_, b2.cell0 rfl, _, rfl, _, bk.cell rfl, br (fun hbad => ?_) (fun hbad => ?_)⟩
  · have hn : readO gV b = none := by
      unfold readO
      cases hq : progO gV b with
      | none => rfl
      | some y => rw [adv_ok (x := y.1) (a := y.2) hq] at hbad; cases hbad
    obtain ⟨n1, n2⟩ := none_ u9 ew b0 hn
    refine ⟨n1, fun z hz => ?_⟩
    obtain ⟨b1, n3⟩ := n2 z hz
    repeat (first | refine ⟨_, Blk.cell (b1) (by rfl), ?_⟩ | refine ⟨_, _, _, Blk.cell (b1) (by rfl), ?_⟩)
    exact n3
  obtain ⟨y, hq⟩ : ∃ y, progO gV b = some y := by
    cases hq : progO gV b with
    | none => rw [adv_bad hq] at hbad; cases hbad
    | some y => exact ⟨y, rfl⟩
  have hrest := hrest y.2 (adv_ok (x := y.1) (a := y.2) hq)
  obtain rfl : p = y.1 := got y.1 y.2 hq
  have hre : readO gV b = if y.2 = [] ∧ b.length ≤ 1048576 ∧ checkP y.1 = true then some y.1 else none := by unfold readO; rw [hq]
  refine ⟨_, b2.cell0 rfl, _, rfl, _, bk.cell rfl, brn (fun hne => ?_) (fun heq => ?_)⟩
  · obtain ⟨n1, n2⟩ := none_ u9 ew b0 (by rw [hre, if_neg (fun h => hne (by
      have h := h.1
      rw [hrest] at h
      have := congrArg List.length h
      rw [List.length_drop] at this
      simp only [List.length_nil] at this
      omega))])
    refine ⟨n1, fun z hz => ?_⟩
    obtain ⟨b1, n3⟩ := n2 z hz
    repeat (first | refine ⟨_, Blk.cell (b1) (by rfl), ?_⟩ | refine ⟨_, _, _, Blk.cell (b1) (by rfl), ?_⟩)
    exact n3
  refine brd (fun hlong => ?_) (fun hlong => ?_)
  · obtain ⟨n1, n2⟩ := none_ u9 ew b0 (by rw [hre, if_neg (fun h => by have := h.2.1; omega)])
    refine ⟨n1, fun z hz => ?_⟩
    obtain ⟨b1, n3⟩ := n2 z hz
    repeat (first | refine ⟨_, Blk.cell (b1) (by rfl), ?_⟩ | refine ⟨_, _, _, Blk.cell (b1) (by rfl), ?_⟩)
    exact n3
  repeat (first | refine ⟨_, Blk.cell (b3) (by rfl), ?_⟩ | refine ⟨_, _, _, Blk.cell (b3) (by rfl), ?_⟩)
  refine (Check_spec (hp u9 (.refl _ _)) (hT.ext ew)).mono ?_
  rintro _ v ⟨rfl, k⟩
  have b0 := b0.ext k
  have b3 := b3.ext k
  have ev := ew.trans' k
  refine ⟨_, rfl, brn (fun hbad2 => ?_) (fun hok => ?_)⟩
  · obtain ⟨n1, n2⟩ := none_ v ev b0 (by rw [hre, if_neg (fun h => hbad2 (by rw [if_pos h.2.2]))])
    refine ⟨n1, fun z hz => ?_⟩
    obtain ⟨b1, n3⟩ := n2 z hz
    repeat (first | refine ⟨_, Blk.cell (b1) (by rfl), ?_⟩ | refine ⟨_, _, _, Blk.cell (b1) (by rfl), ?_⟩)
    exact n3
  have hck : checkP y.1 = true := by
    cases hh : checkP y.1 with
    | true => rfl
    | false => rw [hh] at hok; simp at hok
  repeat (first | refine ⟨_, Blk.cell (b3) (by rfl), ?_⟩ | refine ⟨_, _, _, Blk.cell (b3) (by rfl), ?_⟩)
  refine ⟨b0.stOK (pcs y.1 a) 0 (by simp), fun z hz => ?_⟩
  obtain ⟨b1, f1⟩ := set0 b0 hz (by simp)
  have ez := ev.trans f1 (fun _ _ h => h) (fun k hk e => by have e : k = g := e; omega)
  repeat (first | refine ⟨_, Blk.cell (b1) (by rfl), ?_⟩ | refine ⟨_, _, _, Blk.cell (b1) (by rfl), ?_⟩)
  refine ⟨y.1, a, 0, rfl, ?_, ez, .inl ⟨?_, rfl⟩⟩
  · exact hp z ((k.fr (S := Old w5)).trans f1 (fun _ _ h => h) (fun k _ e => by have e : k = g := e; show k < w5.heap.size; omega))
  · have h0 : y.2 = [] := by rw [hrest, show at_ = b.length by omega]; exact List.drop_length
    rw [hre, if_pos ⟨h0, by omega, hck⟩]
end
end Go.Proofs.YtaifphjenebgoaaGreatDoor
set_option linter.unusedVariables false
set_option linter.unusedSimpArgs false
namespace Go.Proofs.YtaifphjenebgoaaGreatDoor
open Go Go.Sx R1 K15
theorem constE_eq {v : V} (hr : right v = true) : constE v = B1.enc 1 ++ (B1.enc (sort v) ++ body v) := by
  have h0 : rightRow [v] = 0 := by simp [rightRow, hr]
  have hp : putL [v] = B1.enc 1 ++ (B1.enc (sort v) ++ body v) := by simp [putL]
  have hs := right_size hr
  have h1 := B1.enc_le_ten (m := 1) (by omega)
  have h2 := B1.enc_le_ten (m := sort v) (sort_lt v hs)
  have h3 := body_length v
  unfold constE putR
  rw [if_neg (by rw [h0]; decide), if_neg (by rw [hp]; simp only [List.length_append]; omega)]
  exact hp
theorem bytesR_ok {p : Prog} (h : (bytesR constE p).2 = 0) : checkP p = true ∧ (bytesR constE p).1 = bytesP constE p := by
  unfold bytesR at h ⊢
  split
  · next hc => rw [if_pos hc] at h; exact absurd h (by decide)
  · next hc =>
    rw [if_neg hc] at h
    split
    · next hb => rw [if_pos hb] at h; exact absurd h (by decide)
    · exact ⟨by simpa using hc, rfl⟩
end Go.Proofs.YtaifphjenebgoaaGreatDoor
set_option linter.unusedVariables false
set_option linter.unusedSimpArgs false
namespace Go.Proofs.YtaifphjenebgoaaGreatDoor
open Go Go.Sx R1 K15
theorem bytesE_P {p : Prog} (h : Lim (fun v => right v = true ∧ good v) p) : bytesP constE p = bytesP constP p := by
  have : p.consts.flatMap (fun v => K15.eB (constE v)) = p.consts.flatMap (fun v => K15.eB (constP v)) := by
    have e : ∀ l : List V, (∀ v ∈ l, right v = true ∧ good v) → l.flatMap (fun v => K15.eB (constE v)) = l.flatMap (fun v => K15.eB (constP v)) := fun l => by
      induction l with
      | nil => intro _; rfl
      | cons v l ih =>
        intro hl
        rw [List.flatMap_cons, List.flatMap_cons, ih (fun x hx => hl x (List.mem_cons_of_mem _ hx)), constE_eq (hl v List.mem_cons_self).1, constP_eq]
    exact e _ h.consts.2
  unfold bytesP K15.eL
  rw [this]
theorem wrote {p : Prog} (gp : gProg p) (h : (bytesR constE p).2 = 0) : Lim (fun v => right v = true ∧ good v) p ∧ checkP p = true ∧ (bytesR constE p).1 = bytesP constP p ∧ (bytesP constP p).length ≤ 1048576 ∧ 0 < (bytesP constP p).length := by
  obtain ⟨c1, l1⟩ := bytesR_ok h
  have lim := (checked c1).lim (fun i hi => (gp.code i hi).1) gp.consts
  have he := bytesE_P lim
  refine ⟨lim, c1, by rw [l1, he], ?_, ?_⟩
  · rw [← he]
    unfold bytesR at h
    rw [if_neg (by rw [c1]; decide)] at h
    by_cases hb : 1048576 < (bytesP constE p).length
    · rw [if_pos hb] at h; exact absurd h (by decide)
    · omega
  · unfold bytesP
    rw [List.length_append]
    have := B1.enc_length_pos p.ver.toNat
    unfold K15.eI
    omega
end Go.Proofs.YtaifphjenebgoaaGreatDoor
set_option linter.unusedVariables false
set_option linter.unusedSimpArgs false
namespace Go.Proofs.YtaifphjenebgoaaGreatDoor
open Go Go.Sx R1 K15
theorem Equal_spec {w : World} {A B : Option Addr} {c d : Nat} {l m : List UInt8} (hl : Imm KB NoB w A l) (hm : Imm KB NoB w B m) :
    CallsV Tryz.prog 13 #[.slice A l.length c, .slice B m.length d] w fun r w' => r = .bool (decide (l = m)) ∧ w' = w := by
  refine bytes_Equal.calls okay ?_
  unfold bytes_Equal.W
  exact ⟨_, _, to_str bt hl c, _, _, to_str bt hm d, by rw [eq_str], rfl⟩
theorem lim_g {p : Prog} (h : Lim (fun v => right v = true ∧ good v) p) : gProg p := by
  have big : (bigM : Int) = 1099511627776 := rfl
  have iN : ∀ {m : Nat} {n : Int}, m ≤ 9223372036854775807 → inN m n → isI n := fun hm hn => by unfold inN at hn; unfold isI; omega
  refine ⟨iN (by decide) h.ver, iN (by decide) h.regs, iN (by decide) h.binds, fun s hs => ?_, fun v hv => (h.consts.2 v hv).2, fun c hc => ?_, fun s hs => ?_, fun t ht => ?_, fun i hi => ?_⟩
  · have := h.names.2 s hs; simp only [maxLen]; omega
  · have := h.curs.2 c hc; unfold gCur; simp only [maxLen]; omega
  · have := h.sorts.2 s hs; exact ⟨by simp only [maxLen]; omega, iN (by decide) this.2⟩
  · have := h.tots.2 t ht; unfold gTot; simp only [maxLen]; omega
  · obtain ⟨h1, h2, h3, h4, h5⟩ := h.code.2 i hi
    exact ⟨by unfold inN at h1; omega, iN (by decide) h2, iN (by decide) h3, iN (by decide) h4, iN (by decide) h5⟩
theorem gPZ : gProg PZ := ⟨(show isI 0 from ⟨by decide, by decide⟩), (show isI 0 from ⟨by decide, by decide⟩), (show isI 0 from ⟨by decide, by decide⟩), (fun _ h => by cases h), (fun _ h => by cases h), (fun _ h => by cases h), (fun _ h => by cases h), (fun _ h => by cases h), (fun _ h => by cases h)⟩
theorem var_set {w w1 w2 w3 : World} {g : Nat} {p q : Prog} {a aq : PAd} {e : TypeId} (k : Ext w w1) (f : Fresh w1 g w2 (pcs q aq) e) (h : w3 = setAll ⟨g, 0, none⟩ 0 (pcs p a) w2) : Blk w3 g (pcs p a) ∧ Ext w1 w3 ∧ Ext w w3 := by
  obtain ⟨b, q⟩ := set0 f.blk h (by simp)
  have := f.ge
  have e1 : Ext w1 w3 := f.ext.trans q (fun _ _ h => h) (fun k hk e => by have e : k = g := e; omega)
  exact ⟨b, e1, k.trans' e1⟩
set_option maxRecDepth 20000 in
set_option maxHeartbeats 4000000 in
theorem CodeBack_holds {w : World} {p : Prog} {a : PAd} (hp : PIm w p a) (gp : gProg p) {B : Option Addr} {d : Nat} {b : List UInt8} (hB : Imm KB NoB w B b) (hd : b.length ≤ d) (hT : Tab w) :
    CallsV Tryz.prog 4 #[pagg p a, .slice B b.length d] w fun r w' => r = .bool true ∧ Ext w w' := by
  refine cardindexlaw15_CodeBack.calls okay ?_
  unfold cardindexlaw15_CodeBack.W
  intro g w1 f
  have bp : Blk w1 g (pcs p a) := f.blk
  have e1 := f.ext
  clear f
  have fin : ∀ u, Ext w u → CallsV Tryz.prog 7 #[] u fun v w' => ∃ x, v = .bool x ∧ (Value.bool x = .bool true ∧ Ext w w') := fun u e => by
    refine (awake_spec (hT.ext e)).mono ?_
    rintro _ u1 ⟨rfl, e1⟩
    exact ⟨_, rfl, rfl, e.trans' e1⟩
  repeat (first | refine ⟨_, Blk.cell (bp) (by rfl), ?_⟩ | refine ⟨_, _, _, Blk.cell (bp) (by rfl), ?_⟩)
  refine (Great_spec (hp.ext e1)).mono ?_
  rintro _ w2 ⟨gr, rfl, k2⟩
  have e2 := e1.trans' k2
  refine ⟨_, rfl, br (fun _ => fin w2 e2) (fun _ => brd (fun _ => fin w2 e2) (fun hsm => ?_))⟩
  have bp := bp.ext k2
  refine ⟨fun u => Ext w u, fun u eu => ?_, ?_⟩
  · refine (Read_spec (hB.ext KB_pos eu) hd (by omega) (hT.ext eu)).mono ?_
    rintro _ u1 ⟨q, aq, x, rfl, hq, k1, hr⟩
    have e1 := eu.trans' k1
    refine ⟨_, _, _, _, _, _, _, _, _, _, _, _, _, _, _, _, _, _, _, _, _, _, rfl, ?_⟩
    intro g2 u2 f2
    refine ⟨f2.blk.stOK (pcs q aq) 0 (by simp), fun u3 hu3 => ?_⟩
    obtain ⟨bq, k3, e3⟩ := var_set (q := PZ) (aq := AZ) e1 f2 hu3
    have hq3 := hq.ext k3
    rcases hr with ⟨hrd, rfl⟩ | ⟨hrd, rfl, rfl⟩
    · obtain ⟨hbe, hbl, hck, lim⟩ := read_canon fg hrd
      refine brn (fun h => absurd rfl h) (fun _ => ?_)
      repeat (first | refine ⟨_, Blk.cell (bq) (by rfl), ?_⟩ | refine ⟨_, _, _, Blk.cell (bq) (by rfl), ?_⟩)
      refine (Bytes_spec hq3 (hT.ext e3) (lim_g lim)).mono ?_
      rintro _ u4 ⟨C, c, rfl, hC, k4, _⟩
      have e4 := e3.trans' k4
      have hby : bytesR constE q = (b, 0) := by
        unfold bytesR
        rw [if_neg (by rw [hck]; decide), bytesE_P lim, ← hbe, if_neg (by omega)]
      rw [hby] at hC ⊢
      refine ⟨_, _, _, _, rfl, brd (fun _ => ?_) (fun h => absurd rfl h)⟩
      refine (Equal_spec (hC.imm (Ω := NoB) (fun _ _ h => h)) (hB.ext KB_pos e4)).mono ?_
      rintro _ _ ⟨rfl, rfl⟩
      refine ⟨_, rfl, brd (fun _ => ?_) (fun h => absurd rfl h)⟩
      have bq := bq.ext k4
      repeat (first | refine ⟨_, Blk.cell (bq) (by rfl), ?_⟩ | refine ⟨_, _, _, Blk.cell (bq) (by rfl), ?_⟩)
      refine (Check_spec (hq3.ext k4) (hT.ext e4)).mono ?_
      rintro _ u5 ⟨rfl, k5⟩
      refine ⟨_, rfl, brd (fun _ => fin u5 (e4.trans' k5)) (fun h => absurd ?_ h)⟩
      rw [hck]; rfl
    · refine brn (fun _ => brd (fun _ => ?_) (fun h => absurd rfl h)) (fun h => absurd h (by decide))
      repeat (first | refine ⟨_, Blk.cell (bq) (by rfl), ?_⟩ | refine ⟨_, _, _, Blk.cell (bq) (by rfl), ?_⟩)
      refine (Same_spec (q := PZ) (a' := AZ) hq3 (PIm.zero _) gPZ).mono ?_
      rintro _ u4 ⟨⟨x, rfl, hx⟩, k4⟩
      obtain rfl : x = true := hx.2 rfl
      exact ⟨_, rfl, fin u4 (e3.trans' k4)⟩
  repeat (first | refine ⟨_, Blk.cell (bp) (by rfl), ?_⟩ | refine ⟨_, _, _, Blk.cell (bp) (by rfl), ?_⟩)
  refine (Bytes_spec (hp.ext e2) (hT.ext e2) gp).mono ?_
  rintro _ w3 ⟨A, c, rfl, ho, k3, _⟩
  have e3 := e2.trans' k3
  have bp := bp.ext k3
  refine ⟨_, _, _, _, rfl, brd (fun h0 => ?_) (fun h0 => ?_)⟩
  · obtain ⟨lim, hc, hw, hlen, hpos⟩ := wrote gp h0
    rw [hw] at ho ⊢
    refine (Read_spec (ho.imm (Ω := NoB) (fun _ _ h => h)) ho.le (by omega) (hT.ext e3)).mono ?_
    rintro _ w4 ⟨q, aq, x, rfl, hq, k4, hr⟩
    have e4 := e3.trans' k4
    have hrb := read_back fg lim hc hlen
    rcases hr with ⟨hrd, rfl⟩ | ⟨hrd, _, _⟩
    · obtain rfl : p = q := Option.some.inj (hrb.symm.trans hrd)
      refine ⟨_, _, _, _, _, _, _, _, _, _, _, _, _, _, _, _, _, _, _, _, _, _, rfl, ?_⟩
      intro g5 w5 f5
      refine ⟨f5.blk.stOK (pcs p aq) 0 (by simp), fun w6 hw6 => ?_⟩
      obtain ⟨bq, k6, e6⟩ := var_set (q := PZ) (aq := AZ) e4 f5 hw6
      have bp := (bp.ext k4).ext k6
      refine brn (fun h => absurd rfl h) (fun _ => ?_)
      have hne : g ≠ g5 := by have := f5.ge; have := (bp : Blk w6 g _).lt; have h1 := k6.size; intro e; subst e; exact absurd (Nat.lt_of_lt_of_le ((‹Blk w3 g (pcs p a)›).ext k4).lt f5.ge) (Nat.lt_irrefl _)
      repeat (first | refine ⟨_, Blk.cell (bp) (by rfl), ?_⟩ | refine ⟨_, _, _, Blk.cell (bp) (by rfl), ?_⟩ | refine ⟨_, Blk.cell (bq) (by rfl), ?_⟩ | refine ⟨_, _, _, Blk.cell (bq) (by rfl), ?_⟩)
      refine (Same_spec (hp.ext e6) (hq.ext k6) gp).mono ?_
      rintro _ w7 ⟨⟨x, rfl, hx⟩, k7⟩
      obtain rfl : x = true := hx.2 rfl
      exact ⟨_, rfl, e6.trans' k7⟩
    · rw [hrb] at hrd; cases hrd
  · repeat (first | refine ⟨_, Blk.cell (bp) (by rfl), ?_⟩ | refine ⟨_, _, _, Blk.cell (bp) (by rfl), ?_⟩)
    refine (Check_spec (hp.ext e3) (hT.ext e3)).mono ?_
    rintro _ w4 ⟨rfl, k4⟩
    refine ⟨_, rfl, ?_⟩
    have hkey : decide ((bytesR constE p).2 = 140) = !decide ((if checkP p then (0 : Int) else 140) = 0) := by
      unfold bytesR at h0 ⊢
      cases hck : checkP p with
      | false => rw [if_pos rfl]; rfl
      | true =>
        rw [hck] at h0
        rw [if_neg (by decide)] at h0 ⊢
        by_cases hb : 1048576 < (bytesP constE p).length
        · rw [if_pos hb]; rfl
        · rw [if_neg hb] at h0; exact absurd rfl h0
    exact brn (fun h => absurd hkey h) (fun _ => e3.trans' k4)
end Go.Proofs.YtaifphjenebgoaaGreatDoor
