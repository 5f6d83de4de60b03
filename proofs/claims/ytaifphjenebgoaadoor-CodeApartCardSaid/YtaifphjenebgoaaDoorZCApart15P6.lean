/- Part 6 of the texts of this claim: the engine, contracts, plain laws. -/
import Derived.Test.YtaifphjenebgoaaDoorZCApart15P5
import Derived.Test.YtaifphjenebgoaaDoorZCApart15P3
/- Layer 15: a program as bytes: the call. -/
set_option linter.unusedVariables false
set_option linter.unusedSimpArgs false
namespace Go.Proofs.YtaifphjenebgoaaDoor
open Go Go.Sx R1 K15
theorem flat1 (n : Int) : [n].flatMap K15.eI = K15.eI n := by simp
theorem takeLe {α : Type} {f : α → List UInt8} (xs : List α) (m : Nat) : ((xs.take m).flatMap f).length ≤ (xs.flatMap f).length := by
  conv => rhs; rw [← List.take_append_drop m xs, List.flatMap_append, List.length_append]
  omega
abbrev curC (c : Cur) : List Value := [.string c.name, .bool c.ix, .bool c.wr]
abbrev totC (c : Tot) : List Value := [.string c.fn, .bool c.dist]
theorem WS.offNew {wb u : World} {g : Nat} {A : Option Addr} {c : Nat} {l : List UInt8} (h : WS wb u g A c l) : ∀ k, k < wb.heap.size → ¬ WO g A k := fun k hk hb => hb.elim (fun e => by have := h.ge; omega) (fun hA => absurd hk (Nat.not_lt.2 (h.new k hA)))
set_option maxRecDepth 20000 in
set_option maxHeartbeats 4000000 in
theorem Bytes_spec {w : World} {p : Prog} {a : PAd} (h : PIm w p a) (hT : Tab w) (gp : gProg p) :
    CallsV Tryd.prog 16 #[pagg p a] w fun r w' => ∃ A c, r = .tuple #[.slice A (bytesR constE p).1.length c, .int .i64 (bytesR constE p).2] ∧ OwnB w' A c (bytesR constE p).1 ∧ Ext w w' ∧ New w A := by
  refine code_Bytes.calls okay ?_
  unfold code_Bytes.W
  intro g w1 f
  repeat (first | refine ⟨_, Blk.cell (f.blk) (by rfl), ?_⟩ | refine ⟨_, _, _, Blk.cell (f.blk) (by rfl), ?_⟩)
  refine (Check_spec (h.ext f.ext) (hT.ext f.ext)).mono ?_
  rintro _ w2 ⟨rfl, k2⟩
  have e2 := f.ext.trans' k2
  have bp := f.blk.ext k2
  clear f
  cases hc : checkP p with
  | false =>
    have hR : bytesR constE p = ([], 140) := by unfold bytesR; rw [if_pos hc]
    rw [hR]
    exact ⟨_, rfl, brn (fun _ => ⟨none, 0, rfl, OwnB.nil _, e2, New.none _⟩) (fun h => absurd h (by decide))⟩
  | true =>
  have C := checked hc
  have S := C.few
  have FF := C.fine (fun i hi => (gp.code i hi).1) gp.consts
  have s1 := S.l1
  have s2 := S.l2
  have s3 := S.l3
  have s4 := S.l4
  have s5 := S.l5
  have s6 := S.l6
  refine ⟨_, rfl, brn (fun h => absurd rfl h) (fun _ => ?_)⟩
  have hh := h.ext e2
  intro g1 w3 f3
  have ws : WS w2 w3 g1 none 0 [] := ⟨⟨OwnB.nil _, f3.blk, fun h => (ownB_none _ h).elim⟩, f3.ext, New.none _, f3.ge⟩
  repeat (first | refine ⟨_, Blk.cell (bp.ext f3.ext) (by rfl), ?_⟩ | refine ⟨_, _, _, Blk.cell (bp.ext f3.ext) (by rfl), ?_⟩)
  intro g2 w4 f4
  refine (ws.puts (ns := [p.ver, p.regs, p.binds, (p.names.length : Int)]) f4 (fun n hn => ?_) (by simp) (by simp)).mono ?_
  · simp only [List.mem_cons, List.not_mem_nil, or_false] at hn
    rcases hn with rfl | rfl | rfl | rfl
    · exact FF.ver
    · exact FF.regs
    · exact FF.binds
    · unfold okN; omega
  rintro _ w5 ⟨rfl, A5, c5, ws5, _⟩
  refine ⟨rfl, ?_⟩
  obtain ⟨l0, hl0⟩ : ∃ l, l = K15.eI p.ver ++ (K15.eI p.regs ++ (K15.eI p.binds ++ K15.eI p.names.length)) := ⟨_, rfl⟩
  rw [show [] ++ [p.ver, p.regs, p.binds, (p.names.length : Int)].flatMap K15.eI = l0 by rw [hl0]; simp] at ws5
  have hb0 : l0.length ≤ 40 := by
    have h1 := eI_len FF.ver
    have h2 := eI_len FF.regs
    have h3 := eI_len FF.binds
    have h4 := eI_len (n := (p.names.length : Int)) (by unfold okN; omega)
    rw [hl0]; simp only [List.length_append]; omega
  clear f3 f4 ws
  repeat (first | refine ⟨_, Blk.cell (bp.ext ws5.ext) (by rfl), ?_⟩ | refine ⟨_, _, _, Blk.cell (bp.ext ws5.ext) (by rfl), ?_⟩)
  refine ⟨fun x u => ∃ j : Nat, j ≤ p.names.length ∧ x = (j : Int) ∧ ∃ A c, WS w2 u g1 A c (l0 ++ (p.names.take j).flatMap eS), fun x _ => ((p.names.length : Int) - x).toNat, ⟨0, by omega, rfl, A5, c5, by simpa using ws5⟩, ?_⟩
  rintro _ u ⟨j, hj, rfl, A6, c6, ws6⟩
  have t6 := takeB (f := eS) p.names j S.l1 (fun s hs => eS_len (S.names s hs))
  refine brd (fun hlt => ?_) (fun hge => ?_)
  · have hjl : j < p.names.length := by omega
    obtain ⟨ad, hA, cs, hrep, hcell⟩ := (hh.ext ws6.ext).names.get1 hjl
    have hcs : cs = [.string p.names[j]] := hrep
    subst hcs
    refine ⟨ad, hA, ⟨by omega, by omega⟩, _, hcell 0 _ rfl, ?_⟩
    refine (ws6.text p.names[j] (by have := S.names _ (List.getElem_mem hjl); omega) (by rw [List.length_append]; omega)).mono ?_
    rintro _ v ⟨rfl, A7, c7, ws7, _⟩
    rw [wi ((j : Int) + 1) (by omega) (by omega)]
    refine ⟨rfl, ⟨j + 1, by omega, rfl, A7, c7, ?_⟩, by dsimp only; omega⟩
    rw [flatS hjl, ← List.append_assoc]; exact ws7
  obtain rfl : j = p.names.length := by omega
  rw [List.take_length] at ws6 t6
  obtain ⟨l1, hl1⟩ : ∃ l, l = l0 ++ p.names.flatMap eS := ⟨_, rfl⟩
  rw [← hl1] at ws6
  have hb1 : l1.length ≤ 50000 := by rw [hl1, List.length_append]; omega
  clear t6 ws5
  -- constants
  repeat (first | refine ⟨_, Blk.cell (bp.ext ws6.ext) (by rfl), ?_⟩ | refine ⟨_, _, _, Blk.cell (bp.ext ws6.ext) (by rfl), ?_⟩)
  intro g7 w7 f7
  refine (ws6.puts (ns := [(p.consts.length : Int)]) f7 (fun n hn => by simp only [List.mem_cons, List.not_mem_nil, or_false] at hn; subst hn; unfold okN; omega) (by simp) (by omega)).mono ?_
  rintro _ w8 ⟨rfl, A8, c8, ws8, _⟩
  refine ⟨rfl, ?_⟩
  obtain ⟨l2, hl2⟩ : ∃ l, l = l1 ++ K15.eI p.consts.length := ⟨_, rfl⟩
  rw [flat1, ← hl2] at ws8
  have hb2 : l2.length ≤ 50010 := by
    have := eI_len (n := (p.consts.length : Int)) (by unfold okN; omega)
    rw [hl2, List.length_append]; omega
  clear f7 ws6
  have hP2 : bytesP constE p = l2 ++ (p.consts.flatMap (fun v => eB (constE v)) ++ (eL eCur p.curs ++ (eL eSrt p.sorts ++ (eL eTot p.tots ++ eL eIns p.code)))) := by
    rw [hl2, hl1, hl0]; simp [bytesP, eL, List.append_assoc]
  have hcl : ∀ v, (eB (constE v)).length ≤ 1048586 := fun v => by
    have h1 := constE_len v
    have := eB_len (l := constE v) (by omega)
    omega
  repeat (first | refine ⟨_, Blk.cell (bp.ext ws8.ext) (by rfl), ?_⟩ | refine ⟨_, _, _, Blk.cell (bp.ext ws8.ext) (by rfl), ?_⟩)
  refine ⟨fun x u => ∃ j : Nat, j ≤ p.consts.length ∧ x = (j : Int) ∧ ∃ A c, WS w2 u g1 A c (l2 ++ (p.consts.take j).flatMap (fun v => eB (constE v))), fun x _ => ((p.consts.length : Int) - x).toNat, ⟨0, by omega, rfl, A8, c8, by simpa using ws8⟩, ?_⟩
  rintro _ u ⟨j, hj, rfl, A9, c9, ws9⟩
  have t9 := takeB (f := fun v => eB (constE v)) p.consts j S.l2 (fun v _ => hcl v)
  refine brd (fun hlt => ?_) (fun hge => ?_)
  · have hjl : j < p.consts.length := by omega
    obtain ⟨ad, hA, cs, hrep, hcell⟩ := (hh.ext ws9.ext).consts.get1 hjl
    have hcs : cs = vc p.consts[j] := hrep
    subst hcs
    have hgv := gp.consts _ (List.getElem_mem hjl)
    refine ⟨ad, hA, ⟨by omega, by omega⟩, _, by rw [add_add]; exact hcell 0 _ rfl, _, by rw [add_add]; exact hcell 1 _ rfl, _, by rw [add_add]; exact hcell 2 _ rfl, ?_⟩
    intro gx u1 fx
    refine ⟨fx.blk.stOK (vc p.consts[j]) 0 (by simp [vc]), fun u2 hu2 => ?_⟩
    obtain ⟨bx, qx⟩ := set0 fx.blk (cs := vc p.consts[j]) hu2 rfl
    have ex : Ext u u2 := fx.ext.trans qx (fun _ _ h => h) (fun k hk e => by have := fx.ge; omega)
    repeat (first | refine ⟨_, Blk.cell (bx) (by rfl), ?_⟩ | refine ⟨_, _, _, Blk.cell (bx) (by rfl), ?_⟩)
    intro gy u3 fy
    have iy : Imm KV NoB u3 (some ⟨gy, 0, none⟩) [p.consts[j]] := fy.imm (fun h => h) KV_pos rfl (by simp [maxLen]) (by
      intro i a h
      rcases i with _ | i
      · simp at h; subst h; rfl
      · simp at h)
    refine (Put_spec iy (by simp [maxLen]) (fun v hv => by simp only [List.mem_cons, List.not_mem_nil, or_false] at hv; subst hv; exact hgv)).mono ?_
    rintro _ u4 ⟨B, d, rfl, ho, ey, nB⟩
    have ws10 := ws9.up ((ex.trans' fy.ext).trans' ey)
    have hl10 := constE_len p.consts[j]
    refine ⟨_, _, _, _, rfl, _, rfl, _, _, _, ws10.wr.blk.cell rfl, ?_⟩
    refine (Blob_spec ws10.wr.own (ho.imm (Ω := ownB A9) (fun k hk hA => by have h1 := nB k hk; have h2 := ws9.wr.lt k (.inr hA); have h3 := (ex.trans' fy.ext).size; omega)) (by rw [List.length_append]; show _ + (constE p.consts[j]).length + 10 ≤ _; omega)).mono ?_
    rintro _ u5 ⟨A11, c11, rfl, ho11, hg11⟩
    obtain ⟨q0, q1⟩ := ws10.wr.push ho11 hg11
    refine ⟨_, _, _, rfl, _, rfl, q0, fun u6 hu6 => ?_⟩
    obtain ⟨q1, q2⟩ := q1 u6 hu6
    have ws12 := ws10.step q1 q2
    have hst : l2 ++ (p.consts.take j).flatMap (fun v => eB (constE v)) ++ encB (putR [p.consts[j]]).1 = l2 ++ (p.consts.take (j + 1)).flatMap (fun v => eB (constE v)) := by rw [flatS hjl, ← List.append_assoc]; rfl
    rw [hst] at ws12
    refine ⟨_, rfl, _, _, _, q1.blk.cell rfl, ?_⟩
    rw [hst]
    refine brd (fun hbig => ?_) (fun _ => ?_)
    · have hR : bytesR constE p = ([], 3) := by
        unfold bytesR
        rw [hc, if_neg (by decide), if_pos]
        have := takeLe (f := fun v => eB (constE v)) p.consts (j + 1)
        rw [hP2]
        simp only [List.length_append] at *
        omega
      rw [hR]
      exact ⟨none, 0, rfl, OwnB.nil _, e2.trans' ws12.ext, New.none _⟩
    · rw [wi ((j : Int) + 1) (by omega) (by omega)]
      exact ⟨⟨j + 1, by omega, rfl, A11, c11, ws12⟩, by dsimp only; omega⟩
  obtain rfl : j = p.consts.length := by omega
  rw [List.take_length] at ws9 t9
  obtain ⟨l3, hl3⟩ : ∃ l, l = l2 ++ p.consts.flatMap (fun v => eB (constE v)) := ⟨_, rfl⟩
  rw [← hl3] at ws9
  have hb3 : l3.length ≤ 2000000000 := by rw [hl3, List.length_append]; omega
  clear t9 ws8
  -- cursors
  repeat (first | refine ⟨_, Blk.cell (bp.ext ws9.ext) (by rfl), ?_⟩ | refine ⟨_, _, _, Blk.cell (bp.ext ws9.ext) (by rfl), ?_⟩)
  intro g7 w7 f7
  refine (ws9.puts (ns := [(p.curs.length : Int)]) f7 (fun n hn => by simp only [List.mem_cons, List.not_mem_nil, or_false] at hn; subst hn; unfold okN; omega) (by simp) (by omega)).mono ?_
  rintro _ w8 ⟨rfl, A8, c8, ws8, _⟩
  refine ⟨rfl, ?_⟩
  obtain ⟨l4, hl4⟩ : ∃ l, l = l3 ++ K15.eI p.curs.length := ⟨_, rfl⟩
  rw [flat1, ← hl4] at ws8
  have hb4 : l4.length ≤ 2000000010 := by
    have := eI_len (n := (p.curs.length : Int)) (by unfold okN; omega)
    rw [hl4, List.length_append]; omega
  clear f7 ws9
  repeat (first | refine ⟨_, Blk.cell (bp.ext ws8.ext) (by rfl), ?_⟩ | refine ⟨_, _, _, Blk.cell (bp.ext ws8.ext) (by rfl), ?_⟩)
  refine ⟨fun x u => ∃ j : Nat, j ≤ p.curs.length ∧ x = (j : Int) ∧ ∃ A c, WS w2 u g1 A c (l4 ++ (p.curs.take j).flatMap eCur), fun x _ => ((p.curs.length : Int) - x).toNat, ⟨0, by omega, rfl, A8, c8, by simpa using ws8⟩, ?_⟩
  rintro _ u ⟨j, hj, rfl, A9, c9, ws9⟩
  have t9 := takeB (f := eCur) p.curs j S.l3 (fun c hc => eCur_len (S.curs c hc))
  refine brd (fun hlt => ?_) (fun hge => ?_)
  · have hjl : j < p.curs.length := by omega
    obtain ⟨ad, hA, cs, hrep, hcell⟩ := (hh.ext ws9.ext).curs.get1 hjl
    have hcs : cs = curC p.curs[j] := hrep
    subst hcs
    have hsz := S.curs _ (List.getElem_mem hjl)
    have hes := eS_len hsz
    refine ⟨ad, hA, ⟨by omega, by omega⟩, _, by rw [add_add]; exact hcell 0 _ rfl, _, by rw [add_add]; exact hcell 1 _ rfl, _, by rw [add_add]; exact hcell 2 _ rfl, ?_⟩
    intro gx u1 fx
    refine ⟨fx.blk.stOK (curC p.curs[j]) 0 (by simp), fun u2 hu2 => ?_⟩
    obtain ⟨bx, qx⟩ := set0 fx.blk (cs := curC p.curs[j]) hu2 rfl
    have ex : Ext u u2 := fx.ext.trans qx (fun _ _ h => h) (fun k hk e => by have := fx.ge; omega)
    have nx : ¬ WO g1 A9 gx := fun hk => by have := ws9.wr.lt _ hk; have := fx.ge; omega
    repeat (first | refine ⟨_, Blk.cell (bx) (by rfl), ?_⟩ | refine ⟨_, _, _, Blk.cell (bx) (by rfl), ?_⟩)
    refine ((ws9.up ex).text p.curs[j].name (by omega) (by rw [List.length_append]; omega)).mono ?_
    rintro _ u3 ⟨rfl, A3, c3, ws3, q3⟩
    have bx3 := bx.keep q3.fr nx
    refine ⟨rfl, ?_⟩
    repeat (first | refine ⟨_, Blk.cell (bx3) (by rfl), ?_⟩ | refine ⟨_, _, _, Blk.cell (bx3) (by rfl), ?_⟩)
    intro gy u4 fy
    refine (ws3.flags (bs := [p.curs[j].ix, p.curs[j].wr]) fy (by simp) (by simp only [List.length_append]; omega)).mono ?_
    rintro _ u5 ⟨rfl, A7, c7, ws7, _⟩
    rw [wi ((j : Int) + 1) (by omega) (by omega)]
    refine ⟨rfl, ⟨j + 1, by omega, rfl, A7, c7, ?_⟩, by dsimp only; omega⟩
    have hst : l4 ++ (p.curs.take j).flatMap eCur ++ eS p.curs[j].name ++ [p.curs[j].ix, p.curs[j].wr].flatMap eF = l4 ++ (p.curs.take (j + 1)).flatMap eCur := by rw [flatS hjl]; simp [eCur, List.append_assoc]
    rw [hst] at ws7
    exact ws7
  obtain rfl : j = p.curs.length := by omega
  rw [List.take_length] at ws9 t9
  obtain ⟨l5, hl5⟩ : ∃ l, l = l4 ++ p.curs.flatMap eCur := ⟨_, rfl⟩
  rw [← hl5] at ws9
  have hb5 : l5.length ≤ 2000010000 := by rw [hl5, List.length_append]; omega
  clear t9 ws8
  -- sorters
  repeat (first | refine ⟨_, Blk.cell (bp.ext ws9.ext) (by rfl), ?_⟩ | refine ⟨_, _, _, Blk.cell (bp.ext ws9.ext) (by rfl), ?_⟩)
  intro g7 w7 f7
  refine (ws9.puts (ns := [(p.sorts.length : Int)]) f7 (fun n hn => by simp only [List.mem_cons, List.not_mem_nil, or_false] at hn; subst hn; unfold okN; omega) (by simp) (by omega)).mono ?_
  rintro _ w8 ⟨rfl, A8, c8, ws8, _⟩
  refine ⟨rfl, ?_⟩
  obtain ⟨l6, hl6⟩ : ∃ l, l = l5 ++ K15.eI p.sorts.length := ⟨_, rfl⟩
  rw [flat1, ← hl6] at ws8
  have hb6 : l6.length ≤ 2000010010 := by
    have := eI_len (n := (p.sorts.length : Int)) (by unfold okN; omega)
    rw [hl6, List.length_append]; omega
  clear f7 ws9
  repeat (first | refine ⟨_, Blk.cell (bp.ext ws8.ext) (by rfl), ?_⟩ | refine ⟨_, _, _, Blk.cell (bp.ext ws8.ext) (by rfl), ?_⟩)
  refine ⟨fun x u => ∃ j : Nat, j ≤ p.sorts.length ∧ x = (j : Int) ∧ ∃ A c, WS w2 u g1 A c (l6 ++ (p.sorts.take j).flatMap eSrt), fun x _ => ((p.sorts.length : Int) - x).toNat, ⟨0, by omega, rfl, A8, c8, by simpa using ws8⟩, ?_⟩
  rintro _ u ⟨j, hj, rfl, A9, c9, ws9⟩
  have t9 := takeB (f := eSrt) p.sorts j S.l4 (fun c hc => eSrt_len (S.sorts c hc))
  refine brd (fun hlt => ?_) (fun hge => ?_)
  · have hjl : j < p.sorts.length := by omega
    obtain ⟨ad, hA, cs, hrep, hcell⟩ := hh.sorts.get1 hjl
    obtain ⟨D, dd, hcs, hdd, hD⟩ := id hrep
    subst hcs
    have hcell : ∀ (q : Nat) (y : Value), [Value.slice D p.sorts[j].desc.length dd, .int .i64 p.sorts[j].cols, .bool p.sorts[j].dist][q]? = some y → u.cell? (ad.add (j * KSrt.size + q)) = some y := fun q y hy => Fr.cell ws9.ext (fun h => h) (hcell q y hy)
    have hsz := S.sorts _ (List.getElem_mem hjl)
    have hf1 := flatB (f := eF) (M := 10) p.sorts[j].desc (fun v _ => eF_len v)
    have hok1 : okN (p.sorts[j].desc.length : Int) := by unfold okN; omega
    have hok2 : okN p.sorts[j].cols := by unfold okN; omega
    have hi1 := eI_len hok1
    have hi2 := eI_len hok2
    refine ⟨ad, hA, ⟨by omega, by omega⟩, _, _, _, by rw [add_add]; exact hcell 0 _ rfl, _, by rw [add_add]; exact hcell 1 _ rfl, _, by rw [add_add]; exact hcell 2 _ rfl, ?_⟩
    intro gx u1 fx
    refine ⟨fx.blk.stOK [Value.slice D p.sorts[j].desc.length dd, .int .i64 p.sorts[j].cols, .bool p.sorts[j].dist] 0 (by simp), fun u2 hu2 => ?_⟩
    obtain ⟨bx, qx⟩ := set0 fx.blk hu2 rfl
    have ex : Ext u u2 := fx.ext.trans qx (fun _ _ h => h) (fun k hk e => by have := fx.ge; omega)
    have nx : ¬ WO g1 A9 gx := fun hk => by have := ws9.wr.lt _ hk; have := fx.ge; omega
    repeat (first | refine ⟨_, Blk.cell (bx) (by rfl), ?_⟩ | refine ⟨_, _, _, Blk.cell (bx) (by rfl), ?_⟩)
    intro gy u4 fy
    have wsa := ws9.up ex
    refine (wsa.puts (ns := [(p.sorts[j].desc.length : Int)]) fy (fun n hn => by simp only [List.mem_cons, List.not_mem_nil, or_false] at hn; subst hn; exact hok1) (by simp) (by rw [List.length_append]; omega)).mono ?_
    rintro _ u5 ⟨rfl, A7, c7, ws7, q7⟩
    rw [flat1] at ws7
    have bx7 := bx.keep q7.fr nx
    have nx7 := q7.off nx bx.lt
    refine ⟨rfl, ?_⟩
    repeat (first | refine ⟨_, Blk.cell (bx7) (by rfl), ?_⟩ | refine ⟨_, _, _, Blk.cell (bx7) (by rfl), ?_⟩)
    refine (wflag_spec ws7.wr (bs := p.sorts[j].desc) (hD.keep KBo_pos (ws7.ext.stepTo ws7.offNew)) (by simp only [List.length_append]; omega)).mono ?_
    rintro _ u6 ⟨rfl, Ab, cb, wrb, qb⟩
    have wsb := ws7.step wrb qb
    have bxb := bx7.keep qb.fr nx7
    have nxb := qb.off nx7 bx7.lt
    refine ⟨rfl, ?_⟩
    repeat (first | refine ⟨_, Blk.cell (bxb) (by rfl), ?_⟩ | refine ⟨_, _, _, Blk.cell (bxb) (by rfl), ?_⟩)
    intro gz u7 fz
    refine (wsb.puts (ns := [p.sorts[j].cols]) fz (fun n hn => by simp only [List.mem_cons, List.not_mem_nil, or_false] at hn; subst hn; exact hok2) (by simp) (by simp only [List.length_append]; omega)).mono ?_
    rintro _ u8 ⟨rfl, Ac, cc, wsc, qc⟩
    rw [flat1] at wsc
    have bxc := bxb.keep qc.fr nxb
    refine ⟨rfl, ?_⟩
    repeat (first | refine ⟨_, Blk.cell (bxc) (by rfl), ?_⟩ | refine ⟨_, _, _, Blk.cell (bxc) (by rfl), ?_⟩)
    intro gv u9 fv
    refine (wsc.flags (bs := [p.sorts[j].dist]) fv (by simp) (by simp only [List.length_append]; omega)).mono ?_
    rintro _ u10 ⟨rfl, Ad, cd, wsd, _⟩
    rw [wi ((j : Int) + 1) (by omega) (by omega)]
    refine ⟨rfl, ⟨j + 1, by omega, rfl, Ad, cd, ?_⟩, by dsimp only; omega⟩
    have hst : l6 ++ (p.sorts.take j).flatMap eSrt ++ K15.eI p.sorts[j].desc.length ++ p.sorts[j].desc.flatMap eF ++ K15.eI p.sorts[j].cols ++ [p.sorts[j].dist].flatMap eF = l6 ++ (p.sorts.take (j + 1)).flatMap eSrt := by rw [flatS hjl]; simp [eSrt, eL, List.append_assoc]
    rw [hst] at wsd
    exact wsd
  obtain rfl : j = p.sorts.length := by omega
  rw [List.take_length] at ws9 t9
  obtain ⟨l7, hl7⟩ : ∃ l, l = l6 ++ p.sorts.flatMap eSrt := ⟨_, rfl⟩
  rw [← hl7] at ws9
  have hb7 : l7.length ≤ 2000020000 := by rw [hl7, List.length_append]; omega
  clear t9 ws8
  -- totals
  repeat (first | refine ⟨_, Blk.cell (bp.ext ws9.ext) (by rfl), ?_⟩ | refine ⟨_, _, _, Blk.cell (bp.ext ws9.ext) (by rfl), ?_⟩)
  intro g7 w7 f7
  refine (ws9.puts (ns := [(p.tots.length : Int)]) f7 (fun n hn => by simp only [List.mem_cons, List.not_mem_nil, or_false] at hn; subst hn; unfold okN; omega) (by simp) (by omega)).mono ?_
  rintro _ w8 ⟨rfl, A8, c8, ws8, _⟩
  refine ⟨rfl, ?_⟩
  obtain ⟨l8, hl8⟩ : ∃ l, l = l7 ++ K15.eI p.tots.length := ⟨_, rfl⟩
  rw [flat1, ← hl8] at ws8
  have hb8 : l8.length ≤ 2000020010 := by
    have := eI_len (n := (p.tots.length : Int)) (by unfold okN; omega)
    rw [hl8, List.length_append]; omega
  clear f7 ws9
  repeat (first | refine ⟨_, Blk.cell (bp.ext ws8.ext) (by rfl), ?_⟩ | refine ⟨_, _, _, Blk.cell (bp.ext ws8.ext) (by rfl), ?_⟩)
  refine ⟨fun x u => ∃ j : Nat, j ≤ p.tots.length ∧ x = (j : Int) ∧ ∃ A c, WS w2 u g1 A c (l8 ++ (p.tots.take j).flatMap eTot), fun x _ => ((p.tots.length : Int) - x).toNat, ⟨0, by omega, rfl, A8, c8, by simpa using ws8⟩, ?_⟩
  rintro _ u ⟨j, hj, rfl, A9, c9, ws9⟩
  have t9 := takeB (f := eTot) p.tots j S.l5 (fun c hc => eTot_len (S.tots c hc))
  refine brd (fun hlt => ?_) (fun hge => ?_)
  · have hjl : j < p.tots.length := by omega
    obtain ⟨ad, hA, cs, hrep, hcell⟩ := (hh.ext ws9.ext).tots.get1 hjl
    have hcs : cs = totC p.tots[j] := hrep
    subst hcs
    have hsz := S.tots _ (List.getElem_mem hjl)
    have hes := eS_len hsz
    refine ⟨ad, hA, ⟨by omega, by omega⟩, _, by rw [add_add]; exact hcell 0 _ rfl, _, by rw [add_add]; exact hcell 1 _ rfl, ?_⟩
    intro gx u1 fx
    refine ⟨fx.blk.stOK (totC p.tots[j]) 0 (by simp), fun u2 hu2 => ?_⟩
    obtain ⟨bx, qx⟩ := set0 fx.blk (cs := totC p.tots[j]) hu2 rfl
    have ex : Ext u u2 := fx.ext.trans qx (fun _ _ h => h) (fun k hk e => by have := fx.ge; omega)
    have nx : ¬ WO g1 A9 gx := fun hk => by have := ws9.wr.lt _ hk; have := fx.ge; omega
    repeat (first | refine ⟨_, Blk.cell (bx) (by rfl), ?_⟩ | refine ⟨_, _, _, Blk.cell (bx) (by rfl), ?_⟩)
    refine ((ws9.up ex).text p.tots[j].fn (by omega) (by rw [List.length_append]; omega)).mono ?_
    rintro _ u3 ⟨rfl, A3, c3, ws3, q3⟩
    have bx3 := bx.keep q3.fr nx
    refine ⟨rfl, ?_⟩
    repeat (first | refine ⟨_, Blk.cell (bx3) (by rfl), ?_⟩ | refine ⟨_, _, _, Blk.cell (bx3) (by rfl), ?_⟩)
    intro gy u4 fy
    refine (ws3.flags (bs := [p.tots[j].dist]) fy (by simp) (by simp only [List.length_append]; omega)).mono ?_
    rintro _ u5 ⟨rfl, A7, c7, ws7, _⟩
    rw [wi ((j : Int) + 1) (by omega) (by omega)]
    refine ⟨rfl, ⟨j + 1, by omega, rfl, A7, c7, ?_⟩, by dsimp only; omega⟩
    have hst : l8 ++ (p.tots.take j).flatMap eTot ++ eS p.tots[j].fn ++ [p.tots[j].dist].flatMap eF = l8 ++ (p.tots.take (j + 1)).flatMap eTot := by rw [flatS hjl]; simp [eTot, List.append_assoc]
    rw [hst] at ws7
    exact ws7
  obtain rfl : j = p.tots.length := by omega
  rw [List.take_length] at ws9 t9
  obtain ⟨l9, hl9⟩ : ∃ l, l = l8 ++ p.tots.flatMap eTot := ⟨_, rfl⟩
  rw [← hl9] at ws9
  have hb9 : l9.length ≤ 2000040000 := by rw [hl9, List.length_append]; omega
  clear t9 ws8
  -- the code
  repeat (first | refine ⟨_, Blk.cell (bp.ext ws9.ext) (by rfl), ?_⟩ | refine ⟨_, _, _, Blk.cell (bp.ext ws9.ext) (by rfl), ?_⟩)
  intro g7 w7 f7
  refine (ws9.puts (ns := [(p.code.length : Int)]) f7 (fun n hn => by simp only [List.mem_cons, List.not_mem_nil, or_false] at hn; subst hn; unfold okN; omega) (by simp) (by omega)).mono ?_
  rintro _ w8 ⟨rfl, A8, c8, ws8, _⟩
  refine ⟨rfl, ?_⟩
  obtain ⟨l10, hl10⟩ : ∃ l, l = l9 ++ K15.eI p.code.length := ⟨_, rfl⟩
  rw [flat1, ← hl10] at ws8
  have hb10 : l10.length ≤ 2000040010 := by
    have := eI_len (n := (p.code.length : Int)) (by unfold okN; omega)
    rw [hl10, List.length_append]; omega
  clear f7 ws9
  repeat (first | refine ⟨_, Blk.cell (bp.ext ws8.ext) (by rfl), ?_⟩ | refine ⟨_, _, _, Blk.cell (bp.ext ws8.ext) (by rfl), ?_⟩)
  refine ⟨fun x u => ∃ j : Nat, j ≤ p.code.length ∧ x = (j : Int) ∧ ∃ A c, WS w2 u g1 A c (l10 ++ (p.code.take j).flatMap eIns), fun x _ => ((p.code.length : Int) - x).toNat, ⟨0, by omega, rfl, A8, c8, by simpa using ws8⟩, ?_⟩
  rintro _ u ⟨j, hj, rfl, A9, c9, ws9⟩
  have t9 := takeB (f := eIns) p.code j S.l6 (fun c hc => eIns_len (FF.code c hc))
  refine brd (fun hlt => ?_) (fun hge => ?_)
  · have hjl : j < p.code.length := by omega
    obtain ⟨ad, hA, cs, hrep, hcell⟩ := (hh.ext ws9.ext).code.get1 hjl
    have hcs : cs = insC p.code[j] := hrep
    subst hcs
    have hfi := FF.code _ (List.getElem_mem hjl)
    have hgi := (gp.code _ (List.getElem_mem hjl)).1
    refine ⟨ad, hA, ⟨by omega, by omega⟩, _, by rw [add_add]; exact hcell 0 _ rfl, _, by rw [add_add]; exact hcell 1 _ rfl, _, by rw [add_add]; exact hcell 2 _ rfl, _, by rw [add_add]; exact hcell 3 _ rfl, _, by rw [add_add]; exact hcell 4 _ rfl, ?_⟩
    intro gx u1 fx
    refine ⟨fx.blk.stOK (insC p.code[j]) 0 (by simp), fun u2 hu2 => ?_⟩
    obtain ⟨bx, qx⟩ := set0 fx.blk (cs := insC p.code[j]) hu2 rfl
    have ex : Ext u u2 := fx.ext.trans qx (fun _ _ h => h) (fun k hk e => by have := fx.ge; omega)
    repeat (first | refine ⟨_, Blk.cell (bx) (by rfl), ?_⟩ | refine ⟨_, _, _, Blk.cell (bx) (by rfl), ?_⟩)
    rw [wi p.code[j].op (by omega) (by omega)]
    intro gy u4 fy
    refine ((ws9.up ex).puts (ns := [p.code[j].op, p.code[j].a, p.code[j].b, p.code[j].c, p.code[j].d]) fy (fun n hn => ?_) (by simp) (by rw [List.length_append]; omega)).mono ?_
    · simp only [List.mem_cons, List.not_mem_nil, or_false] at hn
      rcases hn with rfl | rfl | rfl | rfl | rfl
      · exact hfi.1
      · exact hfi.2.1
      · exact hfi.2.2.1
      · exact hfi.2.2.2.1
      · exact hfi.2.2.2.2
    rintro _ u5 ⟨rfl, A7, c7, ws7, _⟩
    rw [wi ((j : Int) + 1) (by omega) (by omega)]
    refine ⟨rfl, ⟨j + 1, by omega, rfl, A7, c7, ?_⟩, by dsimp only; omega⟩
    have hst : l10 ++ (p.code.take j).flatMap eIns ++ [p.code[j].op, p.code[j].a, p.code[j].b, p.code[j].c, p.code[j].d].flatMap K15.eI = l10 ++ (p.code.take (j + 1)).flatMap eIns := by rw [flatS hjl]; simp [eIns, List.append_assoc]
    rw [hst] at ws7
    exact ws7
  obtain rfl : j = p.code.length := by omega
  rw [List.take_length] at ws9
  have hP : l10 ++ p.code.flatMap eIns = bytesP constE p := by
    rw [hl10, hl9, hl8, hl7, hl6, hl5, hl4, hl3, hl2, hl1, hl0]; simp [bytesP, eL, List.append_assoc]
  rw [hP] at ws9
  refine ⟨_, rfl, _, _, _, ws9.wr.blk.cell rfl, ?_⟩
  have eR : bytesR constE p = if 1048576 < (bytesP constE p).length then ([], 3) else (bytesP constE p, 0) := by unfold bytesR; rw [hc, if_neg (by decide)]
  rw [eR]
  refine brd (fun hbig => ?_) (fun hsm => ?_)
  · rw [if_pos (by omega)]
    exact ⟨none, 0, rfl, OwnB.nil _, e2.trans' ws9.ext, New.none _⟩
  · rw [if_neg (by omega)]
    exact ⟨_, rfl, _, _, _, ws9.wr.blk.cell rfl, A9, c9, rfl, ws9.wr.own, e2.trans' ws9.ext, ws9.new.ext e2⟩
end Go.Proofs.YtaifphjenebgoaaDoor
/- Layer 15: are two programs the same? -/
set_option linter.unusedVariables false
set_option linter.unusedSimpArgs false
namespace Go.Proofs.YtaifphjenebgoaaDoor
open Go Go.Sx R1 K15
theorem str_iff (x y : ByteArray) : (ByteArray.toList x == ByteArray.toList y) = true ↔ x = y := by
  obtain ⟨⟨l⟩⟩ := x; obtain ⟨⟨m⟩⟩ := y
  rw [show (ByteArray.toList ⟨⟨l⟩⟩ == ByteArray.toList ⟨⟨m⟩⟩) = decide (l = m) from eq_str l m]
  simp
theorem takes_eq {α : Type} {l m : List α} {j : Nat} (h : l.take j = m.take j) (h1 : l.length ≤ j) (h2 : m.length ≤ j) : l = m := by
  rw [List.take_of_length_le h1, List.take_of_length_le h2] at h; exact h
theorem takes_step {α : Type} {l m : List α} {j : Nat} (h : l.take j = m.take j) (h1 : j < l.length) (h2 : j < m.length) (he : l[j] = m[j]) : l.take (j + 1) = m.take (j + 1) := by
  rw [List.take_add_one, List.take_add_one, h, List.getElem?_eq_getElem h1, List.getElem?_eq_getElem h2, he]
theorem at1 {α : Type} {K : Kd α} {w : World} {A : Option Addr} {l : List α} (h : Imm K NoB w A l) {j : Nat} (hj : j < l.length) :
    ∃ ad, A = some ad ∧ ∃ cs, K.rep NoB w l[j] cs ∧ ∀ v, Ext w v → ∀ (q : Nat) (y : Value), cs[q]? = some y → v.cell? ((ad.add (j * K.size)).add q) = some y := by
  obtain ⟨ad, hA, cs, hr, hc⟩ := h.get1 hj
  exact ⟨ad, hA, cs, hr, fun v e q y hy => by rw [add_add]; exact Fr.cell e (fun h => h) (hc q y hy)⟩
theorem SameTexts_spec {w : World} {A B : Option Addr} {c d : Nat} {l m : List ByteArray} (hl : Imm Kd.str NoB w A l) (hm : Imm Kd.str NoB w B m) (hx : l.length ≤ maxLen) :
    CallsV Tryd.prog 33 #[.slice A l.length c, .slice B m.length d] w fun r w' => (∃ b, r = .bool b ∧ (b = true ↔ l = m)) ∧ Ext w w' := by
  simp only [maxLen] at hx
  refine cardindexkit_SameTexts.calls okay ?_
  unfold cardindexkit_SameTexts.W
  have no : ∀ u, Ext w u → l ≠ m → (∃ b, Value.bool false = .bool b ∧ (b = true ↔ l = m)) ∧ Ext w u := fun u e hne => ⟨⟨false, rfl, ⟨fun h => absurd h (by decide), fun h => absurd h hne⟩⟩, e⟩
  refine brn (fun hne => no w (.refl _ _) (fun h => hne (by rw [h]))) (fun hlen => ?_)
  refine ⟨fun x u => ∃ j : Nat, j ≤ l.length ∧ x = (j : Int) ∧ l.take j = m.take j ∧ Ext w u, fun x _ => ((l.length : Int) - x).toNat, ⟨0, by omega, rfl, rfl, .refl _ _⟩, ?_⟩
  rintro _ u ⟨j, hj, rfl, ht, e⟩
  refine brd (fun hlt => ?_) (fun hge => ?_)
  · have h1 : j < l.length := by omega
    have h2 : j < m.length := by omega
    obtain ⟨ad, hA, cs, hrep, hc⟩ := (hl.ext KStr_pos e).get1 h1
    obtain rfl : cs = [.string l[j]] := hrep
    obtain ⟨ad', hA', cs', hrep', hc'⟩ := (hm.ext KStr_pos e).get1 h2
    obtain rfl : cs' = [.string m[j]] := hrep'
    refine ⟨ad, hA, ⟨by omega, by omega⟩, fun v => Ext u v, Fr.drew NoB u, _, fun v k => Fr.cell k (fun h => h) (hc 0 _ rfl), ad', hA', ⟨by omega, by omega⟩, _, fun v k => Fr.cell k (fun h => h) (hc' 0 _ rfl), brnb (fun hf => ?_) (fun hs => ?_)⟩
    · refine no _ e.drew (fun h => ?_)
      subst h
      simp at hf
    · rw [wi ((j : Int) + 1) (by omega) (by omega)]
      exact ⟨⟨j + 1, by omega, rfl, takes_step ht h1 h2 ((str_iff _ _).1 hs), e.drew⟩, by dsimp only; omega⟩
  · exact ⟨⟨true, rfl, fun _ => takes_eq ht (by omega) (by omega), fun _ => rfl⟩, e⟩
set_option maxRecDepth 20000 in
set_option maxHeartbeats 4000000 in
theorem Same_spec {w : World} {p q : Prog} {a a' : PAd} (hp : PIm w p a) (hq : PIm w q a') (gp : gProg p) :
    CallsV Tryd.prog 17 #[pagg p a, pagg q a'] w fun r w' => (∃ b, r = .bool b ∧ (b = true ↔ p = q)) ∧ Ext w w' := by
  have m1 := hp.l1
  have m2 := hp.l2
  have m3 := hp.l3
  have m4 := hp.l4
  have m5 := hp.l5
  have m6 := hp.l6
  simp only [maxLen] at m1 m2 m3 m4 m5 m6
  refine cardindexlaw15_Same.calls okay ?_
  unfold cardindexlaw15_Same.W
  have no : ∀ u, Ext w u → p ≠ q → (∃ b, Value.bool false = .bool b ∧ (b = true ↔ p = q)) ∧ Ext w u := fun u e hne => ⟨⟨false, rfl, ⟨fun h => absurd h (by decide), fun h => absurd h hne⟩⟩, e⟩
  intro g w1 f g1 w2 f1
  have bp : Blk w2 g (pcs p a) := f.blk.ext f1.ext
  have bq : Blk w2 g1 (pcs q a') := f1.blk
  have e2 := f.ext.trans' f1.ext
  clear f f1
  repeat (first | refine ⟨_, Blk.cell (bp) (by rfl), ?_⟩ | refine ⟨_, _, _, Blk.cell (bp) (by rfl), ?_⟩ | refine ⟨_, Blk.cell (bq) (by rfl), ?_⟩ | refine ⟨_, _, _, Blk.cell (bq) (by rfl), ?_⟩)
  refine brn (fun hne => no _ e2 (fun h => hne (by rw [h]))) (fun q1 => ?_)
  repeat (first | refine ⟨_, Blk.cell (bp) (by rfl), ?_⟩ | refine ⟨_, _, _, Blk.cell (bp) (by rfl), ?_⟩ | refine ⟨_, Blk.cell (bq) (by rfl), ?_⟩ | refine ⟨_, _, _, Blk.cell (bq) (by rfl), ?_⟩)
  refine brn (fun hne => no _ e2 (fun h => hne (by rw [h]))) (fun q2 => ?_)
  repeat (first | refine ⟨_, Blk.cell (bp) (by rfl), ?_⟩ | refine ⟨_, _, _, Blk.cell (bp) (by rfl), ?_⟩ | refine ⟨_, Blk.cell (bq) (by rfl), ?_⟩ | refine ⟨_, _, _, Blk.cell (bq) (by rfl), ?_⟩)
  refine brn (fun hne => no _ e2 (fun h => hne (by rw [h]))) (fun q3 => ?_)
  repeat (first | refine ⟨_, Blk.cell (bp) (by rfl), ?_⟩ | refine ⟨_, _, _, Blk.cell (bp) (by rfl), ?_⟩ | refine ⟨_, Blk.cell (bq) (by rfl), ?_⟩ | refine ⟨_, _, _, Blk.cell (bq) (by rfl), ?_⟩)
  refine (SameTexts_spec (hp.ext e2).names (hq.ext e2).names hp.l1).mono ?_
  rintro _ w3 ⟨⟨b, rfl, hb⟩, k3⟩
  have e3 := e2.trans' k3
  have bp := bp.ext k3
  have bq := bq.ext k3
  refine ⟨_, rfl, brnb (fun hf => no _ e3 (fun h => by have := hb.2 (by rw [h]); rw [this] at hf; cases hf)) (fun ht => ?_)⟩
  have q4 := hb.1 ht
  repeat (first | refine ⟨_, Blk.cell (bp) (by rfl), ?_⟩ | refine ⟨_, _, _, Blk.cell (bp) (by rfl), ?_⟩ | refine ⟨_, Blk.cell (bq) (by rfl), ?_⟩ | refine ⟨_, _, _, Blk.cell (bq) (by rfl), ?_⟩)
  refine brn (fun hne => no _ e3 (fun h => hne (by rw [h]))) (fun n5 => ?_)
  repeat (first | refine ⟨_, Blk.cell (bp) (by rfl), ?_⟩ | refine ⟨_, _, _, Blk.cell (bp) (by rfl), ?_⟩ | refine ⟨_, Blk.cell (bq) (by rfl), ?_⟩ | refine ⟨_, _, _, Blk.cell (bq) (by rfl), ?_⟩)
  refine brn (fun hne => no _ e3 (fun h => hne (by rw [h]))) (fun n6 => ?_)
  repeat (first | refine ⟨_, Blk.cell (bp) (by rfl), ?_⟩ | refine ⟨_, _, _, Blk.cell (bp) (by rfl), ?_⟩ | refine ⟨_, Blk.cell (bq) (by rfl), ?_⟩ | refine ⟨_, _, _, Blk.cell (bq) (by rfl), ?_⟩)
  refine brn (fun hne => no _ e3 (fun h => hne (by rw [h]))) (fun n7 => ?_)
  repeat (first | refine ⟨_, Blk.cell (bp) (by rfl), ?_⟩ | refine ⟨_, _, _, Blk.cell (bp) (by rfl), ?_⟩ | refine ⟨_, Blk.cell (bq) (by rfl), ?_⟩ | refine ⟨_, _, _, Blk.cell (bq) (by rfl), ?_⟩)
  refine brn (fun hne => no _ e3 (fun h => hne (by rw [h]))) (fun n8 => ?_)
  repeat (first | refine ⟨_, Blk.cell (bp) (by rfl), ?_⟩ | refine ⟨_, _, _, Blk.cell (bp) (by rfl), ?_⟩ | refine ⟨_, Blk.cell (bq) (by rfl), ?_⟩ | refine ⟨_, _, _, Blk.cell (bq) (by rfl), ?_⟩)
  refine brn (fun hne => no _ e3 (fun h => hne (by rw [h]))) (fun n9 => ?_)
  repeat (first | refine ⟨_, Blk.cell (bp) (by rfl), ?_⟩ | refine ⟨_, _, _, Blk.cell (bp) (by rfl), ?_⟩)
  have hp := hp.ext e3
  have hq := hq.ext e3
  -- constants
  refine ⟨fun x u => ∃ j : Nat, j ≤ p.consts.length ∧ x = (j : Int) ∧ p.consts.take j = q.consts.take j ∧ Ext w3 u, fun x _ => ((p.consts.length : Int) - x).toNat, ⟨0, by omega, rfl, rfl, .refl _ _⟩, ?_⟩
  rintro _ u ⟨j, hj, rfl, ht, e⟩
  refine brd (fun hlt => ?_) (fun hge => ?_)
  · have h1 : j < p.consts.length := by omega
    have h2 : j < q.consts.length := by omega
    obtain ⟨ad, hA, cs, hrep, hc⟩ := at1 (hp.ext e).consts h1
    obtain rfl : cs = vc p.consts[j] := hrep
    obtain ⟨ad', hA', cs', hrep', hc'⟩ := at1 (hq.ext e).consts h2
    obtain rfl : cs' = vc q.consts[j] := hrep'
    refine ⟨fun v => Ext u v, Fr.drew NoB u, _, _, _, fun v k => (bp.ext (e.trans' k)).cell rfl, ad, hA, ⟨by omega, by omega⟩, _, fun v k => hc v k 0 _ rfl, _, fun v k => hc v k 1 _ rfl, _, fun v k => hc v k 2 _ rfl,
      _, _, _, fun v k => (bq.ext (e.trans' k)).cell rfl, ad', hA', ⟨by omega, by omega⟩, _, fun v k => hc' v k 0 _ rfl, _, fun v k => hc' v k 1 _ rfl, _, fun v k => hc' v k 2 _ rfl, brf (by kernel_rfl) (brnb (fun hf => ?_) (fun hs => ?_))⟩
    · refine no _ (e3.trans' e).drew (fun h => ?_)
      subst h
      simp at hf
    · rw [wi ((j : Int) + 1) (by omega) (by omega)]
      refine ⟨⟨j + 1, by omega, rfl, takes_step ht h1 h2 ?_, e.drew⟩, by dsimp only; omega⟩
      simp only [Bool.and_eq_true, decide_eq_true_eq, str_iff, and_true] at hs
      generalize p.consts[j] = x at hs ⊢
      generalize q.consts[j] = y at hs ⊢
      cases x; cases y
      obtain ⟨r1, r2, r3⟩ := hs
      simp only at r1 r2 r3
      subst r1; subst r2; subst r3; rfl
  have q5 := takes_eq ht (by omega) (by omega)
  clear ht hge hj
  have e3 := e3.trans' e
  have bp := bp.ext e
  have bq := bq.ext e
  have hp := hp.ext e
  have hq := hq.ext e
  clear e
  repeat (first | refine ⟨_, Blk.cell (bp) (by rfl), ?_⟩ | refine ⟨_, _, _, Blk.cell (bp) (by rfl), ?_⟩)
  -- cursors
  refine ⟨fun x v => ∃ j : Nat, j ≤ p.curs.length ∧ x = (j : Int) ∧ p.curs.take j = q.curs.take j ∧ Ext u v, fun x _ => ((p.curs.length : Int) - x).toNat, ⟨0, by omega, rfl, rfl, .refl _ _⟩, ?_⟩
  rintro _ v ⟨j, hj, rfl, ht, e⟩
  refine brd (fun hlt => ?_) (fun hge => ?_)
  · have h1 : j < p.curs.length := by omega
    have h2 : j < q.curs.length := by omega
    obtain ⟨ad, hA, cs, hrep, hc⟩ := at1 (hp.ext e).curs h1
    obtain rfl : cs = curC p.curs[j] := hrep
    obtain ⟨ad', hA', cs', hrep', hc'⟩ := at1 (hq.ext e).curs h2
    obtain rfl : cs' = curC q.curs[j] := hrep'
    refine ⟨fun v' => Ext v v', Fr.drew NoB v, _, _, _, fun v k => (bp.ext (e.trans' k)).cell rfl, ad, hA, ⟨by omega, by omega⟩, _, fun v k => hc v k 0 _ rfl, _, fun v k => hc v k 1 _ rfl, _, fun v k => hc v k 2 _ rfl,
      _, _, _, fun v k => (bq.ext (e.trans' k)).cell rfl, ad', hA', ⟨by omega, by omega⟩, _, fun v k => hc' v k 0 _ rfl, _, fun v k => hc' v k 1 _ rfl, _, fun v k => hc' v k 2 _ rfl, brf (by kernel_rfl) (brnb (fun hf => ?_) (fun hs => ?_))⟩
    · refine no _ (e3.trans' e).drew (fun h => ?_)
      subst h
      simp at hf
    · rw [wi ((j : Int) + 1) (by omega) (by omega)]
      refine ⟨⟨j + 1, by omega, rfl, takes_step ht h1 h2 ?_, e.drew⟩, by dsimp only; omega⟩
      simp only [Bool.and_eq_true, decide_eq_true_eq, str_iff, and_true] at hs
      generalize p.curs[j] = x at hs ⊢
      generalize q.curs[j] = y at hs ⊢
      cases x; cases y
      obtain ⟨r1, r2, r3⟩ := hs
      simp only at r1 r2 r3
      subst r1; subst r2; subst r3; rfl
  have q6 := takes_eq ht (by omega) (by omega)
  clear ht hge hj
  have e3 := e3.trans' e
  have bp := bp.ext e
  have bq := bq.ext e
  have hp := hp.ext e
  have hq := hq.ext e
  clear e
  repeat (first | refine ⟨_, Blk.cell (bp) (by rfl), ?_⟩ | refine ⟨_, _, _, Blk.cell (bp) (by rfl), ?_⟩)
  -- sorters
  refine ⟨fun x u' => ∃ j : Nat, j ≤ p.sorts.length ∧ x = (j : Int) ∧ p.sorts.take j = q.sorts.take j ∧ Ext v u', fun x _ => ((p.sorts.length : Int) - x).toNat, ⟨0, by omega, rfl, rfl, .refl _ _⟩, ?_⟩
  rintro _ u2 ⟨j, hj, rfl, ht, e⟩
  refine brd (fun hlt => ?_) (fun hge => ?_)
  · have h1 : j < p.sorts.length := by omega
    have h2 : j < q.sorts.length := by omega
    obtain ⟨ad, hA, cs, hrep, hc⟩ := at1 (hp.ext e).sorts h1
    obtain ⟨D, dd, hcs, hdd, hD⟩ := id hrep
    subst hcs
    obtain ⟨ad', hA', cs', hrep', hc'⟩ := at1 (hq.ext e).sorts h2
    obtain ⟨D', dd', hcs', hdd', hD'⟩ := id hrep'
    subst hcs'
    have toks : ∀ (b : Prop), (p = q → b) → ¬ b → p ≠ q := fun b hb hn h => hn (hb h)
    have hdl := (gp.sorts _ (List.getElem_mem h1)).1
    simp only [maxLen] at hdl
    have eq1 : p = q → p.sorts[j] = q.sorts[j] := fun h => by subst h; rfl
    have nx : p.sorts.take j = q.sorts.take j := ht
    generalize hX : p.sorts[j] = X at *
    generalize hY : q.sorts[j] = Y at *
    refine ⟨fun v' => Ext u2 v', Fr.drew NoB u2, _, _, _, fun v k => (bp.ext (e.trans' k)).cell rfl, ad, hA, ⟨by omega, by omega⟩, _, _, _, fun v k => hc v k 0 _ rfl, _, fun v k => hc v k 1 _ rfl, _, fun v k => hc v k 2 _ rfl,
      _, _, _, fun v k => (bq.ext (e.trans' k)).cell rfl, ad', hA', ⟨by omega, by omega⟩, _, _, _, fun v k => hc' v k 0 _ rfl, _, fun v k => hc' v k 1 _ rfl, _, fun v k => hc' v k 2 _ rfl, ?_⟩
    refine ⟨?_, ?_⟩
    case' refine_1 =>
      intro gq w4 f4
      have x4 : Ext u2 w4 := Ext.drew0 f4.ext
      refine ⟨x4, ?_⟩
      intro gr w5 f5
      have x5 := x4.trans' f5.ext
      have hq' : u2.heap.size ≤ gq := f4.ge
      have hr' : u2.heap.size ≤ gr := Nat.le_trans x4.size f5.ge
      have hn : gq ≠ gr := by have := f4.lt; have := f5.ge; omega
      refine ⟨x5, (f4.blk.ext f5.ext).stOK [Value.slice D X.desc.length dd, .int .i64 X.cols, .bool X.dist] 0 (by simp), fun w6 hw6 => ?_⟩
      obtain ⟨bx, q6'⟩ := set0 (f4.blk.ext f5.ext) hw6 rfl
      have by_ := f5.blk.keep q6' (fun e => hn e.symm)
      have x6 : Ext u2 w6 := x5.trans q6' (fun _ _ h => h) (fun k hk e => by omega)
      refine ⟨x6, by_.stOK [Value.slice D' Y.desc.length dd', .int .i64 Y.cols, .bool Y.dist] 0 (by simp), fun w7 hw7 => ?_⟩
      obtain ⟨by_, q7'⟩ := set0 by_ hw7 rfl
      have bx := bx.keep q7' hn
      have x7 : Ext u2 w7 := x6.trans q7' (fun _ _ h => h) (fun k hk e => by omega)
      clear hw7 hw6 q7' q6' x6 x5 f5 x4 f4
    case' refine_2 =>
      intro gr w4 f4
      have x4 : Ext u2 w4 := Ext.drew0 f4.ext
      refine ⟨x4, ?_⟩
      intro gq w5 f5
      have x5 := x4.trans' f5.ext
      have hr' : u2.heap.size ≤ gr := f4.ge
      have hq' : u2.heap.size ≤ gq := Nat.le_trans x4.size f5.ge
      have hn : gq ≠ gr := by have := f4.lt; have := f5.ge; omega
      refine ⟨x5, f5.blk.stOK [Value.slice D X.desc.length dd, .int .i64 X.cols, .bool X.dist] 0 (by simp), fun w6 hw6 => ?_⟩
      obtain ⟨bx, q6'⟩ := set0 f5.blk hw6 rfl
      have by_ := (f4.blk.ext f5.ext).keep q6' (fun e => hn e.symm)
      have x6 : Ext u2 w6 := x5.trans q6' (fun _ _ h => h) (fun k hk e => by omega)
      refine ⟨x6, by_.stOK [Value.slice D' Y.desc.length dd', .int .i64 Y.cols, .bool Y.dist] 0 (by simp), fun w7 hw7 => ?_⟩
      obtain ⟨by_, q7'⟩ := set0 by_ hw7 rfl
      have bx := bx.keep q7' hn
      have x7 : Ext u2 w7 := x6.trans q7' (fun _ _ h => h) (fun k hk e => by omega)
      clear hw7 hw6 q7' q6' x6 x5 f5 x4 f4
    all_goals
      have e7 := (e3.trans' e).trans' x7
      repeat (first | refine ⟨_, Blk.cell (bx) (by rfl), ?_⟩ | refine ⟨_, _, _, Blk.cell (bx) (by rfl), ?_⟩ | refine ⟨_, Blk.cell (by_) (by rfl), ?_⟩ | refine ⟨_, _, _, Blk.cell (by_) (by rfl), ?_⟩)
      refine brn (fun hne => no _ e7 (fun h => hne (by rw [eq1 h]))) (fun d1 => ?_)
      repeat (first | refine ⟨_, Blk.cell (bx) (by rfl), ?_⟩ | refine ⟨_, _, _, Blk.cell (bx) (by rfl), ?_⟩ | refine ⟨_, Blk.cell (by_) (by rfl), ?_⟩ | refine ⟨_, _, _, Blk.cell (by_) (by rfl), ?_⟩)
      refine brn (fun hne => no _ e7 (fun h => hne (by rw [eq1 h]))) (fun d2 => ?_)
      repeat (first | refine ⟨_, Blk.cell (bx) (by rfl), ?_⟩ | refine ⟨_, _, _, Blk.cell (bx) (by rfl), ?_⟩ | refine ⟨_, Blk.cell (by_) (by rfl), ?_⟩ | refine ⟨_, _, _, Blk.cell (by_) (by rfl), ?_⟩)
      refine brn (fun hne => no _ e7 (fun h => hne (by rw [eq1 h]))) (fun d3 => ?_)
      repeat (first | refine ⟨_, Blk.cell (bx) (by rfl), ?_⟩ | refine ⟨_, _, _, Blk.cell (bx) (by rfl), ?_⟩)
      refine ⟨fun x u' => ∃ i : Nat, i ≤ X.desc.length ∧ x = (i : Int) ∧ X.desc.take i = Y.desc.take i ∧ Ext w7 u', fun x _ => ((X.desc.length : Int) - x).toNat, ⟨0, by omega, rfl, rfl, .refl _ _⟩, ?_⟩
      rintro _ u8 ⟨i, hi, rfl, hti, e8⟩
      refine brd (fun hlt => ?_) (fun hge => ?_)
      · have i1 : i < X.desc.length := by omega
        have i2 : i < Y.desc.length := by omega
        have x8 := x7.trans' e8
        obtain ⟨ad2, hA2, cs2, hrep2, hc2⟩ := (hD.ext KBo_pos x8).get1 i1
        obtain rfl : cs2 = [.bool X.desc[i]] := hrep2
        obtain ⟨ad3, hA3, cs3, hrep3, hc3⟩ := (hD'.ext KBo_pos x8).get1 i2
        obtain rfl : cs3 = [.bool Y.desc[i]] := hrep3
        refine ⟨fun v' => Ext u8 v', Fr.drew NoB u8, _, _, _, fun v k => (bx.ext (e8.trans' k)).cell rfl, ad2, hA2, ⟨by omega, by omega⟩, _, fun v k => Fr.cell k (fun h => h) (hc2 0 _ rfl),
          _, _, _, fun v k => (by_.ext (e8.trans' k)).cell rfl, ad3, hA3, ⟨by omega, by omega⟩, _, fun v k => Fr.cell k (fun h => h) (hc3 0 _ rfl), brn (fun hne => ?_) (fun hs => ?_)⟩
        · refine no _ (e7.trans' e8).drew (fun h => hne ?_)
          have := eq1 h
          subst this; rfl
        · rw [wi ((i : Int) + 1) (by omega) (by omega)]
          exact ⟨⟨i + 1, by omega, rfl, takes_step hti i1 i2 hs, e8.drew⟩, by dsimp only; omega⟩
      · have hdesc := takes_eq hti (by omega) (by omega)
        rw [wi ((j : Int) + 1) (by omega) (by omega)]
        refine ⟨⟨j + 1, by omega, rfl, takes_step nx h1 h2 ?_, (e.trans' x7).trans' e8⟩, by dsimp only; omega⟩
        rw [hX, hY]
        cases X; cases Y
        simp only at d1 d2 hdesc
        subst d1; subst d2; subst hdesc; rfl
  have q7 := takes_eq ht (by omega) (by omega)
  clear ht hge hj
  have e3 := e3.trans' e
  have bp := bp.ext e
  have bq := bq.ext e
  have hp := hp.ext e
  have hq := hq.ext e
  clear e
  repeat (first | refine ⟨_, Blk.cell (bp) (by rfl), ?_⟩ | refine ⟨_, _, _, Blk.cell (bp) (by rfl), ?_⟩)
  -- totals
  refine ⟨fun x v => ∃ j : Nat, j ≤ p.tots.length ∧ x = (j : Int) ∧ p.tots.take j = q.tots.take j ∧ Ext u2 v, fun x _ => ((p.tots.length : Int) - x).toNat, ⟨0, by omega, rfl, rfl, .refl _ _⟩, ?_⟩
  rintro _ u3 ⟨j, hj, rfl, ht, e⟩
  refine brd (fun hlt => ?_) (fun hge => ?_)
  · have h1 : j < p.tots.length := by omega
    have h2 : j < q.tots.length := by omega
    obtain ⟨ad, hA, cs, hrep, hc⟩ := at1 (hp.ext e).tots h1
    obtain rfl : cs = totC p.tots[j] := hrep
    obtain ⟨ad', hA', cs', hrep', hc'⟩ := at1 (hq.ext e).tots h2
    obtain rfl : cs' = totC q.tots[j] := hrep'
    refine ⟨fun v' => Ext u3 v', Fr.drew NoB u3, _, _, _, fun v k => (bp.ext (e.trans' k)).cell rfl, ad, hA, ⟨by omega, by omega⟩, _, fun v k => hc v k 0 _ rfl, _, fun v k => hc v k 1 _ rfl,
      _, _, _, fun v k => (bq.ext (e.trans' k)).cell rfl, ad', hA', ⟨by omega, by omega⟩, _, fun v k => hc' v k 0 _ rfl, _, fun v k => hc' v k 1 _ rfl, brf (by kernel_rfl) (brnb (fun hf => ?_) (fun hs => ?_))⟩
    · refine no _ (e3.trans' e).drew (fun h => ?_)
      subst h
      simp at hf
    · rw [wi ((j : Int) + 1) (by omega) (by omega)]
      refine ⟨⟨j + 1, by omega, rfl, takes_step ht h1 h2 ?_, e.drew⟩, by dsimp only; omega⟩
      simp only [Bool.and_eq_true, decide_eq_true_eq, str_iff, and_true] at hs
      generalize p.tots[j] = x at hs ⊢
      generalize q.tots[j] = y at hs ⊢
      cases x; cases y
      obtain ⟨r1, r2⟩ := hs
      simp only at r1 r2
      subst r1; subst r2; rfl
  have q8 := takes_eq ht (by omega) (by omega)
  clear ht hge hj
  have e3 := e3.trans' e
  have bp := bp.ext e
  have bq := bq.ext e
  have hp := hp.ext e
  have hq := hq.ext e
  clear e
  repeat (first | refine ⟨_, Blk.cell (bp) (by rfl), ?_⟩ | refine ⟨_, _, _, Blk.cell (bp) (by rfl), ?_⟩)
  -- the code
  refine ⟨fun x v => ∃ j : Nat, j ≤ p.code.length ∧ x = (j : Int) ∧ p.code.take j = q.code.take j ∧ Ext u3 v, fun x _ => ((p.code.length : Int) - x).toNat, ⟨0, by omega, rfl, rfl, .refl _ _⟩, ?_⟩
  rintro _ u4 ⟨j, hj, rfl, ht, e⟩
  refine brd (fun hlt => ?_) (fun hge => ?_)
  · have h1 : j < p.code.length := by omega
    have h2 : j < q.code.length := by omega
    obtain ⟨ad, hA, cs, hrep, hc⟩ := at1 (hp.ext e).code h1
    obtain rfl : cs = insC p.code[j] := hrep
    obtain ⟨ad', hA', cs', hrep', hc'⟩ := at1 (hq.ext e).code h2
    obtain rfl : cs' = insC q.code[j] := hrep'
    refine ⟨fun v' => Ext u4 v', Fr.drew NoB u4, _, _, _, fun v k => (bp.ext (e.trans' k)).cell rfl, ad, hA, ⟨by omega, by omega⟩, _, fun v k => hc v k 0 _ rfl, _, fun v k => hc v k 1 _ rfl, _, fun v k => hc v k 2 _ rfl, _, fun v k => hc v k 3 _ rfl, _, fun v k => hc v k 4 _ rfl,
      _, _, _, fun v k => (bq.ext (e.trans' k)).cell rfl, ad', hA', ⟨by omega, by omega⟩, _, fun v k => hc' v k 0 _ rfl, _, fun v k => hc' v k 1 _ rfl, _, fun v k => hc' v k 2 _ rfl, _, fun v k => hc' v k 3 _ rfl, _, fun v k => hc' v k 4 _ rfl, brf (by kernel_rfl) (brnb (fun hf => ?_) (fun hs => ?_))⟩
    · refine no _ (e3.trans' e).drew (fun h => ?_)
      subst h
      simp at hf
    · rw [wi ((j : Int) + 1) (by omega) (by omega)]
      refine ⟨⟨j + 1, by omega, rfl, takes_step ht h1 h2 ?_, e.drew⟩, by dsimp only; omega⟩
      simp only [Bool.and_eq_true, decide_eq_true_eq, str_iff, and_true] at hs
      generalize p.code[j] = x at hs ⊢
      generalize q.code[j] = y at hs ⊢
      cases x; cases y
      obtain ⟨r1, r2, r3, r4, r5⟩ := hs
      simp only at r1 r2 r3 r4 r5
      subst r1; subst r2; subst r3; subst r4; subst r5; rfl
  have q9 := takes_eq ht (by omega) (by omega)
  refine ⟨⟨true, rfl, fun _ => ?_, fun _ => rfl⟩, e3.trans' e⟩
  clear hb no hp hq bp bq gp
  cases p; cases q
  simp only at q1 q2 q3 q4 q5 q6 q7 q8 q9
  subst q1; subst q2; subst q3; subst q4; subst q5; subst q6; subst q7; subst q8; subst q9; rfl
end Go.Proofs.YtaifphjenebgoaaDoor
/- Layer 3, plain: what is read of bytes. -/
set_option linter.unusedVariables false
set_option linter.unusedSimpArgs false
namespace R1
open Go.Sx

/-- a number, the highest byte first -/
def be' : Nat → List UInt8 → Nat
  | n, [] => n
  | n, c :: r => be' (n * 256 + c.toNat) r
def be (l : List UInt8) : Nat := be' 0 l
theorem be'_snoc : ∀ (l : List UInt8) (n : Nat) (c : UInt8), be' n (l ++ [c]) = be' n l * 256 + c.toNat
  | [], n, c => rfl
  | x :: l, n, c => be'_snoc l (n * 256 + x.toNat) c
theorem be_snoc (l : List UInt8) (c : UInt8) : be (l ++ [c]) = be l * 256 + c.toNat := be'_snoc l 0 c
theorem be_nil : be [] = 0 := rfl
theorem be_lt (l : List UInt8) : be l < 256 ^ l.length := by
  rw [← List.reverse_reverse l]
  induction l.reverse with
  | nil => simp [be, be']
  | cons c r ih =>
    rw [List.reverse_cons, be_snoc, List.length_append, List.length_singleton, Nat.pow_succ]
    have := c.toNat_lt
    omega
/-- as a signed number of k bytes -/
def sgn (k m : Nat) : Int := if m < 2 ^ (8 * k - 1) then (m : Int) else (m : Int) - ((2 ^ (8 * k) : Nat) : Int)
/-- a value of a sort, and how many bytes it has -/
def got (b : List UInt8) (k : Nat) : Option (V × Nat) :=
  if k = 0 then some (⟨0, 0, ByteArray.mk #[]⟩, 0)
  else if k ≤ 8 then (if b.length < k then none else if wide (sgn k (be (b.take k))) = k then some (⟨1, sgn k (be (b.take k)), ByteArray.mk #[]⟩, k) else none)
  else if k = 9 then none
  else if 65536 < (k - 10) / 2 then none
  else if b.length < (k - 10) / 2 then none
  else some (⟨if k % 2 = 1 then 2 else 3, 0, ⟨(b.take ((k - 10) / 2)).toArray⟩⟩, (k - 10) / 2)
/-- n sorts, from a place on -/
def sortsP (b : List UInt8) : Nat → Int → Option (List Nat × Int)
  | 0, at_ => some ([], at_)
  | n + 1, at_ => if (B1.getU b at_).2.2 ≠ 0 then none else (sortsP b n (B1.getU b at_).2.1).map fun r => ((B1.getU b at_).1 :: r.1, r.2)
/-- values of these sorts, from a place on -/
def rowsP (b : List UInt8) : List Nat → Nat → Option (List V × Nat)
  | [], at_ => some ([], at_)
  | k :: ks, at_ => match got (b.drop at_) k with
    | none => none
    | some (v, n) => (rowsP b ks (at_ + n)).map fun r => (v :: r.1, r.2)
def getP (b : List UInt8) : Option (List V) :=
  if (B1.getU b 0).2.2 ≠ 0 ∨ 200 < (B1.getU b 0).1 ∨ 1048576 < b.length then none
  else match sortsP b (B1.getU b 0).1 (B1.getU b 0).2.1 with
    | none => none
    | some (ks, at_) => match rowsP b ks at_.toNat with
      | none => none
      | some (row, e) => if e < b.length then none else some row
/-- a text's bytes, up to where it ends; how many there are -/
def unesc : List UInt8 → Option (List UInt8 × Nat)
  | [] => none
  | [_] => none
  | c :: d :: r => if c ≠ 0 then (unesc (d :: r)).map fun x => (c :: x.1, x.2 + 1) else if d = 255 then (unesc r).map fun x => (0 :: x.1, x.2 + 2) else if d = 0 then some ([], 2) else none
termination_by l => l.length
/-- a value at the begin of a key -/
def partedP : List UInt8 → Option (V × Nat)
  | [] => none
  | t :: r =>
    if t = 1 then some (⟨0, 0, ByteArray.mk #[]⟩, 1)
    else if t = 2 then (if r.length < 8 then none else some (⟨1, (be (r.take 8) : Int) - 9223372036854775808, ByteArray.mk #[]⟩, 9))
    else if t = 3 ∨ t = 4 then (match unesc r with
      | none => none
      | some (s, n) => if s.length ≤ 65536 then some (⟨(t.toNat : Int) - 1, 0, ⟨s.toArray⟩⟩, n + 1) else none)
    else none
def unkeyP : List UInt8 → List Bool → Option (List V)
  | b, [] => if b = [] then some [] else none
  | b, d :: ds => match partedP (tn d b) with
    | none => none
    | some (v, n) => (unkeyP (b.drop n) ds).map fun l => v :: l
def unkeyR (b : List UInt8) (ds : List Bool) : Option (List V) := if 200 < ds.length ∨ 1048576 < b.length then none else unkeyP b ds
end R1
/- Layer 3, plain: what is put is got; what is got, put again, is the same. -/
set_option linter.unusedVariables false
set_option linter.unusedSimpArgs false
namespace R1
open Go.Sx

/-! ## numbers -/
theorem be'_eq : ∀ (l : List UInt8) (n : Nat), be' n l = n * 256 ^ l.length + be l
  | [], n => by simp [be', be]
  | c :: r, n => by
    have h1 := be'_eq r (n * 256 + c.toNat)
    have h2 := be'_eq r (0 * 256 + c.toNat)
    show be' (n * 256 + c.toNat) r = _
    have h3 : be (c :: r) = be' (0 * 256 + c.toNat) r := rfl
    rw [h1, h3, h2, List.length_cons, Nat.pow_succ, Nat.add_mul, Nat.mul_assoc, Nat.mul_comm 256 (256 ^ r.length)]
    simp [Nat.add_assoc]
theorem be_cons (c : UInt8) (r : List UInt8) : be (c :: r) = c.toNat * 256 ^ r.length + be r := by
  show be' (0 * 256 + c.toNat) r = _
  rw [be'_eq]; simp
theorem be_hi (m : Nat) : ∀ k, be (hi m k) = m % 256 ^ k
  | 0 => by simp [hi, be, be', Nat.mod_one]
  | k + 1 => by
    rw [hi, be_cons, hi_length, be_hi m k, Nat.pow_succ, Nat.mod_mul]
    have : ((m / 256 ^ k % 256).toUInt8).toNat = m / 256 ^ k % 256 := B1.toUInt8_toNat (Nat.mod_lt _ (by decide))
    rw [this, Nat.mul_comm, Nat.add_comm]
theorem hi_be : ∀ (l : List UInt8) (m : Nat), m % 256 ^ l.length = be l → hi m l.length = l
  | [], m, _ => rfl
  | c :: r, m, h => by
    rw [be_cons, List.length_cons, Nat.pow_succ, Nat.mod_mul] at h
    have hb := be_lt r
    have hp : 0 < 256 ^ r.length := Nat.pow_pos (by decide)
    have hm := Nat.mod_lt m hp
    have h1 : m % 256 ^ r.length = be r := by
      have := congrArg (· % 256 ^ r.length) h
      simp only [Nat.add_mul_mod_self_left] at this
      rw [Nat.mod_eq_of_lt hm, Nat.mul_comm, Nat.add_comm, Nat.add_mul_mod_self_left, Nat.mod_eq_of_lt hb] at this
      exact this
    have h2 : m / 256 ^ r.length % 256 = c.toNat := by
      have : 256 ^ r.length * (m / 256 ^ r.length % 256) = 256 ^ r.length * c.toNat := by
        rw [Nat.mul_comm (256 ^ r.length) c.toNat]; omega
      exact Nat.eq_of_mul_eq_mul_left hp this
    rw [List.length_cons, hi, h2, hi_be r m h1]
    simp

/-! ## keys -/
theorem unesc_esc : ∀ (s r : List UInt8), unesc (esc s ++ 0 :: 0 :: r) = some (s, (esc s).length + 2)
  | [], r => by
    show unesc (0 :: 0 :: r) = _
    rw [unesc, if_neg (by decide), if_neg (by decide), if_pos rfl]; rfl
  | c :: s, r => by
    have ih := unesc_esc s r
    rw [esc]
    by_cases hc : c = 0
    · rw [if_pos hc]
      show unesc (0 :: 255 :: (esc s ++ 0 :: 0 :: r)) = _
      rw [unesc, if_neg (by decide), if_pos rfl, ih, hc]
      simp
    · rw [if_neg hc]
      have hne : ∃ d t, esc s ++ 0 :: 0 :: r = d :: t := by
        cases he : esc s ++ 0 :: 0 :: r with
        | nil => simp at he
        | cons d t => exact ⟨d, t, rfl⟩
      obtain ⟨d, t, hd⟩ := hne
      show unesc (c :: (esc s ++ 0 :: 0 :: r)) = _
      rw [hd] at ih ⊢
      rw [unesc, if_pos hc, ih]
      simp
theorem unesc_canon : ∀ (l s : List UInt8) (n : Nat), unesc l = some (s, n) → l.take n = esc s ++ [0, 0] ∧ n = (esc s).length + 2 := by
  intro l
  induction hk : l.length using Nat.strongRecOn generalizing l with
  | ind k ih =>
    intro s n h
    subst hk
    match l, h with
    | [], h => rw [unesc] at h; cases h
    | [c], h => rw [unesc] at h; cases h
    | c :: d :: r, h =>
      rw [unesc] at h
      split at h
      · rename_i hc
        cases hu : unesc (d :: r) with
        | none => rw [hu] at h; cases h
        | some x =>
          rw [hu] at h
          have := ih _ (by simp only [List.length_cons]; omega) (d :: r) rfl x.1 x.2 hu
          simp only [Option.map_some, Option.some.injEq, Prod.mk.injEq] at h
          obtain ⟨rfl, rfl⟩ := h
          rw [List.take_succ_cons, this.1, esc, if_neg hc]
          exact ⟨rfl, by rw [List.length_cons]; omega⟩
      · rename_i hc
        have hc : c = 0 := by simpa using hc
        split at h
        · rename_i hd
          cases hu : unesc r with
          | none => rw [hu] at h; cases h
          | some x =>
            rw [hu] at h
            have := ih _ (by simp only [List.length_cons]; omega) r rfl x.1 x.2 hu
            simp only [Option.map_some, Option.some.injEq, Prod.mk.injEq] at h
            obtain ⟨rfl, rfl⟩ := h
            rw [List.take_succ_cons, List.take_succ_cons, this.1, esc, if_pos rfl, hc, hd]
            exact ⟨rfl, by rw [List.length_cons, List.length_cons]; omega⟩
        · split at h
          · rename_i hd
            simp only [Option.some.injEq, Prod.mk.injEq] at h
            obtain ⟨rfl, rfl⟩ := h
            rw [hc, hd]; exact ⟨rfl, rfl⟩
          · cases h
theorem sb_mk (l : List UInt8) : sb ⟨l.toArray⟩ = l := by simp [sb]
theorem mk_sb (s : ByteArray) : (⟨(sb s).toArray⟩ : ByteArray) = s := by simp [sb]
theorem empty_of {s : ByteArray} (h : s.size = 0) : s = ByteArray.mk #[] := by
  obtain ⟨a⟩ := s
  have : a.size = 0 := h
  rw [Array.size_eq_zero_iff] at this
  rw [this]
theorem right0 {v : V} (h : right v = true) (hk : v.k = 0) : v = ⟨0, 0, ByteArray.mk #[]⟩ := by
  obtain ⟨k, n, s⟩ := v
  dsimp only at hk; subst hk
  unfold right at h
  rw [if_pos rfl] at h
  have := of_decide_eq_true h
  dsimp only at this
  rw [this.1, empty_of this.2]
theorem right1 {v : V} (h : right v = true) (hk : v.k = 1) : v = ⟨1, v.n, ByteArray.mk #[]⟩ := by
  obtain ⟨k, n, s⟩ := v
  dsimp only at hk; subst hk
  unfold right at h
  rw [if_neg (by simp), if_pos rfl] at h
  have := of_decide_eq_true h
  dsimp only at this ⊢
  rw [empty_of this]
theorem right2 {v : V} (h : right v = true) (h0 : v.k ≠ 0) (h1 : v.k ≠ 1) : (v.k = 2 ∨ v.k = 3) ∧ v.s.size ≤ 65536 ∧ v = ⟨v.k, 0, v.s⟩ := by
  obtain ⟨k, n, s⟩ := v
  unfold right at h
  rw [if_neg h0, if_neg h1] at h
  split at h
  · rename_i hk
    have := of_decide_eq_true h
    dsimp only at this ⊢
    exact ⟨hk, this.2, by rw [this.1]⟩
  · cases h
theorem sb_size (l : List UInt8) : (⟨l.toArray⟩ : ByteArray).size = l.length := by simp [ByteArray.size]
theorem rightT {k : Int} {s : ByteArray} (hk : k = 2 ∨ k = 3) (hs : s.size ≤ 65536) : right ⟨k, 0, s⟩ = true ∧ good ⟨k, 0, s⟩ := by
  refine ⟨?_, ⟨by dsimp only; omega, by dsimp only; omega⟩, by simp only [Go.maxLen]; omega⟩
  unfold right
  rw [if_neg (by dsimp only; omega), if_neg (by dsimp only; omega), if_pos hk]
  exact decide_eq_true ⟨rfl, hs⟩
theorem rightN {n : Int} (h : -9223372036854775808 ≤ n) (h2 : n ≤ 9223372036854775807) : right ⟨1, n, ByteArray.mk #[]⟩ = true ∧ good ⟨1, n, ByteArray.mk #[]⟩ :=
  ⟨rfl, ⟨show (0 : Int) ≤ 1 by decide, show (1 : Int) ≤ 255 by decide⟩, ⟨h, h2⟩, Nat.zero_le _⟩
theorem rightZ : right ⟨0, 0, ByteArray.mk #[]⟩ = true ∧ good ⟨0, 0, ByteArray.mk #[]⟩ := ⟨rfl, ⟨by decide, by decide⟩, ⟨by decide, by decide⟩, by decide⟩
theorem parted_part {v : V} (hr : right v = true) (hg : good v) (r : List UInt8) : partedP (kpart v ++ r) = some (v, (kpart v).length) := by
  unfold kpart
  by_cases h0 : v.k = 0
  · rw [if_pos h0]
    show partedP (1 :: r) = _
    rw [partedP, if_pos rfl, ← right0 hr h0]; rfl
  rw [if_neg h0]
  by_cases h1 : v.k = 1
  · rw [if_pos h1]
    have hl := hi_length (v.n + 9223372036854775808).toNat 8
    have hn := hg.2.1
    show partedP (2 :: (hi _ 8 ++ r)) = _
    rw [partedP, if_neg (by decide), if_pos rfl, if_neg (by simp [hl])]
    have ht : (hi (v.n + 9223372036854775808).toNat 8 ++ r).take 8 = hi (v.n + 9223372036854775808).toNat 8 := List.take_left' hl
    rw [ht, be_hi, Nat.mod_eq_of_lt (by omega), Int.toNat_of_nonneg (by omega), show v.n + 9223372036854775808 - 9223372036854775808 = v.n by omega, ← right1 hr h1]
    simp [hl]
  rw [if_neg h1]
  obtain ⟨hk, hs, hv⟩ := right2 hr h0 h1
  generalize ht : (if v.k = 2 then (3 : UInt8) else 4) = t
  have ht2 : ((t.toNat : Int) - 1 = v.k) ∧ (t = 3 ∨ t = 4) := by
    rcases hk with hk | hk
    · rw [if_pos hk] at ht; subst ht; exact ⟨by rw [hk]; rfl, .inl rfl⟩
    · rw [if_neg (by omega)] at ht; subst ht; exact ⟨by rw [hk]; rfl, .inr rfl⟩
  have : (t :: esc (sb v.s) ++ [0, 0]) ++ r = t :: (esc (sb v.s) ++ 0 :: 0 :: r) := by simp
  rw [this, partedP, if_neg (by rcases ht2.2 with h | h <;> rw [h] <;> decide), if_neg (by rcases ht2.2 with h | h <;> rw [h] <;> decide), if_pos ht2.2, unesc_esc]
  dsimp only
  rw [if_pos (by rw [sb_length]; exact hs), mk_sb, ht2.1, ← hv]
  simp
theorem take_cons_part (t : UInt8) (r : List UInt8) (n : Nat) : (t :: r).take (n + 1) = t :: r.take n := rfl
theorem parted_canon {b : List UInt8} {v : V} {n : Nat} (h : partedP b = some (v, n)) : b.take n = kpart v ∧ n = (kpart v).length ∧ n ≤ b.length ∧ right v = true ∧ good v := by
  suffices hs : b.take n = kpart v ∧ n = (kpart v).length ∧ right v = true ∧ good v by
    refine ⟨hs.1, hs.2.1, ?_, hs.2.2⟩
    have := congrArg List.length hs.1
    rw [List.length_take, ← hs.2.1] at this
    omega
  match b, h with
  | [], h => cases h
  | t :: r, h =>
    rw [partedP] at h
    split at h
    · rename_i ht
      cases h
      refine ⟨?_, rfl, rightZ⟩
      rw [ht]; rfl
    · split at h
      · rename_i ht
        split at h
        · cases h
        · rename_i hl
          simp only [Option.some.injEq, Prod.mk.injEq] at h
          obtain ⟨rfl, rfl⟩ := h
          have htl : (r.take 8).length = 8 := by rw [List.length_take]; omega
          have hb := be_lt (r.take 8)
          rw [htl] at hb
          have hb : be (r.take 8) < 18446744073709551616 := hb
          have hk : kpart ⟨1, (be (r.take 8) : Int) - 9223372036854775808, ByteArray.mk #[]⟩ = 2 :: r.take 8 := by
            unfold kpart
            rw [if_neg (by simp), if_pos rfl]
            dsimp only
            rw [show ((be (r.take 8) : Int) - 9223372036854775808 + 9223372036854775808).toNat = be (r.take 8) by omega]
            have := hi_be (r.take 8) (be (r.take 8)) (Nat.mod_eq_of_lt (by rw [htl]; exact hb))
            rw [htl] at this
            rw [this]
          refine ⟨by rw [hk, ht]; rfl, by rw [hk, List.length_cons, htl], rightN (by omega) (by omega)⟩
      · split at h
        · rename_i ht
          cases hu : unesc r with
          | none => rw [hu] at h; cases h
          | some x =>
            obtain ⟨s, m⟩ := x
            obtain ⟨q1, q2⟩ := unesc_canon r s m hu
            rw [hu] at h
            dsimp only at h
            split at h
            · rename_i hs
              simp only [Option.some.injEq, Prod.mk.injEq] at h
              obtain ⟨rfl, rfl⟩ := h
              have hk : kpart ⟨(t.toNat : Int) - 1, 0, ⟨s.toArray⟩⟩ = t :: esc s ++ [0, 0] := by
                unfold kpart
                rcases ht with rfl | rfl
                · dsimp only
                  rw [if_neg (by decide), if_neg (by decide), if_pos (by decide), sb_mk]
                · dsimp only
                  rw [if_neg (by decide), if_neg (by decide), if_neg (by decide), sb_mk]
              refine ⟨by rw [hk, take_cons_part, q1]; rfl, by rw [hk, q2]; simp, rightT (by rcases ht with rfl | rfl <;> decide) (by rw [sb_size]; exact hs)⟩
            · cases h
        · cases h
theorem tn_append (d : Bool) (p q : List UInt8) : tn d (p ++ q) = tn d p ++ tn d q := by cases d <;> simp [tn]
theorem n8 (b : UInt8) : ~~~(~~~b) = b := UInt8.eq_of_toBitVec_eq (by simp)
theorem tn2 (d : Bool) (l : List UInt8) : tn d (tn d l) = l := by
  cases d
  · rfl
  · simp [tn, Function.comp_def, n8]
theorem tn_take (d : Bool) (l : List UInt8) (n : Nat) : (tn d l).take n = tn d (l.take n) := by
  cases d
  · rfl
  · simp [tn, List.map_take]
theorem unkey_key : ∀ (a : List V) (ds : List Bool) (x : List UInt8), a.length = ds.length → (∀ v ∈ a, right v = true) → (∀ v ∈ a, good v) → unkeyP (key a ds ++ x) ds = if x = [] then some a else none
  | [], [], x, _, _, _ => by
    show unkeyP x [] = _
    rw [unkeyP]
  | v :: a, d :: ds, x, hl, hr, hg => by
    have ih := unkey_key a ds x (by simpa using hl) (fun v h => hr v (.tail _ h)) (fun v h => hg v (.tail _ h))
    rw [key, unkeyP, List.append_assoc, tn_append, tn2, parted_part (hr v (.head _)) (hg v (.head _))]
    dsimp only
    rw [show (kpart v).length = (tn d (kpart v)).length by rw [tn_length], List.drop_left, ih]
    split <;> rfl
  | [], _ :: _, _, h, _, _ => by simp at h
  | _ :: _, [], _, h, _, _ => by simp at h
theorem unkey_canon : ∀ (ds : List Bool) (b : List UInt8) (a : List V), unkeyP b ds = some a → b = key a ds ∧ a.length = ds.length ∧ (∀ v ∈ a, right v = true) ∧ ∀ v ∈ a, good v
  | [], b, a, h => by
    rw [unkeyP] at h
    split at h
    · rename_i hb; cases h; subst hb; simp [key]
    · cases h
  | d :: ds, b, a, h => by
    rw [unkeyP] at h
    cases hp : partedP (tn d b) with
    | none => rw [hp] at h; cases h
    | some x =>
      obtain ⟨v, n⟩ := x
      rw [hp] at h
      dsimp only at h
      obtain ⟨q1, q2, q3, q4, q5⟩ := parted_canon hp
      cases hu : unkeyP (b.drop n) ds with
      | none => rw [hu] at h; cases h
      | some l =>
        rw [hu] at h
        cases h
        obtain ⟨i1, i2, i3, i4⟩ := unkey_canon ds _ _ hu
        refine ⟨?_, by simp [i2], fun w hw => ?_, fun w hw => ?_⟩
        · rw [key, ← q1, tn_take, tn2, ← i1, List.take_append_drop]
        · rcases List.mem_cons.1 hw with rfl | hw
          · exact q4
          · exact i3 w hw
        · rcases List.mem_cons.1 hw with rfl | hw
          · exact q5
          · exact i4 w hw
/-- cut, a key is none -/
theorem unkey_cut {a : List V} {ds : List Bool} (hl : a.length = ds.length) (hr : ∀ v ∈ a, right v = true) (hg : ∀ v ∈ a, good v) {j : Nat} (hj : j < (key a ds).length) : unkeyP ((key a ds).take j) ds = none := by
  cases h : unkeyP ((key a ds).take j) ds with
  | none => rfl
  | some c =>
    obtain ⟨q1, q2, q3, q4⟩ := unkey_canon ds _ _ h
    have h1 := unkey_key c ds ((key a ds).drop j) q2 q3 q4
    rw [← q1, List.take_append_drop, if_neg (by intro he; rw [List.drop_eq_nil_iff] at he; omega)] at h1
    have h2 := unkey_key a ds [] hl hr hg
    rw [List.append_nil, if_pos rfl, h1] at h2
    cases h2
theorem key_inj {a c : List V} {ds : List Bool} (hl : a.length = ds.length) (hr : ∀ v ∈ a, right v = true) (hg : ∀ v ∈ a, good v) (hl2 : c.length = ds.length) (hr2 : ∀ v ∈ c, right v = true) (hg2 : ∀ v ∈ c, good v) (x : List UInt8) (h : key a ds = key c ds ++ x) : x = [] := by
  have h1 := unkey_key a ds [] hl hr hg
  have h2 := unkey_key c ds x hl2 hr2 hg2
  rw [List.append_nil, if_pos rfl, h, h2] at h1
  split at h1
  · assumption
  · cases h1

/-! ## rows -/
theorem wideFrom_fits (n : Int) : ∀ f k, fits n (wideFrom n f k) = true ∨ wideFrom n f k = f + k
  | 0, k => .inr (by simp [wideFrom])
  | f + 1, k => by
    unfold wideFrom
    by_cases h : fits n k = true
    · rw [if_pos h]; exact .inl h
    · rw [if_neg h]
      rcases wideFrom_fits n f (k + 1) with h | h
      · exact .inl h
      · exact .inr (by omega)
theorem fits_wide {n : Int} (h : -9223372036854775808 ≤ n) (h2 : n ≤ 9223372036854775807) : fits n (wide n) = true := by
  rcases wideFrom_fits n 7 1 with hw | hw
  · exact hw
  · show fits n (wideFrom n 7 1) = true
    rw [hw]
    exact decide_eq_true ⟨by simpa using h, by simp; omega⟩
theorem cases8 {k : Nat} (h : 1 ≤ k) (h2 : k ≤ 8) : k = 1 ∨ k = 2 ∨ k = 3 ∨ k = 4 ∨ k = 5 ∨ k = 6 ∨ k = 7 ∨ k = 8 := by omega
theorem sgn_hi {n : Int} {k : Nat} (h1 : 1 ≤ k) (h8 : k ≤ 8) (h : fits n k = true) : sgn k ((n % 18446744073709551616).toNat % 256 ^ k) = n := by
  have h := of_decide_eq_true h
  rcases cases8 h1 h8 with rfl | rfl | rfl | rfl | rfl | rfl | rfl | rfl <;> (unfold sgn; simp at h ⊢; split <;> omega)
theorem hi_sgn {x k : Nat} (h1 : 1 ≤ k) (h8 : k ≤ 8) (h : x < 256 ^ k) : (sgn k x % 18446744073709551616).toNat % 256 ^ k = x ∧ -9223372036854775808 ≤ sgn k x ∧ sgn k x ≤ 9223372036854775807 := by
  rcases cases8 h1 h8 with rfl | rfl | rfl | rfl | rfl | rfl | rfl | rfl <;> (unfold sgn; simp at h ⊢; split <;> omega)
theorem got_body {v : V} (hr : right v = true) (hg : good v) (r : List UInt8) : got (body v ++ r) (sort v) = some (v, (body v).length) := by
  by_cases h0 : v.k = 0
  · have hv := right0 hr h0
    rw [hv]
    rfl
  by_cases h1 : v.k = 1
  · have hv := right1 hr h1
    have hn := hg.2.1
    have hw := fits_wide hn.1 hn.2
    have w1 := wide_pos v.n
    have w8 := wide_le v.n
    have hs : sort v = wide v.n := by unfold sort; rw [if_pos h1]
    have hb : body v = hi (v.n % 18446744073709551616).toNat (wide v.n) := by
      unfold body; rw [if_pos h1]
      have : sb v.s = [] := by rw [hv]; rfl
      rw [this, List.append_nil]
    have hl : (body v).length = wide v.n := by rw [hb, hi_length]
    rw [hs]
    unfold got
    rw [if_neg (by omega), if_pos w8, if_neg (by rw [List.length_append]; omega)]
    have ht : (body v ++ r).take (wide v.n) = body v := List.take_left' hl
    rw [ht, hl, hb, be_hi, sgn_hi w1 w8 hw, if_pos rfl, ← hv]
  · obtain ⟨hk, hs, hv⟩ := right2 hr h0 h1
    have hb : body v = sb v.s := by unfold body; rw [if_neg h1]; rfl
    have hl : (body v).length = v.s.size := by rw [hb, sb_length]
    have h3 : sort v = if v.k = 3 then 2 * v.s.size + 10 else 2 * v.s.size + 11 := by
      unfold sort; rw [if_neg h1]
      rcases hk with h | h
      · rw [if_neg (by omega), if_pos h, if_neg (by omega)]
      · rw [if_pos h, if_pos h]
    have h4 : (sort v - 10) / 2 = v.s.size ∧ 10 ≤ sort v ∧ (if sort v % 2 = 1 then (2 : Int) else 3) = v.k := by
      rw [h3]
      rcases hk with h | h
      · rw [if_neg (by omega), if_pos (by omega)]; exact ⟨by omega, by omega, h.symm⟩
      · rw [if_pos h, if_neg (by omega)]; exact ⟨by omega, by omega, h.symm⟩
    unfold got
    rw [if_neg (by omega), if_neg (by omega), if_neg (by omega), h4.1, if_neg (by omega), if_neg (by rw [List.length_append]; omega), h4.2.2]
    have ht : (body v ++ r).take v.s.size = body v := List.take_left' hl
    rw [ht, hl, hb, mk_sb, ← hv]
theorem got_canon {b : List UInt8} {k : Nat} {v : V} {n : Nat} (h : got b k = some (v, n)) : b.take n = body v ∧ n ≤ b.length ∧ sort v = k ∧ right v = true ∧ good v := by
  unfold got at h
  split at h
  · rename_i hk
    cases h
    exact ⟨rfl, Nat.zero_le _, by rw [hk]; rfl, rightZ⟩
  · split at h
    · split at h
      · cases h
      · split at h
        · rename_i hw
          simp only [Option.some.injEq, Prod.mk.injEq] at h
          obtain ⟨rfl, rfl⟩ := h
          have htl : (b.take k).length = k := by rw [List.length_take]; omega
          have hb := be_lt (b.take k)
          rw [htl] at hb
          obtain ⟨q1, q2, q3⟩ := hi_sgn (x := be (b.take k)) (k := k) (by omega) (by omega) hb
          refine ⟨?_, by omega, ?_, rightN q2 q3⟩
          · unfold body
            rw [if_pos rfl]
            dsimp only
            rw [hw, show sb (ByteArray.mk #[]) = [] from rfl, List.append_nil]
            have := hi_be (b.take k) _ (by rw [htl]; exact q1)
            rw [htl] at this
            exact this.symm
          · unfold sort
            rw [if_pos rfl]
            exact hw
        · cases h
    · split at h
      · cases h
      · split at h
        · cases h
        · split at h
          · cases h
          · simp only [Option.some.injEq, Prod.mk.injEq] at h
            obtain ⟨rfl, rfl⟩ := h
            have hz : (⟨(b.take ((k - 10) / 2)).toArray⟩ : ByteArray).size = (k - 10) / 2 := by rw [sb_size, List.length_take]; omega
            refine ⟨?_, by omega, ?_, rightT (by split <;> simp) (by omega)⟩
            · unfold body
              rw [if_neg (by dsimp only; split <;> decide)]
              dsimp only
              rw [sb_mk]; rfl
            · unfold sort
              dsimp only
              rw [hz]
              by_cases hk : k % 2 = 1
              · rw [if_pos hk, if_neg (by decide), if_neg (by decide), if_pos rfl]; omega
              · rw [if_neg hk, if_neg (by decide), if_pos rfl]; omega
theorem sort_lt' {v : V} (h : right v = true) : sort v < 18446744073709551616 := by
  have := right_size h
  have := wide_le v.n
  unfold sort; split
  · omega
  · split
    · omega
    · split <;> omega
def sortsB (l : List V) : List UInt8 := l.flatMap (fun v => B1.enc (sort v))
theorem sorts_put : ∀ (l : List V) (pre r : List UInt8), (∀ v ∈ l, right v = true) → sortsP (pre ++ (sortsB l ++ r)) l.length pre.length = some (l.map sort, ((pre ++ sortsB l).length : Int))
  | [], pre, r, _ => by simp [sortsP, sortsB]
  | v :: l, pre, r, h => by
    have hu := B1.getU_enc pre (sort v) (sortsB l ++ r) (sort_lt' (h v (.head _)))
    have e : sortsB (v :: l) = B1.enc (sort v) ++ sortsB l := rfl
    have ih := sorts_put l (pre ++ B1.enc (sort v)) r (fun v hv => h v (.tail _ hv))
    rw [List.append_assoc] at ih
    rw [List.length_append, List.append_assoc] at ih
    rw [List.length_cons, sortsP, e, List.append_assoc, hu]
    dsimp only
    rw [if_neg (by simp), ih]
    rfl
theorem rows_put : ∀ (l : List V) (pre r : List UInt8), (∀ v ∈ l, right v = true) → (∀ v ∈ l, good v) → rowsP (pre ++ (l.flatMap body ++ r)) (l.map sort) pre.length = some (l, (pre ++ l.flatMap body).length)
  | [], pre, r, _, _ => by simp [rowsP]
  | v :: l, pre, r, h, hg => by
    have ih := rows_put l (pre ++ body v) r (fun v hv => h v (.tail _ hv)) (fun v hv => hg v (.tail _ hv))
    rw [List.append_assoc, List.length_append, List.append_assoc] at ih
    rw [List.map_cons, rowsP, List.drop_left, List.flatMap_cons, List.append_assoc, got_body (h v (.head _)) (hg v (.head _))]
    dsimp only
    rw [ih]
    rfl
def rowB (l : List V) : List UInt8 := B1.enc l.length ++ sortsB l ++ l.flatMap body
theorem get_put {l : List V} (h200 : l.length ≤ 200) (hr : ∀ v ∈ l, right v = true) (hg : ∀ v ∈ l, good v) (x : List UInt8) (hlen : (rowB l ++ x).length ≤ 1048576) : getP (rowB l ++ x) = if x = [] then some l else none := by
  have hu := B1.getU_enc [] l.length (sortsB l ++ (l.flatMap body ++ x)) (by omega)
  rw [List.nil_append, List.length_nil] at hu
  have e : rowB l ++ x = B1.enc l.length ++ (sortsB l ++ (l.flatMap body ++ x)) := by unfold rowB; simp
  have h1 := sorts_put l (B1.enc l.length) (l.flatMap body ++ x) hr
  have h2 := rows_put l (B1.enc l.length ++ sortsB l) x hr hg
  rw [List.append_assoc] at h2
  unfold getP
  rw [e] at hlen ⊢
  have hu' : B1.getU (B1.enc l.length ++ (sortsB l ++ (l.flatMap body ++ x))) 0 = (l.length, ((B1.enc l.length).length : Int), 0) := by
    have : ((0 : Nat) : Int) = 0 := rfl
    rw [this] at hu
    rw [hu]; simp
  rw [hu']
  dsimp only
  rw [if_neg (by rintro (h | h | h) <;> omega), h1]
  dsimp only
  rw [Int.toNat_natCast, h2]
  dsimp only
  by_cases hx : x = []
  · subst hx
    rw [if_pos rfl, if_neg]
    simp
  · have := List.length_pos_iff.2 hx
    rw [if_neg hx, if_pos]
    simp only [List.length_append]
    omega
theorem take_more {b : List UInt8} {i n : Nat} {x : List UInt8} (h : (b.drop i).take n = x) : b.take (i + n) = b.take i ++ x := by
  rw [List.take_add, h]
theorem getU_canon {b : List UInt8} {at_ : Int} (h : (B1.getU b at_).2.2 = 0) : ∃ i u : Nat, at_ = (i : Int) ∧ (B1.getU b at_).2.1 = ((i + u : Nat) : Int) ∧ i + u ≤ b.length ∧ b.take (i + u) = b.take i ++ B1.enc (B1.getU b at_).1 := by
  unfold B1.getU at h ⊢
  by_cases hr : at_ < 0 ∨ (b.length : Int) < at_
  · rw [if_pos hr] at h; cases h
  · rw [if_neg hr] at h ⊢
    cases hd : B1.dec 0 (b.drop at_.toNat) with
    | short => rw [hd] at h; cases h
    | bad => rw [hd] at h; cases h
    | ok n u =>
      obtain ⟨q1, q2, q3, _⟩ := B1.dec_ok _ 0 n u (by omega) hd
      rw [List.length_drop] at q2
      exact ⟨at_.toNat, u, by omega, by show at_ + (u : Int) = _; omega, by omega, take_more q3⟩
theorem sorts_canon : ∀ (n : Nat) (b : List UInt8) (i : Nat) (ks : List Nat) (e : Int), i ≤ b.length → sortsP b n i = some (ks, e) → ks.length = n ∧ ∃ j : Nat, e = (j : Int) ∧ i ≤ j ∧ j ≤ b.length ∧ b.take j = b.take i ++ ks.flatMap B1.enc
  | 0, b, i, ks, e, hi, h => by
    rw [sortsP] at h
    cases h
    exact ⟨rfl, i, rfl, Nat.le_refl _, hi, by simp⟩
  | n + 1, b, i, ks, e, hi, h => by
    rw [sortsP] at h
    by_cases hne : (B1.getU b i).2.2 ≠ 0
    · rw [if_pos hne] at h; cases h
    · rw [if_neg hne] at h
      obtain ⟨i', u, hi', hx, hle, ht⟩ := getU_canon (by simpa using hne)
      have : i' = i := by omega
      subst this
      rw [hx] at h
      cases hs : sortsP b n ((i' + u : Nat) : Int) with
      | none => rw [hs] at h; cases h
      | some r =>
        obtain ⟨l, e'⟩ := r
        rw [hs] at h
        cases h
        obtain ⟨q1, j, q2, q3, q4, q5⟩ := sorts_canon n b (i' + u) l _ hle hs
        exact ⟨by simp [q1], j, q2, by omega, q4, by rw [q5, ht]; simp⟩
theorem rows_canon : ∀ (ks : List Nat) (b : List UInt8) (i : Nat) (row : List V) (e : Nat), i ≤ b.length → rowsP b ks i = some (row, e) → e ≤ b.length ∧ b.take e = b.take i ++ row.flatMap body ∧ row.map sort = ks ∧ (∀ v ∈ row, right v = true) ∧ ∀ v ∈ row, good v
  | [], b, i, row, e, hi, h => by
    rw [rowsP] at h
    cases h
    exact ⟨hi, by simp, rfl, by simp, by simp⟩
  | k :: ks, b, i, row, e, hi, h => by
    rw [rowsP] at h
    cases hg : got (b.drop i) k with
    | none => rw [hg] at h; cases h
    | some x =>
      obtain ⟨v, n⟩ := x
      rw [hg] at h
      dsimp only at h
      obtain ⟨q1, q2, q3, q4, q5⟩ := got_canon hg
      rw [List.length_drop] at q2
      cases hs : rowsP b ks (i + n) with
      | none => rw [hs] at h; cases h
      | some r =>
        obtain ⟨l, e'⟩ := r
        rw [hs] at h
        cases h
        obtain ⟨p1, p2, p3, p4, p5⟩ := rows_canon ks b (i + n) l _ (by omega) hs
        refine ⟨p1, by rw [p2, take_more q1]; simp, by simp [q3, p3], fun w hw => ?_, fun w hw => ?_⟩
        · rcases List.mem_cons.1 hw with rfl | hw
          · exact q4
          · exact p4 w hw
        · rcases List.mem_cons.1 hw with rfl | hw
          · exact q5
          · exact p5 w hw
theorem get_canon {b : List UInt8} {l : List V} (h : getP b = some l) : b = rowB l ∧ l.length ≤ 200 ∧ b.length ≤ 1048576 ∧ (∀ v ∈ l, right v = true) ∧ ∀ v ∈ l, good v := by
  unfold getP at h
  split at h
  · cases h
  · rename_i hc
    simp only [not_or, Classical.not_not] at hc
    obtain ⟨i, u, h0, hx, hle, ht⟩ := getU_canon hc.1
    have : i = 0 := by omega
    subst this
    rw [hx] at h
    generalize (B1.getU b 0).1 = N at *
    cases hs : sortsP b N ((0 + u : Nat) : Int) with
    | none => rw [hs] at h; cases h
    | some r =>
      obtain ⟨ks, e⟩ := r
      rw [hs] at h
      dsimp only at h
      obtain ⟨q1, j, rfl, q3, q4, q5⟩ := sorts_canon N b (0 + u) ks e hle hs
      rw [Int.toNat_natCast] at h
      cases hs2 : rowsP b ks j with
      | none => rw [hs2] at h; cases h
      | some r2 =>
        obtain ⟨row, e2⟩ := r2
        rw [hs2] at h
        dsimp only at h
        split at h
        · cases h
        · cases h
          obtain ⟨p1, p2, p3, p4, p5⟩ := rows_canon ks b j l e2 q4 hs2
          have he : e2 = b.length := by omega
          rw [he, List.take_length, q5, ht, List.take_zero, List.nil_append] at p2
          have hN : l.length = N := by rw [← q1, ← p3, List.length_map]
          refine ⟨?_, by omega, by omega, p4, p5⟩
          rw [p2]
          unfold rowB sortsB
          rw [hN, ← p3, List.flatMap_map]
theorem get_cut {l : List V} (h200 : l.length ≤ 200) (hr : ∀ v ∈ l, right v = true) (hg : ∀ v ∈ l, good v) (hlen : (rowB l).length ≤ 1048576) {j : Nat} (hj : j < (rowB l).length) : getP ((rowB l).take j) = none := by
  cases h : getP ((rowB l).take j) with
  | none => rfl
  | some c =>
    obtain ⟨q1, q2, q3, q4, q5⟩ := get_canon h
    have h1 := get_put q2 q4 q5 ((rowB l).drop j) (by rw [← q1, List.take_append_drop]; exact hlen)
    rw [← q1, List.take_append_drop, if_neg (by intro he; rw [List.drop_eq_nil_iff] at he; omega)] at h1
    have h2 := get_put h200 hr hg [] (by simpa using hlen)
    rw [List.append_nil, if_pos rfl, h1] at h2
    cases h2
theorem row_inj {a c : List V} (ha : a.length ≤ 200) (hr : ∀ v ∈ a, right v = true) (hg : ∀ v ∈ a, good v) (hl : (rowB a).length ≤ 1048576) (hc : c.length ≤ 200) (hr2 : ∀ v ∈ c, right v = true) (hg2 : ∀ v ∈ c, good v) (h : rowB a = rowB c) : a = c := by
  have h1 := get_put ha hr hg [] (by simpa using hl)
  have h2 := get_put hc hr2 hg2 [] (by rw [← h]; simpa using hl)
  rw [List.append_nil, if_pos rfl] at h1 h2
  rw [h, h2] at h1
  cases h1; rfl
end R1
/- Layer 15: CodeApart. -/
set_option linter.unusedVariables false
set_option linter.unusedSimpArgs false
namespace Go.Proofs.YtaifphjenebgoaaDoor
open Go Go.Sx R1 K15
theorem constE_eq {v : V} (hr : right v = true) : constE v = B1.enc 1 ++ (B1.enc (sort v) ++ body v) := by
  have h0 : rightRow [v] = 0 := by simp [rightRow, hr]
  have hp : putL [v] = B1.enc 1 ++ (B1.enc (sort v) ++ body v) := by simp [putL]
  have hs := right_size hr
  have h1 := B1.enc_le_ten (m := 1) (by omega)
  have h2 := B1.enc_le_ten (m := sort v) (sort_lt v hs)
  have h3 := body_length v
  unfold constE putR
  rw [if_neg (by rw [h0]; decide), if_neg (by rw [hp]; simp only [List.length_append]; omega)]
  exact hp
theorem constE_inj (v v' : V) (h : right v = true ∧ good v) (h' : right v' = true ∧ good v') (he : constE v = constE v') : v = v' := by
  rw [constE_eq h.1, constE_eq h'.1] at he
  have he := List.append_cancel_left he
  obtain ⟨h1, h2⟩ := sd_enc (sort_lt v (right_size h.1)) (sort_lt v' (right_size h'.1)) he
  have g1 := got_body h.1 h.2 []
  have g2 := got_body h'.1 h'.2 []
  rw [h1, h2, g2] at g1
  simp only [Option.some.injEq, Prod.mk.injEq] at g1
  exact g1.1.symm
theorem bytesR_ok {p : Prog} (h : (bytesR constE p).2 = 0) : checkP p = true ∧ (bytesR constE p).1 = bytesP constE p := by
  unfold bytesR at h ⊢
  split
  · next hc => rw [if_pos hc] at h; exact absurd h (by decide)
  · next hc =>
    rw [if_neg hc] at h
    split
    · next hb => rw [if_pos hb] at h; exact absurd h (by decide)
    · exact ⟨by simpa using hc, rfl⟩
set_option maxRecDepth 20000 in
set_option maxHeartbeats 4000000 in
theorem CodeApart_holds {w : World} {p q : Prog} {a a' : PAd} (hp : PIm w p a) (hq : PIm w q a') (gp : gProg p) (gq : gProg q) (hT : Tab w) :
    CallsV Tryd.prog 6 #[pagg p a, pagg q a'] w fun r w' => r = .bool true ∧ Ext w w' := by
  refine cardindexlaw15_CodeApart.calls okay ?_
  unfold cardindexlaw15_CodeApart.W
  intro g w1 f g1 w2 f1
  have bp : Blk w2 g (pcs p a) := f.blk.ext f1.ext
  have bq : Blk w2 g1 (pcs q a') := f1.blk
  have e2 := f.ext.trans' f1.ext
  clear f f1
  have fin : ∀ u, Ext w u → CallsV Tryd.prog 9 #[] u fun v w' => ∃ x, v = .bool x ∧ (Value.bool x = .bool true ∧ Ext w w') := fun u e => by
    refine (awake_spec (hT.ext e)).mono ?_
    rintro _ u1 ⟨rfl, e1⟩
    exact ⟨_, rfl, rfl, e.trans' e1⟩
  repeat (first | refine ⟨_, Blk.cell (bp) (by rfl), ?_⟩ | refine ⟨_, _, _, Blk.cell (bp) (by rfl), ?_⟩)
  refine (Great_spec (hp.ext e2)).mono ?_
  rintro _ w3 ⟨b, rfl, k3⟩
  have e3 := e2.trans' k3
  refine ⟨_, rfl, br (fun _ => fin w3 e3) (fun _ => ?_)⟩
  have bp := bp.ext k3
  have bq := bq.ext k3
  repeat (first | refine ⟨_, Blk.cell (bq) (by rfl), ?_⟩ | refine ⟨_, _, _, Blk.cell (bq) (by rfl), ?_⟩)
  refine (Great_spec (hq.ext e3)).mono ?_
  rintro _ w4 ⟨b', rfl, k4⟩
  have e4 := e3.trans' k4
  refine ⟨_, rfl, br (fun _ => fin w4 e4) (fun _ => ?_)⟩
  have bp := bp.ext k4
  have bq := bq.ext k4
  repeat (first | refine ⟨_, Blk.cell (bp) (by rfl), ?_⟩ | refine ⟨_, _, _, Blk.cell (bp) (by rfl), ?_⟩)
  refine (Bytes_spec (hp.ext e4) (hT.ext e4) gp).mono ?_
  rintro _ w5 ⟨A, c, rfl, ho, k5, _⟩
  have e5 := e4.trans' k5
  have bp := bp.ext k5
  have bq := bq.ext k5
  refine ⟨_, _, _, _, rfl, ?_⟩
  repeat (first | refine ⟨_, Blk.cell (bq) (by rfl), ?_⟩ | refine ⟨_, _, _, Blk.cell (bq) (by rfl), ?_⟩)
  refine (Bytes_spec (hq.ext e5) (hT.ext e5) gq).mono ?_
  rintro _ w6 ⟨A', c', rfl, ho', k6, _⟩
  have e6 := e5.trans' k6
  have bp := bp.ext k6
  have bq := bq.ext k6
  refine ⟨_, _, _, _, rfl, brn (fun _ => fin w6 e6) (fun h0 => brn (fun _ => fin w6 e6) (fun h1 => ?_))⟩
  obtain ⟨c1, l1⟩ := bytesR_ok h0
  obtain ⟨c2, l2⟩ := bytesR_ok h1
  have i1 : Imm KB NoB w6 A (bytesR constE p).1 := (ho.keep k6 (fun _ _ h => h)).imm (fun _ _ h => h)
  have i2 : Imm KB NoB w6 A' (bytesR constE q).1 := ho'.imm (fun _ _ h => h)
  refine ⟨fun u => Ext w6 u, Fr.drew NoB w6, _, fun u e => to_str_all bt i1 c u e, _, fun u e => to_str_all bt i2 c' u e, ?_⟩
  repeat (first | refine ⟨_, fun u e => Blk.cell (Blk.ext (bp) e) (by rfl), ?_⟩ | refine ⟨_, _, _, fun u e => Blk.cell (Blk.ext (bp) e) (by rfl), ?_⟩ | refine ⟨_, fun u e => Blk.cell (Blk.ext (bq) e) (by rfl), ?_⟩ | refine ⟨_, _, _, fun u e => Blk.cell (Blk.ext (bq) e) (by rfl), ?_⟩)
  refine (Same_spec (hp.ext e6.drew) (hq.ext e6.drew) gp).mono ?_
  rintro _ w7 ⟨⟨b, rfl, hb⟩, k7⟩
  have k7 := Ext.drew0 k7
  have e7 := e6.trans' k7
  have hs : (ByteArray.toList ⟨(bytesR constE p).1.toArray⟩ == ByteArray.toList ⟨(bytesR constE q).1.toArray⟩) = b := by
    rw [eq_str, l1, l2]
    by_cases hpq : p = q
    · rw [hb.2 hpq, hpq]; simp
    · have hb0 : b = false := by
        cases b with
        | false => rfl
        | true => exact absurd (hb.1 rfl) hpq
      rw [hb0]
      refine decide_eq_false (fun h => hpq ?_)
      exact bytes_inj constE_inj (fun v => by have := constE_len v; omega) ((checked c1).fine (fun i hi => (gp.code i hi).1) gp.consts) ((checked c2).fine (fun i hi => (gq.code i hi).1) gq.consts) h
  refine ⟨_, rfl, k7, brd (fun _ => ?_) (fun hne => absurd hs hne)⟩
  refine (awake_spec (hT.ext e7)).mono ?_
  rintro _ u1 ⟨rfl, e1⟩
  exact ⟨_, rfl, k7.trans' e1, rfl, e7.trans' e1⟩
end Go.Proofs.YtaifphjenebgoaaDoor
