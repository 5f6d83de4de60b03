/- Part 8 of the texts of this claim: the engine, contracts, plain laws. -/
import Derived.Test.YtadlhdiejmilmaaZCSavedP7
import Derived.Test.YtadlhdiejmilmaaZCSavedP6
import Derived.Test.YtadlhdiejmilmaaProg
import Derived.Test.YtadlhdiejmilmaaZCSavedP1
import Derived.Shelf.SlMaps.Clone
/- Layer 4: an arena that is full. -/
set_option linter.unusedVariables false
set_option linter.unusedSimpArgs false
namespace Go.Proofs.Ytadlhdiejmilmaa
open Go Go.Sx T4
abbrev KI : Kd Int := Kd.int .i64
theorem KI_pos : 0 < KI.size := by decide
theorem itemI {Ω : Nat → Prop} {w : World} {A : Option Addr} {l : List Int} (h : Imm KI Ω w A l) {j : Nat} (hj : j < l.length) : ∃ ad x, A = some ad ∧ w.cell? (ad.add (j * 1)) = some (.int .i64 x) := by
  obtain ⟨ad, hA, _, cs, hr, hv⟩ := h j l[j] (List.getElem?_eq_getElem hj)
  exact ⟨ad, l[j], hA, hv 0 _ (by rw [show cs = [.int .i64 l[j]] from hr]; rfl)⟩
/-- an arena of one tree and the map of what is in it -/
structure Both (w0 : World) (R M : Nat → Prop) (u : World) (g : Nat) (A : Ar) (H : Nat) (es : Es) (mb : Nat) (D : List (Int × Nat)) : Prop where
  hs : Hs w0 R M u g A
  sole : Sole A H es
  map : MapK fI u mb (mapE D)
  off : ¬ R mb
  ge : w0.heap.size ≤ mb
  rel : RelD D es
theorem Both.ext {w0 : World} {R M : Nat → Prop} {u u' : World} {g : Nat} {A : Ar} {H : Nat} {es : Es} {mb : Nat} {D : List (Int × Nat)} (h : Both w0 R M u g A H es mb D) (e : Ext u u') : Both w0 R M u' g A H es mb D :=
  ⟨h.hs.ext e, h.sole, h.map.ext e, h.off, h.ge, h.rel⟩
theorem Both.look {w0 : World} {R M : Nat → Prop} {u : World} {g : Nat} {A : Ar} {H : Nat} {es : Es} {mb : Nat} {D : List (Int × Nat)} (h : Both w0 R M u g A H es mb D) (n : Int) :
    ∃ x, RunsTo Try.prog (Instr.lookup 30 (.map (some mb)) (.int .i64 n) true) u (.tuple #[.int .i64 x, .bool (getT D n).isSome]) u := by
  have hl := (h.map.look (P := Try.prog) keyI (t := 30) (kt := 3) (et := 3) (by kernel_rfl) n (z := .int .i64 0) zeroI).1
  rw [getT_M] at hl
  cases hg : getT D n with
  | none => rw [hg] at hl; exact ⟨_, hl⟩
  | some i => rw [hg] at hl; exact ⟨_, hl⟩
/-- behind a Put that went: the map is told -/
theorem Both.told {w0 : World} {R M R' M' : Nat → Prop} {u u' : World} {g : Nat} {A A' : Ar} {H H' : Nat} {es : Es} {mb : Nat} {D : List (Int × Nat)} (h : Both w0 R M u g A H es mb D) (h' : Ar1 R' M' u' g A') (c : Chg R M u R' M' u') {n i : Nat} (hn : n < 65536) (hi : i < 65536) (S : Sole A' H' (insE (keyN n) (keyN i) es)) :
    ∃ v, RunsTo Try.prog (Instr.mapUpdate 30 (.map (some mb)) (.int .i64 (n : Int)) (.int .i64 (i : Int))) u' () v ∧ Both w0 R' M' v g A' H' (insE (keyN n) (keyN i) es) mb (setD D (n : Int) i) := by
  have hs' := h.hs.chg h' c
  have hmu := h.map.keep c.fr fun hm => h.off (h.hs.ar.mr _ hm)
  have hoff := c.off h.map.lt h.off
  obtain ⟨v, r, m, f⟩ := hmu.update (P := Try.prog) keyI (t := 30) (kt := 3) (et := 3) (by kernel_rfl) (n : Int) (iv i)
  rw [setD_map] at m
  exact ⟨v, r, hs'.frame f fun k e => e ▸ ⟨hoff, h.ge⟩, S, m, hoff, h.ge, h.rel.set h.sole.upE hn hi⟩
theorem Both.walks {w0 : World} {R M : Nat → Prop} {u : World} {g : Nat} {A : Ar} {H : Nat} {es : Es} {mb : Nat} {D : List (Int × Nat)} (h : Both w0 R M u g A H es mb D) (hl : es.length ≤ 1000000) :
    CallsV Try.prog 20 #[.pointer (some ⟨g, 0, none⟩), .map (some mb)] u fun r w' => r = .bool true ∧ Ext u w' := walks_spec h.hs.ar h.sole h.map h.rel hl
theorem len_insE_le (key val : Key) (es : Es) : (insE key val es).length ≤ es.length + 1 := by rw [len_insE]; split <;> omega
set_option maxRecDepth 100000 in
set_option maxHeartbeats 400000 in
theorem TreeFull_spec {Ω : Nat → Prop} {w : World} (fan most : Int) {LA : Option Addr} {lc : Nat} {l : List Int} (hl : Imm KI Ω w LA l) :
    CallsV Try.prog 3 #[.int .i64 fan, .int .i64 most, .slice LA l.length lc] w fun r w' => r = .bool true ∧ Ext w w' := by
  refine cardindexlaw04_TreeFull.calls okay ?_
  unfold cardindexlaw04_TreeFull.W
  refine (Pick_spec w most 40 (by decide) (by decide)).mono ?_
  rintro _ w' ⟨a, rfl, ha, hw'⟩
  obtain rfl : w = w' := hw'.symm
  refine ⟨_, rfl, (Pick_spec _ fan 6 (by decide) (by decide)).mono ?_⟩
  rintro _ w' ⟨b, rfl, hb, hw'⟩
  obtain rfl : w = w' := hw'.symm
  refine ⟨_, rfl, ?_⟩
  rw [wi (4 + (b : Int)) (by omega) (by omega), wi (1 + (a : Int)) (by omega) (by omega), show (4 : Int) + (b : Int) = ((4 + b : Nat) : Int) by omega, show (1 : Int) + (a : Int) = ((1 + a : Nat) : Int) by omega]
  refine (sNew _ (4 + b) (1 + a) (by omega) (by omega) (by omega) (by omega)).mono ?_
  rintro _ w1 ⟨g, R, M, rfl, _, _, _, hcr⟩
  refine ⟨_, _, rfl, hcr.mono ?_⟩
  rintro _ w2 ⟨rfl, R2, M2, h2, e2, hR2⟩
  have S2 := (sole_new (fan := 4 + b) (most := 1 + a) (by omega) (by omega) (by omega) (by omega)).2
  refine ⟨_, _, rfl, brn (fun h => absurd rfl h) fun _ => brn (fun h => absurd rfl h) fun _ => ⟨_, _, makeMap_run _ _, ?_⟩⟩
  generalize hw3 : w2.alloc (.map #[] 0) = w3
  have e3 : Ext w2 w3 := by rw [← hw3]; exact Fr.alloc NoB w2 _
  have hm3 : MapK fI w3 w2.heap.size (mapE []) := by rw [← hw3]; exact ⟨#[], 0, Go.heap_alloc_new w2 _, rfl⟩
  have B3 : Both _ R2 M2 w3 g (mkT (A0 (4 + b) (1 + a))) 1 [] w2.heap.size [] := ⟨⟨h2.ext e3, e2.trans' e3, hR2⟩, S2, hm3, fun h => by have := h2.lt _ h; omega, e2.size, .nil⟩
  have aw : ∀ {u : World} {R M : Nat → Prop} {A : Ar} {H : Nat} {es : Es} {D : List (Int × Nat)}, Both w R M u g A H es w2.heap.size D → es.length ≤ 1000 → CallsV Try.prog 20 #[.pointer (some ⟨g, 0, none⟩), .map (some w2.heap.size)] u fun v w' => ∃ x, v = .bool x ∧ bif x then CallsV Try.prog 21 #[] w' fun v w' => ∃ x, v = .bool x ∧ ((fun r w' => r = Value.bool true ∧ Ext w w') (.bool x) w') else ((fun r w' => r = Value.bool true ∧ Ext w w') (.bool false) w') := by
    intro u R M A H es D hB hl
    refine (hB.walks (by omega)).mono ?_
    rintro _ u1 ⟨rfl, e1⟩
    refine ⟨true, rfl, (awake_spec u1).mono ?_⟩
    rintro _ u2 ⟨rfl, e2⟩
    exact ⟨true, rfl, rfl, (hB.hs.e.trans' e1).trans' e2⟩
  refine ⟨fun x u => ∃ j : Nat, j ≤ l.length ∧ j ≤ 300 ∧ x = (j : Int) ∧ ∃ A H es R M D, Both w R M u g A H es w2.heap.size D ∧ A.most = 1 + a ∧ es.length ≤ j, fun x _ => (300 - x).toNat, ⟨0, by omega, by omega, rfl, _, _, _, _, _, _, B3, rfl, by simp⟩, ?_⟩
  rintro _ u ⟨j, hj, hj3, rfl, A, H, es, R, M, D, hB, hm, hlen⟩
  have awB := aw hB (by omega)
  refine brd (fun hlt => brd (fun hlt3 => ?_) (fun _ => awB)) (fun _ => awB)
  obtain ⟨ad, x, hA, hc⟩ := itemI (hl.ext KI_pos hB.hs.e) (j := j) (by omega)
  refine ⟨ad, hA, ⟨by omega, by omega⟩, x, by rw [Int.toNat_natCast]; exact hc, (Pick_spec u x 1000 (by decide) (by decide)).mono ?_⟩
  rintro _ _ ⟨n, rfl, hn, rfl⟩
  obtain ⟨x0, hx0⟩ := hB.look (n : Int)
  refine ⟨_, rfl, _, _, _, hx0, (sNodes hB.hs.ar hB.sole).mono ?_⟩
  rintro _ u1 ⟨rfl, rfl⟩
  have hB := hB.ext (Fr.drew NoB _)
  refine ⟨_, rfl, (sDeep hB.hs.ar hB.sole).mono ?_⟩
  rintro _ u2 ⟨rfl, e2'⟩
  have hB := hB.ext e2'
  refine ⟨_, rfl, (key_spec u2 n (by omega)).mono ?_⟩
  rintro _ u3 ⟨KA, rfl, oK, e3', _⟩
  have hB := hB.ext e3'
  refine ⟨_, _, _, rfl, (key_spec u3 j (by omega)).mono ?_⟩
  rintro _ u4 ⟨VA, rfl, oV, e4', _⟩
  have hB := hB.ext e4'
  refine ⟨_, _, _, rfl, (sPut hB.hs.ar hB.sole (oK.ext e4').imm0 oV.imm0 2 2 (show 2 ≤ 1048576 by decide) (show 2 ≤ 1048576 by decide)).mono ?_⟩
  rintro _ u5 ⟨A', R', M', full, h', c, hf', hm', rfl, hfull, hnot⟩
  refine ⟨_, _, rfl, fun v => ∃ A H es R M D, Both w R M v g A H es w2.heap.size D ∧ A.most = 1 + a ∧ es.length ≤ j + 1, ?_, ?_⟩
  · rintro v ⟨A, H, es, R, M, D, hB, hm, hlen⟩
    obtain ⟨_, _, _, _, _, _, hle, _⟩ := hB.sole.at_
    refine (sNodes hB.hs.ar hB.sole).mono ?_
    rintro _ _ ⟨rfl, rfl⟩
    have hB := hB.ext (Fr.drew NoB _)
    refine ⟨_, rfl, brd (fun h => absurd h (by omega)) fun _ => (sCheck hB.hs.ar hB.sole).mono ?_⟩
    rintro _ v2 ⟨rfl, ev2⟩
    have hB := hB.ext ev2
    refine ⟨_, rfl, brn (fun h => absurd rfl h) fun _ => ?_⟩
    rw [wi _ (by omega) (by omega)]
    exact ⟨⟨j + 1, by omega, by omega, by omega, A, H, es, _, _, D, hB, hm, hlen⟩, by dsimp only; omega⟩
  · cases full with
    | false =>
      obtain ⟨H', S'⟩ := hnot rfl
      obtain ⟨v, hr, hB'⟩ := hB.told h' c (n := n) (i := j) (by omega) (by omega) S'
      refine brd (fun _ => ⟨v, hr, A', H', _, _, _, _, hB', hm'.trans hm, ?_⟩) fun h => absurd rfl h
      have := len_insE_le (keyN n) (keyN j) es
      omega
    | true =>
      obtain ⟨rfl, hin, hroom⟩ := hfull rfl
      have hB' : Both w R' M' u5 g A' H es w2.heap.size D := ⟨hB.hs.chg h' c, hB.sole, hB.map.keep c.fr fun hm => hB.off (hB.hs.ar.mr _ hm), c.off hB.map.lt hB.off, hB.ge, hB.rel⟩
      have hup := hB.sole.up
      obtain ⟨_, _, _, _, _, hm64, hle, _⟩ := hB.sole.at_
      refine brd (fun h => by cases h) fun _ => brn (fun h => absurd rfl h) fun _ => br (fun hs => ?_) fun _ => brd (fun h => ?_) fun _ => ?_
      · rw [hB.rel.has hB.sole.upE (by omega)] at hin
        rw [hin] at hs; cases hs
      · rw [wi ((A'.nodes : Int) + _) (by omega) (by omega), wi _ (by omega) (by omega)] at h
        omega
      · refine (sNodes hB'.hs.ar hB'.sole).mono ?_
        rintro _ _ ⟨rfl, rfl⟩
        have hB' := hB'.ext (Fr.drew NoB _)
        refine ⟨_, rfl, brn (fun h => absurd rfl h) fun _ => (sDeep hB'.hs.ar hB'.sole).mono ?_⟩
        rintro _ u7 ⟨rfl, e7⟩
        exact ⟨_, rfl, brn (fun h => absurd rfl h) fun _ => ⟨_, _, _, _, _, _, hB'.ext e7, hm, by omega⟩⟩
end Go.Proofs.Ytadlhdiejmilmaa
/- Layer 4: an arena that is grown; whatever is put and taken away, the shape is right. -/
set_option linter.unusedVariables false
set_option linter.unusedSimpArgs false
namespace Go.Proofs.Ytadlhdiejmilmaa
open Go Go.Sx T4
/-! ## an entry goes -/
theorem sDelete {R M : Nat → Prop} {w : World} {g : Nat} {A : Ar} (h : Ar1 R M w g A) {H : Nat} {es : Es} (S : Sole A H es) {key : Key} {Ω : Nat → Prop} {KA : Option Addr} (hKA : Imm KB Ω w KA key) (kc : Nat) :
    CallsV Try.prog 29 #[.pointer (some ⟨g, 0, none⟩), .int .i64 1, .slice KA key.length kc] w fun r w' => r = .tuple #[.bool (inE key es), .int .i64 0] ∧ ∃ A' R' M' H', Ar1 R' M' w' g A' ∧ Chg R M w R' M' w' ∧ A'.fan = A.fan ∧ A'.most = A.most ∧ Sole A' H' (delE key es) := by
  obtain ⟨i, ps, Q, h1, h2, h3, h4, h5⟩ := S.at_
  refine (Delete_spec h h1 h2 hKA kc).mono ?_
  rintro _ w' ⟨rfl, R', M', h6, c⟩
  refine ⟨rfl, ?_⟩
  cases hin : inE key es with
  | false =>
    rw [hin] at h6
    have hd : delE key es = es := del_no (by rw [← inE_has]; exact hin)
    exact ⟨A, R', M', H, h6, c, rfl, rfl, by rw [hd]; exact S⟩
  | true =>
    rw [hin] at h6
    simp only [if_true] at h6
    obtain ⟨hl, i', ps', hI⟩ := S
    have e1 := hI.get (d := ⟨1, i', H, es, ps'⟩) (by simp)
    have : i' = i := by have := e1.symm.trans h1; simpa using this
    subst this
    obtain ⟨h', ps2, h8⟩ := Inv.del (D1 := []) (D2 := []) hI hin
    have m := (delTop_ok h2.tree h2.acc h2.f1 hin).choose_spec.choose_spec.1
    exact ⟨_, R', M', h', h6, c, m.fan, m.most, by rw [m.last]; exact hl, i', ps2, h8⟩
theorem Both.gone {w0 : World} {R M R' M' : Nat → Prop} {u u' : World} {g : Nat} {A A' : Ar} {H H' : Nat} {es : Es} {mb : Nat} {D : List (Int × Nat)} (h : Both w0 R M u g A H es mb D) (h' : Ar1 R' M' u' g A') (c : Chg R M u R' M' u') {n : Nat} (hn : n < 65536) (S : Sole A' H' (delE (keyN n) es)) (ty : TypeId) :
    ∃ v, RunsTo Try.prog (Builtin.delete_ #[30, 3] ty #[.map (some mb), .int .i64 (n : Int)]) u' (.tuple #[]) v ∧ Both w0 R' M' v g A' H' (delE (keyN n) es) mb (delD D (n : Int)) := by
  have hs' := h.hs.chg h' c
  have hmu := h.map.keep c.fr fun hm => h.off (h.hs.ar.mr _ hm)
  have hoff := c.off h.map.lt h.off
  obtain ⟨v, r, m, f⟩ := MapK.drop hmu (n : Int) ty
  exact ⟨v, r, hs'.frame f fun k e => e ▸ ⟨hoff, h.ge⟩, S, m, hoff, h.ge, h.rel.del h.sole.upE hn⟩
theorem Both.goneF {w0 : World} {R M R' M' : Nat → Prop} {u u' : World} {g : Nat} {A A' : Ar} {H H' : Nat} {es : Es} {mb : Nat} {D : List (Int × Nat)} (h : Both w0 R M u g A H es mb D) (h' : Ar1 R' M' u' g A') (c : Chg R M u R' M' u') {n : Nat} (hn : n < 65536) (S : Sole A' H' (delE (keyN n) es)) (ty : TypeId) :
    ∃ v, RunsTo Try.prog (Builtin.delete_ #[30, 3] ty #[.map (some mb), .int .i64 (n : Int)]) u' (.tuple #[]) v ∧ Both w0 R' M' v g A' H' (delE (keyN n) es) mb (delD D (n : Int)) ∧ Fr (fun k => k = mb) u' v := by
  have hs' := h.hs.chg h' c
  have hmu := h.map.keep c.fr fun hm => h.off (h.hs.ar.mr _ hm)
  have hoff := c.off h.map.lt h.off
  obtain ⟨v, r, m, f⟩ := MapK.drop hmu (n : Int) ty
  exact ⟨v, r, ⟨hs'.frame f fun k e => e ▸ ⟨hoff, h.ge⟩, S, m, hoff, h.ge, h.rel.del h.sole.upE hn⟩, f⟩
/-! ## grown -/
set_option maxRecDepth 100000 in
set_option maxHeartbeats 400000 in
theorem grown_spec {Ω : Nat → Prop} {w : World} (fan : Int) {LA : Option Addr} {lc : Nat} {l : List Int} (hl : Imm KI Ω w LA l) :
    CallsV Try.prog 27 #[.int .i64 fan, .slice LA l.length lc] w fun r w' => ∃ g A H es R M mb D, r = .tuple #[.pointer (some ⟨g, 0, none⟩), .map (some mb), .bool true] ∧ Both w R M w' g A H es mb D ∧ A.fan = 4 + pickF fan 61 ∧ A.most = 65536 ∧ es.length ≤ 300 := by
  refine cardindexlaw04_grown.calls okay ?_
  unfold cardindexlaw04_grown.W
  refine (PickF_spec w fan 61 (by decide) (by decide)).same ⟨_, rfl, ?_⟩
  have hb := pickF_lt fan 61 (by decide)
  generalize pickF fan 61 = b at *
  rw [wi (4 + (b : Int)) (by omega) (by omega), show (4 : Int) + (b : Int) = ((4 + b : Nat) : Int) by omega]
  refine (sNew w (4 + b) 65536 (by omega) (by omega) (by omega) (by omega)).mono ?_
  rintro _ w1 ⟨g, R, M, rfl, _, _, _, hcr⟩
  refine ⟨_, _, rfl, hcr.mono ?_⟩
  rintro _ w2 ⟨rfl, R2, M2, h2, e2, hR2⟩
  have S2 := (sole_new (fan := 4 + b) (most := 65536) (by omega) (by omega) (by omega) (by omega)).2
  refine ⟨_, _, rfl, _, _, makeMap_run _ _, ?_⟩
  generalize hw3 : w2.alloc (.map #[] 0) = w3
  have e3 : Ext w2 w3 := by rw [← hw3]; exact Fr.alloc NoB w2 _
  have hm3 : MapK fI w3 w2.heap.size (mapE []) := by rw [← hw3]; exact ⟨#[], 0, Go.heap_alloc_new w2 _, rfl⟩
  have B3 : Both w R2 M2 w3 g (mkT (A0 (4 + b) 65536)) 1 [] w2.heap.size [] := ⟨⟨h2.ext e3, e2.trans' e3, hR2⟩, S2, hm3, fun h => by have := h2.lt _ h; omega, e2.size, .nil⟩
  refine brn (fun h => absurd rfl h) fun _ => brn (fun h => absurd rfl h) fun _ => brn (fun h => absurd rfl h) fun _ => ?_
  refine ⟨fun x u => ∃ j : Nat, j ≤ l.length ∧ j ≤ 300 ∧ x = (j : Int) ∧ ∃ A H es R M D, Both w R M u g A H es w2.heap.size D ∧ A.fan = 4 + b ∧ A.most = 65536 ∧ es.length ≤ j, fun x _ => (300 - x).toNat, ⟨0, by omega, by omega, rfl, _, _, _, _, _, _, B3, rfl, rfl, by simp⟩, ?_⟩
  rintro _ u ⟨j, hj, hj3, rfl, A, H, es, R, M, D, hB, hfan, hm, hlen⟩
  have fin : ∃ g' A H es R M mb D, (Value.tuple #[.pointer (some ⟨g, 0, none⟩), .map (some w2.heap.size), .bool true]) = .tuple #[.pointer (some ⟨g', 0, none⟩), .map (some mb), .bool true] ∧ Both w R M u g' A H es mb D ∧ A.fan = 4 + b ∧ A.most = 65536 ∧ es.length ≤ 300 := ⟨g, A, H, es, R, M, _, D, rfl, hB, hfan, hm, by omega⟩
  refine brd (fun hlt => brd (fun hlt3 => ?_) (fun _ => fin)) (fun _ => fin)
  obtain ⟨ad, x, hA, hc⟩ := itemI (hl.ext KI_pos hB.hs.e) (j := j) (by omega)
  refine ⟨ad, hA, ⟨by omega, by omega⟩, x, by rw [Int.toNat_natCast]; exact hc, (Pick_spec u x 1000 (by decide) (by decide)).mono ?_⟩
  rintro _ u0 ⟨n, rfl, hn, hu0⟩
  obtain rfl : u = u0 := hu0.symm
  refine ⟨_, rfl, (key_spec u n (by omega)).mono ?_⟩
  rintro _ u3 ⟨KA, rfl, oK, e3', _⟩
  have hB := hB.ext e3'
  refine ⟨_, _, _, rfl, (key_spec u3 j (by omega)).mono ?_⟩
  rintro _ u4 ⟨VA, rfl, oV, e4', _⟩
  have hB := hB.ext e4'
  refine ⟨_, _, _, rfl, (sPut hB.hs.ar hB.sole (oK.ext e4').imm0 oV.imm0 2 2 (show 2 ≤ 1048576 by decide) (show 2 ≤ 1048576 by decide)).mono ?_⟩
  rintro _ u5 ⟨A', R', M', full, h', c, hf', hm', rfl, hfull, hnot⟩
  have hup := hB.sole.up
  have : full = false := by
    cases full with
    | false => rfl
    | true => have := (hfull rfl).2.2; omega
  subst this
  obtain ⟨H', S'⟩ := hnot rfl
  have hBl : Both w R M u4 g A H es w2.heap.size D := hB
  have hmu := hB.map.keep c.fr fun hm => hB.off (hB.hs.ar.mr _ hm)
  have hlk := (hmu.look (P := Try.prog) keyI (t := 30) (kt := 3) (et := 3) (by kernel_rfl) (n : Int) (z := .int .i64 0) zeroI).1
  rw [getT_M] at hlk
  obtain ⟨x0, hx0⟩ : ∃ x, RunsTo Try.prog (Instr.lookup 30 (.map (some w2.heap.size)) (.int .i64 (n : Int)) true) u5 (.tuple #[.int .i64 x, .bool (getT D (n : Int)).isSome]) u5 := by
    cases hg : getT D (n : Int) with
    | none => rw [hg] at hlk; exact ⟨_, hlk⟩
    | some i => rw [hg] at hlk; exact ⟨_, hlk⟩
  obtain ⟨v, hr, hB'⟩ := hB.told h' c (n := n) (i := j) (by omega) (by omega) S'
  refine ⟨_, _, rfl, _, _, _, hx0, brn (fun h => absurd rfl h) fun _ => brn (fun h => absurd (by simp [hB.rel.has hB.sole.upE (n := n) (by omega)]) h) fun _ => ⟨v, hr, ?_⟩⟩
  have := len_insE_le (keyN n) (keyN j) es
  rw [wi _ (by omega) (by omega)]
  exact ⟨⟨j + 1, by omega, by omega, by omega, A', H', _, _, _, _, hB', hf'.trans hfan, hm'.trans hm, by omega⟩, by dsimp only; omega⟩
end Go.Proofs.Ytadlhdiejmilmaa
/- Layer 4: TreeShape. -/
set_option linter.unusedVariables false
set_option linter.unusedSimpArgs false
namespace Go.Proofs.Ytadlhdiejmilmaa
open Go Go.Sx T4
/-- an arena grown: what a loop over it keeps -/
def Gn (w0 u : World) (g mb fan : Nat) : Prop := ∃ A H es R M D, Both w0 R M u g A H es mb D ∧ A.fan = fan ∧ A.most = 65536 ∧ es.length ≤ 300
theorem Gn.ext {w0 u u' : World} {g mb fan : Nat} (h : Gn w0 u g mb fan) (e : Ext u u') : Gn w0 u' g mb fan := by
  obtain ⟨A, H, es, R, M, D, h1, h2, h3, h4⟩ := h; exact ⟨A, H, es, R, M, D, h1.ext e, h2, h3, h4⟩
theorem Gn.at_ {w0 u : World} {g mb fan : Nat} (h : Gn w0 u g mb fan) : Ext w0 u := by obtain ⟨_, _, _, _, _, _, h, _⟩ := h; exact h.hs.e
/-- gone through, and the examples -/
theorem Gn.walksAwake {w0 u : World} {g mb fan : Nat} (h : Gn w0 u g mb fan) : CallsV Try.prog 20 #[.pointer (some ⟨g, 0, none⟩), .map (some mb)] u fun v w' => ∃ x, v = .bool x ∧ bif x then CallsV Try.prog 21 #[] w' fun v w' => ∃ x, v = .bool x ∧ ((fun r w' => r = Value.bool true ∧ Ext w0 w') (.bool x) w') else ((fun r w' => r = Value.bool true ∧ Ext w0 w') (.bool false) w') := by
  obtain ⟨A, H, es, R, M, D, hB, _, _, hl⟩ := h
  refine (hB.walks (by omega)).mono ?_
  rintro _ u1 ⟨rfl, e1⟩
  refine ⟨true, rfl, (awake_spec u1).mono ?_⟩
  rintro _ u2 ⟨rfl, e2⟩
  exact ⟨true, rfl, rfl, (hB.hs.e.trans' e1).trans' e2⟩
theorem delE_le (key : Key) (es : Es) : (delE key es).length ≤ es.length := by have := len_delE key es; omega
set_option maxRecDepth 100000 in
set_option maxHeartbeats 1000000 in
theorem TreeShape_spec {Ω Ω' : Nat → Prop} {w : World} (fan : Int) {LA OA : Option Addr} {lc oc : Nat} {l out : List Int} (hl : Imm KI Ω w LA l) (ho : Imm KI Ω' w OA out) :
    CallsV Try.prog 5 #[.int .i64 fan, .slice LA l.length lc, .slice OA out.length oc] w fun r w' => r = .bool true ∧ Ext w w' := by
  refine cardindexlaw04_TreeShape.calls okay ?_
  unfold cardindexlaw04_TreeShape.W
  refine (grown_spec fan hl).mono ?_
  rintro _ w1 ⟨g, A, H, es, R, M, mb, D, rfl, hB, hf, hm, hlen⟩
  refine ⟨_, _, _, rfl, brnb (fun h => by cases h) fun _ => (hB.walks (by omega)).mono ?_⟩
  rintro _ w2 ⟨rfl, e2⟩
  refine ⟨_, rfl, brnb (fun h => by cases h) fun _ => (PickF_spec w2 fan 61 (by decide) (by decide)).same ⟨_, rfl, by decide, ?_⟩⟩
  have hb := pickF_lt fan 61 (by decide)
  generalize pickF fan 61 = b at *
  have e4 : IntKind.i64.wrap (Int.tdiv (IntKind.i64.wrap (4 + ((b : Nat) : Int))) 2) = (((4 + b) / 2 : Nat) : Int) := by
    rw [wi (4 + (b : Int)) (by omega) (by omega), Int.tdiv_eq_ediv_of_nonneg (by omega), wi _ (by omega) (by omega)]; omega
  rw [e4]
  have hG : Gn w w2 g mb (4 + b) := ⟨A, H, es, R, M, D, hB.ext e2, hf, hm, hlen⟩
  clear hB hf hm hlen A H es R M D
  refine ⟨fun x u => ∃ j : Nat, j ≤ 301 ∧ x = (j : Int) ∧ Gn w u g mb (4 + b), fun x _ => (301 - x).toNat, ⟨0, by omega, rfl, hG⟩, ?_⟩
  rintro _ u ⟨j, hj, rfl, hG⟩
  refine brd (fun hlt => brd (fun hlt3 => ?_) (fun _ => hG.walksAwake)) (fun _ => hG.walksAwake)
  refine ⟨fun v => Gn w v g mb (4 + b), ?_, ?_⟩
  · intro v hv
    rw [wi _ (by omega) (by omega)]
    exact ⟨⟨j + 1, by omega, by omega, hv⟩, by dsimp only; omega⟩
  obtain ⟨A, H, es, R, M, D, hB, hf, hm, hlen⟩ := hG
  have hup := hB.sole.up
  rw [hf] at hup
  obtain ⟨u1, u2, u3, u4⟩ := hup
  have hpow : ∀ d, d < H → 2 * ((4 + b) / 2) ^ d ≤ 300 := fun d hd => by
    rcases Nat.lt_or_ge 1 H with h1 | h1
    · have h5 := u4 h1
      have h6 : ((4 + b) / 2) ^ d ≤ ((4 + b) / 2) ^ (H - 1) := Nat.pow_le_pow_right (by omega) (by omega)
      omega
    · obtain rfl : d = 0 := by omega
      simp
  refine ⟨fun a d v => ∃ dn : Nat, 1 ≤ dn ∧ dn ≤ H ∧ d = (dn : Int) ∧ a = ((2 * ((4 + b) / 2) ^ (dn - 1) : Nat) : Int) ∧ Ext u v, fun _ d _ => (H - d).toNat, ⟨1, by omega, by omega, rfl, by simp, .refl _ _⟩, ?_⟩
  rintro _ _ v ⟨dn, hd1, hd2, rfl, rfl, ev⟩
  have hB := hB.ext ev
  refine (sDeep hB.hs.ar hB.sole).mono ?_
  rintro _ v1 ⟨rfl, ev1⟩
  have hB := hB.ext ev1
  refine ⟨_, rfl, brd (fun hlt2 => ?_) (fun hge => ?_)⟩
  · have hp := hpow dn (by omega)
    have e5 : 2 * ((4 + b) / 2) ^ (dn - 1) * ((4 + b) / 2) = 2 * ((4 + b) / 2) ^ dn := by
      obtain ⟨d, rfl⟩ : ∃ d, dn = d + 1 := ⟨dn - 1, by omega⟩
      rw [Nat.add_sub_cancel, Nat.pow_succ, Nat.mul_assoc]
    rw [← Int.natCast_mul, e5, wi ((2 * ((4 + b) / 2) ^ dn : Nat) : Int) (by omega) (by omega), wi _ (by omega) (by omega)]
    exact ⟨⟨dn + 1, by omega, by omega, by omega, by rw [Nat.add_sub_cancel], ev.trans' ev1⟩, by dsimp only; omega⟩
  · obtain rfl : dn = H := by omega
    obtain ⟨_, _, _, _, _, hm64, hle, _⟩ := hB.sole.at_
    refine ⟨fun v => Gn w v g mb (4 + b), ?_, ?_⟩
    · intro v2 hG2
      refine brd (fun hlt2 => brd (fun hlt4 => ?_) (fun _ => hG2)) (fun _ => hG2)
      obtain ⟨A, H, es, R, M, D, hB, hf, hm, hlen⟩ := hG2
      obtain ⟨ad, x, hA, hc⟩ := itemI (ho.ext KI_pos hB.hs.e) (j := j) (by omega)
      refine ⟨ad, hA, ⟨by omega, by omega⟩, x, by rw [Int.toNat_natCast]; exact hc, (Pick_spec v2 x 1000 (by decide) (by decide)).mono ?_⟩
      rintro _ v3 ⟨n, rfl, hn, hv3⟩
      obtain rfl : v2 = v3 := hv3.symm
      refine ⟨_, rfl, (key_spec v2 n (by omega)).mono ?_⟩
      rintro _ v3 ⟨KA, rfl, oK, e3', _⟩
      have hB := hB.ext e3'
      refine ⟨_, _, _, rfl, (sDelete hB.hs.ar hB.sole oK.imm0 2).mono ?_⟩
      rintro _ v4 ⟨rfl, A', R', M', H', h', c, hf', hm', S'⟩
      have hmu := hB.map.keep c.fr fun hm => hB.off (hB.hs.ar.mr _ hm)
      have hlk := (hmu.look (P := Try.prog) keyI (t := 30) (kt := 3) (et := 3) (by kernel_rfl) (n : Int) (z := .int .i64 0) zeroI).1
      rw [getT_M] at hlk
      obtain ⟨x0, hx0⟩ : ∃ x, RunsTo Try.prog (Instr.lookup 30 (.map (some mb)) (.int .i64 (n : Int)) true) v4 (.tuple #[.int .i64 x, .bool (getT D (n : Int)).isSome]) v4 := by
        cases hg : getT D (n : Int) with
        | none => rw [hg] at hlk; exact ⟨_, hlk⟩
        | some i => rw [hg] at hlk; exact ⟨_, hlk⟩
      obtain ⟨v5, hr, hB'⟩ := hB.gone h' c (n := n) (by omega) S' 0
      refine ⟨_, _, rfl, _, _, _, hx0, brn (fun h => absurd rfl h) fun _ => brn (fun h => absurd (hB.rel.has hB.sole.upE (n := n) (by omega)) h) fun _ => ⟨v5, hr, ?_⟩⟩
      have := delE_le (keyN n) es
      exact ⟨A', H', _, R', M', _, hB', hf'.trans hf, hm'.trans hm, by omega⟩
    · have gn : ∀ {v2}, Ext v1 v2 → Gn w v2 g mb (4 + b) := fun e => ⟨A, dn, es, R, M, D, hB.ext e, hf, hm, hlen⟩
      refine (sCheck hB.hs.ar hB.sole).mono ?_
      rintro _ v2 ⟨rfl, ev2⟩
      have hB2 := hB.ext ev2
      refine ⟨_, rfl, brn (fun h => absurd rfl h) fun _ => (sDeep hB2.hs.ar hB2.sole).mono ?_⟩
      rintro _ v3 ⟨rfl, ev3⟩
      have hB3 := hB2.ext ev3
      refine ⟨_, rfl, brd (fun h => by omega) fun _ => (sDeep hB3.hs.ar hB3.sole).mono ?_⟩
      rintro _ v4 ⟨rfl, ev4⟩
      have hB4 := hB3.ext ev4
      -- how many nodes
      have last : ∀ {v5}, Ext v1 v5 → CallsV Try.prog 15 #[.pointer (some ⟨g, 0, none⟩)] v5 fun v w' => ∃ x_13, v = .int .i64 x_13 ∧ CallsV Try.prog 28 #[.pointer (some ⟨g, 0, none⟩), .int .i64 1] w' fun v w' => ∃ x, v = .int .i64 x ∧ bif decide (IntKind.i64.wrap (1 + IntKind.i64.wrap (2 * x)) < x_13) then ((fun r w' => r = Value.bool true ∧ Ext w w') (.bool false) w') else Gn w w' g mb (4 + b) := by
        intro v5 e5
        have hB5 := hB.ext e5
        refine (sNodes hB5.hs.ar hB5.sole).mono ?_
        rintro _ _ ⟨rfl, rfl⟩
        have hB6 := hB5.ext (Fr.drew NoB v5)
        refine ⟨_, rfl, (sLen hB6.hs.ar hB6.sole).mono ?_⟩
        rintro _ v7 ⟨rfl, ev7⟩
        refine ⟨_, rfl, ?_⟩
        rw [wi (2 * (es.length : Int)) (by omega) (by omega), wi _ (by omega) (by omega)]
        exact brd (fun h => by omega) fun _ => gn ((e5.ext (Fr.drew NoB v5)).ext ev7)
      refine ⟨_, rfl, brd (fun h1 => ?_) fun _ => last ((ev2.trans' ev3).trans' ev4)⟩
      refine (sLen hB4.hs.ar hB4.sole).mono ?_
      rintro _ v5 ⟨rfl, ev5⟩
      have := u4 (by omega)
      refine ⟨_, rfl, brd (fun h => by omega) fun _ => last (((ev2.trans' ev3).trans' ev4).trans' ev5)⟩
end Go.Proofs.Ytadlhdiejmilmaa
/- Layer 4: TreeEmpties. -/
set_option linter.unusedVariables false
set_option linter.unusedSimpArgs false
namespace Go.Proofs.Ytadlhdiejmilmaa
open Go Go.Sx T4
theorem cell_map {w : World} {b : Nat} {es : Array MapEntry} {c : Nat} (h : w.heap[b]? = some (.map es c)) {a : Addr} {v : Value} (hc : w.cell? a = some v) : a.block ≠ b := by
  rintro rfl
  simp [World.cell?, h] at hc
abbrev KO : Kd Bool := Kd.bool
theorem itemO {Ω : Nat → Prop} {w : World} {A : Option Addr} {l : List Bool} (h : Imm Kd.bool Ω w A l) {j : Nat} (hj : j < l.length) : ∃ ad x, A = some ad ∧ w.cell? (ad.add (j * 1)) = some (.bool x) := by
  obtain ⟨ad, hA, _, cs, hr, hv⟩ := h j l[j] (List.getElem?_eq_getElem hj)
  exact ⟨ad, l[j], hA, hv 0 _ (by rw [show cs = [.bool l[j]] from hr]; rfl)⟩
/-- the two bytes of a number's key -/
theorem keyCells {Ω : Nat → Prop} {w : World} {A : Option Addr} {n : Nat} (h : Imm KB Ω w A (keyN n)) (hn : n < 65536) : ∃ (ad : Addr) (x y : Int), A = some ad ∧ w.cell? (ad.add (Int.toNat 0 * 1)) = some (.int .u8 x) ∧ w.cell? (ad.add (Int.toNat 1 * 1)) = some (.int .u8 y) ∧ IntKind.i64.wrap (IntKind.i64.wrap (256 * IntKind.i64.wrap x) + IntKind.i64.wrap y) = (n : Int) := by
  obtain ⟨ad, hA, _, cs0, hr0, hv0⟩ := h 0 (UInt8.ofNat (n / 256)) rfl
  obtain ⟨ad1, hA1, _, cs1, hr1, hv1⟩ := h 1 (UInt8.ofNat n) rfl
  rw [hA] at hA1; cases hA1
  refine ⟨ad, _, _, hA, hv0 0 (u8 (UInt8.ofNat (n / 256))) (by rw [show cs0 = [u8 (UInt8.ofNat (n / 256))] from hr0]; rfl), hv1 0 (u8 (UInt8.ofNat n)) (by rw [show cs1 = [u8 (UInt8.ofNat n)] from hr1]; rfl), ?_⟩
  have a1 : (((UInt8.ofNat (n / 256)).toNat : Nat) : Int) = ((n / 256 : Nat) : Int) := by simp only [UInt8.toNat_ofNat']; omega
  have a2 : (((UInt8.ofNat n).toNat : Nat) : Int) = ((n % 256 : Nat) : Int) := by simp only [UInt8.toNat_ofNat']
  rw [a1, a2, wi ((n / 256 : Nat) : Int) (by omega) (by omega), wi (256 * _) (by omega) (by omega), wi ((n % 256 : Nat) : Int) (by omega) (by omega), wi _ (by omega) (by omega)]
  omega
theorem bare {A : Ar} {H : Nat} (S : Sole A H []) : H = 1 ∧ A.nodes = 1 := by
  obtain ⟨h1, h2, h3, h4⟩ := S.up
  have hf := S.f1
  have : H = 1 := by
    refine Classical.byContradiction fun hne => ?_
    have h5 := h4 (by omega)
    have h6 : 1 ≤ (A.fan / 2) ^ (H - 1) := Nat.one_le_pow _ _ (by omega)
    simp at h5; omega
  simp at h1
  omega
set_option maxRecDepth 100000 in
set_option maxHeartbeats 1000000 in
theorem TreeEmpties_spec {Ω Ω' : Nat → Prop} {w : World} (fan : Int) {LA EA : Option Addr} {lc ec : Nat} {l : List Int} {ends : List Bool} (hl : Imm KI Ω w LA l) (ho : Imm Kd.bool Ω' w EA ends) :
    CallsV Try.prog 6 #[.int .i64 fan, .slice LA l.length lc, .slice EA ends.length ec] w fun r w' => r = .bool true ∧ Ext w w' := by
  refine cardindexlaw04_TreeEmpties.calls okay ?_
  unfold cardindexlaw04_TreeEmpties.W
  refine (grown_spec fan hl).mono ?_
  rintro _ w1 ⟨g, A, H, es, R, M, mb, D, rfl, hB, _, _, hlen⟩
  refine ⟨_, _, _, rfl, brnb (fun h => by cases h) fun _ => ?_⟩
  refine ⟨fun x u => ∃ j : Nat, x = (j : Int) ∧ ∃ A H es R M D, Both w R M u g A H es mb D ∧ es.length + j ≤ 300, fun x _ => (300 - x).toNat, ⟨0, rfl, A, H, es, R, M, D, hB, by omega⟩, ?_⟩
  rintro _ u ⟨j, rfl, A, H, es, R, M, D, hB, hlen⟩
  refine ⟨_, u, maplen hB.map _, brd (fun hpos => ?_) (fun hz => ?_)⟩
  · have hpos : 0 < es.length := by have := hB.rel.len; omega
    have hu := hB.sole.upE
    have hRu' := hB.hs.ar.lt
    have hmu' := hB.map.lt
    refine (sAfter hB.hs.ar hB.sole (key := []) (Imm.nil KB NoB u none) 0 true).mono ?_
    rintro _ u1 ⟨ht, e1⟩
    have hB := hB.ext e1
    obtain ⟨p, hp⟩ : ∃ p, es[0]? = some p := ⟨_, List.getElem?_eq_getElem hpos⟩
    rw [aft_first, hp] at ht
    obtain ⟨k0, v0⟩ := p
    obtain ⟨kA, kc, vA, vc, rfl, oA, oB, nA, nB, _⟩ := ht
    refine ⟨_, _, _, _, _, _, _, rfl, ?_⟩
    have hRu := hB.hs.ar.lt
    have hmu := hB.map.lt
    refine ⟨fun kA kn kc ok v => ∃ p : Key × Key, p ∈ es ∧ ok = true ∧ kn = p.1.length ∧ OwnB v kA kc p.1 ∧ (∀ b, ownB kA b → ¬ R b ∧ b ≠ mb) ∧ Ext u1 v, ?_, ?_⟩
    · rintro kA kn kc ok v ⟨p, hmem, rfl, rfl, hk, hoff, ev⟩
      have hB := hB.ext ev
      obtain ⟨n, i, hn, hi, hp, hgt⟩ := hB.rel.a p hmem
      have hp1 : p.1 = keyN n := by rw [hp]
      have hin : inE (keyN n) es = true := (inE_mem hu).2 ⟨p.2, by rw [← hp1]; exact hmem⟩
      rw [hp1] at hk ⊢
      refine (sDelete hB.hs.ar hB.sole hk.imm0 kc).mono ?_
      rintro _ v1 ⟨rfl, A', R', M', H', h', c, _, _, S'⟩
      rw [hin]
      refine ⟨_, _, rfl, brnb (fun h => by cases h) fun _ => brn (fun h => absurd rfl h) fun _ => brnb (fun h => by cases h) fun _ => brn (fun h => absurd rfl h) fun _ => ?_⟩
      refine (sCheck h' S').mono ?_
      rintro _ v2 ⟨rfl, ev2⟩
      have ed : Ext v2 v2.drew := Fr.drew NoB v2
      have hk1 : OwnB v1 kA kc (keyN n) := hk.keep c.fr fun b hb hm => (hoff b hb).1 (hB.hs.ar.mr b hm)
      obtain ⟨ad, x, y, hA, hc0, hc1, hxy⟩ := keyCells ((hk1.ext ev2).ext ed).imm0 hn
      obtain ⟨v3, hr, hB3, hf3⟩ := hB.goneF (h'.ext (ev2.trans' ed)) (c.trans (Chg.ext (ev2.trans' ed))) hn S' 0
      have hne : ad.block ≠ mb := (hoff ad.block ⟨ad, hA, rfl⟩).2
      refine ⟨_, rfl, brn (fun h => absurd rfl h) fun _ => ⟨ad, hA, ⟨by omega, by show (0 : Int) < ((2 : Nat) : Int); omega⟩, fun z => z.cell? (ad.add (Int.toNat 0 * 1)) = some (.int .u8 x) ∧ z.cell? (ad.add (Int.toNat 1 * 1)) = some (.int .u8 y), ⟨hc0, hc1⟩, x, fun z hz => hz.1, ad, hA, ⟨by omega, by show (1 : Int) < ((2 : Nat) : Int); omega⟩, y, fun z hz => hz.2, v3, by rw [hxy]; exact hr, ⟨hf3.cell (by rw [add_block]; exact hne) hc0, hf3.cell (by rw [add_block]; exact hne) hc1⟩, ?_⟩⟩
      refine (sLen hB3.hs.ar hB3.sole).mono ?_
      rintro _ v4 ⟨rfl, ev4⟩
      have hB4 := hB3.ext ev4
      refine ⟨_, rfl, _, v4, maplen hB4.map _, brn (fun h => absurd (by rw [hB4.rel.len]) h) fun _ => ?_⟩
      have hd := len_delE (keyN n) es
      rw [hin] at hd
      simp only [if_true] at hd
      rw [wi _ (by omega) (by omega)]
      exact ⟨⟨j + 1, by omega, A', H', _, R', M', _, hB4, by omega⟩, by dsimp only; omega⟩
    · have hJ0 : ∃ p : Key × Key, p ∈ es ∧ true = true ∧ k0.length = p.1.length ∧ OwnB u1 kA kc p.1 ∧ (∀ b, ownB kA b → ¬ R b ∧ b ≠ mb) ∧ Ext u1 u1 := ⟨(k0, v0), List.mem_of_getElem? hp, rfl, rfl, oA, fun b hb => by have := nA b hb; exact ⟨fun h => by have := hRu' b h; omega, by omega⟩, .refl _ _⟩
      refine brd (fun hlt => ?_) (fun _ => hJ0)
      obtain ⟨ad, x, hA, hc⟩ := itemO (ho.ext (by decide) hB.hs.e) (j := j) (by omega)
      refine ⟨ad, hA, ⟨by omega, by omega⟩, x, by rw [Int.toNat_natCast]; exact hc, br (fun _ => ?_) (fun _ => hJ0)⟩
      refine (sLast hB.hs.ar hB.sole).mono ?_
      rintro _ u2 ⟨ht, e2⟩
      obtain ⟨p, hp⟩ : ∃ p, es.getLast? = some p := ⟨_, List.getLast?_eq_some_getLast (by intro e; rw [e] at hpos; simp at hpos)⟩
      rw [hp] at ht
      obtain ⟨k1, v1⟩ := p
      obtain ⟨kA2, kc2, vA2, vc2, rfl, oA2, oB2, nA2, nB2, _⟩ := ht
      exact ⟨_, _, _, _, _, _, _, rfl, (k1, v1), List.mem_of_getLast? hp, rfl, rfl, oA2, fun b hb => by have := nA2 b hb; exact ⟨fun h => by have := hRu b h; omega, by omega⟩, e2⟩
  · have hes : es = [] := List.eq_nil_of_length_eq_zero (by have := hB.rel.len; omega)
    subst hes
    obtain ⟨rfl, hn⟩ := bare hB.sole
    refine (sNodes hB.hs.ar hB.sole).mono ?_
    rintro _ _ ⟨rfl, rfl⟩
    have hB := hB.ext (Fr.drew NoB _)
    refine ⟨_, rfl, brd (fun _ => ?_) fun h => absurd (by rw [hn]; rfl) h⟩
    refine (sDeep hB.hs.ar hB.sole).mono ?_
    rintro _ u2 ⟨rfl, e2⟩
    have hB := hB.ext e2
    refine ⟨_, rfl, brd (fun _ => ?_) fun h => absurd rfl h⟩
    refine (sLen hB.hs.ar hB.sole).mono ?_
    rintro _ u3 ⟨rfl, e3⟩
    have hB := hB.ext e3
    refine ⟨_, rfl, brd (fun _ => ?_) fun h => absurd rfl h⟩
    refine (awake_spec u3).mono ?_
    rintro _ u4 ⟨rfl, e4⟩
    exact ⟨_, rfl, rfl, hB.hs.e.trans' e4⟩
end Go.Proofs.Ytadlhdiejmilmaa
/- Layer 4: a tree goes; trees are saved, and loaded: plain. -/
set_option linter.unusedVariables false
set_option linter.unusedSimpArgs false
namespace Go.Proofs.Ytadlhdiejmilmaa
open Go Go.Sx T4
/-! ## a tree goes, plain -/
def dropT (A : Ar) (r : Int) (l : List Nat) : Ar := { dropAll A l with trees := delD A.trees r }
theorem delD_mid {D1 D2 : List Tr} {d : Tr} (h : ((D1 ++ d :: D2).map fun d => d.r).Nodup) : delD ((D1 ++ d :: D2).map fun d => (d.r, d.i)) d.r = (D1 ++ D2).map fun d => (d.r, d.i) := by
  induction D1 with
  | nil => simp [delD]
  | cons x D1 ih =>
    rw [List.cons_append, List.map_cons, List.nodup_cons] at h
    have hne : d.r ≠ x.r := fun e => h.1 (List.mem_map.2 ⟨d, by simp, e⟩)
    show (if d.r = x.r then _ else (x.r, x.i) :: delD ((D1 ++ d :: D2).map fun d => (d.r, d.i)) d.r) = _
    rw [if_neg hne, ih h.2]; rfl
theorem Inv.drop {A : Ar} {D1 D2 : List Tr} {d : Tr} (h : Inv A (D1 ++ d :: D2)) {l : List Nat} (hl : ∀ x, l.count x = d.ps.count x) : Inv (dropT A d.r l) (D1 ++ D2) := by
  have m := mv_dropAll l A
  have hacc : T4.Acc A ((D1.flatMap fun d => d.ps) ++ D2.flatMap fun d => d.ps) l := h.at_.acc.perm fun x => by rw [hl]
  obtain ⟨a1, a2⟩ := m.acc _ hacc
  have hlen := dropAll_len l A
  have hn1 := a1.nodes
  have hn2 := hacc.nodes
  have hno := h.nodes
  have hle := h.len
  refine ⟨?_, fun x hx => ?_, fun x => ?_, ?_, fun x hx => ?_, by show 4 ≤ (dropAll A l).fan; rw [m.fan]; exact h.f1, by show (dropAll A l).fan ≤ 64; rw [m.fan]; exact h.f2, by show (dropAll A l).most ≤ 65536; rw [m.most]; exact h.m, ?_, ?_, by have := h.cnt; simp at this ⊢; omega⟩
  · show delD A.trees d.r = _
    rw [h.trees]; exact delD_mid h.nd
  · show Tree (dropAll A l).nd (dropAll A l).fan x.h (0, 2) x.i none none x.es x.ps
    rw [m.fan]
    refine Tree.keep (h.tree x (by rcases List.mem_append.1 hx with hx | hx <;> simp [hx])) fun j hj => a2 j ?_
    rw [List.mem_append, List.mem_flatMap, List.mem_flatMap]
    rcases List.mem_append.1 hx with hx | hx
    · exact .inl ⟨x, hx, hj⟩
    · exact .inr ⟨x, hx, hj⟩
  · have := a1 x
    rw [List.flatMap_append]
    simp only [List.count_nil, List.count_append] at this ⊢
    show 0 + (_ + _) + (dropAll A l).free.count x = if x < (dropAll A l).at_.length then 1 else 0
    omega
  · have := h.nd
    rw [List.map_append, List.map_cons] at this
    rw [List.map_append]
    exact this.sublist (List.Sublist.append (List.Sublist.refl _) (List.sublist_cons_self _ _))
  · show 1 ≤ x.r ∧ x.r ≤ ((dropAll A l).last : Int)
    rw [m.last]
    exact h.last x (by rcases List.mem_append.1 hx with hx | hx <;> simp [hx])
  · show (dropAll A l).nodes ≤ (dropAll A l).most
    rw [m.most]; rw [List.length_nil] at hn1; omega
  · show (dropAll A l).at_.length ≤ (dropAll A l).most
    rw [m.most]; omega
theorem dropT_nodes {A : Ar} {D1 D2 : List Tr} {d : Tr} (h : Inv A (D1 ++ d :: D2)) {l : List Nat} (hl : ∀ x, l.count x = d.ps.count x) : (dropT A d.r l).nodes + d.ps.length = A.nodes := by
  have h1 := (h.drop hl).acc.nodes
  have h2 := h.acc.nodes
  simp only [List.flatMap_append, List.flatMap_cons, List.length_append, List.length_nil] at h1 h2
  omega
end Go.Proofs.Ytadlhdiejmilmaa
/- What a drawn region comes to, printed by a program of this workplace (pieces2.py); it is proved to be the engine's own. -/
set_option linter.unusedVariables false
set_option maxRecDepth 100000
namespace Go.Proofs.Ytadlhdiejmilmaa
open Go Go.Sx
noncomputable def app0 : Code := match Try.f80.body with | some (.seq r _) => r | _ => .skip
noncomputable def app1 : Code := match Try.f80.body with | some (.seq _ (.seq (.seq r _) _)) => r | _ => .skip
noncomputable def app2 : Code := match Try.f80.body with | some (.seq _ (.seq (.seq _ (.block _ (.rangeFunc _ _ r _))) _)) => r | _ => .skip
noncomputable def appOps : List Oper := match Try.f80.body with | some (.seq _ (.seq (.seq _ (.block _ (.rangeFunc _ _ _ (.block _ (.region _ ops _))))) _)) => ops.toList | _ => []
noncomputable def app4 : Code := match Try.f80.body with | some (.seq _ (.seq _ r)) => r | _ => .skip
theorem app_body : Try.f80.body = some (.seq app0 (.seq (.seq app1 (.block 0 (.rangeFunc (.tmp 6) #[7] app2 (.block 1 (.region 3 appOps.toArray false))))) app4)) := by kernel_rfl
noncomputable def appR.W : Addr → Int → World → (World → Prop) → Prop := fun (b2 : Go.Addr) (v : Int) (w : Go.World) (K : Go.World → Prop) => ∃ (x : Option Go.Addr), ∃ (x_1 : Nat), ∃ (x_2 : Nat),
 Go.World.cell? w b2 = Option.some (Go.Value.slice x x_1 x_2) ∧ ∀ (g : Nat) (w' : Go.World), Go.Sx.Fresh w g w' [Go.Value.int Go.IntKind.i64 v] (3 : Nat) → ∃ (x_3 : Option Go.Addr), ∃ (x_4 : Nat), ∃
 (x_5 : Nat), ∃ (w'_1 : Go.World), Go.Sx.RunsTo Go.Proofs.Try.prog (Go.Builtin.append_ (Array.mk [(22 : Nat), (22 : Nat)]) (22 : Nat) #[Go.Value.slice x x_1 x_2, Go.Value.slice (Option.some (Go.Addr.mk
 g (0 : Nat) Option.none)) (1 : Nat) (1 : Nat)]) w' (Go.Value.slice x_3 x_4 x_5) w'_1 ∧ Go.Sx.stOK b2 (0 : Nat) [Go.Value.slice x_3 x_4 x_5] w'_1 ∧ ∀ (w' : Go.World), w' = Go.Sx.setAll b2 (0 : Nat)
 [Go.Value.slice x_3 x_4 x_5] w'_1 → K w'
theorem appR.eq (b2 : Addr) (v : Int) (w : World) (K : World → Prop) : appR.W b2 v w K = regW .named Try.prog 13 appOps 0 appOps (fun _ w => K w) (Env.set (Env.set (fun _ => none) 2 (some (.pointer (some b2)))) 5 (some (.int .i64 v))) w := by kernel_rfl
end Go.Proofs.Ytadlhdiejmilmaa
/- A range over a function whose body keeps blocks of its own, that it makes as it goes. -/
set_option linter.unusedVariables false
set_option linter.unusedSimpArgs false
namespace Go.Sx
variable {P : Program}
theorem range_allB {α : Type} {enc : α → Value} {xs : List α} {g : Operand} {ps : Array Tmp} {assign body : Code} {Q : Exit → Act → World → Prop} {a : Act} {w : World} {gf : Nat} {lb : Array Value} (hg : a.eval g = .func (.func gf) #[] lb) (eg : ∀ args w, (callFunc gf args).run P w = .ok (.enter gf args) w)
    (Sb : Nat → Prop) (hSb : ∀ k, Sb k → k < w.heap.size)
    (hit : ∀ (l : Nat) (T : Nat → Prop) (J : List α → (Nat → Prop) → World → Prop) (W : World), Ext w W → (∀ k, T k → (Sb k ∨ w.heap.size ≤ k) ∧ k < W.heap.size) → (∀ pre B U, J pre B U → ∀ k, B k → k < U.heap.size) → (∀ pre B U U', J pre B U → Fr (fun k => W.heap.size ≤ k ∧ ¬ B k) U U' → J pre B U') →
      (∀ pre x rest B U, xs = pre ++ x :: rest → J pre B U → YieldAt Fence.wide 0 P l #[enc x] U fun e U' => e = .returned (.bool true) ∧ ∃ B', J (pre ++ [x]) B' U' ∧ (∀ k, B' k → B k ∨ U.heap.size ≤ k) ∧ Fr (fun k => T k ∨ B k) U U') → J [] NoB W →
      CallsIn Fence.wide 0 P gf (#[.func (.yield l) #[] #[]] ++ lb) W fun e U => (∃ v, e = .returned v) ∧ ∃ B, J xs B U)
    (hps : ps.size = 1) (I : List α → (Nat → Prop) → World → Prop) (hIB : ∀ pre B U, I pre B U → ∀ k, B k → k < U.heap.size) (hI : ∀ pre B U U', I pre B U → Fr (fun k => w.heap.size ≤ k ∧ ¬ B k) U U' → I pre B U') (h0 : I [] NoB w) (a₁ : α → Act)
    (hassign : ∀ (l : Nat) (x : α) (W : World) (K : Act → World → Prop), K (a₁ x) W → assign.wpIn (Fence.wide.inRound l) 0 P (Exit.then K (fun _ _ _ => False)) { tmps := (ps.zip #[enc x]).foldl (fun t (p, v) => t.setIfInBounds p v) a.tmps, defers := [] } W)
    (hbody : ∀ (l : Nat) (pre : List α) (x : α) (rest : List α) (B : Nat → Prop) (U : World), xs = pre ++ x :: rest → I pre B U → w.heap.size ≤ U.heap.size → body.wpIn (Fence.wide.inRound l) 0 P (fun e _ U' => e = .normal ∧ ∃ B', (∀ k, B' k → B k ∨ U.heap.size ≤ k) ∧ Fr (fun k => Sb k ∨ B k) U U' ∧ I (pre ++ [x]) B' U') (a₁ x) U)
    (hdone : ∀ (D : Nat) (W : World) (B : Nat → Prop), w.heap.size ≤ D → I xs B W → W.heap[D]? = some (.deferred (some [])) → w.heap.size ≤ W.heap.size → Q .normal { a with defers := { target := .collected D, args := #[] } :: a.defers } W) :
    (Code.rangeFunc g ps assign body).wpIn Fence.wide 0 P Q a w := by
  refine wpIn_rangeFunc ?_
  intro fn hfn
  rw [show Fence.wide.round = none from rfl]
  obtain ⟨rec, hrec⟩ : ∃ rec : LoopState → Option Code → Loop, rec = fun st pe => { state := st, pending := pe, fn, tmps := a.tmps, params := ps, assign, body, defers := w.heap.size } := ⟨_, rfl⟩
  obtain ⟨W1, hW1⟩ : ∃ W1, (w.alloc (.deferred (some []))).alloc (.loop (rec .ready none)) = W1 := ⟨_, rfl⟩
  have hL1 : W1.heap[w.heap.size + 1]? = some (.loop (rec .ready none)) := by
    rw [← hW1]; have := World.alloc_heap_new (w.alloc (.deferred (some []))) (.loop (rec .ready none)); rwa [World.size_alloc] at this
  have hK1 : W1.heap[w.heap.size]? = some (.deferred (some [])) := by
    rw [← hW1]; exact (RowKit.Below.heap_alloc _ _ _ (by simp)).trans (World.alloc_heap_new w _)
  have e1 : Ext w W1 := by rw [← hW1]; exact (Fr.alloc NoB w _).ext (Fr.alloc NoB _ _)
  have hs1 : W1.heap.size = w.heap.size + 2 := by rw [← hW1]; simp
  have hI1 : I [] NoB W1 := hI _ _ _ _ h0 (e1.fr)
  refine ⟨w.heap.size + 1, [{ target := .collected w.heap.size, args := #[] }], W1, { target := .fn (.func gf) lb, args := #[.func (.yield (w.heap.size + 1)) #[] #[]] }, W1, gf,
    #[.func (.yield (w.heap.size + 1)) #[] #[]] ++ lb, W1, ?_, ?_, ?_, ?_, fun h => by simp [Fence.wide] at h, ?_⟩
  · rw [← hW1, hrec]; exact run_enterLoop_outer _ _ _ _ _
  · simp only [resolve, hg]
    simp [go_sem]
  · intro f' hf'; trivial
  · simp [invoke, go_sem, eg]
  · refine (hit (w.heap.size + 1) (fun k => Sb k ∨ k = w.heap.size + 1)
      (fun pre B W => I pre B W ∧ (∀ k, B k → w.heap.size + 2 ≤ k) ∧ W.heap[w.heap.size + 1]? = some (.loop (rec .ready none)) ∧ W.heap[w.heap.size]? = some (.deferred (some [])) ∧ w.heap.size ≤ W.heap.size)
      W1 e1 (fun k hk => ?_) (fun pre B U hJ => hIB _ _ _ hJ.1) (fun pre B U U' hJ hf => ?_) ?_ ⟨hI1, fun _ h => h.elim, hL1, hK1, by omega⟩).mono ?_
    · rcases hk with hk | rfl
      · exact ⟨.inl hk, by have := hSb k hk; omega⟩
      · exact ⟨.inr (by omega), by omega⟩
    · obtain ⟨h1, hB, h2, h3, h4⟩ := hJ
      refine ⟨hI _ _ _ _ h1 (hf.mono fun k _ hk => ⟨by have := hk.1; omega, hk.2⟩), hB, (hf.block _ (Array.getElem?_eq_some_iff.1 h2).1 (fun h => by have := h.1; omega)).trans h2, (hf.block _ (Array.getElem?_eq_some_iff.1 h3).1 (fun h => by have := h.1; omega)).trans h3, Nat.le_trans h4 hf.size⟩
    · rintro pre x rest B W hxs ⟨hi, hB, hl, hk, hsz⟩
      have hlt : w.heap.size + 1 < W.heap.size := (Array.getElem?_eq_some_iff.1 hl).1
      have hy := run_yield (P := P) (args := #[enc x]) hl (by rw [hrec]; simp [hps])
      rw [hrec] at hy
      refine ⟨fn, _, assign, body, hy, roundIn_of_wpIn hfn (hassign _ x W _ ⟨_, run_beginRound hl (by rw [hrec]), ?_⟩)⟩
      generalize hW2 : W.putObj (w.heap.size + 1) (.loop { rec .ready none with state := .busy }) = W2
      have hl2 : W2.heap[w.heap.size + 1]? = some (.loop { rec .ready none with state := .busy }) := by rw [← hW2]; exact World.putObj_heap_same hlt
      have hk2 : W2.heap[w.heap.size]? = some (.deferred (some [])) := by rw [← hW2]; exact (World.putObj_heap_other (by omega)).trans hk
      have f2 : Fr (fun k => k = w.heap.size + 1) W W2 := by rw [← hW2]; exact Fr.putObj W _ _ rfl
      have hI2 : I pre B W2 := hI _ _ _ _ hi (f2.mono fun k _ hk => by have hk : k = w.heap.size + 1 := hk; exact ⟨by omega, fun hb => by have := hB k hb; omega⟩)
      refine wpIn_mono (hbody _ pre x rest B _ hxs hI2 (Nat.le_trans hsz f2.size)) ?_
      rintro e a3 W3 ⟨rfl, B', hB', f3, hi3⟩
      have hl3 : W3.heap[w.heap.size + 1]? = some (.loop { rec .ready none with state := .busy }) := (f3.block _ (Array.getElem?_eq_some_iff.1 hl2).1 (fun h => by rcases h with h | h; (· have := hSb _ h; omega); (· have := hB _ h; omega))).trans hl2
      have hk3 : W3.heap[w.heap.size]? = some (.deferred (some [])) := (f3.block _ (Array.getElem?_eq_some_iff.1 hk2).1 (fun h => by rcases h with h | h; (· have := hSb _ h; omega); (· have := hB _ h; omega))).trans hk2
      have hr := run_endRound (P := P) none hl3
      rw [hrec] at hr
      have hs2 : W.heap.size ≤ W2.heap.size := f2.size
      have hB2 : ∀ k, B' k → w.heap.size + 2 ≤ k := fun k hk => by
        rcases hB' k hk with h | h
        · exact hB k h
        · omega
      refine ⟨_, _, hr, rfl, B', ⟨?_, hB2, ?_, ?_, ?_⟩, ?_, ?_⟩
      · exact hI _ _ _ _ hi3 (Fr.putObj W3 _ _ ⟨by omega, fun hb => by have := hB2 _ hb; omega⟩)
      · rw [hrec]; exact World.putObj_heap_same (Array.getElem?_eq_some_iff.1 hl3).1
      · exact (World.putObj_heap_other (by omega)).trans hk3
      · have := f3.size; have := f2.size; simp; omega
      · intro k hk
        rcases hB' k hk with h | h
        · exact .inl h
        · exact .inr (Nat.le_trans hs2 h)
      · exact (f2.trans f3 (S'' := fun k => (Sb k ∨ k = w.heap.size + 1) ∨ B k) (fun k _ hk => .inl (.inr hk)) (fun k _ hk => hk.elim (fun h => .inl (.inl h)) .inr)).trans (Fr.putObj (S := fun k => (Sb k ∨ k = w.heap.size + 1) ∨ B k) W3 _ _ (.inl (.inr rfl))) (fun _ _ h => h) (fun _ _ h => h)
    · rintro e W2 ⟨⟨v, rfl⟩, B, hi, hB, hl, hk, hsz⟩
      refine ⟨none, _, by have := run_endLoop (P := P) hl (by rw [hrec]; simp); rw [hrec] at this; exact this, hdone _ _ B (Nat.le_refl _) (hI _ _ _ _ hi (Fr.putObj W2 _ _ ⟨by omega, fun hb => by have := hB _ hb; omega⟩)) ((World.putObj_heap_other (by omega)).trans hk) (by simp; omega)⟩
end Go.Sx
/- Layer 4: the places below one, collected: the iterator beside a body with blocks of its own; a map's copy. -/
set_option linter.unusedVariables false
set_option linter.unusedSimpArgs false
namespace Go.Proofs.Ytadlhdiejmilmaa
open Go Go.Sx T4
open Go.RowKit Go.Shelf
attribute [local go_sem] Oper.semAt_some
/-- what the iterator knows between two rounds -/
structure AllRelB (R M T : Nat → Prop) (W : World) (g : Nat) (A : Ar) (xs : List Nat) (J : List Nat → (Nat → Prop) → World → Prop) (B : Nat → Prop) (N : Nat) (v : Value) (u : World) (At : Option Addr) (c : Nat) (st : List (Nat × Nat)) (pre : List Nat) : Prop where
  v : v = .slice At st.length c
  own : OwnK KN u At c (st.map (·.2))
  ge : ∀ k, ownB At k → W.heap.size ≤ k
  tr : ∀ p ∈ st, isTree A p
  xs : xs = pre ++ restOf A st
  n : N = (restOf A st).length
  j : J pre B u
  off : ∀ k, ownB At k → ¬ B k
  bge : ∀ k, B k → W.heap.size ≤ k
  fr : Fr (fun k => T k ∨ W.heap.size ≤ k) W u
  len : pre.length + st.length ≤ 1048576
set_option maxHeartbeats 200000 in
theorem all1_specB {R M : Nat → Prop} {W : World} {g : Nat} {A : Ar} (h : Ar1 R M W g A) {H i : Nat} (ht : isTree A (H, i)) (hlen : (allF H A i).length ≤ 1000000) {b1 b2 l : Nat} (hb1 : Blk W b1 [iv i]) (hb2 : Blk W b2 [.pointer (some ⟨g, 0, none⟩)]) (T : Nat → Prop) (hT : ∀ k, T k → k < W.heap.size ∧ ¬ R k ∧ k ≠ b2)
    (J : List Nat → (Nat → Prop) → World → Prop) (hJB : ∀ pre B U, J pre B U → ∀ k, B k → k < U.heap.size) (hJ : ∀ pre B U U', J pre B U → Fr (fun k => W.heap.size ≤ k ∧ ¬ B k) U U' → J pre B U')
    (hY : ∀ pre x rest B U, allF H A i = pre ++ x :: rest → J pre B U → YieldAt Fence.wide 0 Try.prog l #[iv x] U fun e U' => e = .returned (.bool true) ∧ ∃ B', J (pre ++ [x]) B' U' ∧ (∀ k, B' k → B k ∨ U.heap.size ≤ k) ∧ Fr (fun k => T k ∨ B k) U U') (h0 : J [] NoB W) :
    CallsIn Fence.wide 0 Try.prog 77 (#[.func (.yield l) #[] #[]] ++ #[.pointer (some ⟨b1, 0, none⟩), .pointer (some ⟨b2, 0, none⟩)]) W fun e U => (∃ v, e = .returned v) ∧ ∃ B, J (allF H A i) B U := by
  generalize hxs : allF H A i = xs at *
  refine callsIn_of_wp Try.func77 all_body trivial ?_ rfl
  simp only [Try.ntmps77, List.size_toArray, List.length_cons, List.length_nil, Nat.reduceAdd, Nat.reduceSub, Array.replicate_succ, Array.replicate_zero, List.push_toArray, List.append_toArray, List.nil_append, List.cons_append]
  refine wpIn_seq ?_
  obtain ⟨e0, he0⟩ : ∃ e0 : Value, e0 = .func (.yield l) #[] #[] := ⟨_, rfl⟩
  have ag0 : ∀ {a : Act}, a.defers = [] → a.tmps.size = 37 → a.tmps[0]? = some e0 → a.tmps[1]? = some (.pointer (some ⟨b1, 0, none⟩)) → a.tmps[2]? = some (.pointer (some ⟨b2, 0, none⟩)) → Agrees 37 (Env.set (Env.set (Env.set (fun _ => none) 0 (some e0)) 1 (some (.pointer (some ⟨b1, 0, none⟩)))) 2 (some (.pointer (some ⟨b2, 0, none⟩)))) a := by
    intro a h1 h2 h3 h4 h5
    refine ⟨h1, h2, fun t v hv => ?_⟩
    rcases set_get hv with ⟨e, hv2⟩ | hv2
    · rw [e, h5, hv2]
    rcases set_get hv2 with ⟨e, hv3⟩ | hv3
    · rw [e, h4, hv3]
    rcases set_get hv3 with ⟨e, hv4⟩ | hv4
    · rw [e, h3, hv4]
    · cases hv4
  have agS : ∀ {ρ : Env} {a : Act} {t : Nat} {v : Value}, Agrees 37 ρ a → a.tmps[t]? = some v → Agrees 37 (Env.set ρ t (some v)) a := by
    intro ρ a t v h1 h2
    refine ⟨h1.defers, h1.size, fun u x hx => ?_⟩
    rcases set_get hx with ⟨e, hx2⟩ | hx2
    · rw [e, h2, hx2]
    · exact h1.at_ _ _ hx2
  have hM := h.mlt
  have hRlt := h.lt
  have hb1lt := hb1.lt
  have hb2lt := hb2.lt
  refine piece all0 (K := kV 4 fun v w => ∃ gb, v = .slice (some ⟨gb, 0, none⟩) 1 1 ∧ Fresh W gb w [iv i] 3) (ρ := Env.set (Env.set (Env.set (fun _ => none) 0 (some e0)) 1 (some (.pointer (some ⟨b1, 0, none⟩)))) 2 (some (.pointer (some ⟨b2, 0, none⟩)))) ?_ (ag0 rfl rfl (by rw [he0]; rfl) rfl rfl) ?_
  · rw [← all0R.eq e0 ⟨b1, 0, none⟩ ⟨b2, 0, none⟩ W (fun v w => ∃ gb, v = .slice (some ⟨gb, 0, none⟩) 1 1 ∧ Fresh W gb w [iv i] 3)]
    unfold all0R.W
    exact ⟨_, hb1.cell0 rfl, fun gb w' f => ⟨gb, rfl, f⟩⟩
  rintro e a w1 hsame ⟨ρ', hag, hK⟩ hp ho
  · obtain ⟨rfl, _, hρ, gb, rfl, f1⟩ := kV_elim hK
    have hk0 : a.tmps[0]? = some e0 := (offs_keep offs0 hsame (t := 0) (by simp)).trans (by rw [he0]; rfl)
    have hk1 : a.tmps[1]? = some (.pointer (some ⟨b1, 0, none⟩)) := (offs_keep offs0 hsame (t := 1) (by simp)).trans rfl
    have hk2 : a.tmps[2]? = some (.pointer (some ⟨b2, 0, none⟩)) := (offs_keep offs0 hsame (t := 2) (by simp)).trans rfl
    show Code.wpIn _ _ _ _ _ _ _
    refine wpIn_block ?_
    have e1 := f1.ext
    have own0 : OwnK KN w1 (some ⟨gb, 0, none⟩) 1 [i] := by
      obtain ⟨rfl, rfl⟩ := f1
      exact ownK_lit (K := KN) (l := [i]) (cs := [iv i]) rfl (by simp [maxLen]) (fun j a hj => by cases j with | zero => simp at hj; subst hj; rfl | succ j => simp at hj)
    refine wpIn_loop (fun a u => a.defers = [] ∧ a.tmps.size = 37 ∧ a.tmps[0]? = some e0 ∧ a.tmps[1]? = some (.pointer (some ⟨b1, 0, none⟩)) ∧ a.tmps[2]? = some (.pointer (some ⟨b2, 0, none⟩)) ∧ ∃ v, a.tmps[4]? = some v ∧ ∃ N At c st pre B, AllRelB R M T W g A xs J B N v u At c st pre)
      (fun a u => leastN fun N => ∃ v, a.tmps[4]? = some v ∧ ∃ At c st pre B, AllRelB R M T W g A xs J B N v u At c st pre) ?_ ?_
    · refine ⟨hag.defers, hag.size, hk0, hk1, hk2, _, hag.at_ 4 _ hρ, _, some ⟨gb, 0, none⟩, 1, [(H, i)], [], NoB, rfl, own0, fun k hk => by rw [ownB_some] at hk; subst hk; exact f1.ge, fun p hp => by simp at hp; subst hp; exact ht, by rw [← hxs]; simp [restOf], rfl, hJ _ _ _ _ h0 e1.fr, fun _ _ h => h, fun _ h => h.elim, e1.fr, by simp⟩
    · rintro a u ⟨had, hasz, ha0, ha1, ha2, v, hv, hN⟩
      have hex : ∃ N, ∃ v, a.tmps[4]? = some v ∧ ∃ At c st pre B, AllRelB R M T W g A xs J B N v u At c st pre := by obtain ⟨N, hN⟩ := hN; exact ⟨N, v, hv, hN⟩
      obtain ⟨⟨v', hv', At, c, st, pre, B, hR⟩, hmin⟩ := leastN_spec hex
      rw [hv] at hv'; cases hv'
      generalize hN0 : (leastN fun N => ∃ v, a.tmps[4]? = some v ∧ ∃ At c st pre B, AllRelB R M T W g A xs J B N v u At c st pre) = N0 at *
      obtain rfl := hR.v
      have agA := agS (ag0 had hasz ha0 ha1 ha2) hv
      refine wpIn_seq ?_
      refine piece all1 (K := fun e ρ w => w = u ∧ ((e = .normal ∧ 0 < st.length) ∨ (e = .exit 0 ∧ st.length = 0))) ?_ agA ?_
      · rw [← all1R.eq e0 ⟨b1, 0, none⟩ ⟨b2, 0, none⟩ At st.length c u (fun e w => w = u ∧ ((e = .normal ∧ 0 < st.length) ∨ (e = .exit 0 ∧ st.length = 0)))]
        unfold all1R.W
        exact brd (fun hlt => ⟨rfl, .inl ⟨rfl, by omega⟩⟩) (fun hge => ⟨rfl, .inr ⟨rfl, by omega⟩⟩)
      rintro e a1 u1 hs1 ⟨ρ1, hag1, rfl, hK⟩ hp1 ho1
      rcases hK with ⟨rfl, hpos⟩ | ⟨rfl, hzero⟩
      · -- one place more
        have k0 : a1.tmps[0]? = some e0 := (offs_keep offs1 hs1 (t := 0) (by simp)).trans ha0
        have k1 : a1.tmps[1]? = some (.pointer (some ⟨b1, 0, none⟩)) := (offs_keep offs1 hs1 (t := 1) (by simp)).trans ha1
        have k2 : a1.tmps[2]? = some (.pointer (some ⟨b2, 0, none⟩)) := (offs_keep offs1 hs1 (t := 2) (by simp)).trans ha2
        have k4 := (offs_keep offs1 hs1 (t := 4) (by simp)).trans hv
        obtain ⟨st', p, rfl⟩ : ∃ st' p, st = st' ++ [p] := ⟨st.dropLast, st.getLast (List.length_pos_iff.1 hpos), (List.dropLast_concat_getLast _).symm⟩
        obtain ⟨n, kk, hnd, hna, hpk, hall, hkids⟩ := (hR.tr p (by simp)).step
        have hlst : (st' ++ [p]).length = st'.length + 1 := by simp
        have e1' : IntKind.i64.wrap (((st' ++ [p]).length : Int) - 1) = ((st'.length : Nat) : Int) := by rw [hlst, wi _ (by omega) (by have := hR.len; rw [hlst] at this; omega)]; omega
        have hle : st'.length + 1 ≤ c := by have := hR.own.le; simpa using this
        have hfr := hR.fr
        have b2u : Blk u1 b2 [.pointer (some ⟨g, 0, none⟩)] := hb2.keep hfr (fun h => h.elim (fun h => (hT _ h).2.2 rfl) (fun h => by omega))
        have hAu : Ar1 R M u1 g A := h.frame hfr (fun k hk hs => hs.elim (fun h => (hT _ h).2.1) (fun h => by have : W.heap.size ≤ k := h; intro hr; have := hRlt k hr; omega))
        obtain ⟨xs0, hx0, hxf⟩ := (ownK1 oneN).1 hR.own
        have hcell : ∃ gA, At = some ⟨gA, 0, none⟩ ∧ u1.cell? ⟨gA, st'.length, none⟩ = some (iv p.2) := by
          obtain ⟨vv, hvv, hrr⟩ := hxf.get (i := st'.length) (a := p.2) (by simp)
          have hrr : [vv] = [iv p.2] := hrr
          cases hrr
          exact hx0.cells hvv
        obtain ⟨gA, rfl, hcell⟩ := hcell
        show Code.wpIn _ _ _ _ _ _ _
        refine wpIn_block (wpIn_seq ?_)
        refine piece all2 (K := kV 5 fun v w => v = iv p.2 ∧ w = u1) ?_ (agS (ag0 hag1.defers hag1.size k0 k1 k2) k4) ?_
        · rw [← all2R.eq e0 ⟨b1, 0, none⟩ ⟨b2, 0, none⟩ (some ⟨gA, 0, none⟩) (st' ++ [p]).length c u1 (fun v w => v = iv p.2 ∧ w = u1)]
          unfold all2R.W
          rw [e1']
          exact ⟨_, rfl, ⟨by omega, by omega⟩, _, by rw [add_new, Nat.zero_add, Int.toNat_natCast, Nat.mul_one]; exact hcell, rfl, rfl⟩
        rintro e a2 u2 hs2 ⟨ρ2, hag2, hK2⟩ hp2 ho2
        · obtain ⟨rfl, _, hρ5, rfl, rfl⟩ := kV_elim hK2
          have m0 := (offs_keep offs2 hs2 (t := 0) (by simp)).trans k0
          have m1 := (offs_keep offs2 hs2 (t := 1) (by simp)).trans k1
          have m2 := (offs_keep offs2 hs2 (t := 2) (by simp)).trans k2
          have m4 := (offs_keep offs2 hs2 (t := 4) (by simp)).trans k4
          have m5 := hag2.at_ 5 _ hρ5
          show Code.wpIn _ _ _ _ _ _ _
          refine wpIn_seq ?_
          have hAu2 := hAu
          obtain ⟨At0, ac, Fa, fc, mb, ha⟩ := hAu2
          obtain ⟨hil, ga, bn, A1, c1, A2, c2, A3, c3, rfl, hcn, hN⟩ := ha.node hnd
          have hcl := hN.okn.c
          have hrl : (restOf A (st' ++ [p])).length ≤ xs.length := by rw [hR.xs, List.length_append]; omega
          have hrp := restOf_pop A st' p
          have hex2 : xs = pre ++ p.2 :: (n.kids.reverse.flatMap (allF kk A) ++ restOf A st') := by rw [hR.xs, hrp, hall]; rfl
          have hst' : st'.length + pre.length ≤ 1048576 := by have := hR.len; rw [hlst] at this; omega
          obtain ⟨v', w3, hap, hown3, hg3⟩ : ∃ v' w3, (∃ At' c', v' = .slice At' (st' ++ n.kids.map fun j => (kk, j)).length c' ∧ OwnK KN w3 At' c' ((st' ++ n.kids.map fun j => (kk, j)).map (·.2)) ∧ ∀ k, ownB At' k → W.heap.size ≤ k ∧ ¬ B k) ∧ RunsTo Try.prog (Builtin.append_ #[22, 22] 22 #[.slice (some ⟨gA, 0, none⟩) st'.length c, .slice A3 n.kids.length c3]) u2.drew v' w3 ∧ Fr (fun k => W.heap.size ≤ k ∧ ¬ B k) u2.drew w3 := by
            have ot := hR.own.take st'.length (by simp)
            have e3 : ((st' ++ [p]).map (·.2)).take st'.length = st'.map (·.2) := by simp
            rw [e3] at ot
            have hk3 : Imm KN (ownB (some ⟨gA, 0, none⟩)) u2 A3 n.kids := by
              intro ii aa haa
              obtain ⟨ad, h1, h2, cs, h3, h4⟩ := hN.kids ii aa haa
              refine ⟨ad, h1, fun hk => ?_, cs, h3, h4⟩
              have hge := hR.ge _ hk
              exact h2 (.inl fun hr => by have := hRlt _ hr; omega)
            obtain ⟨At', c', w3, hr3, ho3, gr3⟩ := (ot.ext (Fr.drew NoB u2)).append (K := KN) slI (ty := 22) (cb := c3) (hk3.keep KN_pos ((Fr.drew NoB u2).step (Ω := ownB (some ⟨gA, 0, none⟩)) (Ω' := ownB (some ⟨gA, 0, none⟩)) (fun _ _ h => h.elim) (fun _ _ h => h))) (fun a cs h => oneN.one h) (by simp only [maxLen, List.length_map]; omega) (by simp only [List.length_map]; omega)
            refine ⟨_, w3, ⟨At', c', ?_, ?_, fun k hk => ?_⟩, by rw [List.length_map] at hr3; exact hr3, gr3.fr.mono fun k _ hk => ⟨hR.ge k hk, hR.off k hk⟩⟩
            · simp
            · have : (st' ++ n.kids.map fun j => (kk, j)).map (·.2) = st'.map (·.2) ++ n.kids := by simp [Function.comp_def]
              rw [this]; exact ho3
            · rcases gr3.sub k hk with h | h
              · exact ⟨hR.ge k h, hR.off k h⟩
              · exact ⟨Nat.le_trans hfr.size h, fun hb => by have h1 := hJB _ _ _ hR.j k hb; have : u2.heap.size ≤ k := h; omega⟩
          obtain ⟨At', c', rfl, hown', hge'⟩ := hap
          refine piece all3 (K := kV 4 fun v w => v = .slice At' (st' ++ n.kids.map fun j => (kk, j)).length c' ∧ w = w3) ?_ (agS (agS (ag0 hag2.defers hag2.size m0 m1 m2) m4) m5) ?_
          · rw [← all3R.eq e0 ⟨b1, 0, none⟩ ⟨b2, 0, none⟩ (some ⟨gA, 0, none⟩) (st' ++ [p]).length c (p.2 : Int) u2 (fun v w => v = .slice At' (st' ++ n.kids.map fun j => (kk, j)).length c' ∧ w = w3)]
            unfold all3R.W
            rw [e1', Int.toNat_natCast, Int.toNat_natCast, cutAt_zero, Nat.sub_zero, Nat.sub_zero]
            have s0 : Fr (fun k => W.heap.size ≤ k ∧ ¬ B k) u2 u2.drew := Fr.drew _ u2
            have rd : ∀ {ad : Addr} {v : Value}, u2.cell? ad = some v → ad.block < W.heap.size → ∀ x, Fr (fun k => W.heap.size ≤ k ∧ ¬ B k) u2 x → x.cell? ad = some v := fun h1 h2 x hx => hx.cell (fun h => by have := h.1; omega) h1
            have rb : ∀ {k : Nat}, R k → k < W.heap.size := fun hr => hRlt _ hr
            have rbn : R bn := Classical.byContradiction fun hr => hN.off (.inl hr)
            refine ⟨⟨by omega, by omega⟩, fun v => Fr (fun k => W.heap.size ≤ k ∧ ¬ B k) u2 v, s0, _, rd (b2u.cell0 rfl) hb2lt, _, rfl, _, _, _, rd (ad := (⟨g, 0, none⟩ : Addr).add 2) (ha.blk.cell rfl) (by rw [add_block]; exact rb (ha.mr _ ha.mg)), _, rfl, ⟨by omega, by omega⟩, _, ?_, _, rfl, A3, n.kids.length, c3, rd (ad := (⟨bn, 0, none⟩ : Addr).add 2) (hN.blk.cell rfl) (by rw [add_block]; exact rb rbn), _, _, _, w3, hown3, s0.trans hg3 (fun _ _ h => h) (fun _ _ h => h), rfl, rfl⟩
            refine rd (by rw [add_new, Nat.zero_add, Nat.mul_one]; exact hcn) ?_
            rw [add_block]; exact rb (ha.mr _ (ha.mA _ ⟨_, rfl, rfl⟩))
          rintro e a3 u3 hs3 ⟨ρ3, hag3, hK3⟩ hp3 ho3
          obtain ⟨rfl, _, hρ4, rfl, rfl⟩ := kV_elim hK3
          have q0 := (offs_keep offs3 hs3 (t := 0) (by simp)).trans m0
          have q1 := (offs_keep offs3 hs3 (t := 1) (by simp)).trans m1
          have q2 := (offs_keep offs3 hs3 (t := 2) (by simp)).trans m2
          have q5 := (offs_keep offs3 hs3 (t := 5) (by simp)).trans m5
          have q4 := hag3.at_ 4 _ hρ4
          obtain ⟨x0, x1, x2, x3, x4, x5, x6, x7, x8, x9, x10, x11, x12, x13, x14, x15, x16, x17, x18, x19, x20, x21, x22, x23, x24, x25, x26, x27, x28, x29, x30, x31, x32, x33, x34, x35, x36, rfl⟩ := list37 hag3.size hag3.defers
          simp only [List.getElem?_toArray, List.getElem?_cons_zero, List.getElem?_cons_succ, Option.some.injEq] at q0 q1 q2 q4 q5
          subst q0; subst q1; subst q2; subst q4; subst q5
          subst he0
          have hg30 : Fr (fun k => W.heap.size ≤ k ∧ ¬ B k) u2 u3 := (Fr.drew _ u2).trans hg3 (fun _ _ h => h) (fun _ _ h => h)
          have hJ3 : J pre B u3 := hJ _ _ _ _ hR.j hg30
          obtain ⟨fnn, tmps, assign, body, hy, hRo⟩ := hY pre p.2 _ B u3 hex2 hJ3
          have hy : (Instr.yield l #[.int .i64 (p.2 : Int)]).run Try.prog u3 = .ok (.round l fnn tmps assign body) u3 := hy
          show Code.wpIn _ _ _ _ _ _ _
          simp only [all4, Try.f77]
          gi_wp2
          refine ⟨rfl, hRo.mono ?_⟩
          rintro e U' ⟨rfl, B', hJ', hB', hFr⟩
          gi_wp2
          have hlr := restOf_len A (st' ++ n.kids.map fun j => (kk, j))
          have hrn : restOf A (st' ++ n.kids.map fun j => (kk, j)) = n.kids.reverse.flatMap (allF kk A) ++ restOf A st' := restOf_push A st' kk n.kids
          have hnew : AllRelB R M T W g A xs J B' (restOf A (st' ++ n.kids.map fun j => (kk, j))).length (.slice At' (st'.length + n.kids.length) c') U' At' c' (st' ++ n.kids.map fun j => (kk, j)) (pre ++ [p.2]) := by
            have hxs2 : xs = (pre ++ [p.2]) ++ restOf A (st' ++ n.kids.map fun j => (kk, j)) := by rw [hrn, hex2]; simp
            refine ⟨by simp, hown'.fr hFr (fun k hk hk' => by have h1 := hge' k hk; rcases hk' with hk' | hk'; (· have := (hT k hk').1; omega); (· exact h1.2 hk')) (fun _ _ _ h => h), fun k hk => (hge' k hk).1, fun q hq => ?_, hxs2, rfl, hJ', fun k hk hb => ?_, fun k hb => ?_, (hfr.trans hg30 (S'' := fun k => T k ∨ W.heap.size ≤ k) (fun _ _ h => h) (fun _ _ h => .inr h.1)).trans hFr (fun _ _ h => h) (fun k _ h => h.elim .inl fun h => .inr (hR.bge k h)), ?_⟩
            · rcases List.mem_append.1 hq with hq | hq
              · exact hR.tr q (List.mem_append_left _ hq)
              · obtain ⟨j, hj, rfl⟩ := List.mem_map.1 hq; exact hkids j hj
            · rcases hB' k hb with h | h
              · exact (hge' k hk).2 h
              · have := hown'.lt k hk; omega
            · rcases hB' k hb with h | h
              · exact hR.bge k h
              · exact Nat.le_trans (Nat.le_trans hfr.size hg30.size) h
            · have := congrArg List.length hxs2
              rw [List.length_append] at this
              omega
          refine ⟨⟨trivial, rfl, rfl, rfl, rfl, _, rfl, _, At', c', _, _, _, hnew⟩, ?_⟩
          refine Nat.lt_of_le_of_lt ((leastN_spec ⟨_, _, rfl, At', c', _, _, _, hnew⟩).2 _ ⟨_, rfl, At', c', _, _, _, hnew⟩) ?_
          rw [hR.n, hrp, hall, hrn]
          simp
      · -- all have come
        have hst0 : st = [] := List.eq_nil_of_length_eq_zero hzero
        subst hst0
        have hx : xs = pre := by rw [hR.xs]; simp [restOf]
        simp only [Exit.then, Exit.inBlock, if_true]
        exact ⟨hag1.defers, _, results_none rfl _ _ _, ⟨_, rfl⟩, B, by rw [hx]; exact hR.j⟩
end Go.Proofs.Ytadlhdiejmilmaa
/- Layer 4: the places below one, collected; a tree goes; trees are saved and loaded. -/
set_option linter.unusedVariables false
set_option linter.unusedSimpArgs false
namespace Go.Proofs.Ytadlhdiejmilmaa
open Go Go.Sx T4
open Go.RowKit Go.Shelf
attribute [local go_sem] Oper.semAt_some
theorem app_nd : noDef appOps = true := by kernel_rfl
set_option maxRecDepth 100000 in
set_option maxHeartbeats 2000000 in
theorem AppendSeq_in {R M : Nat → Prop} {w : World} {g : Nat} {A : Ar} (h : Ar1 R M w g A) {H i : Nat} (ht : isTree A (H, i)) (hlen : (allF H A i).length ≤ 1000000) {b1 b2 : Nat} (hb1 : Blk w b1 [iv i]) (hb2 : Blk w b2 [.pointer (some ⟨g, 0, none⟩)]) :
    CallsIn Fence.wide 0 Try.prog 80 #[.slice none 0 0, .func (.func 77) #[] #[.pointer (some ⟨b1, 0, none⟩), .pointer (some ⟨b2, 0, none⟩)]] w fun e w' => ∃ v, e = .returned v ∧ ∃ A' c', v = .slice A' (allF H A i).length c' ∧ OwnK KN w' A' c' (allF H A i) ∧ Ext w w' ∧ New w A' := by
  refine callsIn_of_wp_marks Try.func80 app_body trivial ?_ rfl
  simp only [Try.ntmps80, List.size_toArray, List.length_cons, List.length_nil, Nat.reduceAdd, Nat.reduceSub, Array.replicate_succ, Array.replicate_zero, List.push_toArray, List.append_toArray, List.nil_append, List.cons_append]
  simp only [app0, app1, Try.f80]
  have e1 : Ext w (w.alloc (Obj.cells #[Value.slice none 0 0] 22)) := Fr.alloc NoB w _
  have hbs : Blk (w.alloc (Obj.cells #[Value.slice none 0 0] 22)) w.heap.size [.slice none 0 0] := Blk.alloc w [.slice none 0 0] 22
  have hs1 : (w.alloc (Obj.cells #[Value.slice none 0 0] 22)).heap.size = w.heap.size + 1 := by simp
  gi_wp2
  generalize hw1 : w.alloc (Obj.cells #[Value.slice none 0 0] 22) = w1 at *
  have hR := h.lt
  have hb1l := hb1.lt
  have hb2l := hb2.lt
  refine range_allB (enc := iv) (xs := allF H A i) (gf := 77) (lb := #[.pointer (some ⟨b1, 0, none⟩), .pointer (some ⟨b2, 0, none⟩)]) rfl (enters_of Try.func77 (by kernel_rfl) rfl) (fun k => k = w.heap.size) (by rintro k rfl; omega) ?hit rfl
    (fun pre B U => ∃ At c, (∀ k, B k ↔ ownB At k) ∧ Blk U w.heap.size [.slice At pre.length c] ∧ OwnK KN U At c pre ∧ (∀ k, ownB At k → w1.heap.size ≤ k) ∧ Ext w U) ?hIB ?hI ⟨none, 0, fun k => ⟨fun h => h.elim, fun h => by obtain ⟨_, h, _⟩ := h; cases h⟩, hbs, OwnK.nil _ _, fun k h => (by obtain ⟨_, h, _⟩ := h; cases h), e1⟩
    (fun x => { tmps := #[.slice none 0 0, .func (.func 77) #[] #[.pointer (some ⟨b1, 0, none⟩), .pointer (some ⟨b2, 0, none⟩)], .pointer (some ⟨w.heap.size, 0, none⟩), undef, .slice none 0 0, iv x, .func (.func 77) #[] #[.pointer (some ⟨b1, 0, none⟩), .pointer (some ⟨b2, 0, none⟩)], iv x, undef, undef, undef, undef, undef], defers := [] }) ?assign ?body ?done
  case hit =>
    intro l T' J W eW hT' hJB hJ hY h0
    refine all1_specB (h.ext (e1.trans' eW)) ht hlen (hb1.ext (e1.trans' eW)) (hb2.ext (e1.trans' eW)) T' (fun k hk => ?_) J hJB hJ hY h0
    obtain ⟨h1, h2⟩ := hT' k hk
    refine ⟨h2, fun hr => ?_, ?_⟩
    · have := hR k hr; rcases h1 with h1 | h1 <;> omega
    · rcases h1 with h1 | h1 <;> omega
  case hIB =>
    rintro pre B U ⟨At, c, hB, _, ho, _⟩ k hk
    exact ho.lt k ((hB k).1 hk)
  case hI =>
    rintro pre B U U' ⟨At, c, hB, hb, ho, hg, e⟩ hf
    refine ⟨At, c, hB, hb.keep hf (fun h => by have := h.1; omega), ho.fr hf (fun k hk hs => hs.2 ((hB k).2 hk)) (fun _ _ _ h => h), hg, ⟨hf.os.trans e.os, hf.tape.trans e.tape, hf.output.trans e.output, Nat.le_trans e.size hf.size, fun k hk _ => (hf.block k (Nat.lt_of_lt_of_le hk e.size) (fun h => by have := h.1; omega)).trans (e.block k hk fun h => h)⟩⟩
  case assign =>
    intro l x W K hK
    simp only [app2, Try.f80]
    gi_wp2
    exact hK
  case body =>
    rintro l pre x rest B U hxs ⟨At, c, hB, hb, ho, hg, e⟩ hsz
    refine wpIn_block ?_
    have hag : Agrees 13 (Env.set (Env.set (fun _ => none) 2 (some (.pointer (some ⟨w.heap.size, 0, none⟩)))) 5 (some (.int .i64 (x : Int)))) { tmps := #[.slice none 0 0, .func (.func 77) #[] #[.pointer (some ⟨b1, 0, none⟩), .pointer (some ⟨b2, 0, none⟩)], .pointer (some ⟨w.heap.size, 0, none⟩), undef, .slice none 0 0, iv x, .func (.func 77) #[] #[.pointer (some ⟨b1, 0, none⟩), .pointer (some ⟨b2, 0, none⟩)], iv x, undef, undef, undef, undef, undef], defers := [] } := by
      refine ⟨rfl, rfl, fun t v hv => ?_⟩
      rcases set_get hv with ⟨e, hv2⟩ | hv2
      · rw [e, ← hv2]; rfl
      rcases set_get hv2 with ⟨e, hv3⟩ | hv3
      · rw [e, ← hv3]; rfl
      · cases hv3
    have hpl : pre.length + 1 ≤ 1000000 := by have := congrArg List.length hxs; rw [List.length_append, List.length_cons] at this; omega
    refine wpIn_mono (region_in okay 3 appOps false app_nd (opsDst appOps) (fun e => match e with | .normal => fun _ u => ∃ At' c', Blk u w.heap.size [.slice At' (pre ++ [x]).length c'] ∧ OwnK KN u At' c' (pre ++ [x]) ∧ (∀ k, ownB At' k → ownB At k ∨ U.heap.size ≤ k) ∧ Fr (fun k => k = w.heap.size ∨ ownB At k) U u | _ => fun _ _ => False) _ _ U (fun _ h => h) (.refl _ _) hag ?_) ?_
    · rw [cond_false]
      show regW .named Try.prog 13 appOps 0 appOps (fun _ u => ∃ At' c', Blk u w.heap.size [.slice At' (pre ++ [x]).length c'] ∧ OwnK KN u At' c' (pre ++ [x]) ∧ (∀ k, ownB At' k → ownB At k ∨ U.heap.size ≤ k) ∧ Fr (fun k => k = w.heap.size ∨ ownB At k) U u) _ U
      rw [← appR.eq ⟨w.heap.size, 0, none⟩ (x : Int) U (fun u => ∃ At' c', Blk u w.heap.size [.slice At' (pre ++ [x]).length c'] ∧ OwnK KN u At' c' (pre ++ [x]) ∧ (∀ k, ownB At' k → ownB At k ∨ U.heap.size ≤ k) ∧ Fr (fun k => k = w.heap.size ∨ ownB At k) U u)]
      unfold appR.W
      refine ⟨_, _, _, hb.cell0 rfl, ?_⟩
      rintro g2 U1 ⟨rfl, rfl⟩
      obtain ⟨A', c', U2, hr, ho', gr⟩ := ho.push slI (ty := 22) (a := x) (cs := [iv x]) rfl (fun v hv => by simp at hv; subst hv; rfl) (e' := 3) (by simp only [maxLen]; omega) (by omega)
      have hb2' := hb.keep gr.fr (fun hk => by have := hg _ hk; omega)
      obtain ⟨q1, q2⟩ := setF hb2' (o := 0) (by simp) (.slice A' (pre ++ [x]).length c')
      rw [add_zero'] at q1 q2
      refine ⟨_, _, _, U2, hr, q1, fun u hu => ?_⟩
      obtain ⟨b3, f3⟩ := q2 u hu
      refine ⟨A', c', b3, ho'.fr f3 (fun k hk he => ?_) (fun _ _ _ h => h), gr.sub, (gr.fr.mono fun _ _ h => .inr h).trans f3 (fun _ _ h => h) (fun _ _ h => .inl h)⟩
      have he : k = w.heap.size := he
      rcases gr.sub k hk with h | h
      · have := hg k h; omega
      · have := hb.lt; omega
    · intro e' a' u hq
      cases e' with
      | normal =>
        obtain ⟨_, ρ', _, At', c', h5, h6, h7, h8⟩ := hq
        refine ⟨rfl, ownB At', fun k hk => ?_, h8.mono fun k _ hk => ?_, At', c', fun _ => Iff.rfl, h5, h6, fun k hk => ?_, ?_⟩
        · exact (h7 k hk).imp (hB k).2 id
        · exact hk.imp id (hB k).2
        · rcases h7 k hk with h | h
          · exact hg k h
          · exact Nat.le_trans hsz h
        · exact ⟨h8.os.trans e.os, h8.tape.trans e.tape, h8.output.trans e.output, Nat.le_trans e.size h8.size, fun k hk _ => (h8.block k (Nat.lt_of_lt_of_le hk e.size) (fun h => by rcases h with h | h; (· omega); (· have := hg k h; omega))).trans (e.block k hk fun h => h)⟩
      | panic _ => exact hq.elim
      | outgrown => exact hq.elim
      | ret => obtain ⟨_, ρ', _, h5⟩ := hq; exact h5.elim
      | exit _ => obtain ⟨_, ρ', _, h5⟩ := hq; exact h5.elim
      | goto _ => obtain ⟨_, ρ', _, h5⟩ := hq; exact h5.elim
  case done =>
    rintro D W B hD ⟨At, c, hB, hb, ho, hg, e⟩ hdef hsz
    have hc : W.cell? ⟨w.heap.size, 0, none⟩ = some (.slice At (allF H A i).length c) := hb.cell0 rfl
    gi_wp2
    simp only [app4, Try.f80]
    gi_wp2
    refine ⟨by simp, .inl ⟨_, _, rfl, run_takeDeferred hdef, ?_⟩⟩
    refine ⟨_, results_tmp rfl _ _ _, _, rfl, At, c, rfl, ?_, ?_, fun k hk => by have := hg k hk; omega⟩
    · refine ho.fr (Fr.putObj (S := fun k => k = D) W D _ rfl) (fun k hk he => ?_) (fun _ _ _ h => h)
      have he : k = D := he
      subst he
      obtain ⟨xs, ho, _⟩ := ho
      obtain ⟨ad, hA, hb⟩ := hk
      rcases ho.2.2 with ⟨h, _⟩ | ⟨g', cur, e, lo, hi, h, hg, _⟩
      · rw [h] at hA; cases hA
      · rw [h] at hA; cases hA; subst hb; rw [hdef] at hg; cases hg
    · exact ⟨e.os, e.tape, e.output, by simpa using e.size, fun k hk _ => (World.putObj_heap_other (by omega)).trans (e.block k hk fun h => h)⟩
end Go.Proofs.Ytadlhdiejmilmaa
/- Layer 4: a tree goes; trees are saved and loaded. -/
set_option linter.unusedVariables false
set_option linter.unusedSimpArgs false
namespace Go.Proofs.Ytadlhdiejmilmaa
open Go Go.Sx T4
open Go.RowKit Go.Shelf
attribute [local go_sem] Oper.semAt_some
/-! ## the places collected -/
theorem Collect_spec {R M : Nat → Prop} {w : World} {g : Nat} {A : Ar} (h : Ar1 R M w g A) {H i : Nat} (ht : isTree A (H, i)) (hlen : (allF H A i).length ≤ 1000000) {b1 b2 : Nat} (hb1 : Blk w b1 [iv i]) (hb2 : Blk w b2 [.pointer (some ⟨g, 0, none⟩)]) :
    CallsV Try.prog 61 #[.func (.func 77) #[] #[.pointer (some ⟨b1, 0, none⟩), .pointer (some ⟨b2, 0, none⟩)]] w fun r w' => ∃ A' c', r = .slice A' (allF H A i).length c' ∧ OwnK KN w' A' c' (allF H A i) ∧ Ext w w' ∧ New w A' := by
  refine slices_Collect_int.calls okay ?_
  unfold slices_Collect_int.W
  have hc : CallsV Try.prog 80 #[.slice none 0 0, .func (.func 77) #[] #[.pointer (some ⟨b1, 0, none⟩), .pointer (some ⟨b2, 0, none⟩)]] w fun v w' => ∃ A' c', v = .slice A' (allF H A i).length c' ∧ OwnK KN w' A' c' (allF H A i) ∧ Ext w w' ∧ New w A' := callsIn_wide.1 (AppendSeq_in h ht hlen hb1 hb2)
  refine hc.mono ?_
  rintro _ w' ⟨A', c', rfl, ho, e, n⟩
  exact ⟨_, _, _, rfl, A', c', rfl, ho, e, n⟩
theorem Stm.delete {w w' : World} {b : Nat} {l : List (Int × Value)} (hM : MapK fI w b l) (h : Stm w b) {a : Int} {ty : TypeId} {v : Value} (hrun : RunsTo Try.prog (Builtin.delete_ #[30, 3] ty #[.map (some b), .int .i64 a]) w v w') : Stm w' b := by
  obtain ⟨es, clock, hb, hs⟩ := h
  obtain ⟨es', clock', hb', he⟩ := hM
  rw [hb] at hb'
  cases hb'
  have ht : und Try.prog 30 = some (.map 3 3) := by kernel_rfl
  have hks : ∀ x ∈ es.toList, MapKept.IsKey (.int .i64) x.key := fun x hx => by
    have : (x.key, x.val) ∈ es.toList.map (fun e => (e.key, e.val)) := List.mem_map.2 ⟨x, hx, rfl⟩
    rw [he] at this
    obtain ⟨p, _, hp⟩ := List.mem_map.1 this
    have : x.key = fI p.1 := (congrArg Prod.fst hp).symm
    rw [this]; exact keyI.key p.1
  obtain ⟨es2, clock2, h1, h2, _⟩ := MapKept.delete_keeps (P := Try.prog) (und_underlying ht) (und_underlying keyI.und) hb hs hks (keyI.key a) hrun
  exact ⟨es2, clock2, h1, h2⟩
theorem dropAll_free : ∀ (l : List Nat) (A : Ar), (dropAll A l).free.length = A.free.length + l.length
  | [], A => rfl
  | x :: l, A => by
    have := dropAll_free l (drop A x)
    rw [show dropAll A (x :: l) = dropAll (drop A x) l from rfl, this]; simp [drop]; omega
theorem dropAll_snoc (A : Ar) (l : List Nat) (x : Nat) : dropAll A (l ++ [x]) = drop (dropAll A l) x := by simp [dropAll]
set_option maxHeartbeats 400000 in
theorem Drop_spec {R M : Nat → Prop} {w : World} {g : Nat} {A : Ar} (h : Ar1 R M w g A) {root : Int} {H i : Nat} {es : Es} {ps Q : List Nat} (hr : getT A.trees root = some i) (T : TreeAt A H i es ps Q) :
    CallsV Try.prog 30 #[.pointer (some ⟨g, 0, none⟩), .int .i64 root] w fun r w' => r = .int .i64 0 ∧ ∃ R' M', Ar1 R' M' w' g (dropT A root (allF H A i)) ∧ Chg R M w R' M' w' := by
  have hlen := T.len
  have htot := T.acc.total
  have hlenF := allF_len H T.tree
  have hfree := (Acc.free T.acc).2
  refine tree_Arena_Drop.calls okay ?_
  unfold tree_Arena_Drop.W
  refine (top_spec h (by have := T.f1; omega) root).mono ?_
  rintro _ w0 ⟨rfl, hw0⟩
  obtain rfl : w = w0 := hw0.symm
  rw [hr]
  refine ⟨_, _, rfl, brn (fun h => absurd rfl h) fun _ => (all_spec g i).mono ?_⟩
  rintro _ w1 ⟨b1, b2, rfl, hb1, hb2, e1, _, _, _⟩
  refine ⟨_, rfl, (Collect_spec (h.ext e1) ⟨_, _, _, _, _, T.tree⟩ (by omega) hb1 hb2).mono ?_⟩
  rintro _ w2 ⟨X, xc, rfl, oX, e2, nX⟩
  generalize hl : allF H A i = l at *
  have e12 := e1.trans' e2
  have hRl := h.lt
  have hlt : ∀ x ∈ l, x < A.at_.length := fun x hx => T.acc.lt (by
    have h1 := all_count H T.tree x
    rw [hl] at h1
    have := List.count_pos_iff.2 hx
    exact List.count_pos_iff.1 (by omega))
  refine ⟨_, _, _, rfl, fun x u => ∃ j : Nat, j ≤ l.length ∧ x = (j : Int) ∧ ∃ R' M', Ar1 R' M' u g (dropAll A (l.take j)) ∧ Chg R M w2 R' M' u ∧ OwnK KN u X xc l ∧ (∀ k, ownB X k → ¬ R' k), fun x _ => (l.length - x).toNat, ⟨0, Nat.zero_le _, rfl, R, M, h.ext e12, .refl _ _ _, oX, fun k hk hr => by have := hRl k hr; have := nX k hk; have := e1.size; omega⟩, ?_⟩
  rintro _ u ⟨j, hj, rfl, R', M', hA, c, ho, hoff⟩
  refine brd (fun hlt' => ?_) (fun hge => ?_)
  · have hjl : j < l.length := by omega
    obtain ⟨xs0, hx0, hxf⟩ := (ownK1 oneN).1 ho
    obtain ⟨vv, hvv, hrr⟩ := hxf.get (i := j) (a := l[j]) (List.getElem?_eq_getElem hjl)
    have hrr : [vv] = [iv l[j]] := hrr
    cases hrr
    obtain ⟨gX, rfl, hcell⟩ := hx0.cells hvv
    refine ⟨_, rfl, ⟨by omega, by omega⟩, (l[j] : Int), by rw [add_new, Nat.zero_add, Int.toNat_natCast, Nat.mul_one]; exact hcell, ?_⟩
    refine (drop_spec hA (by rw [dropAll_free, List.length_take]; omega) (i := l[j]) (by rw [dropAll_len]; exact hlt _ (by simp))).mono ?_
    rintro _ u' ⟨rfl, R2, M2, hA2, c2⟩
    rw [wi _ (by omega) (by omega)]
    have ht : l.take (j + 1) = l.take j ++ [l[j]] := by rw [List.take_add_one, List.getElem?_eq_getElem hjl]; rfl
    refine ⟨rfl, ⟨j + 1, by omega, by omega, R2, M2, by rw [ht, dropAll_snoc]; exact hA2, c.trans c2, ho.fr c2.fr (fun k hk hm => hoff k hk (hA.mr k hm)) (fun _ _ _ h => h), fun k hk => c2.off (ho.lt k hk) (hoff k hk)⟩, by dsimp only; omega⟩
  · obtain rfl : j = l.length := by omega
    rw [List.take_length] at hA
    obtain ⟨At, ac, Fa, fc, mb, ha⟩ := hA
    have htr : (dropAll A l).trees = A.trees := (mv_dropAll l A).trees
    obtain ⟨w', hr', hm', hf'⟩ := MapK.drop ha.trees root 0
    have mOff := ha.mbOff
    have hst := Stm.delete ha.trees ha.stm hr'
    refine ⟨_, rfl, _, ha.blk.cell rfl, w', hr', rfl, R', M', ⟨At, ac, Fa, fc, mb, ?_⟩, (Chg.ext e12).trans (c.trans ⟨hf'.mono fun k _ e => by have e : k = mb := e; rw [e]; exact ha.mm, fun _ h => .inl h, fun _ h => h, fun _ h => .inl h⟩)⟩
    have hgm : g ≠ mb := fun e => mOff.1 e.symm
    refine ⟨ha.blk.keep hf' hgm, fun k hk => Nat.lt_of_lt_of_le (ha.rlt k hk) hf'.size, ha.mr, ha.mg, ha.mA, ha.mF, ha.mm, ha.gA, ha.gF, ha.aF, ha.at_.toOut hf' (fun k hk e => mOff.2.1 (e ▸ hk)) (fun k _ e => .inr (.inr (e ▸ ha.mm))) (fun k _ h => .inr h), ha.free.fr hf' (fun k hk e => mOff.2.2 (e ▸ hk)) (fun _ _ _ h => h), ?_, hst⟩
    show MapK fI w' mb (mapE (delD A.trees root))
    rw [← htr]; exact hm'
theorem Drop_none {R M : Nat → Prop} {w : World} {g : Nat} {A : Ar} (h : Ar1 R M w g A) (hf : 0 < A.fan) {root : Int} (hr : getT A.trees root = none) :
    CallsV Try.prog 30 #[.pointer (some ⟨g, 0, none⟩), .int .i64 root] w fun r w' => r = .int .i64 41 ∧ w' = w := by
  refine tree_Arena_Drop.calls okay ?_
  unfold tree_Arena_Drop.W
  refine (top_spec h hf root).mono ?_
  rintro _ _ ⟨rfl, rfl⟩
  rw [hr]
  exact ⟨_, _, rfl, brn (fun _ => ⟨rfl, rfl⟩) fun h => by cases h⟩
/-! ## a map, copied -/
set_option maxRecDepth 100000 in
theorem maps_Clone_spec {w : World} {b : Nat} {es : Array MapEntry} {clock : Nat} (hb : w.heap[b]? = some (.map es clock)) :
    CallsV Try.prog 64 #[.map (some b)] w fun r w' => r = .map (some w.heap.size) ∧ w' = w.alloc (.map es clock) := by
  have ht : Try.prog.underlying 30 = some (.map 3 3) := und_underlying (by kernel_rfl)
  have hq := fun w => run_eql_map_nil_sl (P := Try.prog) w 30 _ _ (some b) ht
  refine Calls.mono (R := fun e w' => e = .returned (.map (some w.heap.size)) ∧ w' = w.alloc (.map es clock)) ?_ ?_
  · go_enter Try.func64, Try.ntmps64
    go_wp2
    rw [run_callFunc_extern Try.func81 (by kernel_rfl) (by kernel_rfl) (by kernel_rfl) (e := Extern.MapsClone.clone) (by kernel_rfl), run_maps_clone_sl w 30 hb]
    simp only [Result.andThen]
    rw [Oper.upon_value]
    go_wp2
    rw [run_typeAssert_map_sl _ 30 _ _ _ _ ht]
    simp only [Result.andThen]
    rw [Oper.upon_value]
    go_wp2
    go_ret
    exact ⟨rfl, rfl⟩
  · rintro _ _ ⟨rfl, rfl⟩
    exact ⟨_, rfl, rfl, rfl⟩
end Go.Proofs.Ytadlhdiejmilmaa
/- Layer 4: trees are saved and loaded. -/
set_option linter.unusedVariables false
set_option linter.unusedSimpArgs false
namespace Go.Proofs.Ytadlhdiejmilmaa
open Go Go.Sx T4
/-- trees that were saved: nobody writes to them -/
structure SvAt (Ω : Nat → Prop) (w : World) (sb g : Nat) (A : Ar) (At : Option Addr) (ac : Nat) (Fa : Option Addr) (fc mb : Nat) : Prop where
  blk : Blk w sb [.pointer (some ⟨g, 0, none⟩), .slice At A.at_.length ac, .slice Fa A.free.length fc, .map (some mb), iv A.last]
  off : ¬ Ω sb
  moff : ¬ Ω mb
  at_ : Imm KNo Ω w At A.at_
  free : Imm KN Ω w Fa A.free
  trees : MapK fI w mb (mapE A.trees)
  stm : Stm w mb
theorem KNo_pos : 0 < KNo.size := by decide
theorem SvAt.keep {Ω Ω' : Nat → Prop} {w w' : World} {sb g : Nat} {A : Ar} {At : Option Addr} {ac : Nat} {Fa : Option Addr} {fc mb : Nat} (h : SvAt Ω w sb g A At ac Fa fc mb) (st : Step Ω w Ω' w') : SvAt Ω' w' sb g A At ac Fa fc mb := by
  refine ⟨?_, st.out h.blk.lt h.off, st.out h.trees.lt h.moff, h.at_.keep KNo_pos st, h.free.keep KN_pos st, ?_, ?_⟩
  · obtain ⟨e, he⟩ := h.blk
    exact ⟨e, (st.block sb h.blk.lt h.off).trans he⟩
  · obtain ⟨es, cl, hb, he⟩ := h.trees
    exact ⟨es, cl, (st.block mb h.trees.lt h.moff).trans hb, he⟩
  · obtain ⟨es, cl, hb, he⟩ := h.stm
    exact ⟨es, cl, (st.block mb h.trees.lt h.moff).trans hb, he⟩
def Sv1 (Ω : Nat → Prop) (w : World) (sb g : Nat) (A : Ar) : Prop := ∃ At ac Fa fc mb, SvAt Ω w sb g A At ac Fa fc mb
theorem Sv1.keep {Ω Ω' : Nat → Prop} {w w' : World} {sb g : Nat} {A : Ar} (h : Sv1 Ω w sb g A) (st : Step Ω w Ω' w') : Sv1 Ω' w' sb g A := by
  obtain ⟨At, ac, Fa, fc, mb, h⟩ := h; exact ⟨_, _, _, _, _, h.keep st⟩
theorem immNew {α : Type} {K : Kd α} (hK : One K) {Om0 : Nat → Prop} {u u' : World} {A : Option Addr} {c : Nat} {l : List α} (ho : OwnK (Kd.out NoB (Kd.out Om0 K)) u A c l) {Ω' : Nat → Prop} (e : Ext u u') (hsub : ∀ k, k < u.heap.size → Ω' k → Om0 k) (hoff : ∀ k, ownB A k → ¬ Ω' k) : Imm K Ω' u' A l := by
  obtain ⟨xs, ho, hr⟩ := ho
  refine Own.imm (K := K) hK.pos (Own.keep ho e fun _ _ h => h) hoff fun i a ha => K.keep (hr i a ha) ⟨e.size, fun k hk hn => e.block k hk fun h => h, fun k hk h => .inr (hsub k hk h)⟩
theorem Save_spec {R M : Nat → Prop} {w : World} {g : Nat} {A : Ar} (h : Ar1 R M w g A) (hf : 0 < A.fan) (hl : A.at_.length ≤ 131072) (hfl : A.free.length ≤ 131072) :
    CallsV Try.prog 31 #[.pointer (some ⟨g, 0, none⟩)] w fun r w' => ∃ sb R', r = .pointer (some ⟨sb, 0, none⟩) ∧ Ar1 R' M w' g A ∧ Chg R M w R' M w' ∧ Ext w w' ∧ Sv1 (Om R' M) w' sb g A := by
  refine tree_Arena_Save.calls okay ?_
  unfold tree_Arena_Save.W
  refine (made_spec h hf).same ⟨_, rfl, brnb (fun h => by cases h) fun _ => ?_⟩
  have hA1 := h
  obtain ⟨At, ac, Fa, fc, mb, h⟩ := h
  have ed : Ext w w.drew := Fr.drew NoB w
  have hM := hA1.mlt
  refine ⟨_, rfl, fun u => Ext w u, ed, _, _, _, fun u e => (h.blk.ext e).cell rfl, _, rfl, _, _, _, fun u e => (h.blk.ext e).cell rfl, _, rfl, _, fun u e => (h.blk.ext e).cell rfl, _, rfl, _, fun u e => (h.blk.ext e).cell rfl, ?_⟩
  have i1 : Imm (Kd.out (Om R M) KNo) NoB w At A.at_ := h.at_.imm (oneP.out _).pos
  have i2 : Imm (Kd.out (Om R M) KN) NoB w Fa A.free := by
    intro i a ha
    obtain ⟨ad, h1, h2, cs, h3, h4⟩ := (h.free.imm KN_pos) i a ha
    exact ⟨ad, h1, h2, cs, h3, h4⟩
  refine (CloneP_spec (oneP.out (Om R M)) (i1.ext (oneP.out _).pos ed) (by omega)).mono ?_
  rintro _ w2 ⟨A1, c1, rfl, o1, e2, n1, _⟩
  have f2 : Ext w w2 := ed.trans' e2
  refine ⟨_, _, _, rfl, f2, (CloneI_spec (oneN.out (Om R M)) (i2.ext (oneN.out _).pos f2) (by omega)).mono ?_⟩
  rintro _ w3 ⟨A2, c2, rfl, o2, e3, n2, _⟩
  have f3 : Ext w w3 := f2.trans' e3
  obtain ⟨es, clock, hmb, hes⟩ := h.trees.ext f3
  refine ⟨_, _, _, rfl, f3, (maps_Clone_spec hmb).mono ?_⟩
  rintro _ w4 ⟨rfl, hw4⟩
  have e4 : Ext w3 w4 := by rw [hw4]; exact Fr.alloc NoB w3 _
  have f4 : Ext w w4 := f3.trans' e4
  refine ⟨_, rfl, f4, ?_⟩
  rintro g5 w5 f
  have e5 := f.ext
  have f5 : Ext w w5 := f4.trans' e5
  obtain ⟨a5, c5⟩ := hA1.absorb f5
  refine ⟨f5, g5, Ra R w w5, rfl, a5, c5, f5, A1, c1, A2, c2, w3.heap.size, ?_⟩
  have sz2 := e2.size; have sz3 := e3.size; have sz4 := e4.size; have sz5 := e5.size; have szd := ed.size
  have sub : ∀ k, Om (Ra R w w5) M k → Om R M k := fun k hk => hk.imp (fun hn hr => hn (.inl hr)) id
  have m4 : w4.heap[w3.heap.size]? = some (.map es clock) := by rw [hw4]; exact Go.heap_alloc_new w3 _
  have s4 : w3.heap.size < w4.heap.size := (Array.getElem?_eq_some_iff.1 m4).1
  have m5 : w5.heap[w3.heap.size]? = some (.map es clock) := (e5.block _ s4 fun h => h).trans m4
  obtain ⟨es', cl', hs1, hs2⟩ := h.stm.keep f3 fun h => h
  rw [hmb] at hs1
  cases hs1
  refine ⟨f.blk, ra_off hM (Nat.le_trans f4.size f.ge) f.lt, ra_off hM f3.size (by omega), ?_, ?_, ⟨es, clock, m5, hes⟩, ⟨es, clock, m5, hs2⟩⟩
  · exact immNew oneP o1 ((e3.trans' e4).trans' e5) (fun k _ hk => sub k hk) fun k hk => ra_off hM (Nat.le_trans szd (n1 k hk)) (by have := o1.lt k hk; omega)
  · exact immNew oneN o2 (e4.trans' e5) (fun k _ hk => sub k hk) fun k hk => ra_off hM (by have := n2 k hk; omega) (by have := o2.lt k hk; omega)
set_option maxHeartbeats 400000 in
theorem Load_spec {R M : Nat → Prop} {w : World} {g : Nat} {A B : Ar} (h : Ar1 R M w g A) (hf : 0 < A.fan) {sb : Nat} (s : Sv1 (Om R M) w sb g B) (h1 : B.fan = A.fan) (h2 : B.most = A.most) (hl : B.at_.length ≤ 131072) (hfl : B.free.length ≤ 131072) :
    CallsV Try.prog 32 #[.pointer (some ⟨g, 0, none⟩), .pointer (some ⟨sb, 0, none⟩)] w fun r w' => r = .int .i64 0 ∧ ∃ R' M', Ar1 R' M' w' g B ∧ Chg R M w R' M' w' := by
  refine tree_Arena_Load.calls okay ?_
  unfold tree_Arena_Load.W
  refine (made_spec h hf).same ⟨_, rfl, brnb (fun h => by cases h) fun _ => ?_⟩
  have hA1 := h
  obtain ⟨At, ac, Fa, fc, mb, h⟩ := h
  obtain ⟨Bt, bc, Fb, bfc, mb2, s⟩ := s
  have ed : Ext w w.drew := Fr.drew NoB w
  have hM := hA1.mlt
  have hRl := hA1.lt
  refine ⟨_, rfl, _, s.blk.cell rfl, _, ⟨rfl, rfl⟩, _, rfl, fun u => Ext w u, ed, _, _, _, fun u e => (s.blk.ext e).cell rfl, _, rfl, _, _, _, fun u e => (s.blk.ext e).cell rfl, _, rfl, _, fun u e => (s.blk.ext e).cell rfl, _, rfl, _, fun u e => (s.blk.ext e).cell rfl, ?_⟩
  have i1 : Imm (Kd.out (Om R M) KNo) NoB w Bt B.at_ := by
    intro i a ha
    obtain ⟨ad, h1, h2, cs, h3, h4⟩ := s.at_ i a ha
    exact ⟨ad, h1, fun h => h, cs, KNo.keep h3 ⟨Nat.le_refl _, fun _ _ _ => rfl, fun k _ hk => hk.elim (fun h => h.elim) id⟩, h4⟩
  have i2 : Imm KN NoB w Fb B.free := by
    intro i a ha
    obtain ⟨ad, h1, h2, cs, h3, h4⟩ := s.free i a ha
    exact ⟨ad, h1, fun h => h, cs, h3, h4⟩
  refine (CloneP_spec (oneP.out (Om R M)) (i1.ext (oneP.out _).pos ed) (by omega)).mono ?_
  rintro _ w2 ⟨A1, c1, rfl, o1, e2, n1, _⟩
  have f2 : Ext w w2 := ed.trans' e2
  refine ⟨_, _, _, rfl, f2, (CloneI_spec oneN (i2.ext KN_pos f2) (by omega)).mono ?_⟩
  rintro _ w3 ⟨A2, c2, rfl, o2, e3, n2, _⟩
  have f3 : Ext w w3 := f2.trans' e3
  obtain ⟨es, clock, hmb, hes⟩ := s.trees.ext f3
  refine ⟨_, _, _, rfl, f3, (maps_Clone_spec hmb).mono ?_⟩
  rintro _ w4 ⟨rfl, hw4⟩
  have e4 : Ext w3 w4 := by rw [hw4]; exact Fr.alloc NoB w3 _
  have f4 : Ext w w4 := f3.trans' e4
  have sz2 := e2.size; have sz3 := e3.size; have sz4 := e4.size; have szd := ed.size
  have m4 : w4.heap[w3.heap.size]? = some (.map es clock) := by rw [hw4]; exact Go.heap_alloc_new w3 _
  have s4 : w3.heap.size < w4.heap.size := (Array.getElem?_eq_some_iff.1 m4).1
  obtain ⟨es', cl', hs1, hs2⟩ := s.stm.keep f3 fun h => h
  rw [hmb] at hs1
  cases hs1
  have hgl : g < w.heap.size := h.blk.lt
  have b4 := h.blk.ext f4
  obtain ⟨p1, p2⟩ := setF b4 (o := 2) (by simp [arC]) (.slice A1 B.at_.length c1)
  refine ⟨_, rfl, f4, _, rfl, p1, fun w5 hw5 => ?_⟩
  obtain ⟨b5, f5⟩ := p2 w5 hw5
  obtain ⟨p1, p2⟩ := setF b5 (o := 3) (by simp [arC]) (.slice A2 B.free.length c2)
  refine ⟨_, rfl, p1, fun w6 hw6 => ?_⟩
  obtain ⟨b6, f6⟩ := p2 w6 hw6
  obtain ⟨p1, p2⟩ := setF b6 (o := 4) (by simp [arC]) (.map (some w3.heap.size))
  refine ⟨_, rfl, p1, fun w7 hw7 => ?_⟩
  obtain ⟨b7, f7⟩ := p2 w7 hw7
  obtain ⟨p1, p2⟩ := setF b7 (o := 5) (by simp [arC]) (iv B.last)
  refine ⟨_, rfl, p1, fun w8 hw8 => ?_⟩
  obtain ⟨b8, f8⟩ := p2 w8 hw8
  have fg : Fr (fun k => k = g) w4 w8 := ((f5.trans f6 (fun _ _ h => h) (fun _ _ h => h)).trans f7 (fun _ _ h => h) (fun _ _ h => h)).trans f8 (fun _ _ h => h) (fun _ _ h => h)
  have sz8 := fg.size
  have l1 := o1.lt; have l2 := o2.lt
  have q1 : ∀ k, ownB A1 k → w.heap.size ≤ k ∧ k < w3.heap.size := fun k hk => ⟨Nat.le_trans szd (n1 k hk), by have := l1 k hk; omega⟩
  have q2 : ∀ k, ownB A2 k → w2.heap.size ≤ k ∧ k < w3.heap.size := fun k hk => ⟨n2 k hk, l2 k hk⟩
  refine ⟨rfl, Ra R w w4, fun k => k = g ∨ (w.heap.size ≤ k ∧ k < w4.heap.size), ⟨A1, c1, A2, c2, w3.heap.size, ?_⟩, ?_⟩
  · have fm : ∀ k, k < w4.heap.size → k ≠ g → w8.heap[k]? = w4.heap[k]? := fun k hk hn => fg.block k hk hn
    refine ⟨by simpa [arC, h1, h2] using b8, ?_, ?_, .inl rfl, ?_, ?_, .inr ⟨by omega, s4⟩, fun hk => by have := (q1 g hk).1; omega, fun hk => by have := (q2 g hk).1; omega, fun k hk hk' => by have := l1 k hk; have := (q2 k hk').1; omega, ?_, ?_, ?_, ?_⟩
    · rintro k (hk | hk)
      · have := hRl k hk; omega
      · omega
    · rintro k (hk | hk)
      · exact .inl (hk ▸ h.mr g h.mg)
      · exact .inr hk
    · exact fun k hk => .inr ⟨(q1 k hk).1, by have := (q1 k hk).2; omega⟩
    · exact fun k hk => .inr ⟨by have := (q2 k hk).1; omega, by have := (q2 k hk).2; omega⟩
    · obtain ⟨xs, ho, hr⟩ := o1
      refine ⟨xs, ho.keep ((e3.trans' e4).fr.trans fg (S'' := fun k => k = g) (fun _ _ h => h) (fun _ _ h => h)) (fun k hk e => by have := (q1 k hk).1; have e : k = g := e; omega), fun i a ha => ?_⟩
      refine KNo.keep (hr i a ha) ⟨by omega, fun k hk hn => ?_, fun k hk hk' => ?_⟩
      · have hkg : k ≠ g := fun e => hn (.inr (.inr (e ▸ h.mg)))
        exact (fm k (by omega) hkg).trans ((e3.trans' e4).block k hk fun h => h)
      · rcases hk' with hk' | hk' | hk' | hk'
        · exact .inl (.inl hk')
        · exact .inr (.inl fun hr => hk' (.inl hr))
        · exact .inr (.inr (hk' ▸ h.mg))
        · exact .inr (.inl fun hr => by have := hRl k hr; omega)
    · obtain ⟨xs, ho, hr⟩ := o2
      exact ⟨xs, ho.keep (e4.fr.trans fg (S'' := fun k => k = g) (fun _ _ h => h) (fun _ _ h => h)) (fun k hk e => by have := (q2 k hk).1; have e : k = g := e; omega), fun i a ha => hr i a ha⟩
    · exact ⟨es, clock, (fm _ s4 (by omega)).trans m4, hes⟩
    · exact ⟨es, clock, (fm _ s4 (by omega)).trans m4, hs2⟩
  · refine ⟨(f4.fr.trans fg (S'' := M) (fun _ _ h => h) (fun k hk e => by have e : k = g := e; rw [e]; exact h.mg)), ?_, fun k hk => .inl hk, ?_⟩
    · rintro k (hk | hk)
      · exact .inl (hk ▸ h.mg)
      · exact .inr hk.1
    · exact fun k hk => hk.imp id fun h => h.1
end Go.Proofs.Ytadlhdiejmilmaa
/- Layer 4: an arena that New did not make: its calls. -/
set_option linter.unusedVariables false
set_option linter.unusedSimpArgs false
namespace Go.Proofs.Ytadlhdiejmilmaa
open Go Go.Sx T4
open Go.RowKit Go.Shelf
attribute [local go_sem] Oper.semAt_some
/-- no arena: no block, or one of nothing -/
def NotA (w : World) (a : Option Addr) : Prop := a = none ∨ ∃ g, a = some ⟨g, 0, none⟩ ∧ Blk w g [.int .i64 0, .int .i64 0, .slice none 0 0, .slice none 0 0, .map none, .int .i64 0]
theorem NotA.ext {w w' : World} {a : Option Addr} (h : NotA w a) (e : Ext w w') : NotA w' a := h.imp id fun ⟨g, h1, h2⟩ => ⟨g, h1, h2.ext e⟩
variable {w : World} {a : Option Addr}
theorem nMade (h : NotA w a) : CallsV Try.prog 43 #[.pointer a] w fun r w' => r = .bool false ∧ w' = w := by
  refine tree_Arena_made.calls okay ?_
  unfold tree_Arena_made.W
  rcases h with rfl | ⟨g, rfl, hb⟩
  · exact ⟨rfl, rfl⟩
  · exact ⟨_, rfl, _, hb.cell rfl, rfl, rfl⟩
theorem nTop (h : NotA w a) (root : Int) : CallsV Try.prog 45 #[.pointer a, .int .i64 root] w fun r w' => r = .tuple #[.int .i64 0, .int .i64 1] ∧ w' = w := by
  refine tree_Arena_top.calls okay ?_
  unfold tree_Arena_top.W
  exact (nMade h).same ⟨_, rfl, brnb (fun _ => ⟨rfl, rfl⟩) (fun h => by cases h)⟩
theorem nCreate (h : NotA w a) : CallsV Try.prog 14 #[.pointer a] w fun r w' => r = .tuple #[.int .i64 0, .int .i64 1] ∧ w' = w := by
  refine tree_Arena_Create.calls okay ?_
  unfold tree_Arena_Create.W
  exact (nMade h).same ⟨_, rfl, brnb (fun _ => ⟨rfl, rfl⟩) (fun h => by cases h)⟩
theorem nPut (h : NotA w a) (root : Int) (KA VA : Option Addr) (kn kc vn vc : Nat) : CallsV Try.prog 17 #[.pointer a, .int .i64 root, .slice KA kn kc, .slice VA vn vc] w fun r w' => r = .tuple #[.bool false, .int .i64 1] ∧ w' = w := by
  refine tree_Arena_Put.calls okay ?_
  unfold tree_Arena_Put.W
  exact (nTop h root).same ⟨_, _, rfl, brn (fun _ => ⟨rfl, rfl⟩) (fun h => by cases h)⟩
theorem nDelete (h : NotA w a) (root : Int) (KA : Option Addr) (kn kc : Nat) : CallsV Try.prog 29 #[.pointer a, .int .i64 root, .slice KA kn kc] w fun r w' => r = .tuple #[.bool false, .int .i64 1] ∧ w' = w := by
  refine tree_Arena_Delete.calls okay ?_
  unfold tree_Arena_Delete.W
  exact (nTop h root).same ⟨_, _, rfl, brn (fun _ => ⟨rfl, rfl⟩) (fun h => by cases h)⟩
theorem nGet (h : NotA w a) (root : Int) (KA : Option Addr) (kn kc : Nat) : CallsV Try.prog 23 #[.pointer a, .int .i64 root, .slice KA kn kc] w fun r w' => r = .tuple #[.slice none 0 0, .bool false] ∧ w' = w := by
  refine tree_Arena_Get.calls okay ?_
  unfold tree_Arena_Get.W
  exact (nTop h root).same ⟨_, _, rfl, brn (fun _ => ⟨rfl, rfl⟩) (fun h => by cases h)⟩
theorem nAfter (h : NotA w a) (root : Int) (KA : Option Addr) (kn kc : Nat) (at_ : Bool) : CallsV Try.prog 24 #[.pointer a, .int .i64 root, .slice KA kn kc, .bool at_] w fun r w' => r = eN ∧ w' = w := by
  refine tree_Arena_After.calls okay ?_
  unfold tree_Arena_After.W
  exact (nTop h root).same ⟨_, _, rfl, brn (fun _ => ⟨rfl, rfl⟩) (fun h => by cases h)⟩
theorem nBefore (h : NotA w a) (root : Int) (KA : Option Addr) (kn kc : Nat) (at_ : Bool) : CallsV Try.prog 33 #[.pointer a, .int .i64 root, .slice KA kn kc, .bool at_] w fun r w' => r = eN ∧ w' = w := by
  refine tree_Arena_Before.calls okay ?_
  unfold tree_Arena_Before.W
  exact (nTop h root).same ⟨_, _, rfl, brn (fun _ => ⟨rfl, rfl⟩) (fun h => by cases h)⟩
theorem nLast (h : NotA w a) (root : Int) : CallsV Try.prog 25 #[.pointer a, .int .i64 root] w fun r w' => r = eN ∧ w' = w := by
  refine tree_Arena_Last.calls okay ?_
  unfold tree_Arena_Last.W
  exact (nTop h root).same ⟨_, _, rfl, brn (fun _ => ⟨rfl, rfl⟩) (fun h => by cases h)⟩
theorem nDrop (h : NotA w a) (root : Int) : CallsV Try.prog 30 #[.pointer a, .int .i64 root] w fun r w' => r = .int .i64 1 ∧ w' = w := by
  refine tree_Arena_Drop.calls okay ?_
  unfold tree_Arena_Drop.W
  exact (nTop h root).same ⟨_, _, rfl, brn (fun _ => ⟨rfl, rfl⟩) (fun h => by cases h)⟩
theorem nDeep (h : NotA w a) (root : Int) : CallsV Try.prog 16 #[.pointer a, .int .i64 root] w fun r w' => r = .int .i64 0 ∧ w' = w := by
  refine tree_Arena_Deep.calls okay ?_
  unfold tree_Arena_Deep.W
  exact (nTop h root).same ⟨_, _, rfl, brn (fun _ => ⟨rfl, rfl⟩) (fun h => by cases h)⟩
theorem nSave (h : NotA w a) : CallsV Try.prog 31 #[.pointer a] w fun r w' => r = .pointer none ∧ w' = w := by
  refine tree_Arena_Save.calls okay ?_
  unfold tree_Arena_Save.W
  exact (nMade h).same ⟨_, rfl, brnb (fun _ => ⟨rfl, rfl⟩) (fun h => by cases h)⟩
theorem nLoad (h : NotA w a) (s : Option Addr) : CallsV Try.prog 32 #[.pointer a, .pointer s] w fun r w' => r = .int .i64 1 ∧ w' = w := by
  refine tree_Arena_Load.calls okay ?_
  unfold tree_Arena_Load.W
  exact (nMade h).same ⟨_, rfl, brnb (fun _ => ⟨rfl, rfl⟩) (fun h => by cases h)⟩
theorem nNodes (h : NotA w a) : CallsV Try.prog 15 #[.pointer a] w fun r w' => r = .int .i64 0 ∧ Ext w w' := by
  refine tree_Arena_Nodes.calls okay ?_
  unfold tree_Arena_Nodes.W
  rcases h with rfl | ⟨g, rfl, hb⟩
  · exact br (fun _ => ⟨rfl, .refl _ _⟩) (fun h => by cases h)
  · refine br (fun h => by cases h) (fun _ => ⟨_, rfl, fun u => u = w.drew, rfl, ?_⟩)
    have hb := hb.ext (Fr.drew NoB w)
    exact ⟨_, _, _, fun u hu => by subst hu; exact hb.cell rfl, _, rfl, _, _, _, fun u hu => by subst hu; exact hb.cell rfl, rfl, Fr.drew NoB w⟩
theorem nLen_in (h : NotA w a) (root : Int) : CallsIn Fence.wide 0 Try.prog 28 #[.pointer a, .int .i64 root] w fun e w' => ∃ v, e = .returned v ∧ v = .int .i64 0 ∧ Ext w w' := by
  refine callsIn_of_wp_marks Try.func28 len_body trivial ?_ rfl
  simp only [Try.ntmps28, List.size_toArray, List.length_cons, List.length_nil, Nat.reduceAdd, Nat.reduceSub, Array.replicate_succ, Array.replicate_zero, List.push_toArray, List.append_toArray, List.nil_append, List.cons_append]
  simp only [len0, len1, len2, len4, len5, Try.f28]
  have e1 : Ext w (w.alloc (Obj.cells #[Value.pointer a] 24)) := Fr.alloc NoB w _
  have hba : Blk (w.alloc (Obj.cells #[Value.pointer a] 24)) w.heap.size [.pointer a] := Blk.alloc w [.pointer a] 24
  have hc : (w.alloc (Obj.cells #[Value.pointer a] 24)).cell? ⟨w.heap.size, 0, none⟩ = some (.pointer a) := hba.cell0 rfl
  gi_wp2
  have hin : CallsIn Fence.wide 0 Try.prog 45 #[.pointer a, .int .i64 root] (w.alloc (Obj.cells #[Value.pointer a] 24)) fun e w' => e = .returned (.tuple #[.int .i64 0, .int .i64 1]) ∧ w' = w.alloc (Obj.cells #[Value.pointer a] 24) := by
    refine callsIn_wide.2 (Calls.mono (nTop (h.ext e1) root) ?_)
    rintro e w' ⟨v, rfl, rfl, rfl⟩
    exact ⟨rfl, rfl⟩
  refine ⟨trivial, rfl, hin.mono ?_⟩
  rintro e w' ⟨rfl, rfl⟩
  gi_wp2
  exact ⟨_, results_tmp rfl _ _ _, _, rfl, rfl, e1⟩
theorem nCheck_in (h : NotA w a) : CallsIn Fence.wide 0 Try.prog 19 #[.pointer a] w fun e w' => ∃ v, e = .returned v ∧ v = .int .i64 1 ∧ Ext w w' := by
  refine callsIn_of_wp_marks Try.func19 chk_body trivial ?_ rfl
  simp only [Try.ntmps19, List.size_toArray, List.length_cons, List.length_nil, Nat.reduceAdd, Nat.reduceSub, Array.replicate_succ, Array.replicate_zero, List.push_toArray, List.append_toArray, List.nil_append, List.cons_append]
  simp only [chk0, chk1, chk3, chk4, Try.f19]
  gi_wp2
  have hin : CallsIn Fence.wide 0 Try.prog 43 #[.pointer a] w fun e w' => e = .returned (.bool false) ∧ w' = w := by
    refine callsIn_wide.2 (Calls.mono (nMade h) ?_)
    rintro e w' ⟨v, rfl, rfl, rfl⟩
    exact ⟨rfl, rfl⟩
  refine ⟨trivial, rfl, hin.mono ?_⟩
  rintro e w' ⟨rfl, hw'⟩
  obtain rfl : w = w' := hw'.symm
  gi_wp2
  exact ⟨_, results_tmp rfl _ _ _, _, rfl, rfl, .refl _ _⟩
theorem nLen (h : NotA w a) (root : Int) : CallsV Try.prog 28 #[.pointer a, .int .i64 root] w fun r w' => r = .int .i64 0 ∧ Ext w w' := callsIn_wide.1 (nLen_in h root)
theorem nCheck (h : NotA w a) : CallsV Try.prog 19 #[.pointer a] w fun r w' => r = .int .i64 1 ∧ Ext w w' := callsIn_wide.1 (nCheck_in h)
end Go.Proofs.Ytadlhdiejmilmaa
/- Layer 4: a tree of an arena by its number and what it holds; what it tells. -/
set_option linter.unusedVariables false
set_option linter.unusedSimpArgs false
namespace Go.Proofs.Ytadlhdiejmilmaa
open Go Go.Sx T4
open Go.RowKit Go.Shelf
attribute [local go_sem] Oper.semAt_some
/-! ## how deep -/
def hgt : Nat → Ar → Nat → Nat
  | 0, _, _ => 0
  | k + 1, A, i => if (nodeAt A i).kids = [] then 1 else hgt k A (kid (nodeAt A i) 0) + 1
theorem hgt_tree : ∀ (k : Nat) {A : Ar} {fan H : Nat} {mn : Nat × Nat} {i : Nat} {lo hi : Option Key} {es : Es} {ps : List Nat}, Tree A.nd fan H mn i lo hi es ps → H ≤ k → hgt k A i = H
  | 0, _, _, H, _, _, _, _, _, _, h, hk => by have := h.height.1; omega
  | k + 1, A, fan, H, mn, i, lo, hi, es, ps, h, hk => by
    rcases tree_nodeAt h with ⟨rfl, hk0, _⟩ | ⟨k', rfl, h0, hne, _, hall, _⟩
    · rw [hgt, if_pos hk0]
    · obtain ⟨lo', hi', es', ps', ht'⟩ := hall 0 (List.length_pos_iff.2 hne)
      rw [hgt, if_neg hne, hgt_tree k ht' (by omega)]
def dp (A : Ar) (r : Int) : Nat := match getT A.trees r with
  | some i => hgt (A.at_.length + 1) A i
  | none => 0
theorem dp_at {A : Ar} {r : Int} {H i : Nat} {es : Es} {ps Q : List Nat} (hr : getT A.trees r = some i) (T : TreeAt A H i es ps Q) : dp A r = H := by
  unfold dp
  rw [hr]
  exact hgt_tree _ T.tree (by have := T.hl; omega)
/-! ## one tree -/
structure OneT (A : Ar) (r : Int) (es : Es) : Prop where
  ex : ∃ i ps Q, getT A.trees r = some i ∧ TreeAt A (dp A r) i es ps Q
  m : A.most ≤ 65536
  n : A.nodes ≤ A.most
theorem OneT.upE {A : Ar} {r : Int} {es : Es} (S : OneT A r es) : UpE es := by obtain ⟨i, ps, Q, _, T⟩ := S.ex; exact T.tree.up
theorem OneT.f1 {A : Ar} {r : Int} {es : Es} (S : OneT A r es) : 4 ≤ A.fan := by obtain ⟨i, ps, Q, _, T⟩ := S.ex; exact T.f1
theorem OneT.f2 {A : Ar} {r : Int} {es : Es} (S : OneT A r es) : A.fan ≤ 64 := by obtain ⟨i, ps, Q, _, T⟩ := S.ex; exact T.f2
theorem OneT.dpos {A : Ar} {r : Int} {es : Es} (S : OneT A r es) : 1 ≤ dp A r ∧ dp A r ≤ A.nodes := by
  obtain ⟨i, ps, Q, _, T⟩ := S.ex
  have := T.tree.height
  have := T.acc.nodes
  omega
theorem OneT.least {A : Ar} {r : Int} {es : Es} (S : OneT A r es) (h : 1 < dp A r) : 2 * (A.fan / 2) ^ (dp A r - 1) ≤ es.length := by obtain ⟨i, ps, Q, _, T⟩ := S.ex; exact T.tree.least h
theorem OneT.free {A : Ar} {r : Int} {es : Es} (S : OneT A r es) : A.free.length ≤ A.at_.length ∧ A.at_.length ≤ 131072 := by
  obtain ⟨i, ps, Q, _, T⟩ := S.ex; exact ⟨(Acc.free T.acc).2, T.len⟩
theorem oDeep {R M : Nat → Prop} {w : World} {g : Nat} {A : Ar} (h : Ar1 R M w g A) {r : Int} {es : Es} (S : OneT A r es) : CallsV Try.prog 16 #[.pointer (some ⟨g, 0, none⟩), .int .i64 r] w fun v w' => v = iv (dp A r) ∧ Ext w w' := by
  obtain ⟨i, ps, Q, h1, h2⟩ := S.ex
  exact Deep_spec h h1 h2
theorem oLen {R M : Nat → Prop} {w : World} {g : Nat} {A : Ar} (h : Ar1 R M w g A) {r : Int} {es : Es} (S : OneT A r es) : CallsV Try.prog 28 #[.pointer (some ⟨g, 0, none⟩), .int .i64 r] w fun v w' => v = iv es.length ∧ Ext w w' := by
  obtain ⟨i, ps, Q, h1, h2⟩ := S.ex
  exact Len_spec h h1 h2
theorem oGet {R M : Nat → Prop} {w : World} {g : Nat} {A : Ar} (h : Ar1 R M w g A) {r : Int} {es : Es} (S : OneT A r es) {key : Key} {Ω : Nat → Prop} {KA : Option Addr} (hKA : Imm KB Ω w KA key) (kc : Nat) :
    CallsV Try.prog 23 #[.pointer (some ⟨g, 0, none⟩), .int .i64 r, .slice KA key.length kc] w fun r w' => Ext w w' ∧ (match getE key es with | none => r = .tuple #[.slice none 0 0, .bool false] | some v => ∃ B d, r = .tuple #[.slice B v.length d, .bool true] ∧ OwnB w' B d v ∧ New w B ∧ v.length ≤ 1048576) := by
  obtain ⟨i, ps, Q, h1, h2⟩ := S.ex
  exact Get_spec h h1 h2 hKA kc
theorem oAfter {R M : Nat → Prop} {w : World} {g : Nat} {A : Ar} (h : Ar1 R M w g A) {r : Int} {es : Es} (S : OneT A r es) {key : Key} {Ω : Nat → Prop} {KA : Option Addr} (hKA : Imm KB Ω w KA key) (kc : Nat) (at_ : Bool) :
    CallsV Try.prog 24 #[.pointer (some ⟨g, 0, none⟩), .int .i64 r, .slice KA key.length kc, .bool at_] w fun r w' => Told w (aftE key at_ es) r w' ∧ Ext w w' := by
  obtain ⟨i, ps, Q, h1, h2⟩ := S.ex
  exact After_spec h h1 h2 hKA kc at_
theorem oBefore {R M : Nat → Prop} {w : World} {g : Nat} {A : Ar} (h : Ar1 R M w g A) {r : Int} {es : Es} (S : OneT A r es) {key : Key} {Ω : Nat → Prop} {KA : Option Addr} (hKA : Imm KB Ω w KA key) (kc : Nat) (at_ : Bool) :
    CallsV Try.prog 33 #[.pointer (some ⟨g, 0, none⟩), .int .i64 r, .slice KA key.length kc, .bool at_] w fun r w' => Told w (befE key at_ es) r w' ∧ Ext w w' := by
  obtain ⟨i, ps, Q, h1, h2⟩ := S.ex
  exact Before_spec h h1 h2 hKA kc at_
theorem oLast {R M : Nat → Prop} {w : World} {g : Nat} {A : Ar} (h : Ar1 R M w g A) {r : Int} {es : Es} (S : OneT A r es) :
    CallsV Try.prog 25 #[.pointer (some ⟨g, 0, none⟩), .int .i64 r] w fun r w' => Told w es.getLast? r w' ∧ Ext w w' := by
  obtain ⟨i, ps, Q, h1, h2⟩ := S.ex
  exact Last_spec h h1 h2
/-! ## no such tree -/
section
variable {R M : Nat → Prop} {w : World} {g : Nat} {A : Ar}
theorem Get_none (h : Ar1 R M w g A) (hf : 0 < A.fan) {root : Int} (hr : getT A.trees root = none) (KA : Option Addr) (kn kc : Nat) : CallsV Try.prog 23 #[.pointer (some ⟨g, 0, none⟩), .int .i64 root, .slice KA kn kc] w fun r w' => r = .tuple #[.slice none 0 0, .bool false] ∧ w' = w := by
  refine tree_Arena_Get.calls okay ?_
  unfold tree_Arena_Get.W
  refine (top_spec h hf root).mono ?_
  rintro _ _ ⟨rfl, rfl⟩
  rw [hr]
  exact ⟨_, _, rfl, brn (fun _ => ⟨rfl, rfl⟩) fun h => by cases h⟩
theorem After_none (h : Ar1 R M w g A) (hf : 0 < A.fan) {root : Int} (hr : getT A.trees root = none) (KA : Option Addr) (kn kc : Nat) (at_ : Bool) : CallsV Try.prog 24 #[.pointer (some ⟨g, 0, none⟩), .int .i64 root, .slice KA kn kc, .bool at_] w fun r w' => r = eN ∧ w' = w := by
  refine tree_Arena_After.calls okay ?_
  unfold tree_Arena_After.W
  refine (top_spec h hf root).mono ?_
  rintro _ _ ⟨rfl, rfl⟩
  rw [hr]
  exact ⟨_, _, rfl, brn (fun _ => ⟨rfl, rfl⟩) fun h => by cases h⟩
theorem Before_none (h : Ar1 R M w g A) (hf : 0 < A.fan) {root : Int} (hr : getT A.trees root = none) (KA : Option Addr) (kn kc : Nat) (at_ : Bool) : CallsV Try.prog 33 #[.pointer (some ⟨g, 0, none⟩), .int .i64 root, .slice KA kn kc, .bool at_] w fun r w' => r = eN ∧ w' = w := by
  refine tree_Arena_Before.calls okay ?_
  unfold tree_Arena_Before.W
  refine (top_spec h hf root).mono ?_
  rintro _ _ ⟨rfl, rfl⟩
  rw [hr]
  exact ⟨_, _, rfl, brn (fun _ => ⟨rfl, rfl⟩) fun h => by cases h⟩
theorem Last_none (h : Ar1 R M w g A) (hf : 0 < A.fan) {root : Int} (hr : getT A.trees root = none) : CallsV Try.prog 25 #[.pointer (some ⟨g, 0, none⟩), .int .i64 root] w fun r w' => r = eN ∧ w' = w := by
  refine tree_Arena_Last.calls okay ?_
  unfold tree_Arena_Last.W
  refine (top_spec h hf root).mono ?_
  rintro _ _ ⟨rfl, rfl⟩
  rw [hr]
  exact ⟨_, _, rfl, brn (fun _ => ⟨rfl, rfl⟩) fun h => by cases h⟩
theorem Len_none_in (h : Ar1 R M w g A) (hf : 0 < A.fan) {root : Int} (hr : getT A.trees root = none) : CallsIn Fence.wide 0 Try.prog 28 #[.pointer (some ⟨g, 0, none⟩), .int .i64 root] w fun e w' => ∃ v, e = .returned v ∧ v = .int .i64 0 ∧ Ext w w' := by
  refine callsIn_of_wp_marks Try.func28 len_body trivial ?_ rfl
  simp only [Try.ntmps28, List.size_toArray, List.length_cons, List.length_nil, Nat.reduceAdd, Nat.reduceSub, Array.replicate_succ, Array.replicate_zero, List.push_toArray, List.append_toArray, List.nil_append, List.cons_append]
  simp only [len0, len1, len2, len4, len5, Try.f28]
  have e1 : Ext w (w.alloc (Obj.cells #[Value.pointer (some ⟨g, 0, none⟩)] 24)) := Fr.alloc NoB w _
  have hba : Blk (w.alloc (Obj.cells #[Value.pointer (some ⟨g, 0, none⟩)] 24)) w.heap.size [.pointer (some ⟨g, 0, none⟩)] := Blk.alloc w [.pointer (some ⟨g, 0, none⟩)] 24
  have hc : (w.alloc (Obj.cells #[Value.pointer (some ⟨g, 0, none⟩)] 24)).cell? ⟨w.heap.size, 0, none⟩ = some (.pointer (some ⟨g, 0, none⟩)) := hba.cell0 rfl
  gi_wp2
  have hin : CallsIn Fence.wide 0 Try.prog 45 #[.pointer (some ⟨g, 0, none⟩), .int .i64 root] (w.alloc (Obj.cells #[Value.pointer (some ⟨g, 0, none⟩)] 24)) fun e w' => e = .returned (.tuple #[.int .i64 0, .int .i64 41]) ∧ w' = w.alloc (Obj.cells #[Value.pointer (some ⟨g, 0, none⟩)] 24) := by
    refine callsIn_wide.2 (Calls.mono (top_spec (h.ext e1) hf root) ?_)
    rintro e w' ⟨v, rfl, hv, rfl⟩
    rw [hr] at hv
    exact ⟨by rw [hv], rfl⟩
  refine ⟨trivial, rfl, hin.mono ?_⟩
  rintro e w' ⟨rfl, rfl⟩
  gi_wp2
  exact ⟨_, results_tmp rfl _ _ _, _, rfl, rfl, e1⟩
theorem Len_none (h : Ar1 R M w g A) (hf : 0 < A.fan) {root : Int} (hr : getT A.trees root = none) : CallsV Try.prog 28 #[.pointer (some ⟨g, 0, none⟩), .int .i64 root] w fun r w' => r = .int .i64 0 ∧ Ext w w' := callsIn_wide.1 (Len_none_in h hf hr)
end
theorem Put_long {R M : Nat → Prop} {w : World} {g : Nat} {A : Ar} (h : Ar1 R M w g A) (hf : 0 < A.fan) {root : Int} {i : Nat} (hr : getT A.trees root = some i) (KA VA : Option Addr) (kn kc vn vc : Nat) (hlong : 1048576 < kn ∨ 1048576 < vn) :
    CallsV Try.prog 17 #[.pointer (some ⟨g, 0, none⟩), .int .i64 root, .slice KA kn kc, .slice VA vn vc] w fun r w' => r = .tuple #[.bool false, .int .i64 3] ∧ w' = w := by
  refine tree_Arena_Put.calls okay ?_
  unfold tree_Arena_Put.W
  refine (top_spec h hf root).mono ?_
  rintro _ _ ⟨rfl, rfl⟩
  rw [hr]
  exact ⟨_, _, rfl, brn (fun h => absurd rfl h) fun _ => brd (fun _ => ⟨rfl, rfl⟩) fun h1 => brd (fun _ => ⟨rfl, rfl⟩) fun h2 => by omega⟩
/-! ## the calls that change, of the tree d among others -/
def PutC (A A' : Ar) (r : Int) (key val : Key) (full was : Bool) : Prop := ∀ {R M : Nat → Prop} {w : World} {g : Nat}, Ar1 R M w g A → ∀ {Ω1 Ω2 : Nat → Prop} {KA VA : Option Addr}, Imm KB Ω1 w KA key → Imm KB Ω2 w VA val → ∀ kc vc : Nat,
  CallsV Try.prog 17 #[.pointer (some ⟨g, 0, none⟩), .int .i64 r, .slice KA key.length kc, .slice VA val.length vc] w fun v w' => v = .tuple #[.bool (!full && was), .int .i64 (if full then 5 else 0)] ∧ ∃ R' M', Ar1 R' M' w' g A' ∧ Chg R M w R' M' w'
def DelC (A A' : Ar) (r : Int) (key : Key) (was : Bool) : Prop := ∀ {R M : Nat → Prop} {w : World} {g : Nat}, Ar1 R M w g A → ∀ {Ω : Nat → Prop} {KA : Option Addr}, Imm KB Ω w KA key → ∀ kc : Nat,
  CallsV Try.prog 29 #[.pointer (some ⟨g, 0, none⟩), .int .i64 r, .slice KA key.length kc] w fun v w' => v = .tuple #[.bool was, .int .i64 0] ∧ ∃ R' M', Ar1 R' M' w' g A' ∧ Chg R M w R' M' w'
def DropC (A A' : Ar) (r : Int) : Prop := ∀ {R M : Nat → Prop} {w : World} {g : Nat}, Ar1 R M w g A →
  CallsV Try.prog 30 #[.pointer (some ⟨g, 0, none⟩), .int .i64 r] w fun v w' => v = .int .i64 0 ∧ ∃ R' M', Ar1 R' M' w' g A' ∧ Chg R M w R' M' w'
def CreC (A A' : Ar) : Prop := ∀ {R M : Nat → Prop} {w : World} {g : Nat}, Ar1 R M w g A →
  CallsV Try.prog 14 #[.pointer (some ⟨g, 0, none⟩)] w fun v w' => v = .tuple #[iv (A.last + 1), .int .i64 0] ∧ ∃ R' M', Ar1 R' M' w' g A' ∧ Chg R M w R' M' w'
/-- what stays of an arena -/
structure Same (A A' : Ar) : Prop where
  fan : A'.fan = A.fan
  most : A'.most = A.most
  last : A'.last = A.last
theorem Same.refl (A : Ar) : Same A A := ⟨rfl, rfl, rfl⟩
theorem Same.trans {A B C : Ar} (h : Same A B) (h' : Same B C) : Same A C := ⟨h'.fan.trans h.fan, h'.most.trans h.most, h'.last.trans h.last⟩
theorem Inv.mem {A : Ar} {D1 D2 : List Tr} {d : Tr} (h : Inv A (D1 ++ d :: D2)) : getT A.trees d.r = some d.i := h.get (by simp)
theorem Inv.one {A : Ar} {D1 D2 : List Tr} {d : Tr} (h : Inv A (D1 ++ d :: D2)) : OneT A d.r d.es ∧ dp A d.r = d.h := by
  have e := dp_at h.mem h.at_
  exact ⟨⟨⟨d.i, d.ps, _, h.mem, by rw [e]; exact h.at_⟩, h.m, h.nodes⟩, e⟩
theorem dPut0 {A : Ar} {D1 D2 : List Tr} {d : Tr} (h : Inv A (D1 ++ d :: D2)) {key val : Key} (hk : key.length ≤ 1048576) (hv : val.length ≤ 1048576) :
    ∃ A' d' full, full = putFull d.h A d.i key d.es ∧ d'.r = d.r ∧ Inv A' (D1 ++ d' :: D2) ∧ Same A A' ∧ (full = true → A' = A ∧ d' = d ∧ inE key d.es = false ∧ A.most < A.nodes + d.h + 1) ∧ (full = false → d'.es = insE key val d.es) ∧ PutC A A' d.r key val full (inE key d.es) := by
  have T := h.at_
  have put : PutC A (if putFull d.h A d.i key d.es then A else putTop d.h A d.i key val) d.r key val (putFull d.h A d.i key d.es) (inE key d.es) := by
    intro R M w g hA Ω1 Ω2 KA VA hKA hVA kc vc
    refine (Put_spec hA h.mem T h.m hKA hVA kc vc hk hv).mono ?_
    rintro _ w' ⟨R', M', h1, h2, rfl⟩
    exact ⟨rfl, R', M', h1, h2⟩
  cases hfull : putFull d.h A d.i key d.es with
  | true =>
    rw [hfull] at put
    refine ⟨A, d, true, rfl, rfl, h, .refl A, fun _ => ⟨rfl, rfl, ?_⟩, fun h => (by cases h), put⟩
    unfold putFull at hfull
    simp only [Bool.and_eq_true, Bool.not_eq_true', decide_eq_true_eq] at hfull
    have hw : wantsF A.fan (sizes d.h A d.i key) ≤ d.h + 1 := by
      have hl := sizes_len d.h T.tree (Bnd.all key)
      unfold wantsF
      split
      · omega
      · rename_i hne
        have := trail_le A.fan (sizes d.h A d.i key)
        omega
    exact ⟨hfull.1, by omega⟩
  | false =>
    rw [hfull] at put
    obtain ⟨h', ps', hI, _⟩ := h.put key val hfull
    have m := (putTop_ok T.tree T.acc T.f1 key val).choose_spec.choose_spec.1
    exact ⟨_, _, false, rfl, by rfl, hI, ⟨m.fan, m.most, m.last⟩, fun h => (by cases h), fun _ => by rfl, put⟩
theorem dPut {A : Ar} {D1 D2 : List Tr} {d : Tr} (h : Inv A (D1 ++ d :: D2)) {key val : Key} (hk : key.length ≤ 1048576) (hv : val.length ≤ 1048576) :
    ∃ A' d' full, d'.r = d.r ∧ Inv A' (D1 ++ d' :: D2) ∧ Same A A' ∧ (full = true → A' = A ∧ d' = d ∧ inE key d.es = false ∧ A.most < A.nodes + d.h + 1) ∧ (full = false → d'.es = insE key val d.es) ∧ PutC A A' d.r key val full (inE key d.es) := by
  obtain ⟨A', d', full, _, h⟩ := dPut0 h hk hv
  exact ⟨A', d', full, h⟩
theorem putFull_leaf {A : Ar} {D1 D2 : List Tr} {d : Tr} (h : Inv A (D1 ++ d :: D2)) (key : Key) (hh : d.h = 1) : putFull d.h A d.i key d.es = (!inE key d.es && decide (A.fan ≤ d.es.length ∧ A.most < A.nodes + 2 ∨ A.most < A.nodes)) := by
  have T := h.at_.tree
  rw [hh] at T
  obtain ⟨n, hn, hs, hc⟩ := T
  rcases hc with ⟨_, _, hk, hke, _⟩ | ⟨h0, _⟩
  · have hsz : (nodeAt A d.i).size = d.es.length := by simp [nodeAt, hn, Nod.size, hk, hke, keysE_length]
    have hkk : (nodeAt A d.i).kids = [] := by simp [nodeAt, hn, hk]
    have e : sizes 1 A d.i key = [d.es.length] := by
      show (nodeAt A d.i).size :: (if (nodeAt A d.i).kids = [] then [] else sizes 0 A (kid (nodeAt A d.i) (bel (nodeAt A d.i).keys key)) key) = _
      rw [if_pos hkk, hsz]
    rw [hh]
    unfold putFull wantsF
    rw [e]
    by_cases hf : A.fan ≤ d.es.length
    · have ht : trail A.fan [d.es.length] = 1 := by simp [trail, hf]
      rw [ht]
      simp only [List.length_singleton, if_true, hf, true_and]
      congr 1
      rw [decide_eq_decide]
      omega
    · have ht : trail A.fan [d.es.length] = 0 := by simp [trail, hf]
      rw [ht, if_neg (by simp)]
      simp [hf]
  · exact absurd h0 (by decide)
theorem dDel {A : Ar} {D1 D2 : List Tr} {d : Tr} (h : Inv A (D1 ++ d :: D2)) (key : Key) :
    ∃ A' d', d'.r = d.r ∧ Inv A' (D1 ++ d' :: D2) ∧ Same A A' ∧ d'.es = delE key d.es ∧ DelC A A' d.r key (inE key d.es) := by
  have T := h.at_
  have del : DelC A (if inE key d.es then delTop d.h A d.i key else A) d.r key (inE key d.es) := by
    intro R M w g hA Ω KA hKA kc
    exact Delete_spec hA h.mem T hKA kc
  cases hin : inE key d.es with
  | false =>
    rw [hin] at del
    exact ⟨A, d, rfl, h, .refl A, (del_no (by rw [← inE_has]; exact hin)).symm, del⟩
  | true =>
    rw [hin] at del
    obtain ⟨h', ps', hI⟩ := h.del hin
    have m := (delTop_ok T.tree T.acc T.f1 hin).choose_spec.choose_spec.1
    exact ⟨_, _, by rfl, hI, ⟨m.fan, m.most, m.last⟩, by rfl, del⟩
theorem dDrop {A : Ar} {D1 D2 : List Tr} {d : Tr} (h : Inv A (D1 ++ d :: D2)) : ∃ A', Inv A' (D1 ++ D2) ∧ Same A A' ∧ A'.nodes + d.ps.length = A.nodes ∧ DropC A A' d.r := by
  have T := h.at_
  have hc : ∀ x, (allF d.h A d.i).count x = d.ps.count x := all_count d.h T.tree
  have m := mv_dropAll (allF d.h A d.i) A
  exact ⟨dropT A d.r (allF d.h A d.i), h.drop hc, ⟨m.fan, m.most, m.last⟩, dropT_nodes h hc, fun hA => Drop_spec hA h.mem T⟩
theorem dCreate {A : Ar} {D : List Tr} (h : Inv A D) (hn : A.nodes < A.most) (hc : D.length < 1000) (hl : A.last < 1000000) : ∃ A' i, Inv A' (D ++ [⟨((A.last + 1 : Nat) : Int), i, 1, [], [i]⟩]) ∧ A'.fan = A.fan ∧ A'.most = A.most ∧ A'.last = A.last + 1 ∧ CreC A A' := by
  obtain ⟨i, hI⟩ := h.made hn hc
  have m := (mv_place { A with last := A.last + 1 } N0).1
  have hfree := Acc.free h.acc
  refine ⟨mkT A, i, hI, m.fan, m.most, m.last, ?_⟩
  intro R M w g hA
  refine (Create_spec hA (by have := h.f1; omega) hfree.2 hfree.1 (by have := h.len; have := h.m; omega) hl (h.miss fun d hd => ?_) (by rw [h.trees]; simp; omega)).mono ?_
  · have := (h.last d hd).2; omega
  · intro r w' hr
    rw [if_neg (by rw [h.trees]; simp; omega)] at hr
    exact hr
theorem dFull {A : Ar} {D : List Tr} (h : Inv A D) (hn : A.most ≤ A.nodes ∨ 1000 ≤ D.length) (hl : A.last < 1000000) {R M : Nat → Prop} {w : World} {g : Nat} (hA : Ar1 R M w g A) :
    CallsV Try.prog 14 #[.pointer (some ⟨g, 0, none⟩)] w fun v w' => v = .tuple #[.int .i64 0, .int .i64 5] ∧ Ext w w' := by
  have hfree := Acc.free h.acc
  refine (Create_spec hA (by have := h.f1; omega) hfree.2 hfree.1 (by have := h.len; have := h.m; omega) hl (h.miss fun d hd => ?_) (by rw [h.trees]; simp; have := h.cnt; omega)).mono ?_
  · have := (h.last d hd).2; omega
  · intro r w' hr
    rw [if_pos (by rw [h.trees]; simp; omega)] at hr
    exact hr
theorem dNodes {A : Ar} {D : List Tr} (h : Inv A D) {R M : Nat → Prop} {w : World} {g : Nat} (hA : Ar1 R M w g A) : CallsV Try.prog 15 #[.pointer (some ⟨g, 0, none⟩)] w fun r w' => r = iv A.nodes ∧ w' = w.drew :=
  Nodes_spec hA (Acc.free h.acc).2 (by have := h.len; have := h.m; omega)
theorem dCheck {A : Ar} {D : List Tr} (h : Inv A D) {R M : Nat → Prop} {w : World} {g : Nat} (hA : Ar1 R M w g A) : CallsV Try.prog 19 #[.pointer (some ⟨g, 0, none⟩)] w fun r w' => r = .int .i64 0 ∧ Ext w w' := Check_spec hA h.whole
theorem dSave {A : Ar} {D : List Tr} (h : Inv A D) {R M : Nat → Prop} {w : World} {g : Nat} (hA : Ar1 R M w g A) : CallsV Try.prog 31 #[.pointer (some ⟨g, 0, none⟩)] w fun r w' => ∃ sb R', r = .pointer (some ⟨sb, 0, none⟩) ∧ Ar1 R' M w' g A ∧ Chg R M w R' M w' ∧ Ext w w' ∧ Sv1 (Om R' M) w' sb g A := by
  have h1 := h.len; have h2 := h.m; have h3 := (Acc.free h.acc).2; have h4 := h.f1
  exact Save_spec hA (by omega) (by omega) (by omega)
theorem dLoad {A B : Ar} {D D' : List Tr} (h : Inv A D) (hB : Inv B D') (h1 : B.fan = A.fan) (h2 : B.most = A.most) {R M : Nat → Prop} {w : World} {g sb : Nat} (hA : Ar1 R M w g A) (s : Sv1 (Om R M) w sb g B) :
    CallsV Try.prog 32 #[.pointer (some ⟨g, 0, none⟩), .pointer (some ⟨sb, 0, none⟩)] w fun r w' => r = .int .i64 0 ∧ ∃ R' M', Ar1 R' M' w' g B ∧ Chg R M w R' M' w' := by
  have h1' := hB.len; have h2' := hB.m; have h3 := (Acc.free hB.acc).2; have h4 := h.f1
  exact Load_spec hA (by omega) s h1 h2 (by omega) (by omega)
end Go.Proofs.Ytadlhdiejmilmaa
/- Layer 4: a tree of several gone through; what is done to one tree changes nothing of another. -/
set_option linter.unusedVariables false
set_option linter.unusedSimpArgs false
namespace Go.Proofs.Ytadlhdiejmilmaa
open Go Go.Sx T4
set_option maxHeartbeats 400000 in
theorem walksO {w : World} {R M : Nat → Prop} {g : Nat} {A : Ar} (h : Ar1 R M w g A) {es : Es} (S : OneT A 1 es) {mb : Nat} {D : List (Int × Nat)} (hm : MapK fI w mb (mapE D)) (hD : RelD D es) (hel : es.length ≤ 1000000) :
    CallsV Try.prog 20 #[.pointer (some ⟨g, 0, none⟩), .map (some mb)] w fun r w' => r = .bool true ∧ Ext w w' := by
  have hu := S.upE
  refine cardindexlaw04_walks.calls okay ?_
  unfold cardindexlaw04_walks.W
  refine (oLen h S).mono ?_
  rintro _ w1 ⟨rfl, e1⟩
  refine ⟨_, rfl, _, _, maplen (hm.ext e1) _, brn (fun h => absurd (by rw [hD.len]) h) fun _ => ?_⟩
  refine (oAfter (h.ext e1) S (key := []) (Imm.nil KB NoB w1 none) 0 true).mono ?_
  rintro _ w2 ⟨ht, e2⟩
  rw [aft_first] at ht
  obtain ⟨A1, n1, c1, B1, m1, d1, ok1, rfl, hg⟩ := ht.got
  refine ⟨_, _, _, _, _, _, _, rfl, ?_⟩
  refine ⟨fun aA an ac x kA kn kc vA vn vc ok u => ∃ j : Nat, j ≤ es.length ∧ x = (j : Int) ∧ Ext w u ∧ an = (prevK es j).length ∧ Imm KB NoB u aA (prevK es j) ∧ Got u es[j]? kA kn kc vA vn vc ok,
    fun _ _ _ x _ _ _ _ _ _ _ _ => (es.length - x).toNat, ⟨0, by omega, rfl, e1.trans' e2, rfl, Imm.nil _ _ _ _, hg⟩, ?_⟩
  rintro aA an ac _ kA kn kc vA vn vc ok u ⟨j, hj, rfl, eu, rfl, hat, hg⟩
  cases hx : es[j]? with
  | some p =>
    obtain ⟨k, v⟩ := p
    rw [hx] at hg
    obtain ⟨rfl, rfl, rfl, hk, hv⟩ := hg
    have hjl := (List.getElem?_eq_some_iff.1 hx).1
    have hmem : (k, v) ∈ es := List.mem_of_getElem? hx
    obtain ⟨n, i, hn, hi, hkv, hgt⟩ := hD.a _ hmem
    obtain ⟨rfl, rfl⟩ : k = keyN n ∧ v = keyN i := by simpa using hkv
    have hkl : (keyN n).length = 2 := rfl
    refine ⟨fun u' => u' = u, ?_, ?_⟩
    · intro u' hu'
      obtain rfl : u = u' := hu'.symm
      obtain ⟨ad, hA, _, cs0, hr0, hv0⟩ := hk 0 (UInt8.ofNat (n / 256)) rfl
      obtain ⟨ad1, hA1, _, cs1, hr1, hv1⟩ := hk 1 (UInt8.ofNat n) rfl
      rw [hA] at hA1; cases hA1
      have hc0 : u.cell? (ad.add (Int.toNat 0 * 1)) = some (u8 (UInt8.ofNat (n / 256))) := hv0 0 _ (by rw [show cs0 = [u8 (UInt8.ofNat (n / 256))] from hr0]; rfl)
      have hc1 : u.cell? (ad.add (Int.toNat 1 * 1)) = some (u8 (UInt8.ofNat n)) := hv1 0 _ (by rw [show cs1 = [u8 (UInt8.ofNat n)] from hr1]; rfl)
      have ed : Ext u u.drew := Fr.drew NoB u
      have hl := ((hm.ext (eu.trans' ed)).look (P := Try.prog) keyI (t := 30) (kt := 3) (et := 3) (by kernel_rfl) (n : Int) (z := .int .i64 0) zeroI).1
      rw [getT_M, hgt] at hl
      refine ⟨ad, hA, ⟨by omega, by rw [hkl]; decide⟩, fun z => Ext u z, ed, _, fun z ez => Ext.cell ez hc0, ad, hA, ⟨by omega, by rw [hkl]; decide⟩, _, fun z ez => Ext.cell ez hc1, (i : Int), true, u.drew, ?_, ed, brnb (fun h => by cases h) fun _ => ?_⟩
      · have a1 : (((UInt8.ofNat (n / 256)).toNat : Nat) : Int) = ((n / 256 : Nat) : Int) := by simp only [UInt8.toNat_ofNat']; omega
        have a2 : (((UInt8.ofNat n).toNat : Nat) : Int) = ((n % 256 : Nat) : Int) := by simp only [UInt8.toNat_ofNat']
        rw [a1, a2, wi ((n / 256 : Nat) : Int) (by omega) (by omega), wi (256 * _) (by omega) (by omega), wi ((n % 256 : Nat) : Int) (by omega) (by omega), wi _ (by omega) (by omega), show (256 : Int) * ((n / 256 : Nat) : Int) + ((n % 256 : Nat) : Int) = (n : Int) by omega]
        exact hl
      · refine (key_spec u.drew i hi).mono ?_
        rintro _ u1 ⟨kA', rfl, ok', e1', _⟩
        refine ⟨_, _, _, rfl, (SameBytes_spec (hv.ext KB_pos (ed.trans' e1')) ok'.imm0).same ⟨_, rfl, brnb (fun h => by simp at h) fun _ => ?_⟩⟩
        have e2' := (eu.trans' ed).trans' e1'
        refine (oAfter (h.ext e2') S (hk.ext KB_pos (ed.trans' e1')) kc false).mono ?_
        rintro _ u2 ⟨ht, e3'⟩
        rw [aft_next hu hx] at ht
        obtain ⟨A3, n3, c3, B3, m3, d3, ok3, rfl, hg3⟩ := ht.got
        have hprev : prevK es (j + 1) = keyN n := by unfold prevK; rw [if_neg (by omega), Nat.add_sub_cancel]; simp [List.getD, hx]
        rw [wi _ (by omega) (by omega)]
        exact ⟨_, _, _, _, _, _, _, rfl, ⟨j + 1, by omega, by omega, e2'.trans' e3', by rw [hprev], by rw [hprev]; exact hk.ext KB_pos ((ed.trans' e1').trans' e3'), hg3⟩, by dsimp only; omega⟩
    · refine brn (fun h => absurd rfl h) fun _ => brd (fun h0 => ?_) (fun _ => rfl)
      refine ⟨_, _, to_str bt hk kc, _, _, to_str bt hat ac, ?_⟩
      have tl : ∀ l : List UInt8, ByteArray.toList ⟨l.toArray⟩ = l := fun l => by rw [ByteArray.toList_eq]
      obtain ⟨j', rfl⟩ : ∃ j', j = j' + 1 := ⟨j - 1, by omega⟩
      obtain ⟨y, hy⟩ : ∃ y, es[j']? = some y := ⟨_, List.getElem?_eq_getElem (by omega)⟩
      have hpk : prevK es (j' + 1) = y.1 := by unfold prevK; rw [if_neg (by omega), Nat.add_sub_cancel]; simp [List.getD, hy]
      have hlt : lt y.1 (keyN n) := by
        have h1 : (keysE es)[j']? = some y.1 := by simp [keysE, hy]
        have h2 : (keysE es)[j' + 1]? = some (keyN n) := by simp [keysE, hx]
        obtain ⟨l1, g1⟩ := List.getElem?_eq_some_iff.1 h1
        obtain ⟨l2, g2⟩ := List.getElem?_eq_some_iff.1 h2
        have := List.pairwise_iff_getElem.1 hu j' (j' + 1) l1 l2 (by omega)
        rwa [g1, g2] at this
      rw [hpk, tl, tl, less_lt, decide_eq_false (lt_asymm hlt)]
      refine brf ?_ rfl
      simp only [Bool.false_or]
      exact beq_false_of_ne fun e => lt_ne hlt e.symm
  | none =>
    rw [hx] at hg
    obtain ⟨rfl, rfl⟩ := hg
    have hjl : j = es.length := by have := List.getElem?_eq_none_iff.1 hx; omega
    subst hjl
    refine ⟨_, _, maplen (hm.ext eu) _, brn (fun h => absurd (by rw [hD.len]) h) fun _ => ?_⟩
    refine (oLast (h.ext eu) S).mono ?_
    rintro _ u2 ⟨ht, eu2⟩
    obtain ⟨A2, n2, c2, B2, m2, d2, ok2, rfl, hg2⟩ := ht.got
    refine ⟨_, _, _, _, _, _, _, rfl, ?_⟩
    refine ⟨fun aA an ac x kA kn kc ok v => ∃ j : Nat, j ≤ es.length ∧ x = (j : Int) ∧ Ext u v ∧ an = (prevK es j).length ∧ Imm KB NoB v aA (prevK es j) ∧ ∃ vA vn vc, Got v (if j = 0 then none else es[j - 1]?) kA kn kc vA vn vc ok,
      fun _ _ _ x _ _ _ _ _ => x.toNat, ⟨es.length, Nat.le_refl _, rfl, eu2, rfl, hat.ext KB_pos eu2, B2, m2, d2, ?_⟩, ?_⟩
    · rw [List.getLast?_eq_getElem?] at hg2
      split
      · rename_i h0; rw [List.eq_nil_of_length_eq_zero h0] at hg2; exact hg2
      · exact hg2
    · rintro aA an ac _ kA kn kc ok v ⟨j, hj, rfl, ev, rfl, hat, vA, vn, vc, hg⟩
      cases j with
      | zero =>
        obtain ⟨rfl, _⟩ : ok = false ∧ kn = 0 := hg
        exact ⟨rfl, eu.trans' ev⟩
      | succ j =>
        obtain ⟨y, hy⟩ : ∃ y, es[j]? = some y := ⟨_, List.getElem?_eq_getElem (by omega)⟩
        obtain ⟨k, v0⟩ := y
        rw [if_neg (by omega), Nat.add_sub_cancel, hy] at hg
        obtain ⟨rfl, rfl, rfl, hk, hv⟩ := hg
        have hpk : prevK es (j + 1) = k := by unfold prevK; rw [if_neg (by omega), Nat.add_sub_cancel]; simp [List.getD, hy]
        refine (SameBytes_spec hk hat).same ⟨_, rfl, brnb (fun h => by rw [hpk] at h; simp at h) fun _ => ?_⟩
        have ewv := eu.trans' ev
        refine (oBefore (h.ext ewv) S hk kc false).mono ?_
        rintro _ v1 ⟨ht, e1'⟩
        rw [bef_prev hu hy] at ht
        obtain ⟨A3, n3, c3, B3, m3, d3, ok3, rfl, hg3⟩ := ht.got
        refine ⟨_, _, _, _, _, _, _, rfl, (oBefore (h.ext (ewv.trans' e1')) S (hk.ext KB_pos e1') kc false).mono ?_⟩
        rintro _ v2 ⟨ht, e2'⟩
        rw [bef_prev hu hy] at ht
        obtain ⟨A4, n4, c4, B4, m4, d4, ok4, rfl, hg4⟩ := ht.got
        refine ⟨_, _, _, _, _, _, _, rfl, ?_⟩
        rw [wi _ (by omega) (by omega)]
        have hnk : n3 = (prevK es j).length ∧ Imm KB NoB v1 A3 (prevK es j) := by
          cases j with
          | zero => rw [if_pos rfl] at hg3; exact ⟨hg3.2, Imm.nil _ _ _ _⟩
          | succ j =>
            obtain ⟨y, hy'⟩ : ∃ y, es[j]? = some y := ⟨_, List.getElem?_eq_getElem (by omega)⟩
            rw [if_neg (by omega), Nat.add_sub_cancel, hy'] at hg3
            have hpk : prevK es (j + 1) = y.1 := by unfold prevK; rw [if_neg (by omega), Nat.add_sub_cancel]; simp [List.getD, hy']
            rw [hpk]
            exact ⟨hg3.2.1, hg3.2.2.2.1⟩
        exact ⟨⟨j, by omega, by omega, (ev.trans' e1').trans' e2', hnk.1, hnk.2.ext KB_pos e2', B4, m4, d4, hg4⟩, by dsimp only; omega⟩
/-- an arena of several trees, and the map of what is in the first -/
structure Many (w0 : World) (R M : Nat → Prop) (u : World) (g : Nat) (A : Ar) (Ds : List Tr) (mb : Nat) (D : List (Int × Nat)) : Prop where
  hs : Hs w0 R M u g A
  inv : Inv A Ds
  map : MapK fI u mb (mapE D)
  off : ¬ R mb
  ge : w0.heap.size ≤ mb
theorem Many.ext {w0 : World} {R M : Nat → Prop} {u u' : World} {g : Nat} {A : Ar} {Ds : List Tr} {mb : Nat} {D : List (Int × Nat)} (h : Many w0 R M u g A Ds mb D) (e : Ext u u') : Many w0 R M u' g A Ds mb D := ⟨h.hs.ext e, h.inv, h.map.ext e, h.off, h.ge⟩
theorem Many.chg {w0 : World} {R M R' M' : Nat → Prop} {u u' : World} {g : Nat} {A A' : Ar} {Ds Ds' : List Tr} {mb : Nat} {D : List (Int × Nat)} (h : Many w0 R M u g A Ds mb D) (h' : Ar1 R' M' u' g A') (c : Chg R M u R' M' u') (hI : Inv A' Ds') : Many w0 R' M' u' g A' Ds' mb D :=
  ⟨h.hs.chg h' c, hI, h.map.keep c.fr fun hm => h.off (h.hs.ar.mr _ hm), c.off h.map.lt h.off, h.ge⟩
theorem Both.many {w0 : World} {R M : Nat → Prop} {u : World} {g : Nat} {A : Ar} {H : Nat} {es : Es} {mb : Nat} {D : List (Int × Nat)} (h : Both w0 R M u g A H es mb D) : ∃ i ps, Many w0 R M u g A [⟨1, i, H, es, ps⟩] mb D := by
  obtain ⟨hl, i, ps, hI⟩ := h.sole
  exact ⟨i, ps, h.hs, hI, h.map, h.off, h.ge⟩
theorem Inv.nodesE {A : Ar} {D : List Tr} (h : Inv A D) : A.nodes = (D.map fun d => d.ps.length).sum := by
  have := h.acc.nodes
  rw [List.length_nil, Nat.zero_add, List.length_flatMap] at this
  exact this
set_option maxRecDepth 100000 in
set_option maxHeartbeats 1000000 in
theorem TreeApart_spec {Ω Ω' : Nat → Prop} {w : World} (fan : Int) {LA OA : Option Addr} {lc oc : Nat} {l out : List Int} (hl : Imm KI Ω w LA l) (ho : Imm KI Ω' w OA out) :
    CallsV Try.prog 7 #[.int .i64 fan, .slice LA l.length lc, .slice OA out.length oc] w fun r w' => r = .bool true ∧ Ext w w' := by
  refine cardindexlaw04_TreeApart.calls okay ?_
  unfold cardindexlaw04_TreeApart.W
  refine (grown_spec fan hl).mono ?_
  rintro _ w1 ⟨g, A, H, es, R, M, mb, D, rfl, hB, _, hmost, hlen⟩
  have hrel := hB.rel
  have hlast := hB.sole.1
  obtain ⟨i1, ps1, hM⟩ := hB.many
  generalize hd1 : (⟨1, i1, H, es, ps1⟩ : Tr) = d1 at hM
  have d1r : d1.r = 1 := by rw [← hd1]
  have d1e : d1.es = es := by rw [← hd1]
  have hpl : ∀ {A : Ar} {D1 D2 : List Tr} {d : Tr}, Inv A (D1 ++ d :: D2) → d.ps.length ≤ 1 + d.es.length := fun h => (h.tree _ (by simp)).places h.f1
  refine ⟨_, _, _, rfl, brnb (fun h => by cases h) fun _ => (dNodes hM.inv hM.hs.ar).mono ?_⟩
  rintro _ _ ⟨rfl, rfl⟩
  have hM := hM.ext (Fr.drew NoB w1)
  have hn0 := hM.inv.nodesE
  simp at hn0
  have hp1 := hpl (D1 := []) (D2 := []) hM.inv
  rw [d1e] at hp1
  obtain ⟨A2, i2, hI2, hf2, hm2, hl2, hC⟩ := dCreate hM.inv (by omega) (by simp) (by omega)
  refine ⟨_, rfl, (hC hM.hs.ar).mono ?_⟩
  rintro _ w2 ⟨rfl, R2, M2, h2, c2⟩
  have hM2 := hM.chg h2 c2 hI2
  rw [hlast] at hM2 ⊢
  refine ⟨_, _, rfl, brn (fun h => absurd rfl h) fun _ => ?_⟩
  refine ⟨fun u => ∃ A R M d, d.r = 2 ∧ Many w R M u g A [d1, d] mb D, ?_, ?_⟩
  · rintro u ⟨A', R', M', d, hdr, hm⟩
    obtain ⟨o1, _⟩ := Inv.one (D1 := []) (D2 := [d]) hm.inv
    rw [d1r, d1e] at o1
    refine (walksO hm.hs.ar o1 hm.map hrel (by omega)).mono ?_
    rintro _ u1 ⟨rfl, e1⟩
    have hm := hm.ext e1
    obtain ⟨A3, hI3, hs3, hn3, hD⟩ := dDrop (D1 := [d1]) (D2 := []) hm.inv
    rw [hdr] at hD
    refine ⟨_, rfl, (hD hm.hs.ar).mono ?_⟩
    rintro _ u2 ⟨rfl, R3, M3, h3, c3⟩
    have hm3 := hm.chg h3 c3 hI3
    refine ⟨_, rfl, brd (fun _ => ?_) fun h => absurd rfl h⟩
    refine (dNodes hm3.inv hm3.hs.ar).mono ?_
    rintro _ _ ⟨rfl, rfl⟩
    have hm3 := hm3.ext (Fr.drew NoB _)
    have hn3' := hm3.inv.nodesE
    simp at hn3'
    refine ⟨_, rfl, brd (fun _ => ?_) fun h => absurd (by rw [hn3', hn0]) h⟩
    obtain ⟨o1, _⟩ := Inv.one (D1 := []) (D2 := []) hm3.inv
    rw [d1r, d1e] at o1
    refine (walksO hm3.hs.ar o1 hm3.map hrel (by omega)).mono ?_
    rintro _ u3 ⟨rfl, e3⟩
    have hm3 := hm3.ext e3
    refine ⟨_, rfl, (dCheck hm3.inv hm3.hs.ar).mono ?_⟩
    rintro _ u4 ⟨rfl, e4⟩
    have hm3 := hm3.ext e4
    refine ⟨_, rfl, brd (fun _ => ?_) fun h => absurd rfl h⟩
    refine (awake_spec u4).mono ?_
    rintro _ u5 ⟨rfl, e5⟩
    exact ⟨_, rfl, rfl, (hm3.ext e5).hs.e⟩
  · refine ⟨fun x u => ∃ j : Nat, j ≤ 200 ∧ x = (j : Int) ∧ ∃ A R M d, d.r = 2 ∧ Many w R M u g A [d1, d] mb D, fun x _ => (200 - x).toNat, ⟨0, by omega, rfl, _, _, _, _, rfl, hM2⟩, ?_⟩
    rintro _ u ⟨j, hj, rfl, A', R', M', d, hdr, hm⟩
    refine brd (fun hlt => brd (fun hlt2 => ?_) (fun _ => ⟨A', R', M', d, hdr, hm⟩)) (fun _ => ⟨A', R', M', d, hdr, hm⟩)
    obtain ⟨ad, x, hA, hc⟩ := itemI (ho.ext (by decide) hm.hs.e) (j := j) (by omega)
    refine ⟨ad, hA, ⟨by omega, by omega⟩, x, by rw [Int.toNat_natCast]; exact hc, (Pick_spec u x 500 (by decide) (by decide)).mono ?_⟩
    rintro _ u' ⟨n, rfl, hn, hu'⟩
    obtain rfl : u = u' := hu'.symm
    refine ⟨_, rfl, ad, hA, ⟨by omega, by omega⟩, x, by rw [Int.toNat_natCast]; exact hc, by decide, brd (fun _ => ?_) (fun _ => ?_)⟩
    · refine (key_spec u n (by omega)).mono ?_
      rintro _ u1 ⟨KA, rfl, oK, e1, _⟩
      refine ⟨_, _, _, rfl, (key_spec u1 j (by omega)).mono ?_⟩
      rintro _ u2 ⟨VA, rfl, oV, e2, _⟩
      have hm := (hm.ext e1).ext e2
      obtain ⟨A3, d3, full, hr3, hI3, _, _, _, hP⟩ := dPut (D1 := [d1]) (D2 := []) hm.inv (key := keyN n) (val := keyN j) (show 2 ≤ 1048576 by decide) (show 2 ≤ 1048576 by decide)
      rw [hdr] at hP
      refine ⟨_, _, _, rfl, (hP hm.hs.ar (oK.ext e2).imm0 oV.imm0 2 2).mono ?_⟩
      rintro _ u3 ⟨rfl, R3, M3, h3, c3⟩
      rw [wi _ (by omega) (by omega)]
      exact ⟨_, _, rfl, ⟨j + 1, by omega, by omega, A3, R3, M3, d3, hr3.trans hdr, hm.chg h3 c3 hI3⟩, by dsimp only; omega⟩
    · refine (key_spec u n (by omega)).mono ?_
      rintro _ u1 ⟨KA, rfl, oK, e1, _⟩
      have hm := hm.ext e1
      obtain ⟨A3, d3, hr3, hI3, _, _, hP⟩ := dDel (D1 := [d1]) (D2 := []) hm.inv (keyN n)
      rw [hdr] at hP
      refine ⟨_, _, _, rfl, (hP hm.hs.ar oK.imm0 2).mono ?_⟩
      rintro _ u3 ⟨rfl, R3, M3, h3, c3⟩
      rw [wi _ (by omega) (by omega)]
      exact ⟨_, _, rfl, ⟨j + 1, by omega, by omega, A3, R3, M3, d3, hr3.trans hdr, hm.chg h3 c3 hI3⟩, by dsimp only; omega⟩
end Go.Proofs.Ytadlhdiejmilmaa
/- Layer 4: TreeSaved. -/
set_option linter.unusedVariables false
set_option linter.unusedSimpArgs false
namespace Go.Proofs.Ytadlhdiejmilmaa
open Go Go.Sx T4
set_option maxRecDepth 100000 in
set_option maxHeartbeats 1000000 in
theorem TreeSaved_spec {Ω Ω' : Nat → Prop} {w : World} (fan : Int) {LA OA : Option Addr} {lc oc : Nat} {l out : List Int} (hl : Imm KI Ω w LA l) (ho : Imm KI Ω' w OA out) :
    CallsV Try.prog 8 #[.int .i64 fan, .slice LA l.length lc, .slice OA out.length oc] w fun r w' => r = .bool true ∧ Ext w w' := by
  refine cardindexlaw04_TreeSaved.calls okay ?_
  unfold cardindexlaw04_TreeSaved.W
  refine (grown_spec fan hl).mono ?_
  rintro _ w1 ⟨g, A, H, es, R, M, mb, D, rfl, hB, _, hmost, hlen⟩
  have hrel := hB.rel
  have hlast := hB.sole.1
  obtain ⟨i1, ps1, hM⟩ := hB.many
  generalize hd1 : (⟨1, i1, H, es, ps1⟩ : Tr) = d1 at hM
  have d1r : d1.r = 1 := by rw [← hd1]
  have d1e : d1.es = es := by rw [← hd1]
  refine ⟨_, _, _, rfl, brnb (fun h => by cases h) fun _ => (dSave hM.inv hM.hs.ar).mono ?_⟩
  rintro _ w2 ⟨sb, R2, rfl, h2, c2, e2, hS⟩
  have hM := hM.chg h2 c2 hM.inv
  have hI0 := hM.inv
  refine ⟨_, rfl, (dNodes hM.inv hM.hs.ar).mono ?_⟩
  rintro _ _ ⟨rfl, rfl⟩
  have ed : Ext w2 w2.drew := Fr.drew NoB w2
  have hM := hM.ext ed
  have hS := hS.keep (Ext.om ed R2 M)
  obtain ⟨o1, _⟩ := Inv.one (D1 := []) (D2 := []) hM.inv
  rw [d1r, d1e] at o1
  refine ⟨_, rfl, (oDeep hM.hs.ar o1).mono ?_⟩
  rintro _ w3 ⟨rfl, e3⟩
  have hM := hM.ext e3
  have hS := hS.keep (Ext.om e3 R2 M)
  refine ⟨_, rfl, fun x u => ∃ j : Nat, j ≤ 2 ∧ x = (j : Int) ∧ ∃ R M, Many w R M u g A [d1] mb D ∧ Sv1 (Om R M) u sb g A, fun x _ => (2 - x).toNat, ⟨0, by omega, rfl, _, _, hM, hS⟩, ?_⟩
  rintro _ u ⟨j, hj, rfl, R, M, hM, hS⟩
  refine brd (fun hlt => ?_) (fun _ => ?_)
  · refine ⟨fun u => ∃ A' R M d, d.r = 1 ∧ d.es.length ≤ 500 ∧ Same A A' ∧ Many w R M u g A' [d] mb D ∧ Sv1 (Om R M) u sb g A, ?_, ?_⟩
    · rintro u ⟨A', R, M, d, hdr, hde, hsame, hm, hs⟩
      have hp : d.ps.length ≤ 1 + d.es.length := (hm.inv.tree d (by simp)).places hm.inv.f1
      have hn := hm.inv.nodesE
      simp at hn
      have hl' := hsame.last; have hm' := hsame.most
      obtain ⟨A2, i2, hI2, hf2, hm2, hl2, hC⟩ := dCreate hm.inv (by omega) (by simp) (by omega)
      refine (hC hm.hs.ar).mono ?_
      rintro _ u2 ⟨rfl, R2, M2, h2, c2⟩
      have hm2' := hm.chg h2 c2 hI2
      have hs2 := hs.keep c2.step
      rw [hl', hlast] at hm2' ⊢
      obtain ⟨A3, d3, full, hr3, hI3, hs3, _, _, hP⟩ := dPut (D1 := [d]) (D2 := []) hm2'.inv (key := []) (val := []) (by decide) (by decide)
      refine ⟨_, _, rfl, (hP hm2'.hs.ar (Imm.nil KB NoB u2 none) (Imm.nil KB NoB u2 none) 0 0).mono ?_⟩
      rintro _ u3 ⟨rfl, R3, M3, h3, c3⟩
      have hm3 := hm2'.chg h3 c3 hI3
      have hs3' := hs2.keep c3.step
      refine ⟨_, _, rfl, brn (fun h => absurd rfl h) fun _ => brn (fun h => absurd rfl h) fun _ => ?_⟩
      obtain ⟨A4, hI4, hs4, _, hD⟩ := dDrop (D1 := []) (D2 := [d3]) hm3.inv
      rw [hdr] at hD
      refine (hD hm3.hs.ar).mono ?_
      rintro _ u4 ⟨rfl, R4, M4, h4, c4⟩
      have hm4 := hm3.chg h4 c4 hI4
      have hs4' := hs3'.keep c4.step
      refine ⟨_, rfl, brn (fun h => absurd rfl h) fun _ => ?_⟩
      refine (dLoad hm4.inv hI0 (by rw [hs4.fan, hs3.fan, hf2, hsame.fan]) (by rw [hs4.most, hs3.most, hm2, hsame.most]) hm4.hs.ar hs4').mono ?_
      rintro _ u5 ⟨rfl, R5, M5, h5, c5⟩
      have hm5 := hm4.chg h5 c5 hI0
      have hs5 := hs4'.keep c5.step
      refine ⟨_, rfl, brn (fun h => absurd rfl h) fun _ => (dNodes hm5.inv hm5.hs.ar).mono ?_⟩
      rintro _ _ ⟨rfl, rfl⟩
      have ed : Ext u5 u5.drew := Fr.drew NoB u5
      have hm5 := hm5.ext ed
      have hs5 := hs5.keep (Ext.om ed R5 M5)
      refine ⟨_, rfl, brn (fun h => absurd rfl h) fun _ => (oDeep hm5.hs.ar o1).mono ?_⟩
      rintro _ u6 ⟨rfl, e6⟩
      have hm5 := hm5.ext e6
      have hs5 := hs5.keep (Ext.om e6 R5 M5)
      refine ⟨_, rfl, brn (fun h => absurd rfl h) fun _ => (Deep_none hm5.hs.ar (by have := o1.f1; omega) (root := 2) (hI0.miss fun d hd => by simp at hd; subst hd; omega)).same ⟨_, rfl, brn (fun h => absurd rfl h) fun _ => (walksO hm5.hs.ar o1 hm5.map hrel (by omega)).mono ?_⟩⟩
      rintro _ u7 ⟨rfl, e7⟩
      have hm5 := hm5.ext e7
      have hs5 := hs5.keep (Ext.om e7 R5 M5)
      refine ⟨_, rfl, brnb (fun h => by cases h) fun _ => (dCheck hm5.inv hm5.hs.ar).mono ?_⟩
      rintro _ u8 ⟨rfl, e8⟩
      have hm5 := hm5.ext e8
      have hs5 := hs5.keep (Ext.om e8 R5 M5)
      refine ⟨_, rfl, brn (fun h => absurd rfl h) fun _ => ?_⟩
      rw [wi _ (by omega) (by omega)]
      exact ⟨⟨j + 1, by omega, by omega, _, _, hm5, hs5⟩, by dsimp only; omega⟩
    · refine ⟨fun x u => ∃ j : Nat, j ≤ 200 ∧ x = (j : Int) ∧ ∃ A' R M d, d.r = 1 ∧ d.es.length ≤ 300 + j ∧ Same A A' ∧ Many w R M u g A' [d] mb D ∧ Sv1 (Om R M) u sb g A, fun x _ => (200 - x).toNat, ⟨0, by omega, rfl, A, R, M, d1, d1r, by rw [d1e]; omega, .refl A, hM, hS⟩, ?_⟩
      rintro _ u ⟨j, hj, rfl, A', R, M, d, hdr, hde, hsame, hm, hs⟩
      have fin : ∃ A' R M d, d.r = 1 ∧ d.es.length ≤ 500 ∧ Same A A' ∧ Many w R M u g A' [d] mb D ∧ Sv1 (Om R M) u sb g A := ⟨A', R, M, d, hdr, by omega, hsame, hm, hs⟩
      refine brd (fun hlt => brd (fun hlt2 => ?_) (fun _ => fin)) (fun _ => fin)
      obtain ⟨ad, x, hA, hc⟩ := itemI (ho.ext (by decide) hm.hs.e) (j := j) (by omega)
      refine ⟨ad, hA, ⟨by omega, by omega⟩, x, by rw [Int.toNat_natCast]; exact hc, (Pick_spec u x 1000 (by decide) (by decide)).mono ?_⟩
      rintro _ u' ⟨n, rfl, hn, hu'⟩
      obtain rfl : u = u' := hu'.symm
      refine ⟨_, rfl, ad, hA, ⟨by omega, by omega⟩, x, by rw [Int.toNat_natCast]; exact hc, by decide, brd (fun _ => ?_) (fun _ => ?_)⟩
      · refine (key_spec u n (by omega)).mono ?_
        rintro _ u1 ⟨KA, rfl, oK, e1, _⟩
        have hm := hm.ext e1
        have hs := hs.keep (Ext.om e1 R M)
        obtain ⟨A3, d3, full, hr3, hI3, hs3, hf3, hn3, hP⟩ := dPut (D1 := []) (D2 := []) hm.inv (key := keyN n) (val := []) (show 2 ≤ 1048576 by decide) (by decide)
        rw [hdr] at hP
        refine ⟨_, _, _, rfl, (hP hm.hs.ar oK.imm0 (Imm.nil KB NoB u1 none) 2 0).mono ?_⟩
        rintro _ u3 ⟨rfl, R3, M3, h3, c3⟩
        rw [wi _ (by omega) (by omega)]
        refine ⟨_, _, rfl, ⟨j + 1, by omega, by omega, A3, R3, M3, d3, hr3.trans hdr, ?_, hsame.trans hs3, hm.chg h3 c3 hI3, hs.keep c3.step⟩, by dsimp only; omega⟩
        cases full with
        | true => rw [(hf3 rfl).2.1]; omega
        | false => rw [hn3 rfl]; have := len_insE_le (keyN n) [] d.es; omega
      · refine (key_spec u n (by omega)).mono ?_
        rintro _ u1 ⟨KA, rfl, oK, e1, _⟩
        have hm := hm.ext e1
        have hs := hs.keep (Ext.om e1 R M)
        obtain ⟨A3, d3, hr3, hI3, hs3, he3, hP⟩ := dDel (D1 := []) (D2 := []) hm.inv (keyN n)
        rw [hdr] at hP
        refine ⟨_, _, _, rfl, (hP hm.hs.ar oK.imm0 2).mono ?_⟩
        rintro _ u3 ⟨rfl, R3, M3, h3, c3⟩
        rw [wi _ (by omega) (by omega)]
        refine ⟨_, _, rfl, ⟨j + 1, by omega, by omega, A3, R3, M3, d3, hr3.trans hdr, ?_, hsame.trans hs3, hm.chg h3 c3 hI3, hs.keep c3.step⟩, by dsimp only; omega⟩
        rw [he3]; have := delE_le (keyN n) d.es; omega
  · refine (awake_spec u).mono ?_
    rintro _ u5 ⟨rfl, e5⟩
    exact ⟨_, rfl, rfl, (hM.ext e5).hs.e⟩
end Go.Proofs.Ytadlhdiejmilmaa
