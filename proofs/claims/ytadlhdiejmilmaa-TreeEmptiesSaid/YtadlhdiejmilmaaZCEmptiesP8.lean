/- Part 8 of the texts of this claim: the engine, contracts, plain laws. -/
import Derived.Test.YtadlhdiejmilmaaZCEmptiesP6
import Derived.Test.YtadlhdiejmilmaaZCEmptiesP7
/- Layer 4: an arena that is grown; whatever is put and taken away, the shape is right. -/
set_option linter.unusedVariables false
set_option linter.unusedSimpArgs false
namespace Go.Proofs.Ytadlhdiejmilmaa
open Go Go.Sx T4
/-! ## maps: an entry goes -/
theorem mapErase {α β : Type} (f : α → β) : ∀ (l : List α) (j : Nat), (l.eraseIdx j).map f = (l.map f).eraseIdx j
  | [], _ => rfl
  | x :: l, 0 => rfl
  | x :: l, j + 1 => by simp [mapErase f l j]
theorem findD (a : Int) : ∀ (D : List (Int × Nat)) (i : Nat), match findM (mapE D) a i with | none => delD D a = D | some (j, _) => ∃ n, j = i + n ∧ (mapE D).eraseIdx n = mapE (delD D a)
  | [], i => rfl
  | (x, u) :: D, i => by
    show match (if a = x then some (i, iv u) else findM (mapE D) a (i + 1)) with | none => (if a = x then D else (x, u) :: delD D a) = (x, u) :: D | some (j, _) => ∃ n, j = i + n ∧ ((x, iv u) :: mapE D).eraseIdx n = mapE (if a = x then D else (x, u) :: delD D a)
    by_cases h : a = x
    · rw [if_pos h, if_pos h]; exact ⟨0, rfl, rfl⟩
    · rw [if_neg h, if_neg h]
      have ih := findD a D (i + 1)
      cases hf : findM (mapE D) a (i + 1) with
      | none => rw [hf] at ih; exact congrArg _ ih
      | some p =>
        obtain ⟨j, v⟩ := p
        rw [hf] at ih
        obtain ⟨n, h1, h2⟩ := ih
        exact ⟨n + 1, by omega, by rw [List.eraseIdx_cons_succ, h2]; rfl⟩
theorem MapK.drop {w : World} {b : Nat} {D : List (Int × Nat)} (h : MapK fI w b (mapE D)) (a : Int) (ty : TypeId) :
    ∃ w', RunsTo Try.prog (Builtin.delete_ #[30, 3] ty #[.map (some b), .int .i64 a]) w (.tuple #[]) w' ∧ MapK fI w' b (mapE (delD D a)) ∧ Fr (fun k => k = b) w w' := by
  obtain ⟨es, clock, hb, he⟩ := h
  have ht : und Try.prog 30 = some (.map 3 3) := by kernel_rfl
  have hf := findNow_M keyI a es.toList (mapE D) 0 he
  have hc : (Instr.checkKey es.isEmpty 10000 3 (fI a)).run Try.prog w = .ok () w := MapKept.run_checkKey (und_underlying keyI.und) (keyI.key a) _ 9999
  have frame : ∀ o : Obj, Fr (fun k => k = b) w { w with heap := w.heap.setIfInBounds b o } := fun o => ⟨rfl, rfl, rfl, by simp, fun k _ hn => (MapKept.heap_set hb (o' := o)).2 k hn⟩
  have hd := findD a D 0
  cases hr : findM (mapE D) a 0 with
  | none =>
    rw [hr] at hf hd
    refine ⟨{ w with heap := w.heap.setIfInBounds b (.map es clock) }, ?_, ⟨es, clock, (MapKept.heap_set hb).1, by rw [hd]; exact he⟩, frame _⟩
    simp [RunsTo, Builtin.delete_, run_underlying (und_underlying ht), MapKept.run_getObj_map hb, hc, MapKept.run_findKey (und_underlying keyI.und) hf, MapKept.run_setObj_map _ hb, Result.andThen]
  | some p =>
    obtain ⟨j, u⟩ := p
    rw [hr] at hf hd
    obtain ⟨n, h1, h2⟩ := hd
    obtain rfl : j = n := by omega
    refine ⟨{ w with heap := w.heap.setIfInBounds b (.map (es.eraseIdxIfInBounds j) clock) }, ?_, ⟨_, clock, (MapKept.heap_set hb).1, ?_⟩, frame _⟩
    · simp [RunsTo, Builtin.delete_, run_underlying (und_underlying ht), MapKept.run_getObj_map hb, hc, MapKept.run_findKey (und_underlying keyI.und) hf, MapKept.run_setObj_map _ hb, Result.andThen]
    · rw [← h2, Array.toList_eraseIdxIfInBounds, mapErase, he, mapErase]
/-! ## an entry goes -/
theorem sDelete {R M : Nat → Prop} {w : World} {g : Nat} {A : Ar} (h : Ar1 R M w g A) {H : Nat} {es : Es} (S : Sole A H es) {key : Key} {Ω : Nat → Prop} {KA : Option Addr} (hKA : Imm KB Ω w KA key) (kc : Nat) :
    CallsV Try.prog 29 #[.pointer (some ⟨g, 0, none⟩), .int .i64 1, .slice KA key.length kc] w fun r w' => r = .tuple #[.bool (inE key es), .int .i64 0] ∧ ∃ A' R' M' H', Ar1 R' M' w' g A' ∧ Chg R M w R' M' w' ∧ A'.fan = A.fan ∧ A'.most = A.most ∧ Sole A' H' (delE key es) := by
  obtain ⟨i, ps, Q, h1, h2, h3, h4, h5⟩ := S.at_
  refine (Delete_spec h h1 h2 hKA kc).mono ?_
  rintro _ w' ⟨rfl, R', M', h6, c⟩
  refine ⟨rfl, ?_⟩
  cases hin : inE key es with
  | false =>
    rw [hin] at h6
    have hd : delE key es = es := del_no (by rw [← inE_has]; exact hin)
    exact ⟨A, R', M', H, h6, c, rfl, rfl, by rw [hd]; exact S⟩
  | true =>
    rw [hin] at h6
    simp only [if_true] at h6
    obtain ⟨hl, i', ps', hI⟩ := S
    have e1 := hI.get (d := ⟨1, i', H, es, ps'⟩) (by simp)
    have : i' = i := by have := e1.symm.trans h1; simpa using this
    subst this
    obtain ⟨h', ps2, h8⟩ := Inv.del (D1 := []) (D2 := []) hI hin
    have m := (delTop_ok h2.tree h2.acc h2.f1 hin).choose_spec.choose_spec.1
    exact ⟨_, R', M', h', h6, c, m.fan, m.most, by rw [m.last]; exact hl, i', ps2, h8⟩
theorem Both.gone {w0 : World} {R M R' M' : Nat → Prop} {u u' : World} {g : Nat} {A A' : Ar} {H H' : Nat} {es : Es} {mb : Nat} {D : List (Int × Nat)} (h : Both w0 R M u g A H es mb D) (h' : Ar1 R' M' u' g A') (c : Chg R M u R' M' u') {n : Nat} (hn : n < 65536) (S : Sole A' H' (delE (keyN n) es)) (ty : TypeId) :
    ∃ v, RunsTo Try.prog (Builtin.delete_ #[30, 3] ty #[.map (some mb), .int .i64 (n : Int)]) u' (.tuple #[]) v ∧ Both w0 R' M' v g A' H' (delE (keyN n) es) mb (delD D (n : Int)) := by
  have hs' := h.hs.chg h' c
  have hmu := h.map.keep c.fr fun hm => h.off (h.hs.ar.mr _ hm)
  have hoff := c.off h.map.lt h.off
  obtain ⟨v, r, m, f⟩ := MapK.drop hmu (n : Int) ty
  exact ⟨v, r, hs'.frame f fun k e => e ▸ ⟨hoff, h.ge⟩, S, m, hoff, h.ge, h.rel.del h.sole.upE hn⟩
theorem Both.goneF {w0 : World} {R M R' M' : Nat → Prop} {u u' : World} {g : Nat} {A A' : Ar} {H H' : Nat} {es : Es} {mb : Nat} {D : List (Int × Nat)} (h : Both w0 R M u g A H es mb D) (h' : Ar1 R' M' u' g A') (c : Chg R M u R' M' u') {n : Nat} (hn : n < 65536) (S : Sole A' H' (delE (keyN n) es)) (ty : TypeId) :
    ∃ v, RunsTo Try.prog (Builtin.delete_ #[30, 3] ty #[.map (some mb), .int .i64 (n : Int)]) u' (.tuple #[]) v ∧ Both w0 R' M' v g A' H' (delE (keyN n) es) mb (delD D (n : Int)) ∧ Fr (fun k => k = mb) u' v := by
  have hs' := h.hs.chg h' c
  have hmu := h.map.keep c.fr fun hm => h.off (h.hs.ar.mr _ hm)
  have hoff := c.off h.map.lt h.off
  obtain ⟨v, r, m, f⟩ := MapK.drop hmu (n : Int) ty
  exact ⟨v, r, ⟨hs'.frame f fun k e => e ▸ ⟨hoff, h.ge⟩, S, m, hoff, h.ge, h.rel.del h.sole.upE hn⟩, f⟩
def pickF (x n : Int) : Nat := (if x.tmod n < 0 then x.tmod n + n else x.tmod n).toNat
theorem pickF_lt (x n : Int) (h1 : 1 ≤ n) : (pickF x n : Int) < n := by
  have a1 := Int.lt_tmod_of_pos x (show 0 < n by omega)
  have a2 := Int.tmod_lt_of_pos x (show 0 < n by omega)
  unfold pickF
  split <;> omega
theorem PickF_spec (w : World) (x n : Int) (h1 : 1 ≤ n) (h2 : n ≤ 9223372036854775807) :
    CallsV Try.prog 12 #[.int .i64 x, .int .i64 n] w fun r w' => r = iv (pickF x n) ∧ w' = w := by
  refine cardindexlow_Pick.calls okay ?_
  unfold cardindexlow_Pick.W pickF
  have a1 := Int.lt_tmod_of_pos x (show 0 < n by omega)
  have a2 := Int.tmod_lt_of_pos x (show 0 < n by omega)
  refine brd (fun h => ⟨by omega, brd (fun h => ?_) (fun h => ?_)⟩) (fun h => by omega)
  · rw [wi _ (by omega) (by omega), if_pos h]
    exact ⟨by show Value.int .i64 _ = .int .i64 _; congr 1; omega, rfl⟩
  · rw [if_neg h]
    exact ⟨by show Value.int .i64 _ = .int .i64 _; congr 1; omega, rfl⟩
/-! ## grown -/
set_option maxRecDepth 100000 in
set_option maxHeartbeats 400000 in
theorem grown_spec {Ω : Nat → Prop} {w : World} (fan : Int) {LA : Option Addr} {lc : Nat} {l : List Int} (hl : Imm KI Ω w LA l) :
    CallsV Try.prog 27 #[.int .i64 fan, .slice LA l.length lc] w fun r w' => ∃ g A H es R M mb D, r = .tuple #[.pointer (some ⟨g, 0, none⟩), .map (some mb), .bool true] ∧ Both w R M w' g A H es mb D ∧ A.fan = 4 + pickF fan 61 ∧ A.most = 65536 ∧ es.length ≤ 300 := by
  refine cardindexlaw04_grown.calls okay ?_
  unfold cardindexlaw04_grown.W
  refine (PickF_spec w fan 61 (by decide) (by decide)).same ⟨_, rfl, ?_⟩
  have hb := pickF_lt fan 61 (by decide)
  generalize pickF fan 61 = b at *
  rw [wi (4 + (b : Int)) (by omega) (by omega), show (4 : Int) + (b : Int) = ((4 + b : Nat) : Int) by omega]
  refine (sNew w (4 + b) 65536 (by omega) (by omega) (by omega) (by omega)).mono ?_
  rintro _ w1 ⟨g, R, M, rfl, _, _, _, hcr⟩
  refine ⟨_, _, rfl, hcr.mono ?_⟩
  rintro _ w2 ⟨rfl, R2, M2, h2, e2, hR2⟩
  have S2 := (sole_new (fan := 4 + b) (most := 65536) (by omega) (by omega) (by omega) (by omega)).2
  refine ⟨_, _, rfl, _, _, makeMap_run _ _, ?_⟩
  generalize hw3 : w2.alloc (.map #[] 0) = w3
  have e3 : Ext w2 w3 := by rw [← hw3]; exact Fr.alloc NoB w2 _
  have hm3 : MapK fI w3 w2.heap.size (mapE []) := by rw [← hw3]; exact ⟨#[], 0, Go.heap_alloc_new w2 _, rfl⟩
  have B3 : Both w R2 M2 w3 g (mkT (A0 (4 + b) 65536)) 1 [] w2.heap.size [] := ⟨⟨h2.ext e3, e2.trans' e3, hR2⟩, S2, hm3, fun h => by have := h2.lt _ h; omega, e2.size, .nil⟩
  refine brn (fun h => absurd rfl h) fun _ => brn (fun h => absurd rfl h) fun _ => brn (fun h => absurd rfl h) fun _ => ?_
  refine ⟨fun x u => ∃ j : Nat, j ≤ l.length ∧ j ≤ 300 ∧ x = (j : Int) ∧ ∃ A H es R M D, Both w R M u g A H es w2.heap.size D ∧ A.fan = 4 + b ∧ A.most = 65536 ∧ es.length ≤ j, fun x _ => (300 - x).toNat, ⟨0, by omega, by omega, rfl, _, _, _, _, _, _, B3, rfl, rfl, by simp⟩, ?_⟩
  rintro _ u ⟨j, hj, hj3, rfl, A, H, es, R, M, D, hB, hfan, hm, hlen⟩
  have fin : ∃ g' A H es R M mb D, (Value.tuple #[.pointer (some ⟨g, 0, none⟩), .map (some w2.heap.size), .bool true]) = .tuple #[.pointer (some ⟨g', 0, none⟩), .map (some mb), .bool true] ∧ Both w R M u g' A H es mb D ∧ A.fan = 4 + b ∧ A.most = 65536 ∧ es.length ≤ 300 := ⟨g, A, H, es, R, M, _, D, rfl, hB, hfan, hm, by omega⟩
  refine brd (fun hlt => brd (fun hlt3 => ?_) (fun _ => fin)) (fun _ => fin)
  obtain ⟨ad, x, hA, hc⟩ := itemI (hl.ext KI_pos hB.hs.e) (j := j) (by omega)
  refine ⟨ad, hA, ⟨by omega, by omega⟩, x, by rw [Int.toNat_natCast]; exact hc, (Pick_spec u x 1000 (by decide) (by decide)).mono ?_⟩
  rintro _ u0 ⟨n, rfl, hn, hu0⟩
  obtain rfl : u = u0 := hu0.symm
  refine ⟨_, rfl, (key_spec u n (by omega)).mono ?_⟩
  rintro _ u3 ⟨KA, rfl, oK, e3', _⟩
  have hB := hB.ext e3'
  refine ⟨_, _, _, rfl, (key_spec u3 j (by omega)).mono ?_⟩
  rintro _ u4 ⟨VA, rfl, oV, e4', _⟩
  have hB := hB.ext e4'
  refine ⟨_, _, _, rfl, (sPut hB.hs.ar hB.sole (oK.ext e4').imm0 oV.imm0 2 2 (show 2 ≤ 1048576 by decide) (show 2 ≤ 1048576 by decide)).mono ?_⟩
  rintro _ u5 ⟨A', R', M', full, h', c, hf', hm', rfl, hfull, hnot⟩
  have hup := hB.sole.up
  have : full = false := by
    cases full with
    | false => rfl
    | true => have := (hfull rfl).2.2; omega
  subst this
  obtain ⟨H', S'⟩ := hnot rfl
  have hBl : Both w R M u4 g A H es w2.heap.size D := hB
  have hmu := hB.map.keep c.fr fun hm => hB.off (hB.hs.ar.mr _ hm)
  have hlk := (hmu.look (P := Try.prog) keyI (t := 30) (kt := 3) (et := 3) (by kernel_rfl) (n : Int) (z := .int .i64 0) zeroI).1
  rw [getT_M] at hlk
  obtain ⟨x0, hx0⟩ : ∃ x, RunsTo Try.prog (Instr.lookup 30 (.map (some w2.heap.size)) (.int .i64 (n : Int)) true) u5 (.tuple #[.int .i64 x, .bool (getT D (n : Int)).isSome]) u5 := by
    cases hg : getT D (n : Int) with
    | none => rw [hg] at hlk; exact ⟨_, hlk⟩
    | some i => rw [hg] at hlk; exact ⟨_, hlk⟩
  obtain ⟨v, hr, hB'⟩ := hB.told h' c (n := n) (i := j) (by omega) (by omega) S'
  refine ⟨_, _, rfl, _, _, _, hx0, brn (fun h => absurd rfl h) fun _ => brn (fun h => absurd (by simp [hB.rel.has hB.sole.upE (n := n) (by omega)]) h) fun _ => ⟨v, hr, ?_⟩⟩
  have := len_insE_le (keyN n) (keyN j) es
  rw [wi _ (by omega) (by omega)]
  exact ⟨⟨j + 1, by omega, by omega, by omega, A', H', _, _, _, _, hB', hf'.trans hfan, hm'.trans hm, by omega⟩, by dsimp only; omega⟩
end Go.Proofs.Ytadlhdiejmilmaa
/- Layer 4: TreeShape. -/
set_option linter.unusedVariables false
set_option linter.unusedSimpArgs false
namespace Go.Proofs.Ytadlhdiejmilmaa
open Go Go.Sx T4
/-- an arena grown: what a loop over it keeps -/
def Gn (w0 u : World) (g mb fan : Nat) : Prop := ∃ A H es R M D, Both w0 R M u g A H es mb D ∧ A.fan = fan ∧ A.most = 65536 ∧ es.length ≤ 300
theorem Gn.ext {w0 u u' : World} {g mb fan : Nat} (h : Gn w0 u g mb fan) (e : Ext u u') : Gn w0 u' g mb fan := by
  obtain ⟨A, H, es, R, M, D, h1, h2, h3, h4⟩ := h; exact ⟨A, H, es, R, M, D, h1.ext e, h2, h3, h4⟩
theorem Gn.at_ {w0 u : World} {g mb fan : Nat} (h : Gn w0 u g mb fan) : Ext w0 u := by obtain ⟨_, _, _, _, _, _, h, _⟩ := h; exact h.hs.e
/-- gone through, and the examples -/
theorem Gn.walksAwake {w0 u : World} {g mb fan : Nat} (h : Gn w0 u g mb fan) : CallsV Try.prog 20 #[.pointer (some ⟨g, 0, none⟩), .map (some mb)] u fun v w' => ∃ x, v = .bool x ∧ bif x then CallsV Try.prog 21 #[] w' fun v w' => ∃ x, v = .bool x ∧ ((fun r w' => r = Value.bool true ∧ Ext w0 w') (.bool x) w') else ((fun r w' => r = Value.bool true ∧ Ext w0 w') (.bool false) w') := by
  obtain ⟨A, H, es, R, M, D, hB, _, _, hl⟩ := h
  refine (hB.walks (by omega)).mono ?_
  rintro _ u1 ⟨rfl, e1⟩
  refine ⟨true, rfl, (awake_spec u1).mono ?_⟩
  rintro _ u2 ⟨rfl, e2⟩
  exact ⟨true, rfl, rfl, (hB.hs.e.trans' e1).trans' e2⟩
theorem delE_le (key : Key) (es : Es) : (delE key es).length ≤ es.length := by have := len_delE key es; omega
set_option maxRecDepth 100000 in
set_option maxHeartbeats 1000000 in
theorem TreeShape_spec {Ω Ω' : Nat → Prop} {w : World} (fan : Int) {LA OA : Option Addr} {lc oc : Nat} {l out : List Int} (hl : Imm KI Ω w LA l) (ho : Imm KI Ω' w OA out) :
    CallsV Try.prog 5 #[.int .i64 fan, .slice LA l.length lc, .slice OA out.length oc] w fun r w' => r = .bool true ∧ Ext w w' := by
  refine cardindexlaw04_TreeShape.calls okay ?_
  unfold cardindexlaw04_TreeShape.W
  refine (grown_spec fan hl).mono ?_
  rintro _ w1 ⟨g, A, H, es, R, M, mb, D, rfl, hB, hf, hm, hlen⟩
  refine ⟨_, _, _, rfl, brnb (fun h => by cases h) fun _ => (hB.walks (by omega)).mono ?_⟩
  rintro _ w2 ⟨rfl, e2⟩
  refine ⟨_, rfl, brnb (fun h => by cases h) fun _ => (PickF_spec w2 fan 61 (by decide) (by decide)).same ⟨_, rfl, by decide, ?_⟩⟩
  have hb := pickF_lt fan 61 (by decide)
  generalize pickF fan 61 = b at *
  have e4 : IntKind.i64.wrap (Int.tdiv (IntKind.i64.wrap (4 + ((b : Nat) : Int))) 2) = (((4 + b) / 2 : Nat) : Int) := by
    rw [wi (4 + (b : Int)) (by omega) (by omega), Int.tdiv_eq_ediv_of_nonneg (by omega), wi _ (by omega) (by omega)]; omega
  rw [e4]
  have hG : Gn w w2 g mb (4 + b) := ⟨A, H, es, R, M, D, hB.ext e2, hf, hm, hlen⟩
  clear hB hf hm hlen A H es R M D
  refine ⟨fun x u => ∃ j : Nat, j ≤ 301 ∧ x = (j : Int) ∧ Gn w u g mb (4 + b), fun x _ => (301 - x).toNat, ⟨0, by omega, rfl, hG⟩, ?_⟩
  rintro _ u ⟨j, hj, rfl, hG⟩
  refine brd (fun hlt => brd (fun hlt3 => ?_) (fun _ => hG.walksAwake)) (fun _ => hG.walksAwake)
  refine ⟨fun v => Gn w v g mb (4 + b), ?_, ?_⟩
  · intro v hv
    rw [wi _ (by omega) (by omega)]
    exact ⟨⟨j + 1, by omega, by omega, hv⟩, by dsimp only; omega⟩
  obtain ⟨A, H, es, R, M, D, hB, hf, hm, hlen⟩ := hG
  have hup := hB.sole.up
  rw [hf] at hup
  obtain ⟨u1, u2, u3, u4⟩ := hup
  have hpow : ∀ d, d < H → 2 * ((4 + b) / 2) ^ d ≤ 300 := fun d hd => by
    rcases Nat.lt_or_ge 1 H with h1 | h1
    · have h5 := u4 h1
      have h6 : ((4 + b) / 2) ^ d ≤ ((4 + b) / 2) ^ (H - 1) := Nat.pow_le_pow_right (by omega) (by omega)
      omega
    · obtain rfl : d = 0 := by omega
      simp
  refine ⟨fun a d v => ∃ dn : Nat, 1 ≤ dn ∧ dn ≤ H ∧ d = (dn : Int) ∧ a = ((2 * ((4 + b) / 2) ^ (dn - 1) : Nat) : Int) ∧ Ext u v, fun _ d _ => (H - d).toNat, ⟨1, by omega, by omega, rfl, by simp, .refl _ _⟩, ?_⟩
  rintro _ _ v ⟨dn, hd1, hd2, rfl, rfl, ev⟩
  have hB := hB.ext ev
  refine (sDeep hB.hs.ar hB.sole).mono ?_
  rintro _ v1 ⟨rfl, ev1⟩
  have hB := hB.ext ev1
  refine ⟨_, rfl, brd (fun hlt2 => ?_) (fun hge => ?_)⟩
  · have hp := hpow dn (by omega)
    have e5 : 2 * ((4 + b) / 2) ^ (dn - 1) * ((4 + b) / 2) = 2 * ((4 + b) / 2) ^ dn := by
      obtain ⟨d, rfl⟩ : ∃ d, dn = d + 1 := ⟨dn - 1, by omega⟩
      rw [Nat.add_sub_cancel, Nat.pow_succ, Nat.mul_assoc]
    rw [← Int.natCast_mul, e5, wi ((2 * ((4 + b) / 2) ^ dn : Nat) : Int) (by omega) (by omega), wi _ (by omega) (by omega)]
    exact ⟨⟨dn + 1, by omega, by omega, by omega, by rw [Nat.add_sub_cancel], ev.trans' ev1⟩, by dsimp only; omega⟩
  · obtain rfl : dn = H := by omega
    obtain ⟨_, _, _, _, _, hm64, hle, _⟩ := hB.sole.at_
    refine ⟨fun v => Gn w v g mb (4 + b), ?_, ?_⟩
    · intro v2 hG2
      refine brd (fun hlt2 => brd (fun hlt4 => ?_) (fun _ => hG2)) (fun _ => hG2)
      obtain ⟨A, H, es, R, M, D, hB, hf, hm, hlen⟩ := hG2
      obtain ⟨ad, x, hA, hc⟩ := itemI (ho.ext KI_pos hB.hs.e) (j := j) (by omega)
      refine ⟨ad, hA, ⟨by omega, by omega⟩, x, by rw [Int.toNat_natCast]; exact hc, (Pick_spec v2 x 1000 (by decide) (by decide)).mono ?_⟩
      rintro _ v3 ⟨n, rfl, hn, hv3⟩
      obtain rfl : v2 = v3 := hv3.symm
      refine ⟨_, rfl, (key_spec v2 n (by omega)).mono ?_⟩
      rintro _ v3 ⟨KA, rfl, oK, e3', _⟩
      have hB := hB.ext e3'
      refine ⟨_, _, _, rfl, (sDelete hB.hs.ar hB.sole oK.imm0 2).mono ?_⟩
      rintro _ v4 ⟨rfl, A', R', M', H', h', c, hf', hm', S'⟩
      have hmu := hB.map.keep c.fr fun hm => hB.off (hB.hs.ar.mr _ hm)
      have hlk := (hmu.look (P := Try.prog) keyI (t := 30) (kt := 3) (et := 3) (by kernel_rfl) (n : Int) (z := .int .i64 0) zeroI).1
      rw [getT_M] at hlk
      obtain ⟨x0, hx0⟩ : ∃ x, RunsTo Try.prog (Instr.lookup 30 (.map (some mb)) (.int .i64 (n : Int)) true) v4 (.tuple #[.int .i64 x, .bool (getT D (n : Int)).isSome]) v4 := by
        cases hg : getT D (n : Int) with
        | none => rw [hg] at hlk; exact ⟨_, hlk⟩
        | some i => rw [hg] at hlk; exact ⟨_, hlk⟩
      obtain ⟨v5, hr, hB'⟩ := hB.gone h' c (n := n) (by omega) S' 0
      refine ⟨_, _, rfl, _, _, _, hx0, brn (fun h => absurd rfl h) fun _ => brn (fun h => absurd (hB.rel.has hB.sole.upE (n := n) (by omega)) h) fun _ => ⟨v5, hr, ?_⟩⟩
      have := delE_le (keyN n) es
      exact ⟨A', H', _, R', M', _, hB', hf'.trans hf, hm'.trans hm, by omega⟩
    · have gn : ∀ {v2}, Ext v1 v2 → Gn w v2 g mb (4 + b) := fun e => ⟨A, dn, es, R, M, D, hB.ext e, hf, hm, hlen⟩
      refine (sCheck hB.hs.ar hB.sole).mono ?_
      rintro _ v2 ⟨rfl, ev2⟩
      have hB2 := hB.ext ev2
      refine ⟨_, rfl, brn (fun h => absurd rfl h) fun _ => (sDeep hB2.hs.ar hB2.sole).mono ?_⟩
      rintro _ v3 ⟨rfl, ev3⟩
      have hB3 := hB2.ext ev3
      refine ⟨_, rfl, brd (fun h => by omega) fun _ => (sDeep hB3.hs.ar hB3.sole).mono ?_⟩
      rintro _ v4 ⟨rfl, ev4⟩
      have hB4 := hB3.ext ev4
      -- how many nodes
      have last : ∀ {v5}, Ext v1 v5 → CallsV Try.prog 15 #[.pointer (some ⟨g, 0, none⟩)] v5 fun v w' => ∃ x_13, v = .int .i64 x_13 ∧ CallsV Try.prog 28 #[.pointer (some ⟨g, 0, none⟩), .int .i64 1] w' fun v w' => ∃ x, v = .int .i64 x ∧ bif decide (IntKind.i64.wrap (1 + IntKind.i64.wrap (2 * x)) < x_13) then ((fun r w' => r = Value.bool true ∧ Ext w w') (.bool false) w') else Gn w w' g mb (4 + b) := by
        intro v5 e5
        have hB5 := hB.ext e5
        refine (sNodes hB5.hs.ar hB5.sole).mono ?_
        rintro _ _ ⟨rfl, rfl⟩
        have hB6 := hB5.ext (Fr.drew NoB v5)
        refine ⟨_, rfl, (sLen hB6.hs.ar hB6.sole).mono ?_⟩
        rintro _ v7 ⟨rfl, ev7⟩
        refine ⟨_, rfl, ?_⟩
        rw [wi (2 * (es.length : Int)) (by omega) (by omega), wi _ (by omega) (by omega)]
        exact brd (fun h => by omega) fun _ => gn ((e5.ext (Fr.drew NoB v5)).ext ev7)
      refine ⟨_, rfl, brd (fun h1 => ?_) fun _ => last ((ev2.trans' ev3).trans' ev4)⟩
      refine (sLen hB4.hs.ar hB4.sole).mono ?_
      rintro _ v5 ⟨rfl, ev5⟩
      have := u4 (by omega)
      refine ⟨_, rfl, brd (fun h => by omega) fun _ => last (((ev2.trans' ev3).trans' ev4).trans' ev5)⟩
end Go.Proofs.Ytadlhdiejmilmaa
/- Layer 4: TreeEmpties. -/
set_option linter.unusedVariables false
set_option linter.unusedSimpArgs false
namespace Go.Proofs.Ytadlhdiejmilmaa
open Go Go.Sx T4
theorem cell_map {w : World} {b : Nat} {es : Array MapEntry} {c : Nat} (h : w.heap[b]? = some (.map es c)) {a : Addr} {v : Value} (hc : w.cell? a = some v) : a.block ≠ b := by
  rintro rfl
  simp [World.cell?, h] at hc
abbrev KO : Kd Bool := Kd.bool
theorem itemO {Ω : Nat → Prop} {w : World} {A : Option Addr} {l : List Bool} (h : Imm Kd.bool Ω w A l) {j : Nat} (hj : j < l.length) : ∃ ad x, A = some ad ∧ w.cell? (ad.add (j * 1)) = some (.bool x) := by
  obtain ⟨ad, hA, _, cs, hr, hv⟩ := h j l[j] (List.getElem?_eq_getElem hj)
  exact ⟨ad, l[j], hA, hv 0 _ (by rw [show cs = [.bool l[j]] from hr]; rfl)⟩
/-- the two bytes of a number's key -/
theorem keyCells {Ω : Nat → Prop} {w : World} {A : Option Addr} {n : Nat} (h : Imm KB Ω w A (keyN n)) (hn : n < 65536) : ∃ (ad : Addr) (x y : Int), A = some ad ∧ w.cell? (ad.add (Int.toNat 0 * 1)) = some (.int .u8 x) ∧ w.cell? (ad.add (Int.toNat 1 * 1)) = some (.int .u8 y) ∧ IntKind.i64.wrap (IntKind.i64.wrap (256 * IntKind.i64.wrap x) + IntKind.i64.wrap y) = (n : Int) := by
  obtain ⟨ad, hA, _, cs0, hr0, hv0⟩ := h 0 (UInt8.ofNat (n / 256)) rfl
  obtain ⟨ad1, hA1, _, cs1, hr1, hv1⟩ := h 1 (UInt8.ofNat n) rfl
  rw [hA] at hA1; cases hA1
  refine ⟨ad, _, _, hA, hv0 0 (u8 (UInt8.ofNat (n / 256))) (by rw [show cs0 = [u8 (UInt8.ofNat (n / 256))] from hr0]; rfl), hv1 0 (u8 (UInt8.ofNat n)) (by rw [show cs1 = [u8 (UInt8.ofNat n)] from hr1]; rfl), ?_⟩
  have a1 : (((UInt8.ofNat (n / 256)).toNat : Nat) : Int) = ((n / 256 : Nat) : Int) := by simp only [UInt8.toNat_ofNat']; omega
  have a2 : (((UInt8.ofNat n).toNat : Nat) : Int) = ((n % 256 : Nat) : Int) := by simp only [UInt8.toNat_ofNat']
  rw [a1, a2, wi ((n / 256 : Nat) : Int) (by omega) (by omega), wi (256 * _) (by omega) (by omega), wi ((n % 256 : Nat) : Int) (by omega) (by omega), wi _ (by omega) (by omega)]
  omega
theorem bare {A : Ar} {H : Nat} (S : Sole A H []) : H = 1 ∧ A.nodes = 1 := by
  obtain ⟨h1, h2, h3, h4⟩ := S.up
  have hf := S.f1
  have : H = 1 := by
    refine Classical.byContradiction fun hne => ?_
    have h5 := h4 (by omega)
    have h6 : 1 ≤ (A.fan / 2) ^ (H - 1) := Nat.one_le_pow _ _ (by omega)
    simp at h5; omega
  simp at h1
  omega
set_option maxRecDepth 100000 in
set_option maxHeartbeats 1000000 in
theorem TreeEmpties_spec {Ω Ω' : Nat → Prop} {w : World} (fan : Int) {LA EA : Option Addr} {lc ec : Nat} {l : List Int} {ends : List Bool} (hl : Imm KI Ω w LA l) (ho : Imm Kd.bool Ω' w EA ends) :
    CallsV Try.prog 6 #[.int .i64 fan, .slice LA l.length lc, .slice EA ends.length ec] w fun r w' => r = .bool true ∧ Ext w w' := by
  refine cardindexlaw04_TreeEmpties.calls okay ?_
  unfold cardindexlaw04_TreeEmpties.W
  refine (grown_spec fan hl).mono ?_
  rintro _ w1 ⟨g, A, H, es, R, M, mb, D, rfl, hB, _, _, hlen⟩
  refine ⟨_, _, _, rfl, brnb (fun h => by cases h) fun _ => ?_⟩
  refine ⟨fun x u => ∃ j : Nat, x = (j : Int) ∧ ∃ A H es R M D, Both w R M u g A H es mb D ∧ es.length + j ≤ 300, fun x _ => (300 - x).toNat, ⟨0, rfl, A, H, es, R, M, D, hB, by omega⟩, ?_⟩
  rintro _ u ⟨j, rfl, A, H, es, R, M, D, hB, hlen⟩
  refine ⟨_, u, maplen hB.map _, brd (fun hpos => ?_) (fun hz => ?_)⟩
  · have hpos : 0 < es.length := by have := hB.rel.len; omega
    have hu := hB.sole.upE
    have hRu' := hB.hs.ar.lt
    have hmu' := hB.map.lt
    refine (sAfter hB.hs.ar hB.sole (key := []) (Imm.nil KB NoB u none) 0 true).mono ?_
    rintro _ u1 ⟨ht, e1⟩
    have hB := hB.ext e1
    obtain ⟨p, hp⟩ : ∃ p, es[0]? = some p := ⟨_, List.getElem?_eq_getElem hpos⟩
    rw [aft_first, hp] at ht
    obtain ⟨k0, v0⟩ := p
    obtain ⟨kA, kc, vA, vc, rfl, oA, oB, nA, nB, _⟩ := ht
    refine ⟨_, _, _, _, _, _, _, rfl, ?_⟩
    have hRu := hB.hs.ar.lt
    have hmu := hB.map.lt
    refine ⟨fun kA kn kc ok v => ∃ p : Key × Key, p ∈ es ∧ ok = true ∧ kn = p.1.length ∧ OwnB v kA kc p.1 ∧ (∀ b, ownB kA b → ¬ R b ∧ b ≠ mb) ∧ Ext u1 v, ?_, ?_⟩
    · rintro kA kn kc ok v ⟨p, hmem, rfl, rfl, hk, hoff, ev⟩
      have hB := hB.ext ev
      obtain ⟨n, i, hn, hi, hp, hgt⟩ := hB.rel.a p hmem
      have hp1 : p.1 = keyN n := by rw [hp]
      have hin : inE (keyN n) es = true := (inE_mem hu).2 ⟨p.2, by rw [← hp1]; exact hmem⟩
      rw [hp1] at hk ⊢
      refine (sDelete hB.hs.ar hB.sole hk.imm0 kc).mono ?_
      rintro _ v1 ⟨rfl, A', R', M', H', h', c, _, _, S'⟩
      rw [hin]
      refine ⟨_, _, rfl, brnb (fun h => by cases h) fun _ => brn (fun h => absurd rfl h) fun _ => brnb (fun h => by cases h) fun _ => brn (fun h => absurd rfl h) fun _ => ?_⟩
      refine (sCheck h' S').mono ?_
      rintro _ v2 ⟨rfl, ev2⟩
      have ed : Ext v2 v2.drew := Fr.drew NoB v2
      have hk1 : OwnB v1 kA kc (keyN n) := hk.keep c.fr fun b hb hm => (hoff b hb).1 (hB.hs.ar.mr b hm)
      obtain ⟨ad, x, y, hA, hc0, hc1, hxy⟩ := keyCells ((hk1.ext ev2).ext ed).imm0 hn
      obtain ⟨v3, hr, hB3, hf3⟩ := hB.goneF (h'.ext (ev2.trans' ed)) (c.trans (Chg.ext (ev2.trans' ed))) hn S' 0
      have hne : ad.block ≠ mb := (hoff ad.block ⟨ad, hA, rfl⟩).2
      refine ⟨_, rfl, brn (fun h => absurd rfl h) fun _ => ⟨ad, hA, ⟨by omega, by show (0 : Int) < ((2 : Nat) : Int); omega⟩, fun z => z.cell? (ad.add (Int.toNat 0 * 1)) = some (.int .u8 x) ∧ z.cell? (ad.add (Int.toNat 1 * 1)) = some (.int .u8 y), ⟨hc0, hc1⟩, x, fun z hz => hz.1, ad, hA, ⟨by omega, by show (1 : Int) < ((2 : Nat) : Int); omega⟩, y, fun z hz => hz.2, v3, by rw [hxy]; exact hr, ⟨hf3.cell (by rw [add_block]; exact hne) hc0, hf3.cell (by rw [add_block]; exact hne) hc1⟩, ?_⟩⟩
      refine (sLen hB3.hs.ar hB3.sole).mono ?_
      rintro _ v4 ⟨rfl, ev4⟩
      have hB4 := hB3.ext ev4
      refine ⟨_, rfl, _, v4, maplen hB4.map _, brn (fun h => absurd (by rw [hB4.rel.len]) h) fun _ => ?_⟩
      have hd := len_delE (keyN n) es
      rw [hin] at hd
      simp only [if_true] at hd
      rw [wi _ (by omega) (by omega)]
      exact ⟨⟨j + 1, by omega, A', H', _, R', M', _, hB4, by omega⟩, by dsimp only; omega⟩
    · have hJ0 : ∃ p : Key × Key, p ∈ es ∧ true = true ∧ k0.length = p.1.length ∧ OwnB u1 kA kc p.1 ∧ (∀ b, ownB kA b → ¬ R b ∧ b ≠ mb) ∧ Ext u1 u1 := ⟨(k0, v0), List.mem_of_getElem? hp, rfl, rfl, oA, fun b hb => by have := nA b hb; exact ⟨fun h => by have := hRu' b h; omega, by omega⟩, .refl _ _⟩
      refine brd (fun hlt => ?_) (fun _ => hJ0)
      obtain ⟨ad, x, hA, hc⟩ := itemO (ho.ext (by decide) hB.hs.e) (j := j) (by omega)
      refine ⟨ad, hA, ⟨by omega, by omega⟩, x, by rw [Int.toNat_natCast]; exact hc, br (fun _ => ?_) (fun _ => hJ0)⟩
      refine (sLast hB.hs.ar hB.sole).mono ?_
      rintro _ u2 ⟨ht, e2⟩
      obtain ⟨p, hp⟩ : ∃ p, es.getLast? = some p := ⟨_, List.getLast?_eq_some_getLast (by intro e; rw [e] at hpos; simp at hpos)⟩
      rw [hp] at ht
      obtain ⟨k1, v1⟩ := p
      obtain ⟨kA2, kc2, vA2, vc2, rfl, oA2, oB2, nA2, nB2, _⟩ := ht
      exact ⟨_, _, _, _, _, _, _, rfl, (k1, v1), List.mem_of_getLast? hp, rfl, rfl, oA2, fun b hb => by have := nA2 b hb; exact ⟨fun h => by have := hRu b h; omega, by omega⟩, e2⟩
  · have hes : es = [] := List.eq_nil_of_length_eq_zero (by have := hB.rel.len; omega)
    subst hes
    obtain ⟨rfl, hn⟩ := bare hB.sole
    refine (sNodes hB.hs.ar hB.sole).mono ?_
    rintro _ _ ⟨rfl, rfl⟩
    have hB := hB.ext (Fr.drew NoB _)
    refine ⟨_, rfl, brd (fun _ => ?_) fun h => absurd (by rw [hn]; rfl) h⟩
    refine (sDeep hB.hs.ar hB.sole).mono ?_
    rintro _ u2 ⟨rfl, e2⟩
    have hB := hB.ext e2
    refine ⟨_, rfl, brd (fun _ => ?_) fun h => absurd rfl h⟩
    refine (sLen hB.hs.ar hB.sole).mono ?_
    rintro _ u3 ⟨rfl, e3⟩
    have hB := hB.ext e3
    refine ⟨_, rfl, brd (fun _ => ?_) fun h => absurd rfl h⟩
    refine (awake_spec u3).mono ?_
    rintro _ u4 ⟨rfl, e4⟩
    exact ⟨_, rfl, rfl, hB.hs.e.trans' e4⟩
end Go.Proofs.Ytadlhdiejmilmaa
