/- Part 7 of the texts of this claim: the engine, contracts, plain laws. -/
import Derived.Test.YthfagbfllheneaaZCNone5P6
import Derived.Test.YthfagbfllheneaaProg
import Derived.Test.YthfagbfllheneaaZCNone5P1
/- Layer 5: marks. -/
set_option linter.unusedVariables false
set_option linter.unusedSimpArgs false
namespace Go.Proofs.Ythfagbfllheneaa
open Go Go.Sx T4
section
variable {T : Nat → Prop} {u : World} {s : Nat} {q : Ab}
theorem StoA.setMarks {g : Nat} {R M : Nat → Prop} {IA : Option Addr} {ic : Nat} {X : Option Addr} {xc : Nat} {L : List Mk} {idl : List Int} (h : StoA T u s q g R M IA ic X xc L idl) {a : Mk} (g1 : Sv1 (Om R M) u a.sb g a.A) (g2 : Inv a.A a.D) (g3 : a.A.fan = q.A.fan) (g4 : a.A.most = q.A.most) (g5 : OwnK KI u a.MA a.mc (idsD a.D)) (hnew : ∀ k, ownB a.MA k → ¬ T k) (hl : L.length < 100) {u' : World} {X' : Option Addr} {xc' : Nat} (ho : OwnK KMk u' X' xc' (L ++ [a])) (gr : Grew X X' u u') :
    stOK ((⟨s, 0, none⟩ : Addr).add 2) 0 [.slice X' (L ++ [a]).length xc'] u' ∧ ∀ u2, u2 = setAll ((⟨s, 0, none⟩ : Addr).add 2) 0 [.slice X' (L ++ [a]).length xc'] u' →
      StoA (fun k => T k ∨ ownB X' k ∨ ownB a.MA k) u2 s ⟨q.A, q.D, q.ms ++ [(a.A, a.D)]⟩ g R M IA ic X' xc' (L ++ [a]) idl ∧ Fr T u u2 ∧ ∀ k, ownB X' k → T k ∨ u.heap.size ≤ k := by
  have bs := h.blk.keep gr.fr (fun hk => (h.xO _ hk).2.1 rfl)
  obtain ⟨p1, p2⟩ := setF bs (o := 2) (by simp) (.slice X' (L ++ [a]).length xc')
  refine ⟨p1, fun u2 hu => ?_⟩
  obtain ⟨b2, f2⟩ := p2 u2 hu
  have hsz := gr.fr.size
  have hsz2 := f2.size
  have f : Fr (fun k => ownB X k ∨ k = s) u u2 := (gr.fr.mono fun _ _ h => .inl h).trans f2 (fun _ _ h => h) (fun _ _ h => .inr h)
  have isT : ∀ k, ownB X k ∨ k = s → T k := fun k hk => hk.elim (h.xT k) fun e => e ▸ h.sT
  have notR : ∀ k, ownB X k ∨ k = s → ¬ R k := fun k hk => hk.elim (fun hk => (h.xO k hk).1) fun e => e ▸ h.sR
  have new : ∀ k, ownB X' k → ownB X k ∨ u.heap.size ≤ k := gr.sub
  have hsl := h.blk.lt
  have ma : ∀ k, ownB a.MA k → k < u.heap.size := g5.lt
  refine ⟨⟨h.ar.frame f fun k _ hk => notR k hk, h.inv, by simpa using b2, fun k hk => .inl (h.rT k hk), .inl h.sT, fun k hk => .inl (h.iT k hk), fun k hk => .inr (.inl hk), fun x hx k hk => ?_, fun k hk => ?_, h.sR, h.iO, fun k hk => ?_, fun x hx k hk => ?_, ?_, h.ids.fr f (fun k hk hk' => hk'.elim (fun hx => (h.xO k hx).2.2 hk) fun e => (h.iO k hk).2 e) (fun _ _ _ h => h), ho.fr f2 (fun k hk e => ?_) (fun _ _ _ h => h), fun x hx => ?_, by rw [List.map_append, h.ms]; rfl, by simp; omega⟩, f.mono fun k _ hk => isT k hk, fun k hk => (new k hk).imp (h.xT k) id⟩
  · rcases List.mem_append.1 hx with hx | hx
    · exact .inl (h.mT x hx k hk)
    · obtain rfl := List.mem_singleton.1 hx; exact .inr (.inr hk)
  · rcases hk with hk | hk | hk
    · have := h.tlt k hk; omega
    · have := ho.lt k hk; omega
    · have := ma k hk; omega
  · rcases new k hk with hk | hk
    · exact h.xO k hk
    · exact ⟨fun hr => by have := h.tlt k (h.rT k hr); omega, by omega, fun hi => by have := h.ids.lt k hi; omega⟩
  · rcases List.mem_append.1 hx with hx | hx
    · obtain ⟨m1, m2, m3, m4⟩ := h.mO x hx k hk
      refine ⟨m1, m2, m3, fun hX => ?_⟩
      rcases new k hX with hX | hX
      · exact m4 hX
      · have := h.tlt k (h.mT x hx k hk); omega
    · obtain rfl := List.mem_singleton.1 hx
      have hT := hnew k hk
      refine ⟨fun hr => hT (h.rT k hr), fun e => hT (e ▸ h.sT), fun hi => hT (h.iT k hi), fun hX => ?_⟩
      rcases new k hX with hX | hX
      · exact hT (h.xT k hX)
      · have := ma k hk; omega
  · refine List.pairwise_append.2 ⟨h.mD, List.pairwise_singleton _ _, fun x hx y hy k hk hk' => ?_⟩
    obtain rfl := List.mem_singleton.1 hy
    exact hnew k hk' (h.mT x hx k hk)
  · have e : k = s := e
    rcases new k hk with hk | hk
    · exact (h.xO k hk).2.1 e
    · omega
  · have st : Step (Om R M) u (Om R M) u2 := f.step (fun k _ hk => .inl (notR k hk)) (fun _ _ h => h)
    rcases List.mem_append.1 hx with hx | hx
    · obtain ⟨g1, g2, g3, g4, g5⟩ := h.good x hx
      exact ⟨g1.keep st, g2, g3, g4, g5.fr f (fun k hk hk' => hk'.elim (h.mO x hx k hk).2.2.2 fun e => (h.mO x hx k hk).2.1 e) (fun _ _ _ h => h)⟩
    · obtain rfl := List.mem_singleton.1 hx
      exact ⟨g1.keep st, g2, g3, g4, g5.fr f (fun k hk hk' => hnew k hk (isT k hk')) (fun _ _ _ h => h)⟩
theorem aMark (h : Sto T u s q) : CallsV Try.prog 18 #[.pointer (some ⟨s, 0, none⟩)] u fun r u' => (100 ≤ q.ms.length ∧ r = .tuple #[.int .i64 0, .int .i64 5] ∧ Ext u u') ∨ (q.ms.length < 100 ∧ r = .tuple #[iv (q.ms.length + 1), .int .i64 0] ∧ ∃ T', Sto T' u' s ⟨q.A, q.D, q.ms ++ [(q.A, q.D)]⟩ ∧ Tch T u T' u') := by
  obtain ⟨g, R, M, IA, ic, X, xc, L, h⟩ := h
  have hml : q.ms.length = L.length := by rw [← h.ms, List.length_map]
  refine undo_Store_Mark.calls okay ?_
  unfold undo_Store_Mark.W
  refine (smade_spec h).same ⟨_, rfl, brnb (fun h => by cases h) fun _ => ⟨_, rfl, _, _, _, h.blk.cell rfl, brd (fun hge => .inl ⟨by omega, rfl, .refl _ _⟩) fun hlt => ?_⟩⟩
  refine ⟨fun v => ∃ T' R' M' X' xc' a, StoA T' v s ⟨q.A, q.D, q.ms ++ [(q.A, q.D)]⟩ g R' M' IA ic X' xc' (L ++ [a]) (idsD q.D) ∧ Tch T u T' v, ?_, ?_⟩
  · rintro v ⟨T', R', M', X', xc', a, h', c⟩
    refine ⟨_, rfl, _, _, _, h'.blk.cell rfl, .inr ⟨by omega, ?_, T', ⟨g, R', M', IA, ic, X', xc', _, h'⟩, c⟩⟩
    rw [hml]; simp
  · have ed : Ext u u.drew := Fr.drew NoB u
    have h1 := h.ext ed
    refine ⟨_, rfl, fun v => Blk v s [.pointer (some ⟨g, 0, none⟩), .slice IA (idsD q.D).length ic, .slice X L.length xc], h1.blk, _, _, _, fun v hv => hv.cell rfl, _, rfl, _, fun v hv => hv.cell rfl, _, rfl, _, _, _, fun v hv => hv.cell rfl, (dSave h1.inv h1.ar).mono ?_⟩
    rintro _ u2 ⟨sb, R2, rfl, ha2, c2, e2, hS2⟩
    obtain ⟨T2, h2, t2⟩ := h1.chg ha2 c2 h1.inv rfl rfl
    refine ⟨_, rfl, h2.blk, (CloneI_spec oneI (h2.ids.imm KI_pos) (by rw [idsD_len]; have := h2.inv.cnt; show q.D.length ≤ _; have h9 : q.D.length ≤ 1000 := h2.inv.cnt; omega)).mono ?_⟩
    rintro _ u3 ⟨A3, c3, rfl, ho3, e3, n3, _⟩
    have ho3 : OwnK KI u3 A3 c3 (idsD q.D) := ho3
    have h3 := h2.ext e3
    refine ⟨_, _, _, rfl, h3.blk, ?_⟩
    rintro g4 u4 ⟨rfl, rfl⟩
    obtain ⟨X', xc', u5, hr5, ho5, gr5⟩ := h3.marks.push (K := KMk) slM (ty := 79) (a := ⟨sb, A3, c3, q.A, q.D⟩) (cs := mkC ⟨sb, A3, c3, q.A, q.D⟩) rfl (fun v hv => by simp [mkC] at hv; rcases hv with rfl | rfl <;> rfl) (e' := 122) (by simp only [maxLen]; omega) (by omega)
    have hnew : ∀ k, ownB A3 k → ¬ T2 k := fun k hk ht => by have := n3 k hk; have := h2.tlt k ht; omega
    obtain ⟨p1, p2⟩ := h3.setMarks (a := ⟨sb, A3, c3, q.A, q.D⟩) (hS2.keep (Ext.om e3 R2 M)) h1.inv rfl rfl ho3 hnew (by omega) ho5 gr5
    refine ⟨h3.blk.ext (Fr.alloc NoB u3 _), _, _, _, u5, hr5, _, rfl, p1, fun u6 hu6 => ?_⟩
    obtain ⟨h6, f6, s6⟩ := p2 u6 hu6
    refine ⟨_, R2, M, X', xc', _, h6, (Tch.ext ed).trans (t2.trans ⟨(e3.fr : Fr T2 u2 u3).trans f6 (fun _ _ h => h) (fun _ _ h => h), fun k hk => ?_⟩)⟩
    have := e3.size
    rcases hk with hk | hk | hk
    · exact .inl hk
    · exact (s6 k hk).imp id fun h => by omega
    · exact .inr (n3 k hk)
theorem aFree (h : Sto T u s q) (n : Int) : CallsV Try.prog 19 #[.pointer (some ⟨s, 0, none⟩), .int .i64 n] u fun r u' => ((n < 1 ∨ (q.ms.length : Int) < n) ∧ r = .int .i64 60 ∧ u' = u) ∨ (1 ≤ n ∧ n ≤ (q.ms.length : Int) ∧ r = .int .i64 0 ∧ ∃ T', Sto T' u' s ⟨q.A, q.D, q.ms.take (n - 1).toNat⟩ ∧ Tch T u T' u') := by
  obtain ⟨g, R, M, IA, ic, X, xc, L, h⟩ := h
  have hml : q.ms.length = L.length := by rw [← h.ms, List.length_map]
  have hcnt := h.cnt
  refine undo_Store_Free.calls okay ?_
  unfold undo_Store_Free.W
  refine (sis_spec h n).same ⟨_, rfl, ?_⟩
  by_cases hb : n < 1 ∨ (L.length : Int) < n
  · rw [if_pos hb]
    exact brn (fun _ => .inl ⟨by omega, rfl, rfl⟩) fun h => by cases h
  · rw [if_neg hb]
    have hw : IntKind.i64.wrap (n - 1) = (((n - 1).toNat : Nat) : Int) := by rw [wi _ (by omega) (by omega)]; omega
    have hxle : L.length ≤ xc := by obtain ⟨xs, ho, _⟩ := h.marks; exact ho.le
    obtain ⟨p1, p2⟩ := h.setLess (n - 1).toNat (by omega)
    refine brn (fun h => absurd rfl h) fun _ => ⟨_, rfl, _, _, _, h.blk.cell rfl, ?_⟩
    rw [hw, cutAt_zero, Int.toNat_natCast, Nat.sub_zero, Nat.sub_zero]
    refine ⟨⟨by omega, by omega⟩, _, rfl, p1, fun u2 hu2 => ?_⟩
    obtain ⟨h2, f2⟩ := p2 u2 hu2
    exact .inr ⟨by omega, by omega, rfl, T, ⟨g, R, M, IA, ic, X, xc, _, h2⟩, ⟨f2.mono fun k _ e => by have e : k = s := e; rw [e]; exact h.sT, fun k hk => .inl hk⟩⟩
theorem mkCell {Ω : Nat → Prop} {X : Option Addr} {L : List Mk} (h : Imm KMk Ω u X L) {k : Nat} (hk : k < L.length) : ∃ ad, X = some ad ∧ u.cell? ((ad.add (k * 2)).add 0) = some (.pointer (some ⟨L[k].sb, 0, none⟩)) ∧ u.cell? ((ad.add (k * 2)).add 1) = some (.slice L[k].MA (idsD L[k].D).length L[k].mc) := by
  obtain ⟨ad, hA, _, cs, hr, hc⟩ := h k L[k] (List.getElem?_eq_getElem hk)
  have hr : cs = mkC L[k] := hr
  subst hr
  exact ⟨ad, hA, by rw [add_add]; exact hc 0 _ rfl, by rw [add_add]; exact hc 1 _ rfl⟩
set_option maxHeartbeats 400000 in
theorem aBack (h : Sto T u s q) (n : Int) : CallsV Try.prog 25 #[.pointer (some ⟨s, 0, none⟩), .int .i64 n] u fun r u' => ((n < 1 ∨ (q.ms.length : Int) < n) ∧ r = .int .i64 60 ∧ u' = u) ∨ (1 ≤ n ∧ n ≤ (q.ms.length : Int) ∧ r = .int .i64 0 ∧ ∃ B D' T', q.ms[(n - 1).toNat]? = some (B, D') ∧ Sto T' u' s ⟨B, D', q.ms.take (n - 1).toNat⟩ ∧ Tch T u T' u') := by
  obtain ⟨g, R, M, IA, ic, X, xc, L, h⟩ := h
  have hml : q.ms.length = L.length := by rw [← h.ms, List.length_map]
  have hcnt := h.cnt
  refine undo_Store_Back.calls okay ?_
  unfold undo_Store_Back.W
  refine (sis_spec h n).same ⟨_, rfl, ?_⟩
  by_cases hb : n < 1 ∨ (L.length : Int) < n
  · rw [if_pos hb]
    exact brn (fun _ => .inl ⟨by omega, rfl, rfl⟩) fun h => by cases h
  · rw [if_neg hb]
    have hw : IntKind.i64.wrap (n - 1) = (((n - 1).toNat : Nat) : Int) := by rw [wi _ (by omega) (by omega)]; omega
    have hxle : L.length ≤ xc := by obtain ⟨xs, ho, _⟩ := h.marks; exact ho.le
    obtain ⟨k, hk⟩ : ∃ k, (n - 1).toNat = k := ⟨_, rfl⟩
    rw [hk] at hw ⊢
    have hkl : k < L.length := by omega
    obtain ⟨ad, hX, c0, c1⟩ := mkCell (h.marks.imm KMk_pos) hkl
    refine brn (fun h => absurd rfl h) fun _ => ⟨_, rfl, _, _, _, h.blk.cell rfl, ad, hX, ?_⟩
    rw [hw, Int.toNat_natCast]
    refine ⟨⟨by omega, by omega⟩, _, c0, _, _, _, c1, ?_⟩
    have hmem : L[k] ∈ L := List.getElem_mem hkl
    have hqk : q.ms[k]? = some (L[k].A, L[k].D) := by rw [← h.ms, List.getElem?_map, List.getElem?_eq_getElem hkl]; rfl
    have hdis : ∀ x ∈ L.take k, ∀ j, ownB x.MA j → ¬ ownB L[k].MA j := by
      have hp := h.mD
      rw [← List.take_append_drop k L, List.drop_eq_getElem_cons hkl] at hp
      intro x hx j hj
      exact (List.pairwise_append.1 hp).2.2 x hx L[k] (List.mem_cons.2 (.inl rfl)) j hj
    generalize L[k] = x at *
    intro gm u1 f1
    refine ⟨f1.blk.stOK (o := 0) [_, _] 0 (by simp), fun u2 hu2 => ?_⟩
    have bm : Blk u2 gm (mkC x) := by rw [hu2]; exact Blk.setAll (o := 0) (mkC x) 0 f1.blk
    have e2 : Ext u u2 := by rw [hu2]; exact f1.ext.setAll f1.ge _ _
    have ed : Ext u u2.drew := e2.drew
    have hgm : ¬ T gm := fun ht => by have := h.tlt gm ht; have := f1.ge; omega
    have hgs : gm ≠ s := fun e => hgm (e ▸ h.sT)
    have hd := h.ext ed
    have bmd := bm.ext (Fr.drew NoB u2)
    -- the numbers
    obtain ⟨p1, p2⟩ := setF hd.blk (o := 1) (by simp) (.slice x.MA (idsD x.D).length x.mc)
    refine ⟨fun v => ∃ T', StoA T' v s ⟨q.A, q.D, q.ms.take k⟩ g R M x.MA x.mc X xc (L.take k) (idsD x.D) ∧ Sv1 (Om R M) v x.sb g x.A ∧ Tch T u T' v ∧ Blk v gm (mkC x) ∧ ¬ T' gm, ?_, ?_⟩
    · rintro v ⟨T', h', hS', c', bm', hgm'⟩
      obtain ⟨g1, g2, g3, g4, g5⟩ := h.good x hmem
      have edv : Ext v v.drew := Fr.drew NoB v
      have hv := h'.ext edv
      refine ⟨_, rfl, fun z => Ext v z, edv, _, fun z e => (h'.blk.ext e).cell rfl, _, fun z e => (bm'.ext e).cell rfl, (dLoad hv.inv g2 g3 g4 hv.ar (hS'.keep (Ext.om edv R M))).mono ?_⟩
      rintro _ v2 ⟨rfl, R', M', ha, c⟩
      obtain ⟨T2, h2, t2⟩ := hv.chg ha c g2 g3 g4
      exact ⟨_, rfl, .inr ⟨by omega, by omega, rfl, x.A, x.D, T2, hqk, ⟨g, R', M', x.MA, x.mc, X, xc, _, h2⟩, c'.trans ((Tch.ext edv).trans t2)⟩⟩
    · refine ⟨fun v => Blk v gm (mkC x) ∧ Blk v s [.pointer (some ⟨g, 0, none⟩), .slice IA (idsD q.D).length ic, .slice X L.length xc], ⟨bmd, hd.blk⟩, _, _, _, fun v hv => hv.1.cell rfl, _, rfl, _, _, _, fun v hv => hv.2.cell rfl, ⟨by omega, by omega⟩, _, rfl, p1, fun u3 hu3 => ?_⟩
      obtain ⟨b3, f3⟩ := p2 u3 hu3
      obtain ⟨q1, q2⟩ := setF b3 (o := 2) (by simp) (.slice X k xc)
      rw [cutAt_zero, Nat.sub_zero, Nat.sub_zero]
      refine ⟨_, rfl, q1, fun u4 hu4 => ?_⟩
      obtain ⟨b4, f4⟩ := q2 u4 hu4
      have f : Fr (fun j => j = s) u2.drew u4 := f3.trans f4 (fun _ _ h => h) (fun _ _ h => h)
      have ln : (L.take k).length = k := by rw [List.length_take]; omega
      have sub : ∀ y ∈ L.take k, y ∈ L := fun y hy => (List.take_sublist k L).subset hy
      have so : Step (Om R M) u2.drew (Om R M) u4 := f.step (fun j _ e => .inl fun hr => h.sR (by have e : j = s := e; exact e ▸ hr)) (fun _ _ h => h)
      obtain ⟨g1, g2, g3, g4, g5⟩ := hd.good x hmem
      refine ⟨T, ⟨hd.ar.frame f fun j _ e hr => h.sR (by have e : j = s := e; exact e ▸ hr), hd.inv, by rw [ln]; simpa using b4, h.rT, h.sT, h.mT x hmem, h.xT, fun y hy => h.mT y (sub y hy), fun j hj => Nat.lt_of_lt_of_le (hd.tlt j hj) f.size, h.sR, fun j hj => ⟨(h.mO x hmem j hj).1, (h.mO x hmem j hj).2.1⟩, fun j hj => ⟨(h.xO j hj).1, (h.xO j hj).2.1, fun hm => (h.mO x hmem j hm).2.2.2 hj⟩, fun y hy j hj => ⟨(h.mO y (sub y hy) j hj).1, (h.mO y (sub y hy) j hj).2.1, hdis y hy j hj, (h.mO y (sub y hy) j hj).2.2.2⟩, h.mD.sublist (List.take_sublist k L), g5.fr f (fun j hj e => (h.mO x hmem j hj).2.1 e) (fun _ _ _ h => h), (hd.marks.take k (by omega)).fr f (fun j hj e => (h.xO j hj).2.1 e) (fun _ _ _ h => h), fun y hy => ?_, by rw [List.map_take, h.ms], by rw [ln]; omega⟩, g1.keep so, (Tch.ext ed).trans ⟨f.mono fun j _ e => by have e : j = s := e; rw [e]; exact h.sT, fun j hj => .inl hj⟩, bmd.keep f hgs, hgm⟩
      obtain ⟨y1, y2, y3, y4, y5⟩ := hd.good y (sub y hy)
      exact ⟨y1.keep so, y2, y3, y4, y5.fr f (fun j hj e => (h.mO y (sub y hy) j hj).2.1 e) (fun _ _ _ h => h)⟩
end
theorem aNew (u : World) (fan most : Nat) (h1 : 4 ≤ fan) (h2 : fan ≤ 64) (h3 : 1 ≤ most) (h4 : most ≤ 65536) : CallsV Try.prog 15 #[iv fan, iv most] u fun r u' => ∃ s T, r = .tuple #[.pointer (some ⟨s, 0, none⟩), .int .i64 0] ∧ Sto T u' s ⟨A0 fan most, [], []⟩ ∧ Ext u u' ∧ ∀ k, T k → u.heap.size ≤ k := by
  refine undo_New.calls okay ?_
  unfold undo_New.W
  refine (New_spec u fan most h1 h2 h3 h4).mono ?_
  rintro _ u1 ⟨g, R, M, rfl, ha, e1, hR⟩
  refine ⟨_, _, rfl, brn (fun h => absurd rfl h) fun _ => ?_⟩
  intro s u2 f2
  have hI : Inv (A0 fan most) [] := ⟨rfl, fun _ h => (by cases h), fun x => (by simp [A0]), List.nodup_nil, fun _ h => (by cases h), h1, h2, h4, by simp [Ar.nodes, A0], by simp [A0], by simp⟩
  have hl := ha.lt
  refine ⟨s, fun k => R k ∨ k = s, rfl, ⟨g, R, M, none, 0, none, 0, [], ⟨ha.ext f2.ext, hI, f2.blk, fun k hk => .inl hk, .inr rfl, fun k hk => (ownB_none k hk).elim, fun k hk => (ownB_none k hk).elim, fun x hx => (by cases hx), fun k hk => ?_, fun hr => by have := hl s hr; have := f2.ge; omega, fun k hk => (ownB_none k hk).elim, fun k hk => (ownB_none k hk).elim, fun x hx => (by cases hx), List.Pairwise.nil, OwnK.nil _ _, OwnK.nil _ _, fun x hx => (by cases hx), rfl, by simp⟩⟩, e1.trans' f2.ext, fun k hk => ?_⟩
  · rcases hk with hk | rfl
    · have := hl k hk; have := f2.ext.size; omega
    · exact f2.lt
  · rcases hk with hk | rfl
    · exact hR k hk
    · exact Nat.le_trans e1.size f2.ge
end Go.Proofs.Ythfagbfllheneaa
/- The preconditions of Go functions, printed by a program of this workplace (nests.py); each is proved to be the engine's own. -/
set_option linter.unusedVariables false
set_option maxRecDepth 100000
namespace Go.Proofs.Ythfagbfllheneaa
open Go Go.Sx
noncomputable def cardindexlaw05_b.W : ByteArray → World → (Value → World → Prop) → Prop := fun (s : ByteArray) (w : World) (K : Value → World → Prop) => ∃ (x : Option Addr), ∃ (x_1 : Nat),
 ∃ (x_2 : Nat), ∃ (w' : World), RunsTo Try.prog (convert (9 : Nat) (28 : Nat) (Value.string s)) w (Value.slice x x_1 x_2) w' ∧ K (Value.slice x x_1 x_2) w'
theorem cardindexlaw05_b.eq (s : ByteArray) (w : World) (K : Value → World → Prop) : cardindexlaw05_b.W s w K = fnW Try.prog Try.f30 (.named .auto) [.string s] w K := by kernel_rfl
theorem cardindexlaw05_b.calls (ok : Okay Try.prog) {s : ByteArray} {w : World} {K : Value → World → Prop} (h : cardindexlaw05_b.W s w K) : CallsV Try.prog 30 #[.string s] w K :=
  fnW_calls ok Try.func30 (an := (.named .auto)) (args := [.string s]) (by rw [← cardindexlaw05_b.eq]; exact h)
noncomputable def cardindexlaw05_is.W : Option Addr → Int → ByteArray → ByteArray → World → (Value → World → Prop) → Prop := fun (s : Option Addr) (id : Int) (key want : ByteArray) (w : World) (K
 : Value → World → Prop) => CallsV Try.prog (30 : Nat) #[Value.string key] w fun (v : Value) (w' : World) => ∃ (x : Option Addr), ∃ (x_1 : Nat), ∃ (x_2 : Nat), v =
 Value.slice x x_1 x_2 ∧ CallsV Try.prog (49 : Nat) #[Value.pointer s, Value.int IntKind.i64 id, Value.slice x x_1 x_2] w' fun (v : Value) (w' : World) => ∃ (x :
 Option Addr), ∃ (x_3 : Nat), ∃ (x_4 : Nat), ∃ (x_5 : Bool), v = Value.tuple #[Value.slice x x_3 x_4, Value.bool x_5] ∧ bif Decidable.decide (x_5 = !ByteArray.toList want == ByteArray.toList
 (ByteArray.mk #[])) then ∃ (x_6 : ByteArray), ∃ (w'_1 : World), RunsTo Try.prog (convert (28 : Nat) (9 : Nat) (Value.slice x x_3 x_4)) w' (Value.string x_6) w'_1 ∧ K
 (Value.bool (ByteArray.toList x_6 == ByteArray.toList want)) w'_1 else K (Value.bool Bool.false) w'
theorem cardindexlaw05_is.eq (s : Option Addr) (id : Int) (key : ByteArray) (want : ByteArray) (w : World) (K : Value → World → Prop) : cardindexlaw05_is.W s id key want w K = fnW Try.prog Try.f74 (.named .auto) [.pointer s, .int .i64 id, .string key, .string want] w K := by kernel_rfl
theorem cardindexlaw05_is.calls (ok : Okay Try.prog) {s : Option Addr} {id : Int} {key : ByteArray} {want : ByteArray} {w : World} {K : Value → World → Prop} (h : cardindexlaw05_is.W s id key want w K) : CallsV Try.prog 74 #[.pointer s, .int .i64 id, .string key, .string want] w K :=
  fnW_calls ok Try.func74 (an := (.named .auto)) (args := [.pointer s, .int .i64 id, .string key, .string want]) (by rw [← cardindexlaw05_is.eq]; exact h)
noncomputable def cardindexlaw05_puts.W : Option Addr → Int → ByteArray → ByteArray → World → (Value → World → Prop) → Prop := fun (s : Option Addr) (id : Int) (key val : ByteArray) (w : World)
 (K : Value → World → Prop) => CallsV Try.prog (30 : Nat) #[Value.string key] w fun (v : Value) (w' : World) => ∃ (x : Option Addr), ∃ (x_1 : Nat), ∃ (x_2 : Nat), v =
 Value.slice x x_1 x_2 ∧ CallsV Try.prog (30 : Nat) #[Value.string val] w' fun (v : Value) (w' : World) => ∃ (x_3 : Option Addr), ∃ (x_4 : Nat), ∃ (x_5 : Nat), v =
 Value.slice x_3 x_4 x_5 ∧ CallsV Try.prog (29 : Nat) #[Value.pointer s, Value.int IntKind.i64 id, Value.slice x x_1 x_2, Value.slice x_3 x_4 x_5] w' fun (v : Value)
 (w' : World) => ∃ (x : Bool), ∃ (x_6 : Int), v = Value.tuple #[Value.bool x, Value.int IntKind.i64 x_6] ∧ K (Value.bool (Decidable.decide (x_6 = (0 : Int)))) w'
theorem cardindexlaw05_puts.eq (s : Option Addr) (id : Int) (key : ByteArray) (val : ByteArray) (w : World) (K : Value → World → Prop) : cardindexlaw05_puts.W s id key val w K = fnW Try.prog Try.f28 (.named .auto) [.pointer s, .int .i64 id, .string key, .string val] w K := by kernel_rfl
theorem cardindexlaw05_puts.calls (ok : Okay Try.prog) {s : Option Addr} {id : Int} {key : ByteArray} {val : ByteArray} {w : World} {K : Value → World → Prop} (h : cardindexlaw05_puts.W s id key val w K) : CallsV Try.prog 28 #[.pointer s, .int .i64 id, .string key, .string val] w K :=
  fnW_calls ok Try.func28 (an := (.named .auto)) (args := [.pointer s, .int .i64 id, .string key, .string val]) (by rw [← cardindexlaw05_puts.eq]; exact h)
noncomputable def cardindexlaw05_marks.W : Option Addr → Int → World → (Value → World → Prop) → Prop := fun (s : Option Addr) (n : Int) (w : World) (K : Value → World → Prop) =>
 CallsV Try.prog (18 : Nat) #[Value.pointer s] w fun (v : Value) (w' : World) => ∃ (x : Int), ∃ (x_1 : Int), v = Value.tuple #[Value.int IntKind.i64 x, Value.int
 IntKind.i64 x_1] ∧ bif Decidable.decide (x = n) then bif Decidable.decide (x_1 = (0 : Int)) then CallsV Try.prog (24 : Nat) #[Value.pointer s] w' fun (v : Value) (w' :
 World) => ∃ (x : Int), v = Value.int IntKind.i64 x ∧ K (Value.bool (Decidable.decide (x = n))) w' else K (Value.bool Bool.false) w' else K (Value.bool Bool.false) w'
theorem cardindexlaw05_marks.eq (s : Option Addr) (n : Int) (w : World) (K : Value → World → Prop) : cardindexlaw05_marks.W s n w K = fnW Try.prog Try.f27 (.named .auto) [.pointer s, .int .i64 n] w K := by kernel_rfl
theorem cardindexlaw05_marks.calls (ok : Okay Try.prog) {s : Option Addr} {n : Int} {w : World} {K : Value → World → Prop} (h : cardindexlaw05_marks.W s n w K) : CallsV Try.prog 27 #[.pointer s, .int .i64 n] w K :=
  fnW_calls ok Try.func27 (an := (.named .auto)) (args := [.pointer s, .int .i64 n]) (by rw [← cardindexlaw05_marks.eq]; exact h)
noncomputable def cardindexlaw05_awake.W : World → (Value → World → Prop) → Prop := fun (w : World) (K : Value → World → Prop) => CallsV Try.prog (15 : Nat) #[Value.int
 IntKind.i64 (4 : Int), Value.int IntKind.i64 (100 : Int)] w fun (v : Value) (w' : World) => ∃ (x : Option Addr), ∃ (x_1 : Int), v = Value.tuple #[Value.pointer x, Value.int
 IntKind.i64 x_1] ∧ CallsV Try.prog (26 : Nat) #[Value.pointer x] w' fun (v : Value) (w' : World) => ∃ (x_2 : Int), ∃ (x_3 : Int), v = Value.tuple #[Value.int
 IntKind.i64 x_2, Value.int IntKind.i64 x_3] ∧ bif !Decidable.decide (x_1 = (0 : Int)) then K (Value.bool Bool.false) w' else bif !Decidable.decide (x_3 = (0 : Int)) then K (Value.bool
 Bool.false) w' else bif !Decidable.decide (x_2 = (1 : Int)) then K (Value.bool Bool.false) w' else CallsV Try.prog (28 : Nat) #[Value.pointer x, Value.int IntKind.i64 (1 :
 Int), Value.string (ByteArray.mk #[(97 : UInt8)]), Value.string (ByteArray.mk #[(49 : UInt8)])] w' fun (v : Value) (w' : World) => ∃ (x_4 : Bool), v = Value.bool x_4 ∧ bif !x_4 then K
 (Value.bool Bool.false) w' else CallsV Try.prog (27 : Nat) #[Value.pointer x, Value.int IntKind.i64 (1 : Int)] w' fun (v : Value) (w' : World) => ∃ (x_5 : Bool), v =
 Value.bool x_5 ∧ bif !x_5 then K (Value.bool Bool.false) w' else CallsV Try.prog (28 : Nat) #[Value.pointer x, Value.int IntKind.i64 (1 : Int), Value.string
 (ByteArray.mk #[(97 : UInt8)]), Value.string (ByteArray.mk #[(50 : UInt8)])] w' fun (v : Value) (w' : World) => ∃ (x_6 : Bool), v = Value.bool x_6 ∧ bif !x_6 then K (Value.bool
 Bool.false) w' else CallsV Try.prog (28 : Nat) #[Value.pointer x, Value.int IntKind.i64 (1 : Int), Value.string (ByteArray.mk #[(98 : UInt8)]), Value.string (ByteArray.mk
 #[(51 : UInt8)])] w' fun (v : Value) (w' : World) => ∃ (x_7 : Bool), v = Value.bool x_7 ∧ bif !x_7 then K (Value.bool Bool.false) w' else CallsV Try.prog (27 : Nat)
 #[Value.pointer x, Value.int IntKind.i64 (2 : Int)] w' fun (v : Value) (w' : World) => ∃ (x_8 : Bool), v = Value.bool x_8 ∧ bif !x_8 then K (Value.bool Bool.false) w' else
 CallsV Try.prog (30 : Nat) #[Value.string (ByteArray.mk #[(97 : UInt8)])] w' fun (v : Value) (w' : World) => ∃ (x_9 : Option Addr), ∃ (x_10 : Nat), ∃ (x_11 : Nat), v =
 Value.slice x_9 x_10 x_11 ∧ CallsV Try.prog (40 : Nat) #[Value.pointer x, Value.int IntKind.i64 (1 : Int), Value.slice x_9 x_10 x_11] w' fun (v : Value) (w' :
 World) => ∃ (x_12 : Bool), ∃ (x_13 : Int), v = Value.tuple #[Value.bool x_12, Value.int IntKind.i64 x_13] ∧ CallsV Try.prog (26 : Nat) #[Value.pointer x] w' fun (v :
 Value) (w' : World) => ∃ (x_14 : Int), ∃ (x_15 : Int), v = Value.tuple #[Value.int IntKind.i64 x_14, Value.int IntKind.i64 x_15] ∧ bif !x_12 then K (Value.bool Bool.false) w'
 else bif !Decidable.decide (x_13 = (0 : Int)) then K (Value.bool Bool.false) w' else bif !Decidable.decide (x_14 = (2 : Int)) then K (Value.bool Bool.false) w' else bif !Decidable.decide (x_15 =
 (0 : Int)) then K (Value.bool Bool.false) w' else CallsV Try.prog (25 : Nat) #[Value.pointer x, Value.int IntKind.i64 (2 : Int)] w' fun (v : Value) (w' : World) => ∃
 (x_16 : Int), v = Value.int IntKind.i64 x_16 ∧ bif !Decidable.decide (x_16 = (0 : Int)) then K (Value.bool Bool.false) w' else CallsV Try.prog (74 : Nat) #[Value.pointer x,
 Value.int IntKind.i64 (1 : Int), Value.string (ByteArray.mk #[(97 : UInt8)]), Value.string (ByteArray.mk #[(50 : UInt8)])] w' fun (v : Value) (w' : World) => ∃ (x_17 : Bool), v =
 Value.bool x_17 ∧ bif !x_17 then K (Value.bool Bool.false) w' else CallsV Try.prog (74 : Nat) #[Value.pointer x, Value.int IntKind.i64 (1 : Int), Value.string
 (ByteArray.mk #[(98 : UInt8)]), Value.string (ByteArray.mk #[(51 : UInt8)])] w' fun (v : Value) (w' : World) => ∃ (x_18 : Bool), v = Value.bool x_18 ∧ bif !x_18 then K (Value.bool
 Bool.false) w' else CallsV Try.prog (33 : Nat) #[Value.pointer x] w' fun (v : Value) (w' : World) => ∃ (x_19 : Option Addr), ∃ (x_20 : Nat), ∃ (x_21 : Nat), v =
 Value.slice x_19 x_20 x_21 ∧ ∀ (g : Nat) (w'_1 : World), Fresh w' g w'_1 [Value.int IntKind.i64 (1 : Int)] (3 : Nat) → CallsV Try.prog (32 : Nat) #[Value.slice x_19
 x_20 x_21, Value.slice (Option.some (Addr.mk g (0 : Nat) Option.none)) (1 : Nat) (1 : Nat)] w'_1 fun (v : Value) (w' : World) => ∃ (x_22 : Bool), v = Value.bool x_22 ∧ bif !x_22 then K
 (Value.bool Bool.false) w' else CallsV Try.prog (25 : Nat) #[Value.pointer x, Value.int IntKind.i64 (1 : Int)] w' fun (v : Value) (w' : World) => ∃ (x_23 : Int), v =
 Value.int IntKind.i64 x_23 ∧ bif !Decidable.decide (x_23 = (0 : Int)) then K (Value.bool Bool.false) w' else CallsV Try.prog (74 : Nat) #[Value.pointer x, Value.int
 IntKind.i64 (1 : Int), Value.string (ByteArray.mk #[(97 : UInt8)]), Value.string (ByteArray.mk #[(49 : UInt8)])] w' fun (v : Value) (w' : World) => ∃ (x_24 : Bool), v = Value.bool
 x_24 ∧ bif !x_24 then K (Value.bool Bool.false) w' else CallsV Try.prog (34 : Nat) #[Value.pointer x, Value.int IntKind.i64 (1 : Int)] w' fun (v : Value) (w' : World)
 => ∃ (x_25 : Int), v = Value.int IntKind.i64 x_25 ∧ bif !Decidable.decide (x_25 = (1 : Int)) then K (Value.bool Bool.false) w' else CallsV Try.prog (25 : Nat)
 #[Value.pointer x, Value.int IntKind.i64 (1 : Int)] w' fun (v : Value) (w' : World) => ∃ (x_26 : Int), v = Value.int IntKind.i64 x_26 ∧ bif !Decidable.decide (x_26 = (60 : Int))
 then K (Value.bool Bool.false) w' else CallsV Try.prog (27 : Nat) #[Value.pointer x, Value.int IntKind.i64 (1 : Int)] w' fun (v : Value) (w' : World) => ∃ (x_27 :
 Bool), v = Value.bool x_27 ∧ bif !x_27 then K (Value.bool Bool.false) w' else CallsV Try.prog (28 : Nat) #[Value.pointer x, Value.int IntKind.i64 (1 : Int),
 Value.string (ByteArray.mk #[(99 : UInt8)]), Value.string (ByteArray.mk #[(52 : UInt8)])] w' fun (v : Value) (w' : World) => ∃ (x_28 : Bool), v = Value.bool x_28 ∧ bif !x_28 then K
 (Value.bool Bool.false) w' else CallsV Try.prog (19 : Nat) #[Value.pointer x, Value.int IntKind.i64 (1 : Int)] w' fun (v : Value) (w' : World) => ∃ (x_29 : Int), v =
 Value.int IntKind.i64 x_29 ∧ bif Decidable.decide (x_29 = (0 : Int)) then CallsV Try.prog (74 : Nat) #[Value.pointer x, Value.int IntKind.i64 (1 : Int), Value.string
 (ByteArray.mk #[(97 : UInt8)]), Value.string (ByteArray.mk #[(49 : UInt8)])] w' fun (v : Value) (w' : World) => ∃ (x_30 : Bool), v = Value.bool x_30 ∧ bif x_30 then CallsV
 Try.prog (74 : Nat) #[Value.pointer x, Value.int IntKind.i64 (1 : Int), Value.string (ByteArray.mk #[(99 : UInt8)]), Value.string (ByteArray.mk #[(52 : UInt8)])] w' fun (v :
 Value) (w' : World) => ∃ (x_31 : Bool), v = Value.bool x_31 ∧ bif x_31 then CallsV Try.prog (24 : Nat) #[Value.pointer x] w' fun (v : Value) (w' : World) => ∃ (x :
 Int), v = Value.int IntKind.i64 x ∧ K (Value.bool (Decidable.decide (x = (0 : Int)))) w' else K (Value.bool Bool.false) w' else K (Value.bool Bool.false) w' else K (Value.bool
 Bool.false) w'
theorem cardindexlaw05_awake.eq  (w : World) (K : Value → World → Prop) : cardindexlaw05_awake.W  w K = fnW Try.prog Try.f23 (.named .auto) [] w K := by kernel_rfl
theorem cardindexlaw05_awake.calls (ok : Okay Try.prog)  {w : World} {K : Value → World → Prop} (h : cardindexlaw05_awake.W  w K) : CallsV Try.prog 23 #[] w K :=
  fnW_calls ok Try.func23 (an := (.named .auto)) (args := []) (by rw [← cardindexlaw05_awake.eq]; exact h)
noncomputable def cardindexlow_SameInts.W : Option Addr → Nat → Nat → Option Addr → Nat → Nat → World → (Value → World → Prop) → Prop := fun (these_A : Option Addr) (these_n these_c : Nat) (those_A
 : Option Addr) (those_n those_c : Nat) (w : World) (K : Value → World → Prop) => bif !Decidable.decide ((↑these_n : Int) = (↑those_n : Int)) then K (Value.bool Bool.false) w else ∃ (I :
 Int → World → Prop), ∃ (μ : Int → World → Nat), I (IntKind.wrap IntKind.i64 ((↑these_n : Int) - (1 : Int))) w ∧ ∀ (x : Int) (w : World), I x w → bif Decidable.decide ((0 : Int) ≤ x) then
 ∃ (ad : Addr), these_A = Option.some ad ∧ ((0 : Int) ≤ x ∧ x < (↑these_n : Int)) ∧ ∃ (S : World → Prop), S (World.drew w) ∧ ∃ (x_1 : Int), (∀ (u : World), S u → World.cell? u
 (Addr.add ad (Int.toNat x * (1 : Nat))) = Option.some (Value.int IntKind.i64 x_1)) ∧ ∃ (ad : Addr), those_A = Option.some ad ∧ ((0 : Int) ≤ x ∧ x < (↑those_n : Int)) ∧ ∃ (x_2 : Int), (∀ (u
 : World), S u → World.cell? u (Addr.add ad (Int.toNat x * (1 : Nat))) = Option.some (Value.int IntKind.i64 x_2)) ∧ bif !Decidable.decide (x_1 = x_2) then K (Value.bool Bool.false)
 (World.drew w) else I (IntKind.wrap IntKind.i64 (x - (1 : Int))) (World.drew w) ∧ μ (IntKind.wrap IntKind.i64 (x - (1 : Int))) (World.drew w) < μ x w else K (Value.bool
 Bool.true) w
theorem cardindexlow_SameInts.eq (these_A : Option Addr) (these_n : Nat) (these_c : Nat) (those_A : Option Addr) (those_n : Nat) (those_c : Nat) (w : World) (K : Value → World → Prop) : cardindexlow_SameInts.W these_A these_n these_c those_A those_n those_c w K = fnW Try.prog Try.f32 (.named (.seq .auto (.seq .auto (.seq (.seq .auto (.block (.loop [(5, .one (.int .i64))] .auto))) .auto)))) [.slice these_A these_n these_c, .slice those_A those_n those_c] w K := by kernel_rfl
theorem cardindexlow_SameInts.calls (ok : Okay Try.prog) {these_A : Option Addr} {these_n : Nat} {these_c : Nat} {those_A : Option Addr} {those_n : Nat} {those_c : Nat} {w : World} {K : Value → World → Prop} (h : cardindexlow_SameInts.W these_A these_n these_c those_A those_n those_c w K) : CallsV Try.prog 32 #[.slice these_A these_n these_c, .slice those_A those_n those_c] w K :=
  fnW_calls ok Try.func32 (an := (.named (.seq .auto (.seq .auto (.seq (.seq .auto (.block (.loop [(5, .one (.int .i64))] .auto))) .auto))))) (args := [.slice these_A these_n these_c, .slice those_A those_n those_c]) (by rw [← cardindexlow_SameInts.eq]; exact h)
end Go.Proofs.Ythfagbfllheneaa
/- Layer 5: the statements' helpers, and the chapter's examples. -/
set_option linter.unusedVariables false
set_option linter.unusedSimpArgs false
namespace Go.Proofs.Ythfagbfllheneaa
open Go Go.Sx T4
def upF (F : List (Int × Es)) (id : Int) (es : Es) : List (Int × Es) := F.map fun p => if p.1 = id then (p.1, es) else p
def sizeF (F : List (Int × Es)) : Nat := (F.map fun p => 1 + p.2.length).sum
theorem upF_out {F : List (Int × Es)} {id : Int} {es : Es} (h : ∀ p ∈ F, p.1 ≠ id) : upF F id es = F := by
  unfold upF
  conv => rhs; rw [← List.map_id F]
  exact List.map_congr_left fun p hp => by rw [if_neg (h p hp)]; rfl
theorem fo_up {D1 D2 : List Tr} {d d' : Tr} (hn : ((D1 ++ d :: D2).map fun d => d.r).Nodup) (hr : d'.r = d.r) : foD (D1 ++ d' :: D2) = upF (foD (D1 ++ d :: D2)) d.r d'.es := by
  have hx := nd_mid hn
  have o1 : upF (foD D1) d.r d'.es = foD D1 := upF_out fun p hp => by
    obtain ⟨x, h, rfl⟩ := List.mem_map.1 hp; exact hx x (List.mem_append_left _ h)
  have o2 : upF (foD D2) d.r d'.es = foD D2 := upF_out fun p hp => by
    obtain ⟨x, h, rfl⟩ := List.mem_map.1 hp; exact hx x (List.mem_append_right _ h)
  have e : upF (foD (D1 ++ d :: D2)) d.r d'.es = upF (foD D1) d.r d'.es ++ (d.r, d'.es) :: upF (foD D2) d.r d'.es := by simp [upF, foD, fo]
  rw [e, o1, o2]
  simp [foD, fo, hr]
theorem nodes_size {A : Ar} {D : List Tr} (h : Inv A D) : A.nodes ≤ sizeF (foD D) := by
  rw [h.nodesE]
  unfold sizeF foD
  rw [List.map_map]
  have : ∀ (l : List Tr), (∀ d ∈ l, d ∈ D) → (l.map fun d => d.ps.length).sum ≤ (l.map ((fun p : Int × Es => 1 + p.2.length) ∘ fo)).sum := by
    intro l
    induction l with
    | nil => intro _; exact Nat.le_refl _
    | cons x l ih =>
      intro hl
      have h1 := ih fun d hd => hl d (by simp [hd])
      have h2 : x.ps.length ≤ 1 + x.es.length := (h.tree x (hl x (by simp))).places h.f1
      simp only [List.map_cons, List.sum_cons]
      have h3 : ((fun p : Int × Es => 1 + p.2.length) ∘ fo) x = 1 + x.es.length := rfl
      omega
  exact this D fun _ h => h
theorem tree_low {A : Ar} {D1 D2 : List Tr} {d : Tr} (h : Inv A (D1 ++ d :: D2)) : d.h ≤ A.nodes := by
  have h1 := h.at_.tree.height
  have h2 := h.at_.acc.nodes
  omega
section
variable {T : Nat → Prop} {u : World} {s : Nat} {A : Ar} {D : List Tr} {ms : List (Ar × List Tr)}
theorem kPut (h : Sto T u s ⟨A, D, ms⟩) {id : Int} {es : Es} (hg : gF (foD D) id = some es) (hroom : 2 * sizeF (foD D) + 1 ≤ A.most) {key val : Key} (hk : key.length ≤ 1048576) (hv : val.length ≤ 1048576) {Ω1 Ω2 : Nat → Prop} {KA VA : Option Addr} (iK : Imm KB Ω1 u KA key) (iV : Imm KB Ω2 u VA val) (kc vc : Nat) :
    CallsV Try.prog 29 #[.pointer (some ⟨s, 0, none⟩), .int .i64 id, .slice KA key.length kc, .slice VA val.length vc] u fun r u' => r = .tuple #[.bool (inE key es), .int .i64 0] ∧ ∃ A' D' T', Sto T' u' s ⟨A', D', ms⟩ ∧ Tch T u T' u' ∧ Same A A' ∧ foD D' = upF (foD D) id (insE key val es) := by
  obtain ⟨A', D', was, e, rel, hP⟩ := aPut (A := A) (D := D) h.inv id hk hv
  refine (hP h iK iV kc vc).mono ?_
  rintro _ u' ⟨rfl, T', h', c⟩
  rcases rel.rel with ⟨h1, _⟩ | ⟨D1, d, D2, d', full, hD, hr, rfl, hr', rfl, rfl, hfu, hno⟩
  · rw [hg] at h1; cases h1
  · have hI := h.inv
    replace hI : Inv A D := hI
    rw [hD] at hI
    have hes : d.es = es := by
      have : gF (foD D) id = some d.es := by
        rw [hD, ← hr]
        exact gF_nd hI.ndF (k := D1.length) (by simp [foD, fo])
      rw [hg] at this; exact (Option.some.inj this).symm
    have : full = false := by
      cases full with
      | false => rfl
      | true => have h1 := (hfu rfl).2.2.2; have := nodes_size hI; have := tree_low hI; rw [← hD] at *; omega
    subst this
    refine ⟨by rw [hes]; simp, A', _, T', h', c, rel.same, ?_⟩
    rw [fo_up hI.nd hr', hno rfl, hr, hes, ← hD]
theorem kDel (h : Sto T u s ⟨A, D, ms⟩) {id : Int} {es : Es} (hg : gF (foD D) id = some es) (key : Key) {Ω1 : Nat → Prop} {KA : Option Addr} (iK : Imm KB Ω1 u KA key) (kc : Nat) :
    CallsV Try.prog 40 #[.pointer (some ⟨s, 0, none⟩), .int .i64 id, .slice KA key.length kc] u fun r u' => r = .tuple #[.bool (inE key es), .int .i64 0] ∧ ∃ A' D' T', Sto T' u' s ⟨A', D', ms⟩ ∧ Tch T u T' u' ∧ Same A A' ∧ foD D' = upF (foD D) id (delE key es) := by
  obtain ⟨A', D', was, e, rel, hP⟩ := aDel (A := A) (D := D) h.inv id key
  refine (hP h iK kc).mono ?_
  rintro _ u' ⟨rfl, T', h', c⟩
  rcases rel.rel with ⟨h1, _⟩ | ⟨D1, d, D2, d', hD, hr, rfl, hr', rfl, rfl, he⟩
  · rw [hg] at h1; cases h1
  · have hI := h.inv
    replace hI : Inv A D := hI
    rw [hD] at hI
    have hes : d.es = es := by
      have : gF (foD D) id = some d.es := by
        rw [hD, ← hr]
        exact gF_nd hI.ndF (k := D1.length) (by simp [foD, fo])
      rw [hg] at this; exact (Option.some.inj this).symm
    refine ⟨by rw [hes], A', _, T', h', c, rel.same, ?_⟩
    rw [fo_up hI.nd hr', he, hr, hes, ← hD]
theorem kCreate (h : Sto T u s ⟨A, D, ms⟩) (hl : A.last < 1000000) (hroom : sizeF (foD D) < A.most) (hD : D.length < 1000) :
    CallsV Try.prog 26 #[.pointer (some ⟨s, 0, none⟩)] u fun r u' => r = .tuple #[iv (A.last + 1), .int .i64 0] ∧ ∃ A' D' T', Sto T' u' s ⟨A', D', ms⟩ ∧ Tch T u T' u' ∧ A'.fan = A.fan ∧ A'.most = A.most ∧ A'.last = A.last + 1 ∧ foD D' = foD D ++ [(((A.last + 1 : Nat) : Int), [])] := by
  obtain ⟨A', D', n, e, rel, hP⟩ := aCreate (A := A) (D := D) h.inv hl
  refine (hP h).mono ?_
  rintro _ u' ⟨rfl, T', h', c⟩
  rcases rel.rel with ⟨_, _, h3, rfl, rfl, i, rfl⟩ | ⟨hf, _⟩
  · exact ⟨rfl, A', _, T', h', c, rel.fan, rel.most, h3, by simp [foD, fo]⟩
  · have hI : Inv A D := h.inv
    have := nodes_size hI; omega
/-! ## the helpers -/
theorem b_spec (w : World) (l : List UInt8) (hl : l.length ≤ 1048576) : CallsV Try.prog 30 #[.string ⟨l.toArray⟩] w fun r w' => ∃ A c, r = .slice A l.length c ∧ OwnB w' A c l ∧ Ext w w' ∧ New w A := by
  refine cardindexlaw05_b.calls okay ?_
  unfold cardindexlaw05_b.W
  obtain ⟨A, c, w', h1, h2, h3, h4, _⟩ := to_bytes bt w ⟨l.toArray⟩ (by show l.toArray.size ≤ maxLen; simp [maxLen]; omega)
  have e : sb ⟨l.toArray⟩ = l := rfl
  rw [e] at h1 h2
  exact ⟨_, _, _, _, h1, A, c, rfl, h2, h3, h4⟩
theorem is5_spec (h : Sto T u s ⟨A, D, ms⟩) (id : Int) (key want : Key) (hk : key.length ≤ 1048576) (hw : (gF (foD D) id).bind (getE key) = some want) (hn : want ≠ []) :
    CallsV Try.prog 74 #[.pointer (some ⟨s, 0, none⟩), .int .i64 id, .string ⟨key.toArray⟩, .string ⟨want.toArray⟩] u fun r u' => r = .bool true ∧ Ext u u' := by
  refine cardindexlaw05_is.calls okay ?_
  unfold cardindexlaw05_is.W
  refine (b_spec u key hk).mono ?_
  rintro _ u1 ⟨KA, kc, rfl, o1, e1, _⟩
  refine ⟨_, _, _, rfl, (sGet (h.ext e1) id o1.imm0 kc).mono ?_⟩
  rintro r u2 ⟨e2, hg⟩
  replace hg : GetR u1 u2 ((gF (foD D) id).bind (getE key)) r := hg
  rw [hw] at hg
  obtain ⟨B, d, rfl, o2, _, _⟩ := hg
  have e0 : (ByteArray.toList ⟨want.toArray⟩ == ByteArray.toList (ByteArray.mk #[])) = decide (want = []) := eq_str want []
  rw [e0]
  refine ⟨_, _, _, _, rfl, brd (fun _ => ⟨_, _, to_str bt o2.imm0 d, by rw [eq_str, decide_eq_true rfl], e1.trans' e2⟩) fun hh => absurd (by rw [decide_eq_false hn]; rfl) hh⟩
theorem puts_spec (h : Sto T u s ⟨A, D, ms⟩) {id : Int} {es : Es} (hg : gF (foD D) id = some es) (hroom : 2 * sizeF (foD D) + 1 ≤ A.most) {key val : Key} (hk : key.length ≤ 1048576) (hv : val.length ≤ 1048576) :
    CallsV Try.prog 28 #[.pointer (some ⟨s, 0, none⟩), .int .i64 id, .string ⟨key.toArray⟩, .string ⟨val.toArray⟩] u fun r u' => r = .bool true ∧ ∃ A' D' T', Sto T' u' s ⟨A', D', ms⟩ ∧ Tch T u T' u' ∧ Same A A' ∧ foD D' = upF (foD D) id (insE key val es) := by
  refine cardindexlaw05_puts.calls okay ?_
  unfold cardindexlaw05_puts.W
  refine (b_spec u key hk).mono ?_
  rintro _ u1 ⟨KA, kc, rfl, o1, e1, _⟩
  refine ⟨_, _, _, rfl, (b_spec u1 val hv).mono ?_⟩
  rintro _ u2 ⟨VA, vc, rfl, o2, e2, _⟩
  have e12 := e1.trans' e2
  refine ⟨_, _, _, rfl, (kPut (h.ext e12) hg hroom hk hv (o1.ext e2).imm0 o2.imm0 kc vc).mono ?_⟩
  rintro _ u3 ⟨rfl, A', D', T', h', c, hs, hF⟩
  exact ⟨_, _, rfl, rfl, A', D', T', h', (Tch.ext e12).trans c, hs, hF⟩
theorem marks_spec (h : Sto T u s ⟨A, D, ms⟩) (hl : ms.length < 100) (n : Int) (hn : n = (ms.length : Int) + 1) :
    CallsV Try.prog 27 #[.pointer (some ⟨s, 0, none⟩), .int .i64 n] u fun r u' => r = .bool true ∧ ∃ T', Sto T' u' s ⟨A, D, ms ++ [(A, D)]⟩ ∧ Tch T u T' u' := by
  refine cardindexlaw05_marks.calls okay ?_
  unfold cardindexlaw05_marks.W
  refine (aMark h).mono ?_
  rintro _ u1 (⟨hge, _⟩ | ⟨_, rfl, T', h', c⟩)
  · exact absurd hge (by show ¬ 100 ≤ ms.length; omega)
  · refine ⟨_, _, rfl, brd (fun _ => brd (fun _ => (sMarks h').same ⟨_, rfl, ?_, T', h', c⟩) fun h => absurd rfl h) fun hne => absurd (by rw [hn]; rfl) hne⟩
    rw [decide_eq_true]
    show ((ms ++ [(A, D)]).length : Int) = n
    rw [hn]; simp
theorem SameInts_spec {w : World} {Ω Ω' : Nat → Prop} {A B : Option Addr} {c d : Nat} {l m : List Int} (h : Imm KI Ω w A l) (h' : Imm KI Ω' w B m) (hl : l.length ≤ 1000000) :
    CallsV Try.prog 32 #[.slice A l.length c, .slice B m.length d] w fun r w' => r = .bool (decide (l = m)) ∧ Ext w w' := by
  refine cardindexlow_SameInts.calls okay ?_
  unfold cardindexlow_SameInts.W
  refine brn (fun hne => ?_) (fun he => ?_)
  · rw [decide_eq_false fun e => hne (by rw [e])]; exact ⟨rfl, .refl _ _⟩
  · have hlm : l.length = m.length := by omega
    refine ⟨fun x u => ∃ j : Nat, j ≤ l.length ∧ x = (j : Int) - 1 ∧ Ext w u ∧ l.drop j = m.drop j, fun x _ => (x + 1).toNat, ⟨l.length, Nat.le_refl _, wi _ (by omega) (by omega), .refl _ _, by rw [List.drop_length, hlm, List.drop_length]⟩, ?_⟩
    rintro _ u ⟨j, hj, rfl, e, hd⟩
    refine brd (fun hpos => ?_) (fun hneg => ?_)
    · obtain ⟨i, rfl⟩ : ∃ i, j = i + 1 := ⟨j - 1, by omega⟩
      have hi : ((i + 1 : Nat) : Int) - 1 = (i : Int) := by omega
      rw [hi]
      obtain ⟨ad, hA, c0⟩ := itemI h (j := i) (by omega)
      obtain ⟨bd, hB, c1⟩ := itemI h' (j := i) (by omega)
      have ed : Ext w u.drew := e.drew
      refine ⟨ad, hA, ⟨by omega, by omega⟩, fun v => Ext w v, ed, _, fun v ev => by rw [Int.toNat_natCast]; exact Ext.cell ev c0, bd, hB, ⟨by omega, by omega⟩, _, fun v ev => by rw [Int.toNat_natCast]; exact Ext.cell ev c1, brn (fun hne => ?_) (fun heq => ?_)⟩
      · rw [decide_eq_false]
        · exact ⟨rfl, ed⟩
        · rintro rfl; exact hne rfl
      · rw [wi _ (by omega) (by omega)]
        refine ⟨⟨i, by omega, rfl, ed, ?_⟩, by dsimp only; omega⟩
        rw [List.drop_eq_getElem_cons (show i < l.length by omega), List.drop_eq_getElem_cons (show i < m.length by omega), heq, hd]
    · obtain rfl : j = 0 := by omega
      rw [decide_eq_true (by simpa using hd)]
      exact ⟨rfl, e⟩
end
set_option maxRecDepth 100000 in
set_option maxHeartbeats 1000000 in
theorem awake_spec (w : World) : CallsV Try.prog 23 #[] w fun r w' => r = .bool true ∧ Ext w w' := by
  refine cardindexlaw05_awake.calls okay ?_
  unfold cardindexlaw05_awake.W
  refine (aNew w 4 100 (by decide) (by decide) (by decide) (by decide)).mono ?_
  rintro _ u0 ⟨s, T0, rfl, h0, e0, t0⟩
  refine ⟨_, _, rfl, (kCreate h0 (by decide) (by decide) (by decide)).mono ?_⟩
  rintro _ u1 ⟨rfl, A1, D1, T1, h1, c1, f1, m1, l1, F1⟩
  obtain ⟨x1, t1⟩ := c1.keepExt e0 t0
  replace F1 : foD D1 = [(1, [])] := F1
  replace m1 : A1.most = 100 := m1
  replace l1 : A1.last = 1 := l1
  refine ⟨_, _, rfl, brn (fun h => absurd rfl h) fun _ => brn (fun h => absurd rfl h) fun _ => brn (fun h => absurd rfl h) fun _ => ?_⟩
  refine (puts_spec (es := []) (key := [97]) (val := [49]) h1 (id := 1) (by rw [F1]; rfl) (by rw [F1, m1]; decide) (by decide) (by decide)).mono ?_
  rintro _ u2 ⟨rfl, A2, D2, T2, h2, c2, s2, F2⟩
  obtain ⟨x2, t2⟩ := c2.keepExt x1 t1
  rw [F1] at F2
  replace F2 : foD D2 = [(1, [([97], [49])])] := F2
  have m2 := s2.most.trans m1
  have l2 := s2.last.trans l1
  refine ⟨_, rfl, brnb (fun h => by cases h) fun _ => (marks_spec h2 (by decide) 1 rfl).mono ?_⟩
  rintro _ u3 ⟨rfl, T3, h3, c3⟩
  obtain ⟨x3, t3⟩ := c3.keepExt x2 t2
  refine ⟨_, rfl, brnb (fun h => by cases h) fun _ => (puts_spec (es := [([97], [49])]) (key := [97]) (val := [50]) h3 (id := 1) (by rw [F2]; rfl) (by rw [F2, m2]; decide) (by decide) (by decide)).mono ?_⟩
  rintro _ u4 ⟨rfl, A4, D4, T4, h4, c4, s4, F4⟩
  obtain ⟨x4, t4⟩ := c4.keepExt x3 t3
  rw [F2] at F4
  replace F4 : foD D4 = [(1, [([97], [50])])] := F4
  have m4 := s4.most.trans m2
  have l4 := s4.last.trans l2
  refine ⟨_, rfl, brnb (fun h => by cases h) fun _ => (puts_spec (es := [([97], [50])]) (key := [98]) (val := [51]) h4 (id := 1) (by rw [F4]; rfl) (by rw [F4, m4]; decide) (by decide) (by decide)).mono ?_⟩
  rintro _ u5 ⟨rfl, A5, D5, T5, h5, c5, s5, F5⟩
  obtain ⟨x5, t5⟩ := c5.keepExt x4 t4
  rw [F4] at F5
  replace F5 : foD D5 = [(1, [([97], [50]), ([98], [51])])] := F5
  have m5 := s5.most.trans m4
  have l5 := s5.last.trans l4
  refine ⟨_, rfl, brnb (fun h => by cases h) fun _ => (marks_spec h5 (show 1 < 100 by decide) 2 rfl).mono ?_⟩
  rintro _ u6 ⟨rfl, T6, h6, c6⟩
  obtain ⟨x6, t6⟩ := c6.keepExt x5 t5
  refine ⟨_, rfl, brnb (fun h => by cases h) fun _ => (b_spec u6 [97] (by decide)).mono ?_⟩
  rintro _ u7 ⟨KA, kc, rfl, o7, e7, _⟩
  refine ⟨_, _, _, rfl, (kDel (h6.ext e7) (es := [([97], [50]), ([98], [51])]) (id := 1) (by rw [F5]; rfl) [97] o7.imm0 kc).mono ?_⟩
  rintro _ u8 ⟨rfl, A8, D8, T8, h8, c8, s8, F8⟩
  obtain ⟨x8, t8⟩ := c8.keepExt (x6.trans' e7) t6
  rw [F5] at F8
  replace F8 : foD D8 = [(1, [([98], [51])])] := F8
  have m8 := s8.most.trans m5
  have l8 := s8.last.trans l5
  refine ⟨_, _, rfl, (kCreate h8 (by rw [l8]; decide) (by rw [F8, m8]; decide) (by have : (foD D8).length = 1 := by rw [F8]; rfl
                                                                                   rw [List.length_map] at this; omega)).mono ?_⟩
  rintro _ u9 ⟨rfl, A9, D9, T9, h9, c9, _, _, _, _⟩
  obtain ⟨x9, t9⟩ := c9.keepExt x8 t8
  rw [l8]
  refine ⟨_, _, rfl, brnb (fun h => absurd h (by decide)) fun _ => brn (fun h => absurd rfl h) fun _ => brn (fun h => absurd rfl h) fun _ => brn (fun h => absurd rfl h) fun _ => (aBack h9 2).mono ?_⟩
  rintro _ u10 (⟨hb, _⟩ | ⟨_, _, rfl, B, D', T10, hms, h10, c10⟩)
  · exact absurd hb (by show ¬ ((2 : Int) < 1 ∨ ((2 : Nat) : Int) < 2); decide)
  obtain ⟨rfl, rfl⟩ : B = A5 ∧ D' = D5 := by have := Option.some.inj hms; exact ⟨(Prod.mk.inj this).1.symm, (Prod.mk.inj this).2.symm⟩
  obtain ⟨x10, t10⟩ := c10.keepExt x9 t9
  refine ⟨_, rfl, brn (fun h => absurd rfl h) fun _ => (is5_spec h10 1 [97] [50] (by decide) (by rw [F5]; rfl) (by decide)).mono ?_⟩
  rintro _ u11 ⟨rfl, e11⟩
  refine ⟨_, rfl, brnb (fun h => by cases h) fun _ => (is5_spec (h10.ext e11) 1 [98] [51] (by decide) (by rw [F5]; rfl) (by decide)).mono ?_⟩
  rintro _ u12 ⟨rfl, e12⟩
  have h12 := (h10.ext e11).ext e12
  refine ⟨_, rfl, brnb (fun h => by cases h) fun _ => (sTrees h12).mono ?_⟩
  rintro _ u13 ⟨IA, ic, rfl, o13, e13, _⟩
  have hids : idsD D' = [1] := by
    have : (foD D').map (fun p => p.1) = [1] := by rw [F5]; rfl
    rw [← this]; simp [foD, fo, idsD]
  replace o13 : OwnK KI u13 IA ic (idsD D') := o13
  rw [show idsD (⟨B, D', [(A2, D2)]⟩ : Ab).D = [1] from hids]
  rw [hids] at o13
  refine ⟨_, _, _, rfl, ?_⟩
  intro gx u14 f14
  refine (SameInts_spec (l := [1]) (m := [1]) (d := 1) ((o13.imm KI_pos).ext KI_pos f14.ext) (f14.imm (Ω := NoB) (fun h => h) KI_pos rfl (by simp [maxLen]) (fun i a ha => by cases i with | zero => simp at ha; subst ha; rfl | succ i => simp at ha)) (by decide)).mono ?_
  rintro _ u15 ⟨rfl, e15⟩
  have h15 := ((h12.ext e13).ext f14.ext).ext e15
  have x15 : Ext w u15 := ((((x10.trans' e11).trans' e12).trans' e13).trans' f14.ext).trans' e15
  refine ⟨_, rfl, brnb (fun h => absurd h (by decide)) fun _ => (aBack h15 1).mono ?_⟩
  rintro _ u16 (⟨hb, _⟩ | ⟨_, _, rfl, B2, D2', T16, hms, h16, c16⟩)
  · exact absurd hb (by show ¬ ((1 : Int) < 1 ∨ ((1 : Nat) : Int) < 1); decide)
  obtain ⟨rfl, rfl⟩ : B2 = A2 ∧ D2' = D2 := by have := Option.some.inj hms; exact ⟨(Prod.mk.inj this).1.symm, (Prod.mk.inj this).2.symm⟩
  obtain ⟨x16, t16⟩ := c16.keepExt x15 t10
  refine ⟨_, rfl, brn (fun h => absurd rfl h) fun _ => (is5_spec h16 1 [97] [49] (by decide) (by rw [F2]; rfl) (by decide)).mono ?_⟩
  rintro _ u17 ⟨rfl, e17⟩
  refine ⟨_, rfl, brnb (fun h => by cases h) fun _ => (sLen (h16.ext e17) 1).mono ?_⟩
  rintro _ u18 ⟨rfl, e18⟩
  have h18 := (h16.ext e17).ext e18
  refine ⟨_, rfl, brn (fun h => absurd (by show ((lenO (gF (foD D2') 1) : Nat) : Int) = 1; rw [F2]; rfl) h) fun _ => (aBack h18 1).mono ?_⟩
  rintro r19 u19 h19
  obtain ⟨rfl, rfl⟩ : r19 = .int .i64 60 ∧ u19 = u18 := h19.elim (fun h => ⟨h.2.1, h.2.2⟩) fun h => absurd h.2.1 (by show ¬ ((1 : Int) ≤ ((0 : Nat) : Int)); decide)
  refine ⟨_, rfl, brn (fun h => absurd rfl h) fun _ => (marks_spec h18 (show 0 < 100 by decide) 1 rfl).mono ?_⟩
  rintro _ u20 ⟨rfl, T20, h20, c20⟩
  obtain ⟨x20, t20⟩ := c20.keepExt ((x16.trans' e17).trans' e18) t16
  refine ⟨_, rfl, brnb (fun h => by cases h) fun _ => (puts_spec (es := [([97], [49])]) (key := [99]) (val := [52]) h20 (id := 1) (by rw [F2]; rfl) (by rw [F2, m2]; decide) (by decide) (by decide)).mono ?_⟩
  rintro _ u21 ⟨rfl, A21, D21, T21, h21, c21, s21, F21⟩
  obtain ⟨x21, t21⟩ := c21.keepExt x20 t20
  rw [F2] at F21
  replace F21 : foD D21 = [(1, [([97], [49]), ([99], [52])])] := F21
  refine ⟨_, rfl, brnb (fun h => by cases h) fun _ => (aFree h21 1).mono ?_⟩
  rintro _ u22 (⟨hb, _⟩ | ⟨_, _, rfl, T22, h22, c22⟩)
  · exact absurd hb (by show ¬ ((1 : Int) < 1 ∨ ((1 : Nat) : Int) < 1); decide)
  obtain ⟨x22, t22⟩ := c22.keepExt x21 t21
  replace h22 : Sto T22 u22 s ⟨A21, D21, []⟩ := h22
  refine ⟨_, rfl, brd (fun _ => (is5_spec h22 1 [97] [49] (by decide) (by rw [F21]; rfl) (by decide)).mono ?_) fun h => absurd rfl h⟩
  rintro _ u23 ⟨rfl, e23⟩
  refine ⟨_, rfl, br (fun _ => (is5_spec (h22.ext e23) 1 [99] [52] (by decide) (by rw [F21]; rfl) (by decide)).mono ?_) fun h => by cases h⟩
  rintro _ u24 ⟨rfl, e24⟩
  refine ⟨_, rfl, br (fun _ => (sMarks ((h22.ext e23).ext e24)).same ⟨_, rfl, rfl, (x22.trans' e23).trans' e24⟩) fun h => by cases h⟩
end Go.Proofs.Ythfagbfllheneaa
/- The preconditions of Go functions, printed by a program of this workplace (nests.py); each is proved to be the engine's own. -/
set_option linter.unusedVariables false
set_option maxRecDepth 100000
namespace Go.Proofs.Ythfagbfllheneaa
open Go Go.Sx
noncomputable def cardindexlaw05_UndoFree.W : Option Addr → Nat → Nat → World → (Value → World → Prop) → Prop := fun (ops_A : Option Addr) (ops_n ops_c : Nat) (w : World) (K : Value → World
 → Prop) => CallsV Try.prog (15 : Nat) #[Value.int IntKind.i64 (4 : Int), Value.int IntKind.i64 (1000 : Int)] w fun (v : Value) (w' : World) => ∃ (x : Option Addr),
 ∃ (x_1 : Int), v = Value.tuple #[Value.pointer x, Value.int IntKind.i64 x_1] ∧ CallsV Try.prog (15 : Nat) #[Value.int IntKind.i64 (4 : Int), Value.int
 IntKind.i64 (1000 : Int)] w' fun (v : Value) (w' : World) => ∃ (x_2 : Option Addr), ∃ (x_3 : Int), v = Value.tuple #[Value.pointer x_2, Value.int IntKind.i64 x_3] ∧ bif
 !Decidable.decide (x_1 = (0 : Int)) then K (Value.bool Bool.false) w' else bif !Decidable.decide (x_3 = (0 : Int)) then K (Value.bool Bool.false) w' else ∃ (I : Int → World → Prop), ∃ (μ : Int
 → World → Nat), I (0 : Int) w' ∧ ∀ (x_4 : Int) (w : World), I x_4 w → bif Decidable.decide (x_4 < (↑ops_n : Int)) then bif Decidable.decide (x_4 < (60 : Int)) then ∃ (ad : Addr), ops_A =
 Option.some ad ∧ ((0 : Int) ≤ x_4 ∧ x_4 < (↑ops_n : Int)) ∧ ∃ (x_5 : Int), World.cell? w (Addr.add (Addr.add ad (Int.toNat x_4 * (5 : Nat))) (0 : Nat)) = Option.some (Value.int
 IntKind.i64 x_5) ∧ ∃ (x_6 : Int), World.cell? w (Addr.add (Addr.add ad (Int.toNat x_4 * (5 : Nat))) (1 : Nat)) = Option.some (Value.int IntKind.i64 x_6) ∧ ∃ (x_7 : Int),
 World.cell? w (Addr.add (Addr.add ad (Int.toNat x_4 * (5 : Nat))) (2 : Nat)) = Option.some (Value.int IntKind.i64 x_7) ∧ ∃ (x_8 : Option Addr), ∃ (x_9 : Nat), ∃ (x_10 : Nat),
 World.cell? w (Addr.add (Addr.add ad (Int.toNat x_4 * (5 : Nat))) (3 : Nat)) = Option.some (Value.slice x_8 x_9 x_10) ∧ ∃ (x_11 : Option Addr), ∃ (x_12 : Nat), ∃ (x_13 : Nat),
 World.cell? w (Addr.add (Addr.add ad (Int.toNat x_4 * (5 : Nat))) (4 : Nat)) = Option.some (Value.slice x_11 x_12 x_13) ∧ CallsV Try.prog (16 : Nat) #[Value.agg
 #[Value.int IntKind.i64 x_5, Value.int IntKind.i64 x_6, Value.int IntKind.i64 x_7, Value.slice x_8 x_9 x_10, Value.slice x_11 x_12 x_13]] w fun (v : Value) (w' : World) =>
 ∃ (x_14 : Bool), v = Value.bool x_14 ∧ bif !x_14 then I (IntKind.wrap IntKind.i64 (x_4 + (1 : Int))) w' ∧ μ (IntKind.wrap IntKind.i64 (x_4 + (1 : Int))) w' < μ x_4 w else ∃ (ad :
 Addr), ops_A = Option.some ad ∧ ((0 : Int) ≤ x_4 ∧ x_4 < (↑ops_n : Int)) ∧ ∃ (x_15 : Int), World.cell? w' (Addr.add (Addr.add ad (Int.toNat x_4 * (5 : Nat))) (0 : Nat)) = Option.some
 (Value.int IntKind.i64 x_15) ∧ ∃ (x_16 : Int), World.cell? w' (Addr.add (Addr.add ad (Int.toNat x_4 * (5 : Nat))) (1 : Nat)) = Option.some (Value.int IntKind.i64 x_16) ∧ ∃ (x_17 :
 Int), World.cell? w' (Addr.add (Addr.add ad (Int.toNat x_4 * (5 : Nat))) (2 : Nat)) = Option.some (Value.int IntKind.i64 x_17) ∧ ∃ (x_18 : Option Addr), ∃ (x_19 : Nat), ∃ (x_20 :
 Nat), World.cell? w' (Addr.add (Addr.add ad (Int.toNat x_4 * (5 : Nat))) (3 : Nat)) = Option.some (Value.slice x_18 x_19 x_20) ∧ ∃ (x_21 : Option Addr), ∃ (x_22 : Nat), ∃ (x_23 : Nat),
 World.cell? w' (Addr.add (Addr.add ad (Int.toNat x_4 * (5 : Nat))) (4 : Nat)) = Option.some (Value.slice x_21 x_22 x_23) ∧ CallsV Try.prog (17 : Nat) #[Value.pointer x,
 Value.agg #[Value.int IntKind.i64 x_15, Value.int IntKind.i64 x_16, Value.int IntKind.i64 x_17, Value.slice x_18 x_19 x_20, Value.slice x_21 x_22 x_23]] w' fun (v : Value)
 (w' : World) => v = Value.tuple #[] ∧ CallsV Try.prog (18 : Nat) #[Value.pointer x_2] w' fun (v : Value) (w' : World) => ∃ (x_24 : Int), ∃ (x_25 : Int), v =
 Value.tuple #[Value.int IntKind.i64 x_24, Value.int IntKind.i64 x_25] ∧ ∃ (ad : Addr), ops_A = Option.some ad ∧ ((0 : Int) ≤ x_4 ∧ x_4 < (↑ops_n : Int)) ∧ ∃ (x_26 : Int),
 World.cell? w' (Addr.add (Addr.add ad (Int.toNat x_4 * (5 : Nat))) (0 : Nat)) = Option.some (Value.int IntKind.i64 x_26) ∧ ∃ (x_27 : Int), World.cell? w' (Addr.add (Addr.add ad
 (Int.toNat x_4 * (5 : Nat))) (1 : Nat)) = Option.some (Value.int IntKind.i64 x_27) ∧ ∃ (x_28 : Int), World.cell? w' (Addr.add (Addr.add ad (Int.toNat x_4 * (5 : Nat))) (2 : Nat)) =
 Option.some (Value.int IntKind.i64 x_28) ∧ ∃ (x_29 : Option Addr), ∃ (x_30 : Nat), ∃ (x_31 : Nat), World.cell? w' (Addr.add (Addr.add ad (Int.toNat x_4 * (5 : Nat))) (3 : Nat)) =
 Option.some (Value.slice x_29 x_30 x_31) ∧ ∃ (x_32 : Option Addr), ∃ (x_33 : Nat), ∃ (x_34 : Nat), World.cell? w' (Addr.add (Addr.add ad (Int.toNat x_4 * (5 : Nat))) (4 : Nat)) =
 Option.some (Value.slice x_32 x_33 x_34) ∧ CallsV Try.prog (17 : Nat) #[Value.pointer x_2, Value.agg #[Value.int IntKind.i64 x_26, Value.int IntKind.i64 x_27,
 Value.int IntKind.i64 x_28, Value.slice x_29 x_30 x_31, Value.slice x_32 x_33 x_34]] w' fun (v : Value) (w' : World) => v = Value.tuple #[] ∧ bif !Decidable.decide (x_25 = (0 :
 Int)) then K (Value.bool Bool.false) w' else ∃ (J : World → Prop), (∀ (w_1 : World), J w_1 → CallsV Try.prog (22 : Nat) #[Value.pointer x] w_1 fun (v : Value) (w' :
 World) => ∃ (x : Option Addr), ∃ (x_35 : Nat), ∃ (x_36 : Nat), ∃ (x_37 : Option Addr), ∃ (x_38 : Nat), ∃ (x_39 : Nat), ∃ (x_40 : Int), ∃ (x_41 : Int), v = Value.agg #[Value.slice x x_35
 x_36, Value.slice x_37 x_38 x_39, Value.int IntKind.i64 x_40, Value.int IntKind.i64 x_41] ∧ CallsV Try.prog (22 : Nat) #[Value.pointer x_2] w' fun (v : Value) (w' :
 World) => ∃ (x_42 : Option Addr), ∃ (x_43 : Nat), ∃ (x_44 : Nat), ∃ (x_45 : Option Addr), ∃ (x_46 : Nat), ∃ (x_47 : Nat), ∃ (x_48 : Int), ∃ (x_49 : Int), v = Value.agg #[Value.slice x_42
 x_43 x_44, Value.slice x_45 x_46 x_47, Value.int IntKind.i64 x_48, Value.int IntKind.i64 x_49] ∧ CallsV Try.prog (21 : Nat) #[Value.agg #[Value.slice x x_35 x_36,
 Value.slice x_37 x_38 x_39, Value.int IntKind.i64 x_40, Value.int IntKind.i64 x_41], Value.agg #[Value.slice x_42 x_43 x_44, Value.slice x_45 x_46 x_47, Value.int
 IntKind.i64 x_48, Value.int IntKind.i64 x_49]] w' fun (v : Value) (w' : World) => ∃ (x : Bool), v = Value.bool x ∧ bif !x then K (Value.bool Bool.false) w' else I (IntKind.wrap
 IntKind.i64 (x_4 + (1 : Int))) w' ∧ μ (IntKind.wrap IntKind.i64 (x_4 + (1 : Int))) w' < μ x_4 w) ∧ ∃ (ad : Addr), ops_A = Option.some ad ∧ ((0 : Int) ≤ x_4 ∧ x_4 < (↑ops_n : Int)) ∧ ∃ (x :
 Int), World.cell? w' (Addr.add (Addr.add ad (Int.toNat x_4 * (5 : Nat))) (2 : Nat)) = Option.some (Value.int IntKind.i64 x) ∧ (3 : Int) ≠ (0 : Int) ∧ bif !Decidable.decide (Int.tmod x (3
 : Int) = (0 : Int)) then ∃ (ad : Addr), ops_A = Option.some ad ∧ ((0 : Int) ≤ x_4 ∧ x_4 < (↑ops_n : Int)) ∧ ∃ (x : Int), World.cell? w' (Addr.add (Addr.add ad (Int.toNat x_4 * (5 : Nat)))
 (2 : Nat)) = Option.some (Value.int IntKind.i64 x) ∧ CallsV Try.prog (20 : Nat) #[Value.int IntKind.i64 x, Value.int IntKind.i64 x_24] w' fun (v : Value) (w' :
 World) => ∃ (x : Int), v = Value.int IntKind.i64 x ∧ CallsV Try.prog (19 : Nat) #[Value.pointer x_2, Value.int IntKind.i64 (IntKind.wrap IntKind.i64 ((1 : Int) +
 x))] w' fun (v : Value) (w' : World) => ∃ (x : Int), v = Value.int IntKind.i64 x ∧ bif !Decidable.decide (x = (0 : Int)) then K (Value.bool Bool.false) w' else J w' else J w' else
 CallsV Try.prog (23 : Nat) #[] w fun (v : Value) (w' : World) => ∃ (x : Bool), v = Value.bool x ∧ K (Value.bool x) w' else CallsV Try.prog (23 : Nat) #[] w
 fun (v : Value) (w' : World) => ∃ (x : Bool), v = Value.bool x ∧ K (Value.bool x) w'
theorem cardindexlaw05_UndoFree.eq (ops_A : Option Addr) (ops_n : Nat) (ops_c : Nat) (w : World) (K : Value → World → Prop) : cardindexlaw05_UndoFree.W ops_A ops_n ops_c w K = fnW Try.prog Try.f3 (.named (.seq .auto (.seq .auto (.seq .auto (.seq .auto (.seq (.seq .auto (.block (.loop [(7, .one (.int .i64))] (.seq .auto (.seq (.block (.seq .auto (.seq .auto (.seq .auto (.seq .auto (.seq .auto (.join [] .auto .auto))))))) .auto))))) .auto)))))) [.slice ops_A ops_n ops_c] w K := by kernel_rfl
theorem cardindexlaw05_UndoFree.calls (ok : Okay Try.prog) {ops_A : Option Addr} {ops_n : Nat} {ops_c : Nat} {w : World} {K : Value → World → Prop} (h : cardindexlaw05_UndoFree.W ops_A ops_n ops_c w K) : CallsV Try.prog 3 #[.slice ops_A ops_n ops_c] w K :=
  fnW_calls ok Try.func3 (an := (.named (.seq .auto (.seq .auto (.seq .auto (.seq .auto (.seq (.seq .auto (.block (.loop [(7, .one (.int .i64))] (.seq .auto (.seq (.block (.seq .auto (.seq .auto (.seq .auto (.seq .auto (.seq .auto (.join [] .auto .auto))))))) .auto))))) .auto))))))) (args := [.slice ops_A ops_n ops_c]) (by rw [← cardindexlaw05_UndoFree.eq]; exact h)
noncomputable def cardindexlaw05_UndoNested.W : Option Addr → Nat → Nat → Int → World → (Value → World → Prop) → Prop := fun (ops_A : Option Addr) (ops_n ops_c : Nat) (to : Int) (w : World) (K :
 Value → World → Prop) => CallsV Try.prog (15 : Nat) #[Value.int IntKind.i64 (4 : Int), Value.int IntKind.i64 (1000 : Int)] w fun (v : Value) (w' : World) => ∃ (x
 : Option Addr), ∃ (x_1 : Int), v = Value.tuple #[Value.pointer x, Value.int IntKind.i64 x_1] ∧ CallsV Try.prog (15 : Nat) #[Value.int IntKind.i64 (4 : Int),
 Value.int IntKind.i64 (1000 : Int)] w' fun (v : Value) (w' : World) => ∃ (x_2 : Option Addr), ∃ (x_3 : Int), v = Value.tuple #[Value.pointer x_2, Value.int IntKind.i64 x_3] ∧
 bif !Decidable.decide (x_1 = (0 : Int)) then K (Value.bool Bool.false) w' else bif !Decidable.decide (x_3 = (0 : Int)) then K (Value.bool Bool.false) w' else ∃ (J : World → Prop), (∀ (w :
 World), J w → CallsV Try.prog (24 : Nat) #[Value.pointer x] w fun (v : Value) (w' : World) => ∃ (x_4 : Int), v = Value.int IntKind.i64 x_4 ∧ bif Decidable.decide (x_4
 = (0 : Int)) then CallsV Try.prog (23 : Nat) #[] w' fun (v : Value) (w' : World) => ∃ (x : Bool), v = Value.bool x ∧ K (Value.bool x) w' else CallsV Try.prog
 (24 : Nat) #[Value.pointer x] w' fun (v : Value) (w' : World) => ∃ (x_5 : Int), v = Value.int IntKind.i64 x_5 ∧ CallsV Try.prog (20 : Nat) #[Value.int IntKind.i64
 to, Value.int IntKind.i64 x_5] w' fun (v : Value) (w' : World) => ∃ (x_6 : Int), v = Value.int IntKind.i64 x_6 ∧ CallsV Try.prog (25 : Nat) #[Value.pointer x,
 Value.int IntKind.i64 (IntKind.wrap IntKind.i64 ((1 : Int) + x_6))] w' fun (v : Value) (w' : World) => ∃ (x_7 : Int), v = Value.int IntKind.i64 x_7 ∧ bif !Decidable.decide (x_7
 = (0 : Int)) then K (Value.bool Bool.false) w' else ∃ (I : World → Prop), ∃ (μ : World → Nat), I w' ∧ ∀ (w : World), I w → CallsV Try.prog (24 : Nat) #[Value.pointer x_2]
 w fun (v : Value) (w' : World) => ∃ (x_8 : Int), v = Value.int IntKind.i64 x_8 ∧ bif Decidable.decide (IntKind.wrap IntKind.i64 ((1 : Int) + x_6) ≤ x_8) then CallsV
 Try.prog (24 : Nat) #[Value.pointer x_2] w' fun (v : Value) (w' : World) => ∃ (x : Int), v = Value.int IntKind.i64 x ∧ CallsV Try.prog (25 : Nat)
 #[Value.pointer x_2, Value.int IntKind.i64 x] w' fun (v : Value) (w' : World) => ∃ (x_9 : Int), v = Value.int IntKind.i64 x_9 ∧ bif !Decidable.decide (x_9 = (0 : Int)) then K
 (Value.bool Bool.false) w' else CallsV Try.prog (24 : Nat) #[Value.pointer x_2] w' fun (v : Value) (w' : World) => ∃ (x_10 : Int), v = Value.int IntKind.i64 x_10 ∧ bif
 !Decidable.decide (x_10 = IntKind.wrap IntKind.i64 (x - (1 : Int))) then K (Value.bool Bool.false) w' else I w' ∧ μ w' < μ w else CallsV Try.prog (22 : Nat) #[Value.pointer
 x] w' fun (v : Value) (w' : World) => ∃ (x_9 : Option Addr), ∃ (x_10 : Nat), ∃ (x_11 : Nat), ∃ (x_12 : Option Addr), ∃ (x_13 : Nat), ∃ (x_14 : Nat), ∃ (x_15 : Int), ∃ (x_16 : Int), v =
 Value.agg #[Value.slice x_9 x_10 x_11, Value.slice x_12 x_13 x_14, Value.int IntKind.i64 x_15, Value.int IntKind.i64 x_16] ∧ CallsV Try.prog (22 : Nat)
 #[Value.pointer x_2] w' fun (v : Value) (w' : World) => ∃ (x_17 : Option Addr), ∃ (x_18 : Nat), ∃ (x_19 : Nat), ∃ (x_20 : Option Addr), ∃ (x_21 : Nat), ∃ (x_22 : Nat), ∃ (x_23 : Int), ∃
 (x_24 : Int), v = Value.agg #[Value.slice x_17 x_18 x_19, Value.slice x_20 x_21 x_22, Value.int IntKind.i64 x_23, Value.int IntKind.i64 x_24] ∧ CallsV Try.prog (21
 : Nat) #[Value.agg #[Value.slice x_9 x_10 x_11, Value.slice x_12 x_13 x_14, Value.int IntKind.i64 x_15, Value.int IntKind.i64 x_16], Value.agg #[Value.slice x_17 x_18 x_19,
 Value.slice x_20 x_21 x_22, Value.int IntKind.i64 x_23, Value.int IntKind.i64 x_24]] w' fun (v : Value) (w' : World) => ∃ (x_25 : Bool), v = Value.bool x_25 ∧ bif x_25 then
 CallsV Try.prog (24 : Nat) #[Value.pointer x] w' fun (v : Value) (w' : World) => ∃ (x : Int), v = Value.int IntKind.i64 x ∧ bif Decidable.decide (x = IntKind.wrap
 IntKind.i64 (IntKind.wrap IntKind.i64 ((1 : Int) + x_6) - (1 : Int))) then CallsV Try.prog (23 : Nat) #[] w' fun (v : Value) (w' : World) => ∃ (x : Bool), v =
 Value.bool x ∧ K (Value.bool x) w' else K (Value.bool Bool.false) w' else K (Value.bool Bool.false) w') ∧ ∃ (I : Int → World → Prop), ∃ (μ : Int → World → Nat), I (0 : Int) w' ∧ ∀
 (x_4 : Int) (w : World), I x_4 w → bif Decidable.decide (x_4 < (↑ops_n : Int)) then bif Decidable.decide (x_4 < (60 : Int)) then ∃ (J : World → Prop), (∀ (w_1 : World), J w_1 → ∃ (ad :
 Addr), ops_A = Option.some ad ∧ ((0 : Int) ≤ x_4 ∧ x_4 < (↑ops_n : Int)) ∧ ∃ (x_5 : Int), World.cell? w_1 (Addr.add (Addr.add ad (Int.toNat x_4 * (5 : Nat))) (0 : Nat)) = Option.some
 (Value.int IntKind.i64 x_5) ∧ ∃ (x_6 : Int), World.cell? w_1 (Addr.add (Addr.add ad (Int.toNat x_4 * (5 : Nat))) (1 : Nat)) = Option.some (Value.int IntKind.i64 x_6) ∧ ∃ (x_7 :
 Int), World.cell? w_1 (Addr.add (Addr.add ad (Int.toNat x_4 * (5 : Nat))) (2 : Nat)) = Option.some (Value.int IntKind.i64 x_7) ∧ ∃ (x_8 : Option Addr), ∃ (x_9 : Nat), ∃ (x_10 : Nat),
 World.cell? w_1 (Addr.add (Addr.add ad (Int.toNat x_4 * (5 : Nat))) (3 : Nat)) = Option.some (Value.slice x_8 x_9 x_10) ∧ ∃ (x_11 : Option Addr), ∃ (x_12 : Nat), ∃ (x_13 : Nat),
 World.cell? w_1 (Addr.add (Addr.add ad (Int.toNat x_4 * (5 : Nat))) (4 : Nat)) = Option.some (Value.slice x_11 x_12 x_13) ∧ CallsV Try.prog (16 : Nat) #[Value.agg
 #[Value.int IntKind.i64 x_5, Value.int IntKind.i64 x_6, Value.int IntKind.i64 x_7, Value.slice x_8 x_9 x_10, Value.slice x_11 x_12 x_13]] w_1 fun (v : Value) (w' : World)
 => ∃ (x_14 : Bool), v = Value.bool x_14 ∧ bif x_14 then ∃ (ad : Addr), ops_A = Option.some ad ∧ ((0 : Int) ≤ x_4 ∧ x_4 < (↑ops_n : Int)) ∧ ∃ (x_15 : Int), World.cell? w' (Addr.add
 (Addr.add ad (Int.toNat x_4 * (5 : Nat))) (0 : Nat)) = Option.some (Value.int IntKind.i64 x_15) ∧ ∃ (x_16 : Int), World.cell? w' (Addr.add (Addr.add ad (Int.toNat x_4 * (5 : Nat))) (1
 : Nat)) = Option.some (Value.int IntKind.i64 x_16) ∧ ∃ (x_17 : Int), World.cell? w' (Addr.add (Addr.add ad (Int.toNat x_4 * (5 : Nat))) (2 : Nat)) = Option.some (Value.int
 IntKind.i64 x_17) ∧ ∃ (x_18 : Option Addr), ∃ (x_19 : Nat), ∃ (x_20 : Nat), World.cell? w' (Addr.add (Addr.add ad (Int.toNat x_4 * (5 : Nat))) (3 : Nat)) = Option.some (Value.slice
 x_18 x_19 x_20) ∧ ∃ (x_21 : Option Addr), ∃ (x_22 : Nat), ∃ (x_23 : Nat), World.cell? w' (Addr.add (Addr.add ad (Int.toNat x_4 * (5 : Nat))) (4 : Nat)) = Option.some (Value.slice x_21
 x_22 x_23) ∧ CallsV Try.prog (17 : Nat) #[Value.pointer x, Value.agg #[Value.int IntKind.i64 x_15, Value.int IntKind.i64 x_16, Value.int IntKind.i64 x_17,
 Value.slice x_18 x_19 x_20, Value.slice x_21 x_22 x_23]] w' fun (v : Value) (w' : World) => v = Value.tuple #[] ∧ ∃ (ad : Addr), ops_A = Option.some ad ∧ ((0 : Int) ≤ x_4 ∧ x_4 <
 (↑ops_n : Int)) ∧ ∃ (x : Int), World.cell? w' (Addr.add (Addr.add ad (Int.toNat x_4 * (5 : Nat))) (0 : Nat)) = Option.some (Value.int IntKind.i64 x) ∧ ∃ (x_24 : Int), World.cell? w'
 (Addr.add (Addr.add ad (Int.toNat x_4 * (5 : Nat))) (1 : Nat)) = Option.some (Value.int IntKind.i64 x_24) ∧ ∃ (x_25 : Int), World.cell? w' (Addr.add (Addr.add ad (Int.toNat x_4 *
 (5 : Nat))) (2 : Nat)) = Option.some (Value.int IntKind.i64 x_25) ∧ ∃ (x_26 : Option Addr), ∃ (x_27 : Nat), ∃ (x_28 : Nat), World.cell? w' (Addr.add (Addr.add ad (Int.toNat x_4 * (5 :
 Nat))) (3 : Nat)) = Option.some (Value.slice x_26 x_27 x_28) ∧ ∃ (x_29 : Option Addr), ∃ (x_30 : Nat), ∃ (x_31 : Nat), World.cell? w' (Addr.add (Addr.add ad (Int.toNat x_4 * (5 : Nat)))
 (4 : Nat)) = Option.some (Value.slice x_29 x_30 x_31) ∧ CallsV Try.prog (17 : Nat) #[Value.pointer x_2, Value.agg #[Value.int IntKind.i64 x, Value.int IntKind.i64
 x_24, Value.int IntKind.i64 x_25, Value.slice x_26 x_27 x_28, Value.slice x_29 x_30 x_31]] w' fun (v : Value) (w' : World) => v = Value.tuple #[] ∧ I (IntKind.wrap
 IntKind.i64 (x_4 + (1 : Int))) w' ∧ μ (IntKind.wrap IntKind.i64 (x_4 + (1 : Int))) w' < μ x_4 w else I (IntKind.wrap IntKind.i64 (x_4 + (1 : Int))) w' ∧ μ (IntKind.wrap IntKind.i64
 (x_4 + (1 : Int))) w' < μ x_4 w) ∧ (3 : Int) ≠ (0 : Int) ∧ bif Decidable.decide (Int.tmod x_4 (3 : Int) = (0 : Int)) then CallsV Try.prog (18 : Nat) #[Value.pointer x] w fun (v :
 Value) (w' : World) => ∃ (x : Int), ∃ (x_5 : Int), v = Value.tuple #[Value.int IntKind.i64 x, Value.int IntKind.i64 x_5] ∧ CallsV Try.prog (18 : Nat)
 #[Value.pointer x_2] w' fun (v : Value) (w' : World) => ∃ (x : Int), ∃ (x_6 : Int), v = Value.tuple #[Value.int IntKind.i64 x, Value.int IntKind.i64 x_6] ∧ J w' else J w else J
 w else J w
theorem cardindexlaw05_UndoNested.eq (ops_A : Option Addr) (ops_n : Nat) (ops_c : Nat) (to : Int) (w : World) (K : Value → World → Prop) : cardindexlaw05_UndoNested.W ops_A ops_n ops_c to w K = fnW Try.prog Try.f4 (.named (.seq .auto (.seq .auto (.seq .auto (.seq .auto (.join [] (.seq .auto (.block (.loop [(9, .one (.int .i64))] (.seq .auto (.seq (.block (.join [] .auto .auto)) .auto))))) (.seq .auto (.seq .auto (.seq .auto (.seq (.block (.loop [] .auto)) .auto)))))))))) [.slice ops_A ops_n ops_c, .int .i64 to] w K := by kernel_rfl
theorem cardindexlaw05_UndoNested.calls (ok : Okay Try.prog) {ops_A : Option Addr} {ops_n : Nat} {ops_c : Nat} {to : Int} {w : World} {K : Value → World → Prop} (h : cardindexlaw05_UndoNested.W ops_A ops_n ops_c to w K) : CallsV Try.prog 4 #[.slice ops_A ops_n ops_c, .int .i64 to] w K :=
  fnW_calls ok Try.func4 (an := (.named (.seq .auto (.seq .auto (.seq .auto (.seq .auto (.join [] (.seq .auto (.block (.loop [(9, .one (.int .i64))] (.seq .auto (.seq (.block (.join [] .auto .auto)) .auto))))) (.seq .auto (.seq .auto (.seq .auto (.seq (.block (.loop [] .auto)) .auto))))))))))) (args := [.slice ops_A ops_n ops_c, .int .i64 to]) (by rw [← cardindexlaw05_UndoNested.eq]; exact h)
noncomputable def cardindexlaw05_UndoAgain.W : Option Addr → Nat → Nat → Option Addr → Nat → Nat → World → (Value → World → Prop) → Prop := fun (ahead_A : Option Addr) (ahead_n ahead_c : Nat) (ops_A
 : Option Addr) (ops_n ops_c : Nat) (w : World) (K : Value → World → Prop) => CallsV Try.prog (15 : Nat) #[Value.int IntKind.i64 (4 : Int), Value.int IntKind.i64
 (200 : Int)] w fun (v : Value) (w' : World) => ∃ (x : Option Addr), ∃ (x_1 : Int), v = Value.tuple #[Value.pointer x, Value.int IntKind.i64 x_1] ∧ bif !Decidable.decide (x_1 = (0 :
 Int)) then K (Value.bool Bool.false) w' else ∃ (J : World → Prop), (∀ (w : World), J w → ∀ (g : Nat) (w' : World), Fresh w g w' [Value.slice Option.none (0 : Nat) (0 : Nat),
 Value.slice Option.none (0 : Nat) (0 : Nat), Value.int IntKind.i64 (0 : Int), Value.int IntKind.i64 (0 : Int), Value.slice Option.none (0 : Nat) (0 : Nat), Value.slice Option.none
 (0 : Nat) (0 : Nat), Value.int IntKind.i64 (0 : Int), Value.int IntKind.i64 (0 : Int)] (46 : Nat) → ∃ (I : Int → World → Prop), ∃ (μ : Int → World → Nat), I (0 : Int) w' ∧ ∀ (x_2 :
 Int) (w : World), I x_2 w → bif Decidable.decide (x_2 < (2 : Int)) then CallsV Try.prog (18 : Nat) #[Value.pointer x] w fun (v : Value) (w' : World) => ∃ (x_3 : Int), ∃ (x_4
 : Int), v = Value.tuple #[Value.int IntKind.i64 x_3, Value.int IntKind.i64 x_4] ∧ bif !Decidable.decide (x_4 = (0 : Int)) then K (Value.bool Bool.false) w' else bif !Decidable.decide
 (x_3 = (1 : Int)) then K (Value.bool Bool.false) w' else ∃ (J : World → Prop), (∀ (w_1 : World), J w_1 → CallsV Try.prog (22 : Nat) #[Value.pointer x] w_1 fun (v : Value)
 (w' : World) => ∃ (x_5 : Option Addr), ∃ (x_6 : Nat), ∃ (x_7 : Nat), ∃ (x_8 : Option Addr), ∃ (x_9 : Nat), ∃ (x_10 : Nat), ∃ (x_11 : Int), ∃ (x_12 : Int), v = Value.agg #[Value.slice x_5
 x_6 x_7, Value.slice x_8 x_9 x_10, Value.int IntKind.i64 x_11, Value.int IntKind.i64 x_12] ∧ ((0 : Int) ≤ x_2 ∧ x_2 < (↑(2 : Nat) : Int)) ∧ stOK (Addr.add (Addr.mk g (0 :
 Nat) Option.none) (Int.toNat x_2 * (4 : Nat))) (0 : Nat) [Value.slice x_5 x_6 x_7, Value.slice x_8 x_9 x_10, Value.int IntKind.i64 x_11, Value.int IntKind.i64 x_12] w' ∧ ∀ (w'_1 :
 World), w'_1 = setAll (Addr.add (Addr.mk g (0 : Nat) Option.none) (Int.toNat x_2 * (4 : Nat))) (0 : Nat) [Value.slice x_5 x_6 x_7, Value.slice x_8 x_9 x_10, Value.int
 IntKind.i64 x_11, Value.int IntKind.i64 x_12] w' → CallsV Try.prog (25 : Nat) #[Value.pointer x, Value.int IntKind.i64 (1 : Int)] w'_1 fun (v : Value) (w' :
 World) => ∃ (x : Int), v = Value.int IntKind.i64 x ∧ bif !Decidable.decide (x = (0 : Int)) then K (Value.bool Bool.false) w' else I (IntKind.wrap IntKind.i64 (x_2 + (1 : Int))) w' ∧ μ
 (IntKind.wrap IntKind.i64 (x_2 + (1 : Int))) w' < μ x_2 w) ∧ ∃ (I : Int → World → Prop), ∃ (μ : Int → World → Nat), I (0 : Int) w' ∧ ∀ (x_5 : Int) (w : World), I x_5 w → bif
 Decidable.decide (x_5 < (↑ops_n : Int)) then bif Decidable.decide (x_5 < (40 : Int)) then ∃ (ad : Addr), ops_A = Option.some ad ∧ ((0 : Int) ≤ x_5 ∧ x_5 < (↑ops_n : Int)) ∧ ∃ (x_6 : Int),
 World.cell? w (Addr.add (Addr.add ad (Int.toNat x_5 * (5 : Nat))) (0 : Nat)) = Option.some (Value.int IntKind.i64 x_6) ∧ ∃ (x_7 : Int), World.cell? w (Addr.add (Addr.add ad
 (Int.toNat x_5 * (5 : Nat))) (1 : Nat)) = Option.some (Value.int IntKind.i64 x_7) ∧ ∃ (x_8 : Int), World.cell? w (Addr.add (Addr.add ad (Int.toNat x_5 * (5 : Nat))) (2 : Nat)) =
 Option.some (Value.int IntKind.i64 x_8) ∧ ∃ (x_9 : Option Addr), ∃ (x_10 : Nat), ∃ (x_11 : Nat), World.cell? w (Addr.add (Addr.add ad (Int.toNat x_5 * (5 : Nat))) (3 : Nat)) =
 Option.some (Value.slice x_9 x_10 x_11) ∧ ∃ (x_12 : Option Addr), ∃ (x_13 : Nat), ∃ (x_14 : Nat), World.cell? w (Addr.add (Addr.add ad (Int.toNat x_5 * (5 : Nat))) (4 : Nat)) =
 Option.some (Value.slice x_12 x_13 x_14) ∧ CallsV Try.prog (16 : Nat) #[Value.agg #[Value.int IntKind.i64 x_6, Value.int IntKind.i64 x_7, Value.int IntKind.i64
 x_8, Value.slice x_9 x_10 x_11, Value.slice x_12 x_13 x_14]] w fun (v : Value) (w' : World) => ∃ (x_15 : Bool), v = Value.bool x_15 ∧ bif x_15 then ∃ (ad : Addr), ops_A = Option.some
 ad ∧ ((0 : Int) ≤ x_5 ∧ x_5 < (↑ops_n : Int)) ∧ ∃ (x_16 : Int), World.cell? w' (Addr.add (Addr.add ad (Int.toNat x_5 * (5 : Nat))) (0 : Nat)) = Option.some (Value.int IntKind.i64 x_16) ∧
 ∃ (x_17 : Int), World.cell? w' (Addr.add (Addr.add ad (Int.toNat x_5 * (5 : Nat))) (1 : Nat)) = Option.some (Value.int IntKind.i64 x_17) ∧ ∃ (x_18 : Int), World.cell? w' (Addr.add
 (Addr.add ad (Int.toNat x_5 * (5 : Nat))) (2 : Nat)) = Option.some (Value.int IntKind.i64 x_18) ∧ ∃ (x_19 : Option Addr), ∃ (x_20 : Nat), ∃ (x_21 : Nat), World.cell? w' (Addr.add
 (Addr.add ad (Int.toNat x_5 * (5 : Nat))) (3 : Nat)) = Option.some (Value.slice x_19 x_20 x_21) ∧ ∃ (x_22 : Option Addr), ∃ (x_23 : Nat), ∃ (x_24 : Nat), World.cell? w' (Addr.add
 (Addr.add ad (Int.toNat x_5 * (5 : Nat))) (4 : Nat)) = Option.some (Value.slice x_22 x_23 x_24) ∧ CallsV Try.prog (17 : Nat) #[Value.pointer x, Value.agg #[Value.int
 IntKind.i64 x_16, Value.int IntKind.i64 x_17, Value.int IntKind.i64 x_18, Value.slice x_19 x_20 x_21, Value.slice x_22 x_23 x_24]] w' fun (v : Value) (w' : World) => v =
 Value.tuple #[] ∧ I (IntKind.wrap IntKind.i64 (x_5 + (1 : Int))) w' ∧ μ (IntKind.wrap IntKind.i64 (x_5 + (1 : Int))) w' < μ x_5 w else I (IntKind.wrap IntKind.i64 (x_5 + (1 :
 Int))) w' ∧ μ (IntKind.wrap IntKind.i64 (x_5 + (1 : Int))) w' < μ x_5 w else J w else J w else ((0 : Int) ≤ (0 : Int) ∧ (0 : Int) < (↑(2 : Nat) : Int)) ∧ ∃ (x : Option Addr), ∃ (x_3 : Nat), ∃
 (x_4 : Nat), World.cell? w (Addr.add (Addr.add (Addr.mk g (0 : Nat) Option.none) (Int.toNat (0 : Int) * (4 : Nat))) (0 : Nat)) = Option.some (Value.slice x x_3 x_4) ∧ ∃ (x_5 : Option
 Addr), ∃ (x_6 : Nat), ∃ (x_7 : Nat), World.cell? w (Addr.add (Addr.add (Addr.mk g (0 : Nat) Option.none) (Int.toNat (0 : Int) * (4 : Nat))) (1 : Nat)) = Option.some (Value.slice x_5
 x_6 x_7) ∧ ∃ (x_8 : Int), World.cell? w (Addr.add (Addr.add (Addr.mk g (0 : Nat) Option.none) (Int.toNat (0 : Int) * (4 : Nat))) (2 : Nat)) = Option.some (Value.int IntKind.i64 x_8) ∧
 ∃ (x_9 : Int), World.cell? w (Addr.add (Addr.add (Addr.mk g (0 : Nat) Option.none) (Int.toNat (0 : Int) * (4 : Nat))) (3 : Nat)) = Option.some (Value.int IntKind.i64 x_9) ∧ ((0 : Int)
 ≤ (1 : Int) ∧ (1 : Int) < (↑(2 : Nat) : Int)) ∧ ∃ (x_10 : Option Addr), ∃ (x_11 : Nat), ∃ (x_12 : Nat), World.cell? w (Addr.add (Addr.add (Addr.mk g (0 : Nat) Option.none) (Int.toNat (1
 : Int) * (4 : Nat))) (0 : Nat)) = Option.some (Value.slice x_10 x_11 x_12) ∧ ∃ (x_13 : Option Addr), ∃ (x_14 : Nat), ∃ (x_15 : Nat), World.cell? w (Addr.add (Addr.add (Addr.mk g (0 :
 Nat) Option.none) (Int.toNat (1 : Int) * (4 : Nat))) (1 : Nat)) = Option.some (Value.slice x_13 x_14 x_15) ∧ ∃ (x_16 : Int), World.cell? w (Addr.add (Addr.add (Addr.mk g (0 : Nat)
 Option.none) (Int.toNat (1 : Int) * (4 : Nat))) (2 : Nat)) = Option.some (Value.int IntKind.i64 x_16) ∧ ∃ (x_17 : Int), World.cell? w (Addr.add (Addr.add (Addr.mk g (0 : Nat)
 Option.none) (Int.toNat (1 : Int) * (4 : Nat))) (3 : Nat)) = Option.some (Value.int IntKind.i64 x_17) ∧ CallsV Try.prog (21 : Nat) #[Value.agg #[Value.slice x x_3 x_4,
 Value.slice x_5 x_6 x_7, Value.int IntKind.i64 x_8, Value.int IntKind.i64 x_9], Value.agg #[Value.slice x_10 x_11 x_12, Value.slice x_13 x_14 x_15, Value.int IntKind.i64
 x_16, Value.int IntKind.i64 x_17]] w fun (v : Value) (w' : World) => ∃ (x : Bool), v = Value.bool x ∧ bif x then CallsV Try.prog (23 : Nat) #[] w' fun (v : Value) (w'
 : World) => ∃ (x : Bool), v = Value.bool x ∧ K (Value.bool x) w' else K (Value.bool Bool.false) w') ∧ ∃ (I : Int → World → Prop), ∃ (μ : Int → World → Nat), I (0 : Int) w' ∧ ∀ (x_2 :
 Int) (w : World), I x_2 w → bif Decidable.decide (x_2 < (↑ahead_n : Int)) then bif Decidable.decide (x_2 < (25 : Int)) then ∃ (ad : Addr), ahead_A = Option.some ad ∧ ((0 : Int) ≤ x_2 ∧ x_2 <
 (↑ahead_n : Int)) ∧ ∃ (x_3 : Int), World.cell? w (Addr.add (Addr.add ad (Int.toNat x_2 * (5 : Nat))) (0 : Nat)) = Option.some (Value.int IntKind.i64 x_3) ∧ ∃ (x_4 : Int), World.cell?
 w (Addr.add (Addr.add ad (Int.toNat x_2 * (5 : Nat))) (1 : Nat)) = Option.some (Value.int IntKind.i64 x_4) ∧ ∃ (x_5 : Int), World.cell? w (Addr.add (Addr.add ad (Int.toNat x_2 * (5
 : Nat))) (2 : Nat)) = Option.some (Value.int IntKind.i64 x_5) ∧ ∃ (x_6 : Option Addr), ∃ (x_7 : Nat), ∃ (x_8 : Nat), World.cell? w (Addr.add (Addr.add ad (Int.toNat x_2 * (5 : Nat)))
 (3 : Nat)) = Option.some (Value.slice x_6 x_7 x_8) ∧ ∃ (x_9 : Option Addr), ∃ (x_10 : Nat), ∃ (x_11 : Nat), World.cell? w (Addr.add (Addr.add ad (Int.toNat x_2 * (5 : Nat))) (4 : Nat)) =
 Option.some (Value.slice x_9 x_10 x_11) ∧ CallsV Try.prog (16 : Nat) #[Value.agg #[Value.int IntKind.i64 x_3, Value.int IntKind.i64 x_4, Value.int IntKind.i64
 x_5, Value.slice x_6 x_7 x_8, Value.slice x_9 x_10 x_11]] w fun (v : Value) (w' : World) => ∃ (x_12 : Bool), v = Value.bool x_12 ∧ bif x_12 then ∃ (ad : Addr), ahead_A = Option.some
 ad ∧ ((0 : Int) ≤ x_2 ∧ x_2 < (↑ahead_n : Int)) ∧ ∃ (x_13 : Int), World.cell? w' (Addr.add (Addr.add ad (Int.toNat x_2 * (5 : Nat))) (0 : Nat)) = Option.some (Value.int IntKind.i64 x_13)
 ∧ ∃ (x_14 : Int), World.cell? w' (Addr.add (Addr.add ad (Int.toNat x_2 * (5 : Nat))) (1 : Nat)) = Option.some (Value.int IntKind.i64 x_14) ∧ ∃ (x_15 : Int), World.cell? w'
 (Addr.add (Addr.add ad (Int.toNat x_2 * (5 : Nat))) (2 : Nat)) = Option.some (Value.int IntKind.i64 x_15) ∧ ∃ (x_16 : Option Addr), ∃ (x_17 : Nat), ∃ (x_18 : Nat), World.cell? w'
 (Addr.add (Addr.add ad (Int.toNat x_2 * (5 : Nat))) (3 : Nat)) = Option.some (Value.slice x_16 x_17 x_18) ∧ ∃ (x_19 : Option Addr), ∃ (x_20 : Nat), ∃ (x_21 : Nat), World.cell? w'
 (Addr.add (Addr.add ad (Int.toNat x_2 * (5 : Nat))) (4 : Nat)) = Option.some (Value.slice x_19 x_20 x_21) ∧ CallsV Try.prog (17 : Nat) #[Value.pointer x, Value.agg
 #[Value.int IntKind.i64 x_13, Value.int IntKind.i64 x_14, Value.int IntKind.i64 x_15, Value.slice x_16 x_17 x_18, Value.slice x_19 x_20 x_21]] w' fun (v : Value) (w' :
 World) => v = Value.tuple #[] ∧ I (IntKind.wrap IntKind.i64 (x_2 + (1 : Int))) w' ∧ μ (IntKind.wrap IntKind.i64 (x_2 + (1 : Int))) w' < μ x_2 w else I (IntKind.wrap IntKind.i64
 (x_2 + (1 : Int))) w' ∧ μ (IntKind.wrap IntKind.i64 (x_2 + (1 : Int))) w' < μ x_2 w else J w else J w
theorem cardindexlaw05_UndoAgain.eq (ahead_A : Option Addr) (ahead_n : Nat) (ahead_c : Nat) (ops_A : Option Addr) (ops_n : Nat) (ops_c : Nat) (w : World) (K : Value → World → Prop) : cardindexlaw05_UndoAgain.W ahead_A ahead_n ahead_c ops_A ops_n ops_c w K = fnW Try.prog Try.f5 (.named (.seq .auto (.seq .auto (.seq .auto (.join [] (.seq .auto (.block (.loop [(7, .one (.int .i64))] .auto))) (.seq .auto (.seq (.seq .auto (.block (.loop [(9, .one (.int .i64))] (.seq .auto (.seq (.block (.seq .auto (.seq .auto (.join [] (.seq .auto (.block (.loop [(12, .one (.int .i64))] .auto))) .auto)))) .auto))))) .auto))))))) [.slice ahead_A ahead_n ahead_c, .slice ops_A ops_n ops_c] w K := by kernel_rfl
theorem cardindexlaw05_UndoAgain.calls (ok : Okay Try.prog) {ahead_A : Option Addr} {ahead_n : Nat} {ahead_c : Nat} {ops_A : Option Addr} {ops_n : Nat} {ops_c : Nat} {w : World} {K : Value → World → Prop} (h : cardindexlaw05_UndoAgain.W ahead_A ahead_n ahead_c ops_A ops_n ops_c w K) : CallsV Try.prog 5 #[.slice ahead_A ahead_n ahead_c, .slice ops_A ops_n ops_c] w K :=
  fnW_calls ok Try.func5 (an := (.named (.seq .auto (.seq .auto (.seq .auto (.join [] (.seq .auto (.block (.loop [(7, .one (.int .i64))] .auto))) (.seq .auto (.seq (.seq .auto (.block (.loop [(9, .one (.int .i64))] (.seq .auto (.seq (.block (.seq .auto (.seq .auto (.join [] (.seq .auto (.block (.loop [(12, .one (.int .i64))] .auto))) .auto)))) .auto))))) .auto)))))))) (args := [.slice ahead_A ahead_n ahead_c, .slice ops_A ops_n ops_c]) (by rw [← cardindexlaw05_UndoAgain.eq]; exact h)
noncomputable def cardindexlaw05_UndoBack.W : Int → Option Addr → Nat → Nat → Option Addr → Nat → Nat → World → (Value → World → Prop) → Prop := fun (most : Int) (ahead_A : Option Addr) (ahead_n
 ahead_c : Nat) (since_A : Option Addr) (since_n since_c : Nat) (w : World) (K : Value → World → Prop) => CallsV Try.prog (20 : Nat) #[Value.int IntKind.i64 most,
 Value.int IntKind.i64 (57 : Int)] w fun (v : Value) (w' : World) => ∃ (x : Int), v = Value.int IntKind.i64 x ∧ CallsV Try.prog (15 : Nat) #[Value.int IntKind.i64
 (4 : Int), Value.int IntKind.i64 (IntKind.wrap IntKind.i64 ((4 : Int) + x))] w' fun (v : Value) (w' : World) => ∃ (x : Option Addr), ∃ (x_1 : Int), v = Value.tuple
 #[Value.pointer x, Value.int IntKind.i64 x_1] ∧ CallsV Try.prog (26 : Nat) #[Value.pointer x] w' fun (v : Value) (w' : World) => ∃ (x_2 : Int), ∃ (x_3 : Int), v =
 Value.tuple #[Value.int IntKind.i64 x_2, Value.int IntKind.i64 x_3] ∧ bif !Decidable.decide (x_1 = (0 : Int)) then K (Value.bool Bool.false) w' else bif !Decidable.decide (x_3 = (0 :
 Int)) then K (Value.bool Bool.false) w' else ∃ (J : World → Prop), (∀ (w : World), J w → CallsV Try.prog (18 : Nat) #[Value.pointer x] w fun (v : Value) (w' : World)
 => ∃ (x_4 : Int), ∃ (x_5 : Int), v = Value.tuple #[Value.int IntKind.i64 x_4, Value.int IntKind.i64 x_5] ∧ CallsV Try.prog (22 : Nat) #[Value.pointer x] w' fun (v :
 Value) (w' : World) => ∃ (x_6 : Option Addr), ∃ (x_7 : Nat), ∃ (x_8 : Nat), ∃ (x_9 : Option Addr), ∃ (x_10 : Nat), ∃ (x_11 : Nat), ∃ (x_12 : Int), ∃ (x_13 : Int), v = Value.agg
 #[Value.slice x_6 x_7 x_8, Value.slice x_9 x_10 x_11, Value.int IntKind.i64 x_12, Value.int IntKind.i64 x_13] ∧ ∀ (g : Nat) (w'_1 : World), Fresh w' g w'_1 [Value.slice
 Option.none (0 : Nat) (0 : Nat), Value.slice Option.none (0 : Nat) (0 : Nat), Value.int IntKind.i64 (0 : Int), Value.int IntKind.i64 (0 : Int)] (40 : Nat) → stOK (Addr.mk g (0 :
 Nat) Option.none) (0 : Nat) [Value.slice x_6 x_7 x_8, Value.slice x_9 x_10 x_11, Value.int IntKind.i64 x_12, Value.int IntKind.i64 x_13] w'_1 ∧ ∀ (w' : World), w' = setAll
 (Addr.mk g (0 : Nat) Option.none) (0 : Nat) [Value.slice x_6 x_7 x_8, Value.slice x_9 x_10 x_11, Value.int IntKind.i64 x_12, Value.int IntKind.i64 x_13] w'_1 → CallsV
 Try.prog (18 : Nat) #[Value.pointer x] w' fun (v : Value) (w' : World) => ∃ (x_14 : Int), ∃ (x_15 : Int), v = Value.tuple #[Value.int IntKind.i64 x_14, Value.int
 IntKind.i64 x_15] ∧ bif !Decidable.decide (x_15 = (0 : Int)) then K (Value.bool Bool.false) w' else bif !Decidable.decide (x_14 = (2 : Int)) then K (Value.bool Bool.false) w' else ∃ (J :
 World → Prop), (∀ (w : World), J w → CallsV Try.prog (25 : Nat) #[Value.pointer x, Value.int IntKind.i64 x_14] w fun (v : Value) (w' : World) => ∃ (x_16 : Int), v =
 Value.int IntKind.i64 x_16 ∧ bif Decidable.decide (x_16 = (0 : Int)) then ∃ (S : World → Prop), S (World.drew w') ∧ ∃ (x_17 : Option Addr), ∃ (x_18 : Nat), ∃ (x_19 : Nat), (∀ (u :
 World), S u → World.cell? u (Addr.add (Addr.mk g (0 : Nat) Option.none) (0 : Nat)) = Option.some (Value.slice x_17 x_18 x_19)) ∧ ∃ (x_20 : Option Addr), ∃ (x_21 : Nat), ∃ (x_22 :
 Nat), (∀ (u : World), S u → World.cell? u (Addr.add (Addr.mk g (0 : Nat) Option.none) (1 : Nat)) = Option.some (Value.slice x_20 x_21 x_22)) ∧ ∃ (x_23 : Int), (∀ (u : World), S u →
 World.cell? u (Addr.add (Addr.mk g (0 : Nat) Option.none) (2 : Nat)) = Option.some (Value.int IntKind.i64 x_23)) ∧ ∃ (x_24 : Int), (∀ (u : World), S u → World.cell? u (Addr.add
 (Addr.mk g (0 : Nat) Option.none) (3 : Nat)) = Option.some (Value.int IntKind.i64 x_24)) ∧ CallsV Try.prog (22 : Nat) #[Value.pointer x] (World.drew w') fun (v :
 Value) (w' : World) => ∃ (x_25 : Option Addr), ∃ (x_26 : Nat), ∃ (x_27 : Nat), ∃ (x_28 : Option Addr), ∃ (x_29 : Nat), ∃ (x_30 : Nat), ∃ (x_31 : Int), ∃ (x_32 : Int), v = Value.agg
 #[Value.slice x_25 x_26 x_27, Value.slice x_28 x_29 x_30, Value.int IntKind.i64 x_31, Value.int IntKind.i64 x_32] ∧ S w' ∧ CallsV Try.prog (21 : Nat) #[Value.agg
 #[Value.slice x_25 x_26 x_27, Value.slice x_28 x_29 x_30, Value.int IntKind.i64 x_31, Value.int IntKind.i64 x_32], Value.agg #[Value.slice x_17 x_18 x_19, Value.slice x_20
 x_21 x_22, Value.int IntKind.i64 x_23, Value.int IntKind.i64 x_24]] w' fun (v : Value) (w' : World) => ∃ (x_33 : Bool), v = Value.bool x_33 ∧ bif x_33 then CallsV
 Try.prog (24 : Nat) #[Value.pointer x] w' fun (v : Value) (w' : World) => ∃ (x_34 : Int), v = Value.int IntKind.i64 x_34 ∧ bif Decidable.decide (x_34 = IntKind.wrap
 IntKind.i64 (x_14 - (1 : Int))) then CallsV Try.prog (25 : Nat) #[Value.pointer x, Value.int IntKind.i64 x_14] w' fun (v : Value) (w' : World) => ∃ (x_35 : Int), v =
 Value.int IntKind.i64 x_35 ∧ bif Decidable.decide (x_35 = (60 : Int)) then CallsV Try.prog (35 : Nat) #[Value.pointer x] w' fun (v : Value) (w' : World) => ∃ (x : Int), v
 = Value.int IntKind.i64 x ∧ bif Decidable.decide (x = (0 : Int)) then CallsV Try.prog (23 : Nat) #[] w' fun (v : Value) (w' : World) => ∃ (x : Bool), v = Value.bool x ∧ K
 (Value.bool x) w' else K (Value.bool Bool.false) w' else K (Value.bool Bool.false) w' else K (Value.bool Bool.false) w' else K (Value.bool Bool.false) w' else K (Value.bool
 Bool.false) (World.drew w')) ∧ ∃ (I : Int → World → Prop), ∃ (μ : Int → World → Nat), I (0 : Int) w' ∧ ∀ (x_16 : Int) (w : World), I x_16 w → bif Decidable.decide (x_16 < (↑since_n : Int))
 then bif Decidable.decide (x_16 < (60 : Int)) then ∃ (J : World → Prop), (∀ (w_1 : World), J w_1 → I (IntKind.wrap IntKind.i64 (x_16 + (1 : Int))) w_1 ∧ μ (IntKind.wrap IntKind.i64
 (x_16 + (1 : Int))) w_1 < μ x_16 w) ∧ ∃ (ad : Addr), since_A = Option.some ad ∧ ((0 : Int) ≤ x_16 ∧ x_16 < (↑since_n : Int)) ∧ ∃ (x_17 : Int), World.cell? w (Addr.add (Addr.add ad
 (Int.toNat x_16 * (5 : Nat))) (0 : Nat)) = Option.some (Value.int IntKind.i64 x_17) ∧ ∃ (x_18 : Int), World.cell? w (Addr.add (Addr.add ad (Int.toNat x_16 * (5 : Nat))) (1 : Nat)) =
 Option.some (Value.int IntKind.i64 x_18) ∧ ∃ (x_19 : Int), World.cell? w (Addr.add (Addr.add ad (Int.toNat x_16 * (5 : Nat))) (2 : Nat)) = Option.some (Value.int IntKind.i64 x_19)
 ∧ ∃ (x_20 : Option Addr), ∃ (x_21 : Nat), ∃ (x_22 : Nat), World.cell? w (Addr.add (Addr.add ad (Int.toNat x_16 * (5 : Nat))) (3 : Nat)) = Option.some (Value.slice x_20 x_21 x_22) ∧ ∃
 (x_23 : Option Addr), ∃ (x_24 : Nat), ∃ (x_25 : Nat), World.cell? w (Addr.add (Addr.add ad (Int.toNat x_16 * (5 : Nat))) (4 : Nat)) = Option.some (Value.slice x_23 x_24 x_25) ∧ ∀ (g :
 Nat) (w' : World), Fresh w g w' [Value.int IntKind.i64 (0 : Int), Value.int IntKind.i64 (0 : Int), Value.int IntKind.i64 (0 : Int), Value.slice Option.none (0 : Nat) (0 :
 Nat), Value.slice Option.none (0 : Nat) (0 : Nat)] (30 : Nat) → stOK (Addr.mk g (0 : Nat) Option.none) (0 : Nat) [Value.int IntKind.i64 x_17, Value.int IntKind.i64 x_18,
 Value.int IntKind.i64 x_19, Value.slice x_20 x_21 x_22, Value.slice x_23 x_24 x_25] w' ∧ ∀ (w'_2 : World), w'_2 = setAll (Addr.mk g (0 : Nat) Option.none) (0 : Nat)
 [Value.int IntKind.i64 x_17, Value.int IntKind.i64 x_18, Value.int IntKind.i64 x_19, Value.slice x_20 x_21 x_22, Value.slice x_23 x_24 x_25] w' → ∃ (J_1 : World → Prop), (∀
 (w : World), J_1 w → CallsV Try.prog (24 : Nat) #[Value.pointer x] w fun (v : Value) (w' : World) => ∃ (x_26 : Int), v = Value.int IntKind.i64 x_26 ∧ bif
 Decidable.decide (x_26 < x_14) then K (Value.bool Bool.false) w' else CallsV Try.prog (35 : Nat) #[Value.pointer x] w' fun (v : Value) (w' : World) => ∃ (x : Int), v =
 Value.int IntKind.i64 x ∧ bif !Decidable.decide (x = (0 : Int)) then K (Value.bool Bool.false) w' else J w') ∧ ∃ (x_26 : Int), World.cell? w'_2 (Addr.add (Addr.mk g (0 : Nat)
 Option.none) (0 : Nat)) = Option.some (Value.int IntKind.i64 x_26) ∧ ∃ (x_27 : Int), World.cell? w'_2 (Addr.add (Addr.mk g (0 : Nat) Option.none) (1 : Nat)) = Option.some (Value.int
 IntKind.i64 x_27) ∧ ∃ (x_28 : Int), World.cell? w'_2 (Addr.add (Addr.mk g (0 : Nat) Option.none) (2 : Nat)) = Option.some (Value.int IntKind.i64 x_28) ∧ ∃ (x_29 : Option Addr), ∃
 (x_30 : Nat), ∃ (x_31 : Nat), World.cell? w'_2 (Addr.add (Addr.mk g (0 : Nat) Option.none) (3 : Nat)) = Option.some (Value.slice x_29 x_30 x_31) ∧ ∃ (x_32 : Option Addr), ∃ (x_33 : Nat),
 ∃ (x_34 : Nat), World.cell? w'_2 (Addr.add (Addr.mk g (0 : Nat) Option.none) (4 : Nat)) = Option.some (Value.slice x_32 x_33 x_34) ∧ CallsV Try.prog (16 : Nat)
 #[Value.agg #[Value.int IntKind.i64 x_26, Value.int IntKind.i64 x_27, Value.int IntKind.i64 x_28, Value.slice x_29 x_30 x_31, Value.slice x_32 x_33 x_34]] w'_2 fun (v :
 Value) (w' : World) => ∃ (x_35 : Bool), v = Value.bool x_35 ∧ bif !x_35 then J_1 w' else ∃ (x_36 : Int), World.cell? w' (Addr.add (Addr.mk g (0 : Nat) Option.none) (0 : Nat)) =
 Option.some (Value.int IntKind.i64 x_36) ∧ bif Decidable.decide (x_36 = (9 : Int)) then CallsV Try.prog (18 : Nat) #[Value.pointer x] w' fun (v : Value) (w' : World) => ∃
 (x : Int), ∃ (x_37 : Int), v = Value.tuple #[Value.int IntKind.i64 x, Value.int IntKind.i64 x_37] ∧ J_1 w' else ∃ (x_37 : Int), World.cell? w' (Addr.add (Addr.mk g (0 : Nat)
 Option.none) (0 : Nat)) = Option.some (Value.int IntKind.i64 x_37) ∧ bif Decidable.decide (x_37 = (10 : Int)) then ∃ (x_38 : Int), World.cell? w' (Addr.add (Addr.mk g (0 : Nat)
 Option.none) (2 : Nat)) = Option.some (Value.int IntKind.i64 x_38) ∧ bif Decidable.decide (x_14 < x_38) then ∃ (x_39 : Int), World.cell? w' (Addr.add (Addr.mk g (0 : Nat) Option.none) (2
 : Nat)) = Option.some (Value.int IntKind.i64 x_39) ∧ CallsV Try.prog (25 : Nat) #[Value.pointer x, Value.int IntKind.i64 x_39] w' fun (v : Value) (w' : World) => ∃
 (x : Int), v = Value.int IntKind.i64 x ∧ J_1 w' else ∃ (x_39 : Int), World.cell? w' (Addr.add (Addr.mk g (0 : Nat) Option.none) (0 : Nat)) = Option.some (Value.int IntKind.i64
 x_39) ∧ bif Decidable.decide (x_39 = (11 : Int)) then ∃ (x_40 : Int), World.cell? w' (Addr.add (Addr.mk g (0 : Nat) Option.none) (2 : Nat)) = Option.some (Value.int IntKind.i64 x_40) ∧
 bif Decidable.decide (x_14 < x_40) then ∃ (x_41 : Int), World.cell? w' (Addr.add (Addr.mk g (0 : Nat) Option.none) (2 : Nat)) = Option.some (Value.int IntKind.i64 x_41) ∧ CallsV
 Try.prog (19 : Nat) #[Value.pointer x, Value.int IntKind.i64 x_41] w' fun (v : Value) (w' : World) => ∃ (x : Int), v = Value.int IntKind.i64 x ∧ J_1 w' else ∃ (x_41 :
 Int), World.cell? w' (Addr.add (Addr.mk g (0 : Nat) Option.none) (0 : Nat)) = Option.some (Value.int IntKind.i64 x_41) ∧ ∃ (x_42 : Int), World.cell? w' (Addr.add (Addr.mk g (0 :
 Nat) Option.none) (1 : Nat)) = Option.some (Value.int IntKind.i64 x_42) ∧ ∃ (x_43 : Int), World.cell? w' (Addr.add (Addr.mk g (0 : Nat) Option.none) (2 : Nat)) = Option.some
 (Value.int IntKind.i64 x_43) ∧ ∃ (x_44 : Option Addr), ∃ (x_45 : Nat), ∃ (x_46 : Nat), World.cell? w' (Addr.add (Addr.mk g (0 : Nat) Option.none) (3 : Nat)) = Option.some
 (Value.slice x_44 x_45 x_46) ∧ ∃ (x_47 : Option Addr), ∃ (x_48 : Nat), ∃ (x_49 : Nat), World.cell? w' (Addr.add (Addr.mk g (0 : Nat) Option.none) (4 : Nat)) = Option.some (Value.slice
 x_47 x_48 x_49) ∧ CallsV Try.prog (17 : Nat) #[Value.pointer x, Value.agg #[Value.int IntKind.i64 x_41, Value.int IntKind.i64 x_42, Value.int IntKind.i64 x_43,
 Value.slice x_44 x_45 x_46, Value.slice x_47 x_48 x_49]] w' fun (v : Value) (w' : World) => v = Value.tuple #[] ∧ J_1 w' else ∃ (x_40 : Int), World.cell? w' (Addr.add (Addr.mk g
 (0 : Nat) Option.none) (0 : Nat)) = Option.some (Value.int IntKind.i64 x_40) ∧ ∃ (x_41 : Int), World.cell? w' (Addr.add (Addr.mk g (0 : Nat) Option.none) (1 : Nat)) = Option.some
 (Value.int IntKind.i64 x_41) ∧ ∃ (x_42 : Int), World.cell? w' (Addr.add (Addr.mk g (0 : Nat) Option.none) (2 : Nat)) = Option.some (Value.int IntKind.i64 x_42) ∧ ∃ (x_43 : Option
 Addr), ∃ (x_44 : Nat), ∃ (x_45 : Nat), World.cell? w' (Addr.add (Addr.mk g (0 : Nat) Option.none) (3 : Nat)) = Option.some (Value.slice x_43 x_44 x_45) ∧ ∃ (x_46 : Option Addr), ∃
 (x_47 : Nat), ∃ (x_48 : Nat), World.cell? w' (Addr.add (Addr.mk g (0 : Nat) Option.none) (4 : Nat)) = Option.some (Value.slice x_46 x_47 x_48) ∧ CallsV Try.prog (17 : Nat)
 #[Value.pointer x, Value.agg #[Value.int IntKind.i64 x_40, Value.int IntKind.i64 x_41, Value.int IntKind.i64 x_42, Value.slice x_43 x_44 x_45, Value.slice x_46 x_47 x_48]]
 w' fun (v : Value) (w' : World) => v = Value.tuple #[] ∧ J_1 w' else ∃ (x_38 : Int), World.cell? w' (Addr.add (Addr.mk g (0 : Nat) Option.none) (0 : Nat)) = Option.some (Value.int
 IntKind.i64 x_38) ∧ bif Decidable.decide (x_38 = (11 : Int)) then ∃ (x_39 : Int), World.cell? w' (Addr.add (Addr.mk g (0 : Nat) Option.none) (2 : Nat)) = Option.some (Value.int
 IntKind.i64 x_39) ∧ bif Decidable.decide (x_14 < x_39) then ∃ (x_40 : Int), World.cell? w' (Addr.add (Addr.mk g (0 : Nat) Option.none) (2 : Nat)) = Option.some (Value.int IntKind.i64
 x_40) ∧ CallsV Try.prog (19 : Nat) #[Value.pointer x, Value.int IntKind.i64 x_40] w' fun (v : Value) (w' : World) => ∃ (x : Int), v = Value.int IntKind.i64 x ∧ J_1
 w' else ∃ (x_40 : Int), World.cell? w' (Addr.add (Addr.mk g (0 : Nat) Option.none) (0 : Nat)) = Option.some (Value.int IntKind.i64 x_40) ∧ ∃ (x_41 : Int), World.cell? w' (Addr.add
 (Addr.mk g (0 : Nat) Option.none) (1 : Nat)) = Option.some (Value.int IntKind.i64 x_41) ∧ ∃ (x_42 : Int), World.cell? w' (Addr.add (Addr.mk g (0 : Nat) Option.none) (2 : Nat)) =
 Option.some (Value.int IntKind.i64 x_42) ∧ ∃ (x_43 : Option Addr), ∃ (x_44 : Nat), ∃ (x_45 : Nat), World.cell? w' (Addr.add (Addr.mk g (0 : Nat) Option.none) (3 : Nat)) = Option.some
 (Value.slice x_43 x_44 x_45) ∧ ∃ (x_46 : Option Addr), ∃ (x_47 : Nat), ∃ (x_48 : Nat), World.cell? w' (Addr.add (Addr.mk g (0 : Nat) Option.none) (4 : Nat)) = Option.some (Value.slice
 x_46 x_47 x_48) ∧ CallsV Try.prog (17 : Nat) #[Value.pointer x, Value.agg #[Value.int IntKind.i64 x_40, Value.int IntKind.i64 x_41, Value.int IntKind.i64 x_42,
 Value.slice x_43 x_44 x_45, Value.slice x_46 x_47 x_48]] w' fun (v : Value) (w' : World) => v = Value.tuple #[] ∧ J_1 w' else ∃ (x_39 : Int), World.cell? w' (Addr.add (Addr.mk g
 (0 : Nat) Option.none) (0 : Nat)) = Option.some (Value.int IntKind.i64 x_39) ∧ ∃ (x_40 : Int), World.cell? w' (Addr.add (Addr.mk g (0 : Nat) Option.none) (1 : Nat)) = Option.some
 (Value.int IntKind.i64 x_40) ∧ ∃ (x_41 : Int), World.cell? w' (Addr.add (Addr.mk g (0 : Nat) Option.none) (2 : Nat)) = Option.some (Value.int IntKind.i64 x_41) ∧ ∃ (x_42 : Option
 Addr), ∃ (x_43 : Nat), ∃ (x_44 : Nat), World.cell? w' (Addr.add (Addr.mk g (0 : Nat) Option.none) (3 : Nat)) = Option.some (Value.slice x_42 x_43 x_44) ∧ ∃ (x_45 : Option Addr), ∃
 (x_46 : Nat), ∃ (x_47 : Nat), World.cell? w' (Addr.add (Addr.mk g (0 : Nat) Option.none) (4 : Nat)) = Option.some (Value.slice x_45 x_46 x_47) ∧ CallsV Try.prog (17 : Nat)
 #[Value.pointer x, Value.agg #[Value.int IntKind.i64 x_39, Value.int IntKind.i64 x_40, Value.int IntKind.i64 x_41, Value.slice x_42 x_43 x_44, Value.slice x_45 x_46 x_47]]
 w' fun (v : Value) (w' : World) => v = Value.tuple #[] ∧ J_1 w' else J w else J w) ∧ ∃ (I : Int → World → Prop), ∃ (μ : Int → World → Nat), I (0 : Int) w' ∧ ∀ (x_4 : Int) (w : World),
 I x_4 w → bif Decidable.decide (x_4 < (↑ahead_n : Int)) then bif Decidable.decide (x_4 < (25 : Int)) then ∃ (ad : Addr), ahead_A = Option.some ad ∧ ((0 : Int) ≤ x_4 ∧ x_4 < (↑ahead_n : Int)) ∧ ∃
 (x_5 : Int), World.cell? w (Addr.add (Addr.add ad (Int.toNat x_4 * (5 : Nat))) (0 : Nat)) = Option.some (Value.int IntKind.i64 x_5) ∧ ∃ (x_6 : Int), World.cell? w (Addr.add
 (Addr.add ad (Int.toNat x_4 * (5 : Nat))) (1 : Nat)) = Option.some (Value.int IntKind.i64 x_6) ∧ ∃ (x_7 : Int), World.cell? w (Addr.add (Addr.add ad (Int.toNat x_4 * (5 : Nat))) (2 :
 Nat)) = Option.some (Value.int IntKind.i64 x_7) ∧ ∃ (x_8 : Option Addr), ∃ (x_9 : Nat), ∃ (x_10 : Nat), World.cell? w (Addr.add (Addr.add ad (Int.toNat x_4 * (5 : Nat))) (3 : Nat)) =
 Option.some (Value.slice x_8 x_9 x_10) ∧ ∃ (x_11 : Option Addr), ∃ (x_12 : Nat), ∃ (x_13 : Nat), World.cell? w (Addr.add (Addr.add ad (Int.toNat x_4 * (5 : Nat))) (4 : Nat)) =
 Option.some (Value.slice x_11 x_12 x_13) ∧ CallsV Try.prog (16 : Nat) #[Value.agg #[Value.int IntKind.i64 x_5, Value.int IntKind.i64 x_6, Value.int IntKind.i64
 x_7, Value.slice x_8 x_9 x_10, Value.slice x_11 x_12 x_13]] w fun (v : Value) (w' : World) => ∃ (x_14 : Bool), v = Value.bool x_14 ∧ bif x_14 then ∃ (ad : Addr), ahead_A = Option.some
 ad ∧ ((0 : Int) ≤ x_4 ∧ x_4 < (↑ahead_n : Int)) ∧ ∃ (x_15 : Int), World.cell? w' (Addr.add (Addr.add ad (Int.toNat x_4 * (5 : Nat))) (0 : Nat)) = Option.some (Value.int IntKind.i64 x_15)
 ∧ ∃ (x_16 : Int), World.cell? w' (Addr.add (Addr.add ad (Int.toNat x_4 * (5 : Nat))) (1 : Nat)) = Option.some (Value.int IntKind.i64 x_16) ∧ ∃ (x_17 : Int), World.cell? w'
 (Addr.add (Addr.add ad (Int.toNat x_4 * (5 : Nat))) (2 : Nat)) = Option.some (Value.int IntKind.i64 x_17) ∧ ∃ (x_18 : Option Addr), ∃ (x_19 : Nat), ∃ (x_20 : Nat), World.cell? w'
 (Addr.add (Addr.add ad (Int.toNat x_4 * (5 : Nat))) (3 : Nat)) = Option.some (Value.slice x_18 x_19 x_20) ∧ ∃ (x_21 : Option Addr), ∃ (x_22 : Nat), ∃ (x_23 : Nat), World.cell? w'
 (Addr.add (Addr.add ad (Int.toNat x_4 * (5 : Nat))) (4 : Nat)) = Option.some (Value.slice x_21 x_22 x_23) ∧ CallsV Try.prog (17 : Nat) #[Value.pointer x, Value.agg
 #[Value.int IntKind.i64 x_15, Value.int IntKind.i64 x_16, Value.int IntKind.i64 x_17, Value.slice x_18 x_19 x_20, Value.slice x_21 x_22 x_23]] w' fun (v : Value) (w' :
 World) => v = Value.tuple #[] ∧ I (IntKind.wrap IntKind.i64 (x_4 + (1 : Int))) w' ∧ μ (IntKind.wrap IntKind.i64 (x_4 + (1 : Int))) w' < μ x_4 w else I (IntKind.wrap IntKind.i64
 (x_4 + (1 : Int))) w' ∧ μ (IntKind.wrap IntKind.i64 (x_4 + (1 : Int))) w' < μ x_4 w else J w else J w
theorem cardindexlaw05_UndoBack.eq (most : Int) (ahead_A : Option Addr) (ahead_n : Nat) (ahead_c : Nat) (since_A : Option Addr) (since_n : Nat) (since_c : Nat) (w : World) (K : Value → World → Prop) : cardindexlaw05_UndoBack.W most ahead_A ahead_n ahead_c since_A since_n since_c w K = fnW Try.prog Try.f7 (.named (.seq .auto (.seq .auto (.seq .auto (.seq .auto (.join [] (.seq .auto (.block (.loop [(11, .one (.int .i64))] .auto))) (.seq .auto (.seq .auto (.seq .auto (.seq .auto (.join [] (.seq .auto (.block (.loop [(15, .one (.int .i64))] (.seq .auto (.join [] (.block (.seq .auto (.join [] .auto .auto))) .auto))))) .auto))))))))))) [.int .i64 most, .slice ahead_A ahead_n ahead_c, .slice since_A since_n since_c] w K := by kernel_rfl
theorem cardindexlaw05_UndoBack.calls (ok : Okay Try.prog) {most : Int} {ahead_A : Option Addr} {ahead_n : Nat} {ahead_c : Nat} {since_A : Option Addr} {since_n : Nat} {since_c : Nat} {w : World} {K : Value → World → Prop} (h : cardindexlaw05_UndoBack.W most ahead_A ahead_n ahead_c since_A since_n since_c w K) : CallsV Try.prog 7 #[.int .i64 most, .slice ahead_A ahead_n ahead_c, .slice since_A since_n since_c] w K :=
  fnW_calls ok Try.func7 (an := (.named (.seq .auto (.seq .auto (.seq .auto (.seq .auto (.join [] (.seq .auto (.block (.loop [(11, .one (.int .i64))] .auto))) (.seq .auto (.seq .auto (.seq .auto (.seq .auto (.join [] (.seq .auto (.block (.loop [(15, .one (.int .i64))] (.seq .auto (.join [] (.block (.seq .auto (.join [] .auto .auto))) .auto))))) .auto)))))))))))) (args := [.int .i64 most, .slice ahead_A ahead_n ahead_c, .slice since_A since_n since_c]) (by rw [← cardindexlaw05_UndoBack.eq]; exact h)
noncomputable def cardindexlaw05_UndoNone.W : Int → Option Addr → Nat → Nat → Option Addr → Nat → Nat → Bool → World → (Value → World → Prop) → Prop := fun (id : Int) (key_A : Option Addr) (key_n
 key_c : Nat) (val_A : Option Addr) (val_n val_c : Nat) (atx : Bool) (w : World) (K : Value → World → Prop) => ∀ (g : Nat) (w' : World), Fresh w g w' [Value.pointer Option.none,
 Value.slice Option.none (0 : Nat) (0 : Nat), Value.slice Option.none (0 : Nat) (0 : Nat)] (81 : Nat) → ∀ (g_1 : Nat) (w'_1 : World), Fresh w' g_1 w'_1 [Value.pointer Option.none,
 Value.pointer (Option.some (Addr.mk g (0 : Nat) Option.none))] (23 : Nat) → ∃ (I : Int → World → Prop), ∃ (μ : Int → World → Nat), I (0 : Int) w'_1 ∧ ∀ (x : Int) (w : World), I x w → bif
 Decidable.decide (x < (↑(2 : Nat) : Int)) then ∃ (ad : Addr), Option.some (Addr.mk g_1 (0 : Nat) Option.none) = Option.some ad ∧ ((0 : Int) ≤ x ∧ x < (↑(2 : Nat) : Int)) ∧ ∃ (x_1 : Option
 Addr), World.cell? w (Addr.add ad (Int.toNat x * (1 : Nat))) = Option.some (Value.pointer x_1) ∧ CallsV Try.prog (26 : Nat) #[Value.pointer x_1] w fun (v : Value) (w'
 : World) => ∃ (x_2 : Int), ∃ (x_3 : Int), v = Value.tuple #[Value.int IntKind.i64 x_2, Value.int IntKind.i64 x_3] ∧ CallsV Try.prog (29 : Nat) #[Value.pointer x_1,
 Value.int IntKind.i64 id, Value.slice key_A key_n key_c, Value.slice val_A val_n val_c] w' fun (v : Value) (w' : World) => ∃ (x_4 : Bool), ∃ (x_5 : Int), v = Value.tuple
 #[Value.bool x_4, Value.int IntKind.i64 x_5] ∧ CallsV Try.prog (40 : Nat) #[Value.pointer x_1, Value.int IntKind.i64 id, Value.slice key_A key_n key_c] w' fun (v :
 Value) (w' : World) => ∃ (x_6 : Bool), ∃ (x_7 : Int), v = Value.tuple #[Value.bool x_6, Value.int IntKind.i64 x_7] ∧ CallsV Try.prog (18 : Nat) #[Value.pointer x_1]
 w' fun (v : Value) (w' : World) => ∃ (x_8 : Int), ∃ (x_9 : Int), v = Value.tuple #[Value.int IntKind.i64 x_8, Value.int IntKind.i64 x_9] ∧ CallsV Try.prog (49 :
 Nat) #[Value.pointer x_1, Value.int IntKind.i64 id, Value.slice key_A key_n key_c] w' fun (v : Value) (w' : World) => ∃ (x_10 : Option Addr), ∃ (x_11 : Nat), ∃ (x_12 : Nat), ∃
 (x_13 : Bool), v = Value.tuple #[Value.slice x_10 x_11 x_12, Value.bool x_13] ∧ CallsV Try.prog (50 : Nat) #[Value.pointer x_1, Value.int IntKind.i64 id,
 Value.slice key_A key_n key_c, Value.bool atx] w' fun (v : Value) (w' : World) => ∃ (x_14 : Option Addr), ∃ (x_15 : Nat), ∃ (x_16 : Nat), ∃ (x_17 : Option Addr), ∃ (x_18 : Nat), ∃
 (x_19 : Nat), ∃ (x_20 : Bool), v = Value.tuple #[Value.slice x_14 x_15 x_16, Value.slice x_17 x_18 x_19, Value.bool x_20] ∧ CallsV Try.prog (51 : Nat) #[Value.pointer
 x_1, Value.int IntKind.i64 id, Value.slice key_A key_n key_c, Value.bool atx] w' fun (v : Value) (w' : World) => ∃ (x_21 : Option Addr), ∃ (x_22 : Nat), ∃ (x_23 : Nat), ∃ (x_24 :
 Option Addr), ∃ (x_25 : Nat), ∃ (x_26 : Nat), ∃ (x_27 : Bool), v = Value.tuple #[Value.slice x_21 x_22 x_23, Value.slice x_24 x_25 x_26, Value.bool x_27] ∧ CallsV
 Try.prog (52 : Nat) #[Value.pointer x_1, Value.int IntKind.i64 id] w' fun (v : Value) (w' : World) => ∃ (x_28 : Option Addr), ∃ (x_29 : Nat), ∃ (x_30 : Nat), ∃ (x_31 :
 Option Addr), ∃ (x_32 : Nat), ∃ (x_33 : Nat), ∃ (x_34 : Bool), v = Value.tuple #[Value.slice x_28 x_29 x_30, Value.slice x_31 x_32 x_33, Value.bool x_34] ∧ bif !Decidable.decide (x_3 =
 (1 : Int)) then K (Value.bool Bool.false) w' else bif !Decidable.decide (x_5 = (1 : Int)) then K (Value.bool Bool.false) w' else bif !Decidable.decide (x_7 = (1 : Int)) then K (Value.bool
 Bool.false) w' else bif !Decidable.decide (x_9 = (1 : Int)) then K (Value.bool Bool.false) w' else CallsV Try.prog (31 : Nat) #[Value.pointer x_1, Value.int IntKind.i64 id]
 w' fun (v : Value) (w' : World) => ∃ (x_35 : Int), v = Value.int IntKind.i64 x_35 ∧ bif !Decidable.decide (x_35 = (1 : Int)) then K (Value.bool Bool.false) w' else CallsV
 Try.prog (35 : Nat) #[Value.pointer x_1] w' fun (v : Value) (w' : World) => ∃ (x_36 : Int), v = Value.int IntKind.i64 x_36 ∧ bif !Decidable.decide (x_36 = (1 : Int)) then K
 (Value.bool Bool.false) w' else CallsV Try.prog (25 : Nat) #[Value.pointer x_1, Value.int IntKind.i64 id] w' fun (v : Value) (w' : World) => ∃ (x_37 : Int), v =
 Value.int IntKind.i64 x_37 ∧ bif !Decidable.decide (x_37 = (1 : Int)) then K (Value.bool Bool.false) w' else CallsV Try.prog (19 : Nat) #[Value.pointer x_1, Value.int
 IntKind.i64 id] w' fun (v : Value) (w' : World) => ∃ (x_38 : Int), v = Value.int IntKind.i64 x_38 ∧ bif !Decidable.decide (x_38 = (1 : Int)) then K (Value.bool Bool.false) w' else bif
 x_4 then K (Value.bool Bool.false) w' else bif x_6 then K (Value.bool Bool.false) w' else bif x_13 then K (Value.bool Bool.false) w' else bif x_20 then K (Value.bool Bool.false) w' else bif
 x_27 then K (Value.bool Bool.false) w' else bif x_34 then K (Value.bool Bool.false) w' else CallsV Try.prog (34 : Nat) #[Value.pointer x_1, Value.int IntKind.i64 id] w'
 fun (v : Value) (w' : World) => ∃ (x_39 : Int), v = Value.int IntKind.i64 x_39 ∧ CallsV Try.prog (39 : Nat) #[Value.pointer x_1] w' fun (v : Value) (w' : World) =>
 ∃ (x_40 : Int), v = Value.int IntKind.i64 x_40 ∧ CallsV Try.prog (24 : Nat) #[Value.pointer x_1] w' fun (v : Value) (w' : World) => ∃ (x_41 : Int), v = Value.int
 IntKind.i64 x_41 ∧ CallsV Try.prog (33 : Nat) #[Value.pointer x_1] w' fun (v : Value) (w' : World) => ∃ (x_42 : Option Addr), ∃ (x_43 : Nat), ∃ (x_44 : Nat), v =
 Value.slice x_42 x_43 x_44 ∧ bif !Decidable.decide (IntKind.wrap IntKind.i64 (IntKind.wrap IntKind.i64 (IntKind.wrap IntKind.i64 (IntKind.wrap IntKind.i64 (IntKind.wrap
 IntKind.i64 (x_2 + x_8) + x_39) + x_40) + x_41) + (↑x_43 : Int)) = (0 : Int)) then K (Value.bool Bool.false) w' else I (IntKind.wrap IntKind.i64 (x + (1 : Int))) w' ∧ μ (IntKind.wrap
 IntKind.i64 (x + (1 : Int))) w' < μ x w else CallsV Try.prog (23 : Nat) #[] w fun (v : Value) (w' : World) => ∃ (x : Bool), v = Value.bool x ∧ K (Value.bool x) w'
theorem cardindexlaw05_UndoNone.eq (id : Int) (key_A : Option Addr) (key_n : Nat) (key_c : Nat) (val_A : Option Addr) (val_n : Nat) (val_c : Nat) (atx : Bool) (w : World) (K : Value → World → Prop) : cardindexlaw05_UndoNone.W id key_A key_n key_c val_A val_n val_c atx w K = fnW Try.prog Try.f9 (.named (.seq .auto (.seq .auto (.seq (.seq .auto (.block (.loop [(36, .one (.int .i64))] .auto))) .auto)))) [.int .i64 id, .slice key_A key_n key_c, .slice val_A val_n val_c, .bool atx] w K := by kernel_rfl
theorem cardindexlaw05_UndoNone.calls (ok : Okay Try.prog) {id : Int} {key_A : Option Addr} {key_n : Nat} {key_c : Nat} {val_A : Option Addr} {val_n : Nat} {val_c : Nat} {atx : Bool} {w : World} {K : Value → World → Prop} (h : cardindexlaw05_UndoNone.W id key_A key_n key_c val_A val_n val_c atx w K) : CallsV Try.prog 9 #[.int .i64 id, .slice key_A key_n key_c, .slice val_A val_n val_c, .bool atx] w K :=
  fnW_calls ok Try.func9 (an := (.named (.seq .auto (.seq .auto (.seq (.seq .auto (.block (.loop [(36, .one (.int .i64))] .auto))) .auto))))) (args := [.int .i64 id, .slice key_A key_n key_c, .slice val_A val_n val_c, .bool atx]) (by rw [← cardindexlaw05_UndoNone.eq]; exact h)
end Go.Proofs.Ythfagbfllheneaa
/- Layer 5: a store that New did not make. -/
set_option linter.unusedVariables false
set_option linter.unusedSimpArgs false
namespace Go.Proofs.Ythfagbfllheneaa
open Go Go.Sx T4
def NotS (w : World) (a : Option Addr) : Prop := a = none ∨ ∃ g, a = some ⟨g, 0, none⟩ ∧ Blk w g [.pointer none, .slice none 0 0, .slice none 0 0]
theorem NotS.ext {w w' : World} {a : Option Addr} (h : NotS w a) (e : Ext w w') : NotS w' a := h.imp id fun ⟨g, h1, h2⟩ => ⟨g, h1, h2.ext e⟩
section
variable {w : World} {a : Option Addr}
theorem notA (w : World) : NotA w none := .inl rfl
theorem mOf (h : NotS w a) : CallsV Try.prog 76 #[.pointer a] w fun r w' => r = .pointer none ∧ w' = w := by
  refine undo_Store_of.calls okay ?_
  unfold undo_Store_of.W
  rcases h with rfl | ⟨g, rfl, hb⟩
  · exact br (fun _ => ⟨rfl, rfl⟩) (fun h => by cases h)
  · exact br (fun h => by cases h) (fun _ => ⟨_, rfl, _, hb.cell rfl, rfl, rfl⟩)
theorem mMade (h : NotS w a) : CallsV Try.prog 70 #[.pointer a] w fun r w' => r = .bool false ∧ w' = w := by
  refine undo_Store_made.calls okay ?_
  unfold undo_Store_made.W
  rcases h with rfl | ⟨g, rfl, hb⟩
  · exact brnb (fun h => by cases h) (fun _ => ⟨rfl, rfl⟩)
  · exact brnb (fun _ => ⟨_, rfl, _, hb.cell rfl, rfl, rfl⟩) (fun h => by cases h)
theorem mIs (h : NotS w a) (n : Int) : CallsV Try.prog 73 #[.pointer a, .int .i64 n] w fun r w' => r = .int .i64 1 ∧ w' = w := by
  refine undo_Store_is.calls okay ?_
  unfold undo_Store_is.W
  exact (mMade h).same ⟨_, rfl, brnb (fun _ => ⟨rfl, rfl⟩) (fun h => by cases h)⟩
theorem mCreate (h : NotS w a) : CallsV Try.prog 26 #[.pointer a] w fun r w' => r = .tuple #[.int .i64 0, .int .i64 1] ∧ w' = w := by
  refine undo_Store_Create.calls okay ?_
  unfold undo_Store_Create.W
  exact (mOf h).same ⟨_, rfl, (nCreate (notA w)).same ⟨_, _, rfl, brd (fun h => by cases h) fun _ => ⟨rfl, rfl⟩⟩⟩
theorem mDrop (h : NotS w a) (id : Int) : CallsV Try.prog 31 #[.pointer a, .int .i64 id] w fun r w' => r = .int .i64 1 ∧ Ext w w' := by
  refine undo_Store_Drop.calls okay ?_
  unfold undo_Store_Drop.W
  intro gi u1 f1
  have ed : Ext u1 u1.drew := Fr.drew NoB u1
  have e2 : Ext w u1.drew := f1.ext.drew
  refine ⟨fun x v => x = 1 ∧ v = u1.drew, ?_, fun v => Ext u1 v, ed, _, fun v e => (f1.blk.ext e).cell0 rfl, (mOf (h.ext e2)).same ⟨_, rfl, ed, (nDrop (notA u1.drew) id).same ⟨_, rfl, rfl, rfl⟩⟩⟩
  rintro _ _ ⟨rfl, rfl⟩
  exact brd (fun h => by cases h) fun _ => ⟨rfl, e2⟩
theorem mPut (h : NotS w a) (id : Int) (KA VA : Option Addr) (kn kc vn vc : Nat) : CallsV Try.prog 29 #[.pointer a, .int .i64 id, .slice KA kn kc, .slice VA vn vc] w fun r w' => r = .tuple #[.bool false, .int .i64 1] ∧ w' = w := by
  refine undo_Store_Put.calls okay ?_
  unfold undo_Store_Put.W
  exact (mOf h).same ⟨_, rfl, (nPut (notA w) id KA VA kn kc vn vc).same ⟨_, _, rfl, rfl, rfl⟩⟩
theorem mDelete (h : NotS w a) (id : Int) (KA : Option Addr) (kn kc : Nat) : CallsV Try.prog 40 #[.pointer a, .int .i64 id, .slice KA kn kc] w fun r w' => r = .tuple #[.bool false, .int .i64 1] ∧ w' = w := by
  refine undo_Store_Delete.calls okay ?_
  unfold undo_Store_Delete.W
  exact (mOf h).same ⟨_, rfl, (nDelete (notA w) id KA kn kc).same ⟨_, _, rfl, rfl, rfl⟩⟩
theorem mGet (h : NotS w a) (id : Int) (KA : Option Addr) (kn kc : Nat) : CallsV Try.prog 49 #[.pointer a, .int .i64 id, .slice KA kn kc] w fun r w' => r = .tuple #[.slice none 0 0, .bool false] ∧ w' = w := by
  refine undo_Store_Get.calls okay ?_
  unfold undo_Store_Get.W
  exact (mOf h).same ⟨_, rfl, (nGet (notA w) id KA kn kc).same ⟨_, _, _, _, rfl, rfl, rfl⟩⟩
theorem mAfter (h : NotS w a) (id : Int) (KA : Option Addr) (kn kc : Nat) (at_ : Bool) : CallsV Try.prog 50 #[.pointer a, .int .i64 id, .slice KA kn kc, .bool at_] w fun r w' => r = eN ∧ w' = w := by
  refine undo_Store_After.calls okay ?_
  unfold undo_Store_After.W
  exact (mOf h).same ⟨_, rfl, (nAfter (notA w) id KA kn kc at_).same ⟨_, _, _, _, _, _, _, rfl, rfl, rfl⟩⟩
theorem mBefore (h : NotS w a) (id : Int) (KA : Option Addr) (kn kc : Nat) (at_ : Bool) : CallsV Try.prog 51 #[.pointer a, .int .i64 id, .slice KA kn kc, .bool at_] w fun r w' => r = eN ∧ w' = w := by
  refine undo_Store_Before.calls okay ?_
  unfold undo_Store_Before.W
  exact (mOf h).same ⟨_, rfl, (nBefore (notA w) id KA kn kc at_).same ⟨_, _, _, _, _, _, _, rfl, rfl, rfl⟩⟩
theorem mLast (h : NotS w a) (id : Int) : CallsV Try.prog 52 #[.pointer a, .int .i64 id] w fun r w' => r = eN ∧ w' = w := by
  refine undo_Store_Last.calls okay ?_
  unfold undo_Store_Last.W
  exact (mOf h).same ⟨_, rfl, (nLast (notA w) id).same ⟨_, _, _, _, _, _, _, rfl, rfl, rfl⟩⟩
theorem mLen (h : NotS w a) (id : Int) : CallsV Try.prog 34 #[.pointer a, .int .i64 id] w fun r w' => r = .int .i64 0 ∧ Ext w w' := by
  refine undo_Store_Len.calls okay ?_
  unfold undo_Store_Len.W
  refine (mOf h).same ⟨_, rfl, (nLen (notA w) id).mono ?_⟩
  rintro _ w' ⟨rfl, e⟩
  exact ⟨_, rfl, rfl, e⟩
theorem mNodes (h : NotS w a) : CallsV Try.prog 39 #[.pointer a] w fun r w' => r = .int .i64 0 ∧ Ext w w' := by
  refine undo_Store_Nodes.calls okay ?_
  unfold undo_Store_Nodes.W
  refine (mOf h).same ⟨_, rfl, (nNodes (notA w)).mono ?_⟩
  rintro _ w' ⟨rfl, e⟩
  exact ⟨_, rfl, rfl, e⟩
theorem mCheck (h : NotS w a) : CallsV Try.prog 35 #[.pointer a] w fun r w' => r = .int .i64 1 ∧ Ext w w' := by
  refine undo_Store_Check.calls okay ?_
  unfold undo_Store_Check.W
  refine (mOf h).same ⟨_, rfl, (nCheck (notA w)).mono ?_⟩
  rintro _ w' ⟨rfl, e⟩
  exact ⟨_, rfl, rfl, e⟩
theorem mMark (h : NotS w a) : CallsV Try.prog 18 #[.pointer a] w fun r w' => r = .tuple #[.int .i64 0, .int .i64 1] ∧ w' = w := by
  refine undo_Store_Mark.calls okay ?_
  unfold undo_Store_Mark.W
  exact (mMade h).same ⟨_, rfl, brnb (fun _ => ⟨rfl, rfl⟩) (fun h => by cases h)⟩
theorem mBack (h : NotS w a) (n : Int) : CallsV Try.prog 25 #[.pointer a, .int .i64 n] w fun r w' => r = .int .i64 1 ∧ w' = w := by
  refine undo_Store_Back.calls okay ?_
  unfold undo_Store_Back.W
  exact (mIs h n).same ⟨_, rfl, brn (fun _ => ⟨rfl, rfl⟩) (fun h => by cases h)⟩
theorem mFree (h : NotS w a) (n : Int) : CallsV Try.prog 19 #[.pointer a, .int .i64 n] w fun r w' => r = .int .i64 1 ∧ w' = w := by
  refine undo_Store_Free.calls okay ?_
  unfold undo_Store_Free.W
  exact (mIs h n).same ⟨_, rfl, brn (fun _ => ⟨rfl, rfl⟩) (fun h => by cases h)⟩
theorem mMarks (h : NotS w a) : CallsV Try.prog 24 #[.pointer a] w fun r w' => r = .int .i64 0 ∧ w' = w := by
  refine undo_Store_Marks.calls okay ?_
  unfold undo_Store_Marks.W
  rcases h with rfl | ⟨g, rfl, hb⟩
  · exact br (fun _ => ⟨rfl, rfl⟩) (fun h => by cases h)
  · exact br (fun h => by cases h) (fun _ => ⟨_, rfl, _, _, _, hb.cell rfl, rfl, rfl⟩)
theorem mTrees (h : NotS w a) : CallsV Try.prog 33 #[.pointer a] w fun r w' => ∃ A c, r = .slice A 0 c ∧ Ext w w' := by
  refine undo_Store_Trees.calls okay ?_
  unfold undo_Store_Trees.W
  rcases h with rfl | ⟨g, rfl, hb⟩
  · exact br (fun _ => ⟨none, 0, rfl, .refl _ _⟩) (fun h => by cases h)
  · refine br (fun h => by cases h) (fun _ => ⟨_, rfl, _, _, _, hb.cell rfl, (CloneI_spec oneI (l := []) (Imm.nil KI NoB w none) (by simp)).mono ?_⟩)
    rintro _ w' ⟨A', c', rfl, ho, e, n, _⟩
    exact ⟨_, _, _, rfl, A', c', rfl, e⟩
end
set_option maxRecDepth 10000 in
theorem UndoNone_spec (id : Int) (KA : Option Addr) (kn kc : Nat) (VA : Option Addr) (vn vc : Nat) (at_ : Bool) {w : World} :
    CallsV Try.prog 9 #[.int .i64 id, .slice KA kn kc, .slice VA vn vc, .bool at_] w fun r w' => r = .bool true ∧ Ext w w' := by
  refine cardindexlaw05_UndoNone.calls okay ?_
  unfold cardindexlaw05_UndoNone.W
  intro g1 w1 f1 g2 w2 f2
  have e12 : Ext w w2 := f1.ext.trans' f2.ext
  have b1 := f1.blk.ext f2.ext
  refine ⟨fun x u => ∃ j : Nat, j ≤ 2 ∧ x = (j : Int) ∧ Ext w2 u, fun x _ => (2 - x).toNat, ⟨0, by omega, rfl, .refl _ _⟩, ?_⟩
  rintro _ u ⟨j, hj, rfl, eu⟩
  refine brd (fun hlt => ?_) (fun _ => ?_)
  · obtain ⟨a, hc, hn⟩ : ∃ a, u.cell? ⟨g2, j, none⟩ = some (.pointer a) ∧ NotS u a := by
      have hb := f2.blk.ext eu
      have : j = 0 ∨ j = 1 := by omega
      rcases this with rfl | rfl
      · exact ⟨none, hb.cell0 rfl, .inl rfl⟩
      · exact ⟨some ⟨g1, 0, none⟩, hb.cell0 rfl, .inr ⟨g1, rfl, b1.ext eu⟩⟩
    refine ⟨_, rfl, ⟨by omega, by omega⟩, _, by rw [Int.toNat_natCast, add_new, Nat.zero_add, Nat.mul_one]; exact hc, ?_⟩
    refine (mCreate hn).same ⟨_, _, rfl, (mPut hn id KA VA kn kc vn vc).same ⟨_, _, rfl, (mDelete hn id KA kn kc).same ⟨_, _, rfl, (mMark hn).same ⟨_, _, rfl, (mGet hn id KA kn kc).same ⟨_, _, _, _, rfl, (mAfter hn id KA kn kc at_).same ⟨_, _, _, _, _, _, _, rfl, (mBefore hn id KA kn kc at_).same ⟨_, _, _, _, _, _, _, rfl, (mLast hn id).same ⟨_, _, _, _, _, _, _, rfl, ?_⟩⟩⟩⟩⟩⟩⟩⟩
    refine brn (fun h => absurd rfl h) fun _ => brn (fun h => absurd rfl h) fun _ => brn (fun h => absurd rfl h) fun _ => brn (fun h => absurd rfl h) fun _ => (mDrop hn id).mono ?_
    rintro _ u0 ⟨rfl, e0⟩
    have hn0 := hn.ext e0
    refine ⟨_, rfl, brn (fun h => absurd rfl h) fun _ => (mCheck hn0).mono ?_⟩
    rintro _ u1 ⟨rfl, e1⟩
    have hn1 := hn0.ext e1
    refine ⟨_, rfl, brn (fun h => absurd rfl h) fun _ => (mBack hn1 id).same ⟨_, rfl, brn (fun h => absurd rfl h) fun _ => (mFree hn1 id).same ⟨_, rfl, brn (fun h => absurd rfl h) fun _ => ?_⟩⟩⟩
    refine br (fun h => by cases h) fun _ => br (fun h => by cases h) fun _ => br (fun h => by cases h) fun _ => br (fun h => by cases h) fun _ => br (fun h => by cases h) fun _ => br (fun h => by cases h) fun _ => (mLen hn1 id).mono ?_
    rintro _ u2 ⟨rfl, e2⟩
    have hn2 := hn1.ext e2
    refine ⟨_, rfl, (mNodes hn2).mono ?_⟩
    rintro _ u3 ⟨rfl, e3⟩
    have hn3 := hn2.ext e3
    refine ⟨_, rfl, (mMarks hn3).same ⟨_, rfl, (mTrees hn3).mono ?_⟩⟩
    rintro _ u4 ⟨A4, c4, rfl, e4⟩
    refine ⟨_, _, _, rfl, brn (fun h => absurd (by decide) h) fun _ => ?_⟩
    rw [wi _ (by omega) (by omega)]
    exact ⟨⟨j + 1, by omega, by omega, ((((eu.trans' e0).trans' e1).trans' e2).trans' e3).trans' e4⟩, by dsimp only; omega⟩
  · refine (awake_spec u).mono ?_
    rintro _ w' ⟨rfl, e⟩
    exact ⟨_, rfl, rfl, (e12.trans' eu).trans' e⟩
end Go.Proofs.Ythfagbfllheneaa
