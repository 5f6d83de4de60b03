/- Part 8 of the texts of this claim: the engine, contracts, plain laws. -/
import Derived.Test.YthfagbfllheneaaZCApart6P7
import Derived.Test.YthfagbfllheneaaProg
import Derived.Test.YthfagbfllheneaaZCApart6P2
set_option linter.unusedVariables false
set_option linter.unusedSimpArgs false
namespace Go.Proofs.Ythfagbfllheneaa
open Go Go.Sx T4
def Sto (T : Nat → Prop) (u : World) (s : Nat) (q : Ab) : Prop := ∃ g R M IA ic X xc L, StoA T u s q g R M IA ic X xc L (idsD q.D)
section
variable {T : Nat → Prop} {u : World} {s : Nat} {q : Ab}
theorem Sto.ext (h : Sto T u s q) {u' : World} (e : Ext u u') : Sto T u' s q := by
  obtain ⟨g, R, M, IA, ic, X, xc, L, h⟩ := h; exact ⟨g, R, M, IA, ic, X, xc, L, h.ext e⟩
theorem Sto.frame (h : Sto T u s q) {S : Nat → Prop} {u' : World} (f : Fr S u u') (hS : ∀ k, k < u.heap.size → S k → ¬ T k) : Sto T u' s q := by
  obtain ⟨g, R, M, IA, ic, X, xc, L, h⟩ := h; exact ⟨g, R, M, IA, ic, X, xc, L, h.frame f hS⟩
theorem Sto.inv (h : Sto T u s q) : Inv q.A q.D := by obtain ⟨g, R, M, IA, ic, X, xc, L, h⟩ := h; exact h.inv
theorem Sto.lt (h : Sto T u s q) : ∀ k, T k → k < u.heap.size := by obtain ⟨g, R, M, IA, ic, X, xc, L, h⟩ := h; exact h.tlt
theorem Sto.cnt (h : Sto T u s q) : q.ms.length ≤ 100 := by obtain ⟨g, R, M, IA, ic, X, xc, L, h⟩ := h; rw [← h.ms, List.length_map]; exact h.cnt
theorem Sto.good (h : Sto T u s q) : ∀ p ∈ q.ms, Inv p.1 p.2 ∧ p.1.fan = q.A.fan ∧ p.1.most = q.A.most := by
  obtain ⟨g, R, M, IA, ic, X, xc, L, h⟩ := h
  intro p hp
  rw [← h.ms] at hp
  obtain ⟨x, hx, rfl⟩ := List.mem_map.1 hp
  obtain ⟨_, g2, g3, g4, _⟩ := h.good x hx
  exact ⟨g2, g3, g4⟩
theorem Sto.other (h : Sto T u s q) {T1 T1' : Nat → Prop} {u' : World} (c : Tch T1 u T1' u') (hd : ∀ k, T k → ¬ T1 k) : Sto T u' s q ∧ ∀ k, T k → ¬ T1' k :=
  ⟨h.frame c.fr fun k _ h1 ht => hd k ht h1, fun k hk h1 => (c.sub k h1).elim (hd k hk) fun h2 => by have := h.lt k hk; omega⟩
section
variable {g : Nat} {R M : Nat → Prop} {IA : Option Addr} {ic : Nat} {X : Option Addr} {xc : Nat} {L : List Mk} {idl : List Int}
theorem of_spec (h : StoA T u s q g R M IA ic X xc L idl) : CallsV Try.prog 76 #[.pointer (some ⟨s, 0, none⟩)] u fun r w' => r = .pointer (some ⟨g, 0, none⟩) ∧ w' = u := by
  refine undo_Store_of.calls okay ?_
  unfold undo_Store_of.W
  exact br (fun h => by cases h) fun _ => ⟨_, rfl, _, h.blk.cell rfl, rfl, rfl⟩
theorem smade_spec (h : StoA T u s q g R M IA ic X xc L idl) : CallsV Try.prog 70 #[.pointer (some ⟨s, 0, none⟩)] u fun r w' => r = .bool true ∧ w' = u := by
  refine undo_Store_made.calls okay ?_
  unfold undo_Store_made.W
  exact brnb (fun _ => ⟨_, rfl, _, h.blk.cell rfl, rfl, rfl⟩) fun h => by cases h
theorem sis_spec (h : StoA T u s q g R M IA ic X xc L idl) (n : Int) : CallsV Try.prog 73 #[.pointer (some ⟨s, 0, none⟩), .int .i64 n] u fun r w' => r = .int .i64 (if n < 1 ∨ (L.length : Int) < n then 60 else 0) ∧ w' = u := by
  refine undo_Store_is.calls okay ?_
  unfold undo_Store_is.W
  refine (smade_spec h).same ⟨_, rfl, brnb (fun h => by cases h) fun _ => brd (fun h1 => ?_) fun h1 => ⟨_, rfl, _, _, _, h.blk.cell rfl, brd (fun h2 => ?_) fun h2 => ?_⟩⟩
  · rw [if_pos (.inl h1)]; exact ⟨rfl, rfl⟩
  · rw [if_pos (.inr h2)]; exact ⟨rfl, rfl⟩
  · rw [if_neg (by omega)]; exact ⟨rfl, rfl⟩
end
/-! ## what it tells -/
theorem sAfter (h : Sto T u s q) (id : Int) {key : Key} {Ω : Nat → Prop} {KA : Option Addr} (hKA : Imm KB Ω u KA key) (kc : Nat) (at_ : Bool) :
    CallsV Try.prog 50 #[.pointer (some ⟨s, 0, none⟩), .int .i64 id, .slice KA key.length kc, .bool at_] u fun r w' => Told u ((gF (foD q.D) id).bind (aftE key at_)) r w' ∧ Ext u w' := by
  obtain ⟨g, R, M, IA, ic, X, xc, L, h⟩ := h
  refine undo_Store_After.calls okay ?_
  unfold undo_Store_After.W
  refine (of_spec h).same ⟨_, rfl, (uAfter h.ar h.inv id hKA kc at_).mono ?_⟩
  rintro _ w' ⟨ht, e⟩
  obtain ⟨A, n, c, B, m, d, f, rfl⟩ := ht.form
  exact ⟨_, _, _, _, _, _, _, rfl, ht, e⟩
theorem sBefore (h : Sto T u s q) (id : Int) {key : Key} {Ω : Nat → Prop} {KA : Option Addr} (hKA : Imm KB Ω u KA key) (kc : Nat) (at_ : Bool) :
    CallsV Try.prog 51 #[.pointer (some ⟨s, 0, none⟩), .int .i64 id, .slice KA key.length kc, .bool at_] u fun r w' => Told u ((gF (foD q.D) id).bind (befE key at_)) r w' ∧ Ext u w' := by
  obtain ⟨g, R, M, IA, ic, X, xc, L, h⟩ := h
  refine undo_Store_Before.calls okay ?_
  unfold undo_Store_Before.W
  refine (of_spec h).same ⟨_, rfl, (uBefore h.ar h.inv id hKA kc at_).mono ?_⟩
  rintro _ w' ⟨ht, e⟩
  obtain ⟨A, n, c, B, m, d, f, rfl⟩ := ht.form
  exact ⟨_, _, _, _, _, _, _, rfl, ht, e⟩
theorem sLast (h : Sto T u s q) (id : Int) :
    CallsV Try.prog 52 #[.pointer (some ⟨s, 0, none⟩), .int .i64 id] u fun r w' => Told u ((gF (foD q.D) id).bind fun es => es.getLast?) r w' ∧ Ext u w' := by
  obtain ⟨g, R, M, IA, ic, X, xc, L, h⟩ := h
  refine undo_Store_Last.calls okay ?_
  unfold undo_Store_Last.W
  refine (of_spec h).same ⟨_, rfl, (uLast h.ar h.inv id).mono ?_⟩
  rintro _ w' ⟨ht, e⟩
  obtain ⟨A, n, c, B, m, d, f, rfl⟩ := ht.form
  exact ⟨_, _, _, _, _, _, _, rfl, ht, e⟩
def GetR (u w' : World) (x : Option Key) (r : Value) : Prop := match x with
  | none => r = .tuple #[.slice none 0 0, .bool false]
  | some v => ∃ B d, r = .tuple #[.slice B v.length d, .bool true] ∧ OwnB w' B d v ∧ New u B ∧ v.length ≤ 1048576
theorem sGet (h : Sto T u s q) (id : Int) {key : Key} {Ω : Nat → Prop} {KA : Option Addr} (hKA : Imm KB Ω u KA key) (kc : Nat) :
    CallsV Try.prog 49 #[.pointer (some ⟨s, 0, none⟩), .int .i64 id, .slice KA key.length kc] u fun r w' => Ext u w' ∧ GetR u w' ((gF (foD q.D) id).bind (getE key)) r := by
  obtain ⟨g, R, M, IA, ic, X, xc, L, h⟩ := h
  refine undo_Store_Get.calls okay ?_
  unfold undo_Store_Get.W
  refine (of_spec h).same ⟨_, rfl, (uGet h.ar h.inv id hKA kc).mono ?_⟩
  rintro r w' ⟨e, ht⟩
  generalize (gF (foD q.D) id).bind (getE key) = x at ht
  cases x with
  | none => cases ht; exact ⟨_, _, _, _, rfl, e, rfl⟩
  | some v => obtain ⟨B, d, rfl, h2⟩ := ht; exact ⟨_, _, _, _, rfl, e, B, d, rfl, h2⟩
theorem sLen (h : Sto T u s q) (id : Int) : CallsV Try.prog 34 #[.pointer (some ⟨s, 0, none⟩), .int .i64 id] u fun r w' => r = iv (lenO (gF (foD q.D) id)) ∧ Ext u w' := by
  obtain ⟨g, R, M, IA, ic, X, xc, L, h⟩ := h
  refine undo_Store_Len.calls okay ?_
  unfold undo_Store_Len.W
  refine (of_spec h).same ⟨_, rfl, (uLen h.ar h.inv id).mono ?_⟩
  rintro _ w' ⟨rfl, e⟩
  exact ⟨_, rfl, rfl, e⟩
theorem sCheck (h : Sto T u s q) : CallsV Try.prog 35 #[.pointer (some ⟨s, 0, none⟩)] u fun r w' => r = .int .i64 0 ∧ Ext u w' := by
  obtain ⟨g, R, M, IA, ic, X, xc, L, h⟩ := h
  refine undo_Store_Check.calls okay ?_
  unfold undo_Store_Check.W
  refine (of_spec h).same ⟨_, rfl, (dCheck h.inv h.ar).mono ?_⟩
  rintro _ w' ⟨rfl, e⟩
  exact ⟨_, rfl, rfl, e⟩
theorem sTrees (h : Sto T u s q) : CallsV Try.prog 33 #[.pointer (some ⟨s, 0, none⟩)] u fun r w' => ∃ A c, r = .slice A (idsD q.D).length c ∧ OwnK KI w' A c (idsD q.D) ∧ Ext u w' ∧ New u A := by
  obtain ⟨g, R, M, IA, ic, X, xc, L, h⟩ := h
  refine undo_Store_Trees.calls okay ?_
  unfold undo_Store_Trees.W
  refine br (fun h => by cases h) fun _ => ⟨_, rfl, _, _, _, h.blk.cell rfl, (CloneI_spec oneI (h.ids.imm KI_pos) (by rw [idsD_len]; have := h.inv.cnt; omega)).mono ?_⟩
  rintro _ w' ⟨A', c', rfl, ho, e, n, _⟩
  exact ⟨_, _, _, rfl, A', c', rfl, ho, e, n⟩
end
/-! ## what changes it -/
section
variable {A : Ar} {D : List Tr}
structure PutRel (A : Ar) (D : List Tr) (id : Int) (key val : Key) (A' : Ar) (D' : List Tr) (was : Bool) (e : Int) : Prop where
  inv : Inv A' D'
  same : Same A A'
  ids : idsD D' = idsD D
  rel : (gF (foD D) id = none ∧ A' = A ∧ D' = D ∧ was = false ∧ e = 41) ∨ ∃ D1 d D2 d' full, D = D1 ++ d :: D2 ∧ d.r = id ∧ D' = D1 ++ d' :: D2 ∧ d'.r = d.r ∧ was = (!full && inE key d.es) ∧ e = (if full then 5 else 0) ∧ (full = true → A' = A ∧ d' = d ∧ inE key d.es = false ∧ A.most < A.nodes + d.h + 1) ∧ (full = false → d'.es = insE key val d.es)
theorem aPut (hI : Inv A D) (id : Int) {key val : Key} (hk : key.length ≤ 1048576) (hv : val.length ≤ 1048576) : ∃ A' D' was e, PutRel A D id key val A' D' was e ∧
    ∀ {T : Nat → Prop} {u : World} {s : Nat} {ms : List (Ar × List Tr)}, Sto T u s ⟨A, D, ms⟩ → ∀ {Ω1 Ω2 : Nat → Prop} {KA VA : Option Addr}, Imm KB Ω1 u KA key → Imm KB Ω2 u VA val → ∀ kc vc : Nat,
      CallsV Try.prog 29 #[.pointer (some ⟨s, 0, none⟩), .int .i64 id, .slice KA key.length kc, .slice VA val.length vc] u fun r u' => r = .tuple #[.bool was, .int .i64 e] ∧ ∃ T', Sto T' u' s ⟨A', D', ms⟩ ∧ Tch T u T' u' := by
  rcases find_split (Ds := D) (r := id) with ⟨h1, h2⟩ | ⟨D1, d, D2, rfl, rfl, h3⟩
  · refine ⟨A, D, false, 41, ⟨hI, .refl A, rfl, .inl ⟨h1, rfl, rfl, rfl, rfl⟩⟩, ?_⟩
    rintro T u s ms ⟨g, R, M, IA, ic, X, xc, L, h⟩ Ω1 Ω2 KA VA iK iV kc vc
    refine undo_Store_Put.calls okay ?_
    unfold undo_Store_Put.W
    refine (of_spec h).same ⟨_, rfl, (Put_none h.ar (by have := hI.f1; show 0 < A.fan; omega) (hI.miss h2) KA VA key.length kc val.length vc).same ⟨_, _, rfl, rfl, T, ⟨g, R, M, IA, ic, X, xc, L, h⟩, .refl _ _⟩⟩
  · obtain ⟨A', d', full, hr', hI', hs', hfu, hno, hP⟩ := dPut hI hk hv
    have hids : idsD (D1 ++ d' :: D2) = idsD (D1 ++ d :: D2) := by simp [idsD, hr']
    refine ⟨A', D1 ++ d' :: D2, _, _, ⟨hI', hs', hids, .inr ⟨D1, d, D2, d', full, rfl, rfl, rfl, hr', rfl, rfl, hfu, hno⟩⟩, ?_⟩
    rintro T u s ms ⟨g, R, M, IA, ic, X, xc, L, h⟩ Ω1 Ω2 KA VA iK iV kc vc
    refine undo_Store_Put.calls okay ?_
    unfold undo_Store_Put.W
    refine (of_spec h).same ⟨_, rfl, (hP h.ar iK iV kc vc).mono ?_⟩
    rintro _ u' ⟨rfl, R', M', h', c⟩
    obtain ⟨T', h2, c2⟩ := h.chg h' c hI' hs'.fan hs'.most
    exact ⟨_, _, rfl, rfl, T', ⟨g, R', M', IA, ic, X, xc, L, by rw [hids]; exact h2⟩, c2⟩
structure DelRel (A : Ar) (D : List Tr) (id : Int) (key : Key) (A' : Ar) (D' : List Tr) (was : Bool) (e : Int) : Prop where
  inv : Inv A' D'
  same : Same A A'
  ids : idsD D' = idsD D
  rel : (gF (foD D) id = none ∧ A' = A ∧ D' = D ∧ was = false ∧ e = 41) ∨ ∃ D1 d D2 d', D = D1 ++ d :: D2 ∧ d.r = id ∧ D' = D1 ++ d' :: D2 ∧ d'.r = d.r ∧ was = inE key d.es ∧ e = 0 ∧ d'.es = delE key d.es
theorem aDel (hI : Inv A D) (id : Int) (key : Key) : ∃ A' D' was e, DelRel A D id key A' D' was e ∧
    ∀ {T : Nat → Prop} {u : World} {s : Nat} {ms : List (Ar × List Tr)}, Sto T u s ⟨A, D, ms⟩ → ∀ {Ω1 : Nat → Prop} {KA : Option Addr}, Imm KB Ω1 u KA key → ∀ kc : Nat,
      CallsV Try.prog 40 #[.pointer (some ⟨s, 0, none⟩), .int .i64 id, .slice KA key.length kc] u fun r u' => r = .tuple #[.bool was, .int .i64 e] ∧ ∃ T', Sto T' u' s ⟨A', D', ms⟩ ∧ Tch T u T' u' := by
  rcases find_split (Ds := D) (r := id) with ⟨h1, h2⟩ | ⟨D1, d, D2, rfl, rfl, h3⟩
  · refine ⟨A, D, false, 41, ⟨hI, .refl A, rfl, .inl ⟨h1, rfl, rfl, rfl, rfl⟩⟩, ?_⟩
    rintro T u s ms ⟨g, R, M, IA, ic, X, xc, L, h⟩ Ω1 KA iK kc
    refine undo_Store_Delete.calls okay ?_
    unfold undo_Store_Delete.W
    refine (of_spec h).same ⟨_, rfl, (Delete_none h.ar (by have := hI.f1; show 0 < A.fan; omega) (hI.miss h2) KA key.length kc).same ⟨_, _, rfl, rfl, T, ⟨g, R, M, IA, ic, X, xc, L, h⟩, .refl _ _⟩⟩
  · obtain ⟨A', d', hr', hI', hs', he, hP⟩ := dDel hI key
    have hids : idsD (D1 ++ d' :: D2) = idsD (D1 ++ d :: D2) := by simp [idsD, hr']
    refine ⟨A', D1 ++ d' :: D2, _, _, ⟨hI', hs', hids, .inr ⟨D1, d, D2, d', rfl, rfl, rfl, hr', rfl, rfl, he⟩⟩, ?_⟩
    rintro T u s ms ⟨g, R, M, IA, ic, X, xc, L, h⟩ Ω1 KA iK kc
    refine undo_Store_Delete.calls okay ?_
    unfold undo_Store_Delete.W
    refine (of_spec h).same ⟨_, rfl, (hP h.ar iK kc).mono ?_⟩
    rintro _ u' ⟨rfl, R', M', h', c⟩
    obtain ⟨T', h2, c2⟩ := h.chg h' c hI' hs'.fan hs'.most
    exact ⟨_, _, rfl, rfl, T', ⟨g, R', M', IA, ic, X, xc, L, by rw [hids]; exact h2⟩, c2⟩
structure CreRel (A : Ar) (D : List Tr) (A' : Ar) (D' : List Tr) (n e : Int) : Prop where
  inv : Inv A' D'
  fan : A'.fan = A.fan
  most : A'.most = A.most
  rel : (A.nodes < A.most ∧ D.length < 1000 ∧ A'.last = A.last + 1 ∧ n = ((A.last + 1 : Nat) : Int) ∧ e = 0 ∧ ∃ i, D' = D ++ [⟨((A.last + 1 : Nat) : Int), i, 1, [], [i]⟩]) ∨ ((A.most ≤ A.nodes ∨ 1000 ≤ D.length) ∧ A' = A ∧ D' = D ∧ n = 0 ∧ e = 5)
theorem aCreate (hI : Inv A D) (hl : A.last < 1000000) : ∃ A' D' n e, CreRel A D A' D' n e ∧
    ∀ {T : Nat → Prop} {u : World} {s : Nat} {ms : List (Ar × List Tr)}, Sto T u s ⟨A, D, ms⟩ →
      CallsV Try.prog 26 #[.pointer (some ⟨s, 0, none⟩)] u fun r u' => r = .tuple #[.int .i64 n, .int .i64 e] ∧ ∃ T', Sto T' u' s ⟨A', D', ms⟩ ∧ Tch T u T' u' := by
  by_cases hroom : A.nodes < A.most ∧ D.length < 1000
  · obtain ⟨A', i, hI', hf', hm', hl', hC⟩ := dCreate hI hroom.1 hroom.2 hl
    refine ⟨A', _, _, _, ⟨hI', hf', hm', .inl ⟨hroom.1, hroom.2, hl', rfl, rfl, i, rfl⟩⟩, ?_⟩
    rintro T u s ms ⟨g, R, M, IA, ic, X, xc, L, h⟩
    refine undo_Store_Create.calls okay ?_
    unfold undo_Store_Create.W
    refine (of_spec h).same ⟨_, rfl, (hC h.ar).mono ?_⟩
    rintro _ u1 ⟨rfl, R', M', h', c⟩
    obtain ⟨T1, h1, c1⟩ := h.chg h' c hI' hf' hm'
    refine ⟨_, _, rfl, brd (fun _ => ⟨_, rfl, _, _, _, h1.blk.cell rfl, ?_⟩) fun h => absurd rfl h⟩
    rintro g2 u2 ⟨rfl, rfl⟩
    have hlen : (idsD D).length ≤ 1000 := by rw [idsD_len]; exact hI.cnt
    obtain ⟨A3, c3, u3, hr3, ho3, gr3⟩ := h1.ids.push (K := KI) slI (ty := 37) (a := ((A.last + 1 : Nat) : Int)) (cs := [.int .i64 ((A.last + 1 : Nat) : Int)]) rfl (fun v hv => by simp at hv; subst hv; rfl) (e' := 3) (by show (idsD D).length + 1 ≤ maxLen; simp only [maxLen]; omega) (by show ((idsD D).length + 1) * 8 ≤ 140737488355328; omega)
    obtain ⟨p1, p2⟩ := h1.setIds ho3 gr3
    refine ⟨_, _, _, u3, hr3, _, rfl, p1, fun u4 hu4 => ?_⟩
    obtain ⟨T4, h4, c4⟩ := p2 u4 hu4
    refine ⟨rfl, T4, ⟨g, R', M', A3, c3, X, xc, L, ?_⟩, c1.trans c4⟩
    have : idsD D ++ [((A.last + 1 : Nat) : Int)] = idsD (D ++ [⟨((A.last + 1 : Nat) : Int), i, 1, [], [i]⟩]) := by simp [idsD]
    rw [this] at h4
    exact h4
  · refine ⟨A, D, 0, 5, ⟨hI, rfl, rfl, .inr ⟨by omega, rfl, rfl, rfl, rfl⟩⟩, ?_⟩
    rintro T u s ms ⟨g, R, M, IA, ic, X, xc, L, h⟩
    refine undo_Store_Create.calls okay ?_
    unfold undo_Store_Create.W
    refine (of_spec h).same ⟨_, rfl, (dFull hI (by omega) hl h.ar).mono ?_⟩
    rintro _ u1 ⟨rfl, e1⟩
    exact ⟨_, _, rfl, brd (fun h => by cases h) fun _ => ⟨rfl, T, ⟨g, R, M, IA, ic, X, xc, L, h.ext e1⟩, .ext e1⟩⟩
end
end Go.Proofs.Ythfagbfllheneaa
set_option linter.unusedVariables false
set_option linter.unusedSimpArgs false
namespace Go.Proofs.Ythfagbfllheneaa
open Go Go.Sx T4
section
variable {T : Nat → Prop} {u : World} {s : Nat} {q : Ab}
theorem StoA.setMarks {g : Nat} {R M : Nat → Prop} {IA : Option Addr} {ic : Nat} {X : Option Addr} {xc : Nat} {L : List Mk} {idl : List Int} (h : StoA T u s q g R M IA ic X xc L idl) {a : Mk} (g1 : Sv1 (Om R M) u a.sb g a.A) (g2 : Inv a.A a.D) (g3 : a.A.fan = q.A.fan) (g4 : a.A.most = q.A.most) (g5 : OwnK KI u a.MA a.mc (idsD a.D)) (hnew : ∀ k, ownB a.MA k → ¬ T k) (hl : L.length < 100) {u' : World} {X' : Option Addr} {xc' : Nat} (ho : OwnK KMk u' X' xc' (L ++ [a])) (gr : Grew X X' u u') :
    stOK ((⟨s, 0, none⟩ : Addr).add 2) 0 [.slice X' (L ++ [a]).length xc'] u' ∧ ∀ u2, u2 = setAll ((⟨s, 0, none⟩ : Addr).add 2) 0 [.slice X' (L ++ [a]).length xc'] u' →
      StoA (fun k => T k ∨ ownB X' k ∨ ownB a.MA k) u2 s ⟨q.A, q.D, q.ms ++ [(a.A, a.D)]⟩ g R M IA ic X' xc' (L ++ [a]) idl ∧ Fr T u u2 ∧ ∀ k, ownB X' k → T k ∨ u.heap.size ≤ k := by
  have bs := h.blk.keep gr.fr (fun hk => (h.xO _ hk).2.1 rfl)
  obtain ⟨p1, p2⟩ := setF bs (o := 2) (by simp) (.slice X' (L ++ [a]).length xc')
  refine ⟨p1, fun u2 hu => ?_⟩
  obtain ⟨b2, f2⟩ := p2 u2 hu
  have hsz := gr.fr.size
  have hsz2 := f2.size
  have f : Fr (fun k => ownB X k ∨ k = s) u u2 := (gr.fr.mono fun _ _ h => .inl h).trans f2 (fun _ _ h => h) (fun _ _ h => .inr h)
  have isT : ∀ k, ownB X k ∨ k = s → T k := fun k hk => hk.elim (h.xT k) fun e => e ▸ h.sT
  have notR : ∀ k, ownB X k ∨ k = s → ¬ R k := fun k hk => hk.elim (fun hk => (h.xO k hk).1) fun e => e ▸ h.sR
  have new : ∀ k, ownB X' k → ownB X k ∨ u.heap.size ≤ k := gr.sub
  have hsl := h.blk.lt
  have ma : ∀ k, ownB a.MA k → k < u.heap.size := g5.lt
  refine ⟨⟨h.ar.frame f fun k _ hk => notR k hk, h.inv, by simpa using b2, fun k hk => .inl (h.rT k hk), .inl h.sT, fun k hk => .inl (h.iT k hk), fun k hk => .inr (.inl hk), fun x hx k hk => ?_, fun k hk => ?_, h.sR, h.iO, fun k hk => ?_, fun x hx k hk => ?_, ?_, h.ids.fr f (fun k hk hk' => hk'.elim (fun hx => (h.xO k hx).2.2 hk) fun e => (h.iO k hk).2 e) (fun _ _ _ h => h), ho.fr f2 (fun k hk e => ?_) (fun _ _ _ h => h), fun x hx => ?_, by rw [List.map_append, h.ms]; rfl, by simp; omega⟩, f.mono fun k _ hk => isT k hk, fun k hk => (new k hk).imp (h.xT k) id⟩
  · rcases List.mem_append.1 hx with hx | hx
    · exact .inl (h.mT x hx k hk)
    · obtain rfl := List.mem_singleton.1 hx; exact .inr (.inr hk)
  · rcases hk with hk | hk | hk
    · have := h.tlt k hk; omega
    · have := ho.lt k hk; omega
    · have := ma k hk; omega
  · rcases new k hk with hk | hk
    · exact h.xO k hk
    · exact ⟨fun hr => by have := h.tlt k (h.rT k hr); omega, by omega, fun hi => by have := h.ids.lt k hi; omega⟩
  · rcases List.mem_append.1 hx with hx | hx
    · obtain ⟨m1, m2, m3, m4⟩ := h.mO x hx k hk
      refine ⟨m1, m2, m3, fun hX => ?_⟩
      rcases new k hX with hX | hX
      · exact m4 hX
      · have := h.tlt k (h.mT x hx k hk); omega
    · obtain rfl := List.mem_singleton.1 hx
      have hT := hnew k hk
      refine ⟨fun hr => hT (h.rT k hr), fun e => hT (e ▸ h.sT), fun hi => hT (h.iT k hi), fun hX => ?_⟩
      rcases new k hX with hX | hX
      · exact hT (h.xT k hX)
      · have := ma k hk; omega
  · refine List.pairwise_append.2 ⟨h.mD, List.pairwise_singleton _ _, fun x hx y hy k hk hk' => ?_⟩
    obtain rfl := List.mem_singleton.1 hy
    exact hnew k hk' (h.mT x hx k hk)
  · have e : k = s := e
    rcases new k hk with hk | hk
    · exact (h.xO k hk).2.1 e
    · omega
  · have st : Step (Om R M) u (Om R M) u2 := f.step (fun k _ hk => .inl (notR k hk)) (fun _ _ h => h)
    rcases List.mem_append.1 hx with hx | hx
    · obtain ⟨g1, g2, g3, g4, g5⟩ := h.good x hx
      exact ⟨g1.keep st, g2, g3, g4, g5.fr f (fun k hk hk' => hk'.elim (h.mO x hx k hk).2.2.2 fun e => (h.mO x hx k hk).2.1 e) (fun _ _ _ h => h)⟩
    · obtain rfl := List.mem_singleton.1 hx
      exact ⟨g1.keep st, g2, g3, g4, g5.fr f (fun k hk hk' => hnew k hk (isT k hk')) (fun _ _ _ h => h)⟩
theorem aMark (h : Sto T u s q) : CallsV Try.prog 18 #[.pointer (some ⟨s, 0, none⟩)] u fun r u' => (100 ≤ q.ms.length ∧ r = .tuple #[.int .i64 0, .int .i64 5] ∧ Ext u u') ∨ (q.ms.length < 100 ∧ r = .tuple #[iv (q.ms.length + 1), .int .i64 0] ∧ ∃ T', Sto T' u' s ⟨q.A, q.D, q.ms ++ [(q.A, q.D)]⟩ ∧ Tch T u T' u') := by
  obtain ⟨g, R, M, IA, ic, X, xc, L, h⟩ := h
  have hml : q.ms.length = L.length := by rw [← h.ms, List.length_map]
  refine undo_Store_Mark.calls okay ?_
  unfold undo_Store_Mark.W
  refine (smade_spec h).same ⟨_, rfl, brnb (fun h => by cases h) fun _ => ⟨_, rfl, _, _, _, h.blk.cell rfl, brd (fun hge => .inl ⟨by omega, rfl, .refl _ _⟩) fun hlt => ?_⟩⟩
  refine ⟨fun v => ∃ T' R' M' X' xc' a, StoA T' v s ⟨q.A, q.D, q.ms ++ [(q.A, q.D)]⟩ g R' M' IA ic X' xc' (L ++ [a]) (idsD q.D) ∧ Tch T u T' v, ?_, ?_⟩
  · rintro v ⟨T', R', M', X', xc', a, h', c⟩
    refine ⟨_, rfl, _, _, _, h'.blk.cell rfl, .inr ⟨by omega, ?_, T', ⟨g, R', M', IA, ic, X', xc', _, h'⟩, c⟩⟩
    rw [hml]; simp
  · have ed : Ext u u.drew := Fr.drew NoB u
    have h1 := h.ext ed
    refine ⟨_, rfl, fun v => Blk v s [.pointer (some ⟨g, 0, none⟩), .slice IA (idsD q.D).length ic, .slice X L.length xc], h1.blk, _, _, _, fun v hv => hv.cell rfl, _, rfl, _, fun v hv => hv.cell rfl, _, rfl, _, _, _, fun v hv => hv.cell rfl, (dSave h1.inv h1.ar).mono ?_⟩
    rintro _ u2 ⟨sb, R2, rfl, ha2, c2, e2, hS2⟩
    obtain ⟨T2, h2, t2⟩ := h1.chg ha2 c2 h1.inv rfl rfl
    refine ⟨_, rfl, h2.blk, (CloneI_spec oneI (h2.ids.imm KI_pos) (by rw [idsD_len]; have := h2.inv.cnt; show q.D.length ≤ _; have h9 : q.D.length ≤ 1000 := h2.inv.cnt; omega)).mono ?_⟩
    rintro _ u3 ⟨A3, c3, rfl, ho3, e3, n3, _⟩
    have ho3 : OwnK KI u3 A3 c3 (idsD q.D) := ho3
    have h3 := h2.ext e3
    refine ⟨_, _, _, rfl, h3.blk, ?_⟩
    rintro g4 u4 ⟨rfl, rfl⟩
    obtain ⟨X', xc', u5, hr5, ho5, gr5⟩ := h3.marks.push (K := KMk) slM (ty := 79) (a := ⟨sb, A3, c3, q.A, q.D⟩) (cs := mkC ⟨sb, A3, c3, q.A, q.D⟩) rfl (fun v hv => by simp [mkC] at hv; rcases hv with rfl | rfl <;> rfl) (e' := 122) (by simp only [maxLen]; omega) (by omega)
    have hnew : ∀ k, ownB A3 k → ¬ T2 k := fun k hk ht => by have := n3 k hk; have := h2.tlt k ht; omega
    obtain ⟨p1, p2⟩ := h3.setMarks (a := ⟨sb, A3, c3, q.A, q.D⟩) (hS2.keep (Ext.om e3 R2 M)) h1.inv rfl rfl ho3 hnew (by omega) ho5 gr5
    refine ⟨h3.blk.ext (Fr.alloc NoB u3 _), _, _, _, u5, hr5, _, rfl, p1, fun u6 hu6 => ?_⟩
    obtain ⟨h6, f6, s6⟩ := p2 u6 hu6
    refine ⟨_, R2, M, X', xc', _, h6, (Tch.ext ed).trans (t2.trans ⟨(e3.fr : Fr T2 u2 u3).trans f6 (fun _ _ h => h) (fun _ _ h => h), fun k hk => ?_⟩)⟩
    have := e3.size
    rcases hk with hk | hk | hk
    · exact .inl hk
    · exact (s6 k hk).imp id fun h => by omega
    · exact .inr (n3 k hk)
theorem mkCell {Ω : Nat → Prop} {X : Option Addr} {L : List Mk} (h : Imm KMk Ω u X L) {k : Nat} (hk : k < L.length) : ∃ ad, X = some ad ∧ u.cell? ((ad.add (k * 2)).add 0) = some (.pointer (some ⟨L[k].sb, 0, none⟩)) ∧ u.cell? ((ad.add (k * 2)).add 1) = some (.slice L[k].MA (idsD L[k].D).length L[k].mc) := by
  obtain ⟨ad, hA, _, cs, hr, hc⟩ := h k L[k] (List.getElem?_eq_getElem hk)
  have hr : cs = mkC L[k] := hr
  subst hr
  exact ⟨ad, hA, by rw [add_add]; exact hc 0 _ rfl, by rw [add_add]; exact hc 1 _ rfl⟩
set_option maxHeartbeats 400000 in
theorem aBack (h : Sto T u s q) (n : Int) : CallsV Try.prog 25 #[.pointer (some ⟨s, 0, none⟩), .int .i64 n] u fun r u' => ((n < 1 ∨ (q.ms.length : Int) < n) ∧ r = .int .i64 60 ∧ u' = u) ∨ (1 ≤ n ∧ n ≤ (q.ms.length : Int) ∧ r = .int .i64 0 ∧ ∃ B D' T', q.ms[(n - 1).toNat]? = some (B, D') ∧ Sto T' u' s ⟨B, D', q.ms.take (n - 1).toNat⟩ ∧ Tch T u T' u') := by
  obtain ⟨g, R, M, IA, ic, X, xc, L, h⟩ := h
  have hml : q.ms.length = L.length := by rw [← h.ms, List.length_map]
  have hcnt := h.cnt
  refine undo_Store_Back.calls okay ?_
  unfold undo_Store_Back.W
  refine (sis_spec h n).same ⟨_, rfl, ?_⟩
  by_cases hb : n < 1 ∨ (L.length : Int) < n
  · rw [if_pos hb]
    exact brn (fun _ => .inl ⟨by omega, rfl, rfl⟩) fun h => by cases h
  · rw [if_neg hb]
    have hw : IntKind.i64.wrap (n - 1) = (((n - 1).toNat : Nat) : Int) := by rw [wi _ (by omega) (by omega)]; omega
    have hxle : L.length ≤ xc := by obtain ⟨xs, ho, _⟩ := h.marks; exact ho.le
    obtain ⟨k, hk⟩ : ∃ k, (n - 1).toNat = k := ⟨_, rfl⟩
    rw [hk] at hw ⊢
    have hkl : k < L.length := by omega
    obtain ⟨ad, hX, c0, c1⟩ := mkCell (h.marks.imm KMk_pos) hkl
    refine brn (fun h => absurd rfl h) fun _ => ⟨_, rfl, _, _, _, h.blk.cell rfl, ad, hX, ?_⟩
    rw [hw, Int.toNat_natCast]
    refine ⟨⟨by omega, by omega⟩, _, c0, _, _, _, c1, ?_⟩
    have hmem : L[k] ∈ L := List.getElem_mem hkl
    have hqk : q.ms[k]? = some (L[k].A, L[k].D) := by rw [← h.ms, List.getElem?_map, List.getElem?_eq_getElem hkl]; rfl
    have hdis : ∀ x ∈ L.take k, ∀ j, ownB x.MA j → ¬ ownB L[k].MA j := by
      have hp := h.mD
      rw [← List.take_append_drop k L, List.drop_eq_getElem_cons hkl] at hp
      intro x hx j hj
      exact (List.pairwise_append.1 hp).2.2 x hx L[k] (List.mem_cons.2 (.inl rfl)) j hj
    generalize L[k] = x at *
    intro gm u1 f1
    refine ⟨f1.blk.stOK (o := 0) [_, _] 0 (by simp), fun u2 hu2 => ?_⟩
    have bm : Blk u2 gm (mkC x) := by rw [hu2]; exact Blk.setAll (o := 0) (mkC x) 0 f1.blk
    have e2 : Ext u u2 := by rw [hu2]; exact f1.ext.setAll f1.ge _ _
    have ed : Ext u u2.drew := e2.drew
    have hgm : ¬ T gm := fun ht => by have := h.tlt gm ht; have := f1.ge; omega
    have hgs : gm ≠ s := fun e => hgm (e ▸ h.sT)
    have hd := h.ext ed
    have bmd := bm.ext (Fr.drew NoB u2)
    -- the numbers
    obtain ⟨p1, p2⟩ := setF hd.blk (o := 1) (by simp) (.slice x.MA (idsD x.D).length x.mc)
    refine ⟨fun v => ∃ T', StoA T' v s ⟨q.A, q.D, q.ms.take k⟩ g R M x.MA x.mc X xc (L.take k) (idsD x.D) ∧ Sv1 (Om R M) v x.sb g x.A ∧ Tch T u T' v ∧ Blk v gm (mkC x) ∧ ¬ T' gm, ?_, ?_⟩
    · rintro v ⟨T', h', hS', c', bm', hgm'⟩
      obtain ⟨g1, g2, g3, g4, g5⟩ := h.good x hmem
      have edv : Ext v v.drew := Fr.drew NoB v
      have hv := h'.ext edv
      refine ⟨_, rfl, fun z => Ext v z, edv, _, fun z e => (h'.blk.ext e).cell rfl, _, fun z e => (bm'.ext e).cell rfl, (dLoad hv.inv g2 g3 g4 hv.ar (hS'.keep (Ext.om edv R M))).mono ?_⟩
      rintro _ v2 ⟨rfl, R', M', ha, c⟩
      obtain ⟨T2, h2, t2⟩ := hv.chg ha c g2 g3 g4
      exact ⟨_, rfl, .inr ⟨by omega, by omega, rfl, x.A, x.D, T2, hqk, ⟨g, R', M', x.MA, x.mc, X, xc, _, h2⟩, c'.trans ((Tch.ext edv).trans t2)⟩⟩
    · refine ⟨fun v => Blk v gm (mkC x) ∧ Blk v s [.pointer (some ⟨g, 0, none⟩), .slice IA (idsD q.D).length ic, .slice X L.length xc], ⟨bmd, hd.blk⟩, _, _, _, fun v hv => hv.1.cell rfl, _, rfl, _, _, _, fun v hv => hv.2.cell rfl, ⟨by omega, by omega⟩, _, rfl, p1, fun u3 hu3 => ?_⟩
      obtain ⟨b3, f3⟩ := p2 u3 hu3
      obtain ⟨q1, q2⟩ := setF b3 (o := 2) (by simp) (.slice X k xc)
      rw [cutAt_zero, Nat.sub_zero, Nat.sub_zero]
      refine ⟨_, rfl, q1, fun u4 hu4 => ?_⟩
      obtain ⟨b4, f4⟩ := q2 u4 hu4
      have f : Fr (fun j => j = s) u2.drew u4 := f3.trans f4 (fun _ _ h => h) (fun _ _ h => h)
      have ln : (L.take k).length = k := by rw [List.length_take]; omega
      have sub : ∀ y ∈ L.take k, y ∈ L := fun y hy => (List.take_sublist k L).subset hy
      have so : Step (Om R M) u2.drew (Om R M) u4 := f.step (fun j _ e => .inl fun hr => h.sR (by have e : j = s := e; exact e ▸ hr)) (fun _ _ h => h)
      obtain ⟨g1, g2, g3, g4, g5⟩ := hd.good x hmem
      refine ⟨T, ⟨hd.ar.frame f fun j _ e hr => h.sR (by have e : j = s := e; exact e ▸ hr), hd.inv, by rw [ln]; simpa using b4, h.rT, h.sT, h.mT x hmem, h.xT, fun y hy => h.mT y (sub y hy), fun j hj => Nat.lt_of_lt_of_le (hd.tlt j hj) f.size, h.sR, fun j hj => ⟨(h.mO x hmem j hj).1, (h.mO x hmem j hj).2.1⟩, fun j hj => ⟨(h.xO j hj).1, (h.xO j hj).2.1, fun hm => (h.mO x hmem j hm).2.2.2 hj⟩, fun y hy j hj => ⟨(h.mO y (sub y hy) j hj).1, (h.mO y (sub y hy) j hj).2.1, hdis y hy j hj, (h.mO y (sub y hy) j hj).2.2.2⟩, h.mD.sublist (List.take_sublist k L), g5.fr f (fun j hj e => (h.mO x hmem j hj).2.1 e) (fun _ _ _ h => h), (hd.marks.take k (by omega)).fr f (fun j hj e => (h.xO j hj).2.1 e) (fun _ _ _ h => h), fun y hy => ?_, by rw [List.map_take, h.ms], by rw [ln]; omega⟩, g1.keep so, (Tch.ext ed).trans ⟨f.mono fun j _ e => by have e : j = s := e; rw [e]; exact h.sT, fun j hj => .inl hj⟩, bmd.keep f hgs, hgm⟩
      obtain ⟨y1, y2, y3, y4, y5⟩ := hd.good y (sub y hy)
      exact ⟨y1.keep so, y2, y3, y4, y5.fr f (fun j hj e => (h.mO y (sub y hy) j hj).2.1 e) (fun _ _ _ h => h)⟩
end
theorem aNew (u : World) (fan most : Nat) (h1 : 4 ≤ fan) (h2 : fan ≤ 64) (h3 : 1 ≤ most) (h4 : most ≤ 65536) : CallsV Try.prog 15 #[iv fan, iv most] u fun r u' => ∃ s T, r = .tuple #[.pointer (some ⟨s, 0, none⟩), .int .i64 0] ∧ Sto T u' s ⟨A0 fan most, [], []⟩ ∧ Ext u u' ∧ ∀ k, T k → u.heap.size ≤ k := by
  refine undo_New.calls okay ?_
  unfold undo_New.W
  refine (New_spec u fan most h1 h2 h3 h4).mono ?_
  rintro _ u1 ⟨g, R, M, rfl, ha, e1, hR⟩
  refine ⟨_, _, rfl, brn (fun h => absurd rfl h) fun _ => ?_⟩
  intro s u2 f2
  have hI : Inv (A0 fan most) [] := ⟨rfl, fun _ h => (by cases h), fun x => (by simp [A0]), List.nodup_nil, fun _ h => (by cases h), h1, h2, h4, by simp [Ar.nodes, A0], by simp [A0], by simp⟩
  have hl := ha.lt
  refine ⟨s, fun k => R k ∨ k = s, rfl, ⟨g, R, M, none, 0, none, 0, [], ⟨ha.ext f2.ext, hI, f2.blk, fun k hk => .inl hk, .inr rfl, fun k hk => (ownB_none k hk).elim, fun k hk => (ownB_none k hk).elim, fun x hx => (by cases hx), fun k hk => ?_, fun hr => by have := hl s hr; have := f2.ge; omega, fun k hk => (ownB_none k hk).elim, fun k hk => (ownB_none k hk).elim, fun x hx => (by cases hx), List.Pairwise.nil, OwnK.nil _ _, OwnK.nil _ _, fun x hx => (by cases hx), rfl, by simp⟩⟩, e1.trans' f2.ext, fun k hk => ?_⟩
  · rcases hk with hk | rfl
    · have := hl k hk; have := f2.ext.size; omega
    · exact f2.lt
  · rcases hk with hk | rfl
    · exact hR k hk
    · exact Nat.le_trans e1.size f2.ge
end Go.Proofs.Ythfagbfllheneaa
set_option linter.unusedVariables false
set_option maxRecDepth 100000
namespace Go.Proofs.Ythfagbfllheneaa
open Go Go.Sx
noncomputable def cursor_New.W : Option Addr → Int → World → (Value → World → Prop) → Prop := fun (s : Option Addr) (id : Int) (w : World) (K : Value → World → Prop) => CallsV Try.prog 35
 #[Value.pointer s] w fun (v : Value) (w' : World) => ∃ (x : Int), v = Value.int IntKind.i64 x ∧ bif decide (x = (1 : Int)) then K (Value.tuple #[Value.pointer none, Value.int
 IntKind.i64 (1 : Int)]) w' else CallsV Try.prog 33 #[Value.pointer s] w' fun (v : Value) (w' : World) => ∃ (x : Option Addr) (x_1 x_2 : Nat), v = Value.slice x x_1 x_2 ∧ CallsV Try.prog 92
 #[Value.slice x x_1 x_2, Value.int IntKind.i64 id] w' fun (v : Value) (w' : World) => ∃ (x : Bool), v = Value.bool x ∧ bif !x then K (Value.tuple #[Value.pointer none, Value.int IntKind.i64 (41
 : Int)]) w' else ∀ (g : Nat) (w'_1 : World), Fresh w' g w'_1 [Value.pointer s, Value.int IntKind.i64 id, Value.slice none 0 0, Value.bool false] 101 → K (Value.tuple #[Value.pointer
 (some (Addr.mk g 0 none)), Value.int IntKind.i64 (0 : Int)]) w'_1
theorem cursor_New.calls (ok : Okay Try.prog) {s : Option Addr} {id : Int} {w : World} {K : Value → World → Prop} (h : cursor_New.W s id w K) : CallsV Try.prog 54 #[.pointer s, .int .i64 id] w K :=
  fnW_calls ok Try.func54 (an := (.named .auto)) (args := [.pointer s, .int .i64 id]) (Eq.mp (by kernel_rfl) h)
noncomputable def cursor_Cursor_made.W : Option Addr → World → (Value → World → Prop) → Prop := fun (c : Option Addr) (w : World) (K : Value → World → Prop) => bif !Option.isNone c then ∃ (a : Addr), c
 = some a ∧ ∃ (x : Option Addr), World.cell? w (Addr.add a 0) = some (Value.pointer x) ∧ K (Value.bool !Option.isNone x) w else K (Value.bool false) w
theorem cursor_Cursor_made.calls (ok : Okay Try.prog) {c : Option Addr} {w : World} {K : Value → World → Prop} (h : cursor_Cursor_made.W c w K) : CallsV Try.prog 93 #[.pointer c] w K :=
  fnW_calls ok Try.func93 (an := (.named .auto)) (args := [.pointer c]) (Eq.mp (by kernel_rfl) h)
noncomputable def cursor_Cursor_put.W : Option Addr → Option Addr → Nat → Nat → Option Addr → Nat → Nat → Bool → World → (Value → World → Prop) → Prop := fun (c key_A : Option Addr) (key_n key_c : Nat)
 (a2_A : Option Addr) (a2_n a2_c : Nat) (okx : Bool) (w : World) (K : Value → World → Prop) => bif Option.isNone c then K (Value.bool false) w else ∃ (a : Addr), c = some a ∧ ∃ (x : Option
 Addr), World.cell? w (Addr.add a 0) = some (Value.pointer x) ∧ bif Option.isNone x then K (Value.bool false) w else ∃ (a : Addr), c = some a ∧ stOK (Addr.add a 2) 0 [Value.slice
 key_A key_n key_c] w ∧ ∀ (w' : World), w' = setAll (Addr.add a 2) 0 [Value.slice key_A key_n key_c] w → ∃ (a : Addr), c = some a ∧ stOK (Addr.add a 3) 0 [Value.bool okx] w' ∧ ∀ (w'_1 : World),
 w'_1 = setAll (Addr.add a 3) 0 [Value.bool okx] w' → K (Value.bool okx) w'_1
theorem cursor_Cursor_put.calls (ok : Okay Try.prog) {c : Option Addr} {key_A : Option Addr} {key_n : Nat} {key_c : Nat} {a2_A : Option Addr} {a2_n : Nat} {a2_c : Nat} {okx : Bool} {w : World} {K : Value → World → Prop} (h : cursor_Cursor_put.W c key_A key_n key_c a2_A a2_n a2_c okx w K) : CallsV Try.prog 98 #[.pointer c, .slice key_A key_n key_c, .slice a2_A a2_n a2_c, .bool okx] w K :=
  fnW_calls ok Try.func98 (an := (.named .auto)) (args := [.pointer c, .slice key_A key_n key_c, .slice a2_A a2_n a2_c, .bool okx]) (Eq.mp (by kernel_rfl) h)
noncomputable def cursor_Cursor_Rewind.W : Option Addr → World → (Value → World → Prop) → Prop := fun (c : Option Addr) (w : World) (K : Value → World → Prop) => CallsV Try.prog 93 #[Value.pointer c]
 (World.drew w) fun (v : Value) (w' : World) => ∃ (x : Bool), v = Value.bool x ∧ bif x then ∃ (a : Addr), c = some a ∧ ∃ (S : World → Prop), S w' ∧ ∃ (x : Option Addr), (∀ (u : World), S u →
 World.cell? u (Addr.add a 0) = some (Value.pointer x)) ∧ ∃ (a : Addr), c = some a ∧ ∃ (x_1 : Int), (∀ (u : World), S u → World.cell? u (Addr.add a 1) = some (Value.int IntKind.i64
 x_1)) ∧ CallsV Try.prog 50 #[Value.pointer x, Value.int IntKind.i64 x_1, Value.slice none 0 0, Value.bool true] w' fun (v : Value) (w' : World) => ∃ (x : Option Addr) (x_2 x_3 : Nat) (x_4 :
 Option Addr) (x_5 x_6 : Nat) (x_7 : Bool), v = Value.tuple #[Value.slice x x_2 x_3, Value.slice x_4 x_5 x_6, Value.bool x_7] ∧ CallsV Try.prog 98 #[Value.pointer c, Value.slice x x_2 x_3, Value.slice
 x_4 x_5 x_6, Value.bool x_7] w' fun (v : Value) (w' : World) => ∃ (x : Bool), v = Value.bool x ∧ K (Value.bool x) w' else K (Value.bool false) w'
theorem cursor_Cursor_Rewind.calls (ok : Okay Try.prog) {c : Option Addr} {w : World} {K : Value → World → Prop} (h : cursor_Cursor_Rewind.W c w K) : CallsV Try.prog 61 #[.pointer c] w K :=
  fnW_calls ok Try.func61 (an := (.named .auto)) (args := [.pointer c]) (Eq.mp (by kernel_rfl) h)
noncomputable def cursor_Cursor_Last.W : Option Addr → World → (Value → World → Prop) → Prop := fun (c : Option Addr) (w : World) (K : Value → World → Prop) => CallsV Try.prog 93 #[Value.pointer c]
 (World.drew w) fun (v : Value) (w' : World) => ∃ (x : Bool), v = Value.bool x ∧ bif x then ∃ (a : Addr), c = some a ∧ ∃ (S : World → Prop), S w' ∧ ∃ (x : Option Addr), (∀ (u : World), S u →
 World.cell? u (Addr.add a 0) = some (Value.pointer x)) ∧ ∃ (a : Addr), c = some a ∧ ∃ (x_1 : Int), (∀ (u : World), S u → World.cell? u (Addr.add a 1) = some (Value.int IntKind.i64
 x_1)) ∧ CallsV Try.prog 52 #[Value.pointer x, Value.int IntKind.i64 x_1] w' fun (v : Value) (w' : World) => ∃ (x : Option Addr) (x_2 x_3 : Nat) (x_4 : Option Addr) (x_5 x_6 : Nat) (x_7 : Bool), v =
 Value.tuple #[Value.slice x x_2 x_3, Value.slice x_4 x_5 x_6, Value.bool x_7] ∧ CallsV Try.prog 98 #[Value.pointer c, Value.slice x x_2 x_3, Value.slice x_4 x_5 x_6, Value.bool x_7] w' fun (v : Value)
 (w' : World) => ∃ (x : Bool), v = Value.bool x ∧ K (Value.bool x) w' else K (Value.bool false) w'
theorem cursor_Cursor_Last.calls (ok : Okay Try.prog) {c : Option Addr} {w : World} {K : Value → World → Prop} (h : cursor_Cursor_Last.W c w K) : CallsV Try.prog 62 #[.pointer c] w K :=
  fnW_calls ok Try.func62 (an := (.named .auto)) (args := [.pointer c]) (Eq.mp (by kernel_rfl) h)
noncomputable def cursor_Cursor_entry.W : Option Addr → World → (Value → World → Prop) → Prop := fun (c : Option Addr) (w : World) (K : Value → World → Prop) => CallsV Try.prog 93 #[Value.pointer c] w
 fun (v : Value) (w' : World) => ∃ (x : Bool), v = Value.bool x ∧ bif !x then K (Value.tuple #[Value.slice none 0 0, Value.slice none 0 0, Value.bool false]) w' else ∃ (a : Addr), c =
 some a ∧ ∃ (x : Bool), World.cell? w' (Addr.add a 3) = some (Value.bool x) ∧ bif !x then K (Value.tuple #[Value.slice none 0 0, Value.slice none 0 0, Value.bool false])
 w' else ∃ (a : Addr), c = some a ∧ ∃ (S : World → Prop), S (World.drew w') ∧ ∃ (x : Option Addr), (∀ (u : World), S u → World.cell? u (Addr.add a 0) = some (Value.pointer x)) ∧ ∃ (a :
 Addr), c = some a ∧ ∃ (x_1 : Int), (∀ (u : World), S u → World.cell? u (Addr.add a 1) = some (Value.int IntKind.i64 x_1)) ∧ ∃ (a : Addr), c = some a ∧ ∃ (x_2 : Option Addr) (x_3
 x_4 : Nat), (∀ (u : World), S u → World.cell? u (Addr.add a 2) = some (Value.slice x_2 x_3 x_4)) ∧ CallsV Try.prog 49 #[Value.pointer x, Value.int IntKind.i64 x_1, Value.slice x_2 x_3 x_4]
 (World.drew w') fun (v : Value) (w' : World) => ∃ (x : Option Addr) (x_5 x_6 : Nat) (x_7 : Bool), v = Value.tuple #[Value.slice x x_5 x_6, Value.bool x_7] ∧ ∃ (a : Addr), c = some a ∧ ∃ (x_8 :
 Option Addr) (x_9 x_10 : Nat), World.cell? w' (Addr.add a 2) = some (Value.slice x_8 x_9 x_10) ∧ K (Value.tuple #[Value.slice x_8 x_9 x_10, Value.slice x x_5 x_6, Value.bool x_7]) w'
theorem cursor_Cursor_entry.calls (ok : Okay Try.prog) {c : Option Addr} {w : World} {K : Value → World → Prop} (h : cursor_Cursor_entry.W c w K) : CallsV Try.prog 103 #[.pointer c] w K :=
  fnW_calls ok Try.func103 (an := (.named .auto)) (args := [.pointer c]) (Eq.mp (by kernel_rfl) h)
noncomputable def cursor_Cursor_Valid.W : Option Addr → World → (Value → World → Prop) → Prop := fun (c : Option Addr) (w : World) (K : Value → World → Prop) => CallsV Try.prog 103 #[Value.pointer c] w
 fun (v : Value) (w' : World) => ∃ (x : Option Addr) (x_1 x_2 : Nat) (x_3 : Option Addr) (x_4 x_5 : Nat) (x_6 : Bool), v = Value.tuple #[Value.slice x x_1 x_2, Value.slice x_3 x_4 x_5, Value.bool x_6] ∧
 K (Value.bool x_6) w'
theorem cursor_Cursor_Valid.calls (ok : Okay Try.prog) {c : Option Addr} {w : World} {K : Value → World → Prop} (h : cursor_Cursor_Valid.W c w K) : CallsV Try.prog 64 #[.pointer c] w K :=
  fnW_calls ok Try.func64 (an := (.named .auto)) (args := [.pointer c]) (Eq.mp (by kernel_rfl) h)
noncomputable def cursor_Cursor_Key.W : Option Addr → World → (Value → World → Prop) → Prop := fun (c : Option Addr) (w : World) (K : Value → World → Prop) => CallsV Try.prog 103 #[Value.pointer c] w
 fun (v : Value) (w' : World) => ∃ (x : Option Addr) (x_1 x_2 : Nat) (x_3 : Option Addr) (x_4 x_5 : Nat) (x_6 : Bool), v = Value.tuple #[Value.slice x x_1 x_2, Value.slice x_3 x_4 x_5, Value.bool x_6] ∧
 bif !x_6 then K (Value.slice none 0 0) w' else CallsV Try.prog 102 #[Value.slice x x_1 x_2] w' fun (v : Value) (w' : World) => ∃ (x : Option Addr) (x_7 x_8 : Nat), v = Value.slice x x_7 x_8 ∧ K
 (Value.slice x x_7 x_8) w'
theorem cursor_Cursor_Key.calls (ok : Okay Try.prog) {c : Option Addr} {w : World} {K : Value → World → Prop} (h : cursor_Cursor_Key.W c w K) : CallsV Try.prog 65 #[.pointer c] w K :=
  fnW_calls ok Try.func65 (an := (.named .auto)) (args := [.pointer c]) (Eq.mp (by kernel_rfl) h)
noncomputable def cursor_Cursor_Value.W : Option Addr → World → (Value → World → Prop) → Prop := fun (c : Option Addr) (w : World) (K : Value → World → Prop) => CallsV Try.prog 103 #[Value.pointer c] w
 fun (v : Value) (w' : World) => ∃ (x : Option Addr) (x_1 x_2 : Nat) (x_3 : Option Addr) (x_4 x_5 : Nat) (x_6 : Bool), v = Value.tuple #[Value.slice x x_1 x_2, Value.slice x_3 x_4 x_5, Value.bool x_6] ∧
 K (Value.slice x_3 x_4 x_5) w'
theorem cursor_Cursor_Value.calls (ok : Okay Try.prog) {c : Option Addr} {w : World} {K : Value → World → Prop} (h : cursor_Cursor_Value.W c w K) : CallsV Try.prog 66 #[.pointer c] w K :=
  fnW_calls ok Try.func66 (an := (.named .auto)) (args := [.pointer c]) (Eq.mp (by kernel_rfl) h)
noncomputable def cursor_Cursor_Insert.W : Option Addr → Option Addr → Nat → Nat → Option Addr → Nat → Nat → World → (Value → World → Prop) → Prop := fun (c key_A : Option Addr) (key_n key_c : Nat)
 (val_A : Option Addr) (val_n val_c : Nat) (w : World) (K : Value → World → Prop) => CallsV Try.prog 93 #[Value.pointer c] w fun (v : Value) (w' : World) => ∃ (x : Bool), v = Value.bool x ∧ bif !x then
 K (Value.tuple #[Value.bool false, Value.int IntKind.i64 (1 : Int)]) w' else ∃ (a : Addr), c = some a ∧ ∃ (S : World → Prop), S (World.drew w') ∧ ∃ (x : Option Addr), (∀ (u : World), S u →
 World.cell? u (Addr.add a 0) = some (Value.pointer x)) ∧ ∃ (a : Addr), c = some a ∧ ∃ (x_1 : Int), (∀ (u : World), S u → World.cell? u (Addr.add a 1) = some (Value.int IntKind.i64
 x_1)) ∧ CallsV Try.prog 29 #[Value.pointer x, Value.int IntKind.i64 x_1, Value.slice key_A key_n key_c, Value.slice val_A val_n val_c] (World.drew w') fun (v : Value) (w' : World) => ∃ (x : Bool) (x_2
 : Int), v = Value.tuple #[Value.bool x, Value.int IntKind.i64 x_2] ∧ bif decide (x_2 = (0 : Int)) then CallsV Try.prog 102 #[Value.slice key_A key_n key_c] w' fun (v : Value) (w' : World) =>
 ∃ (x_3 : Option Addr) (x_4 x_5 : Nat), v = Value.slice x_3 x_4 x_5 ∧ CallsV Try.prog 98 #[Value.pointer c, Value.slice x_3 x_4 x_5, Value.slice none 0 0, Value.bool true] w' fun (v : Value)
 (w' : World) => ∃ (x_6 : Bool), v = Value.bool x_6 ∧ K (Value.tuple #[Value.bool x, Value.int IntKind.i64 x_2]) w' else K (Value.tuple #[Value.bool x, Value.int IntKind.i64 x_2]) w'
theorem cursor_Cursor_Insert.calls (ok : Okay Try.prog) {c : Option Addr} {key_A : Option Addr} {key_n : Nat} {key_c : Nat} {val_A : Option Addr} {val_n : Nat} {val_c : Nat} {w : World} {K : Value → World → Prop} (h : cursor_Cursor_Insert.W c key_A key_n key_c val_A val_n val_c w K) : CallsV Try.prog 60 #[.pointer c, .slice key_A key_n key_c, .slice val_A val_n val_c] w K :=
  fnW_calls ok Try.func60 (an := (.named .auto)) (args := [.pointer c, .slice key_A key_n key_c, .slice val_A val_n val_c]) (Eq.mp (by kernel_rfl) h)
noncomputable def cursor_Cursor_Delete.W : Option Addr → World → (Value → World → Prop) → Prop := fun (c : Option Addr) (w : World) (K : Value → World → Prop) => CallsV Try.prog 93 #[Value.pointer c] w
 fun (v : Value) (w' : World) => ∃ (x : Bool), v = Value.bool x ∧ bif !x then K (Value.int IntKind.i64 (1 : Int)) w' else ∃ (J : Bool → World → Prop), (∀ (x : Bool) (w : World), J x w → bif x then K
 (Value.int IntKind.i64 (41 : Int)) w else CallsV Try.prog 64 #[Value.pointer c] w fun (v : Value) (w' : World) => ∃ (x : Bool), v = Value.bool x ∧ bif !x then K (Value.int IntKind.i64 (70 : Int)) w'
 else ∃ (a : Addr), c = some a ∧ ∃ (S : World → Prop), S (World.drew w') ∧ ∃ (x : Option Addr), (∀ (u : World), S u → World.cell? u (Addr.add a 0) = some (Value.pointer x)) ∧ ∃ (a : Addr),
 c = some a ∧ ∃ (x_1 : Int), (∀ (u : World), S u → World.cell? u (Addr.add a 1) = some (Value.int IntKind.i64 x_1)) ∧ ∃ (a : Addr), c = some a ∧ ∃ (x_2 : Option Addr) (x_3 x_4 :
 Nat), (∀ (u : World), S u → World.cell? u (Addr.add a 2) = some (Value.slice x_2 x_3 x_4)) ∧ CallsV Try.prog 40 #[Value.pointer x, Value.int IntKind.i64 x_1, Value.slice x_2 x_3 x_4] (World.drew
 w') fun (v : Value) (w' : World) => ∃ (x : Bool) (x_5 : Int), v = Value.tuple #[Value.bool x, Value.int IntKind.i64 x_5] ∧ K (Value.int IntKind.i64 x_5) w') ∧ ∃ (a : Addr), c = some a ∧ ∃ (S :
 World → Prop), S (World.drew w') ∧ ∃ (x : Option Addr), (∀ (u : World), S u → World.cell? u (Addr.add a 0) = some (Value.pointer x)) ∧ ∃ (a : Addr), c = some a ∧ ∃ (x_1 : Int), (∀ (u :
 World), S u → World.cell? u (Addr.add a 1) = some (Value.int IntKind.i64 x_1)) ∧ CallsV Try.prog 33 #[Value.pointer x] (World.drew w') fun (v : Value) (w' : World) => ∃ (x : Option Addr) (x_2
 x_3 : Nat), v = Value.slice x x_2 x_3 ∧ S w' ∧ CallsV Try.prog 92 #[Value.slice x x_2 x_3, Value.int IntKind.i64 x_1] w' fun (v : Value) (w' : World) => ∃ (x : Bool), v = Value.bool x ∧ J (!x) w'
theorem cursor_Cursor_Delete.calls (ok : Okay Try.prog) {c : Option Addr} {w : World} {K : Value → World → Prop} (h : cursor_Cursor_Delete.W c w K) : CallsV Try.prog 67 #[.pointer c] w K :=
  fnW_calls ok Try.func67 (an := (.named (.seq .auto (.seq (.block (.seq .auto (.cond .auto (.join [(9, .one .bool)] .auto .auto)))) .auto)))) (args := [.pointer c]) (Eq.mp (by kernel_rfl) h)
noncomputable def cursor_Cursor_Seek_1.W : Addr → Addr → World → (Value → World → Prop) → Prop := fun (a0 a1 : Addr) (w : World) (K : Value → World → Prop) => ∃ (S : World → Prop), S (World.drew w) ∧ ∃
 (x : Option Addr), (∀ (u : World), S u → World.cell? u a0 = some (Value.pointer x)) ∧ ∃ (a : Addr), x = some a ∧ ∃ (x : Option Addr), (∀ (u : World), S u → World.cell? u (Addr.add a 0) =
 some (Value.pointer x)) ∧ ∃ (x_1 : Option Addr), (∀ (u : World), S u → World.cell? u a0 = some (Value.pointer x_1)) ∧ ∃ (a : Addr), x_1 = some a ∧ ∃ (x_2 : Int), (∀ (u : World), S
 u → World.cell? u (Addr.add a 1) = some (Value.int IntKind.i64 x_2)) ∧ ∃ (x_3 : Option Addr) (x_4 x_5 : Nat), (∀ (u : World), S u → World.cell? u a1 = some (Value.slice x_3 x_4 x_5)) ∧
 CallsV Try.prog 50 #[Value.pointer x, Value.int IntKind.i64 x_2, Value.slice x_3 x_4 x_5, Value.bool true] (World.drew w) fun (v : Value) (w' : World) => ∃ (x : Option Addr) (x_6 x_7 : Nat) (x_8 :
 Option Addr) (x_9 x_10 : Nat) (x_11 : Bool), v = Value.tuple #[Value.slice x x_6 x_7, Value.slice x_8 x_9 x_10, Value.bool x_11] ∧ S w' ∧ K (Value.tuple #[Value.slice x x_6 x_7, Value.slice x_8 x_9
 x_10, Value.bool x_11]) w'
theorem cursor_Cursor_Seek_1.calls (ok : Okay Try.prog) {a0 : Addr} {a1 : Addr} {w : World} {K : Value → World → Prop} (h : cursor_Cursor_Seek_1.W a0 a1 w K) : CallsV Try.prog 94 #[.pointer (some a0), .pointer (some a1)] w K :=
  fnW_calls ok Try.func94 (an := (.named .auto)) (args := [.pointer (some a0), .pointer (some a1)]) (Eq.mp (by kernel_rfl) h)
noncomputable def cursor_Cursor_Seek_2.W : Addr → Addr → World → (Value → World → Prop) → Prop := fun (a0 a1 : Addr) (w : World) (K : Value → World → Prop) => ∃ (S : World → Prop), S (World.drew w) ∧ ∃
 (x : Option Addr), (∀ (u : World), S u → World.cell? u a0 = some (Value.pointer x)) ∧ ∃ (a : Addr), x = some a ∧ ∃ (x : Option Addr), (∀ (u : World), S u → World.cell? u (Addr.add a 0) =
 some (Value.pointer x)) ∧ ∃ (x_1 : Option Addr), (∀ (u : World), S u → World.cell? u a0 = some (Value.pointer x_1)) ∧ ∃ (a : Addr), x_1 = some a ∧ ∃ (x_2 : Int), (∀ (u : World), S
 u → World.cell? u (Addr.add a 1) = some (Value.int IntKind.i64 x_2)) ∧ ∃ (x_3 : Option Addr) (x_4 x_5 : Nat), (∀ (u : World), S u → World.cell? u a1 = some (Value.slice x_3 x_4 x_5)) ∧
 CallsV Try.prog 50 #[Value.pointer x, Value.int IntKind.i64 x_2, Value.slice x_3 x_4 x_5, Value.bool false] (World.drew w) fun (v : Value) (w' : World) => ∃ (x : Option Addr) (x_6 x_7 : Nat) (x_8
 : Option Addr) (x_9 x_10 : Nat) (x_11 : Bool), v = Value.tuple #[Value.slice x x_6 x_7, Value.slice x_8 x_9 x_10, Value.bool x_11] ∧ S w' ∧ K (Value.tuple #[Value.slice x x_6 x_7, Value.slice x_8 x_9
 x_10, Value.bool x_11]) w'
theorem cursor_Cursor_Seek_2.calls (ok : Okay Try.prog) {a0 : Addr} {a1 : Addr} {w : World} {K : Value → World → Prop} (h : cursor_Cursor_Seek_2.W a0 a1 w K) : CallsV Try.prog 95 #[.pointer (some a0), .pointer (some a1)] w K :=
  fnW_calls ok Try.func95 (an := (.named .auto)) (args := [.pointer (some a0), .pointer (some a1)]) (Eq.mp (by kernel_rfl) h)
noncomputable def cursor_Cursor_Seek_3.W : Addr → Addr → World → (Value → World → Prop) → Prop := fun (a0 a1 : Addr) (w : World) (K : Value → World → Prop) => ∃ (S : World → Prop), S (World.drew w) ∧ ∃
 (x : Option Addr), (∀ (u : World), S u → World.cell? u a0 = some (Value.pointer x)) ∧ ∃ (a : Addr), x = some a ∧ ∃ (x : Option Addr), (∀ (u : World), S u → World.cell? u (Addr.add a 0) =
 some (Value.pointer x)) ∧ ∃ (x_1 : Option Addr), (∀ (u : World), S u → World.cell? u a0 = some (Value.pointer x_1)) ∧ ∃ (a : Addr), x_1 = some a ∧ ∃ (x_2 : Int), (∀ (u : World), S
 u → World.cell? u (Addr.add a 1) = some (Value.int IntKind.i64 x_2)) ∧ ∃ (x_3 : Option Addr) (x_4 x_5 : Nat), (∀ (u : World), S u → World.cell? u a1 = some (Value.slice x_3 x_4 x_5)) ∧
 CallsV Try.prog 51 #[Value.pointer x, Value.int IntKind.i64 x_2, Value.slice x_3 x_4 x_5, Value.bool true] (World.drew w) fun (v : Value) (w' : World) => ∃ (x : Option Addr) (x_6 x_7 : Nat) (x_8 :
 Option Addr) (x_9 x_10 : Nat) (x_11 : Bool), v = Value.tuple #[Value.slice x x_6 x_7, Value.slice x_8 x_9 x_10, Value.bool x_11] ∧ S w' ∧ K (Value.tuple #[Value.slice x x_6 x_7, Value.slice x_8 x_9
 x_10, Value.bool x_11]) w'
theorem cursor_Cursor_Seek_3.calls (ok : Okay Try.prog) {a0 : Addr} {a1 : Addr} {w : World} {K : Value → World → Prop} (h : cursor_Cursor_Seek_3.W a0 a1 w K) : CallsV Try.prog 96 #[.pointer (some a0), .pointer (some a1)] w K :=
  fnW_calls ok Try.func96 (an := (.named .auto)) (args := [.pointer (some a0), .pointer (some a1)]) (Eq.mp (by kernel_rfl) h)
noncomputable def cursor_Cursor_Seek_4.W : Addr → Addr → World → (Value → World → Prop) → Prop := fun (a0 a1 : Addr) (w : World) (K : Value → World → Prop) => ∃ (S : World → Prop), S (World.drew w) ∧ ∃
 (x : Option Addr), (∀ (u : World), S u → World.cell? u a0 = some (Value.pointer x)) ∧ ∃ (a : Addr), x = some a ∧ ∃ (x : Option Addr), (∀ (u : World), S u → World.cell? u (Addr.add a 0) =
 some (Value.pointer x)) ∧ ∃ (x_1 : Option Addr), (∀ (u : World), S u → World.cell? u a0 = some (Value.pointer x_1)) ∧ ∃ (a : Addr), x_1 = some a ∧ ∃ (x_2 : Int), (∀ (u : World), S
 u → World.cell? u (Addr.add a 1) = some (Value.int IntKind.i64 x_2)) ∧ ∃ (x_3 : Option Addr) (x_4 x_5 : Nat), (∀ (u : World), S u → World.cell? u a1 = some (Value.slice x_3 x_4 x_5)) ∧
 CallsV Try.prog 51 #[Value.pointer x, Value.int IntKind.i64 x_2, Value.slice x_3 x_4 x_5, Value.bool false] (World.drew w) fun (v : Value) (w' : World) => ∃ (x : Option Addr) (x_6 x_7 : Nat) (x_8
 : Option Addr) (x_9 x_10 : Nat) (x_11 : Bool), v = Value.tuple #[Value.slice x x_6 x_7, Value.slice x_8 x_9 x_10, Value.bool x_11] ∧ S w' ∧ K (Value.tuple #[Value.slice x x_6 x_7, Value.slice x_8 x_9
 x_10, Value.bool x_11]) w'
theorem cursor_Cursor_Seek_4.calls (ok : Okay Try.prog) {a0 : Addr} {a1 : Addr} {w : World} {K : Value → World → Prop} (h : cursor_Cursor_Seek_4.W a0 a1 w K) : CallsV Try.prog 97 #[.pointer (some a0), .pointer (some a1)] w K :=
  fnW_calls ok Try.func97 (an := (.named .auto)) (args := [.pointer (some a0), .pointer (some a1)]) (Eq.mp (by kernel_rfl) h)
noncomputable def bytes_Clone.W : Option Addr → Nat → Nat → World → (Value → World → Prop) → Prop := fun (b_A : Option Addr) (b_n b_c : Nat) (w : World) (K : Value → World → Prop) => bif Option.isNone
 b_A then K (Value.slice none 0 0) w else ∀ (g : Nat) (w' : World), Fresh w g w' [] 5 → ∃ (x : Option Addr) (x_1 x_2 : Nat) (w'_1 : World), RunsTo Try.prog (Builtin.append_ (Array.mk [28, 28]) 28
 #[Value.slice (some (Addr.mk g 0 none)) 0 0, Value.slice b_A b_n b_c]) w' (Value.slice x x_1 x_2) w'_1 ∧ K (Value.slice x x_1 x_2) w'_1
theorem bytes_Clone.calls (ok : Okay Try.prog) {b_A : Option Addr} {b_n : Nat} {b_c : Nat} {w : World} {K : Value → World → Prop} (h : bytes_Clone.W b_A b_n b_c w K) : CallsV Try.prog 102 #[.slice b_A b_n b_c] w K :=
  fnW_calls ok Try.func102 (an := (.named .auto)) (args := [.slice b_A b_n b_c]) (Eq.mp (by kernel_rfl) h)
noncomputable def slices_Contains_int_int.W : Option Addr → Nat → Nat → Int → World → (Value → World → Prop) → Prop := fun (s_A : Option Addr) (s_n s_c : Nat) (v : Int) (w : World) (K : Value → World →
 Prop) => CallsV Try.prog 124 #[Value.slice s_A s_n s_c, Value.int IntKind.i64 v] w fun (v : Value) (w' : World) => ∃ (x : Int), v = Value.int IntKind.i64 x ∧ K (Value.bool (decide ((0 : Int)
 ≤ x))) w'
theorem slices_Contains_int_int.calls (ok : Okay Try.prog) {s_A : Option Addr} {s_n : Nat} {s_c : Nat} {v : Int} {w : World} {K : Value → World → Prop} (h : slices_Contains_int_int.W s_A s_n s_c v w K) : CallsV Try.prog 92 #[.slice s_A s_n s_c, .int .i64 v] w K :=
  fnW_calls ok Try.func92 (an := (.named .auto)) (args := [.slice s_A s_n s_c, .int .i64 v]) (Eq.mp (by kernel_rfl) h)
noncomputable def slices_Index_int_int.W : Option Addr → Nat → Nat → Int → World → (Value → World → Prop) → Prop := fun (s_A : Option Addr) (s_n s_c : Nat) (v : Int) (w : World) (K : Value → World →
 Prop) => ∃ (I : Int → World → Prop) (μ : Int → World → Nat), I (0 : Int) w ∧ ∀ (x : Int) (w : World), I x w → bif decide (x < (↑s_n : Int)) then ∃ (ad : Addr), s_A = some ad ∧ ((0 :
 Int) ≤ x ∧ x < (↑s_n : Int)) ∧ ∃ (x_1 : Int), World.cell? w (Addr.add ad (Int.toNat x * 1)) = some (Value.int IntKind.i64 x_1) ∧ bif decide (v = x_1) then K (Value.int IntKind.i64 x) w
 else I (IntKind.wrap IntKind.i64 (x + (1 : Int))) w ∧ μ (IntKind.wrap IntKind.i64 (x + (1 : Int))) w < μ x w else K (Value.int IntKind.i64 (-1 : Int)) w
theorem slices_Index_int_int.calls (ok : Okay Try.prog) {s_A : Option Addr} {s_n : Nat} {s_c : Nat} {v : Int} {w : World} {K : Value → World → Prop} (h : slices_Index_int_int.W s_A s_n s_c v w K) : CallsV Try.prog 124 #[.slice s_A s_n s_c, .int .i64 v] w K :=
  fnW_calls ok Try.func124 (an := (.named (.seq .auto (.seq (.seq .auto (.block (.loop [(8, .one (.int .i64))] .auto))) .auto)))) (args := [.slice s_A s_n s_c, .int .i64 v]) (Eq.mp (by kernel_rfl) h)
end Go.Proofs.Ythfagbfllheneaa
set_option linter.unusedVariables false
set_option linter.unusedSimpArgs false
namespace Go.Proofs.Ythfagbfllheneaa
open Go Go.Sx T4
def KeyAt (Ω : Nat → Prop) (w : World) (k : Option Key) (KA : Option Addr) (n : Nat) (ok : Bool) : Prop := match k with
  | none => ok = false
  | some key => ok = true ∧ n = key.length ∧ key.length ≤ 1048576 ∧ Imm KB Ω w KA key
theorem KeyAt.keep {Ω Ω' : Nat → Prop} {w w' : World} {k : Option Key} {KA : Option Addr} {n : Nat} {ok : Bool} (h : KeyAt Ω w k KA n ok) (st : Step Ω w Ω' w') : KeyAt Ω' w' k KA n ok := by
  cases k with
  | none => exact h
  | some key => exact ⟨h.1, h.2.1, h.2.2.1, h.2.2.2.keep KB_pos st⟩
def Cur (Ω : Nat → Prop) (w : World) (g s : Nat) (id : Int) (k : Option Key) : Prop := ∃ KA n c ok, Blk w g [.pointer (some ⟨s, 0, none⟩), .int .i64 id, .slice KA n c, .bool ok] ∧ KeyAt Ω w k KA n ok
section
variable {Ω : Nat → Prop} {w : World} {g s : Nat} {id : Int} {k : Option Key}
theorem Cur.fr (h : Cur Ω w g s id k) {S Ω' : Nat → Prop} {w' : World} (f : Fr S w w') (hg : ¬ S g) (hS : ∀ k, k < w.heap.size → S k → Ω k) (hΩ : ∀ k, k < w.heap.size → Ω' k → Ω k) : Cur Ω' w' g s id k := by
  obtain ⟨KA, n, c, ok, hb, hk⟩ := h
  exact ⟨KA, n, c, ok, hb.keep f hg, hk.keep (f.step hS hΩ)⟩
theorem Cur.ext (h : Cur Ω w g s id k) {w' : World} (e : Ext w w') : Cur Ω w' g s id k := h.fr e (fun h => h) (fun _ _ h => h.elim) fun _ _ h => h
theorem Cur.lt (h : Cur Ω w g s id k) : g < w.heap.size := by obtain ⟨_, _, _, _, hb, _⟩ := h; exact hb.lt
theorem cMade (h : Cur Ω w g s id k) : CallsV Try.prog 93 #[.pointer (some ⟨g, 0, none⟩)] w fun r w' => r = .bool true ∧ w' = w := by
  obtain ⟨KA, n, c, ok, hb, hk⟩ := h
  refine cursor_Cursor_made.calls okay ?_
  unfold cursor_Cursor_made.W
  exact brnb (fun _ => ⟨_, rfl, _, hb.cell rfl, rfl, rfl⟩) fun h => by cases h
theorem cPut {v0 v1 : Value} {v2 v3 : Value} (hb : Blk w g [.pointer (some ⟨s, 0, none⟩), v1, v2, v3]) (KA VA : Option Addr) (kn kc vn vc : Nat) (ok : Bool) : CallsV Try.prog 98 #[.pointer (some ⟨g, 0, none⟩), .slice KA kn kc, .slice VA vn vc, .bool ok] w fun r w' => r = .bool ok ∧ Blk w' g [.pointer (some ⟨s, 0, none⟩), v1, .slice KA kn kc, .bool ok] ∧ Fr (fun k => k = g) w w' := by
  refine cursor_Cursor_put.calls okay ?_
  unfold cursor_Cursor_put.W
  obtain ⟨p1, p2⟩ := setF hb (o := 2) (by simp) (.slice KA kn kc)
  refine br (fun h => by cases h) fun _ => ⟨_, rfl, _, hb.cell rfl, br (fun h => by cases h) fun _ => ⟨_, rfl, p1, fun w1 hw1 => ?_⟩⟩
  obtain ⟨b1, f1⟩ := p2 w1 hw1
  obtain ⟨q1, q2⟩ := setF b1 (o := 3) (by simp) (.bool ok)
  refine ⟨_, rfl, q1, fun w2 hw2 => ?_⟩
  obtain ⟨b2, f2⟩ := q2 w2 hw2
  exact ⟨rfl, by simpa using b2, f1.trans f2 (fun _ _ h => h) (fun _ _ h => h)⟩
end
theorem toldLen {w w' : World} {x : Option (Key × Key)} {r : Value} (h : Told w x r w') : ∀ p, x = some p → p.1.length ≤ 1048576 := by
  rintro ⟨k, v⟩ rfl
  obtain ⟨A, c, B, d, _, _, _, _, _, _, h6, _⟩ := h
  exact h6
theorem move {Ω : Nat → Prop} {u v w' : World} {g s : Nat} {id : Int} {x : Option (Key × Key)} {KA : Option Addr} {kn kc : Nat} {ok : Bool} {VA : Option Addr} {vn : Nat} (hΩ : ∀ k, Ω k → k < u.heap.size) (hg : Ω g) (hx : ∀ p, x = some p → p.1.length ≤ 1048576) (ti : TI Ω v x KA kn VA vn ok) (e : Ext u v) (hb : Blk w' g [.pointer (some ⟨s, 0, none⟩), .int .i64 id, .slice KA kn kc, .bool ok]) (f : Fr (fun k => k = g) v w') :
    ok = x.isSome ∧ Cur Ω w' g s id (x.map fun p => p.1) ∧ Fr (fun k => k = g) u w' := by
  have f' : Fr (fun k => k = g) u w' := (Fr.mono e fun _ _ h => h.elim).trans f (fun _ _ h => h) (fun _ _ h => h)
  have st : Step Ω v Ω w' := f.step (fun k _ e => by have e : k = g := e; exact e ▸ hg) fun _ _ h => h
  cases x with
  | none => obtain ⟨_, _, _, _, rfl⟩ := ti; exact ⟨rfl, ⟨_, _, _, _, hb, rfl⟩, f'⟩
  | some p => obtain ⟨h1, _, rfl, h3, _⟩ := ti; exact ⟨rfl, ⟨_, _, _, _, hb, rfl, h1, hx p rfl, h3.keep KB_pos st⟩, f'⟩
section
variable {T Ω : Nat → Prop} {u : World} {s g : Nat} {q : Ab} {id : Int} {k : Option Key}
theorem cRewind (h : Sto T u s q) (hc : Cur Ω u g s id k) (hΩ : ∀ k, Ω k → k < u.heap.size) (hg : Ω g) (hgT : ¬ T g) : CallsV Try.prog 61 #[.pointer (some ⟨g, 0, none⟩)] u fun r u' => ∃ x, x = (gF (foD q.D) id).bind (aftE [] true) ∧ r = .bool x.isSome ∧ Cur Ω u' g s id (x.map fun p => p.1) ∧ Fr (fun k => k = g) u u' := by
  refine cursor_Cursor_Rewind.calls okay ?_
  unfold cursor_Cursor_Rewind.W
  have ed : Ext u u.drew := Fr.drew NoB u
  refine (cMade (hc.ext ed)).same ⟨_, rfl, br (fun _ => ?_) fun h => by cases h⟩
  obtain ⟨KA, n, c, ok, hb, hk⟩ := hc
  refine ⟨_, rfl, fun v => Ext u v, ed, _, fun v e => (hb.ext e).cell rfl, _, rfl, _, fun v e => (hb.ext e).cell rfl, (sAfter (h.ext ed) id (key := []) (Imm.nil KB NoB _ none) 0 true).mono ?_⟩
  rintro r v ⟨ht, e⟩
  have e2 := ed.trans' e
  obtain ⟨KA', kn, kc, VA, vn, vc, ok', rfl, hti⟩ := ht.ti (Ω := Ω) (fun k hk => by have := hΩ k hk; have := ed.size; omega)
  refine ⟨_, _, _, _, _, _, _, rfl, (cPut (v0 := .bool true) (hb.ext e2) KA' VA kn kc vn vc ok').mono ?_⟩
  rintro _ w' ⟨rfl, hb', f⟩
  obtain ⟨h1, h2, h3⟩ := move hΩ hg (toldLen ht) hti e2 hb' f
  exact ⟨_, rfl, _, rfl, by rw [h1], h2, h3⟩
theorem cLast (h : Sto T u s q) (hc : Cur Ω u g s id k) (hΩ : ∀ k, Ω k → k < u.heap.size) (hg : Ω g) (hgT : ¬ T g) : CallsV Try.prog 62 #[.pointer (some ⟨g, 0, none⟩)] u fun r u' => ∃ x, x = (gF (foD q.D) id).bind (fun es => es.getLast?) ∧ r = .bool x.isSome ∧ Cur Ω u' g s id (x.map fun p => p.1) ∧ Fr (fun k => k = g) u u' := by
  refine cursor_Cursor_Last.calls okay ?_
  unfold cursor_Cursor_Last.W
  have ed : Ext u u.drew := Fr.drew NoB u
  refine (cMade (hc.ext ed)).same ⟨_, rfl, br (fun _ => ?_) fun h => by cases h⟩
  obtain ⟨KA, n, c, ok, hb, hk⟩ := hc
  refine ⟨_, rfl, fun v => Ext u v, ed, _, fun v e => (hb.ext e).cell rfl, _, rfl, _, fun v e => (hb.ext e).cell rfl, (sLast (h.ext ed) id).mono ?_⟩
  rintro r v ⟨ht, e⟩
  have e2 := ed.trans' e
  obtain ⟨KA', kn, kc, VA, vn, vc, ok', rfl, hti⟩ := ht.ti (Ω := Ω) (fun k hk => by have := hΩ k hk; have := ed.size; omega)
  refine ⟨_, _, _, _, _, _, _, rfl, (cPut (v0 := .bool true) (hb.ext e2) KA' VA kn kc vn vc ok').mono ?_⟩
  rintro _ w' ⟨rfl, hb', f⟩
  obtain ⟨h1, h2, h3⟩ := move hΩ hg (toldLen ht) hti e2 hb' f
  exact ⟨_, rfl, _, rfl, by rw [h1], h2, h3⟩
theorem cEntry (h : Sto T u s q) (hc : Cur Ω u g s id k) : CallsV Try.prog 103 #[.pointer (some ⟨g, 0, none⟩)] u fun r u' => ∃ KA kn kc VA vn vc ok, r = .tuple #[.slice KA kn kc, .slice VA vn vc, .bool ok] ∧ Ext u u' ∧ (match k with
    | none => VA = none ∧ vn = 0 ∧ ok = false
    | some key => kn = key.length ∧ key.length ≤ 1048576 ∧ Imm KB Ω u' KA key ∧ match (gF (foD q.D) id).bind (getE key) with
      | none => VA = none ∧ vn = 0 ∧ ok = false
      | some v => vn = v.length ∧ OwnB u' VA vc v ∧ New u VA ∧ ok = true) := by
  refine cursor_Cursor_entry.calls okay ?_
  unfold cursor_Cursor_entry.W
  refine (cMade hc).same ⟨_, rfl, brnb (fun h => by cases h) fun _ => ?_⟩
  obtain ⟨KA, n, c, ok, hb, hk⟩ := hc
  refine ⟨_, rfl, _, hb.cell rfl, ?_⟩
  cases k with
  | none =>
    have hk : ok = false := hk
    subst hk
    exact brnb (fun _ => ⟨_, _, _, _, _, _, _, rfl, .refl _ _, rfl, rfl, rfl⟩) fun h => by cases h
  | some key =>
    obtain ⟨rfl, rfl, hkl, iK⟩ := hk
    have ed : Ext u u.drew := Fr.drew NoB u
    refine brnb (fun h => by cases h) fun _ => ⟨_, rfl, fun v => Ext u v, ed, _, fun v e => (hb.ext e).cell rfl, _, rfl, _, fun v e => (hb.ext e).cell rfl, _, rfl, _, _, _, fun v e => (hb.ext e).cell rfl, (sGet (h.ext ed) id (iK.ext KB_pos ed) c).mono ?_⟩
    rintro r v ⟨e, hG⟩
    have e2 := ed.trans' e
    dsimp only
    generalize (gF (foD q.D) id).bind (getE key) = x at hG
    cases x with
    | none =>
      obtain rfl : r = .tuple #[.slice none 0 0, .bool false] := hG
      exact ⟨_, _, _, _, rfl, _, rfl, _, _, _, (hb.ext e2).cell rfl, _, _, _, _, _, _, _, rfl, e2, rfl, hkl, iK.ext KB_pos e2, rfl, rfl, rfl⟩
    | some val =>
      obtain ⟨B, d, rfl, hO, hN, _⟩ := hG
      exact ⟨_, _, _, _, rfl, _, rfl, _, _, _, (hb.ext e2).cell rfl, _, _, _, _, _, _, _, rfl, e2, rfl, hkl, iK.ext KB_pos e2, rfl, hO, hN.ext ed, rfl⟩
end
end Go.Proofs.Ythfagbfllheneaa
set_option linter.unusedVariables false
set_option maxRecDepth 100000
namespace Go.Proofs.Ythfagbfllheneaa
open Go Go.Sx
noncomputable def cursor_Cursor_Next.W : Option Addr → World → (Value → World → Prop) → Prop := fun (c : Option Addr) (w : World) (K : Value → World → Prop) => CallsV Try.prog 93 #[Value.pointer c]
 (World.drew w) fun (v : Value) (w' : World) => ∃ (x : Bool), v = Value.bool x ∧ bif x then ∃ (a : Addr), c = some a ∧ ∃ (S : World → Prop), S w' ∧ ∃ (x : Bool), (∀ (u : World), S u → World.cell?
 u (Addr.add a 3) = some (Value.bool x)) ∧ bif x then ∃ (a : Addr), c = some a ∧ ∃ (S' : World → Prop), S' w' ∧ ∃ (x : Option Addr), (∀ (u : World), S' u → World.cell? u (Addr.add a 0) =
 some (Value.pointer x)) ∧ ∃ (a : Addr), c = some a ∧ ∃ (S' : World → Prop), S' w' ∧ ∃ (x_1 : Int), (∀ (u : World), S' u → World.cell? u (Addr.add a 1) = some (Value.int IntKind.i64
 x_1)) ∧ ∃ (a : Addr), c = some a ∧ ∃ (S' : World → Prop), S' w' ∧ ∃ (x_2 : Option Addr) (x_3 x_4 : Nat), (∀ (u : World), S' u → World.cell? u (Addr.add a 2) = some (Value.slice x_2 x_3
 x_4)) ∧ CallsV Try.prog 50 #[Value.pointer x, Value.int IntKind.i64 x_1, Value.slice x_2 x_3 x_4, Value.bool false] w' fun (v : Value) (w' : World) => ∃ (x : Option Addr) (x_5 x_6 : Nat) (x_7 :
 Option Addr) (x_8 x_9 : Nat) (x_10 : Bool), v = Value.tuple #[Value.slice x x_5 x_6, Value.slice x_7 x_8 x_9, Value.bool x_10] ∧ CallsV Try.prog 98 #[Value.pointer c, Value.slice x x_5 x_6, Value.slice
 x_7 x_8 x_9, Value.bool x_10] w' fun (v : Value) (w' : World) => ∃ (x : Bool), v = Value.bool x ∧ K (Value.bool x) w' else K (Value.bool false) w' else K (Value.bool false) w'
theorem cursor_Cursor_Next.calls (ok : Okay Try.prog) {c : Option Addr} {w : World} {K : Value → World → Prop} (h : cursor_Cursor_Next.W c w K) : CallsV Try.prog 57 #[.pointer c] w K :=
  fnW_calls ok Try.func57 (an := (.named (.seq .auto (.seq (.block .auto) .auto)))) (args := [.pointer c]) (Eq.mp (by kernel_rfl) h)
noncomputable def cursor_Cursor_Prev.W : Option Addr → World → (Value → World → Prop) → Prop := fun (c : Option Addr) (w : World) (K : Value → World → Prop) => CallsV Try.prog 93 #[Value.pointer c]
 (World.drew w) fun (v : Value) (w' : World) => ∃ (x : Bool), v = Value.bool x ∧ bif x then ∃ (a : Addr), c = some a ∧ ∃ (S : World → Prop), S w' ∧ ∃ (x : Bool), (∀ (u : World), S u → World.cell?
 u (Addr.add a 3) = some (Value.bool x)) ∧ bif x then ∃ (a : Addr), c = some a ∧ ∃ (S' : World → Prop), S' w' ∧ ∃ (x : Option Addr), (∀ (u : World), S' u → World.cell? u (Addr.add a 0) =
 some (Value.pointer x)) ∧ ∃ (a : Addr), c = some a ∧ ∃ (S' : World → Prop), S' w' ∧ ∃ (x_1 : Int), (∀ (u : World), S' u → World.cell? u (Addr.add a 1) = some (Value.int IntKind.i64
 x_1)) ∧ ∃ (a : Addr), c = some a ∧ ∃ (S' : World → Prop), S' w' ∧ ∃ (x_2 : Option Addr) (x_3 x_4 : Nat), (∀ (u : World), S' u → World.cell? u (Addr.add a 2) = some (Value.slice x_2 x_3
 x_4)) ∧ CallsV Try.prog 51 #[Value.pointer x, Value.int IntKind.i64 x_1, Value.slice x_2 x_3 x_4, Value.bool false] w' fun (v : Value) (w' : World) => ∃ (x : Option Addr) (x_5 x_6 : Nat) (x_7 :
 Option Addr) (x_8 x_9 : Nat) (x_10 : Bool), v = Value.tuple #[Value.slice x x_5 x_6, Value.slice x_7 x_8 x_9, Value.bool x_10] ∧ CallsV Try.prog 98 #[Value.pointer c, Value.slice x x_5 x_6, Value.slice
 x_7 x_8 x_9, Value.bool x_10] w' fun (v : Value) (w' : World) => ∃ (x : Bool), v = Value.bool x ∧ K (Value.bool x) w' else K (Value.bool false) w' else K (Value.bool false) w'
theorem cursor_Cursor_Prev.calls (ok : Okay Try.prog) {c : Option Addr} {w : World} {K : Value → World → Prop} (h : cursor_Cursor_Prev.W c w K) : CallsV Try.prog 63 #[.pointer c] w K :=
  fnW_calls ok Try.func63 (an := (.named (.seq .auto (.seq (.block .auto) .auto)))) (args := [.pointer c]) (Eq.mp (by kernel_rfl) h)
end Go.Proofs.Ythfagbfllheneaa
set_option linter.unusedVariables false
set_option linter.unusedSimpArgs false
namespace Go.Proofs.Ythfagbfllheneaa
open Go Go.Sx T4
section
variable {T Ω : Nat → Prop} {u : World} {s g : Nat} {q : Ab} {id : Int} {k : Option Key}
def nextX (F : List (Int × Es)) (id : Int) : Option Key → Option (Key × Key)
  | none => none
  | some key => (gF F id).bind (aftE key false)
def prevX (F : List (Int × Es)) (id : Int) : Option Key → Option (Key × Key)
  | none => none
  | some key => (gF F id).bind (befE key false)
theorem cNext (h : Sto T u s q) (hc : Cur Ω u g s id k) (hΩ : ∀ k, Ω k → k < u.heap.size) (hg : Ω g) : CallsV Try.prog 57 #[.pointer (some ⟨g, 0, none⟩)] u fun r u' => r = .bool (nextX (foD q.D) id k).isSome ∧ Cur Ω u' g s id ((nextX (foD q.D) id k).map fun p => p.1) ∧ Fr (fun k => k = g) u u' := by
  refine cursor_Cursor_Next.calls okay ?_
  unfold cursor_Cursor_Next.W
  have ed : Ext u u.drew := Fr.drew NoB u
  refine (cMade (hc.ext ed)).same ⟨_, rfl, br (fun _ => ?_) fun h => by cases h⟩
  have hcd := hc.ext ed
  obtain ⟨KA, n, c, ok, hb, hk⟩ := hc
  refine ⟨_, rfl, fun v => Ext u v, ed, _, fun v e => (hb.ext e).cell rfl, ?_⟩
  cases k with
  | none =>
    have hk : ok = false := hk
    subst hk
    exact br (fun h => by cases h) fun _ => ⟨rfl, hcd, Fr.mono ed fun _ _ h => h.elim⟩
  | some key =>
    obtain ⟨rfl, rfl, hkl, iK⟩ := hk
    refine br (fun _ => ⟨_, rfl, fun v => Ext u v, ed, _, fun v e => (hb.ext e).cell rfl, _, rfl, fun v => Ext u v, ed, _, fun v e => (hb.ext e).cell rfl, _, rfl, fun v => Ext u v, ed, _, _, _, fun v e => (hb.ext e).cell rfl, (sAfter (h.ext ed) id (iK.ext KB_pos ed) c false).mono ?_⟩) fun h => by cases h
    rintro r v ⟨ht, e⟩
    have e2 := ed.trans' e
    obtain ⟨KA', kn, kc, VA, vn, vc, ok', rfl, hti⟩ := ht.ti (Ω := Ω) (fun k hk => by have := hΩ k hk; have := ed.size; omega)
    refine ⟨_, _, _, _, _, _, _, rfl, (cPut (v0 := .bool true) (hb.ext e2) KA' VA kn kc vn vc ok').mono ?_⟩
    rintro _ w' ⟨rfl, hb', f⟩
    obtain ⟨h1, h2, h3⟩ := move hΩ hg (toldLen ht) hti e2 hb' f
    exact ⟨_, rfl, by rw [h1]; rfl, h2, h3⟩
theorem cPrev (h : Sto T u s q) (hc : Cur Ω u g s id k) (hΩ : ∀ k, Ω k → k < u.heap.size) (hg : Ω g) : CallsV Try.prog 63 #[.pointer (some ⟨g, 0, none⟩)] u fun r u' => r = .bool (prevX (foD q.D) id k).isSome ∧ Cur Ω u' g s id ((prevX (foD q.D) id k).map fun p => p.1) ∧ Fr (fun k => k = g) u u' := by
  refine cursor_Cursor_Prev.calls okay ?_
  unfold cursor_Cursor_Prev.W
  have ed : Ext u u.drew := Fr.drew NoB u
  refine (cMade (hc.ext ed)).same ⟨_, rfl, br (fun _ => ?_) fun h => by cases h⟩
  have hcd := hc.ext ed
  obtain ⟨KA, n, c, ok, hb, hk⟩ := hc
  refine ⟨_, rfl, fun v => Ext u v, ed, _, fun v e => (hb.ext e).cell rfl, ?_⟩
  cases k with
  | none =>
    have hk : ok = false := hk
    subst hk
    exact br (fun h => by cases h) fun _ => ⟨rfl, hcd, Fr.mono ed fun _ _ h => h.elim⟩
  | some key =>
    obtain ⟨rfl, rfl, hkl, iK⟩ := hk
    refine br (fun _ => ⟨_, rfl, fun v => Ext u v, ed, _, fun v e => (hb.ext e).cell rfl, _, rfl, fun v => Ext u v, ed, _, fun v e => (hb.ext e).cell rfl, _, rfl, fun v => Ext u v, ed, _, _, _, fun v e => (hb.ext e).cell rfl, (sBefore (h.ext ed) id (iK.ext KB_pos ed) c false).mono ?_⟩) fun h => by cases h
    rintro r v ⟨ht, e⟩
    have e2 := ed.trans' e
    obtain ⟨KA', kn, kc, VA, vn, vc, ok', rfl, hti⟩ := ht.ti (Ω := Ω) (fun k hk => by have := hΩ k hk; have := ed.size; omega)
    refine ⟨_, _, _, _, _, _, _, rfl, (cPut (v0 := .bool true) (hb.ext e2) KA' VA kn kc vn vc ok').mono ?_⟩
    rintro _ w' ⟨rfl, hb', f⟩
    obtain ⟨h1, h2, h3⟩ := move hΩ hg (toldLen ht) hti e2 hb' f
    exact ⟨_, rfl, by rw [h1]; rfl, h2, h3⟩
def atX (F : List (Int × Es)) (id : Int) : Option Key → Option (Key × Key)
  | none => none
  | some key => ((gF F id).bind (getE key)).map fun v => (key, v)
theorem cValid (h : Sto T u s q) (hc : Cur Ω u g s id k) : CallsV Try.prog 64 #[.pointer (some ⟨g, 0, none⟩)] u fun r u' => r = .bool (atX (foD q.D) id k).isSome ∧ Ext u u' := by
  refine cursor_Cursor_Valid.calls okay ?_
  unfold cursor_Cursor_Valid.W
  refine (cEntry h hc).mono ?_
  rintro _ u' ⟨KA, kn, kc, VA, vn, vc, ok, rfl, e, hx⟩
  refine ⟨_, _, _, _, _, _, _, rfl, ?_, e⟩
  cases k with
  | none => obtain ⟨_, _, rfl⟩ := hx; rfl
  | some key =>
    obtain ⟨_, _, _, hx⟩ := hx
    show Value.bool ok = .bool (((gF (foD q.D) id).bind (getE key)).map fun v => (key, v)).isSome
    generalize (gF (foD q.D) id).bind (getE key) = x at hx
    cases x with
    | none => obtain ⟨_, _, rfl⟩ := hx; rfl
    | some v => obtain ⟨_, _, _, rfl⟩ := hx; rfl
theorem cValue (h : Sto T u s q) (hc : Cur Ω u g s id k) : CallsV Try.prog 66 #[.pointer (some ⟨g, 0, none⟩)] u fun r u' => Ext u u' ∧ match atX (foD q.D) id k with
    | none => ∃ c, r = .slice none 0 c
    | some (_, v) => ∃ A c, r = .slice A v.length c ∧ OwnB u' A c v ∧ New u A := by
  refine cursor_Cursor_Value.calls okay ?_
  unfold cursor_Cursor_Value.W
  refine (cEntry h hc).mono ?_
  rintro _ u' ⟨KA, kn, kc, VA, vn, vc, ok, rfl, e, hx⟩
  refine ⟨_, _, _, _, _, _, _, rfl, e, ?_⟩
  cases k with
  | none => obtain ⟨rfl, rfl, rfl⟩ := hx; exact ⟨_, rfl⟩
  | some key =>
    obtain ⟨_, _, _, hx⟩ := hx
    show match ((gF (foD q.D) id).bind (getE key)).map fun v => (key, v) with
      | none => _
      | some (_, v) => _
    generalize (gF (foD q.D) id).bind (getE key) = x at hx
    cases x with
    | none => obtain ⟨rfl, rfl, rfl⟩ := hx; exact ⟨_, rfl⟩
    | some v => obtain ⟨rfl, h1, h2, rfl⟩ := hx; exact ⟨_, _, rfl, h1, h2⟩
end
end Go.Proofs.Ythfagbfllheneaa
set_option linter.unusedVariables false
set_option linter.unusedSimpArgs false
namespace Go.Proofs.Ythfagbfllheneaa
open Go Go.Sx T4
theorem bClone {Ω : Nat → Prop} {w : World} {A : Option Addr} {c : Nat} {l : List UInt8} (h : Imm KB Ω w A l) (hl : l.length ≤ 1048576) : CallsV Try.prog 102 #[.slice A l.length c] w fun r w' => ∃ A' c', r = .slice A' l.length c' ∧ OwnB w' A' c' l ∧ Ext w w' ∧ New w A' := by
  refine bytes_Clone.calls okay ?_
  unfold bytes_Clone.W
  cases A with
  | none =>
    have hnil : l = [] := by
      cases l with
      | nil => rfl
      | cons a r => obtain ⟨ad, hA, _⟩ := h 0 a rfl; cases hA
    subst hnil
    exact br (fun _ => ⟨none, 0, rfl, OwnB.nil w, .refl _ _, New.none _⟩) fun h => by cases h
  | some a =>
    refine br (fun h => by cases h) fun _ => ?_
    rintro g w1 ⟨rfl, rfl⟩
    have e1 : Ext w (w.alloc (.cells #[] 5)) := Fr.alloc NoB w _
    have ho : OwnK KB (w.alloc (.cells #[] 5)) (some ⟨w.heap.size, 0, none⟩) 0 [] := ⟨[], ⟨rfl, Nat.zero_le _, .inr ⟨w.heap.size, #[], 5, 0, 0, rfl, Array.getElem?_push_size, Nat.le_refl _, rfl, rfl, .inl (Nat.le_refl _)⟩⟩, fun i a h => by simp at h⟩
    have hB : Imm KB (ownB (some ⟨w.heap.size, 0, none⟩)) (w.alloc (.cells #[] 5)) (some a) l := (h.sub (Ω' := NoB) KB_pos fun _ _ h => h.elim).toOwn KB_pos e1 (by rintro k ⟨ad, had, rfl⟩; cases had; exact Nat.le_refl _)
    obtain ⟨A', c', w', hr, ho', gr⟩ := ho.append (K := KB) slB (ty := 28) hB (cb := c) (fun a cs h v hv => by cases h; simp at hv; subst hv; rfl) (by show 0 + l.length ≤ maxLen; simp only [maxLen]; omega) (by show (0 + l.length) * 1 ≤ _; omega)
    rw [List.nil_append] at hr ho'
    have hs : w.heap.size ≤ (w.alloc (.cells #[] 5)).heap.size := e1.size
    refine ⟨_, _, _, w', hr, A', c', rfl, ownB_of (Ω := NoB) ho', e1.trans gr.fr (fun _ _ h => h) (fun k hk ho => ?_), fun k hk => (gr.sub k hk).elim (fun h => ?_) fun h => Nat.le_trans hs h⟩
    · obtain ⟨ad, had, rfl⟩ := ho; cases had; exact absurd hk (Nat.lt_irrefl _)
    · obtain ⟨ad, had, rfl⟩ := h; cases had; exact Nat.le_refl _
theorem Index_spec {Ω : Nat → Prop} {w : World} {A : Option Addr} {c : Nat} {l : List Int} (h : Imm KI Ω w A l) (hl : l.length ≤ 1000000) (v : Int) : CallsV Try.prog 92 #[.slice A l.length c, .int .i64 v] w fun r w' => r = .bool (decide (v ∈ l)) ∧ w' = w := by
  refine slices_Contains_int_int.calls okay ?_
  unfold slices_Contains_int_int.W
  refine CallsV.mono (K := fun r w' => (∃ i : Int, r = .int .i64 i ∧ (0 ≤ i ↔ v ∈ l)) ∧ w' = w) ?_ ?_
  · refine slices_Index_int_int.calls okay ?_
    unfold slices_Index_int_int.W
    refine ⟨fun x u => ∃ j : Nat, x = (j : Int) ∧ j ≤ l.length ∧ u = w ∧ v ∉ l.take j, fun x _ => (l.length - x).toNat, ⟨0, rfl, Nat.zero_le _, rfl, by simp⟩, ?_⟩
    rintro _ u ⟨j, rfl, hj, rfl, hn⟩
    refine brd (fun hlt => ?_) (fun hge => ?_)
    · have hjl : j < l.length := by omega
      obtain ⟨ad, hA, c0⟩ := itemI h hjl
      refine ⟨ad, hA, ⟨by omega, by omega⟩, _, by rw [Int.toNat_natCast]; exact c0, brd (fun he => ⟨⟨_, rfl, fun _ => he ▸ List.getElem_mem hjl, fun _ => by omega⟩, rfl⟩) (fun hne => ?_)⟩
      rw [wi _ (by omega) (by omega)]
      refine ⟨⟨j + 1, by omega, by omega, rfl, ?_⟩, by dsimp only; omega⟩
      rw [List.take_add_one, List.getElem?_eq_getElem hjl]
      simp only [Option.toList, List.mem_append, List.mem_singleton, not_or]
      exact ⟨hn, hne⟩
    · obtain rfl : j = l.length := by omega
      rw [List.take_of_length_le (Nat.le_refl _)] at hn
      exact ⟨⟨_, rfl, fun h => by omega, fun h => absurd h hn⟩, rfl⟩
  · rintro _ _ ⟨⟨i, rfl, hi⟩, rfl⟩
    refine ⟨_, rfl, ?_, rfl⟩
    congr 1
    rw [decide_eq_decide]
    exact hi
section
variable {T Ω : Nat → Prop} {u : World} {s g : Nat} {q : Ab} {id : Int} {k : Option Key}
theorem cNew (h : Sto T u s q) (id : Int) : CallsV Try.prog 54 #[.pointer (some ⟨s, 0, none⟩), .int .i64 id] u fun r u' => Ext u u' ∧ ((id ∈ idsD q.D ∧ ∃ g, r = .tuple #[.pointer (some ⟨g, 0, none⟩), .int .i64 0] ∧ u.heap.size ≤ g ∧ ∀ Ω, Cur Ω u' g s id none) ∨ (id ∉ idsD q.D ∧ r = .tuple #[.pointer none, .int .i64 41])) := by
  refine cursor_New.calls okay ?_
  unfold cursor_New.W
  refine (sCheck h).mono ?_
  rintro _ u1 ⟨rfl, e1⟩
  refine ⟨_, rfl, brd (fun h => by cases h) fun _ => (sTrees (h.ext e1)).mono ?_⟩
  rintro _ u2 ⟨A, c, rfl, ho, e2, _⟩
  have e12 := e1.trans' e2
  refine ⟨_, _, _, rfl, (Index_spec (ho.imm KI_pos) (by rw [idsD_len]; have := h.inv.cnt; omega) id).same ⟨_, rfl, brnb (fun hn => ?_) fun hy => ?_⟩⟩
  · exact ⟨e12, .inr ⟨of_decide_eq_false hn, rfl⟩⟩
  · intro g u3 f3
    exact ⟨e12.trans' f3.ext, .inl ⟨of_decide_eq_true hy, g, rfl, Nat.le_trans e12.size f3.ge, fun Ω => ⟨none, 0, 0, false, f3.blk, rfl⟩⟩⟩
theorem cKey (h : Sto T u s q) (hc : Cur Ω u g s id k) : CallsV Try.prog 65 #[.pointer (some ⟨g, 0, none⟩)] u fun r u' => Ext u u' ∧ match atX (foD q.D) id k with
    | none => r = .slice none 0 0
    | some (key, _) => ∃ A c, r = .slice A key.length c ∧ OwnB u' A c key ∧ New u A := by
  refine cursor_Cursor_Key.calls okay ?_
  unfold cursor_Cursor_Key.W
  refine (cEntry h hc).mono ?_
  rintro _ u' ⟨KA, kn, kc, VA, vn, vc, ok, rfl, e, hx⟩
  refine ⟨_, _, _, _, _, _, _, rfl, ?_⟩
  cases k with
  | none => obtain ⟨_, _, rfl⟩ := hx; exact brnb (fun _ => ⟨e, rfl⟩) fun h => by cases h
  | some key =>
    obtain ⟨rfl, hkl, iK, hx⟩ := hx
    show bif !ok then _ else _
    have hm : ∀ x : Option Key, (gF (foD q.D) id).bind (getE key) = x → atX (foD q.D) id (some key) = x.map fun v => (key, v) := fun x hx => by rw [← hx]; rfl
    cases hX : (gF (foD q.D) id).bind (getE key) with
    | none =>
      rw [hX] at hx
      obtain ⟨_, _, rfl⟩ := hx
      exact brnb (fun _ => ⟨e, by rw [hm _ hX]; rfl⟩) fun h => by cases h
    | some v =>
      rw [hX] at hx
      obtain ⟨_, _, _, rfl⟩ := hx
      refine brnb (fun h => by cases h) fun _ => (bClone iK hkl).mono ?_
      rintro _ u2 ⟨A', c', rfl, hO, e2, hN⟩
      exact ⟨_, _, _, rfl, e.trans' e2, by rw [hm _ hX]; exact ⟨_, _, rfl, hO, hN.ext e⟩⟩
end
end Go.Proofs.Ythfagbfllheneaa
set_option linter.unusedVariables false
set_option linter.unusedSimpArgs false
namespace Go.Proofs.Ythfagbfllheneaa
open Go Go.Sx T4
abbrev OC (T C : Nat → Prop) : Nat → Prop := fun k => T k ∨ C k
section
variable {A : Ar} {D : List Tr} {id : Int} {g s : Nat} {k : Option Key}
theorem Cur.tch {T T' C : Nat → Prop} {u u' : World} (hc : Cur (OC T C) u g s id k) (c : Tch T u T' u') (hg : ¬ T g) : Cur (OC T' C) u' g s id k :=
  hc.fr c.fr hg (fun _ _ h => .inl h) fun k hk h => h.elim (fun h => .inl ((c.sub k h).resolve_right (by omega))) .inr
theorem Cur.other {Ω : Nat → Prop} {u u' : World} {g2 : Nat} (hc : Cur Ω u g s id k) (f : Fr (fun k => k = g2) u u') (hne : g ≠ g2) (hg : Ω g2) : Cur Ω u' g s id k :=
  hc.fr f hne (fun k _ e => by have e : k = g2 := e; exact e ▸ hg) fun _ _ h => h
theorem cInsert (hI : Inv A D) (id : Int) {key val : Key} (hk : key.length ≤ 1048576) (hv : val.length ≤ 1048576) : ∃ A' D' was e, PutRel A D id key val A' D' was e ∧
    ∀ {T C : Nat → Prop} {u : World} {s g : Nat} {k : Option Key} {ms : List (Ar × List Tr)}, Sto T u s ⟨A, D, ms⟩ → Cur (OC T C) u g s id k → ¬ T g → C g → (∀ k, C k → k < u.heap.size) → ∀ {Ω1 Ω2 : Nat → Prop} {KA VA : Option Addr}, Imm KB Ω1 u KA key → Imm KB Ω2 u VA val → (∀ k, T k → Ω1 k) → ∀ kc vc : Nat,
      CallsV Try.prog 60 #[.pointer (some ⟨g, 0, none⟩), .slice KA key.length kc, .slice VA val.length vc] u fun r u' => r = .tuple #[.bool was, .int .i64 e] ∧ ∃ T' v, Sto T' u' s ⟨A', D', ms⟩ ∧ Tch T u T' v ∧ Fr (fun k => k = g) v u' ∧ Cur (OC T' C) u' g s id (if e = 0 then some key else k) := by
  obtain ⟨A', D', was, e, rel, hP⟩ := aPut (A := A) (D := D) hI id hk hv
  refine ⟨A', D', was, e, rel, ?_⟩
  intro T C u s g k ms h hc hgT hgC hCl Ω1 Ω2 KA VA iK iV hTΩ kc vc
  refine cursor_Cursor_Insert.calls okay ?_
  unfold cursor_Cursor_Insert.W
  refine (cMade hc).same ⟨_, rfl, brnb (fun h => by cases h) fun _ => ?_⟩
  have ed : Ext u u.drew := Fr.drew NoB u
  have hc0 := hc
  obtain ⟨KA0, n, c, ok, hb, hk0⟩ := hc
  refine ⟨_, rfl, fun v => Ext u v, ed, _, fun v e => (hb.ext e).cell rfl, _, rfl, _, fun v e => (hb.ext e).cell rfl, (hP (h.ext ed) (iK.ext KB_pos ed) (iV.ext KB_pos ed) kc vc).mono ?_⟩
  rintro _ u1 ⟨rfl, T1, h1, c1⟩
  have c01 : Tch T u T1 u1 := (Tch.ext ed).trans c1
  refine ⟨_, _, rfl, brd (fun he => ?_) (fun hne => ⟨rfl, T1, u1, h1, c01, .refl _ _, by rw [if_neg hne]; exact hc0.tch c01 hgT⟩)⟩
  have iK1 : Imm KB NoB u1 KA key := iK.keep KB_pos (c01.fr.step (fun k _ h => hTΩ k h) fun _ _ h => h.elim)
  refine (bClone iK1 hk).mono ?_
  rintro _ u2 ⟨A2, c2, rfl, hO, e2, hN⟩
  obtain ⟨b1, hg1⟩ := c01.blk hb hgT
  refine ⟨_, _, _, rfl, (cPut (v0 := .bool true) (b1.ext e2) A2 none key.length c2 0 0 true).mono ?_⟩
  rintro _ u3 ⟨rfl, b3, f3⟩
  refine ⟨_, rfl, rfl, T1, u2, (h1.ext e2).frame f3 (fun k _ e ht => hg1 (by have e : k = g := e; exact e ▸ ht)), c01.trans (.ext e2), f3, ?_⟩
  rw [if_pos he]
  have s1 := c01.fr.size
  refine ⟨A2, _, c2, true, b3, rfl, rfl, hk, ?_⟩
  have i2 : Imm KB (OC T1 C) u2 A2 key := hO.imm fun k hk ho => by
    have := hN k hk
    rcases ho with ho | ho
    · have := h1.lt k ho; omega
    · have := hCl k ho; omega
  exact i2.keep KB_pos (f3.step (fun k _ e => .inr (by have e : k = g := e; exact e ▸ hgC)) fun _ _ h => h)
theorem cDelete {T C : Nat → Prop} {u : World} {ms : List (Ar × List Tr)} (h : Sto T u s ⟨A, D, ms⟩) (hc : Cur (OC T C) u g s id k) : CallsV Try.prog 67 #[.pointer (some ⟨g, 0, none⟩)] u fun r u' =>
    (id ∉ idsD D ∧ r = .int .i64 41 ∧ Ext u u') ∨ (id ∈ idsD D ∧ atX (foD D) id k = none ∧ r = .int .i64 70 ∧ Ext u u') ∨ (id ∈ idsD D ∧ ∃ key v A' D' was e T', k = some key ∧ atX (foD D) id k = some (key, v) ∧ DelRel A D id key A' D' was e ∧ r = .int .i64 e ∧ Sto T' u' s ⟨A', D', ms⟩ ∧ Tch T u T' u') := by
  refine cursor_Cursor_Delete.calls okay ?_
  unfold cursor_Cursor_Delete.W
  have ed : Ext u u.drew := Fr.drew NoB u
  refine (cMade hc).same ⟨_, rfl, brnb (fun h => by cases h) fun _ => ⟨fun x v => x = !(decide (id ∈ idsD D)) ∧ Ext u v, ?_, ?_⟩⟩
  · rintro x v ⟨rfl, e⟩
    have hv := h.ext e
    have hcv := hc.ext e
    refine br (fun hn => .inl ⟨by simpa using hn, rfl, e⟩) fun hy => ?_
    have hmem : id ∈ idsD D := by simpa using hy
    refine (cValid hv hcv).mono ?_
    rintro _ v2 ⟨rfl, e2⟩
    have e02 := e.trans' e2
    refine ⟨_, rfl, brnb (fun hx => .inr (.inl ⟨hmem, by simpa using hx, rfl, e02⟩)) fun hx => ?_⟩
    have hcv2 := hcv.ext e2
    have hv2 := hv.ext e2
    cases k with
    | none => cases hx
    | some key =>
      obtain ⟨KA, n, c, ok, hb, rfl, rfl, hkl, iK⟩ := hcv2
      obtain ⟨A', D', was, ee, rel, hP⟩ := aDel (A := A) (D := D) h.inv id key
      have ed2 : Ext v2 v2.drew := Fr.drew NoB v2
      refine ⟨_, rfl, fun z => Ext v2 z, ed2, _, fun z e => (hb.ext e).cell rfl, _, rfl, _, fun z e => (hb.ext e).cell rfl, _, rfl, _, _, _, fun z e => (hb.ext e).cell rfl, (hP (hv2.ext ed2) (iK.ext KB_pos ed2) c).mono ?_⟩
      rintro _ v3 ⟨rfl, T3, h3, c3⟩
      obtain ⟨⟨key', v'⟩, hat⟩ := Option.isSome_iff_exists.1 hx
      have hat : atX (foD D) id (some key) = some (key', v') := hat
      have hkk : key' = key := by
        replace hat : ((gF (foD D) id).bind (getE key)).map (fun v => (key, v)) = some (key', v') := hat
        cases hX : (gF (foD D) id).bind (getE key) with
        | none => rw [hX] at hat; cases hat
        | some z => rw [hX] at hat; cases hat; rfl
      subst hkk
      exact ⟨_, _, rfl, .inr (.inr ⟨hmem, key', v', A', D', was, ee, T3, rfl, hat, rel, rfl, h3, (Tch.ext (e02.trans' ed2)).trans c3⟩)⟩
  · obtain ⟨KA, n, c, ok, hb, hk0⟩ := hc
    refine ⟨_, rfl, fun v => Ext u v, ed, _, fun v e => (hb.ext e).cell rfl, _, rfl, _, fun v e => (hb.ext e).cell rfl, (sTrees (h.ext ed)).mono ?_⟩
    rintro _ v ⟨A1, c1, rfl, ho, e1, _⟩
    have e01 := ed.trans' e1
    refine ⟨_, _, _, rfl, e01, (Index_spec (ho.imm KI_pos) (by rw [idsD_len]; have := h.inv.cnt; show D.length ≤ _; have h9 : D.length ≤ 1000 := h.inv.cnt; omega) id).same ⟨_, rfl, rfl, e01⟩⟩
end
end Go.Proofs.Ythfagbfllheneaa
set_option linter.unusedVariables false
set_option maxRecDepth 100000
namespace Go.Proofs.Ythfagbfllheneaa
open Go Go.Sx
noncomputable def cursor_Cursor_Seek.W : Option Addr → Int → Option Addr → Nat → Nat → World → (Value → World → Prop) → Prop := fun (c : Option Addr) (how : Int) (key_A : Option Addr) (key_n key_c :
 Nat) (w : World) (K : Value → World → Prop) => ∀ (g : Nat) (w' : World), Fresh w g w' [Value.pointer c] 89 → ∀ (g_1 : Nat) (w'_1 : World), Fresh w' g_1 w'_1 [Value.slice key_A key_n key_c] 28 → ∃ (x :
 Option Addr), World.cell? w'_1 (Addr.mk g 0 none) = some (Value.pointer x) ∧ CallsV Try.prog 93 #[Value.pointer x] w'_1 fun (v : Value) (w' : World) => ∃ (x_1 : Bool), v = Value.bool x_1
 ∧ bif !x_1 then K (Value.bool false) w' else ∃ (x_2 : Option Nat) (w'_2 : World), RunsTo Try.prog (Instr.makeMap 139 none) w' (Value.map x_2) w'_2 ∧ ∃ (w' : World), RunsTo Try.prog
 (Instr.mapUpdate 139 (Value.map x_2) (Value.int IntKind.u8 (1 : Int)) (Value.func (Fn.func 94) #[] #[Value.pointer (some (Addr.mk g 0 none)), Value.pointer (some (Addr.mk g_1 0
 none))])) w'_2 () w' ∧ ∃ (w'_3 : World), RunsTo Try.prog (Instr.mapUpdate 139 (Value.map x_2) (Value.int IntKind.u8 (2 : Int)) (Value.func (Fn.func 95) #[] #[Value.pointer (some (Addr.mk
 g 0 none)), Value.pointer (some (Addr.mk g_1 0 none))])) w' () w'_3 ∧ ∃ (w' : World), RunsTo Try.prog (Instr.mapUpdate 139 (Value.map x_2) (Value.int IntKind.u8 (3 : Int))
 (Value.func (Fn.func 96) #[] #[Value.pointer (some (Addr.mk g 0 none)), Value.pointer (some (Addr.mk g_1 0 none))])) w'_3 () w' ∧ ∃ (w'_4 : World), RunsTo Try.prog
 (Instr.mapUpdate 139 (Value.map x_2) (Value.int IntKind.u8 (4 : Int)) (Value.func (Fn.func 97) #[] #[Value.pointer (some (Addr.mk g 0 none)), Value.pointer (some (Addr.mk g_1 0
 none))])) w' () w'_4 ∧ ∃ (x_3 : Value) (w' : World), RunsTo Try.prog (Instr.lookup 139 (Value.map x_2) (Value.int IntKind.u8 how) false) w'_4 x_3 w' ∧ pureS.match_2 (fun (x x_4 : Option
 Value) => Prop) (ev (Env.set (Env.set (Env.set (Env.set (Env.set (Env.set (Env.set (Env.set (Env.set (Env.set (Env.set (Env.set (Env.set (Env.set (Env.set (Env.set (Env.set (Env.set (argEnv 0
 [Value.pointer c, Value.int IntKind.u8 how, Value.slice key_A key_n key_c]) 3 (some (Value.pointer (some (Addr.mk g 0 none))))) 5 (some (Value.pointer (some (Addr.mk
 g_1 0 none))))) 6 (some (Value.bool false))) 9 (some (Value.pointer x))) 10 (some (Value.bool x_1))) 11 (some (Value.bool !x_1))) 12 (some (Value.map
 x_2))) 13 (some (Value.func (Fn.func 94) #[] #[Value.pointer (some (Addr.mk g 0 none)), Value.pointer (some (Addr.mk g_1 0 none))]))) 14 (some (Value.func
 (Fn.func 95) #[] #[Value.pointer (some (Addr.mk g 0 none)), Value.pointer (some (Addr.mk g_1 0 none))]))) 15 (some (Value.func (Fn.func 96) #[] #[Value.pointer
 (some (Addr.mk g 0 none)), Value.pointer (some (Addr.mk g_1 0 none))]))) 16 (some (Value.func (Fn.func 97) #[] #[Value.pointer (some (Addr.mk g 0
 none)), Value.pointer (some (Addr.mk g_1 0 none))]))) 17 (some (Value.map x_2))) 7 (some (Value.map x_2))) 18 (some (Value.map x_2))) 19 (some
 (Value.int IntKind.u8 how))) 20 (some x_3)) 8 (some x_3)) 21 (some x_3)) (Operand.tmp 21)) (ev (Env.set (Env.set (Env.set (Env.set (Env.set (Env.set (Env.set (Env.set (Env.set
 (Env.set (Env.set (Env.set (Env.set (Env.set (Env.set (Env.set (Env.set (Env.set (argEnv 0 [Value.pointer c, Value.int IntKind.u8 how, Value.slice key_A key_n key_c]) 3 (some (Value.pointer
 (some (Addr.mk g 0 none))))) 5 (some (Value.pointer (some (Addr.mk g_1 0 none))))) 6 (some (Value.bool false))) 9 (some (Value.pointer x))) 10
 (some (Value.bool x_1))) 11 (some (Value.bool !x_1))) 12 (some (Value.map x_2))) 13 (some (Value.func (Fn.func 94) #[] #[Value.pointer (some (Addr.mk g 0
 none)), Value.pointer (some (Addr.mk g_1 0 none))]))) 14 (some (Value.func (Fn.func 95) #[] #[Value.pointer (some (Addr.mk g 0 none)), Value.pointer
 (some (Addr.mk g_1 0 none))]))) 15 (some (Value.func (Fn.func 96) #[] #[Value.pointer (some (Addr.mk g 0 none)), Value.pointer (some (Addr.mk g_1 0
 none))]))) 16 (some (Value.func (Fn.func 97) #[] #[Value.pointer (some (Addr.mk g 0 none)), Value.pointer (some (Addr.mk g_1 0 none))]))) 17 (some
 (Value.map x_2))) 7 (some (Value.map x_2))) 18 (some (Value.map x_2))) 19 (some (Value.int IntKind.u8 how))) 20 (some x_3)) 8 (some x_3)) 21 (some x_3))
 (Operand.const Value.nilFunc)) (fun (a b : Array Value) => aggS Try.prog BinOp.neq 138 a b fun (v : Value) => putS 32 (Array.toList #[Oper.mk (some 21) (Op.move (Operand.tmp 8)) 138
 "cursor.go:66" #[] none, Oper.mk (some 22) (Op.binOp BinOp.neq 138 (Operand.tmp 21) (Operand.const Value.nilFunc) 138) 4 "cursor.go:66" #[Edge.mk 0 Ground.data] none]) 1 (Oper.mk
 (some 22) (Op.binOp BinOp.neq 138 (Operand.tmp 21) (Operand.const Value.nilFunc) 138) 4 "cursor.go:66" #[Edge.mk 0 Ground.data] none) v (Env.set (Env.set (Env.set (Env.set (Env.set
 (Env.set (Env.set (Env.set (Env.set (Env.set (Env.set (Env.set (Env.set (Env.set (Env.set (Env.set (Env.set (Env.set (argEnv 0 [Value.pointer c, Value.int IntKind.u8 how, Value.slice key_A key_n
 key_c]) 3 (some (Value.pointer (some (Addr.mk g 0 none))))) 5 (some (Value.pointer (some (Addr.mk g_1 0 none))))) 6 (some (Value.bool false))) 9
 (some (Value.pointer x))) 10 (some (Value.bool x_1))) 11 (some (Value.bool !x_1))) 12 (some (Value.map x_2))) 13 (some (Value.func (Fn.func 94) #[] #[Value.pointer
 (some (Addr.mk g 0 none)), Value.pointer (some (Addr.mk g_1 0 none))]))) 14 (some (Value.func (Fn.func 95) #[] #[Value.pointer (some (Addr.mk g 0
 none)), Value.pointer (some (Addr.mk g_1 0 none))]))) 15 (some (Value.func (Fn.func 96) #[] #[Value.pointer (some (Addr.mk g 0 none)), Value.pointer
 (some (Addr.mk g_1 0 none))]))) 16 (some (Value.func (Fn.func 97) #[] #[Value.pointer (some (Addr.mk g 0 none)), Value.pointer (some (Addr.mk g_1 0
 none))]))) 17 (some (Value.map x_2))) 7 (some (Value.map x_2))) 18 (some (Value.map x_2))) 19 (some (Value.int IntKind.u8 how))) 20 (some x_3)) 8 (some
 x_3)) 21 (some x_3)) fun (ρ' : Env) => regW (nmd (Ann.named (Ann.named Ann.auto))) Try.prog 32 (Array.toList #[Oper.mk (some 21) (Op.move (Operand.tmp 8)) 138 "cursor.go:66" #[]
 none, Oper.mk (some 22) (Op.binOp BinOp.neq 138 (Operand.tmp 21) (Operand.const Value.nilFunc) 138) 4 "cursor.go:66" #[Edge.mk 0 Ground.data] none]) 2 [] (nxt (nxt (fnK Try.prog
 (Array.toList (Array.mk [ResultVar.tmp 6])) K) fun (ρ : Env) (w : World) => cWf (nmd (Ann.named (Ann.named Ann.auto))) Try.prog 32 none Ann.auto (Code.seq (Code.region 7 #[Oper.mk (some
 30) (Op.load 89 (Operand.tmp 3)) 89 "cursor.go:69" #[] none, Oper.mk (some 31) (Op.call (Call.mk (Callee.value (Operand.func 98)) #[Operand.tmp 30, Operand.const (Value.slice none
 0 0), Operand.const (Value.slice none 0 0), Operand.const (Value.bool false)] #[89, 28, 28, 4])) 4 "cursor.go:69" #[Edge.mk 0 Ground.data] none, Oper.mk (some 6) (Op.assign
 (Operand.tmp 31)) 4 "cursor.go:69" #[Edge.mk 1 Ground.data, Edge.mk 1 Ground.chain, Edge.mk 0 Ground.phase, Edge.mk 1 Ground.phase] none] false) Code.ret) (fnK Try.prog (Array.toList
 (Array.mk [ResultVar.tmp 6])) K) ρ w) (fun (ρ : Env) (w : World) => cWf (nmd (Ann.named (Ann.named Ann.auto))) Try.prog 32 none Ann.auto (Code.cond (Operand.tmp 22) (Code.seq (Code.region 6
 #[Oper.mk (some 23) (Op.load 89 (Operand.tmp 3)) 89 "cursor.go:67" #[] none, Oper.mk (some 24) (Op.move (Operand.tmp 8)) 138 "cursor.go:67" #[] none, Oper.mk (some
 25) (Op.call (Call.mk (Callee.value (Operand.tmp 24)) #[] #[])) 85 "cursor.go:67" #[Edge.mk 1 Ground.data] none, Oper.mk (some 26) (Op.extract (Operand.tmp 25) 0) 28 "cursor.go:67"
 #[Edge.mk 2 Ground.data] none, Oper.mk (some 27) (Op.extract (Operand.tmp 25) 1) 28 "cursor.go:67" #[Edge.mk 2 Ground.data] none, Oper.mk (some 28) (Op.extract (Operand.tmp
 25) 2) 4 "cursor.go:67" #[Edge.mk 2 Ground.data] none, Oper.mk (some 29) (Op.call (Call.mk (Callee.value (Operand.func 98)) #[Operand.tmp 23, Operand.tmp 26, Operand.tmp 27, Operand.tmp
 28] #[89, 28, 28, 4])) 4 "cursor.go:67" #[Edge.mk 0 Ground.data, Edge.mk 3 Ground.data, Edge.mk 4 Ground.data, Edge.mk 5 Ground.data, Edge.mk 2 Ground.chain] none, Oper.mk (some 6)
 (Op.assign (Operand.tmp 29)) 4 "cursor.go:67" #[Edge.mk 6 Ground.data, Edge.mk 6 Ground.chain, Edge.mk 0 Ground.phase, Edge.mk 1 Ground.phase, Edge.mk 2 Ground.phase, Edge.mk 3 Ground.phase, Edge.mk 4
 Ground.phase, Edge.mk 5 Ground.phase, Edge.mk 6 Ground.phase] none] true) Code.ret) Code.skip) (nxt (fnK Try.prog (Array.toList (Array.mk [ResultVar.tmp 6])) K) fun (ρ : Env) (w : World) =>
 cWf (nmd (Ann.named (Ann.named Ann.auto))) Try.prog 32 none Ann.auto (Code.seq (Code.region 7 #[Oper.mk (some 30) (Op.load 89 (Operand.tmp 3)) 89 "cursor.go:69" #[] none, Oper.mk
 (some 31) (Op.call (Call.mk (Callee.value (Operand.func 98)) #[Operand.tmp 30, Operand.const (Value.slice none 0 0), Operand.const (Value.slice none 0 0), Operand.const (Value.bool
 false)] #[89, 28, 28, 4])) 4 "cursor.go:69" #[Edge.mk 0 Ground.data] none, Oper.mk (some 6) (Op.assign (Operand.tmp 31)) 4 "cursor.go:69" #[Edge.mk 1 Ground.data, Edge.mk 1
 Ground.chain, Edge.mk 0 Ground.phase, Edge.mk 1 Ground.phase] none] false) Code.ret) (fnK Try.prog (Array.toList (Array.mk [ResultVar.tmp 6])) K) ρ w) ρ w) Exit.normal) ρ' w') (fun (a b :
 Value) => bif isPtrT (und Try.prog 138) && !(constO (Operand.tmp 21) || constO (Operand.const Value.nilFunc)) then ptrS Try.prog BinOp.neq 138 a b fun (v : Value) => putS 32 (Array.toList #[Oper.mk
 (some 21) (Op.move (Operand.tmp 8)) 138 "cursor.go:66" #[] none, Oper.mk (some 22) (Op.binOp BinOp.neq 138 (Operand.tmp 21) (Operand.const Value.nilFunc) 138) 4 "cursor.go:66"
 #[Edge.mk 0 Ground.data] none]) 1 (Oper.mk (some 22) (Op.binOp BinOp.neq 138 (Operand.tmp 21) (Operand.const Value.nilFunc) 138) 4 "cursor.go:66" #[Edge.mk 0 Ground.data] none) v
 (Env.set (Env.set (Env.set (Env.set (Env.set (Env.set (Env.set (Env.set (Env.set (Env.set (Env.set (Env.set (Env.set (Env.set (Env.set (Env.set (Env.set (Env.set (argEnv 0 [Value.pointer c, Value.int
 IntKind.u8 how, Value.slice key_A key_n key_c]) 3 (some (Value.pointer (some (Addr.mk g 0 none))))) 5 (some (Value.pointer (some (Addr.mk g_1 0 none))))) 6
 (some (Value.bool false))) 9 (some (Value.pointer x))) 10 (some (Value.bool x_1))) 11 (some (Value.bool !x_1))) 12 (some (Value.map x_2))) 13 (some
 (Value.func (Fn.func 94) #[] #[Value.pointer (some (Addr.mk g 0 none)), Value.pointer (some (Addr.mk g_1 0 none))]))) 14 (some (Value.func (Fn.func 95) #[]
 #[Value.pointer (some (Addr.mk g 0 none)), Value.pointer (some (Addr.mk g_1 0 none))]))) 15 (some (Value.func (Fn.func 96) #[] #[Value.pointer (some (Addr.mk g
 0 none)), Value.pointer (some (Addr.mk g_1 0 none))]))) 16 (some (Value.func (Fn.func 97) #[] #[Value.pointer (some (Addr.mk g 0 none)), Value.pointer
 (some (Addr.mk g_1 0 none))]))) 17 (some (Value.map x_2))) 7 (some (Value.map x_2))) 18 (some (Value.map x_2))) 19 (some (Value.int IntKind.u8 how))) 20
 (some x_3)) 8 (some x_3)) 21 (some x_3)) fun (ρ' : Env) => regW (nmd (Ann.named (Ann.named Ann.auto))) Try.prog 32 (Array.toList #[Oper.mk (some 21) (Op.move (Operand.tmp
 8)) 138 "cursor.go:66" #[] none, Oper.mk (some 22) (Op.binOp BinOp.neq 138 (Operand.tmp 21) (Operand.const Value.nilFunc) 138) 4 "cursor.go:66" #[Edge.mk 0 Ground.data] none]) 2 []
 (nxt (nxt (fnK Try.prog (Array.toList (Array.mk [ResultVar.tmp 6])) K) fun (ρ : Env) (w : World) => cWf (nmd (Ann.named (Ann.named Ann.auto))) Try.prog 32 none Ann.auto (Code.seq (Code.region 7
 #[Oper.mk (some 30) (Op.load 89 (Operand.tmp 3)) 89 "cursor.go:69" #[] none, Oper.mk (some 31) (Op.call (Call.mk (Callee.value (Operand.func 98)) #[Operand.tmp 30, Operand.const
 (Value.slice none 0 0), Operand.const (Value.slice none 0 0), Operand.const (Value.bool false)] #[89, 28, 28, 4])) 4 "cursor.go:69" #[Edge.mk 0 Ground.data] none, Oper.mk
 (some 6) (Op.assign (Operand.tmp 31)) 4 "cursor.go:69" #[Edge.mk 1 Ground.data, Edge.mk 1 Ground.chain, Edge.mk 0 Ground.phase, Edge.mk 1 Ground.phase] none] false) Code.ret) (fnK
 Try.prog (Array.toList (Array.mk [ResultVar.tmp 6])) K) ρ w) (fun (ρ : Env) (w : World) => cWf (nmd (Ann.named (Ann.named Ann.auto))) Try.prog 32 none Ann.auto (Code.cond (Operand.tmp 22)
 (Code.seq (Code.region 6 #[Oper.mk (some 23) (Op.load 89 (Operand.tmp 3)) 89 "cursor.go:67" #[] none, Oper.mk (some 24) (Op.move (Operand.tmp 8)) 138 "cursor.go:67" #[]
 none, Oper.mk (some 25) (Op.call (Call.mk (Callee.value (Operand.tmp 24)) #[] #[])) 85 "cursor.go:67" #[Edge.mk 1 Ground.data] none, Oper.mk (some 26) (Op.extract
 (Operand.tmp 25) 0) 28 "cursor.go:67" #[Edge.mk 2 Ground.data] none, Oper.mk (some 27) (Op.extract (Operand.tmp 25) 1) 28 "cursor.go:67" #[Edge.mk 2 Ground.data] none, Oper.mk
 (some 28) (Op.extract (Operand.tmp 25) 2) 4 "cursor.go:67" #[Edge.mk 2 Ground.data] none, Oper.mk (some 29) (Op.call (Call.mk (Callee.value (Operand.func 98)) #[Operand.tmp 23,
 Operand.tmp 26, Operand.tmp 27, Operand.tmp 28] #[89, 28, 28, 4])) 4 "cursor.go:67" #[Edge.mk 0 Ground.data, Edge.mk 3 Ground.data, Edge.mk 4 Ground.data, Edge.mk 5 Ground.data, Edge.mk 2 Ground.chain]
 none, Oper.mk (some 6) (Op.assign (Operand.tmp 29)) 4 "cursor.go:67" #[Edge.mk 6 Ground.data, Edge.mk 6 Ground.chain, Edge.mk 0 Ground.phase, Edge.mk 1 Ground.phase, Edge.mk 2
 Ground.phase, Edge.mk 3 Ground.phase, Edge.mk 4 Ground.phase, Edge.mk 5 Ground.phase, Edge.mk 6 Ground.phase] none] true) Code.ret) Code.skip) (nxt (fnK Try.prog (Array.toList (Array.mk
 [ResultVar.tmp 6])) K) fun (ρ : Env) (w : World) => cWf (nmd (Ann.named (Ann.named Ann.auto))) Try.prog 32 none Ann.auto (Code.seq (Code.region 7 #[Oper.mk (some 30) (Op.load 89
 (Operand.tmp 3)) 89 "cursor.go:69" #[] none, Oper.mk (some 31) (Op.call (Call.mk (Callee.value (Operand.func 98)) #[Operand.tmp 30, Operand.const (Value.slice none 0 0),
 Operand.const (Value.slice none 0 0), Operand.const (Value.bool false)] #[89, 28, 28, 4])) 4 "cursor.go:69" #[Edge.mk 0 Ground.data] none, Oper.mk (some 6) (Op.assign
 (Operand.tmp 31)) 4 "cursor.go:69" #[Edge.mk 1 Ground.data, Edge.mk 1 Ground.chain, Edge.mk 0 Ground.phase, Edge.mk 1 Ground.phase] none] false) Code.ret) (fnK Try.prog (Array.toList
 (Array.mk [ResultVar.tmp 6])) K) ρ w) ρ w) Exit.normal) ρ' w' else binS Try.prog BinOp.neq 138 a b fun (v : Value) => putS 32 (Array.toList #[Oper.mk (some 21) (Op.move (Operand.tmp 8)) 138
 "cursor.go:66" #[] none, Oper.mk (some 22) (Op.binOp BinOp.neq 138 (Operand.tmp 21) (Operand.const Value.nilFunc) 138) 4 "cursor.go:66" #[Edge.mk 0 Ground.data] none]) 1 (Oper.mk
 (some 22) (Op.binOp BinOp.neq 138 (Operand.tmp 21) (Operand.const Value.nilFunc) 138) 4 "cursor.go:66" #[Edge.mk 0 Ground.data] none) v (Env.set (Env.set (Env.set (Env.set (Env.set
 (Env.set (Env.set (Env.set (Env.set (Env.set (Env.set (Env.set (Env.set (Env.set (Env.set (Env.set (Env.set (Env.set (argEnv 0 [Value.pointer c, Value.int IntKind.u8 how, Value.slice key_A key_n
 key_c]) 3 (some (Value.pointer (some (Addr.mk g 0 none))))) 5 (some (Value.pointer (some (Addr.mk g_1 0 none))))) 6 (some (Value.bool false))) 9
 (some (Value.pointer x))) 10 (some (Value.bool x_1))) 11 (some (Value.bool !x_1))) 12 (some (Value.map x_2))) 13 (some (Value.func (Fn.func 94) #[] #[Value.pointer
 (some (Addr.mk g 0 none)), Value.pointer (some (Addr.mk g_1 0 none))]))) 14 (some (Value.func (Fn.func 95) #[] #[Value.pointer (some (Addr.mk g 0
 none)), Value.pointer (some (Addr.mk g_1 0 none))]))) 15 (some (Value.func (Fn.func 96) #[] #[Value.pointer (some (Addr.mk g 0 none)), Value.pointer
 (some (Addr.mk g_1 0 none))]))) 16 (some (Value.func (Fn.func 97) #[] #[Value.pointer (some (Addr.mk g 0 none)), Value.pointer (some (Addr.mk g_1 0
 none))]))) 17 (some (Value.map x_2))) 7 (some (Value.map x_2))) 18 (some (Value.map x_2))) 19 (some (Value.int IntKind.u8 how))) 20 (some x_3)) 8 (some
 x_3)) 21 (some x_3)) fun (ρ' : Env) => regW (nmd (Ann.named (Ann.named Ann.auto))) Try.prog 32 (Array.toList #[Oper.mk (some 21) (Op.move (Operand.tmp 8)) 138 "cursor.go:66" #[]
 none, Oper.mk (some 22) (Op.binOp BinOp.neq 138 (Operand.tmp 21) (Operand.const Value.nilFunc) 138) 4 "cursor.go:66" #[Edge.mk 0 Ground.data] none]) 2 [] (nxt (nxt (fnK Try.prog
 (Array.toList (Array.mk [ResultVar.tmp 6])) K) fun (ρ : Env) (w : World) => cWf (nmd (Ann.named (Ann.named Ann.auto))) Try.prog 32 none Ann.auto (Code.seq (Code.region 7 #[Oper.mk (some
 30) (Op.load 89 (Operand.tmp 3)) 89 "cursor.go:69" #[] none, Oper.mk (some 31) (Op.call (Call.mk (Callee.value (Operand.func 98)) #[Operand.tmp 30, Operand.const (Value.slice none
 0 0), Operand.const (Value.slice none 0 0), Operand.const (Value.bool false)] #[89, 28, 28, 4])) 4 "cursor.go:69" #[Edge.mk 0 Ground.data] none, Oper.mk (some 6) (Op.assign
 (Operand.tmp 31)) 4 "cursor.go:69" #[Edge.mk 1 Ground.data, Edge.mk 1 Ground.chain, Edge.mk 0 Ground.phase, Edge.mk 1 Ground.phase] none] false) Code.ret) (fnK Try.prog (Array.toList
 (Array.mk [ResultVar.tmp 6])) K) ρ w) (fun (ρ : Env) (w : World) => cWf (nmd (Ann.named (Ann.named Ann.auto))) Try.prog 32 none Ann.auto (Code.cond (Operand.tmp 22) (Code.seq (Code.region 6
 #[Oper.mk (some 23) (Op.load 89 (Operand.tmp 3)) 89 "cursor.go:67" #[] none, Oper.mk (some 24) (Op.move (Operand.tmp 8)) 138 "cursor.go:67" #[] none, Oper.mk (some
 25) (Op.call (Call.mk (Callee.value (Operand.tmp 24)) #[] #[])) 85 "cursor.go:67" #[Edge.mk 1 Ground.data] none, Oper.mk (some 26) (Op.extract (Operand.tmp 25) 0) 28 "cursor.go:67"
 #[Edge.mk 2 Ground.data] none, Oper.mk (some 27) (Op.extract (Operand.tmp 25) 1) 28 "cursor.go:67" #[Edge.mk 2 Ground.data] none, Oper.mk (some 28) (Op.extract (Operand.tmp
 25) 2) 4 "cursor.go:67" #[Edge.mk 2 Ground.data] none, Oper.mk (some 29) (Op.call (Call.mk (Callee.value (Operand.func 98)) #[Operand.tmp 23, Operand.tmp 26, Operand.tmp 27, Operand.tmp
 28] #[89, 28, 28, 4])) 4 "cursor.go:67" #[Edge.mk 0 Ground.data, Edge.mk 3 Ground.data, Edge.mk 4 Ground.data, Edge.mk 5 Ground.data, Edge.mk 2 Ground.chain] none, Oper.mk (some 6)
 (Op.assign (Operand.tmp 29)) 4 "cursor.go:67" #[Edge.mk 6 Ground.data, Edge.mk 6 Ground.chain, Edge.mk 0 Ground.phase, Edge.mk 1 Ground.phase, Edge.mk 2 Ground.phase, Edge.mk 3 Ground.phase, Edge.mk 4
 Ground.phase, Edge.mk 5 Ground.phase, Edge.mk 6 Ground.phase] none] true) Code.ret) Code.skip) (nxt (fnK Try.prog (Array.toList (Array.mk [ResultVar.tmp 6])) K) fun (ρ : Env) (w : World) =>
 cWf (nmd (Ann.named (Ann.named Ann.auto))) Try.prog 32 none Ann.auto (Code.seq (Code.region 7 #[Oper.mk (some 30) (Op.load 89 (Operand.tmp 3)) 89 "cursor.go:69" #[] none, Oper.mk
 (some 31) (Op.call (Call.mk (Callee.value (Operand.func 98)) #[Operand.tmp 30, Operand.const (Value.slice none 0 0), Operand.const (Value.slice none 0 0), Operand.const (Value.bool
 false)] #[89, 28, 28, 4])) 4 "cursor.go:69" #[Edge.mk 0 Ground.data] none, Oper.mk (some 6) (Op.assign (Operand.tmp 31)) 4 "cursor.go:69" #[Edge.mk 1 Ground.data, Edge.mk 1
 Ground.chain, Edge.mk 0 Ground.phase, Edge.mk 1 Ground.phase] none] false) Code.ret) (fnK Try.prog (Array.toList (Array.mk [ResultVar.tmp 6])) K) ρ w) ρ w) Exit.normal) ρ' w') fun (x x_4 :
 Option Value) => False
theorem cursor_Cursor_Seek.calls (ok : Okay Try.prog) {c : Option Addr} {how : Int} {key_A : Option Addr} {key_n : Nat} {key_c : Nat} {w : World} {K : Value → World → Prop} (h : cursor_Cursor_Seek.W c how key_A key_n key_c w K) : CallsV Try.prog 55 #[.pointer c, .int .u8 how, .slice key_A key_n key_c] w K :=
  fnW_calls ok Try.func55 (an := (.named (.named .auto))) (args := [.pointer c, .int .u8 how, .slice key_A key_n key_c]) (Eq.mp (by kernel_rfl) h)
end Go.Proofs.Ythfagbfllheneaa
set_option linter.unusedVariables false
set_option linter.unusedSimpArgs false
namespace Go.Proofs.Ythfagbfllheneaa
open Go Go.Sx T4
def seekX (F : List (Int × Es)) (id : Int) (how : Int) (key : Key) : Option (Key × Key) :=
  if how = 1 then (gF F id).bind (aftE key true) else if how = 2 then (gF F id).bind (aftE key false) else if how = 3 then (gF F id).bind (befE key true) else if how = 4 then (gF F id).bind (befE key false) else none
abbrev fU : Int → Value := fun a => .int .u8 a
theorem keyU : KeyF Try.prog 96 (.int .u8) fU := keyInt (by kernel_rfl)
theorem zeroF (w : World) : (zeroValue 138).run Try.prog w = .ok .nilFunc w := by
  have h : inf Try.prog 138 = some Try.t138 := by kernel_rfl
  simp only [zeroValue, Sem.run_bind, run_inf h, Result.andThen_ok]
  rfl
section
variable {T Ω Ω1 : Nat → Prop} {u : World} {s g gc gk : Nat} {q : Ab} {id : Int} {key : Key} {KA : Option Addr} {kc : Nat} {v2 v3 : Value}
theorem seek1 (h : Sto T u s q) (hb : Blk u g [.pointer (some ⟨s, 0, none⟩), .int .i64 id, v2, v3]) (b1 : Blk u gc [.pointer (some ⟨g, 0, none⟩)]) (b2 : Blk u gk [.slice KA key.length kc]) (iK : Imm KB Ω1 u KA key) : CallsV Try.prog 94 #[.pointer (some ⟨gc, 0, none⟩), .pointer (some ⟨gk, 0, none⟩)] u fun r v => Told u ((gF (foD q.D) id).bind (aftE key true)) r v ∧ Ext u v := by
  refine cursor_Cursor_Seek_1.calls okay ?_
  unfold cursor_Cursor_Seek_1.W
  have ed : Ext u u.drew := Fr.drew NoB u
  refine ⟨fun z => Ext u z, ed, _, fun z e => (b1.ext e).cell0 rfl, _, rfl, _, fun z e => (hb.ext e).cell rfl, _, fun z e => (b1.ext e).cell0 rfl, _, rfl, _, fun z e => (hb.ext e).cell rfl, _, _, _, fun z e => (b2.ext e).cell0 rfl, (sAfter (h.ext ed) id (iK.ext KB_pos ed) kc true).mono ?_⟩
  rintro r v ⟨ht, e⟩
  obtain ⟨A1, n1, c1, B1, m1, d1, f1, rfl⟩ := ht.form
  exact ⟨_, _, _, _, _, _, _, rfl, ed.trans' e, ht.from ed, ed.trans' e⟩
theorem seek2 (h : Sto T u s q) (hb : Blk u g [.pointer (some ⟨s, 0, none⟩), .int .i64 id, v2, v3]) (b1 : Blk u gc [.pointer (some ⟨g, 0, none⟩)]) (b2 : Blk u gk [.slice KA key.length kc]) (iK : Imm KB Ω1 u KA key) : CallsV Try.prog 95 #[.pointer (some ⟨gc, 0, none⟩), .pointer (some ⟨gk, 0, none⟩)] u fun r v => Told u ((gF (foD q.D) id).bind (aftE key false)) r v ∧ Ext u v := by
  refine cursor_Cursor_Seek_2.calls okay ?_
  unfold cursor_Cursor_Seek_2.W
  have ed : Ext u u.drew := Fr.drew NoB u
  refine ⟨fun z => Ext u z, ed, _, fun z e => (b1.ext e).cell0 rfl, _, rfl, _, fun z e => (hb.ext e).cell rfl, _, fun z e => (b1.ext e).cell0 rfl, _, rfl, _, fun z e => (hb.ext e).cell rfl, _, _, _, fun z e => (b2.ext e).cell0 rfl, (sAfter (h.ext ed) id (iK.ext KB_pos ed) kc false).mono ?_⟩
  rintro r v ⟨ht, e⟩
  obtain ⟨A1, n1, c1, B1, m1, d1, f1, rfl⟩ := ht.form
  exact ⟨_, _, _, _, _, _, _, rfl, ed.trans' e, ht.from ed, ed.trans' e⟩
theorem seek3 (h : Sto T u s q) (hb : Blk u g [.pointer (some ⟨s, 0, none⟩), .int .i64 id, v2, v3]) (b1 : Blk u gc [.pointer (some ⟨g, 0, none⟩)]) (b2 : Blk u gk [.slice KA key.length kc]) (iK : Imm KB Ω1 u KA key) : CallsV Try.prog 96 #[.pointer (some ⟨gc, 0, none⟩), .pointer (some ⟨gk, 0, none⟩)] u fun r v => Told u ((gF (foD q.D) id).bind (befE key true)) r v ∧ Ext u v := by
  refine cursor_Cursor_Seek_3.calls okay ?_
  unfold cursor_Cursor_Seek_3.W
  have ed : Ext u u.drew := Fr.drew NoB u
  refine ⟨fun z => Ext u z, ed, _, fun z e => (b1.ext e).cell0 rfl, _, rfl, _, fun z e => (hb.ext e).cell rfl, _, fun z e => (b1.ext e).cell0 rfl, _, rfl, _, fun z e => (hb.ext e).cell rfl, _, _, _, fun z e => (b2.ext e).cell0 rfl, (sBefore (h.ext ed) id (iK.ext KB_pos ed) kc true).mono ?_⟩
  rintro r v ⟨ht, e⟩
  obtain ⟨A1, n1, c1, B1, m1, d1, f1, rfl⟩ := ht.form
  exact ⟨_, _, _, _, _, _, _, rfl, ed.trans' e, ht.from ed, ed.trans' e⟩
theorem seek4 (h : Sto T u s q) (hb : Blk u g [.pointer (some ⟨s, 0, none⟩), .int .i64 id, v2, v3]) (b1 : Blk u gc [.pointer (some ⟨g, 0, none⟩)]) (b2 : Blk u gk [.slice KA key.length kc]) (iK : Imm KB Ω1 u KA key) : CallsV Try.prog 97 #[.pointer (some ⟨gc, 0, none⟩), .pointer (some ⟨gk, 0, none⟩)] u fun r v => Told u ((gF (foD q.D) id).bind (befE key false)) r v ∧ Ext u v := by
  refine cursor_Cursor_Seek_4.calls okay ?_
  unfold cursor_Cursor_Seek_4.W
  have ed : Ext u u.drew := Fr.drew NoB u
  refine ⟨fun z => Ext u z, ed, _, fun z e => (b1.ext e).cell0 rfl, _, rfl, _, fun z e => (hb.ext e).cell rfl, _, fun z e => (b1.ext e).cell0 rfl, _, rfl, _, fun z e => (hb.ext e).cell rfl, _, _, _, fun z e => (b2.ext e).cell0 rfl, (sBefore (h.ext ed) id (iK.ext KB_pos ed) kc false).mono ?_⟩
  rintro r v ⟨ht, e⟩
  obtain ⟨A1, n1, c1, B1, m1, d1, f1, rfl⟩ := ht.form
  exact ⟨_, _, _, _, _, _, _, rfl, ed.trans' e, ht.from ed, ed.trans' e⟩
def seekNest (fid gc gk : Nat) (w : World) (K : Value → World → Prop) : Prop :=
  ∃ S : World → Prop, S w.drew ∧ ∃ x, (∀ u, S u → u.cell? ⟨gc, 0, none⟩ = some (.pointer x)) ∧ ∃ (f : Nat) (first captured : Array Value), Value.func (.func fid) #[] #[.pointer (some ⟨gc, 0, none⟩), .pointer (some ⟨gk, 0, none⟩)] = .func (.func f) first captured ∧ bodied Try.prog f = true ∧
    CallsV Try.prog f (List.toArray (first.toList ++ ([] ++ captured.toList))) w.drew fun r w' => ∃ x3 x4 x5 x6 x7 x8 x9, r = .tuple #[.slice x3 x4 x5, .slice x6 x7 x8, .bool x9] ∧ S w' ∧ CallsV Try.prog 98 #[.pointer x, .slice x3 x4 x5, .slice x6 x7 x8, .bool x9] w' fun v w' => ∃ x, v = .bool x ∧ K (.bool x) w'
def seekPost (Ω : Nat → Prop) (u : World) (g s : Nat) (id : Int) (x : Option (Key × Key)) : Value → World → Prop := fun r u' => r = .bool x.isSome ∧ Cur Ω u' g s id (x.map fun p => p.1) ∧ Fr (fun k => k = g) u u'
theorem seekNest_of {w : World} {x : Option (Key × Key)} {v2 v3 : Value} (e : Ext u w) (hb : Blk w g [.pointer (some ⟨s, 0, none⟩), .int .i64 id, v2, v3]) (b1 : Blk w gc [.pointer (some ⟨g, 0, none⟩)]) (hne : gc ≠ g) (hΩ : ∀ k, Ω k → k < u.heap.size) (hg : Ω g) {fid : Nat} (hbo : bodied Try.prog fid = true)
    (hcall : CallsV Try.prog fid #[.pointer (some ⟨gc, 0, none⟩), .pointer (some ⟨gk, 0, none⟩)] w.drew fun r v => Told w.drew x r v ∧ Ext w.drew v) : seekNest fid gc gk w (seekPost Ω u g s id x) := by
  have ed : Ext w w.drew := Fr.drew NoB w
  refine ⟨fun z => Blk z gc [.pointer (some ⟨g, 0, none⟩)], b1.ext ed, _, fun z hz => hz.cell0 rfl, fid, _, _, rfl, hbo, hcall.mono ?_⟩
  rintro r v ⟨ht, e1⟩
  have ewv := ed.trans' e1
  have ev := e.trans' ewv
  obtain ⟨KA', kn, kc, VA, vn, vc, ok', rfl, hti⟩ := ht.ti (Ω := Ω) (fun k hk => by have := hΩ k hk; have := e.size; have := ed.size; omega)
  refine ⟨_, _, _, _, _, _, _, rfl, b1.ext ewv, (cPut (v0 := .bool true) (hb.ext ewv) KA' VA kn kc vn vc ok').mono ?_⟩
  rintro _ w' ⟨rfl, hb', f⟩
  obtain ⟨h1, h2, h3⟩ := move hΩ hg (toldLen ht) hti ev hb' f
  exact ⟨_, rfl, by rw [h1], h2, h3⟩
set_option maxRecDepth 100000 in
set_option maxHeartbeats 1000000 in
theorem cSeek {k : Option Key} (h : Sto T u s q) (hc : Cur Ω u g s id k) (hΩ : ∀ k, Ω k → k < u.heap.size) (hg : Ω g) (iK : Imm KB Ω1 u KA key) (kc : Nat) (how : Int) : CallsV Try.prog 55 #[.pointer (some ⟨g, 0, none⟩), .int .u8 how, .slice KA key.length kc] u (seekPost Ω u g s id (seekX (foD q.D) id how key)) := by
  refine cursor_Cursor_Seek.calls okay ?_
  unfold cursor_Cursor_Seek.W
  intro gc u1 f1 gk u2 f2
  have hgl := hc.lt
  have b1 := f1.blk.ext f2.ext
  have b2 := f2.blk
  have e2 : Ext u u2 := f1.ext.trans' f2.ext
  have hne : gc ≠ g := fun e => by have := f1.ge; omega
  have hgcl := f1.blk.lt
  refine ⟨_, b1.cell0 rfl, (cMade (hc.ext e2)).same ⟨_, rfl, brnb (fun h => by cases h) fun _ => ⟨_, _, makeMap_run _ _, ?_⟩⟩⟩
  have m0 := MapK.new fU u2
  have q0 : Ext u2 (u2.alloc (.map #[] 0)) := Fr.alloc NoB u2 _
  obtain ⟨w1, r1, m1, q1⟩ := m0.update (P := Try.prog) keyU (t := 139) (kt := 96) (et := 138) (by kernel_rfl) 1 (.func (.func 94) #[] #[.pointer (some ⟨gc, 0, none⟩), .pointer (some ⟨gk, 0, none⟩)])
  obtain ⟨w2, r2, m2, q2⟩ := m1.update (P := Try.prog) keyU (t := 139) (kt := 96) (et := 138) (by kernel_rfl) 2 (.func (.func 95) #[] #[.pointer (some ⟨gc, 0, none⟩), .pointer (some ⟨gk, 0, none⟩)])
  obtain ⟨w3, r3, m3, q3⟩ := m2.update (P := Try.prog) keyU (t := 139) (kt := 96) (et := 138) (by kernel_rfl) 3 (.func (.func 96) #[] #[.pointer (some ⟨gc, 0, none⟩), .pointer (some ⟨gk, 0, none⟩)])
  obtain ⟨w4, r4, m4, q4⟩ := m3.update (P := Try.prog) keyU (t := 139) (kt := 96) (et := 138) (by kernel_rfl) 4 (.func (.func 97) #[] #[.pointer (some ⟨gc, 0, none⟩), .pointer (some ⟨gk, 0, none⟩)])
  have off : ∀ k, k < u2.heap.size → ¬ k = u2.heap.size := fun k hk e => by omega
  have e4 : Ext u2 w4 := (((q0.trans q1 (fun _ _ h => h) (fun k hk e => off k hk e)).trans q2 (fun _ _ h => h) (fun k hk e => off k hk e)).trans q3 (fun _ _ h => h) (fun k hk e => off k hk e)).trans q4 (fun _ _ h => h) (fun k hk e => off k hk e)
  refine ⟨_, r1, _, r2, _, r3, _, r4, ?_⟩
  have e04 := e2.trans' e4
  have hl := (m4.look (P := Try.prog) keyU (t := 139) (kt := 96) (et := 138) (by kernel_rfl) how (z := .nilFunc) zeroF).2
  have c1 := b1.ext e4
  have c2 := b2.ext e4
  have h4 := h.ext e04
  have iK4 := iK.ext KB_pos e04
  have hcur := hc
  obtain ⟨KA0, n0, c0, ok0, hb, hk0⟩ := hc
  have hb4 := hb.ext e04
  have ed : Ext w4 w4.drew := Fr.drew NoB w4
  rcases Classical.em (how = 1) with rfl | h1
  · replace hl : RunsTo Try.prog (Instr.lookup 139 (.map (some u2.heap.size)) (.int .u8 1) false) w4 (.func (.func 94) #[] #[.pointer (some ⟨gc, 0, none⟩), .pointer (some ⟨gk, 0, none⟩)]) w4 := hl
    exact ⟨_, _, hl, Eq.mpr (show _ = seekNest 94 gc gk w4 (seekPost Ω u g s id ((gF (foD q.D) id).bind (aftE key true))) by kernel_rfl) (seekNest_of e04 hb4 c1 hne hΩ hg (by kernel_rfl) (seek1 (h4.ext ed) (hb4.ext ed) (c1.ext ed) (c2.ext ed) (iK4.ext KB_pos ed)))⟩
  rcases Classical.em (how = 2) with rfl | h2
  · replace hl : RunsTo Try.prog (Instr.lookup 139 (.map (some u2.heap.size)) (.int .u8 2) false) w4 (.func (.func 95) #[] #[.pointer (some ⟨gc, 0, none⟩), .pointer (some ⟨gk, 0, none⟩)]) w4 := hl
    exact ⟨_, _, hl, Eq.mpr (show _ = seekNest 95 gc gk w4 (seekPost Ω u g s id ((gF (foD q.D) id).bind (aftE key false))) by kernel_rfl) (seekNest_of e04 hb4 c1 hne hΩ hg (by kernel_rfl) (seek2 (h4.ext ed) (hb4.ext ed) (c1.ext ed) (c2.ext ed) (iK4.ext KB_pos ed)))⟩
  rcases Classical.em (how = 3) with rfl | h3
  · replace hl : RunsTo Try.prog (Instr.lookup 139 (.map (some u2.heap.size)) (.int .u8 3) false) w4 (.func (.func 96) #[] #[.pointer (some ⟨gc, 0, none⟩), .pointer (some ⟨gk, 0, none⟩)]) w4 := hl
    exact ⟨_, _, hl, Eq.mpr (show _ = seekNest 96 gc gk w4 (seekPost Ω u g s id ((gF (foD q.D) id).bind (befE key true))) by kernel_rfl) (seekNest_of e04 hb4 c1 hne hΩ hg (by kernel_rfl) (seek3 (h4.ext ed) (hb4.ext ed) (c1.ext ed) (c2.ext ed) (iK4.ext KB_pos ed)))⟩
  rcases Classical.em (how = 4) with rfl | h4'
  · replace hl : RunsTo Try.prog (Instr.lookup 139 (.map (some u2.heap.size)) (.int .u8 4) false) w4 (.func (.func 97) #[] #[.pointer (some ⟨gc, 0, none⟩), .pointer (some ⟨gk, 0, none⟩)]) w4 := hl
    exact ⟨_, _, hl, Eq.mpr (show _ = seekNest 97 gc gk w4 (seekPost Ω u g s id ((gF (foD q.D) id).bind (befE key false))) by kernel_rfl) (seekNest_of e04 hb4 c1 hne hΩ hg (by kernel_rfl) (seek4 (h4.ext ed) (hb4.ext ed) (c1.ext ed) (c2.ext ed) (iK4.ext KB_pos ed)))⟩
  have hX : seekX (foD q.D) id how key = none := by unfold seekX; rw [if_neg h1, if_neg h2, if_neg h3, if_neg h4']
  rw [hX]
  have hget : ∀ a b c d : Value, getM (setM (setM (setM (setM [] 1 a) 2 b) 3 c) 4 d) how = none := fun a b c d => by
    show (if how = 1 then _ else if how = 2 then _ else if how = 3 then _ else if how = 4 then _ else none) = none
    rw [if_neg h1, if_neg h2, if_neg h3, if_neg h4']
  rw [hget] at hl
  replace hl : RunsTo Try.prog (Instr.lookup 139 (.map (some u2.heap.size)) (.int .u8 how) false) w4 .nilFunc w4 := hl
  refine ⟨_, _, hl, Eq.mpr (show _ = (∃ x, w4.cell? ⟨gc, 0, none⟩ = some (.pointer x) ∧ CallsV Try.prog 98 #[.pointer x, .slice none 0 0, .slice none 0 0, .bool false] w4 fun v w' => ∃ x, v = .bool x ∧ seekPost Ω u g s id none (.bool x) w') by kernel_rfl) ?_⟩
  refine ⟨_, c1.cell0 rfl, (cPut (v0 := .bool true) hb4 none none 0 0 0 0 false).mono ?_⟩
  rintro _ w' ⟨rfl, hb', f⟩
  exact ⟨_, rfl, rfl, ⟨_, _, _, _, hb', rfl⟩, (Fr.mono e04 fun _ _ h => h.elim).trans f (fun _ _ h => h) (fun _ _ h => h)⟩
end
end Go.Proofs.Ythfagbfllheneaa
set_option linter.unusedVariables false
set_option maxRecDepth 100000
namespace Go.Proofs.Ythfagbfllheneaa
open Go Go.Sx
noncomputable def cardindexlaw05_b.W : ByteArray → World → (Value → World → Prop) → Prop := fun (s : ByteArray) (w : World) (K : Value → World → Prop) => ∃ (x : Option Addr) (x_1 x_2 : Nat) (w' :
 World), RunsTo Try.prog (convert 9 28 (Value.string s)) w (Value.slice x x_1 x_2) w' ∧ K (Value.slice x x_1 x_2) w'
theorem cardindexlaw05_b.calls (ok : Okay Try.prog) {s : ByteArray} {w : World} {K : Value → World → Prop} (h : cardindexlaw05_b.W s w K) : CallsV Try.prog 30 #[.string s] w K :=
  fnW_calls ok Try.func30 (an := (.named .auto)) (args := [.string s]) (Eq.mp (by kernel_rfl) h)
noncomputable def cardindexlaw05_is.W : Option Addr → Int → ByteArray → ByteArray → World → (Value → World → Prop) → Prop := fun (s : Option Addr) (id : Int) (key want : ByteArray) (w : World) (K :
 Value → World → Prop) => CallsV Try.prog 30 #[Value.string key] w fun (v : Value) (w' : World) => ∃ (x : Option Addr) (x_1 x_2 : Nat), v = Value.slice x x_1 x_2 ∧ CallsV Try.prog 49 #[Value.pointer s,
 Value.int IntKind.i64 id, Value.slice x x_1 x_2] w' fun (v : Value) (w' : World) => ∃ (x : Option Addr) (x_3 x_4 : Nat) (x_5 : Bool), v = Value.tuple #[Value.slice x x_3 x_4, Value.bool x_5] ∧ bif
 decide (x_5 = !ByteArray.toList want == ByteArray.toList (ByteArray.mk #[])) then ∃ (x_6 : ByteArray) (w'_1 : World), RunsTo Try.prog (convert 28 9 (Value.slice x x_3 x_4)) w' (Value.string
 x_6) w'_1 ∧ K (Value.bool (ByteArray.toList x_6 == ByteArray.toList want)) w'_1 else K (Value.bool false) w'
theorem cardindexlaw05_is.calls (ok : Okay Try.prog) {s : Option Addr} {id : Int} {key : ByteArray} {want : ByteArray} {w : World} {K : Value → World → Prop} (h : cardindexlaw05_is.W s id key want w K) : CallsV Try.prog 74 #[.pointer s, .int .i64 id, .string key, .string want] w K :=
  fnW_calls ok Try.func74 (an := (.named .auto)) (args := [.pointer s, .int .i64 id, .string key, .string want]) (Eq.mp (by kernel_rfl) h)
noncomputable def cardindexlaw05_puts.W : Option Addr → Int → ByteArray → ByteArray → World → (Value → World → Prop) → Prop := fun (s : Option Addr) (id : Int) (key val : ByteArray) (w : World) (K :
 Value → World → Prop) => CallsV Try.prog 30 #[Value.string key] w fun (v : Value) (w' : World) => ∃ (x : Option Addr) (x_1 x_2 : Nat), v = Value.slice x x_1 x_2 ∧ CallsV Try.prog 30 #[Value.string val]
 w' fun (v : Value) (w' : World) => ∃ (x_3 : Option Addr) (x_4 x_5 : Nat), v = Value.slice x_3 x_4 x_5 ∧ CallsV Try.prog 29 #[Value.pointer s, Value.int IntKind.i64 id, Value.slice x x_1 x_2,
 Value.slice x_3 x_4 x_5] w' fun (v : Value) (w' : World) => ∃ (x : Bool) (x_6 : Int), v = Value.tuple #[Value.bool x, Value.int IntKind.i64 x_6] ∧ K (Value.bool (decide (x_6 = (0 : Int)))) w'
theorem cardindexlaw05_puts.calls (ok : Okay Try.prog) {s : Option Addr} {id : Int} {key : ByteArray} {val : ByteArray} {w : World} {K : Value → World → Prop} (h : cardindexlaw05_puts.W s id key val w K) : CallsV Try.prog 28 #[.pointer s, .int .i64 id, .string key, .string val] w K :=
  fnW_calls ok Try.func28 (an := (.named .auto)) (args := [.pointer s, .int .i64 id, .string key, .string val]) (Eq.mp (by kernel_rfl) h)
noncomputable def cardindexlaw05_marks.W : Option Addr → Int → World → (Value → World → Prop) → Prop := fun (s : Option Addr) (n : Int) (w : World) (K : Value → World → Prop) => CallsV Try.prog 18
 #[Value.pointer s] w fun (v : Value) (w' : World) => ∃ (x x_1 : Int), v = Value.tuple #[Value.int IntKind.i64 x, Value.int IntKind.i64 x_1] ∧ bif decide (x = n) then bif decide (x_1
 = (0 : Int)) then CallsV Try.prog 24 #[Value.pointer s] w' fun (v : Value) (w' : World) => ∃ (x : Int), v = Value.int IntKind.i64 x ∧ K (Value.bool (decide (x = n))) w' else K (Value.bool
 false) w' else K (Value.bool false) w'
theorem cardindexlaw05_marks.calls (ok : Okay Try.prog) {s : Option Addr} {n : Int} {w : World} {K : Value → World → Prop} (h : cardindexlaw05_marks.W s n w K) : CallsV Try.prog 27 #[.pointer s, .int .i64 n] w K :=
  fnW_calls ok Try.func27 (an := (.named .auto)) (args := [.pointer s, .int .i64 n]) (Eq.mp (by kernel_rfl) h)
noncomputable def cardindexlaw05_awake.W : World → (Value → World → Prop) → Prop := fun (w : World) (K : Value → World → Prop) => CallsV Try.prog 15 #[Value.int IntKind.i64 (4 : Int), Value.int
 IntKind.i64 (100 : Int)] w fun (v : Value) (w' : World) => ∃ (x : Option Addr) (x_1 : Int), v = Value.tuple #[Value.pointer x, Value.int IntKind.i64 x_1] ∧ CallsV Try.prog 26 #[Value.pointer x] w' fun
 (v : Value) (w' : World) => ∃ (x_2 x_3 : Int), v = Value.tuple #[Value.int IntKind.i64 x_2, Value.int IntKind.i64 x_3] ∧ bif !decide (x_1 = (0 : Int)) then K (Value.bool false) w' else
 bif !decide (x_3 = (0 : Int)) then K (Value.bool false) w' else bif !decide (x_2 = (1 : Int)) then K (Value.bool false) w' else CallsV Try.prog 28 #[Value.pointer x,
 Value.int IntKind.i64 (1 : Int), Value.string (ByteArray.mk #[(97 : UInt8)]), Value.string (ByteArray.mk #[(49 : UInt8)])] w' fun (v : Value) (w' : World) => ∃ (x_4 : Bool), v = Value.bool x_4 ∧ bif
 !x_4 then K (Value.bool false) w' else CallsV Try.prog 27 #[Value.pointer x, Value.int IntKind.i64 (1 : Int)] w' fun (v : Value) (w' : World) => ∃ (x_5 : Bool), v = Value.bool x_5 ∧ bif !x_5 then
 K (Value.bool false) w' else CallsV Try.prog 28 #[Value.pointer x, Value.int IntKind.i64 (1 : Int), Value.string (ByteArray.mk #[(97 : UInt8)]), Value.string (ByteArray.mk #[(50 : UInt8)])] w' fun
 (v : Value) (w' : World) => ∃ (x_6 : Bool), v = Value.bool x_6 ∧ bif !x_6 then K (Value.bool false) w' else CallsV Try.prog 28 #[Value.pointer x, Value.int IntKind.i64 (1 : Int), Value.string
 (ByteArray.mk #[(98 : UInt8)]), Value.string (ByteArray.mk #[(51 : UInt8)])] w' fun (v : Value) (w' : World) => ∃ (x_7 : Bool), v = Value.bool x_7 ∧ bif !x_7 then K (Value.bool false) w' else
 CallsV Try.prog 27 #[Value.pointer x, Value.int IntKind.i64 (2 : Int)] w' fun (v : Value) (w' : World) => ∃ (x_8 : Bool), v = Value.bool x_8 ∧ bif !x_8 then K (Value.bool false) w' else CallsV
 Try.prog 30 #[Value.string (ByteArray.mk #[(97 : UInt8)])] w' fun (v : Value) (w' : World) => ∃ (x_9 : Option Addr) (x_10 x_11 : Nat), v = Value.slice x_9 x_10 x_11 ∧ CallsV Try.prog 40 #[Value.pointer
 x, Value.int IntKind.i64 (1 : Int), Value.slice x_9 x_10 x_11] w' fun (v : Value) (w' : World) => ∃ (x_12 : Bool) (x_13 : Int), v = Value.tuple #[Value.bool x_12, Value.int IntKind.i64 x_13] ∧ CallsV
 Try.prog 26 #[Value.pointer x] w' fun (v : Value) (w' : World) => ∃ (x_14 x_15 : Int), v = Value.tuple #[Value.int IntKind.i64 x_14, Value.int IntKind.i64 x_15] ∧ bif !x_12 then K (Value.bool
 false) w' else bif !decide (x_13 = (0 : Int)) then K (Value.bool false) w' else bif !decide (x_14 = (2 : Int)) then K (Value.bool false) w' else bif !decide
 (x_15 = (0 : Int)) then K (Value.bool false) w' else CallsV Try.prog 25 #[Value.pointer x, Value.int IntKind.i64 (2 : Int)] w' fun (v : Value) (w' : World) => ∃ (x_16 : Int), v = Value.int
 IntKind.i64 x_16 ∧ bif !decide (x_16 = (0 : Int)) then K (Value.bool false) w' else CallsV Try.prog 74 #[Value.pointer x, Value.int IntKind.i64 (1 : Int), Value.string (ByteArray.mk
 #[(97 : UInt8)]), Value.string (ByteArray.mk #[(50 : UInt8)])] w' fun (v : Value) (w' : World) => ∃ (x_17 : Bool), v = Value.bool x_17 ∧ bif !x_17 then K (Value.bool false) w' else CallsV Try.prog
 74 #[Value.pointer x, Value.int IntKind.i64 (1 : Int), Value.string (ByteArray.mk #[(98 : UInt8)]), Value.string (ByteArray.mk #[(51 : UInt8)])] w' fun (v : Value) (w' : World) => ∃ (x_18 : Bool), v =
 Value.bool x_18 ∧ bif !x_18 then K (Value.bool false) w' else CallsV Try.prog 33 #[Value.pointer x] w' fun (v : Value) (w' : World) => ∃ (x_19 : Option Addr) (x_20 x_21 : Nat), v = Value.slice
 x_19 x_20 x_21 ∧ ∀ (g : Nat) (w'_1 : World), Fresh w' g w'_1 [Value.int IntKind.i64 (1 : Int)] 3 → CallsV Try.prog 32 #[Value.slice x_19 x_20 x_21, Value.slice (some (Addr.mk g 0 none)) 1
 1] w'_1 fun (v : Value) (w' : World) => ∃ (x_22 : Bool), v = Value.bool x_22 ∧ bif !x_22 then K (Value.bool false) w' else CallsV Try.prog 25 #[Value.pointer x, Value.int IntKind.i64 (1 : Int)] w'
 fun (v : Value) (w' : World) => ∃ (x_23 : Int), v = Value.int IntKind.i64 x_23 ∧ bif !decide (x_23 = (0 : Int)) then K (Value.bool false) w' else CallsV Try.prog 74 #[Value.pointer x,
 Value.int IntKind.i64 (1 : Int), Value.string (ByteArray.mk #[(97 : UInt8)]), Value.string (ByteArray.mk #[(49 : UInt8)])] w' fun (v : Value) (w' : World) => ∃ (x_24 : Bool), v = Value.bool x_24 ∧ bif
 !x_24 then K (Value.bool false) w' else CallsV Try.prog 34 #[Value.pointer x, Value.int IntKind.i64 (1 : Int)] w' fun (v : Value) (w' : World) => ∃ (x_25 : Int), v = Value.int IntKind.i64 x_25 ∧
 bif !decide (x_25 = (1 : Int)) then K (Value.bool false) w' else CallsV Try.prog 25 #[Value.pointer x, Value.int IntKind.i64 (1 : Int)] w' fun (v : Value) (w' : World) => ∃ (x_26 : Int),
 v = Value.int IntKind.i64 x_26 ∧ bif !decide (x_26 = (60 : Int)) then K (Value.bool false) w' else CallsV Try.prog 27 #[Value.pointer x, Value.int IntKind.i64 (1 : Int)] w' fun (v :
 Value) (w' : World) => ∃ (x_27 : Bool), v = Value.bool x_27 ∧ bif !x_27 then K (Value.bool false) w' else CallsV Try.prog 28 #[Value.pointer x, Value.int IntKind.i64 (1 : Int), Value.string
 (ByteArray.mk #[(99 : UInt8)]), Value.string (ByteArray.mk #[(52 : UInt8)])] w' fun (v : Value) (w' : World) => ∃ (x_28 : Bool), v = Value.bool x_28 ∧ bif !x_28 then K (Value.bool false) w' else
 CallsV Try.prog 19 #[Value.pointer x, Value.int IntKind.i64 (1 : Int)] w' fun (v : Value) (w' : World) => ∃ (x_29 : Int), v = Value.int IntKind.i64 x_29 ∧ bif decide (x_29 = (0 : Int)) then
 CallsV Try.prog 74 #[Value.pointer x, Value.int IntKind.i64 (1 : Int), Value.string (ByteArray.mk #[(97 : UInt8)]), Value.string (ByteArray.mk #[(49 : UInt8)])] w' fun (v : Value) (w' : World) => ∃
 (x_30 : Bool), v = Value.bool x_30 ∧ bif x_30 then CallsV Try.prog 74 #[Value.pointer x, Value.int IntKind.i64 (1 : Int), Value.string (ByteArray.mk #[(99 : UInt8)]), Value.string (ByteArray.mk #[(52 :
 UInt8)])] w' fun (v : Value) (w' : World) => ∃ (x_31 : Bool), v = Value.bool x_31 ∧ bif x_31 then CallsV Try.prog 24 #[Value.pointer x] w' fun (v : Value) (w' : World) => ∃ (x : Int), v = Value.int
 IntKind.i64 x ∧ K (Value.bool (decide (x = (0 : Int)))) w' else K (Value.bool false) w' else K (Value.bool false) w' else K (Value.bool false) w'
theorem cardindexlaw05_awake.calls (ok : Okay Try.prog)  {w : World} {K : Value → World → Prop} (h : cardindexlaw05_awake.W  w K) : CallsV Try.prog 23 #[] w K :=
  fnW_calls ok Try.func23 (an := (.named .auto)) (args := []) (Eq.mp (by kernel_rfl) h)
noncomputable def cardindexlow_SameInts.W : Option Addr → Nat → Nat → Option Addr → Nat → Nat → World → (Value → World → Prop) → Prop := fun (these_A : Option Addr) (these_n these_c : Nat) (those_A :
 Option Addr) (those_n those_c : Nat) (w : World) (K : Value → World → Prop) => bif !decide ((↑these_n : Int) = (↑those_n : Int)) then K (Value.bool false) w else ∃ (I : Int → World →
 Prop) (μ : Int → World → Nat), I (IntKind.wrap IntKind.i64 ((↑these_n : Int) - (1 : Int))) w ∧ ∀ (x : Int) (w : World), I x w → bif decide ((0 : Int) ≤ x) then ∃ (ad : Addr), these_A =
 some ad ∧ ((0 : Int) ≤ x ∧ x < (↑these_n : Int)) ∧ ∃ (S : World → Prop), S (World.drew w) ∧ ∃ (x_1 : Int), (∀ (u : World), S u → World.cell? u (Addr.add ad (Int.toNat x * 1)) = some
 (Value.int IntKind.i64 x_1)) ∧ ∃ (ad : Addr), those_A = some ad ∧ ((0 : Int) ≤ x ∧ x < (↑those_n : Int)) ∧ ∃ (x_2 : Int), (∀ (u : World), S u → World.cell? u (Addr.add ad (Int.toNat x * 1)) =
 some (Value.int IntKind.i64 x_2)) ∧ bif !decide (x_1 = x_2) then K (Value.bool false) (World.drew w) else I (IntKind.wrap IntKind.i64 (x - (1 : Int))) (World.drew w) ∧ μ
 (IntKind.wrap IntKind.i64 (x - (1 : Int))) (World.drew w) < μ x w else K (Value.bool true) w
theorem cardindexlow_SameInts.calls (ok : Okay Try.prog) {these_A : Option Addr} {these_n : Nat} {these_c : Nat} {those_A : Option Addr} {those_n : Nat} {those_c : Nat} {w : World} {K : Value → World → Prop} (h : cardindexlow_SameInts.W these_A these_n these_c those_A those_n those_c w K) : CallsV Try.prog 32 #[.slice these_A these_n these_c, .slice those_A those_n those_c] w K :=
  fnW_calls ok Try.func32 (an := (.named (.seq .auto (.seq .auto (.seq (.seq .auto (.block (.loop [(5, .one (.int .i64))] .auto))) .auto))))) (args := [.slice these_A these_n these_c, .slice those_A those_n those_c]) (Eq.mp (by kernel_rfl) h)
end Go.Proofs.Ythfagbfllheneaa
set_option linter.unusedVariables false
set_option linter.unusedSimpArgs false
namespace Go.Proofs.Ythfagbfllheneaa
open Go Go.Sx T4
def upF (F : List (Int × Es)) (id : Int) (es : Es) : List (Int × Es) := F.map fun p => if p.1 = id then (p.1, es) else p
def sizeF (F : List (Int × Es)) : Nat := (F.map fun p => 1 + p.2.length).sum
theorem upF_out {F : List (Int × Es)} {id : Int} {es : Es} (h : ∀ p ∈ F, p.1 ≠ id) : upF F id es = F := by
  unfold upF
  conv => rhs; rw [← List.map_id F]
  exact List.map_congr_left fun p hp => by rw [if_neg (h p hp)]; rfl
theorem fo_up {D1 D2 : List Tr} {d d' : Tr} (hn : ((D1 ++ d :: D2).map fun d => d.r).Nodup) (hr : d'.r = d.r) : foD (D1 ++ d' :: D2) = upF (foD (D1 ++ d :: D2)) d.r d'.es := by
  have hx := nd_mid hn
  have o1 : upF (foD D1) d.r d'.es = foD D1 := upF_out fun p hp => by
    obtain ⟨x, h, rfl⟩ := List.mem_map.1 hp; exact hx x (List.mem_append_left _ h)
  have o2 : upF (foD D2) d.r d'.es = foD D2 := upF_out fun p hp => by
    obtain ⟨x, h, rfl⟩ := List.mem_map.1 hp; exact hx x (List.mem_append_right _ h)
  have e : upF (foD (D1 ++ d :: D2)) d.r d'.es = upF (foD D1) d.r d'.es ++ (d.r, d'.es) :: upF (foD D2) d.r d'.es := by simp [upF, foD, fo]
  rw [e, o1, o2]
  simp [foD, fo, hr]
theorem nodes_size {A : Ar} {D : List Tr} (h : Inv A D) : A.nodes ≤ sizeF (foD D) := by
  rw [h.nodesE]
  unfold sizeF foD
  rw [List.map_map]
  have : ∀ (l : List Tr), (∀ d ∈ l, d ∈ D) → (l.map fun d => d.ps.length).sum ≤ (l.map ((fun p : Int × Es => 1 + p.2.length) ∘ fo)).sum := by
    intro l
    induction l with
    | nil => intro _; exact Nat.le_refl _
    | cons x l ih =>
      intro hl
      have h1 := ih fun d hd => hl d (by simp [hd])
      have h2 : x.ps.length ≤ 1 + x.es.length := (h.tree x (hl x (by simp))).places h.f1
      simp only [List.map_cons, List.sum_cons]
      have h3 : ((fun p : Int × Es => 1 + p.2.length) ∘ fo) x = 1 + x.es.length := rfl
      omega
  exact this D fun _ h => h
theorem tree_low {A : Ar} {D1 D2 : List Tr} {d : Tr} (h : Inv A (D1 ++ d :: D2)) : d.h ≤ A.nodes := by
  have h1 := h.at_.tree.height
  have h2 := h.at_.acc.nodes
  omega
section
variable {T : Nat → Prop} {u : World} {s : Nat} {A : Ar} {D : List Tr} {ms : List (Ar × List Tr)}
theorem kPut (h : Sto T u s ⟨A, D, ms⟩) {id : Int} {es : Es} (hg : gF (foD D) id = some es) (hroom : 2 * sizeF (foD D) + 1 ≤ A.most) {key val : Key} (hk : key.length ≤ 1048576) (hv : val.length ≤ 1048576) {Ω1 Ω2 : Nat → Prop} {KA VA : Option Addr} (iK : Imm KB Ω1 u KA key) (iV : Imm KB Ω2 u VA val) (kc vc : Nat) :
    CallsV Try.prog 29 #[.pointer (some ⟨s, 0, none⟩), .int .i64 id, .slice KA key.length kc, .slice VA val.length vc] u fun r u' => r = .tuple #[.bool (inE key es), .int .i64 0] ∧ ∃ A' D' T', Sto T' u' s ⟨A', D', ms⟩ ∧ Tch T u T' u' ∧ Same A A' ∧ foD D' = upF (foD D) id (insE key val es) := by
  obtain ⟨A', D', was, e, rel, hP⟩ := aPut (A := A) (D := D) h.inv id hk hv
  refine (hP h iK iV kc vc).mono ?_
  rintro _ u' ⟨rfl, T', h', c⟩
  rcases rel.rel with ⟨h1, _⟩ | ⟨D1, d, D2, d', full, hD, hr, rfl, hr', rfl, rfl, hfu, hno⟩
  · rw [hg] at h1; cases h1
  · have hI := h.inv
    replace hI : Inv A D := hI
    rw [hD] at hI
    have hes : d.es = es := by
      have : gF (foD D) id = some d.es := by
        rw [hD, ← hr]
        exact gF_nd hI.ndF (k := D1.length) (by simp [foD, fo])
      rw [hg] at this; exact (Option.some.inj this).symm
    have : full = false := by
      cases full with
      | false => rfl
      | true => have h1 := (hfu rfl).2.2.2; have := nodes_size hI; have := tree_low hI; rw [← hD] at *; omega
    subst this
    refine ⟨by rw [hes]; simp, A', _, T', h', c, rel.same, ?_⟩
    rw [fo_up hI.nd hr', hno rfl, hr, hes, ← hD]
theorem kDel (h : Sto T u s ⟨A, D, ms⟩) {id : Int} {es : Es} (hg : gF (foD D) id = some es) (key : Key) {Ω1 : Nat → Prop} {KA : Option Addr} (iK : Imm KB Ω1 u KA key) (kc : Nat) :
    CallsV Try.prog 40 #[.pointer (some ⟨s, 0, none⟩), .int .i64 id, .slice KA key.length kc] u fun r u' => r = .tuple #[.bool (inE key es), .int .i64 0] ∧ ∃ A' D' T', Sto T' u' s ⟨A', D', ms⟩ ∧ Tch T u T' u' ∧ Same A A' ∧ foD D' = upF (foD D) id (delE key es) := by
  obtain ⟨A', D', was, e, rel, hP⟩ := aDel (A := A) (D := D) h.inv id key
  refine (hP h iK kc).mono ?_
  rintro _ u' ⟨rfl, T', h', c⟩
  rcases rel.rel with ⟨h1, _⟩ | ⟨D1, d, D2, d', hD, hr, rfl, hr', rfl, rfl, he⟩
  · rw [hg] at h1; cases h1
  · have hI := h.inv
    replace hI : Inv A D := hI
    rw [hD] at hI
    have hes : d.es = es := by
      have : gF (foD D) id = some d.es := by
        rw [hD, ← hr]
        exact gF_nd hI.ndF (k := D1.length) (by simp [foD, fo])
      rw [hg] at this; exact (Option.some.inj this).symm
    refine ⟨by rw [hes], A', _, T', h', c, rel.same, ?_⟩
    rw [fo_up hI.nd hr', he, hr, hes, ← hD]
theorem kCreate (h : Sto T u s ⟨A, D, ms⟩) (hl : A.last < 1000000) (hroom : sizeF (foD D) < A.most) (hD : D.length < 1000) :
    CallsV Try.prog 26 #[.pointer (some ⟨s, 0, none⟩)] u fun r u' => r = .tuple #[iv (A.last + 1), .int .i64 0] ∧ ∃ A' D' T', Sto T' u' s ⟨A', D', ms⟩ ∧ Tch T u T' u' ∧ A'.fan = A.fan ∧ A'.most = A.most ∧ A'.last = A.last + 1 ∧ foD D' = foD D ++ [(((A.last + 1 : Nat) : Int), [])] := by
  obtain ⟨A', D', n, e, rel, hP⟩ := aCreate (A := A) (D := D) h.inv hl
  refine (hP h).mono ?_
  rintro _ u' ⟨rfl, T', h', c⟩
  rcases rel.rel with ⟨_, _, h3, rfl, rfl, i, rfl⟩ | ⟨hf, _⟩
  · exact ⟨rfl, A', _, T', h', c, rel.fan, rel.most, h3, by simp [foD, fo]⟩
  · have hI : Inv A D := h.inv
    have := nodes_size hI; omega
/-! ## the helpers -/
end
end Go.Proofs.Ythfagbfllheneaa
set_option linter.unusedVariables false
set_option maxRecDepth 100000
namespace Go.Proofs.Ythfagbfllheneaa
open Go Go.Sx
noncomputable def cardindexlaw06_b.W : ByteArray → World → (Value → World → Prop) → Prop := fun (s : ByteArray) (w : World) (K : Value → World → Prop) => ∃ (x : Option Addr) (x_1 x_2 : Nat) (w' :
 World), RunsTo Try.prog (convert 9 28 (Value.string s)) w (Value.slice x x_1 x_2) w' ∧ K (Value.slice x x_1 x_2) w'
theorem cardindexlaw06_b.calls (ok : Okay Try.prog) {s : ByteArray} {w : World} {K : Value → World → Prop} (h : cardindexlaw06_b.W s w K) : CallsV Try.prog 100 #[.string s] w K :=
  fnW_calls ok Try.func100 (an := (.named .auto)) (args := [.string s]) (Eq.mp (by kernel_rfl) h)
noncomputable def cardindexlaw06_at.W : Option Addr → ByteArray → World → (Value → World → Prop) → Prop := fun (c : Option Addr) (key : ByteArray) (w : World) (K : Value → World → Prop) => CallsV
 Try.prog 64 #[Value.pointer c] w fun (v : Value) (w' : World) => ∃ (x : Bool), v = Value.bool x ∧ bif decide (x = !ByteArray.toList key == ByteArray.toList (ByteArray.mk #[])) then CallsV
 Try.prog 65 #[Value.pointer c] w' fun (v : Value) (w' : World) => ∃ (x : Option Addr) (x_1 x_2 : Nat), v = Value.slice x x_1 x_2 ∧ ∃ (x_3 : ByteArray) (w'_1 : World), RunsTo Try.prog (convert 28 9
 (Value.slice x x_1 x_2)) w' (Value.string x_3) w'_1 ∧ K (Value.bool (ByteArray.toList x_3 == ByteArray.toList key)) w'_1 else K (Value.bool false) w'
theorem cardindexlaw06_at.calls (ok : Okay Try.prog) {c : Option Addr} {key : ByteArray} {w : World} {K : Value → World → Prop} (h : cardindexlaw06_at.W c key w K) : CallsV Try.prog 101 #[.pointer c, .string key] w K :=
  fnW_calls ok Try.func101 (an := (.named .auto)) (args := [.pointer c, .string key]) (Eq.mp (by kernel_rfl) h)
noncomputable def cardindexlaw06_store.W : Option Addr → Nat → Nat → World → (Value → World → Prop) → Prop := fun (keys_A : Option Addr) (keys_n keys_c : Nat) (w : World) (K : Value → World → Prop) =>
 CallsV Try.prog 15 #[Value.int IntKind.i64 (4 : Int), Value.int IntKind.i64 (100 : Int)] w fun (v : Value) (w' : World) => ∃ (x : Option Addr) (x_1 : Int), v = Value.tuple #[Value.pointer x, Value.int
 IntKind.i64 x_1] ∧ CallsV Try.prog 26 #[Value.pointer x] w' fun (v : Value) (w' : World) => ∃ (x_2 x_3 : Int), v = Value.tuple #[Value.int IntKind.i64 x_2, Value.int IntKind.i64 x_3] ∧ ∃ (I : Int →
 World → Prop) (μ : Int → World → Nat), I (0 : Int) w' ∧ ∀ (x_4 : Int) (w : World), I x_4 w → bif decide (x_4 < (↑keys_n : Int)) then ∃ (ad : Addr), keys_A = some ad ∧ ((0 : Int) ≤ x_4
 ∧ x_4 < (↑keys_n : Int)) ∧ ∃ (x_5 : ByteArray), World.cell? w (Addr.add ad (Int.toNat x_4 * 1)) = some (Value.string x_5) ∧ CallsV Try.prog 100 #[Value.string x_5] w fun (v : Value) (w' : World)
 => ∃ (x_6 : Option Addr) (x_7 x_8 : Nat), v = Value.slice x_6 x_7 x_8 ∧ CallsV Try.prog 100 #[Value.string x_5] w' fun (v : Value) (w' : World) => ∃ (x_9 : Option Addr) (x_10 x_11 : Nat), v =
 Value.slice x_9 x_10 x_11 ∧ CallsV Try.prog 29 #[Value.pointer x, Value.int IntKind.i64 x_2, Value.slice x_6 x_7 x_8, Value.slice x_9 x_10 x_11] w' fun (v : Value) (w' : World) => ∃ (x : Bool) (x_12 :
 Int), v = Value.tuple #[Value.bool x, Value.int IntKind.i64 x_12] ∧ I (IntKind.wrap IntKind.i64 (x_4 + (1 : Int))) w' ∧ μ (IntKind.wrap IntKind.i64 (x_4 + (1 : Int))) w' < μ x_4 w else CallsV Try.prog
 54 #[Value.pointer x, Value.int IntKind.i64 x_2] w fun (v : Value) (w' : World) => ∃ (x_5 : Option Addr) (x_6 : Int), v = Value.tuple #[Value.pointer x_5, Value.int IntKind.i64 x_6] ∧ bif
 decide (x_1 = (0 : Int)) then bif decide (x_3 = (0 : Int)) then bif decide (x_6 = (0 : Int)) then K (Value.tuple #[Value.pointer x, Value.pointer x_5, Value.bool
 (decide (x_2 = (1 : Int)))]) w' else K (Value.tuple #[Value.pointer x, Value.pointer x_5, Value.bool false]) w' else K (Value.tuple #[Value.pointer x, Value.pointer x_5, Value.bool
 false]) w' else K (Value.tuple #[Value.pointer x, Value.pointer x_5, Value.bool false]) w'
theorem cardindexlaw06_store.calls (ok : Okay Try.prog) {keys_A : Option Addr} {keys_n : Nat} {keys_c : Nat} {w : World} {K : Value → World → Prop} (h : cardindexlaw06_store.W keys_A keys_n keys_c w K) : CallsV Try.prog 99 #[.slice keys_A keys_n keys_c] w K :=
  fnW_calls ok Try.func99 (an := (.named (.seq .auto (.seq .auto (.seq .auto (.seq (.seq .auto (.block (.loop [(24, .one (.int .i64))] .auto))) .auto)))))) (args := [.slice keys_A keys_n keys_c]) (Eq.mp (by kernel_rfl) h)
noncomputable def cardindexlaw06_awake.W : World → (Value → World → Prop) → Prop := fun (w : World) (K : Value → World → Prop) => ∀ (g : Nat) (w' : World), Fresh w g w' [Value.string (ByteArray.mk
 #[(97 : UInt8)]), Value.string (ByteArray.mk #[(99 : UInt8)])] 9 → CallsV Try.prog 99 #[Value.slice (some (Addr.mk g 0 none)) 2 2] w' fun (v : Value) (w' : World) => ∃ (x x_1 : Option
 Addr) (x_2 : Bool), v = Value.tuple #[Value.pointer x, Value.pointer x_1, Value.bool x_2] ∧ bif !x_2 then K (Value.bool false) w' else CallsV Try.prog 100 #[Value.string (ByteArray.mk #[(98 :
 UInt8)])] w' fun (v : Value) (w' : World) => ∃ (x : Option Addr) (x_3 x_4 : Nat), v = Value.slice x x_3 x_4 ∧ CallsV Try.prog 55 #[Value.pointer x_1, Value.int IntKind.u8 (1 : Int), Value.slice x x_3
 x_4] w' fun (v : Value) (w' : World) => ∃ (x : Bool), v = Value.bool x ∧ bif !x then K (Value.bool false) w' else CallsV Try.prog 101 #[Value.pointer x_1, Value.string (ByteArray.mk #[(99 :
 UInt8)])] w' fun (v : Value) (w' : World) => ∃ (x : Bool), v = Value.bool x ∧ bif !x then K (Value.bool false) w' else CallsV Try.prog 63 #[Value.pointer x_1] w' fun (v : Value) (w' : World) => ∃
 (x : Bool), v = Value.bool x ∧ bif !x then K (Value.bool false) w' else CallsV Try.prog 101 #[Value.pointer x_1, Value.string (ByteArray.mk #[(97 : UInt8)])] w' fun (v : Value) (w' : World) => ∃
 (x : Bool), v = Value.bool x ∧ bif !x then K (Value.bool false) w' else CallsV Try.prog 67 #[Value.pointer x_1] w' fun (v : Value) (w' : World) => ∃ (x : Int), v = Value.int IntKind.i64 x ∧ bif
 !decide (x = (0 : Int)) then K (Value.bool false) w' else CallsV Try.prog 101 #[Value.pointer x_1, Value.string (ByteArray.mk #[])] w' fun (v : Value) (w' : World) => ∃ (x : Bool), v =
 Value.bool x ∧ bif !x then K (Value.bool false) w' else CallsV Try.prog 57 #[Value.pointer x_1] w' fun (v : Value) (w' : World) => ∃ (x : Bool), v = Value.bool x ∧ bif !x then K (Value.bool
 false) w' else CallsV Try.prog 101 #[Value.pointer x_1, Value.string (ByteArray.mk #[(99 : UInt8)])] w' fun (v : Value) (w' : World) => ∃ (x : Bool), v = Value.bool x ∧ bif !x then K (Value.bool
 false) w' else CallsV Try.prog 100 #[Value.string (ByteArray.mk #[(98 : UInt8)])] w' fun (v : Value) (w' : World) => ∃ (x : Option Addr) (x_5 x_6 : Nat), v = Value.slice x x_5 x_6 ∧ CallsV
 Try.prog 100 #[Value.string (ByteArray.mk #[(49 : UInt8)])] w' fun (v : Value) (w' : World) => ∃ (x_7 : Option Addr) (x_8 x_9 : Nat), v = Value.slice x_7 x_8 x_9 ∧ CallsV Try.prog 60 #[Value.pointer
 x_1, Value.slice x x_5 x_6, Value.slice x_7 x_8 x_9] w' fun (v : Value) (w' : World) => ∃ (x : Bool) (x_10 : Int), v = Value.tuple #[Value.bool x, Value.int IntKind.i64 x_10] ∧ bif x then K (Value.bool
 false) w' else bif !decide (x_10 = (0 : Int)) then K (Value.bool false) w' else CallsV Try.prog 101 #[Value.pointer x_1, Value.string (ByteArray.mk #[(98 : UInt8)])] w' fun (v :
 Value) (w' : World) => ∃ (x : Bool), v = Value.bool x ∧ bif !x then K (Value.bool false) w' else CallsV Try.prog 66 #[Value.pointer x_1] w' fun (v : Value) (w' : World) => ∃ (x : Option Addr)
 (x_11 x_12 : Nat), v = Value.slice x x_11 x_12 ∧ ∃ (x_13 : ByteArray) (w'_1 : World), RunsTo Try.prog (convert 28 9 (Value.slice x x_11 x_12)) w' (Value.string x_13) w'_1 ∧ bif !ByteArray.toList x_13
 == ByteArray.toList (ByteArray.mk #[(49 : UInt8)]) then K (Value.bool false) w'_1 else CallsV Try.prog 57 #[Value.pointer x_1] w'_1 fun (v : Value) (w' : World) => ∃ (x : Bool), v = Value.bool x ∧
 bif !x then K (Value.bool false) w' else CallsV Try.prog 101 #[Value.pointer x_1, Value.string (ByteArray.mk #[(99 : UInt8)])] w' fun (v : Value) (w' : World) => ∃ (x : Bool), v = Value.bool x ∧
 bif !x then K (Value.bool false) w' else CallsV Try.prog 57 #[Value.pointer x_1] w' fun (v : Value) (w' : World) => ∃ (x : Bool), v = Value.bool x ∧ bif x then K (Value.bool false) w' else
 CallsV Try.prog 57 #[Value.pointer x_1] w' fun (v : Value) (w' : World) => ∃ (x : Bool), v = Value.bool x ∧ bif x then K (Value.bool false) w' else CallsV Try.prog 64 #[Value.pointer x_1] w' fun
 (v : Value) (w' : World) => ∃ (x : Bool), v = Value.bool x ∧ bif x then K (Value.bool false) w' else ∀ (g : Nat) (w'_2 : World), Fresh w' g w'_2 [Value.string (ByteArray.mk #[(98 : UInt8)])] 9 →
 CallsV Try.prog 99 #[Value.slice (some (Addr.mk g 0 none)) 1 1] w'_2 fun (v : Value) (w' : World) => ∃ (x x_14 : Option Addr) (x_15 : Bool), v = Value.tuple #[Value.pointer x,
 Value.pointer x_14, Value.bool x_15] ∧ CallsV Try.prog 18 #[Value.pointer x] w' fun (v : Value) (w' : World) => ∃ (x_16 x_17 : Int), v = Value.tuple #[Value.int IntKind.i64 x_16, Value.int IntKind.i64
 x_17] ∧ CallsV Try.prog 100 #[Value.string (ByteArray.mk #[(98 : UInt8)])] w' fun (v : Value) (w' : World) => ∃ (x_18 : Option Addr) (x_19 x_20 : Nat), v = Value.slice x_18 x_19 x_20 ∧ CallsV Try.prog
 40 #[Value.pointer x, Value.int IntKind.i64 (1 : Int), Value.slice x_18 x_19 x_20] w' fun (v : Value) (w' : World) => ∃ (x_21 : Bool) (x_22 : Int), v = Value.tuple #[Value.bool x_21, Value.int
 IntKind.i64 x_22] ∧ CallsV Try.prog 100 #[Value.string (ByteArray.mk #[(97 : UInt8)])] w' fun (v : Value) (w' : World) => ∃ (x_23 : Option Addr) (x_24 x_25 : Nat), v = Value.slice x_23 x_24 x_25 ∧
 CallsV Try.prog 29 #[Value.pointer x, Value.int IntKind.i64 (1 : Int), Value.slice x_23 x_24 x_25, Value.slice none 0 0] w' fun (v : Value) (w' : World) => ∃ (x_26 : Bool) (x_27 : Int), v =
 Value.tuple #[Value.bool x_26, Value.int IntKind.i64 x_27] ∧ bif x_15 then CallsV Try.prog 61 #[Value.pointer x_14] w' fun (v : Value) (w' : World) => ∃ (x_28 : Bool), v = Value.bool x_28 ∧ bif x_28
 then CallsV Try.prog 101 #[Value.pointer x_14, Value.string (ByteArray.mk #[(97 : UInt8)])] w' fun (v : Value) (w' : World) => ∃ (x_29 : Bool), v = Value.bool x_29 ∧ bif x_29 then CallsV Try.prog 25
 #[Value.pointer x, Value.int IntKind.i64 (1 : Int)] w' fun (v : Value) (w' : World) => ∃ (x : Int), v = Value.int IntKind.i64 x ∧ bif decide (x = (0 : Int)) then CallsV Try.prog 101
 #[Value.pointer x_14, Value.string (ByteArray.mk #[])] w' fun (v : Value) (w' : World) => ∃ (x : Bool), v = Value.bool x ∧ bif x then CallsV Try.prog 57 #[Value.pointer x_14] w' fun (v : Value) (w' :
 World) => ∃ (x : Bool), v = Value.bool x ∧ bif x then CallsV Try.prog 101 #[Value.pointer x_14, Value.string (ByteArray.mk #[(98 : UInt8)])] w' fun (v : Value) (w' : World) => ∃ (x : Bool), v =
 Value.bool x ∧ K (Value.bool x) w' else K (Value.bool false) w' else K (Value.bool false) w' else K (Value.bool false) w' else K (Value.bool false) w' else K (Value.bool false)
 w' else K (Value.bool false) w'
theorem cardindexlaw06_awake.calls (ok : Okay Try.prog)  {w : World} {K : Value → World → Prop} (h : cardindexlaw06_awake.W  w K) : CallsV Try.prog 59 #[] w K :=
  fnW_calls ok Try.func59 (an := (.named .auto)) (args := []) (Eq.mp (by kernel_rfl) h)
noncomputable def cardindexlaw06_one.W : Option Addr → World → (Value → World → Prop) → Prop := fun (c : Option Addr) (w : World) (K : Value → World → Prop) => CallsV Try.prog 65 #[Value.pointer c] w
 fun (v : Value) (w' : World) => ∃ (x : Option Addr) (x_1 x_2 : Nat), v = Value.slice x x_1 x_2 ∧ bif decide ((↑x_1 : Int) = (1 : Int)) then ∃ (ad : Addr), x = some ad ∧ ((0 : Int) ≤ (0
 : Int) ∧ (0 : Int) < (↑x_1 : Int)) ∧ ∃ (x : Int), World.cell? w' (Addr.add ad (Int.toNat (0 : Int) * 1)) = some (Value.int IntKind.u8 x) ∧ K (Value.int IntKind.i64 (IntKind.wrap IntKind.i64 x))
 w' else K (Value.int IntKind.i64 (-1 : Int)) w'
theorem cardindexlaw06_one.calls (ok : Okay Try.prog) {c : Option Addr} {w : World} {K : Value → World → Prop} (h : cardindexlaw06_one.W c w K) : CallsV Try.prog 56 #[.pointer c] w K :=
  fnW_calls ok Try.func56 (an := (.named .auto)) (args := [.pointer c]) (Eq.mp (by kernel_rfl) h)
end Go.Proofs.Ythfagbfllheneaa
set_option linter.unusedVariables false
set_option linter.unusedSimpArgs false
namespace Go.Proofs.Ythfagbfllheneaa
open Go Go.Sx T4
theorem b6 (w : World) (l : List UInt8) (hl : l.length ≤ 1048576) : CallsV Try.prog 100 #[.string ⟨l.toArray⟩] w fun r w' => ∃ A c, r = .slice A l.length c ∧ OwnB w' A c l ∧ Ext w w' ∧ New w A := by
  refine cardindexlaw06_b.calls okay ?_
  unfold cardindexlaw06_b.W
  obtain ⟨A, c, w', h1, h2, h3, h4, _⟩ := to_bytes bt w ⟨l.toArray⟩ (by show l.toArray.size ≤ maxLen; simp [maxLen]; omega)
  have e : sb ⟨l.toArray⟩ = l := rfl
  rw [e] at h1 h2
  exact ⟨_, _, _, _, h1, A, c, rfl, h2, h3, h4⟩
structure Cu (w u : World) (T : Nat → Prop) (s g : Nat) (A : Ar) (D : List Tr) (ms : List (Ar × List Tr)) (k : Option Key) (F : List (Int × Es)) : Prop where
  sto : Sto T u s ⟨A, D, ms⟩
  cur : Cur (OC T fun k => k = g) u g s 1 k
  gT : ¬ T g
  e : Ext w u
  n : ∀ k, T k → w.heap.size ≤ k
  gw : w.heap.size ≤ g
  fo : foD D = F
  m : A.most = 100
section
variable {w u : World} {T : Nat → Prop} {s g : Nat} {A : Ar} {D : List Tr} {ms : List (Ar × List Tr)} {k : Option Key} {F : List (Int × Es)}
theorem Cu.lt (H : Cu w u T s g A D ms k F) : ∀ k, OC T (fun k => k = g) k → k < u.heap.size := by
  rintro k (hk | rfl)
  · exact H.sto.lt k hk
  · exact H.cur.lt
theorem Cu.ext (H : Cu w u T s g A D ms k F) {u' : World} (e : Ext u u') : Cu w u' T s g A D ms k F := ⟨H.sto.ext e, H.cur.ext e, H.gT, H.e.trans' e, H.n, H.gw, H.fo, H.m⟩
theorem Cu.moved (H : Cu w u T s g A D ms k F) {u' : World} {k' : Option Key} (hc : Cur (OC T fun k => k = g) u' g s 1 k') (f : Fr (fun k => k = g) u u') : Cu w u' T s g A D ms k' F :=
  ⟨H.sto.frame f fun k _ e ht => H.gT (by have e : k = g := e; exact e ▸ ht), hc, H.gT, H.e.trans f (fun _ _ h => h) (fun k hk e => by have e : k = g := e; have := H.gw; omega), H.n, H.gw, H.fo, H.m⟩
theorem Cu.tch (H : Cu w u T s g A D ms k F) {u' : World} {T' : Nat → Prop} {A' : Ar} {D' : List Tr} {ms' : List (Ar × List Tr)} {F' : List (Int × Es)} (h' : Sto T' u' s ⟨A', D', ms'⟩) (c : Tch T u T' u') (hF : foD D' = F') (hm : A'.most = 100) : Cu w u' T' s g A' D' ms' k F' := by
  obtain ⟨e', n'⟩ := c.keepExt H.e H.n
  obtain ⟨_, _, _, _, hb, _⟩ := H.cur
  exact ⟨h', H.cur.tch c H.gT, (c.blk hb H.gT).2, e', n', H.gw, hF, hm⟩
theorem aT (H : Cu w u T s g A D ms k F) {key v : Key} (hx : atX F 1 k = some (key, v)) (hn : key ≠ []) : CallsV Try.prog 101 #[.pointer (some ⟨g, 0, none⟩), .string ⟨key.toArray⟩] u fun r u' => r = .bool true ∧ Ext u u' := by
  refine cardindexlaw06_at.calls okay ?_
  unfold cardindexlaw06_at.W
  have hX : atX (foD D) 1 k = some (key, v) := by rw [H.fo]; exact hx
  have e0 : (ByteArray.toList ⟨key.toArray⟩ == ByteArray.toList (ByteArray.mk #[])) = decide (key = []) := eq_str key []
  refine (cValid H.sto H.cur).mono ?_
  rintro _ u1 ⟨rfl, e1⟩
  have H1 := H.ext e1
  refine ⟨_, rfl, brd (fun _ => (cKey H1.sto H1.cur).mono ?_) fun h => absurd ?_ h⟩
  · rintro r u2 ⟨e2, hr⟩
    replace hr : match atX (foD D) 1 k with
      | none => r = .slice none 0 0
      | some (key, _) => ∃ A c, r = .slice A key.length c ∧ OwnB u2 A c key ∧ New u1 A := hr
    rw [hX] at hr
    obtain ⟨B, d, rfl, o2, _⟩ := hr
    exact ⟨_, _, _, rfl, _, _, to_str bt o2.imm0 d, by rw [eq_str, decide_eq_true rfl], e1.trans' e2⟩
  · show (atX (foD D) 1 k).isSome = _
    rw [hX, e0, decide_eq_false hn]; rfl
theorem aN (H : Cu w u T s g A D ms k F) (hx : atX F 1 k = none) : CallsV Try.prog 101 #[.pointer (some ⟨g, 0, none⟩), .string ⟨([] : Key).toArray⟩] u fun r u' => r = .bool true ∧ Ext u u' := by
  refine cardindexlaw06_at.calls okay ?_
  unfold cardindexlaw06_at.W
  have hX : atX (foD D) 1 k = none := by rw [H.fo]; exact hx
  have e0 : (ByteArray.toList ⟨([] : Key).toArray⟩ == ByteArray.toList (ByteArray.mk #[])) = decide (([] : Key) = []) := eq_str [] []
  refine (cValid H.sto H.cur).mono ?_
  rintro _ u1 ⟨rfl, e1⟩
  have H1 := H.ext e1
  refine ⟨_, rfl, brd (fun _ => (cKey H1.sto H1.cur).mono ?_) fun h => absurd ?_ h⟩
  · rintro r u2 ⟨e2, hr⟩
    replace hr : match atX (foD D) 1 k with
      | none => r = .slice none 0 0
      | some (key, _) => ∃ A c, r = .slice A key.length c ∧ OwnB u2 A c key ∧ New u1 A := hr
    rw [hX] at hr
    obtain rfl : r = .slice none 0 0 := hr
    exact ⟨_, _, _, rfl, _, _, to_str bt (l := []) (Imm.nil KB NoB u2 none) 0, by rw [eq_str, decide_eq_true rfl], e1.trans' e2⟩
  · show (atX (foD D) 1 k).isSome = _
    rw [hX, e0]; rfl
end
def putsE (l : List Key) : Es := l.foldl (fun es k => insE k k es) []
theorem putsE_len (l : List Key) : (putsE l).length ≤ l.length := by
  have : ∀ (l : List Key) (es : Es), (l.foldl (fun es k => insE k k es) es).length ≤ es.length + l.length := by
    intro l
    induction l with
    | nil => intro es; simp
    | cons a l ih =>
      intro es
      have h1 := ih (insE a a es)
      have h2 : (insE a a es).length ≤ es.length + 1 := by rw [len_insE]; split <;> omega
      simp only [List.foldl_cons, List.length_cons]
      omega
  simpa [putsE] using this l []
theorem store_spec {w : World} {B : Option Addr} {c : Nat} {l : List Key} (h : ∀ i k, l[i]? = some k → ∃ ad, B = some ad ∧ w.cell? (ad.add (i * 1)) = some (.string ⟨k.toArray⟩)) (hl : l.length ≤ 10) (hk : ∀ k ∈ l, k.length ≤ 100) :
    CallsV Try.prog 99 #[.slice B l.length c] w fun r w' => ∃ s g T A D, r = .tuple #[.pointer (some ⟨s, 0, none⟩), .pointer (some ⟨g, 0, none⟩), .bool true] ∧ Cu w w' T s g A D [] none [(1, putsE l)] := by
  refine cardindexlaw06_store.calls okay ?_
  unfold cardindexlaw06_store.W
  refine (aNew w 4 100 (by decide) (by decide) (by decide) (by decide)).mono ?_
  rintro _ u0 ⟨s, T0, rfl, h0, e0, t0⟩
  refine ⟨_, _, rfl, (kCreate h0 (by decide) (by decide) (by decide)).mono ?_⟩
  rintro _ u1 ⟨rfl, A1, D1, T1, h1, c1, f1, m1, l1, F1⟩
  obtain ⟨x1, t1⟩ := c1.keepExt e0 t0
  replace F1 : foD D1 = [(1, [])] := F1
  replace m1 : A1.most = 100 := m1
  refine ⟨_, _, rfl, fun x v => ∃ j : Nat, x = (j : Int) ∧ j ≤ l.length ∧ ∃ T A D, Sto T v s ⟨A, D, []⟩ ∧ Ext w v ∧ (∀ k, T k → w.heap.size ≤ k) ∧ foD D = [(1, putsE (l.take j))] ∧ A.most = 100, fun x _ => (l.length - x).toNat, ⟨0, rfl, Nat.zero_le _, T1, A1, D1, h1, x1, t1, F1, m1⟩, ?_⟩
  clear h0 e0 t0 h1 c1 f1 m1 l1 F1 x1 t1
  rintro _ v ⟨j, rfl, hj, T, A, D, hs, e, n, hF, hm⟩
  refine brd (fun hlt => ?_) (fun hge => ?_)
  · have hjl : j < l.length := by omega
    have hx : l[j]? = some l[j] := List.getElem?_eq_getElem hjl
    obtain ⟨ad, hB, hc⟩ := h j _ hx
    have hkl := hk l[j] (List.getElem_mem hjl)
    have htk : l.take (j + 1) = l.take j ++ [l[j]] := by rw [List.take_add_one, hx]; rfl
    generalize l[j] = key at *
    refine ⟨ad, hB, ⟨by omega, by omega⟩, _, by rw [Int.toNat_natCast]; exact Ext.cell e hc, (b6 v key (by omega)).mono ?_⟩
    rintro _ v1 ⟨KA, kc, rfl, o1, e1, _⟩
    refine ⟨_, _, _, rfl, (b6 v1 key (by omega)).mono ?_⟩
    rintro _ v2 ⟨VA, vc, rfl, o2, e2, _⟩
    have e12 := e1.trans' e2
    have hlen := putsE_len (l.take j)
    rw [List.length_take] at hlen
    refine ⟨_, _, _, rfl, (kPut (hs.ext e12) (id := 1) (es := putsE (l.take j)) (by rw [hF]; rfl) (by rw [hF, hm]; simp [sizeF]; omega) (by omega) (by omega) (o1.ext e2).imm0 o2.imm0 kc vc).mono ?_⟩
    rintro _ v3 ⟨rfl, A', D', T', h', c', hs', hF'⟩
    obtain ⟨e3, n3⟩ := ((Tch.ext e12).trans c').keepExt e n
    rw [wi _ (by omega) (by omega)]
    refine ⟨_, _, rfl, ⟨j + 1, by omega, by omega, T', A', D', h', e3, n3, ?_, hs'.most.trans hm⟩, by dsimp only; omega⟩
    rw [hF', hF, htk]
    simp [upF, putsE, List.foldl_append]
  · obtain rfl : j = l.length := by omega
    rw [List.take_of_length_le (Nat.le_refl _)] at hF
    refine (cNew hs 1).mono ?_
    have hid : idsD D = [1] := by
      have : (foD D).map (fun p => p.1) = [1] := by rw [hF]; rfl
      rw [← this]; simp [foD, fo, idsD]
    rintro r v1 ⟨e1, ⟨_, g, rfl, hg, hc⟩ | ⟨hno, _⟩⟩
    · refine ⟨_, _, rfl, brd (fun _ => brd (fun _ => brd (fun _ => ⟨s, g, T, A, D, rfl, ⟨hs.ext e1, hc _, fun ht => ?_, e.trans' e1, n, Nat.le_trans e.size hg, hF, hm⟩⟩) fun h => absurd rfl h) fun h => absurd rfl h) fun h => absurd rfl h⟩
      have := hs.lt g ht; omega
    · exact absurd (by show (1 : Int) ∈ idsD D; rw [hid]; simp) hno
end Go.Proofs.Ythfagbfllheneaa
set_option linter.unusedVariables false
set_option linter.unusedSimpArgs false
namespace Go.Proofs.Ythfagbfllheneaa
open Go Go.Sx T4
theorem PutRel.room {A A' : Ar} {D D' : List Tr} {id : Int} {key val : Key} {was : Bool} {e : Int} (rel : PutRel A D id key val A' D' was e) (hI : Inv A D) {es : Es} (hg : gF (foD D) id = some es) (hroom : 2 * sizeF (foD D) + 1 ≤ A.most) : was = inE key es ∧ e = 0 ∧ foD D' = upF (foD D) id (insE key val es) := by
  rcases rel.rel with ⟨h1, _⟩ | ⟨D1, d, D2, d', full, hD, hr, rfl, hr', rfl, rfl, hfu, hno⟩
  · rw [hg] at h1; cases h1
  · rw [hD] at hI
    have hes : d.es = es := by
      have : gF (foD D) id = some d.es := by
        rw [hD, ← hr]
        exact gF_nd hI.ndF (k := D1.length) (by simp [foD, fo])
      rw [hg] at this; exact (Option.some.inj this).symm
    have : full = false := by
      cases full with
      | false => rfl
      | true => have h1 := (hfu rfl).2.2.2; have := nodes_size hI; have := tree_low hI; rw [← hD] at *; omega
    subst this
    refine ⟨by rw [hes]; simp, rfl, ?_⟩
    rw [fo_up hI.nd hr', hno rfl, hr, hes, ← hD]
theorem DelRel.look {A A' : Ar} {D D' : List Tr} {id : Int} {key : Key} {was : Bool} {e : Int} (rel : DelRel A D id key A' D' was e) (hI : Inv A D) {es : Es} (hg : gF (foD D) id = some es) : was = inE key es ∧ e = 0 ∧ foD D' = upF (foD D) id (delE key es) := by
  rcases rel.rel with ⟨h1, _⟩ | ⟨D1, d, D2, d', hD, hr, rfl, hr', rfl, rfl, he⟩
  · rw [hg] at h1; cases h1
  · rw [hD] at hI
    have hes : d.es = es := by
      have : gF (foD D) id = some d.es := by
        rw [hD, ← hr]
        exact gF_nd hI.ndF (k := D1.length) (by simp [foD, fo])
      rw [hg] at this; exact (Option.some.inj this).symm
    refine ⟨by rw [hes], rfl, ?_⟩
    rw [fo_up hI.nd hr', he, hr, hes, ← hD]
section
variable {w u : World} {T : Nat → Prop} {s g : Nat} {A : Ar} {D : List Tr} {ms : List (Ar × List Tr)} {k : Option Key} {F : List (Int × Es)}
theorem uNext (H : Cu w u T s g A D ms k F) {x : Option (Key × Key)} (hx : nextX F 1 k = x) : CallsV Try.prog 57 #[.pointer (some ⟨g, 0, none⟩)] u fun r u' => r = .bool x.isSome ∧ Cu w u' T s g A D ms (x.map fun p => p.1) F := by
  refine (cNext H.sto H.cur H.lt (.inr rfl)).mono ?_
  rintro r u' ⟨hr, hc, f⟩
  have e : nextX (foD D) 1 k = x := by rw [H.fo]; exact hx
  replace hr : r = .bool (nextX (foD D) 1 k).isSome := hr
  replace hc : Cur (OC T fun k => k = g) u' g s 1 ((nextX (foD D) 1 k).map fun p => p.1) := hc
  rw [e] at hr hc
  exact ⟨hr, H.moved hc f⟩
theorem uPrev (H : Cu w u T s g A D ms k F) {x : Option (Key × Key)} (hx : prevX F 1 k = x) : CallsV Try.prog 63 #[.pointer (some ⟨g, 0, none⟩)] u fun r u' => r = .bool x.isSome ∧ Cu w u' T s g A D ms (x.map fun p => p.1) F := by
  refine (cPrev H.sto H.cur H.lt (.inr rfl)).mono ?_
  rintro r u' ⟨hr, hc, f⟩
  have e : prevX (foD D) 1 k = x := by rw [H.fo]; exact hx
  replace hr : r = .bool (prevX (foD D) 1 k).isSome := hr
  replace hc : Cur (OC T fun k => k = g) u' g s 1 ((prevX (foD D) 1 k).map fun p => p.1) := hc
  rw [e] at hr hc
  exact ⟨hr, H.moved hc f⟩
theorem uSeek (H : Cu w u T s g A D ms k F) {x : Option (Key × Key)} {how : Int} {key : Key} (hx : seekX F 1 how key = x) {Ω1 : Nat → Prop} {KA : Option Addr} (iK : Imm KB Ω1 u KA key) (kc : Nat) : CallsV Try.prog 55 #[.pointer (some ⟨g, 0, none⟩), .int .u8 how, .slice KA key.length kc] u fun r u' => r = .bool x.isSome ∧ Cu w u' T s g A D ms (x.map fun p => p.1) F := by
  refine (cSeek H.sto H.cur H.lt (.inr rfl) iK kc how).mono ?_
  rintro r u' ⟨hr, hc, f⟩
  have e : seekX (foD D) 1 how key = x := by rw [H.fo]; exact hx
  replace hr : r = .bool (seekX (foD D) 1 how key).isSome := hr
  replace hc : Cur (OC T fun k => k = g) u' g s 1 ((seekX (foD D) 1 how key).map fun p => p.1) := hc
  rw [e] at hr hc
  exact ⟨hr, H.moved hc f⟩
theorem uRewind (H : Cu w u T s g A D ms k F) {x : Option (Key × Key)} (hx : (gF F 1).bind (aftE [] true) = x) : CallsV Try.prog 61 #[.pointer (some ⟨g, 0, none⟩)] u fun r u' => r = .bool x.isSome ∧ Cu w u' T s g A D ms (x.map fun p => p.1) F := by
  refine (cRewind H.sto H.cur H.lt (.inr rfl) H.gT).mono ?_
  rintro r u' ⟨y, hy, hr, hc, f⟩
  have e : y = x := by rw [hy]; show (gF (foD D) 1).bind _ = x; rw [H.fo]; exact hx
  subst e
  exact ⟨hr, H.moved hc f⟩
theorem uDelete (H : Cu w u T s g A D ms k F) {key v : Key} {es : Es} (hk : atX F 1 k = some (key, v)) (hg : gF F 1 = some es) (hid : 1 ∈ idsD D) : CallsV Try.prog 67 #[.pointer (some ⟨g, 0, none⟩)] u fun r u' => r = .int .i64 0 ∧ ∃ T' A' D', Cu w u' T' s g A' D' ms k (upF F 1 (delE key es)) ∧ idsD D' = idsD D := by
  refine (cDelete H.sto H.cur).mono ?_
  rintro r u' (⟨h1, _⟩ | ⟨_, h1, _⟩ | ⟨_, key', v', A', D', was, e, T', hk1, hat, rel, hr, h', c⟩)
  · exact absurd hid h1
  · rw [H.fo, hk] at h1; cases h1
  · rw [H.fo, hk] at hat
    obtain ⟨rfl, rfl⟩ : key = key' ∧ v = v' := by have := Option.some.inj hat; exact ⟨(Prod.mk.inj this).1, (Prod.mk.inj this).2⟩
    obtain ⟨_, rfl, hF⟩ := rel.look H.sto.inv (es := es) (by rw [H.fo]; exact hg)
    exact ⟨hr, T', A', D', H.tch h' c (by rw [hF, H.fo]) (rel.same.most.trans H.m), rel.ids⟩
theorem uInsert (H : Cu w u T s g A D ms k F) {key val : Key} {es : Es} (hg : gF F 1 = some es) (hroom : 2 * sizeF F + 1 ≤ 100) (hk : key.length ≤ 1048576) (hv : val.length ≤ 1048576) {KA VA : Option Addr} (iK : Imm KB T u KA key) (iV : Imm KB NoB u VA val) (kc vc : Nat) : CallsV Try.prog 60 #[.pointer (some ⟨g, 0, none⟩), .slice KA key.length kc, .slice VA val.length vc] u fun r u' => r = .tuple #[.bool (inE key es), .int .i64 0] ∧ ∃ T' A' D', Cu w u' T' s g A' D' ms (some key) (upF F 1 (insE key val es)) ∧ idsD D' = idsD D := by
  obtain ⟨A', D', was, e, rel, hP⟩ := cInsert (A := A) (D := D) H.sto.inv 1 (key := key) (val := val) hk hv
  refine (hP H.sto H.cur H.gT rfl (fun k e => by have e : k = g := e; rw [e]; exact H.cur.lt) iK iV (fun _ h => h) kc vc).mono ?_
  rintro r u' ⟨hr, T', v, h', c, f, hc⟩
  obtain ⟨rfl, rfl, hF⟩ := rel.room H.sto.inv (es := es) (by rw [H.fo]; exact hg) (by rw [H.fo, H.m]; exact hroom)
  obtain ⟨e1, n1⟩ := c.keepExt H.e H.n
  obtain ⟨_, _, _, _, hb, _⟩ := H.cur
  exact ⟨hr, T', A', D', ⟨h', hc, (c.blk hb H.gT).2, e1.trans f (fun _ _ h => h) (fun k hk e => by have e : k = g := e; have := H.gw; omega), n1, H.gw, by rw [hF, H.fo], rel.same.most.trans H.m⟩, rel.ids⟩
end
end Go.Proofs.Ythfagbfllheneaa
set_option linter.unusedVariables false
set_option linter.unusedSimpArgs false
namespace Go.Proofs.Ythfagbfllheneaa
open Go Go.Sx T4
theorem cuIds {w u : World} {T : Nat → Prop} {s g : Nat} {A : Ar} {D : List Tr} {ms : List (Ar × List Tr)} {k : Option Key} {F : List (Int × Es)} (H : Cu w u T s g A D ms k F) : idsD D = F.map fun p => p.1 := by
  rw [← H.fo]; simp [foD, fo, idsD]
set_option maxRecDepth 100000 in
set_option maxHeartbeats 1000000 in
theorem awake6_spec (w : World) : CallsV Try.prog 59 #[] w fun r w' => r = .bool true ∧ Ext w w' := by
  refine cardindexlaw06_awake.calls okay ?_
  unfold cardindexlaw06_awake.W
  intro g0 w0 f0
  refine (store_spec (l := [[97], [99]]) (fun i k hi => ?_) (by decide) (by decide)).mono ?_
  · match i, hi with
    | 0, hi => simp at hi; subst hi; exact ⟨_, rfl, f0.blk.cell rfl⟩
    | 1, hi => simp at hi; subst hi; exact ⟨_, rfl, f0.blk.cell rfl⟩
  rintro _ u1 ⟨s, g, T, A, D, rfl, H1⟩
  rw [show putsE [[97], [99]] = [([97], [97]), ([99], [99])] by decide] at H1
  refine ⟨_, _, _, rfl, brnb (fun h => by cases h) fun _ => (b6 u1 [98] (by decide)).mono ?_⟩
  rintro _ u2 ⟨KA, kc, rfl, o2, e2, _⟩
  refine ⟨_, _, _, rfl, (uSeek (H1.ext e2) (x := some ([99], [99])) (how := 1) (key := [98]) (by decide) o2.imm0 kc).mono ?_⟩
  rintro _ u3 ⟨rfl, H3⟩
  refine ⟨_, rfl, brnb (fun h => by cases h) fun _ => (aT H3 (key := [99]) (v := [99]) (by decide) (by decide)).mono ?_⟩
  rintro _ u4 ⟨rfl, e4⟩
  refine ⟨_, rfl, brnb (fun h => by cases h) fun _ => (uPrev (H3.ext e4) (x := some ([97], [97])) (by decide)).mono ?_⟩
  rintro _ u5 ⟨rfl, H5⟩
  refine ⟨_, rfl, brnb (fun h => by cases h) fun _ => (aT H5 (key := [97]) (v := [97]) (by decide) (by decide)).mono ?_⟩
  rintro _ u6 ⟨rfl, e6⟩
  refine ⟨_, rfl, brnb (fun h => by cases h) fun _ => (uDelete (H5.ext e6) (key := [97]) (v := [97]) (es := [([97], [97]), ([99], [99])]) (by decide) (by decide) (by rw [cuIds H5]; decide)).mono ?_⟩
  rintro _ u7 ⟨rfl, T7, A7, D7, H7, _⟩
  replace H7 : Cu w0 u7 T7 s g A7 D7 [] (some [97]) (upF [(1, [([97], [97]), ([99], [99])])] 1 (delE [97] [([97], [97]), ([99], [99])])) := H7
  rw [show upF [(1, [([97], [97]), ([99], [99])])] 1 (delE [97] [([97], [97]), ([99], [99])]) = [(1, [([99], [99])])] by decide] at H7
  refine ⟨_, rfl, brn (fun h => absurd rfl h) fun _ => (aN H7 (by decide)).mono ?_⟩
  rintro _ u8 ⟨rfl, e8⟩
  refine ⟨_, rfl, brnb (fun h => by cases h) fun _ => (uNext (H7.ext e8) (x := some ([99], [99])) (by decide)).mono ?_⟩
  rintro _ u9 ⟨rfl, H9⟩
  refine ⟨_, rfl, brnb (fun h => by cases h) fun _ => (aT H9 (key := [99]) (v := [99]) (by decide) (by decide)).mono ?_⟩
  rintro _ u10 ⟨rfl, e10⟩
  have H10 := H9.ext e10
  refine ⟨_, rfl, brnb (fun h => by cases h) fun _ => (b6 u10 [98] (by decide)).mono ?_⟩
  rintro _ u11 ⟨KB1, kb1, rfl, o11, e11, n11⟩
  refine ⟨_, _, _, rfl, (b6 u11 [49] (by decide)).mono ?_⟩
  rintro _ u12 ⟨VB1, vb1, rfl, o12, e12, _⟩
  refine ⟨_, _, _, rfl, (uInsert ((H10.ext e11).ext e12) (es := [([99], [99])]) (key := [98]) (val := [49]) (by decide) (by decide) (by decide) (by decide) ((o11.ext e12).imm fun k hk ht => by have := n11 k hk; have := H10.sto.lt k ht; omega) o12.imm0 kb1 vb1).mono ?_⟩
  rintro _ u13 ⟨rfl, T13, A13, D13, H13, _⟩
  replace H13 : Cu w0 u13 T13 s g A13 D13 [] (some [98]) (upF [(1, [([99], [99])])] 1 (insE [98] [49] [([99], [99])])) := H13
  rw [show upF [(1, [([99], [99])])] 1 (insE [98] [49] [([99], [99])]) = [(1, [([98], [49]), ([99], [99])])] by decide] at H13
  refine ⟨_, _, rfl, br (fun h => absurd h (by decide)) fun _ => brn (fun h => absurd rfl h) fun _ => (aT H13 (key := [98]) (v := [49]) (by decide) (by decide)).mono ?_⟩
  rintro _ u14 ⟨rfl, e14⟩
  have H14 := H13.ext e14
  refine ⟨_, rfl, brnb (fun h => by cases h) fun _ => (cValue H14.sto H14.cur).mono ?_⟩
  rintro r u15 ⟨e15, hr⟩
  have hX : atX (foD D13) 1 (some [98]) = some ([98], [49]) := by rw [H14.fo]; decide
  replace hr : match atX (foD D13) 1 (some [98]) with
    | none => ∃ c, r = .slice none 0 c
    | some (_, v) => ∃ A c, r = .slice A v.length c ∧ OwnB u15 A c v ∧ New u14 A := hr
  rw [hX] at hr
  obtain ⟨B15, d15, rfl, o15, _⟩ := hr
  have H15 := H14.ext e15
  refine ⟨_, _, _, rfl, _, _, to_str bt o15.imm0 d15, brnS (l := [49]) (l' := [49]) (fun h => absurd rfl h) fun _ => (uNext H15 (x := some ([99], [99])) (by decide)).mono ?_⟩
  rintro _ u16 ⟨rfl, H16⟩
  refine ⟨_, rfl, brnb (fun h => by cases h) fun _ => (aT H16 (key := [99]) (v := [99]) (by decide) (by decide)).mono ?_⟩
  rintro _ u17 ⟨rfl, e17⟩
  refine ⟨_, rfl, brnb (fun h => by cases h) fun _ => (uNext (H16.ext e17) (x := none) (by decide)).mono ?_⟩
  rintro _ u18 ⟨rfl, H18⟩
  refine ⟨_, rfl, br (fun h => by cases h) fun _ => (uNext H18 (x := none) rfl).mono ?_⟩
  rintro _ u19 ⟨rfl, H19⟩
  refine ⟨_, rfl, br (fun h => by cases h) fun _ => (cValid H19.sto H19.cur).mono ?_⟩
  rintro _ u20 ⟨rfl, e20⟩
  have x20 : Ext w u20 := f0.ext.trans' (H19.e.trans' e20)
  refine ⟨_, rfl, br (fun h => by cases h) fun _ => ?_⟩
  intro g1 w1 f1
  refine (store_spec (l := [[98]]) (fun i k hi => ?_) (by decide) (by decide)).mono ?_
  · match i, hi with
    | 0, hi => simp at hi; subst hi; exact ⟨_, rfl, f1.blk.cell rfl⟩
  rintro _ v1 ⟨s', g', T', A', D', rfl, G1⟩
  rw [show putsE [[98]] = [([98], [98])] by decide] at G1
  have x1 : Ext w w1 := x20.trans' f1.ext
  refine ⟨_, _, _, rfl, (aMark G1.sto).mono ?_⟩
  rintro _ v2 (⟨hge, _⟩ | ⟨_, rfl, T2, h2, c2⟩)
  · exact absurd (show 100 ≤ ([] : List (Ar × List Tr)).length from hge) (by decide)
  have G2 := G1.tch h2 c2 G1.fo G1.m
  refine ⟨_, _, rfl, (b6 v2 [98] (by decide)).mono ?_⟩
  rintro _ v3 ⟨KC, kd, rfl, p3, y3, _⟩
  have G3 := G2.ext y3
  refine ⟨_, _, _, rfl, (kDel G3.sto (id := 1) (es := [([98], [98])]) (by rw [G3.fo]; decide) [98] p3.imm0 kd).mono ?_⟩
  rintro _ v4 ⟨rfl, A4, D4, T4, h4, c4, s4, F4⟩
  have G4 := G3.tch h4 c4 (F' := [(1, [])]) (by rw [F4, G3.fo]; decide) (s4.most.trans G3.m)
  refine ⟨_, _, rfl, (b6 v4 [97] (by decide)).mono ?_⟩
  rintro _ v5 ⟨KD, ke, rfl, p5, y5, _⟩
  have G5 := G4.ext y5
  refine ⟨_, _, _, rfl, (kPut G5.sto (id := 1) (es := []) (by rw [G5.fo]; decide) (by rw [G5.fo, G5.m]; decide) (key := [97]) (val := []) (by decide) (by decide) p5.imm0 (Imm.nil KB NoB v5 none) ke 0).mono ?_⟩
  rintro _ v6 ⟨rfl, A6, D6, T6, h6, c6, s6, F6⟩
  have G6 := G5.tch h6 c6 (F' := [(1, [([97], [])])]) (by rw [F6, G5.fo]; decide) (s6.most.trans G5.m)
  refine ⟨_, _, rfl, br (fun _ => (uRewind G6 (x := some ([97], [])) (by decide)).mono ?_) fun h => by cases h⟩
  rintro _ v7 ⟨rfl, G7⟩
  refine ⟨_, rfl, br (fun _ => (aT G7 (key := [97]) (v := []) (by decide) (by decide)).mono ?_) fun h => by cases h⟩
  rintro _ v8 ⟨rfl, y8⟩
  have G8 := G7.ext y8
  refine ⟨_, rfl, br (fun _ => (aBack G8.sto 1).mono ?_) fun h => by cases h⟩
  rintro _ v9 (⟨hb, _⟩ | ⟨_, _, rfl, B, D9, T9, hm9, h9, c9⟩)
  · exact absurd hb (by show ¬ ((1 : Int) < 1 ∨ ((1 : Nat) : Int) < 1); decide)
  obtain ⟨rfl, rfl⟩ : A' = B ∧ D' = D9 := by have := Option.some.inj hm9; exact ⟨(Prod.mk.inj this).1, (Prod.mk.inj this).2⟩
  have G9 := G8.tch h9 c9 G1.fo G1.m
  refine ⟨_, rfl, brd (fun _ => (aN G9 (by decide)).mono ?_) fun h => absurd rfl h⟩
  rintro _ v10 ⟨rfl, y10⟩
  refine ⟨_, rfl, br (fun _ => (uNext (G9.ext y10) (x := some ([98], [98])) (by decide)).mono ?_) fun h => by cases h⟩
  rintro _ v11 ⟨rfl, G11⟩
  refine ⟨_, rfl, br (fun _ => (aT G11 (key := [98]) (v := [98]) (by decide) (by decide)).mono ?_) fun h => by cases h⟩
  rintro _ v12 ⟨rfl, y12⟩
  exact ⟨_, rfl, rfl, x1.trans' (G11.e.trans' y12)⟩
end Go.Proofs.Ythfagbfllheneaa
set_option linter.unusedVariables false
set_option linter.unusedSimpArgs false
namespace Go.Proofs.Ythfagbfllheneaa
open Go Go.Sx T4
theorem lt1 (a b : UInt8) : T4.lt [a] [b] ↔ a.toNat < b.toNat := by
  unfold T4.lt
  rw [Go.Lib.compareBytes]
  simp only [UInt8.lt_iff_toNat_lt]
  split
  · simp [*]
  · split
    · rename_i h1 h2
      exact ⟨fun h => absurd h (by decide), fun h => absurd h h1⟩
    · rename_i h1 h2
      exact ⟨fun h => absurd h (by decide), fun h => absurd h h1⟩
theorem lt0 (b : UInt8) : T4.lt [] [b] := by show (-1 : Int) < 0; decide
def AftP (key : Key) (is : Bool) (es : Es) : Option (Key × Key) → Prop
  | none => ∀ q ∈ es, ¬ (T4.lt key q.1 ∨ (is = true ∧ q.1 = key))
  | some p => p ∈ es ∧ (T4.lt key p.1 ∨ (is = true ∧ p.1 = key)) ∧ ∀ q ∈ es, (T4.lt key q.1 ∨ (is = true ∧ q.1 = key)) → q.1 = p.1 ∨ T4.lt p.1 q.1
theorem aftP (key : Key) (is : Bool) : ∀ {es : Es}, UpE es → AftP key is es (aftE key is es)
  | [], _ => fun q hq => by cases hq
  | (k, v) :: r, hu => by
    have hu : Up (k :: keysE r) := hu
    obtain ⟨h1, h2⟩ := List.pairwise_cons.1 hu
    have ih := aftP key is h2
    rw [aftE]
    by_cases h : T4.lt key k ∨ (is = true ∧ k = key)
    · rw [if_pos h]
      refine ⟨List.mem_cons_self .., h, fun q hq _ => ?_⟩
      rcases List.mem_cons.1 hq with rfl | hq
      · exact .inl rfl
      · exact .inr (h1 q.1 (List.mem_map.2 ⟨q, hq, rfl⟩))
    · rw [if_neg h]
      cases hx : aftE key is r with
      | none =>
        rw [hx] at ih
        intro q hq
        rcases List.mem_cons.1 hq with rfl | hq
        · exact h
        · exact ih q hq
      | some p =>
        rw [hx] at ih
        obtain ⟨a, b, c⟩ := ih
        refine ⟨List.mem_cons_of_mem _ a, b, fun q hq hk => ?_⟩
        rcases List.mem_cons.1 hq with rfl | hq
        · exact absurd hk h
        · exact c q hq hk
theorem lastP : ∀ {es : Es}, UpE es → match es.getLast? with
    | none => es = []
    | some p => p ∈ es ∧ ∀ q ∈ es, q.1 = p.1 ∨ T4.lt q.1 p.1
  | [], _ => rfl
  | [p], _ => ⟨List.mem_cons_self .., fun q hq => .inl (by rw [List.mem_singleton.1 hq]; rfl)⟩
  | x :: y :: r, hu => by
    have hu : Up (x.1 :: keysE (y :: r)) := hu
    obtain ⟨h1, h2⟩ := List.pairwise_cons.1 hu
    have ih := lastP (es := y :: r) h2
    rw [List.getLast?_cons_cons]
    cases hx : (y :: r).getLast? with
    | none => rw [List.getLast?_eq_none_iff] at hx; cases hx
    | some p =>
      rw [hx] at ih
      refine ⟨List.mem_cons_of_mem _ ih.1, fun q hq => ?_⟩
      rcases List.mem_cons.1 hq with rfl | hq
      · exact .inr (h1 p.1 (List.mem_map.2 ⟨p, ih.1, rfl⟩))
      · exact ih.2 q hq
/-! ## the table -/
structure HasT (es : Es) (l : List Bool) : Prop where
  len : l.length = 256
  up : UpE es
  one : ∀ p ∈ es, ∃ b : UInt8, p.1 = [b]
  iff : ∀ b : UInt8, inE [b] es = l.getD b.toNat false
structure Beh (l : List Bool) (f m : Nat) : Prop where
  lo : f ≤ m
  hi : m ≤ 256
  is : m < 256 → l.getD m false = true
  no : ∀ j, f ≤ j → j < m → l.getD j false = false
theorem Beh.uniq {l : List Bool} {f m m' : Nat} (h : Beh l f m) (h' : Beh l f m') : m = m' := by
  rcases Nat.lt_trichotomy m m' with hl | hl | hl
  · have a := h.is (by have := h'.hi; omega)
    rw [h'.no m h.lo hl] at a; cases a
  · exact hl
  · have a := h'.is (by have := h.hi; omega)
    rw [h.no m' h'.lo hl] at a; cases a
def BehO (l : List Bool) (f : Nat) : Option (Key × Key) → Prop
  | none => Beh l f 256
  | some p => ∃ b : UInt8, p.1 = [b] ∧ Beh l f b.toNat
def AhdO (l : List Bool) (t : Nat) : Option (Key × Key) → Prop
  | none => ∀ j, j < t → l.getD j false = false
  | some p => ∃ b : UInt8, p.1 = [b] ∧ b.toNat < t ∧ l.getD b.toNat false = true ∧ ∀ j, b.toNat < j → j < t → l.getD j false = false
theorem u8_lt (b : UInt8) : b.toNat < 256 := b.toNat_lt
theorem u8_of {j : Nat} (h : j < 256) : (UInt8.ofNat j).toNat = j := by simp [UInt8.toNat_ofNat']; omega
section
variable {es : Es} {l : List Bool}
theorem HasT.mem (h : HasT es l) {p : Key × Key} (hp : p ∈ es) : ∃ b : UInt8, p.1 = [b] ∧ l.getD b.toNat false = true := by
  obtain ⟨b, hb⟩ := h.one p hp
  refine ⟨b, hb, ?_⟩
  rw [← h.iff b, inE_mem h.up]
  exact ⟨p.2, by rw [← hb]; exact hp⟩
theorem HasT.ent (h : HasT es l) {j : Nat} (hj : j < 256) (ht : l.getD j false = true) : ∃ v, ([UInt8.ofNat j], v) ∈ es := by
  rw [← inE_mem h.up, h.iff, u8_of hj]; exact ht
theorem HasT.far (h : HasT es l) {j : Nat} (hj : 256 ≤ j) : l.getD j false = false := by
  rw [List.getD_eq_getElem?_getD, List.getElem?_eq_none (by rw [h.len]; exact hj)]; rfl
theorem HasT.behO (h : HasT es l) (ok : UInt8 → Bool) (f : Nat) (hf : f ≤ 256) (hok : ∀ b : UInt8, ok b = true ↔ f ≤ b.toNat) {x : Option (Key × Key)} (hx : match x with
    | none => ∀ q ∈ es, ∀ b : UInt8, q.1 = [b] → ok b = false
    | some p => p ∈ es ∧ ∀ b : UInt8, p.1 = [b] → ok b = true ∧ ∀ q ∈ es, ∀ c : UInt8, q.1 = [c] → ok c = true → b.toNat ≤ c.toNat) : BehO l f x := by
  cases x with
  | none =>
    refine ⟨hf, Nat.le_refl _, fun h => absurd h (Nat.lt_irrefl _), fun j h1 h2 => ?_⟩
    cases hb : l.getD j false with
    | false => rfl
    | true =>
      obtain ⟨v, hv⟩ := h.ent h2 hb
      have := hx _ hv (UInt8.ofNat j) rfl
      rw [(hok _).2 (by rw [u8_of h2]; exact h1)] at this; cases this
  | some p =>
    obtain ⟨hp, hx⟩ := hx
    obtain ⟨b, hb, ht⟩ := h.mem hp
    obtain ⟨h1, h2⟩ := hx b hb
    refine ⟨b, hb, (hok b).1 h1, Nat.le_of_lt (u8_lt b), fun _ => ht, fun j h3 h4 => ?_⟩
    cases hj : l.getD j false with
    | false => rfl
    | true =>
      have hl : j < 256 := by have := u8_lt b; omega
      obtain ⟨v, hv⟩ := h.ent hl hj
      have := h2 _ hv (UInt8.ofNat j) rfl ((hok _).2 (by rw [u8_of hl]; exact h3))
      rw [u8_of hl] at this; omega
theorem HasT.ahdO (h : HasT es l) (ok : UInt8 → Bool) (t : Nat) (hok : ∀ b : UInt8, ok b = true ↔ b.toNat < t) {x : Option (Key × Key)} (hx : match x with
    | none => ∀ q ∈ es, ∀ b : UInt8, q.1 = [b] → ok b = false
    | some p => p ∈ es ∧ ∀ b : UInt8, p.1 = [b] → ok b = true ∧ ∀ q ∈ es, ∀ c : UInt8, q.1 = [c] → ok c = true → c.toNat ≤ b.toNat) : AhdO l t x := by
  cases x with
  | none =>
    intro j h1
    cases hb : l.getD j false with
    | false => rfl
    | true =>
      rcases Nat.lt_or_ge j 256 with hl | hl
      · obtain ⟨v, hv⟩ := h.ent hl hb
        have := hx _ hv (UInt8.ofNat j) rfl
        rw [(hok _).2 (by rw [u8_of hl]; exact h1)] at this; cases this
      · rw [h.far hl] at hb; cases hb
  | some p =>
    obtain ⟨hp, hx⟩ := hx
    obtain ⟨b, hb, ht⟩ := h.mem hp
    obtain ⟨h1, h2⟩ := hx b hb
    refine ⟨b, hb, (hok b).1 h1, ht, fun j h3 h4 => ?_⟩
    cases hj : l.getD j false with
    | false => rfl
    | true =>
      rcases Nat.lt_or_ge j 256 with hl | hl
      · obtain ⟨v, hv⟩ := h.ent hl hj
        have := h2 _ hv (UInt8.ofNat j) rfl ((hok _).2 (by rw [u8_of hl]; exact h4))
        rw [u8_of hl] at this; omega
      · rw [h.far hl] at hj; cases hj
theorem one_inj {a b : UInt8} (h : [a] = [b]) : a = b := by cases h; rfl
theorem HasT.aft (h : HasT es l) (x : UInt8) (is : Bool) : BehO l (x.toNat + if is then 0 else 1) (aftE [x] is es) := by
  have hP := aftP [x] is h.up
  have hl := u8_lt x
  refine h.behO (fun b => decide (x.toNat + (if is then 0 else 1) ≤ b.toNat)) _ (by split <;> omega) (fun b => by simp) ?_
  have key : ∀ b : UInt8, (T4.lt [x] [b] ∨ (is = true ∧ [b] = [x])) ↔ x.toNat + (if is then 0 else 1) ≤ b.toNat := fun b => by
    rw [lt1]
    constructor
    · rintro (h | ⟨rfl, h⟩)
      · split <;> omega
      · rw [one_inj h]; simp
    · intro h
      cases is with
      | true =>
        simp only [if_true, Nat.add_zero] at h
        rcases Nat.lt_or_ge x.toNat b.toNat with h1 | h1
        · exact .inl h1
        · exact .inr ⟨rfl, by rw [UInt8.toNat_inj.1 (show b.toNat = x.toNat by omega)]⟩
      | false => simp at h; exact .inl (by omega)
  cases hx : aftE [x] is es with
  | none =>
    rw [hx] at hP
    intro q hq b hb
    have := hP q hq
    rw [hb, key b] at this
    exact decide_eq_false this
  | some p =>
    rw [hx] at hP
    obtain ⟨h1, h2, h3⟩ := hP
    refine ⟨h1, fun b hb => ?_⟩
    rw [hb] at h2 h3
    refine ⟨decide_eq_true ((key b).1 h2), fun q hq c hc hk => ?_⟩
    have := h3 q hq (by rw [hc]; exact (key c).2 (of_decide_eq_true hk))
    rw [hc] at this
    rcases this with h | h
    · rw [one_inj h]; exact Nat.le_refl _
    · exact Nat.le_of_lt ((lt1 _ _).1 h)
theorem HasT.first (h : HasT es l) : BehO l 0 (aftE [] true es) := by
  have hP := aftP [] true h.up
  refine h.behO (fun _ => true) 0 (by omega) (fun b => by simp) ?_
  cases hx : aftE [] true es with
  | none =>
    rw [hx] at hP
    intro q hq b hb
    exact absurd (.inl (by rw [hb]; exact lt0 b)) (hP q hq)
  | some p =>
    rw [hx] at hP
    obtain ⟨h1, h2, h3⟩ := hP
    refine ⟨h1, fun b hb => ⟨rfl, fun q hq c hc _ => ?_⟩⟩
    have := h3 q hq (by rw [hc]; exact .inl (lt0 c))
    rw [hc, hb] at this
    rcases this with h | h
    · rw [one_inj h]; exact Nat.le_refl _
    · exact Nat.le_of_lt ((lt1 _ _).1 h)
theorem HasT.last (h : HasT es l) : AhdO l 256 es.getLast? := by
  have hP := lastP h.up
  refine h.ahdO (fun _ => true) 256 (fun b => by simp [u8_lt b]) ?_
  cases hx : es.getLast? with
  | none =>
    rw [hx] at hP
    have hP : es = [] := hP
    subst hP
    intro q hq; cases hq
  | some p =>
    rw [hx] at hP
    obtain ⟨h1, h3⟩ := hP
    refine ⟨h1, fun b hb => ⟨rfl, fun q hq c hc _ => ?_⟩⟩
    have := h3 q hq
    rw [hc, hb] at this
    rcases this with h | h
    · rw [one_inj h]; exact Nat.le_refl _
    · exact Nat.le_of_lt ((lt1 _ _).1 h)
theorem HasT.nil : HasT [] (List.replicate 256 false) :=
  ⟨List.length_replicate, List.Pairwise.nil, fun p h => (by cases h), fun b => by
    rw [List.getD_eq_getElem?_getD, List.getElem?_replicate]; split <;> rfl⟩
theorem getD_set {l : List Bool} {i j : Nat} (hi : i < l.length) (b : Bool) : (l.set i b).getD j false = if i = j then b else l.getD j false := by
  simp only [List.getD_eq_getElem?_getD]
  by_cases h : i = j
  · subst h; rw [if_pos rfl, List.getElem?_set_self hi]; rfl
  · rw [if_neg h, List.getElem?_set_ne h]
theorem HasT.ins (h : HasT es l) (x : UInt8) (v : Key) : HasT (insE [x] v es) (l.set x.toNat true) := by
  refine ⟨by rw [List.length_set, h.len], insE_up h.up, fun p hp => ?_, fun b => ?_⟩
  · rcases (mem_insE h.up p).1 hp with rfl | ⟨hp, _⟩
    · exact ⟨x, rfl⟩
    · exact h.one p hp
  · rw [getD_set (by rw [h.len]; exact u8_lt x), Bool.eq_iff_iff, inE_mem (insE_up h.up)]
    have h0 := inE_mem (key := [b]) h.up
    rw [h.iff b] at h0
    by_cases hx : x.toNat = b.toNat
    · have := UInt8.toNat_inj.1 hx
      subst this
      rw [if_pos rfl]
      exact ⟨fun _ => rfl, fun _ => ⟨v, (mem_insE h.up _).2 (.inl rfl)⟩⟩
    · rw [if_neg hx, h0]
      constructor
      · rintro ⟨y, hy⟩
        rcases (mem_insE h.up _).1 hy with e | ⟨hy, _⟩
        · exact absurd (by rw [one_inj (Prod.mk.inj e).1]) hx
        · exact ⟨y, hy⟩
      · rintro ⟨y, hy⟩
        exact ⟨y, (mem_insE h.up _).2 (.inr ⟨hy, fun e => hx (by rw [one_inj e])⟩)⟩
theorem HasT.del (h : HasT es l) (x : UInt8) : HasT (delE [x] es) (l.set x.toNat false) := by
  refine ⟨by rw [List.length_set, h.len], delE_up h.up, fun p hp => ?_, fun b => ?_⟩
  · exact h.one p ((mem_delE h.up p).1 hp).1
  · rw [getD_set (by rw [h.len]; exact u8_lt x), Bool.eq_iff_iff, inE_mem (delE_up h.up)]
    have h0 := inE_mem (key := [b]) h.up
    rw [h.iff b] at h0
    by_cases hx : x.toNat = b.toNat
    · have := UInt8.toNat_inj.1 hx
      subst this
      rw [if_pos rfl]
      constructor
      · rintro ⟨y, hy⟩; exact absurd rfl ((mem_delE h.up _).1 hy).2
      · intro h; cases h
    · rw [if_neg hx, h0]
      constructor
      · rintro ⟨y, hy⟩; exact ⟨y, ((mem_delE h.up _).1 hy).1⟩
      · rintro ⟨y, hy⟩; exact ⟨y, (mem_delE h.up _).2 ⟨hy, fun e => hx (by rw [one_inj e])⟩⟩
theorem len_up : ∀ {es : Es} (f : Nat), UpE es → (∀ p ∈ es, ∃ b : UInt8, p.1 = [b] ∧ f ≤ b.toNat) → es.length ≤ 256 - f
  | [], f, _, _ => Nat.zero_le _
  | x :: r, f, hu, hp => by
    have hu : Up (x.1 :: keysE r) := hu
    obtain ⟨h1, h2⟩ := List.pairwise_cons.1 hu
    obtain ⟨b, hb, hf⟩ := hp x (List.mem_cons_self ..)
    have ih := len_up (es := r) (b.toNat + 1) h2 fun p hq => by
      obtain ⟨c, hc, _⟩ := hp p (List.mem_cons_of_mem _ hq)
      have := h1 p.1 (List.mem_map.2 ⟨p, hq, rfl⟩)
      rw [hb, hc, lt1] at this
      exact ⟨c, hc, this⟩
    have := u8_lt b
    rw [List.length_cons]; omega
theorem HasT.len_le (h : HasT es l) : es.length ≤ 256 := by
  have := len_up 0 h.up fun p hp => by obtain ⟨b, hb⟩ := h.one p hp; exact ⟨b, hb, Nat.zero_le _⟩
  omega
end
end Go.Proofs.Ythfagbfllheneaa
set_option linter.unusedVariables false
set_option linter.unusedSimpArgs false
namespace Go.Proofs.Ythfagbfllheneaa
open Go Go.Sx T4
structure Gs (w u : World) (T C : Nat → Prop) (s : Nat) (A : Ar) (D : List Tr) (es : Es) : Prop where
  sto : Sto T u s ⟨A, D, []⟩
  e : Ext w u
  n : ∀ k, T k → w.heap.size ≤ k
  cT : ∀ k, C k → ¬ T k
  cw : ∀ k, C k → w.heap.size ≤ k
  cl : ∀ k, C k → k < u.heap.size
  fo : foD D = [(1, es)]
  m : A.most = 65536
section
variable {w u : World} {T C : Nat → Prop} {s g : Nat} {A : Ar} {D : List Tr} {k : Option Key} {es : Es}
theorem Gs.lt (H : Gs w u T C s A D es) : ∀ k, OC T C k → k < u.heap.size := fun k h => h.elim (H.sto.lt k) (H.cl k)
theorem Gs.ext (H : Gs w u T C s A D es) {u' : World} (e : Ext u u') : Gs w u' T C s A D es :=
  ⟨H.sto.ext e, H.e.trans' e, H.n, H.cT, H.cw, fun k h => Nat.lt_of_lt_of_le (H.cl k h) e.size, H.fo, H.m⟩
theorem Gs.moved (H : Gs w u T C s A D es) (hg : C g) {u' : World} (f : Fr (fun k => k = g) u u') : Gs w u' T C s A D es :=
  ⟨H.sto.frame f fun k _ e ht => H.cT g hg (by have e : k = g := e; exact e ▸ ht), H.e.trans f (fun _ _ h => h) (fun k hk e => by have e : k = g := e; have := H.cw g hg; omega), H.n, H.cT, H.cw, fun k h => Nat.lt_of_lt_of_le (H.cl k h) f.size, H.fo, H.m⟩
theorem Gs.tch (H : Gs w u T C s A D es) {u' : World} {T' : Nat → Prop} {A' : Ar} {D' : List Tr} {es' : Es} (h' : Sto T' u' s ⟨A', D', []⟩) (c : Tch T u T' u') (hF : foD D' = [(1, es')]) (hm : A'.most = 65536) : Gs w u' T' C s A' D' es' := by
  obtain ⟨e', n'⟩ := c.keepExt H.e H.n
  exact ⟨h', e', n', fun k hk ht => (c.sub k ht).elim (H.cT k hk) fun h => by have := H.cl k hk; omega, H.cw, fun k h => Nat.lt_of_lt_of_le (H.cl k h) c.fr.size, hF, hm⟩
theorem gsIds (H : Gs w u T C s A D es) : (1 : Int) ∈ idsD D := by
  have : idsD D = (foD D).map fun p => p.1 := by simp [foD, fo, idsD]
  rw [this, H.fo]; simp
theorem gNext (H : Gs w u T C s A D es) (hc : Cur (OC T C) u g s 1 k) (hg : C g) {x : Option (Key × Key)} (hx : nextX [(1, es)] 1 k = x) : CallsV Try.prog 57 #[.pointer (some ⟨g, 0, none⟩)] u fun r u' => r = .bool x.isSome ∧ Gs w u' T C s A D es ∧ Cur (OC T C) u' g s 1 (x.map fun p => p.1) ∧ Fr (fun k => k = g) u u' := by
  refine (cNext H.sto hc H.lt (.inr hg)).mono ?_
  rintro r u' ⟨hr, hc, f⟩
  have e : nextX (foD D) 1 k = x := by rw [H.fo]; exact hx
  replace hr : r = .bool (nextX (foD D) 1 k).isSome := hr
  replace hc : Cur (OC T C) u' g s 1 ((nextX (foD D) 1 k).map fun p => p.1) := hc
  rw [e] at hr hc
  exact ⟨hr, H.moved hg f, hc, f⟩
theorem gPrev (H : Gs w u T C s A D es) (hc : Cur (OC T C) u g s 1 k) (hg : C g) {x : Option (Key × Key)} (hx : prevX [(1, es)] 1 k = x) : CallsV Try.prog 63 #[.pointer (some ⟨g, 0, none⟩)] u fun r u' => r = .bool x.isSome ∧ Gs w u' T C s A D es ∧ Cur (OC T C) u' g s 1 (x.map fun p => p.1) ∧ Fr (fun k => k = g) u u' := by
  refine (cPrev H.sto hc H.lt (.inr hg)).mono ?_
  rintro r u' ⟨hr, hc, f⟩
  have e : prevX (foD D) 1 k = x := by rw [H.fo]; exact hx
  replace hr : r = .bool (prevX (foD D) 1 k).isSome := hr
  replace hc : Cur (OC T C) u' g s 1 ((prevX (foD D) 1 k).map fun p => p.1) := hc
  rw [e] at hr hc
  exact ⟨hr, H.moved hg f, hc, f⟩
theorem gSeek (H : Gs w u T C s A D es) (hc : Cur (OC T C) u g s 1 k) (hg : C g) {x : Option (Key × Key)} {how : Int} {key : Key} (hx : seekX [(1, es)] 1 how key = x) {Ω1 : Nat → Prop} {KA : Option Addr} (iK : Imm KB Ω1 u KA key) (kc : Nat) : CallsV Try.prog 55 #[.pointer (some ⟨g, 0, none⟩), .int .u8 how, .slice KA key.length kc] u fun r u' => r = .bool x.isSome ∧ Gs w u' T C s A D es ∧ Cur (OC T C) u' g s 1 (x.map fun p => p.1) ∧ Fr (fun k => k = g) u u' := by
  refine (cSeek H.sto hc H.lt (.inr hg) iK kc how).mono ?_
  rintro r u' ⟨hr, hc, f⟩
  have e : seekX (foD D) 1 how key = x := by rw [H.fo]; exact hx
  replace hr : r = .bool (seekX (foD D) 1 how key).isSome := hr
  replace hc : Cur (OC T C) u' g s 1 ((seekX (foD D) 1 how key).map fun p => p.1) := hc
  rw [e] at hr hc
  exact ⟨hr, H.moved hg f, hc, f⟩
theorem gRewind (H : Gs w u T C s A D es) (hc : Cur (OC T C) u g s 1 k) (hg : C g) {x : Option (Key × Key)} (hx : aftE [] true es = x) : CallsV Try.prog 61 #[.pointer (some ⟨g, 0, none⟩)] u fun r u' => r = .bool x.isSome ∧ Gs w u' T C s A D es ∧ Cur (OC T C) u' g s 1 (x.map fun p => p.1) ∧ Fr (fun k => k = g) u u' := by
  refine (cRewind H.sto hc H.lt (.inr hg) (H.cT g hg)).mono ?_
  rintro r u' ⟨y, hy, hr, hc, f⟩
  have e : y = x := by rw [hy]; show (gF (foD D) 1).bind _ = x; rw [H.fo]; exact hx
  subst e
  exact ⟨hr, H.moved hg f, hc, f⟩
theorem gLast (H : Gs w u T C s A D es) (hc : Cur (OC T C) u g s 1 k) (hg : C g) {x : Option (Key × Key)} (hx : es.getLast? = x) : CallsV Try.prog 62 #[.pointer (some ⟨g, 0, none⟩)] u fun r u' => r = .bool x.isSome ∧ Gs w u' T C s A D es ∧ Cur (OC T C) u' g s 1 (x.map fun p => p.1) ∧ Fr (fun k => k = g) u u' := by
  refine (cLast H.sto hc H.lt (.inr hg) (H.cT g hg)).mono ?_
  rintro r u' ⟨y, hy, hr, hc, f⟩
  have e : y = x := by rw [hy]; show (gF (foD D) 1).bind _ = x; rw [H.fo]; exact hx
  subst e
  exact ⟨hr, H.moved hg f, hc, f⟩
theorem gPut (H : Gs w u T C s A D es) (hl : es.length ≤ 256) {key val : Key} (hk : key.length ≤ 1048576) (hv : val.length ≤ 1048576) {Ω1 Ω2 : Nat → Prop} {KA VA : Option Addr} (iK : Imm KB Ω1 u KA key) (iV : Imm KB Ω2 u VA val) (kc vc : Nat) : CallsV Try.prog 29 #[.pointer (some ⟨s, 0, none⟩), .int .i64 1, .slice KA key.length kc, .slice VA val.length vc] u fun r u' => r = .tuple #[.bool (inE key es), .int .i64 0] ∧ ∃ T' A' D', Gs w u' T' C s A' D' (insE key val es) ∧ Tch T u T' u' := by
  refine (kPut H.sto (id := 1) (es := es) (by rw [H.fo]; rfl) (by rw [H.fo, H.m]; show 2 * ((1 + es.length) + 0) + 1 ≤ 65536; omega) hk hv iK iV kc vc).mono ?_
  rintro r u' ⟨hr, A', D', T', h', c, hs, hF⟩
  exact ⟨hr, T', A', D', H.tch h' c (by rw [hF, H.fo]; rfl) (hs.most.trans H.m), c⟩
theorem gLen (H : Gs w u T C s A D es) : CallsV Try.prog 34 #[.pointer (some ⟨s, 0, none⟩), .int .i64 1] u fun r u' => r = iv es.length ∧ Ext u u' := by
  refine (sLen H.sto 1).mono ?_
  rintro r u' ⟨hr, e⟩
  replace hr : r = iv (lenO (gF (foD D) 1)) := hr
  rw [H.fo] at hr
  exact ⟨hr, e⟩
end
end Go.Proofs.Ythfagbfllheneaa
set_option linter.unusedVariables false
set_option maxRecDepth 100000
namespace Go.Proofs.Ythfagbfllheneaa
open Go Go.Sx
noncomputable def cardindexlaw06_grown.W : Option Addr → Nat → Nat → World → (Value → World → Prop) → Prop := fun (keys_A : Option Addr) (keys_n keys_c : Nat) (w : World) (K : Value → World → Prop) =>
 ∀ (g : Nat) (w' : World), Fresh w g w' (List.map Value.bool (List.replicate 256 false)) 90 → ∀ (g_1 : Nat) (w'_1 : World), Fresh w' g_1 w'_1 (List.map Value.bool (List.replicate 256 false))
 90 → CallsV Try.prog 15 #[Value.int IntKind.i64 (4 : Int), Value.int IntKind.i64 (65536 : Int)] w'_1 fun (v : Value) (w' : World) => ∃ (x : Option Addr) (x_1 : Int), v = Value.tuple #[Value.pointer x,
 Value.int IntKind.i64 x_1] ∧ CallsV Try.prog 26 #[Value.pointer x] w' fun (v : Value) (w' : World) => ∃ (x_2 x_3 : Int), v = Value.tuple #[Value.int IntKind.i64 x_2, Value.int IntKind.i64 x_3] ∧ ∃ (J :
 World → Prop), (∀ (w : World), J w → CallsV Try.prog 54 #[Value.pointer x, Value.int IntKind.i64 x_2] w fun (v : Value) (w' : World) => ∃ (x_4 : Option Addr) (x_5 : Int), v = Value.tuple
 #[Value.pointer x_4, Value.int IntKind.i64 x_5] ∧ ∃ (S : World → Prop), S (World.drew w') ∧ ∃ (l : List Bool), List.length l = 256 ∧ allC (fun (ad : Addr) (v : Value) => ∀ (u : World), S u →
 World.cell? u ad = some v) (Addr.mk g_1 0 none) l ∧ bif decide (x_1 = (0 : Int)) then bif decide (x_3 = (0 : Int)) then ∃ (l_1 : List Bool), (boolsV l = boolsV l_1 ∧
 List.length l_1 = 256) ∧ stOK (Addr.mk g 0 none) 0 (List.map Value.bool l_1) (World.drew w') ∧ ∀ (w'_2 : World), w'_2 = setAll (Addr.mk g 0 none) 0 (List.map Value.bool l_1) (World.drew
 w') → ∃ (l : List Bool), List.length l = 256 ∧ allC (fun (ad : Addr) (v : Value) => World.cell? w'_2 ad = some v) (Addr.mk g 0 none) l ∧ K (Value.tuple #[Value.pointer x, Value.pointer
 x_4, boolsV l, Value.bool (decide (x_5 = (0 : Int)))]) w'_2 else ∃ (l_1 : List Bool), (boolsV l = boolsV l_1 ∧ List.length l_1 = 256) ∧ stOK (Addr.mk g 0 none) 0 (List.map Value.bool
 l_1) (World.drew w') ∧ ∀ (w'_2 : World), w'_2 = setAll (Addr.mk g 0 none) 0 (List.map Value.bool l_1) (World.drew w') → ∃ (l : List Bool), List.length l = 256 ∧ allC (fun (ad : Addr) (v : Value)
 => World.cell? w'_2 ad = some v) (Addr.mk g 0 none) l ∧ K (Value.tuple #[Value.pointer x, Value.pointer x_4, boolsV l, Value.bool false]) w'_2 else ∃ (l_1 : List Bool), (boolsV l =
 boolsV l_1 ∧ List.length l_1 = 256) ∧ stOK (Addr.mk g 0 none) 0 (List.map Value.bool l_1) (World.drew w') ∧ ∀ (w'_2 : World), w'_2 = setAll (Addr.mk g 0 none) 0 (List.map Value.bool l_1)
 (World.drew w') → ∃ (l : List Bool), List.length l = 256 ∧ allC (fun (ad : Addr) (v : Value) => World.cell? w'_2 ad = some v) (Addr.mk g 0 none) l ∧ K (Value.tuple #[Value.pointer x,
 Value.pointer x_4, boolsV l, Value.bool false]) w'_2) ∧ ∃ (I : Int → World → Prop) (μ : Int → World → Nat), I (0 : Int) w' ∧ ∀ (x_4 : Int) (w : World), I x_4 w → bif decide (x_4 <
 (↑keys_n : Int)) then bif decide (x_4 < (200 : Int)) then ((0 : Int) ≤ IntKind.wrap IntKind.i64 (x_4 + (1 : Int)) ∧ IntKind.wrap IntKind.i64 (x_4 + (1 : Int)) ≤ (↑keys_c : Int)) ∧ ((0 : Int)
 ≤ x_4 ∧ x_4 ≤ (↑(Int.toNat (IntKind.wrap IntKind.i64 (x_4 + (1 : Int)))) : Int)) ∧ ((0 : Int) ≤ IntKind.wrap IntKind.i64 (x_4 + (1 : Int)) ∧ IntKind.wrap IntKind.i64 (x_4 + (1 : Int)) ≤ (↑keys_c :
 Int)) ∧ ((0 : Int) ≤ x_4 ∧ x_4 ≤ (↑(Int.toNat (IntKind.wrap IntKind.i64 (x_4 + (1 : Int)))) : Int)) ∧ CallsV Try.prog 29 #[Value.pointer x, Value.int IntKind.i64 x_2, Value.slice (cutAt keys_A keys_c
 (Int.toNat x_4) 1) (Int.toNat (IntKind.wrap IntKind.i64 (x_4 + (1 : Int))) - Int.toNat x_4) (keys_c - Int.toNat x_4), Value.slice (cutAt keys_A keys_c (Int.toNat x_4) 1) (Int.toNat (IntKind.wrap
 IntKind.i64 (x_4 + (1 : Int))) - Int.toNat x_4) (keys_c - Int.toNat x_4)] (World.drew w) fun (v : Value) (w' : World) => ∃ (x_5 : Bool) (x_6 : Int), v = Value.tuple #[Value.bool x_5, Value.int
 IntKind.i64 x_6] ∧ bif !decide (x_6 = (0 : Int)) then ∃ (S : World → Prop), S (World.drew w') ∧ ∃ (l : List Bool), List.length l = 256 ∧ allC (fun (ad : Addr) (v : Value) => ∀ (u : World), S
 u → World.cell? u ad = some v) (Addr.mk g_1 0 none) l ∧ ∃ (l_1 : List Bool), (boolsV l = boolsV l_1 ∧ List.length l_1 = 256) ∧ stOK (Addr.mk g 0 none) 0 (List.map Value.bool l_1)
 (World.drew w') ∧ ∀ (w'_2 : World), w'_2 = setAll (Addr.mk g 0 none) 0 (List.map Value.bool l_1) (World.drew w') → ∃ (l : List Bool), List.length l = 256 ∧ allC (fun (ad : Addr) (v : Value) =>
 World.cell? w'_2 ad = some v) (Addr.mk g 0 none) l ∧ K (Value.tuple #[Value.pointer x, Value.pointer none, boolsV l, Value.bool false]) w'_2 else ∃ (ad : Addr), keys_A =
 some ad ∧ ((0 : Int) ≤ x_4 ∧ x_4 < (↑keys_n : Int)) ∧ ∃ (x : Int), World.cell? w' (Addr.add ad (Int.toNat x_4 * 1)) = some (Value.int IntKind.u8 x) ∧ ((0 : Int) ≤ x ∧ x < (↑256 : Int)) ∧
 stOK (Addr.add (Addr.mk g_1 0 none) (Int.toNat x * 1)) 0 [Value.bool true] w' ∧ ∀ (w'_2 : World), w'_2 = setAll (Addr.add (Addr.mk g_1 0 none) (Int.toNat x * 1)) 0 [Value.bool
 true] w' → I (IntKind.wrap IntKind.i64 (x_4 + (1 : Int))) w'_2 ∧ μ (IntKind.wrap IntKind.i64 (x_4 + (1 : Int))) w'_2 < μ x_4 w else J w else J w
theorem cardindexlaw06_grown.calls (ok : Okay Try.prog) {keys_A : Option Addr} {keys_n : Nat} {keys_c : Nat} {w : World} {K : Value → World → Prop} (h : cardindexlaw06_grown.W keys_A keys_n keys_c w K) : CallsV Try.prog 53 #[.slice keys_A keys_n keys_c] w K :=
  fnW_calls ok Try.func53 (an := (.named (.seq .auto (.seq .auto (.seq .auto (.seq .auto (.join [] (.seq .auto (.block (.loop [(11, .one (.int .i64))] .auto))) .auto))))))) (args := [.slice keys_A keys_n keys_c]) (Eq.mp (by kernel_rfl) h)
noncomputable def cardindexlaw06_behind.W : Value → Int → World → (Value → World → Prop) → Prop := fun (there : Value) (fromx : Int) (w : World) (K : Value → World → Prop) => ∃ (l : List Bool), (there
 = boolsV l ∧ List.length l = 256) ∧ ∀ (g : Nat) (w' : World), Fresh w g w' (List.map Value.bool l) 90 → ∃ (I : Int → World → Prop) (μ : Int → World → Nat), I fromx w' ∧ ∀ (x : Int) (w : World), I x w →
 bif decide (x < (256 : Int)) then ((0 : Int) ≤ x ∧ x < (↑256 : Int)) ∧ ∃ (x_1 : Bool), World.cell? w (Addr.add (Addr.mk g 0 none) (Int.toNat x * 1)) = some (Value.bool x_1) ∧
 bif !x_1 then I (IntKind.wrap IntKind.i64 (x + (1 : Int))) w ∧ μ (IntKind.wrap IntKind.i64 (x + (1 : Int))) w < μ x w else K (Value.int IntKind.i64 x) w else K (Value.int IntKind.i64 x) w
theorem cardindexlaw06_behind.calls (ok : Okay Try.prog) {there : Value} {fromx : Int} {w : World} {K : Value → World → Prop} (h : cardindexlaw06_behind.W there fromx w K) : CallsV Try.prog 58 #[there, .int .i64 fromx] w K :=
  fnW_calls ok Try.func58 (an := (.named (.seq .auto (.seq (.block (.loop [(1, .one (.int .i64))] .auto)) .auto)))) (args := [there, .int .i64 fromx]) (Eq.mp (by kernel_rfl) h)
end Go.Proofs.Ythfagbfllheneaa
set_option linter.unusedVariables false
set_option linter.unusedSimpArgs false
namespace Go.Proofs.Ythfagbfllheneaa
open Go Go.Sx T4
theorem setL_app : ∀ (vs pre cur : List Value), cur.length = vs.length → setL (pre ++ cur) pre.length vs = pre ++ vs
  | [], pre, cur, h => by rw [List.eq_nil_of_length_eq_zero h]; rfl
  | v :: vs, pre, c :: cur, h => by
    have e : (pre ++ c :: cur).set pre.length v = (pre ++ [v]) ++ cur := by
      rw [List.set_append_right _ _ (Nat.le_refl _), Nat.sub_self]; simp
    show setL ((pre ++ c :: cur).set pre.length v) (pre.length + 1) vs = _
    rw [e, show pre.length + 1 = (pre ++ [v]).length by simp, setL_app vs (pre ++ [v]) cur (by simpa using h)]
    simp
  | v :: vs, pre, [], h => by cases h
theorem putAll {w : World} {g : Nat} {cur vs : List Value} (b : Blk w g cur) (hl : cur.length = vs.length) : stOK ⟨g, 0, none⟩ 0 vs w ∧ ∀ w', w' = setAll ⟨g, 0, none⟩ 0 vs w → Blk w' g vs ∧ Fr (fun k => k = g) w w' := by
  refine ⟨b.stOK vs 0 (by omega), fun w' hw => ?_⟩
  have h1 := Blk.setAll (o := 0) vs 0 b
  have h2 : setL cur 0 vs = vs := setL_app vs [] cur hl
  subst hw
  exact ⟨by rw [Nat.zero_add, h2] at h1; exact h1, Fr.setAll _ _ _⟩
abbrev TabB (w : World) (g : Nat) (l : List Bool) : Prop := Blk w g (l.map Value.bool)
theorem TabB.all {w : World} {g : Nat} {l : List Bool} (h : TabB w g l) : allC (fun ad v => w.cell? ad = some v) ⟨g, 0, none⟩ l := fun j b hj => h.cell (by rw [List.getElem?_map, Nat.zero_add, hj]; rfl)
theorem TabB.allE {w : World} {g : Nat} {l : List Bool} (h : TabB w g l) : allC (fun ad v => ∀ u, Ext w u → u.cell? ad = some v) ⟨g, 0, none⟩ l := fun j b hj u e => (Blk.ext h e).cell (by rw [List.getElem?_map, Nat.zero_add, hj]; rfl)
theorem TabB.get {w : World} {g : Nat} {l : List Bool} (h : TabB w g l) {j : Nat} (hj : j < l.length) : w.cell? ((⟨g, 0, none⟩ : Addr).add (j * 1)) = some (.bool (l.getD j false)) := by
  rw [Nat.mul_one]
  exact h.cell (by rw [List.getElem?_map, Nat.zero_add, List.getD_eq_getElem?_getD, List.getElem?_eq_getElem hj]; rfl)
theorem TabB.set {w : World} {g : Nat} {l : List Bool} (h : TabB w g l) {j : Nat} (hj : j < l.length) (x : Bool) : stOK ((⟨g, 0, none⟩ : Addr).add (j * 1)) 0 [.bool x] w ∧ ∀ w', w' = setAll ((⟨g, 0, none⟩ : Addr).add (j * 1)) 0 [.bool x] w → TabB w' g (l.set j x) ∧ Fr (fun k => k = g) w w' := by
  rw [Nat.mul_one]
  obtain ⟨p1, p2⟩ := setF h (o := j) (by rw [List.length_map]; exact hj) (.bool x)
  refine ⟨p1, fun w' hw => ?_⟩
  obtain ⟨q1, q2⟩ := p2 w' hw
  refine ⟨?_, q2⟩
  rw [← List.map_set] at q1
  exact q1
section
variable {w u : World} {T C : Nat → Prop} {s g : Nat} {A : Ar} {D : List Tr} {k : Option Key} {es : Es}
theorem one_spec (H : Gs w u T C s A D es) (hc : Cur (OC T C) u g s 1 k) {b : UInt8} {v : Key} (hx : atX [(1, es)] 1 k = some ([b], v)) : CallsV Try.prog 56 #[.pointer (some ⟨g, 0, none⟩)] u fun r u' => r = .int .i64 (b.toNat : Int) ∧ Ext u u' := by
  refine cardindexlaw06_one.calls okay ?_
  unfold cardindexlaw06_one.W
  refine (cKey H.sto hc).mono ?_
  rintro r u1 ⟨e, hr⟩
  replace hr : match atX (foD D) 1 k with
    | none => r = .slice none 0 0
    | some (key, _) => ∃ A c, r = .slice A key.length c ∧ OwnB u1 A c key ∧ New u A := hr
  rw [H.fo, hx] at hr
  obtain ⟨B, d, rfl, hO, _⟩ := hr
  refine ⟨_, _, _, rfl, brd (fun _ => ?_) fun h => absurd rfl h⟩
  obtain ⟨ad, hA, hcell⟩ := hO.imm0.byte (i := 0) (by simp)
  have hb := u8_lt b
  exact ⟨ad, hA, ⟨by decide, by simp⟩, _, hcell, by rw [wi _ (by omega) (by show (b.toNat : Int) ≤ _; omega)]; rfl, e⟩
theorem one_none (H : Gs w u T C s A D es) (hc : Cur (OC T C) u g s 1 k) (hx : atX [(1, es)] 1 k = none) : CallsV Try.prog 56 #[.pointer (some ⟨g, 0, none⟩)] u fun r u' => r = .int .i64 (-1) ∧ Ext u u' := by
  refine cardindexlaw06_one.calls okay ?_
  unfold cardindexlaw06_one.W
  refine (cKey H.sto hc).mono ?_
  rintro r u1 ⟨e, hr⟩
  replace hr : match atX (foD D) 1 k with
    | none => r = .slice none 0 0
    | some (key, _) => ∃ A c, r = .slice A key.length c ∧ OwnB u1 A c key ∧ New u A := hr
  rw [H.fo, hx] at hr
  have hr : r = .slice none 0 0 := hr
  subst hr
  exact ⟨_, _, _, rfl, brd (fun h => by cases h) fun _ => ⟨rfl, e⟩⟩
end
def Grw (w : World) (g0 g1 s : Nat) (u : World) : Prop := ∃ T A D es l, Gs w u T NoB s A D es ∧ HasT es l ∧ (∀ p ∈ es, p.2 = p.1) ∧ TabB u g0 (List.replicate 256 false) ∧ TabB u g1 l ∧ ¬ T g0 ∧ ¬ T g1
set_option maxRecDepth 10000 in
set_option maxHeartbeats 1000000 in
theorem grown_spec {Ω : Nat → Prop} {w : World} {KA : Option Addr} {kc : Nat} {keys : List UInt8} (iK : Imm KB Ω w KA keys) (hkc : keys.length ≤ kc) :
    CallsV Try.prog 53 #[.slice KA keys.length kc] w fun r w' => ∃ s g T A D es l, r = .tuple #[.pointer (some ⟨s, 0, none⟩), .pointer (some ⟨g, 0, none⟩), boolsV l, .bool true] ∧ Gs w w' T (fun k => k = g) s A D es ∧ (∀ Ω, Cur Ω w' g s 1 none) ∧ HasT es l ∧ (∀ p ∈ es, p.2 = p.1) := by
  refine cardindexlaw06_grown.calls okay ?_
  unfold cardindexlaw06_grown.W
  intro g0 w0 f0 g1 w1 f1
  have e01 : Ext w w1 := f0.ext.trans' f1.ext
  have t0 : TabB w1 g0 (List.replicate 256 false) := f0.blk.ext f1.ext
  have t1 : TabB w1 g1 (List.replicate 256 false) := f1.blk
  have hg0 : w.heap.size ≤ g0 := f0.ge
  have hg1 : w.heap.size ≤ g1 := Nat.le_trans f0.ext.size f1.ge
  have hne : g0 ≠ g1 := fun e => by have := f0.lt; have := f1.ge; omega
  refine (aNew w1 4 65536 (by decide) (by decide) (by decide) (by decide)).mono ?_
  rintro _ u0 ⟨s, T0, rfl, h0, e0, n0⟩
  refine ⟨_, _, rfl, (kCreate h0 (by decide) (by decide) (by decide)).mono ?_⟩
  rintro _ u1 ⟨rfl, A1, D1, T1, h1, c1, fa1, m1, l1, F1⟩
  obtain ⟨x1, n1⟩ := c1.keepExt e0 n0
  replace F1 : foD D1 = [(1, [])] := F1
  replace m1 : A1.most = 65536 := m1
  have b0 := f0.lt
  have b1 := f1.lt
  have s1 := f1.ext.size
  have s01 := e01.size
  have hT0 : ¬ T1 g0 := fun h => by have := n1 g0 h; omega
  have hT1 : ¬ T1 g1 := fun h => by have := n1 g1 h; omega
  have G0 : Grw w g0 g1 s u1 := ⟨T1, A1, D1, [], List.replicate 256 false, ⟨h1, e01.trans' x1, fun k hk => by have := n1 k hk; omega, fun k h => h.elim, fun k h => h.elim, fun k h => h.elim, F1, m1⟩, HasT.nil, fun p h => (by cases h), t0.ext x1, t1.ext x1, hT0, hT1⟩
  clear hT0 hT1 n1 x1 h1 c1 F1 m1 fa1 l1 h0 e0 n0
  refine ⟨_, _, rfl, fun u => Grw w g0 g1 s u, ?_, fun x u => ∃ j : Nat, x = (j : Int) ∧ j ≤ keys.length ∧ j ≤ 200 ∧ Grw w g0 g1 s u, fun x _ => (200 - x).toNat, ⟨0, rfl, Nat.zero_le _, Nat.zero_le _, G0⟩, ?_⟩
  · rintro u ⟨T, A, D, es, l, G, hT, hv, y0, y1, z0, z1⟩
    refine (cNew G.sto 1).mono ?_
    rintro r v ⟨e, ⟨_, g, rfl, hg, hc⟩ | ⟨hno, _⟩⟩
    · have ed : Ext v v.drew := Fr.drew NoB v
      have hv0 : TabB v g0 (List.replicate 256 false) := y0.ext e
      have hv1 : TabB v g1 l := y1.ext e
      have p := putAll (vs := l.map Value.bool) (hv0.ext ed) (by rw [List.length_map, List.length_map, List.length_replicate, hT.len])
      refine ⟨_, _, rfl, fun z => Ext v z, ed, l, hT.len, hv1.allE, br (fun _ => br (fun _ => ⟨l, ⟨rfl, hT.len⟩, p.1, fun v2 hv2 => ?_⟩) fun h => by cases h) fun h => by cases h⟩
      obtain ⟨q1, q2⟩ := p.2 v2 hv2
      have hg0' := G.e.size
      have hgl : g < v.heap.size := (hc NoB).lt
      have q2' : Fr (fun k => k = g0) v v2 := (Fr.mono ed fun _ _ h => h.elim).trans q2 (fun _ _ h => h) (fun _ _ h => h)
      have hgg : g ≠ g0 := fun e => by have := y0.lt; omega
      refine ⟨l, hT.len, TabB.all q1, s, g, T, A, D, es, l, rfl, ?_, fun Ω => ?_, hT, hv⟩
      · exact ⟨(G.sto.ext e).frame q2' fun k _ e ht => z0 (by have e : k = g0 := e; exact e ▸ ht), (G.e.trans' e).trans q2' (fun _ _ h => h) (fun k hk e => by have e : k = g0 := e; omega), G.n, fun k hk ht => by have hk : k = g := hk; have := G.sto.lt k ht; omega, fun k hk => by have hk : k = g := hk; omega, fun k hk => by have hk : k = g := hk; have := q2'.size; omega, G.fo, G.m⟩
      · exact (hc (fun k => k = g0 ∨ Ω k)).fr q2' hgg (fun k _ h => .inl h) fun k _ h => .inr h
    · exact absurd (gsIds G) hno
  · rintro _ u ⟨j, rfl, hj, hj2, hG⟩
    refine brd (fun hlt => brd (fun hlt2 => ?_) (fun _ => hG)) (fun _ => hG)
    have hjl : j < keys.length := by omega
    obtain ⟨T, A, D, es, l, G, hT, hv, y0, y1, z0, z1⟩ := hG
    have hw : IntKind.i64.wrap ((j : Int) + 1) = ((j + 1 : Nat) : Int) := by rw [wi _ (by omega) (by omega)]; omega
    have hcut : (keys.take (j + 1)).drop j = [keys[j]] := by
      rw [List.take_succ_eq_append_getElem hjl, List.drop_append_of_le_length (by rw [List.length_take]; omega)]
      rw [List.drop_eq_nil_of_le (by rw [List.length_take]; omega)]; rfl
    have ed : Ext u u.drew := Fr.drew NoB u
    have iC : Imm KB Ω w (cutAt KA kc j 1) [keys[j]] := by
      have := iK.cut (lo := j) (hi := j + 1) (m := kc) (by omega)
      rw [hcut] at this; exact this
    have iC2 := iC.ext KB_pos (G.e.trans' ed)
    have hone : j + 1 - j = [keys[j]].length := by simp
    rw [hw, Int.toNat_natCast, Int.toNat_natCast, hone]
    refine ⟨⟨by omega, by omega⟩, ⟨by omega, by omega⟩, ⟨by omega, by omega⟩, ⟨by omega, by omega⟩, (gPut (G.ext ed) hT.len_le (by simp) (by simp) iC2 iC2 (kc - j) (kc - j)).mono ?_⟩
    rintro _ v ⟨rfl, T', A', D', G', c'⟩
    refine ⟨_, _, rfl, brn (fun h => absurd rfl h) fun _ => ?_⟩
    obtain ⟨ad, hA, hcell⟩ := (iK.ext KB_pos G'.e).byte hjl
    have c'' : Tch T u T' v := (Tch.ext ed).trans c'
    obtain ⟨y0', z0'⟩ := c''.blk y0 z0
    obtain ⟨y1', z1'⟩ := c''.blk y1 z1
    have hb := u8_lt keys[j]
    obtain ⟨p1, p2⟩ := TabB.set (l := l) y1' (j := keys[j].toNat) (by rw [hT.len]; exact hb) true
    refine ⟨ad, hA, ⟨by omega, by omega⟩, _, hcell, ⟨by omega, by omega⟩, by rw [Int.toNat_natCast]; exact p1, fun v2 hv2 => ?_⟩
    rw [Int.toNat_natCast] at hv2
    obtain ⟨q1, q2⟩ := p2 v2 hv2
    refine ⟨⟨j + 1, rfl, by omega, by omega, T', A', D', _, _, ⟨G'.sto.frame q2 fun k _ e ht => z1' (by have e : k = g1 := e; exact e ▸ ht), G'.e.trans q2 (fun _ _ h => h) (fun k hk e => by have e : k = g1 := e; omega), G'.n, G'.cT, G'.cw, fun k h => h.elim, G'.fo, G'.m⟩, hT.ins _ _, fun p hp => ?_, y0'.keep q2 hne, q1, z0', z1'⟩, by dsimp only; omega⟩
    rcases (mem_insE hT.up p).1 hp with rfl | ⟨hp, _⟩
    · rfl
    · exact hv p hp
end Go.Proofs.Ythfagbfllheneaa
set_option linter.unusedVariables false
set_option maxRecDepth 100000
namespace Go.Proofs.Ythfagbfllheneaa
open Go Go.Sx
noncomputable def cardindexlaw06_CursorSeeks.W : Option Addr → Nat → Nat → Int → World → (Value → World → Prop) → Prop := fun (keys_A : Option Addr) (keys_n keys_c : Nat) (x : Int) (w : World) (K :
 Value → World → Prop) => CallsV Try.prog 53 #[Value.slice keys_A keys_n keys_c] w fun (v : Value) (w' : World) => ∃ (x_1 x_2 : Option Addr) (x_3 : Value) (x_4 : Bool), v = Value.tuple #[Value.pointer
 x_1, Value.pointer x_2, x_3, Value.bool x_4] ∧ ∀ (g : Nat) (w'_1 : World), Fresh w' g w'_1 (List.map Value.bool (List.replicate 256 false)) 90 → ∃ (l : List Bool), (x_3 = boolsV l ∧ List.length l
 = 256) ∧ stOK (Addr.mk g 0 none) 0 (List.map Value.bool l) w'_1 ∧ ∀ (w' : World), w' = setAll (Addr.mk g 0 none) 0 (List.map Value.bool l) w'_1 → CallsV Try.prog 54 #[Value.pointer x_1,
 Value.int IntKind.i64 (1 : Int)] w' fun (v : Value) (w' : World) => ∃ (x_5 : Option Addr) (x_6 : Int), v = Value.tuple #[Value.pointer x_5, Value.int IntKind.i64 x_6] ∧ bif !x_4 then K (Value.bool
 false) w' else bif !decide (x_6 = (0 : Int)) then K (Value.bool false) w' else ∀ (g_1 : Nat) (w'_2 : World), Fresh w' g_1 w'_2 [Value.int IntKind.u8 x] 5 → CallsV Try.prog 55
 #[Value.pointer x_2, Value.int IntKind.u8 (1 : Int), Value.slice (some (Addr.mk g_1 0 none)) 1 1] w'_2 fun (v : Value) (w' : World) => ∃ (x_7 : Bool), v = Value.bool x_7 ∧ CallsV Try.prog
 55 #[Value.pointer x_5, Value.int IntKind.u8 (3 : Int), Value.slice (some (Addr.mk g_1 0 none)) 1 1] w' fun (v : Value) (w' : World) => ∃ (x_8 : Bool), v = Value.bool x_8 ∧ ∃ (J : World →
 Prop), (∀ (w : World), J w → CallsV Try.prog 55 #[Value.pointer x_2, Value.int IntKind.u8 (2 : Int), Value.slice (some (Addr.mk g_1 0 none)) 1 1] w fun (v : Value) (w' : World) => ∃ (x_9
 : Bool), v = Value.bool x_9 ∧ CallsV Try.prog 55 #[Value.pointer x_5, Value.int IntKind.u8 (4 : Int), Value.slice (some (Addr.mk g_1 0 none)) 1 1] w' fun (v : Value) (w' : World) => ∃
 (x_10 : Bool), v = Value.bool x_10 ∧ ∃ (J : World → Prop), (∀ (w : World), J w → bif x_10 then CallsV Try.prog 56 #[Value.pointer x_5] w fun (v : Value) (w' : World) => ∃ (x_11 : Int), v = Value.int
 IntKind.i64 x_11 ∧ bif decide (x_11 < IntKind.wrap IntKind.i64 x) then ((0 : Int) ≤ x_11 ∧ x_11 < (↑256 : Int)) ∧ ∃ (x_12 : Bool), World.cell? w' (Addr.add (Addr.mk g 0 none)
 (Int.toNat x_11 * 1)) = some (Value.bool x_12) ∧ bif x_12 then ∃ (l : List Bool), List.length l = 256 ∧ allC (fun (ad : Addr) (v : Value) => World.cell? w' ad = some v) (Addr.mk g 0
 none) l ∧ CallsV Try.prog 58 #[boolsV l, Value.int IntKind.i64 (IntKind.wrap IntKind.i64 (x_11 + (1 : Int)))] w' fun (v : Value) (w' : World) => ∃ (x_13 : Int), v = Value.int IntKind.i64 x_13 ∧
 bif decide (IntKind.wrap IntKind.i64 x ≤ x_13) then CallsV Try.prog 59 #[] w' fun (v : Value) (w' : World) => ∃ (x : Bool), v = Value.bool x ∧ K (Value.bool x) w' else K (Value.bool
 false) w' else K (Value.bool false) w' else K (Value.bool false) w' else ∃ (l : List Bool), List.length l = 256 ∧ allC (fun (ad : Addr) (v : Value) => World.cell? w ad = some v)
 (Addr.mk g 0 none) l ∧ CallsV Try.prog 58 #[boolsV l, Value.int IntKind.i64 (0 : Int)] w fun (v : Value) (w' : World) => ∃ (x_11 : Int), v = Value.int IntKind.i64 x_11 ∧ bif decide
 (IntKind.wrap IntKind.i64 x ≤ x_11) then CallsV Try.prog 59 #[] w' fun (v : Value) (w' : World) => ∃ (x : Bool), v = Value.bool x ∧ K (Value.bool x) w' else K (Value.bool false) w') ∧ ∃ (S : World
 → Prop), S (World.drew w') ∧ ∃ (l : List Bool), List.length l = 256 ∧ allC (fun (ad : Addr) (v : Value) => ∀ (u : World), S u → World.cell? u ad = some v) (Addr.mk g 0 none) l ∧ CallsV
 Try.prog 58 #[boolsV l, Value.int IntKind.i64 (IntKind.wrap IntKind.i64 (IntKind.wrap IntKind.i64 x + (1 : Int)))] (World.drew w') fun (v : Value) (w' : World) => ∃ (x_11 : Int), v = Value.int
 IntKind.i64 x_11 ∧ bif !decide (x_9 = decide (x_11 < (256 : Int))) then K (Value.bool false) w' else bif x_9 then ∃ (S : World → Prop), S w' ∧ ∃ (l : List Bool), List.length l
 = 256 ∧ allC (fun (ad : Addr) (v : Value) => ∀ (u : World), S u → World.cell? u ad = some v) (Addr.mk g 0 none) l ∧ CallsV Try.prog 56 #[Value.pointer x_2] w' fun (v : Value) (w' : World)
 => ∃ (x_12 : Int), v = Value.int IntKind.i64 x_12 ∧ S w' ∧ CallsV Try.prog 58 #[boolsV l, Value.int IntKind.i64 (IntKind.wrap IntKind.i64 (IntKind.wrap IntKind.i64 x + (1 : Int)))] w' fun (v : Value)
 (w' : World) => ∃ (x : Int), v = Value.int IntKind.i64 x ∧ bif !decide (x_12 = x) then K (Value.bool false) w' else J w' else J w') ∧ ((0 : Int) ≤ x ∧ x < (↑256 : Int)) ∧ ∃ (x_9 : Bool),
 World.cell? w' (Addr.add (Addr.mk g 0 none) (Int.toNat x * 1)) = some (Value.bool x_9) ∧ bif x_9 then bif !x_7 then K (Value.bool false) w' else bif !x_8 then K (Value.bool
 false) w' else CallsV Try.prog 56 #[Value.pointer x_2] w' fun (v : Value) (w' : World) => ∃ (x_10 : Int), v = Value.int IntKind.i64 x_10 ∧ bif !decide (x_10 = IntKind.wrap IntKind.i64 x)
 then K (Value.bool false) w' else CallsV Try.prog 56 #[Value.pointer x_5] w' fun (v : Value) (w' : World) => ∃ (x_11 : Int), v = Value.int IntKind.i64 x_11 ∧ bif !decide (x_11 =
 IntKind.wrap IntKind.i64 x) then K (Value.bool false) w' else J w' else bif x_7 then bif x_8 then CallsV Try.prog 56 #[Value.pointer x_2] w' fun (v : Value) (w' : World) => ∃ (x_10 : Int), v =
 Value.int IntKind.i64 x_10 ∧ bif decide (x_10 ≤ IntKind.wrap IntKind.i64 x) then K (Value.bool false) w' else CallsV Try.prog 56 #[Value.pointer x_5] w' fun (v : Value) (w' : World) => ∃
 (x_11 : Int), v = Value.int IntKind.i64 x_11 ∧ bif decide (IntKind.wrap IntKind.i64 x ≤ x_11) then K (Value.bool false) w' else CallsV Try.prog 57 #[Value.pointer x_5] w' fun (v : Value)
 (w' : World) => ∃ (x : Bool), v = Value.bool x ∧ bif !x then K (Value.bool false) w' else CallsV Try.prog 56 #[Value.pointer x_5] w' fun (v : Value) (w' : World) => ∃ (x : Int), v = Value.int
 IntKind.i64 x ∧ CallsV Try.prog 56 #[Value.pointer x_2] w' fun (v : Value) (w' : World) => ∃ (x_12 : Int), v = Value.int IntKind.i64 x_12 ∧ bif !decide (x = x_12) then K (Value.bool
 false) w' else J w' else J w' else J w'
theorem cardindexlaw06_CursorSeeks.calls (ok : Okay Try.prog) {keys_A : Option Addr} {keys_n : Nat} {keys_c : Nat} {x : Int} {w : World} {K : Value → World → Prop} (h : cardindexlaw06_CursorSeeks.W keys_A keys_n keys_c x w K) : CallsV Try.prog 10 #[.slice keys_A keys_n keys_c, .int .u8 x] w K :=
  fnW_calls ok Try.func10 (an := (.named (.seq .auto (.seq .auto (.seq .auto (.seq .auto (.seq .auto (.seq .auto (.join [] .auto (.seq .auto (.join [] .auto .auto))))))))))) (args := [.slice keys_A keys_n keys_c, .int .u8 x]) (Eq.mp (by kernel_rfl) h)
noncomputable def cardindexlaw06_CursorWalks.W : Option Addr → Nat → Nat → Option Addr → Nat → Nat → World → (Value → World → Prop) → Prop := fun (keys_A : Option Addr) (keys_n keys_c : Nat) (between_A
 : Option Addr) (between_n between_c : Nat) (w : World) (K : Value → World → Prop) => CallsV Try.prog 53 #[Value.slice keys_A keys_n keys_c] w fun (v : Value) (w' : World) => ∃ (x x_1 : Option Addr)
 (x_2 : Value) (x_3 : Bool), v = Value.tuple #[Value.pointer x, Value.pointer x_1, x_2, Value.bool x_3] ∧ ∀ (g : Nat) (w'_1 : World), Fresh w' g w'_1 (List.map Value.bool (List.replicate 256
 false)) 90 → ∃ (l : List Bool), (x_2 = boolsV l ∧ List.length l = 256) ∧ stOK (Addr.mk g 0 none) 0 (List.map Value.bool l) w'_1 ∧ ∀ (w' : World), w' = setAll (Addr.mk g 0 none) 0
 (List.map Value.bool l) w'_1 → bif !x_3 then K (Value.bool false) w' else CallsV Try.prog 61 #[Value.pointer x_1] w' fun (v : Value) (w' : World) => ∃ (x_4 : Bool), v = Value.bool x_4 ∧ ∃ (I : Int
 → Int → Bool → World → Prop) (μ : Int → Int → Bool → World → Nat), I (0 : Int) (-1 : Int) x_4 w' ∧ ∀ (x_5 x_6 : Int) (x_7 : Bool) (w : World), I x_5 x_6 x_7 w → bif x_7 then ∃ (J : Int → Int → World →
 Prop), (∀ (x x_8 : Int) (w_1 : World), J x x_8 w_1 → CallsV Try.prog 57 #[Value.pointer x_1] w_1 fun (v : Value) (w' : World) => ∃ (x_9 : Bool), v = Value.bool x_9 ∧ I x x_8 x_9 w' ∧ μ x x_8 x_9 w' < μ
 x_5 x_6 x_7 w) ∧ ∃ (S : World → Prop), S (World.drew w) ∧ ∃ (l : List Bool), List.length l = 256 ∧ allC (fun (ad : Addr) (v : Value) => ∀ (u : World), S u → World.cell? u ad = some v) (Addr.mk g
 0 none) l ∧ CallsV Try.prog 56 #[Value.pointer x_1] (World.drew w) fun (v : Value) (w' : World) => ∃ (x_8 : Int), v = Value.int IntKind.i64 x_8 ∧ S w' ∧ CallsV Try.prog 58 #[boolsV l, Value.int
 IntKind.i64 (IntKind.wrap IntKind.i64 (x_6 + (1 : Int)))] w' fun (v : Value) (w' : World) => ∃ (x_9 : Int), v = Value.int IntKind.i64 x_9 ∧ bif !decide (x_8 = x_9) then K (Value.bool
 false) w' else CallsV Try.prog 56 #[Value.pointer x_1] w' fun (v : Value) (w' : World) => ∃ (x_10 : Int), v = Value.int IntKind.i64 x_10 ∧ ∃ (J_1 : World → Prop), (∀ (w : World), J_1 w → bif
 decide ((300 : Int) < IntKind.wrap IntKind.i64 (x_5 + (1 : Int))) then K (Value.bool false) w else J (IntKind.wrap IntKind.i64 (x_5 + (1 : Int))) x_10 w) ∧ bif decide (x_5 <
 (↑between_n : Int)) then bif decide (x_5 < (300 : Int)) then ∃ (ad : Addr), between_A = some ad ∧ ((0 : Int) ≤ x_5 ∧ x_5 < (↑between_n : Int)) ∧ ∃ (x_11 : Int), World.cell? w'
 (Addr.add ad (Int.toNat x_5 * 1)) = some (Value.int IntKind.u16 x_11) ∧ (0 : Int) ≤ (1 : Int) ∧ ∃ (ad : Addr), between_A = some ad ∧ ((0 : Int) ≤ x_5 ∧ x_5 < (↑between_n : Int)) ∧ ∃ (x_12
 : Int), World.cell? w' (Addr.add ad (Int.toNat x_5 * 1)) = some (Value.int IntKind.u16 x_12) ∧ (2 : Int) ≠ (0 : Int) ∧ bif decide (Int.tmod x_12 (2 : Int) = (0 : Int)) then ∀ (g_1 :
 Nat) (w'_2 : World), Fresh w' g_1 w'_2 [Value.int IntKind.u8 (IntKind.wrap IntKind.u8 (Int.fdiv x_11 ((2 : Int) ^ Min.min (Int.toNat (1 : Int)) 16)))] 5 → CallsV Try.prog 29 #[Value.pointer x,
 Value.int IntKind.i64 (1 : Int), Value.slice (some (Addr.mk g_1 0 none)) 1 1, Value.slice none 0 0] w'_2 fun (v : Value) (w' : World) => ∃ (x : Bool) (x_13 : Int), v = Value.tuple
 #[Value.bool x, Value.int IntKind.i64 x_13] ∧ ((0 : Int) ≤ IntKind.wrap IntKind.u8 (Int.fdiv x_11 ((2 : Int) ^ Min.min (Int.toNat (1 : Int)) 16)) ∧ IntKind.wrap IntKind.u8 (Int.fdiv x_11 ((2 : Int) ^
 Min.min (Int.toNat (1 : Int)) 16)) < (↑256 : Int)) ∧ stOK (Addr.add (Addr.mk g 0 none) (Int.toNat (IntKind.wrap IntKind.u8 (Int.fdiv x_11 ((2 : Int) ^ Min.min (Int.toNat (1 : Int)) 16))) * 1)) 0
 [Value.bool true] w' ∧ ∀ (w'_3 : World), w'_3 = setAll (Addr.add (Addr.mk g 0 none) (Int.toNat (IntKind.wrap IntKind.u8 (Int.fdiv x_11 ((2 : Int) ^ Min.min (Int.toNat (1 : Int)) 16))) * 1))
 0 [Value.bool true] w' → J_1 w'_3 else ∀ (g_1 : Nat) (w'_2 : World), Fresh w' g_1 w'_2 [Value.int IntKind.u8 (IntKind.wrap IntKind.u8 (Int.fdiv x_11 ((2 : Int) ^ Min.min (Int.toNat (1 : Int))
 16)))] 5 → CallsV Try.prog 40 #[Value.pointer x, Value.int IntKind.i64 (1 : Int), Value.slice (some (Addr.mk g_1 0 none)) 1 1] w'_2 fun (v : Value) (w' : World) => ∃ (x : Bool) (x_13 :
 Int), v = Value.tuple #[Value.bool x, Value.int IntKind.i64 x_13] ∧ ((0 : Int) ≤ IntKind.wrap IntKind.u8 (Int.fdiv x_11 ((2 : Int) ^ Min.min (Int.toNat (1 : Int)) 16)) ∧ IntKind.wrap IntKind.u8
 (Int.fdiv x_11 ((2 : Int) ^ Min.min (Int.toNat (1 : Int)) 16)) < (↑256 : Int)) ∧ stOK (Addr.add (Addr.mk g 0 none) (Int.toNat (IntKind.wrap IntKind.u8 (Int.fdiv x_11 ((2 : Int) ^ Min.min
 (Int.toNat (1 : Int)) 16))) * 1)) 0 [Value.bool false] w' ∧ ∀ (w'_3 : World), w'_3 = setAll (Addr.add (Addr.mk g 0 none) (Int.toNat (IntKind.wrap IntKind.u8 (Int.fdiv x_11 ((2 : Int) ^
 Min.min (Int.toNat (1 : Int)) 16))) * 1)) 0 [Value.bool false] w' → J_1 w'_3 else J_1 w' else J_1 w' else ∃ (l : List Bool), List.length l = 256 ∧ allC (fun (ad : Addr) (v : Value) => World.cell?
 w ad = some v) (Addr.mk g 0 none) l ∧ CallsV Try.prog 58 #[boolsV l, Value.int IntKind.i64 (IntKind.wrap IntKind.i64 (x_6 + (1 : Int)))] w fun (v : Value) (w' : World) => ∃ (x : Int), v =
 Value.int IntKind.i64 x ∧ bif !decide (x = (256 : Int)) then K (Value.bool false) w' else CallsV Try.prog 62 #[Value.pointer x_1] w' fun (v : Value) (w' : World) => ∃ (x : Bool), v =
 Value.bool x ∧ ∃ (I : Int → Bool → World → Prop) (μ : Int → Bool → World → Nat), I (256 : Int) x w' ∧ ∀ (x : Int) (x_8 : Bool) (w : World), I x x_8 w → bif x_8 then CallsV Try.prog 56 #[Value.pointer
 x_1] w fun (v : Value) (w' : World) => ∃ (x_9 : Int), v = Value.int IntKind.i64 x_9 ∧ bif decide (x_9 < (0 : Int)) then K (Value.bool false) w' else bif decide (x ≤ x_9) then K
 (Value.bool false) w' else ∃ (l : List Bool), List.length l = 256 ∧ allC (fun (ad : Addr) (v : Value) => World.cell? w' ad = some v) (Addr.mk g 0 none) l ∧ CallsV Try.prog 58
 #[boolsV l, Value.int IntKind.i64 (IntKind.wrap IntKind.i64 (x_9 + (1 : Int)))] w' fun (v : Value) (w' : World) => ∃ (x_10 : Int), v = Value.int IntKind.i64 x_10 ∧ bif !decide (x_10 = x) then
 K (Value.bool false) w' else ((0 : Int) ≤ x_9 ∧ x_9 < (↑256 : Int)) ∧ ∃ (x_11 : Bool), World.cell? w' (Addr.add (Addr.mk g 0 none) (Int.toNat x_9 * 1)) = some (Value.bool x_11) ∧ bif
 !x_11 then K (Value.bool false) w' else CallsV Try.prog 63 #[Value.pointer x_1] w' fun (v : Value) (w' : World) => ∃ (x_12 : Bool), v = Value.bool x_12 ∧ I x_9 x_12 w' ∧ μ x_9 x_12 w' < μ x x_8 w
 else ∃ (l : List Bool), List.length l = 256 ∧ allC (fun (ad : Addr) (v : Value) => World.cell? w ad = some v) (Addr.mk g 0 none) l ∧ CallsV Try.prog 58 #[boolsV l, Value.int IntKind.i64
 (0 : Int)] w fun (v : Value) (w' : World) => ∃ (x_9 : Int), v = Value.int IntKind.i64 x_9 ∧ bif decide (x_9 = x) then CallsV Try.prog 59 #[] w' fun (v : Value) (w' : World) => ∃ (x : Bool), v
 = Value.bool x ∧ K (Value.bool x) w' else K (Value.bool false) w'
theorem cardindexlaw06_CursorWalks.calls (ok : Okay Try.prog) {keys_A : Option Addr} {keys_n : Nat} {keys_c : Nat} {between_A : Option Addr} {between_n : Nat} {between_c : Nat} {w : World} {K : Value → World → Prop} (h : cardindexlaw06_CursorWalks.W keys_A keys_n keys_c between_A between_n between_c w K) : CallsV Try.prog 12 #[.slice keys_A keys_n keys_c, .slice between_A between_n between_c] w K :=
  fnW_calls ok Try.func12 (an := (.named (.seq .auto (.seq .auto (.seq .auto (.seq .auto (.seq .auto (.seq (.seq .auto (.block (.loop [(9, .one (.int .i64)), (10, .one (.int .i64)), (11, .one .bool)] (.seq .auto (.join [(9, .one (.int .i64)), (10, .one (.int .i64))] (.block (.seq .auto (.seq .auto (.join [] .auto .auto)))) .auto))))) (.seq .auto (.seq .auto (.seq (.seq .auto (.block (.loop [(10, .one (.int .i64)), (13, .one .bool)] .auto))) .auto))))))))))) (args := [.slice keys_A keys_n keys_c, .slice between_A between_n between_c]) (Eq.mp (by kernel_rfl) h)
noncomputable def cardindexlaw06_CursorApart.W : Option Addr → Nat → Nat → Option Addr → Nat → Nat → World → (Value → World → Prop) → Prop := fun (keys_A : Option Addr) (keys_n keys_c : Nat) (ops_A :
 Option Addr) (ops_n ops_c : Nat) (w : World) (K : Value → World → Prop) => CallsV Try.prog 53 #[Value.slice keys_A keys_n keys_c] w fun (v : Value) (w' : World) => ∃ (x x_1 : Option Addr) (x_2 : Value)
 (x_3 : Bool), v = Value.tuple #[Value.pointer x, Value.pointer x_1, x_2, Value.bool x_3] ∧ ∀ (g : Nat) (w'_1 : World), Fresh w' g w'_1 (List.map Value.bool (List.replicate 256 false)) 90 → ∃ (l :
 List Bool), (x_2 = boolsV l ∧ List.length l = 256) ∧ stOK (Addr.mk g 0 none) 0 (List.map Value.bool l) w'_1 ∧ ∀ (w' : World), w' = setAll (Addr.mk g 0 none) 0 (List.map Value.bool l) w'_1
 → CallsV Try.prog 54 #[Value.pointer x, Value.int IntKind.i64 (1 : Int)] w' fun (v : Value) (w' : World) => ∃ (x_4 : Option Addr) (x_5 : Int), v = Value.tuple #[Value.pointer x_4, Value.int IntKind.i64
 x_5] ∧ bif !x_3 then K (Value.bool false) w' else bif !decide (x_5 = (0 : Int)) then K (Value.bool false) w' else bif decide ((↑keys_n : Int) = (0 : Int)) then CallsV
 Try.prog 59 #[] w' fun (v : Value) (w' : World) => ∃ (x : Bool), v = Value.bool x ∧ K (Value.bool x) w' else ((0 : Int) ≤ (1 : Int) ∧ (1 : Int) ≤ (↑keys_c : Int)) ∧ CallsV Try.prog 55 #[Value.pointer
 x_4, Value.int IntKind.u8 (1 : Int), Value.slice (cutAt keys_A keys_c 0 1) (Int.toNat (1 : Int) - 0) (keys_c - 0)] w' fun (v : Value) (w' : World) => ∃ (x_6 : Bool), v = Value.bool x_6 ∧ CallsV
 Try.prog 56 #[Value.pointer x_4] w' fun (v : Value) (w' : World) => ∃ (x_7 : Int), v = Value.int IntKind.i64 x_7 ∧ CallsV Try.prog 34 #[Value.pointer x, Value.int IntKind.i64 (1 : Int)] w' fun (v :
 Value) (w' : World) => ∃ (x_8 : Int), v = Value.int IntKind.i64 x_8 ∧ ∃ (I : Int → World → Prop) (μ : Int → World → Nat), I (0 : Int) w' ∧ ∀ (x_9 : Int) (w : World), I x_9 w → bif decide (x_9
 < (↑ops_n : Int)) then bif decide (x_9 < (60 : Int)) then ∃ (J : World → Prop), (∀ (w_1 : World), J w_1 → I (IntKind.wrap IntKind.i64 (x_9 + (1 : Int))) w_1 ∧ μ (IntKind.wrap IntKind.i64 (x_9
 + (1 : Int))) w_1 < μ x_9 w) ∧ ∃ (ad : Addr), ops_A = some ad ∧ ((0 : Int) ≤ x_9 ∧ x_9 < (↑ops_n : Int)) ∧ ∃ (x_10 : Option Addr) (x_11 x_12 : Nat), World.cell? w (Addr.add (Addr.add ad
 (Int.toNat x_9 * 6)) 4) = some (Value.slice x_10 x_11 x_12) ∧ bif decide ((100 : Int) < (↑x_11 : Int)) then J w else ∃ (J_1 : World → Prop), (∀ (w : World), J_1 w → CallsV Try.prog 65
 #[Value.pointer x_1] w fun (v : Value) (w' : World) => ∃ (x_13 : Option Addr) (x_14 x_15 : Nat), v = Value.slice x_13 x_14 x_15 ∧ CallsV Try.prog 66 #[Value.pointer x_1] w' fun (v : Value) (w' : World)
 => ∃ (x_16 : Option Addr) (x_17 x_18 : Nat), v = Value.slice x_16 x_17 x_18 ∧ ∃ (I : Int → World → Prop) (μ : Int → World → Nat), I (0 : Int) w' ∧ ∀ (x_19 : Int) (w : World), I x_19 w → bif
 decide (x_19 < (↑x_14 : Int)) then ∃ (ad : Addr), x_13 = some ad ∧ ((0 : Int) ≤ x_19 ∧ x_19 < (↑x_14 : Int)) ∧ ∃ (x : Int), World.cell? w (Addr.add ad (Int.toNat x_19 * 1)) =
 some (Value.int IntKind.u8 x) ∧ ∃ (ad : Addr), x_13 = some ad ∧ ((0 : Int) ≤ x_19 ∧ x_19 < (↑x_14 : Int)) ∧ stOK (Addr.add ad (Int.toNat x_19 * 1)) 0 [Value.int IntKind.u8 (IntKind.wrap
 IntKind.u8 (↑(BitVec.toNat (BitVec.ofInt 8 x ^^^ BitVec.ofInt 8 (255 : Int))) : Int))] w ∧ ∀ (w' : World), w' = setAll (Addr.add ad (Int.toNat x_19 * 1)) 0 [Value.int IntKind.u8 (IntKind.wrap
 IntKind.u8 (↑(BitVec.toNat (BitVec.ofInt 8 x ^^^ BitVec.ofInt 8 (255 : Int))) : Int))] w → I (IntKind.wrap IntKind.i64 (x_19 + (1 : Int))) w' ∧ μ (IntKind.wrap IntKind.i64 (x_19 + (1 : Int))) w' < μ
 x_19 w else ∃ (I : Int → World → Prop) (μ : Int → World → Nat), I (0 : Int) w ∧ ∀ (x_20 : Int) (w : World), I x_20 w → bif decide (x_20 < (↑x_17 : Int)) then ∃ (ad : Addr), x_16 = some
 ad ∧ ((0 : Int) ≤ x_20 ∧ x_20 < (↑x_17 : Int)) ∧ ∃ (x : Int), World.cell? w (Addr.add ad (Int.toNat x_20 * 1)) = some (Value.int IntKind.u8 x) ∧ ∃ (ad : Addr), x_16 = some ad ∧ ((0 : Int)
 ≤ x_20 ∧ x_20 < (↑x_17 : Int)) ∧ stOK (Addr.add ad (Int.toNat x_20 * 1)) 0 [Value.int IntKind.u8 (IntKind.wrap IntKind.u8 (↑(BitVec.toNat (BitVec.ofInt 8 x ^^^ BitVec.ofInt 8 (255 : Int))) : Int))] w ∧
 ∀ (w' : World), w' = setAll (Addr.add ad (Int.toNat x_20 * 1)) 0 [Value.int IntKind.u8 (IntKind.wrap IntKind.u8 (↑(BitVec.toNat (BitVec.ofInt 8 x ^^^ BitVec.ofInt 8 (255 : Int))) : Int))] w → I
 (IntKind.wrap IntKind.i64 (x_20 + (1 : Int))) w' ∧ μ (IntKind.wrap IntKind.i64 (x_20 + (1 : Int))) w' < μ x_20 w else CallsV Try.prog 56 #[Value.pointer x_4] (World.drew w) fun (v : Value) (w' : World)
 => ∃ (x_21 : Int), v = Value.int IntKind.i64 x_21 ∧ bif !decide (x_21 = x_7) then K (Value.bool false) w' else CallsV Try.prog 34 #[Value.pointer x, Value.int IntKind.i64 (1 : Int)] w'
 fun (v : Value) (w' : World) => ∃ (x : Int), v = Value.int IntKind.i64 x ∧ bif !decide (x = x_8) then K (Value.bool false) w' else CallsV Try.prog 64 #[Value.pointer x_1] w' fun (v :
 Value) (w' : World) => ∃ (x : Bool), v = Value.bool x ∧ bif x then bif !decide ((↑x_14 : Int) = (1 : Int)) then K (Value.bool false) w' else ∃ (ad : Addr), x_13 = some ad ∧ ((0 :
 Int) ≤ (0 : Int) ∧ (0 : Int) < (↑x_14 : Int)) ∧ ∃ (S : World → Prop), S w' ∧ ∃ (x : Int), (∀ (u : World), S u → World.cell? u (Addr.add ad (Int.toNat (0 : Int) * 1)) = some (Value.int IntKind.u8
 x)) ∧ CallsV Try.prog 56 #[Value.pointer x_1] w' fun (v : Value) (w' : World) => ∃ (x_22 : Int), v = Value.int IntKind.i64 x_22 ∧ S w' ∧ bif !decide (x_22 = IntKind.wrap IntKind.i64
 (IntKind.wrap IntKind.u8 (↑(BitVec.toNat (BitVec.ofInt 8 x ^^^ BitVec.ofInt 8 (255 : Int))) : Int))) then K (Value.bool false) w' else CallsV Try.prog 66 #[Value.pointer x_1] w' fun (v : Value)
 (w' : World) => ∃ (x : Option Addr) (x_23 x_24 : Nat), v = Value.slice x x_23 x_24 ∧ S w' ∧ CallsV Try.prog 65 #[Value.pointer x_1] w' fun (v : Value) (w' : World) => ∃ (x_25 : Option Addr) (x_26 x_27
 : Nat), v = Value.slice x_25 x_26 x_27 ∧ S w' ∧ CallsV Try.prog 68 #[Value.slice x x_23 x_24, Value.slice x_25 x_26 x_27] w' fun (v : Value) (w' : World) => ∃ (x : Bool), v = Value.bool x ∧ S w' ∧ bif
 !x then K (Value.bool false) w' else J w' else J w') ∧ ∃ (ad : Addr), ops_A = some ad ∧ ((0 : Int) ≤ x_9 ∧ x_9 < (↑ops_n : Int)) ∧ ∃ (x : Int), World.cell? w (Addr.add (Addr.add ad
 (Int.toNat x_9 * 6)) 0) = some (Value.int IntKind.i64 x) ∧ bif decide (x = (1 : Int)) then CallsV Try.prog 61 #[Value.pointer x_1] w fun (v : Value) (w' : World) => ∃ (x : Bool), v =
 Value.bool x ∧ J_1 w' else bif decide (x = (2 : Int)) then CallsV Try.prog 62 #[Value.pointer x_1] w fun (v : Value) (w' : World) => ∃ (x : Bool), v = Value.bool x ∧ J_1 w' else ∃ (J : Bool →
 World → Prop), (∀ (x_13 : Bool) (w : World), J x_13 w → bif x_13 then CallsV Try.prog 57 #[Value.pointer x_1] w fun (v : Value) (w' : World) => ∃ (x : Bool), v = Value.bool x ∧ J_1 w' else ∃ (J : Bool
 → World → Prop), (∀ (x : Bool) (w : World), J x w → bif x then CallsV Try.prog 63 #[Value.pointer x_1] w fun (v : Value) (w' : World) => ∃ (x : Bool), v = Value.bool x ∧ J_1 w' else ∃ (ad : Addr),
 ops_A = some ad ∧ ((0 : Int) ≤ x_9 ∧ x_9 < (↑ops_n : Int)) ∧ ∃ (S : World → Prop), S (World.drew w) ∧ ∃ (x : Int), (∀ (u : World), S u → World.cell? u (Addr.add (Addr.add ad (Int.toNat x_9 * 6))
 3) = some (Value.int IntKind.u8 x)) ∧ ∃ (ad : Addr), ops_A = some ad ∧ ((0 : Int) ≤ x_9 ∧ x_9 < (↑ops_n : Int)) ∧ ∃ (x_14 : Option Addr) (x_15 x_16 : Nat), (∀ (u : World), S u →
 World.cell? u (Addr.add (Addr.add ad (Int.toNat x_9 * 6)) 4) = some (Value.slice x_14 x_15 x_16)) ∧ CallsV Try.prog 55 #[Value.pointer x_1, Value.int IntKind.u8 x, Value.slice x_14 x_15 x_16]
 (World.drew w) fun (v : Value) (w' : World) => ∃ (x : Bool), v = Value.bool x ∧ J_1 w') ∧ bif decide (x = (5 : Int)) then J (decide (x = (5 : Int))) w else J (decide (x =
 (6 : Int))) w) ∧ bif decide (x = (3 : Int)) then J (decide (x = (3 : Int))) w else J (decide (x = (4 : Int))) w else CallsV Try.prog 59 #[] w fun (v : Value) (w' : World)
 => ∃ (x : Bool), v = Value.bool x ∧ K (Value.bool x) w' else CallsV Try.prog 59 #[] w fun (v : Value) (w' : World) => ∃ (x : Bool), v = Value.bool x ∧ K (Value.bool x) w'
theorem cardindexlaw06_CursorApart.calls (ok : Okay Try.prog) {keys_A : Option Addr} {keys_n : Nat} {keys_c : Nat} {ops_A : Option Addr} {ops_n : Nat} {ops_c : Nat} {w : World} {K : Value → World → Prop} (h : cardindexlaw06_CursorApart.W keys_A keys_n keys_c ops_A ops_n ops_c w K) : CallsV Try.prog 14 #[.slice keys_A keys_n keys_c, .slice ops_A ops_n ops_c] w K :=
  fnW_calls ok Try.func14 (an := (.named (.seq .auto (.seq .auto (.seq .auto (.seq .auto (.seq .auto (.seq .auto (.seq .auto (.seq (.seq .auto (.block (.loop [(13, .one (.int .i64))] (.seq .auto (.join [] (.block (.seq .auto (.join [] (.seq .auto (.block (.seq .auto (.cond .auto (.seq .auto (.cond .auto (.join [(90, .one .bool)] .auto (.cond .auto (.join [(95, .one .bool)] .auto .auto))))))))) (.seq .auto (.seq (.seq .auto (.block (.loop [(106, .one (.int .i64))] .auto))) (.seq (.seq .auto (.block (.loop [(118, .one (.int .i64))] .auto))) .auto)))))) .auto))))) .auto)))))))))) (args := [.slice keys_A keys_n keys_c, .slice ops_A ops_n ops_c]) (Eq.mp (by kernel_rfl) h)
end Go.Proofs.Ythfagbfllheneaa
set_option linter.unusedVariables false
set_option linter.unusedSimpArgs false
namespace Go.Proofs.Ythfagbfllheneaa
open Go Go.Sx T4
structure Wk (w u : World) (T C : Nat → Prop) (s gt : Nat) (A : Ar) (D : List Tr) (es : Es) (l : List Bool) : Prop where
  G : Gs w u T C s A D es
  hT : HasT es l
  tab : TabB u gt l
  cg : C gt
section
variable {w u : World} {T C : Nat → Prop} {s gt g : Nat} {A : Ar} {D : List Tr} {es : Es} {l : List Bool} {k : Option Key}
theorem Gs.add (H : Gs w u T C s A D es) (h1 : w.heap.size ≤ gt) (h2 : gt < u.heap.size) (h3 : ¬ T gt) : Gs w u T (fun k => C k ∨ k = gt) s A D es :=
  ⟨H.sto, H.e, H.n, fun k hk => hk.elim (H.cT k) fun e => e ▸ h3, fun k hk => hk.elim (H.cw k) fun e => e ▸ h1, fun k hk => hk.elim (H.cl k) fun e => e ▸ h2, H.fo, H.m⟩
theorem Wk.ext (H : Wk w u T C s gt A D es l) {u' : World} (e : Ext u u') : Wk w u' T C s gt A D es l := ⟨H.G.ext e, H.hT, H.tab.ext e, H.cg⟩
theorem Wk.moved (H : Wk w u T C s gt A D es l) (hg : gt ≠ g) {u' : World} (h' : Gs w u' T C s A D es) (f : Fr (fun k => k = g) u u') : Wk w u' T C s gt A D es l :=
  ⟨h', H.hT, H.tab.keep f hg, H.cg⟩
theorem Wk.set (H : Wk w u T C s gt A D es l) {u1 : World} {T' : Nat → Prop} {A' : Ar} {D' : List Tr} {es' : Es} (h' : Gs w u1 T' C s A' D' es') (c : Tch T u T' u1) {b : UInt8} {x : Bool} (hT' : HasT es' (l.set b.toNat x)) :
    stOK ((⟨gt, 0, none⟩ : Addr).add (b.toNat * 1)) 0 [.bool x] u1 ∧ ∀ u2, u2 = setAll ((⟨gt, 0, none⟩ : Addr).add (b.toNat * 1)) 0 [.bool x] u1 → Wk w u2 T' C s gt A' D' es' (l.set b.toNat x) ∧ Fr (fun k => k = gt) u1 u2 := by
  obtain ⟨y, z⟩ := c.blk H.tab (H.G.cT gt H.cg)
  obtain ⟨p1, p2⟩ := TabB.set (l := l) y (j := b.toNat) (by rw [H.hT.len]; exact u8_lt b) x
  refine ⟨p1, fun u2 hu2 => ?_⟩
  obtain ⟨q1, q2⟩ := p2 u2 hu2
  exact ⟨⟨h'.moved H.cg q2, hT', q1, H.cg⟩, q2⟩
end
def Pos (l : List Bool) (f : Nat) (more : Bool) (k : Option Key) : Prop := (more = false ∧ Beh l f 256) ∨ (more = true ∧ ∃ b : UInt8, k = some [b] ∧ Beh l f b.toNat)
def PosB (l : List Bool) (t : Nat) (more : Bool) (k : Option Key) : Prop := (more = false ∧ ∀ j, j < t → l.getD j false = false) ∨ (more = true ∧ ∃ b : UInt8, k = some [b] ∧ b.toNat < t ∧ l.getD b.toNat false = true ∧ ∀ j, b.toNat < j → j < t → l.getD j false = false)
end Go.Proofs.Ythfagbfllheneaa
set_option linter.unusedVariables false
set_option linter.unusedSimpArgs false
namespace Go.Proofs.Ythfagbfllheneaa
open Go Go.Sx T4
theorem Pos.not {l : List Bool} {f : Nat} {more : Bool} {k : Option Key} (h : Pos l f more k) (hm : more = false) : Beh l f 256 := by
  rcases h with ⟨_, h⟩ | ⟨h, _⟩
  · exact h
  · rw [hm] at h; cases h
theorem PosB.not {l : List Bool} {t : Nat} {more : Bool} {k : Option Key} (h : PosB l t more k) (hm : more = false) : ∀ j, j < t → l.getD j false = false := by
  rcases h with ⟨_, h⟩ | ⟨h, _⟩
  · exact h
  · rw [hm] at h; cases h
abbrev C3 (g gt g2 : Nat) : Nat → Prop := fun k => (k = g ∨ k = gt) ∨ k = g2
end Go.Proofs.Ythfagbfllheneaa
