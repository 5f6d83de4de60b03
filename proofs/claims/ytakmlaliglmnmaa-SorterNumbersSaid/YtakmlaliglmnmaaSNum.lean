/- 'SorterNumbers' answers true: the fixed examples, what may not be, the limits. -/
import Derived.Test.YtakmlaliglmnmaaNestsN
import Derived.Test.YtakmlaliglmnmaaSNumPure
import Derived.Test.YtakmlaliglmnmaaSxMake
set_option linter.unusedVariables false
set_option linter.unusedSimpArgs false
namespace Go.Proofs.Ytakmlaliglmnmaa
open Go Go.Sx R1 S1 Go.Lib
theorem New_bad {w : World} {A : Option Addr} {c n : Nat} (hn : 200 < n) (dist : Bool) : CallsV Try.prog 14 #[.slice A n c, .bool dist] w fun r w' => r = .tuple #[.pointer none, .int .i64 2] ∧ w' = w := by
  refine sorter_New.calls okay ?_
  unfold sorter_New.W
  exact brd (fun _ => ⟨rfl, rfl⟩) (fun h => by omega)
theorem New_n {w : World} {A : Option Addr} {c n : Nat} {ds : List Bool} (hn : n = ds.length) (h : Imm Kd.bool NoB w A ds) (hl : ds.length ≤ 200) (dist : Bool) :
    CallsV Try.prog 14 #[.slice A n c, .bool dist] w fun r w' => ∃ g D dc, r = .tuple #[.pointer (some ⟨g, 0, none⟩), .int .i64 0] ∧ Sor (fun k => w.heap.size ≤ k) w' g none 0 D dc ⟨ds, dist, [], false, 0⟩ ∧ Ext w w' := by subst hn; exact New_spec h hl dist
/-- one call of a sorter in blocks of its own -/
theorem Sor.step {R : Nat → Prop} {u u' : World} {g b : Nat} {L : Option Addr} {lc : Nat} {D : Option Addr} {dc : Nat} {st st' : St} (hb : ∀ k, R k → b ≤ k ∧ k < u.heap.size) (hbu : b ≤ u.heap.size) (hs : Sor R u g L lc D dc st) (m : Moved (Grow R u) u u' g L D dc st') :
    ∃ R' L' lc', (∀ k, R' k → b ≤ k ∧ k < u'.heap.size) ∧ Sor R' u' g L' lc' D dc st' ∧ Fr R u u' ∧ ∀ k, k < u.heap.size → R' k → R k := by
  obtain ⟨L', lc', h', hf, hL⟩ := m
  have hsub : ∀ k, (k = g ∨ ownB L k) → R k := fun k hk => by
    rcases hk with rfl | hk
    · exact hs.rg
    · exact hs.rL k hk
  refine ⟨fun k => Grow R u k ∧ k < u'.heap.size, L', lc', fun k hk => ⟨?_, hk.2⟩, h'.sub fun k hk hr => ⟨hr, hk⟩, hf.mono fun k _ hk => hsub k hk, fun k hk hr => ?_⟩
  · rcases hk.1 with hk1 | hk1
    · exact (hb k hk1).1
    · exact Nat.le_trans hbu hk1
  · rcases hr.1 with hk1 | hk1
    · exact hk1
    · omega
structure Cx where
  w : World
  bw : Nat
  b : Nat
  gw : Nat
  Dw : Option Addr
  dcw : Nat
  gs : Nat
  Ds : Option Addr
  dcs : Nat
  kk : Nat
/-- the two sorters, the key, and blocks beside them -/
structure SN (C : Cx) (O : Nat → Prop) (Wd : Prop) (u : World) (st : St) : Prop where
  h : ∃ R L lc, (∀ k, R k → C.b ≤ k ∧ k < u.heap.size) ∧ Sor R u C.gs L lc C.Ds C.dcs st ∧ Imm KV (fun k => R k ∨ O k) u (some ⟨C.kk, 0, none⟩) k1 ∧ ∀ k, O k → ¬ R k
  wide : Wd → Sor (fun k => C.bw ≤ k ∧ k < C.b) u C.gw none 0 C.Dw C.dcw wS
  O : ∀ k, O k → C.b ≤ k ∧ k < u.heap.size
  kl : C.b ≤ C.kk ∧ C.kk < u.heap.size
  ext : Ext C.w u
  sb : C.b ≤ u.heap.size
  wb : C.w.heap.size ≤ C.bw ∧ C.bw ≤ C.b
theorem SN.base {C : Cx} {O : Nat → Prop} {Wd : Prop} {u : World} {st : St} (h : SN C O Wd u st) {k : Nat} (hk : k < C.w.heap.size) : k < C.b := Nat.lt_of_lt_of_le hk (Nat.le_trans h.wb.1 h.wb.2)
theorem SN.go {C : Cx} {O : Nat → Prop} {Wd : Prop} {u u' : World} {st : St} (h : SN C O Wd u st) (e : Ext u u') : SN C O Wd u' st := by
  obtain ⟨R, L, lc, hb, hs, hk, hO⟩ := h.h
  exact ⟨⟨R, L, lc, fun k hr => ⟨(hb k hr).1, Nat.lt_of_lt_of_le (hb k hr).2 e.size⟩, hs.ext e, hk.ext KV_pos e, hO⟩, fun q => (h.wide q).ext e, fun k hk => ⟨(h.O k hk).1, Nat.lt_of_lt_of_le (h.O k hk).2 e.size⟩, ⟨h.kl.1, Nat.lt_of_lt_of_le h.kl.2 e.size⟩, h.ext.trans' e, Nat.le_trans h.sb e.size, h.wb⟩
theorem SN.key {C : Cx} {O : Nat → Prop} {Wd : Prop} {u : World} {st : St} (h : SN C O Wd u st) : Imm KV NoB u (some ⟨C.kk, 0, none⟩) k1 := by
  obtain ⟨R, L, lc, hb, hs, hk, hO⟩ := h.h
  exact hk.sub KV_pos fun _ _ h => h.elim
/-- other blocks beside -/
theorem SN.beside {C : Cx} {O O' : Nat → Prop} {Wd : Prop} {u : World} {st : St} (h : SN C O Wd u st) {u' : World} (e : Ext u u') (hO : ∀ k, O' k → u.heap.size ≤ k ∧ k < u'.heap.size) : SN C O' Wd u' st := by
  have h' := h.go e
  obtain ⟨R, L, lc, hb, hs, hk, hO1⟩ := h.h
  refine ⟨⟨R, L, lc, fun k hr => ⟨(hb k hr).1, Nat.lt_of_lt_of_le (hb k hr).2 e.size⟩, hs.ext e, ?_, fun k hk hr => ?_⟩, h'.wide, fun k hk => ⟨Nat.le_trans h.sb (hO k hk).1, (hO k hk).2⟩, h'.kl, h'.ext, h'.sb, h'.wb⟩
  · refine hk.keep KV_pos ⟨e.size, fun k hk1 hn => e.block k hk1 (fun h => h), fun k hk1 hr => ?_⟩
    rcases hr with hr | hr
    · exact .inl hr
    · exact absurd hk1 (Nat.not_lt.2 (hO k hr).1)
  · have := (hb k hr).2; have := (hO k hk).1; omega
/-- what lies beside is written -/
theorem SN.write {C : Cx} {O : Nat → Prop} {Wd : Prop} {u u' : World} {st : St} (h : SN C O Wd u st) (hf : Fr O u u') : SN C O Wd u' st := by
  obtain ⟨R, L, lc, hb, hs, hk, hO⟩ := h.h
  refine ⟨⟨R, L, lc, fun k hr => ⟨(hb k hr).1, Nat.lt_of_lt_of_le (hb k hr).2 hf.size⟩, hs.frame hf fun k _ => hO k, hk.keep KV_pos (hf.step (fun k _ h => .inr h) (fun k _ h => h)), hO⟩, fun q => (h.wide q).frame hf fun k _ hk hr => by have := (h.O k hk).1; omega, fun k hk => ⟨(h.O k hk).1, Nat.lt_of_lt_of_le (h.O k hk).2 hf.size⟩, ⟨h.kl.1, Nat.lt_of_lt_of_le h.kl.2 hf.size⟩, h.ext.trans hf (fun _ _ h => h) (fun k hk ho => by have := (h.O k ho).1; have := h.base hk; omega), Nat.le_trans h.sb hf.size, h.wb⟩
theorem SN.moved {C : Cx} {O : Nat → Prop} {Wd : Prop} {u u' : World} {st st' : St} (h : SN C O Wd u st) {R : Nat → Prop} {L : Option Addr} {lc : Nat} (hb : ∀ k, R k → C.b ≤ k ∧ k < u.heap.size) (hs : Sor R u C.gs L lc C.Ds C.dcs st) (hk : Imm KV (fun k => R k ∨ O k) u (some ⟨C.kk, 0, none⟩) k1) (hO : ∀ k, O k → ¬ R k)
    (m : Moved (Grow R u) u u' C.gs L C.Ds C.dcs st') : SN C O Wd u' st' := by
  obtain ⟨R', L', lc', hb', hs', hf, hsub⟩ := hs.step hb h.sb m
  refine ⟨⟨R', L', lc', hb', hs', hk.keep KV_pos (hf.step (fun k _ h => .inl h) (fun k hk1 h => h.imp (hsub k hk1) id)), fun k ho hr => hO k ho (hsub k (h.O k ho).2 hr)⟩, fun q => (h.wide q).frame hf fun k _ hr hw => by have := (hb k hr).1; omega, fun k hk => ⟨(h.O k hk).1, Nat.lt_of_lt_of_le (h.O k hk).2 hf.size⟩, ⟨h.kl.1, Nat.lt_of_lt_of_le h.kl.2 hf.size⟩, h.ext.trans hf (fun _ _ h => h) (fun k hk hr => by have := (hb k hr).1; have := h.base hk; omega), Nat.le_trans h.sb hf.size, h.wb⟩
theorem SN.add {C : Cx} {O : Nat → Prop} {Wd : Prop} {u : World} {st : St} (h : SN C O Wd u st) {KA RA : Option Addr} {kc rc n m : Nat} {key row : List V} (hn : n = key.length) (hm : m = row.length) (hK : Imm KV NoB u KA key) (hRow : Imm KV NoB u RA row) (gk : ∀ v ∈ key, good v) (gr : ∀ v ∈ row, good v) (lk : key.length ≤ 1000) (lr : row.length ≤ 1000) :
    CallsV Try.prog 18 #[.pointer (some ⟨C.gs, 0, none⟩), .slice KA n kc, .slice RA m rc] u fun r w' => r = .int .i64 (addE st key row) ∧ SN C O Wd w' (addS st key row) := by
  subst hn; subst hm
  obtain ⟨R, L, lc, hb, hs, hk, hO⟩ := h.h
  refine (Add_spec (growSor hs) (fun k hk => .inr hk) hK hRow gk gr (by simp only [maxLen]; omega) (by simp only [maxLen]; omega)).mono ?_
  rintro _ u' ⟨rfl, m⟩
  exact ⟨rfl, h.moved hb hs hk hO m⟩
theorem SN.addX {C : Cx} {O : Nat → Prop} {Wd : Prop} {u : World} {st st' : St} {x : Int} (h : SN C O Wd u st) {KA RA : Option Addr} {kc rc n m : Nat} {key row : List V} (hE : addE st key row = x) (hA : addS st key row = st') (hn : n = key.length) (hm : m = row.length) (hK : Imm KV NoB u KA key) (hRow : Imm KV NoB u RA row) (gk : ∀ v ∈ key, good v) (gr : ∀ v ∈ row, good v) (lk : key.length ≤ 1000) (lr : row.length ≤ 1000) :
    CallsV Try.prog 18 #[.pointer (some ⟨C.gs, 0, none⟩), .slice KA n kc, .slice RA m rc] u fun r w' => r = .int .i64 x ∧ SN C O Wd w' st' := by
  subst hE; subst hA
  exact h.add hn hm hK hRow gk gr lk lr
theorem SN.sort {C : Cx} {O : Nat → Prop} {Wd : Prop} {u : World} {st : St} (h : SN C O Wd u st) :
    CallsV Try.prog 20 #[.pointer (some ⟨C.gs, 0, none⟩)] u fun r w' => r = .int .i64 (if st.sorted then 70 else 0) ∧ SN C O Wd w' (sortS st) := by
  obtain ⟨R, L, lc, hb, hs, hk, hO⟩ := h.h
  refine (Sort_spec (growSor hs) (fun k hk => .inr hk)).mono ?_
  rintro _ u' ⟨rfl, m⟩
  exact ⟨rfl, h.moved hb hs hk hO m⟩
theorem SN.one {C : Cx} {O : Nat → Prop} {Wd : Prop} {u u' : World} {st st' : St} (h : SN C O Wd u st) {R : Nat → Prop} {L : Option Addr} {lc : Nat} (hb : ∀ k, R k → C.b ≤ k ∧ k < u.heap.size) (hs : Sor R u C.gs L lc C.Ds C.dcs st) (hk : Imm KV (fun k => R k ∨ O k) u (some ⟨C.kk, 0, none⟩) k1) (hO : ∀ k, O k → ¬ R k)
    (hs' : Sor R u' C.gs L lc C.Ds C.dcs st') (hf : Fr (fun k => k = C.gs) u u') : SN C O Wd u' st' := by
  refine ⟨⟨R, L, lc, fun k hr => ⟨(hb k hr).1, Nat.lt_of_lt_of_le (hb k hr).2 hf.size⟩, hs', hk.keep KV_pos (hf.step (fun k _ h => .inl (by rw [h]; exact hs.rg)) (fun k _ h => h)), hO⟩, fun q => (h.wide q).frame hf fun k _ hr hw => by rw [hr] at hw; have := (hb _ hs.rg).1; omega, fun k hk => ⟨(h.O k hk).1, Nat.lt_of_lt_of_le (h.O k hk).2 hf.size⟩, ⟨h.kl.1, Nat.lt_of_lt_of_le h.kl.2 hf.size⟩, h.ext.trans hf (fun _ _ h => h) (fun k hk hr => by rw [hr] at hk; have := (hb _ hs.rg).1; have := h.base hk; omega), Nat.le_trans h.sb hf.size, h.wb⟩
theorem SN.next {C : Cx} {O : Nat → Prop} {Wd : Prop} {u : World} {st : St} (h : SN C O Wd u st) :
    CallsV Try.prog 22 #[.pointer (some ⟨C.gs, 0, none⟩)] u fun r w' => ∃ A c, r = .tuple #[.slice A (nextR st).length c, .bool (nextOk st)] ∧ OwnK KV w' A c (nextR st) ∧ New u A ∧ SN C O Wd w' (nextS st) ∧ u.heap.size ≤ w'.heap.size := by
  obtain ⟨R, L, lc, hb, hs, hk, hO⟩ := h.h
  refine (Next_spec hs).mono ?_
  rintro _ u' ⟨A, c, rfl, o, n, hs', hf⟩
  exact ⟨A, c, rfl, o, n, h.one hb hs hk hO hs' hf, hf.size⟩
theorem SN.nextA {C : Cx} {O : Nat → Prop} {Wd : Prop} {u : World} {st : St} (h : SN C O Wd u st) :
    CallsV Try.prog 22 #[.pointer (some ⟨C.gs, 0, none⟩)] u fun r w' => ∃ A c, r = .tuple #[.slice A (nextR st).length c, .bool (nextOk st)] ∧ OwnK KV w' A c (nextR st) ∧ SN C (ownB A) Wd w' (nextS st) := by
  obtain ⟨R, L, lc, hb, hs, hk, hO⟩ := h.h
  refine (Next_spec hs).mono ?_
  rintro _ u' ⟨A, c, rfl, o, n, hs', hf⟩
  have hlt : ∀ k, ownB A k → k < u'.heap.size := by
    obtain ⟨xs', ho, _⟩ := id o
    exact ho.lt
  have h1 := h.one hb hs hk hO hs' hf
  exact ⟨A, c, rfl, o, ⟨R, L, lc, fun k hr => ⟨(hb k hr).1, Nat.lt_of_lt_of_le (hb k hr).2 hf.size⟩, hs', hk.keep KV_pos (hf.step (Ω' := fun k => R k ∨ ownB A k) (fun k _ q => .inl (by rw [q]; exact hs.rg)) (fun k hk1 q => q.elim .inl (fun q => absurd hk1 (Nat.not_lt.2 (n k q))))), fun k hk hr => by have := (hb k hr).2; have := n k hk; omega⟩, h1.wide, fun k hk => ⟨Nat.le_trans h.sb (n k hk), hlt k hk⟩, h1.kl, h1.ext, h1.sb, h1.wb⟩
theorem SN.addK {C : Cx} {O : Nat → Prop} {Wd : Prop} {u : World} {st st' : St} {x : Int} (h : SN C O Wd u st) {KA RA : Option Addr} {kc rc n m : Nat} {key row : List V} (hE : addE st key row = x) (hA : addS st key row = st') (hn : n = key.length) (hm : m = row.length) (hK : Imm KV NoB u KA key) (hRow : Imm KV NoB u RA row) (gk : ∀ v ∈ key, good v) (gr : ∀ v ∈ row, good v) (lk : key.length ≤ 1000) (lr : row.length ≤ 1000) :
    CallsV Try.prog 18 #[.pointer (some ⟨C.gs, 0, none⟩), .slice KA n kc, .slice RA m rc] u fun r w' => r = .int .i64 x ∧ SN C O Wd w' st' ∧ ∀ k, O k → w'.heap[k]? = u.heap[k]? := by
  subst hn; subst hm; subst hE; subst hA
  obtain ⟨R, L, lc, hb, hs, hk, hO⟩ := h.h
  refine (Add_spec (growSor hs) (fun k hk => .inr hk) hK hRow gk gr (by simp only [maxLen]; omega) (by simp only [maxLen]; omega)).mono ?_
  rintro _ u' ⟨rfl, m⟩
  refine ⟨rfl, h.moved hb hs hk hO m, fun k ho => ?_⟩
  obtain ⟨L', lc', h', hf, _⟩ := m
  exact hf.block k (h.O k ho).2 (fun q => hO k ho (q.elim (fun e => by rw [e]; exact hs.rg) (fun e => hs.rL k e)))
theorem SN.rewind {C : Cx} {O : Nat → Prop} {Wd : Prop} {u : World} {st : St} (h : SN C O Wd u st) :
    CallsV Try.prog 24 #[.pointer (some ⟨C.gs, 0, none⟩)] u fun r w' => r = .int .i64 (if st.sorted then 0 else 70) ∧ SN C O Wd w' (if st.sorted then { st with at_ := 0 } else st) := by
  obtain ⟨R, L, lc, hb, hs, hk, hO⟩ := h.h
  refine (Rewind_spec hs).mono ?_
  rintro _ u' ⟨rfl, hs', hf⟩
  exact ⟨rfl, h.one hb hs hk hO hs' hf⟩
theorem SN.len {C : Cx} {O : Nat → Prop} {Wd : Prop} {u : World} {st : St} (h : SN C O Wd u st) :
    CallsV Try.prog 26 #[.pointer (some ⟨C.gs, 0, none⟩)] u fun r w' => r = .int .i64 (st.l.length : Int) ∧ w' = u := by
  obtain ⟨R, L, lc, hb, hs, hk, hO⟩ := h.h
  exact Len_spec hs
theorem immKV_off {Ω S : Nat → Prop} {w : World} {b : Nat} {l : List V} (h : Imm KV Ω w (some ⟨b, 0, none⟩) l) (hb : ¬ S b) : Imm KV (fun k => Ω k ∨ S k) w (some ⟨b, 0, none⟩) l := by
  intro i a ha
  obtain ⟨ad, hA, hn, cs, hr, hc⟩ := h i a ha
  cases hA
  exact ⟨_, rfl, fun q => q.elim hn hb, cs, hr, hc⟩
/-- the other sorter -/
theorem SN.addW {C : Cx} {O : Nat → Prop} {u : World} {st : St} (h : SN C O True u st) {KA RA : Option Addr} {kc rc n m : Nat} {key row : List V} {x : Int} (hE : addE wS key row = x) (hn : n = key.length) (hm : m = row.length) (hK : Imm KV NoB u KA key) (hRow : Imm KV NoB u RA row) (gk : ∀ v ∈ key, good v) (gr : ∀ v ∈ row, good v) (lk : key.length ≤ 1000) (lr : row.length ≤ 1000) :
    CallsV Try.prog 18 #[.pointer (some ⟨C.gw, 0, none⟩), .slice KA n kc, .slice RA m rc] u fun r w' => r = .int .i64 x ∧ SN C O False w' st := by
  subst hn; subst hm; subst hE
  obtain ⟨R, L, lc, hb, hs, hk, hO⟩ := h.h
  refine (Add_spec (growSor (h.wide trivial)) (fun k hk => .inr hk) hK hRow gk gr (by simp only [maxLen]; omega) (by simp only [maxLen]; omega)).mono ?_
  rintro _ u' ⟨rfl, m⟩
  obtain ⟨L', lc', h', hf, _⟩ := m
  have hfw : ∀ k, (k = C.gw ∨ ownB none k) → C.bw ≤ k ∧ k < C.b := fun k hk => hk.elim (fun e => by rw [e]; exact (h.wide trivial).rg) (fun e => (ownB_none k e).elim)
  have hk2 := (immKV_off (S := fun k => k = C.gw ∨ ownB none k) hk (fun q => by have := (hfw _ q).2; have := h.kl.1; omega)).keep KV_pos (hf.step (Ω' := fun k => (R k ∨ O k) ∨ (k = C.gw ∨ ownB none k)) (fun k _ q => .inr q) (fun k _ q => q))
  exact ⟨rfl, ⟨R, L, lc, fun k hr => ⟨(hb k hr).1, Nat.lt_of_lt_of_le (hb k hr).2 hf.size⟩, hs.frame hf fun k _ q hr => by have := (hfw k q).2; have := (hb k hr).1; omega, hk2.sub KV_pos fun k _ q => .inl q, hO⟩, fun q => q.elim, fun k hk => ⟨(h.O k hk).1, Nat.lt_of_lt_of_le (h.O k hk).2 hf.size⟩, ⟨h.kl.1, Nat.lt_of_lt_of_le h.kl.2 hf.size⟩, h.ext.trans hf (fun _ _ h => h) (fun k hk q => by have := (hfw k q).1; have := h.wb.1; omega), Nat.le_trans h.sb hf.size, h.wb⟩
end Go.Proofs.Ytakmlaliglmnmaa
