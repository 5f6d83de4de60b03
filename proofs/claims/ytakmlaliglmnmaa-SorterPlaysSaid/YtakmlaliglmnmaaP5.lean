/- Layer 7: SorterPlays: the sorter and the document's answer, side by side. -/
import Derived.Test.YtakmlaliglmnmaaP3
import Derived.Test.YtakmlaliglmnmaaS10
set_option linter.unusedVariables false
set_option linter.unusedSimpArgs false
namespace Go.Proofs.Ytakmlaliglmnmaa
open Go Go.Sx R1 S1 Go.Lib

structure Op where
  kind : Int
  key : List V
  row : List V
def KOp : Kd Op := ⟨3, fun Ω w a cs => ∃ A c B d, cs = [.int .i64 a.kind, .slice A a.key.length c, .slice B a.row.length d] ∧ Imm KV Ω w A a.key ∧ Imm KV Ω w B a.row, fun ⟨_, _, _, _, h, _⟩ => by simp [h], fun ⟨A, c, B, d, h, h1, h2⟩ st => ⟨A, c, B, d, h, h1.keep KV_pos st, h2.keep KV_pos st⟩⟩
theorem KOp_pos : 0 < KOp.size := by decide
def goodOp (o : Op) : Prop := (o.key.length ≤ maxLen ∧ ∀ v ∈ o.key, good v) ∧ (o.row.length ≤ maxLen ∧ ∀ v ∈ o.row, good v)
def Op0 : Op := ⟨0, [], []⟩
theorem itemOp {w : World} {A : Option Addr} {l : List Op} (h : Imm KOp NoB w A l) {j : Nat} (hj : j < l.length) :
    ∃ ad, A = some ad ∧ ∃ kA kc rA rc, Imm KV NoB w kA (l.getD j Op0).key ∧ Imm KV NoB w rA (l.getD j Op0).row ∧ ∀ u, Ext w u → u.cell? ((ad.add (j * 3)).add 0) = some (.int .i64 (l.getD j Op0).kind) ∧ u.cell? ((ad.add (j * 3)).add (0 + 1)) = some (.slice kA (l.getD j Op0).key.length kc) ∧ u.cell? ((ad.add (j * 3)).add (0 + 1 + 1)) = some (.slice rA (l.getD j Op0).row.length rc) := by
  have hg : l[j]? = some (l.getD j Op0) := by simp [List.getD, hj]
  obtain ⟨ad, hA, hn, cs, ⟨kA, kc, rA, rc, rfl, h1, h2⟩, hcell⟩ := h j _ hg
  refine ⟨ad, hA, kA, kc, rA, rc, h1, h2, fun u hu => ⟨?_, ?_, ?_⟩⟩
  · rw [add_add]; exact hu.cell (fun h => h) (hcell 0 _ rfl)
  · rw [add_add]; exact hu.cell (fun h => h) (hcell 1 _ rfl)
  · rw [add_add]; exact hu.cell (fun h => h) (hcell 2 _ rfl)
theorem New_bad {w : World} {A : Option Addr} {c : Nat} {ds : List Bool} (hl : 200 < ds.length) (dist : Bool) :
    CallsV Try.prog 14 #[.slice A ds.length c, .bool dist] w fun r w' => r = .tuple #[.pointer none, .int .i64 2] ∧ w' = w := by
  refine sorter_New.calls okay ?_
  unfold sorter_New.W
  exact brd (fun _ => ⟨rfl, rfl⟩) (fun h => by omega)
/-- the sorter at g, and the document's in the variable gv -/
structure Play (R : Nat → Prop) (w u : World) (g gv : Nat) (L : Option Addr) (lc : Nat) (D : Option Addr) (dc : Nat) (Da : Option Addr) (ca : Nat) (Lr : Option Addr) (lr : Nat) (st str : St) : Prop where
  sor : Sor R u g L lc D dc st
  lt : ∀ k, R k → k < u.heap.size
  ge : ∀ k, R k → w.heap.size ≤ k
  blk : Blk u gv (rcl Da ca Lr lr str)
  off : ¬ R gv
  gvge : w.heap.size ≤ gv
  ref : RSor (fun k => R k ∨ k = gv) u Da ca Lr lr str
  ext : Ext w u
section
variable {R : Nat → Prop} {w u z : World} {g gv : Nat} {L : Option Addr} {lc : Nat} {D : Option Addr} {dc : Nat} {Da : Option Addr} {ca : Nat} {Lr : Option Addr} {lr : Nat} {st str st' str' : St}
theorem Play.extd (h : Play R w u g gv L lc D dc Da ca Lr lr st str) (e : Ext u z) : Play R w z g gv L lc D dc Da ca Lr lr st str :=
  ⟨h.sor.ext e, fun k hk => Nat.lt_of_lt_of_le (h.lt k hk) e.size, h.ge, h.blk.ext e, h.off, h.gvge, h.ref.ext e, h.ext.trans' e⟩
/-- the blocks that a call of the sorter may use -/
def more (R : Nat → Prop) (u : World) : Nat → Prop := fun k => R k ∨ u.heap.size ≤ k
theorem Play.sor' (h : Play R w u g gv L lc D dc Da ca Lr lr st str) : Sor (more R u) u g L lc D dc st := h.sor.sub fun k _ hk => .inl hk
theorem Play.moved (h : Play R w u g gv L lc D dc Da ca Lr lr st str) {L' : Option Addr} {lc' : Nat} (hs : Sor (more R u) z g L' lc' D dc st') (hf : Fr (fun k => k = g ∨ ownB L k) u z) :
    Play (fun k => more R u k ∧ k < z.heap.size) w z g gv L' lc' D dc Da ca Lr lr st' str := by
  have hR : ∀ k, (k = g ∨ ownB L k) → R k := by
    rintro k (rfl | hk)
    · exact h.sor.rg
    · exact h.sor.rL k hk
  have hgl := h.blk.lt
  have hold : ∀ k, k < u.heap.size → (more R u k ∧ k < z.heap.size) ∨ k = gv → R k ∨ k = gv := by
    rintro k hk (⟨h1 | h1, _⟩ | h1)
    · exact .inl h1
    · omega
    · exact .inr h1
  refine ⟨hs.sub fun k hk hm => ⟨hm, hk⟩, fun k hk => hk.2, fun k hk => ?_, h.blk.keep hf (fun hh => h.off (hR _ hh)), fun hh => ?_, h.gvge, h.ref.keep (hf.step (fun k hk hh => .inl (hR k hh)) hold), h.ext.trans hf (fun _ _ h => h) (fun k hk hh => absurd hk (Nat.not_lt.2 (h.ge k (hR k hh))))⟩
  · rcases hk.1 with h1 | h1
    · exact h.ge k h1
    · exact Nat.le_trans h.ext.size h1
  · rcases hh.1 with h1 | h1
    · exact h.off h1
    · omega
theorem Play.set (h : Play R w u g gv L lc D dc Da ca Lr lr st str) {z1 : World} (e : Ext u z1) {Lr' : Option Addr} {lr' : Nat} (hr : RSor (fun k => R k ∨ k = gv) z1 Da ca Lr' lr' str') (hz : z = setAll ⟨gv, 0, none⟩ 0 (rcl Da ca Lr' lr' str') z1) :
    Play R w z g gv L lc D dc Da ca Lr' lr' st str' ∧ Fr (fun k => k = gv) z1 z := by
  have hf : Fr (fun k => k = gv) z1 z := by rw [hz]; exact Fr.setAll _ 0 _
  have hp := h.extd e
  refine ⟨⟨hp.sor.frame hf (fun k hk he hR => h.off (by rw [← he]; exact hR)), fun k hk => Nat.lt_of_lt_of_le (hp.lt k hk) hf.size, h.ge, ?_, h.off, h.gvge, hr.keep (hf.step (fun k hk he => .inr he) (fun _ _ h => h)), hp.ext.trans hf (fun _ _ h => h) (fun k hk he => absurd hk (by have := h.gvge; omega))⟩, hf⟩
  rw [hz]
  exact Blk.setAll (o := 0) (rcl Da ca Lr' lr' str') 0 hp.blk
end
end Go.Proofs.Ytakmlaliglmnmaa
/- Layer 7: SorterPlays. -/
set_option linter.unusedVariables false
set_option linter.unusedSimpArgs false
namespace Go.Proofs.Ytakmlaliglmnmaa
open Go Go.Sx R1 S1 Go.Lib

set_option maxRecDepth 100000 in
theorem SorterPlays_holds {w : World} {DA OA : Option Addr} {dac oc : Nat} {ds : List Bool} {ops : List Op} (hD : Imm Kd.bool NoB w DA ds) (hO : Imm KOp NoB w OA ops) (hdl : ds.length ≤ maxLen) (hol : ops.length ≤ maxLen) (hgo : ∀ o ∈ ops, goodOp o) (dist : Bool) :
    CallsV Try.prog 4 #[.slice DA ds.length dac, .bool dist, .slice OA ops.length oc] w fun v w' => v = .bool true ∧ Ext w w' := by
  refine cardindexlaw07_SorterPlays.calls okay ?_
  unfold cardindexlaw07_SorterPlays.W
  have aw : ∀ w5, Ext w w5 → CallsV Try.prog 11 #[] w5 fun v w' => ∃ x, v = .bool x ∧ ((fun v w' => v = .bool true ∧ Ext w w' : Value → World → Prop) (.bool x) w') := by
    intro w5 e5
    refine (awake_spec w5).mono ?_
    rintro v w6 ⟨rfl, e6⟩
    exact ⟨_, rfl, rfl, e5.trans' e6⟩
  refine brd (fun _ => aw _ (.refl _ _)) (fun h300 => ?_)
  rcases Nat.lt_or_ge 200 ds.length with hbig | h200
  · refine (New_bad hbig dist).same ⟨_, _, rfl, ?_⟩
    refine (NewR_spec rfl dist).mono ?_
    rintro _ w2 ⟨e2, ⟨_, rfl⟩ | ⟨h, _⟩⟩
    · refine ⟨_, _, _, _, _, _, _, _, _, _, rfl, ?_⟩
      intro gv w3 f3
      refine ⟨f3.blk.stOK [_, _, _, _, _] 0 (by simp), fun w4 hw4 => ?_⟩
      have e4 : Ext w w4 := by rw [hw4]; exact (e2.trans' f3.ext).setAll (Nat.le_trans e2.size f3.ge) _ _
      refine brn (fun h => absurd rfl h) (fun _ => brn (fun _ => brd (fun _ => br (fun _ => aw _ e4) (fun h => by cases h)) (fun h => absurd rfl h)) (fun h => by cases h))
    · omega
  refine (New_spec hD h200 dist).mono ?_
  rintro _ w1 ⟨g, D, dc, rfl, hs, e1⟩
  refine ⟨_, _, rfl, ?_⟩
  refine (NewR_spec rfl dist).mono ?_
  rintro _ w2 ⟨e2, ⟨h, _⟩ | ⟨_, rfl⟩⟩
  · omega
  have e02 := e1.trans' e2
  refine ⟨_, _, _, _, _, _, _, _, _, _, rfl, ?_⟩
  intro gv w3 f3
  refine ⟨f3.blk.stOK [_, _, _, _, _] 0 (by simp), fun w4 hw4 => ?_⟩
  have b4 : Blk w4 gv (rcl DA dac none 0 ⟨ds, dist, [], false, 0⟩) := by rw [hw4]; exact Blk.setAll (o := 0) (rcl DA dac none 0 ⟨ds, dist, [], false, 0⟩) 0 f3.blk
  have hg1 : w1.heap.size ≤ gv := Nat.le_trans e2.size f3.ge
  have hg0 : w.heap.size ≤ gv := Nat.le_trans e1.size hg1
  have e14 : Ext w1 w4 := by rw [hw4]; exact (e2.trans' f3.ext).setAll hg1 _ _
  have e04 := e1.trans' e14
  refine brn (fun h => absurd rfl h) (fun _ => brn (fun h => absurd rfl h) (fun _ => ?_))
  have start : Play (fun k => w.heap.size ≤ k ∧ k < w1.heap.size) w w4 g gv none 0 D dc DA dac none 0 ⟨ds, dist, [], false, 0⟩ ⟨ds, dist, [], false, 0⟩ := by
    refine ⟨(hs.sub fun k hk h => ⟨h, hk⟩).ext e14, fun k hk => Nat.lt_of_lt_of_le hk.2 e14.size, fun k hk => hk.1, b4, fun h => by omega, hg0, ⟨?_, Imm.nil _ _ _ _, by simp, h200, Nat.le_refl _, fun _ => rfl⟩, e04⟩
    exact hD.keep KBo_pos (Ext.step' e04 fun k hk h => by rcases h with h | h <;> omega)
  refine ⟨fun i u => ∃ (j : Nat) (st : St) (R : Nat → Prop) (L : Option Addr) (lc : Nat) (Lr : Option Addr) (lr : Nat), j ≤ ops.length ∧ j ≤ 100 ∧ i = (j : Int) ∧ Play R w u g gv L lc D dc DA dac Lr lr st st,
    fun i _ => (ops.length - i).toNat, ⟨0, _, _, _, _, _, _, by omega, by omega, rfl, start⟩, ?_⟩
  rintro _ u ⟨j, st, R, L, lc, Lr, lr, hj, hj100, rfl, P⟩
  refine brd (fun hlt => brd (fun h100 => ?_) (fun _ => aw _ P.ext)) (fun _ => aw _ P.ext)
  have hjl : j < ops.length := by omega
  refine ⟨fun z => ∃ (st : St) (R : Nat → Prop) (L : Option Addr) (lc : Nat) (Lr : Option Addr) (lr : Nat), Play R w z g gv L lc D dc DA dac Lr lr st st, ?_, ?_⟩
  · rintro z ⟨st', R', L', lc', Lr', lr', P'⟩
    rw [wi _ (by omega) (by omega)]
    exact ⟨⟨j + 1, st', R', L', lc', Lr', lr', by omega, by omega, rfl, P'⟩, by dsimp only; omega⟩
  obtain ⟨ad, hA, kA, kc, rA, rc, iKey, iRow, hcell⟩ := itemOp hO hjl
  have hgj : goodOp (ops.getD j Op0) := hgo _ (by simp [List.getD, hjl])
  generalize ops.getD j Op0 = o at *
  obtain ⟨⟨kl, kg⟩, ⟨rl, rg⟩⟩ := hgj
  have hcu := hcell u P.ext
  rw [show j * 3 = Int.toNat (j : Int) * 3 by rw [Int.toNat_natCast]] at hcu
  refine ⟨ad, hA, ⟨by omega, by omega⟩, _, hcu.1, _, _, _, hcu.2.1, _, _, _, hcu.2.2, ?_⟩
  intro go v1 fo
  refine ⟨fo.blk.stOK [_, _, _] 0 (by simp), fun v hv => ?_⟩
  have bo : Blk v go [.int .i64 o.kind, .slice kA o.key.length kc, .slice rA o.row.length rc] := by rw [hv]; exact Blk.setAll (o := 0) [_, _, _] 0 fo.blk
  have euv : Ext u v := by rw [hv]; exact fo.ext.setAll fo.ge _ _
  have hgo' := fo.ge
  have Pv := P.extd euv
  have ewv := Pv.ext
  refine ⟨_, _, _, bo.cell rfl, ?_⟩
  refine (Small_spec (iKey.ext KV_pos ewv) kl 10 100).same ⟨_, rfl, brnb (fun _ => ⟨st, R, L, lc, Lr, lr, Pv⟩) (fun hS1 => ⟨_, _, _, bo.cell rfl, ?_⟩)⟩
  refine (Small_spec (iRow.ext KV_pos ewv) rl 10 100).same ⟨_, rfl, brnb (fun _ => ⟨st, R, L, lc, Lr, lr, Pv⟩) (fun hS2 => ?_)⟩
  have hk10 : o.key.length ≤ 10 := by
    unfold smallV at hS1; simp only [Bool.and_eq_true, decide_eq_true_eq] at hS1; omega
  have hr10 : o.row.length ≤ 10 := by
    unfold smallV at hS2; simp only [Bool.and_eq_true, decide_eq_true_eq] at hS2; omega
  have goR : ∀ {R' : Nat → Prop}, (∀ k, R' k → k < u.heap.size) → ¬ R' go := fun h hh => by have := h go hh; omega
  refine ⟨fun x y pA pn pc qA qn qc ok is z => x = y ∧ ok = is ∧ ∃ (r : List V) (st : St) (R : Nat → Prop) (L : Option Addr) (lc : Nat) (Lr : Option Addr) (lr : Nat), pn = r.length ∧ qn = r.length ∧ r.length ≤ 200 ∧ Imm KV NoB z pA r ∧ Imm KV NoB z qA r ∧ Play R w z g gv L lc D dc DA dac Lr lr st st, ?_, ?_⟩
  · rintro x _ pA _ pc qA _ qc ok _ z ⟨rfl, rfl, r, st', R', L', lc', Lr', lr', rfl, rfl, hr, ip, iq, P'⟩
    refine brn (fun h => absurd rfl h) (fun _ => brn (fun h => absurd rfl h) (fun _ => ?_))
    have ed : Ext z z.drew := Fr.drew NoB z
    refine (SameValues_spec rfl rfl (ip.ext KV_pos ed) (iq.ext KV_pos ed) (by omega)).mono ?_
    rintro _ z1 ⟨⟨x, rfl, hx⟩, ez⟩
    obtain rfl : x = true := hx.2 rfl
    have P1 := P'.extd (ed.trans' ez)
    refine ⟨_, rfl, brnb (fun h => by cases h) (fun _ => ⟨fun y => y = z1, rfl, _, _, _, fun y hy => by rw [hy]; exact P1.blk.cell rfl, ?_⟩)⟩
    refine (Len_spec P1.sor).same ⟨_, rfl, rfl, brn (fun h => absurd rfl h) (fun _ => ⟨st', R', L', lc', Lr', lr', P1⟩)⟩
  · refine ⟨_, bo.cell rfl, ?_⟩
    have cell5 : ∀ {z : World} {Lr lr} {str : St}, Blk z gv (rcl DA dac Lr lr str) → Blk z gv (rcl DA dac Lr lr str) := fun h => h
    have zero : ∀ {R' L' lc' Lr' lr' st' z} (x : Int), Play R' w z g gv L' lc' D dc DA dac Lr' lr' st' st' → (x = x ∧ true = true ∧ ∃ (r : List V) (st : St) (R : Nat → Prop) (L : Option Addr) (lc : Nat) (Lr : Option Addr) (lr : Nat), 0 = r.length ∧ 0 = r.length ∧ r.length ≤ 200 ∧ Imm KV NoB z none r ∧ Imm KV NoB z none r ∧ Play R w z g gv L lc D dc DA dac Lr lr st st) := by
      intro R' L' lc' Lr' lr' st' z x P'
      exact ⟨rfl, rfl, [], st', R', L', lc', Lr', lr', rfl, rfl, by simp, Imm.nil _ _ _ _, Imm.nil _ _ _ _, P'⟩
    refine ⟨fun b z => z = v, ?_, ?_⟩
    · rintro b z rfl
      refine br (fun _ => ?_) (fun _ => ?_)
      · -- Add
        have ed : Ext z z.drew := Fr.drew NoB z
        have bod := bo.ext ed
        refine ⟨fun y => Ext z y, ed, _, _, _, fun y hy => (bo.ext hy).cell rfl, _, _, _, fun y hy => (bo.ext hy).cell rfl, ?_⟩
        have ewd := ewv.trans' ed
        refine (CopyValues_spec (iKey.ext KV_pos ewd) (by omega)).mono ?_
        rintro _ z1 ⟨X, cX, rfl, oX, e1', nX⟩
        have ez1 := ed.trans' e1'
        refine ⟨_, _, _, rfl, ez1, ?_⟩
        refine (CopyValues_spec (iRow.ext KV_pos (ewv.trans' ez1)) (by omega)).mono ?_
        rintro _ z2 ⟨Y, cY, rfl, oY, e2', nY⟩
        have ez2 := ez1.trans' e2'
        refine ⟨_, _, _, rfl, ?_⟩
        have P2 := Pv.extd ez2
        refine (Add_spec P2.sor' (fun k hk => .inr hk) ((oX.ext e2').imm KV_pos) (oY.imm KV_pos) kg rg kl rl).mono ?_
        rintro _ z3 ⟨rfl, L', lc', hs3, hf3, _⟩
        have P3 := P2.moved hs3 hf3
        have hRL : ∀ k, (k = g ∨ ownB L k) → R k := by
          rintro k (rfl | hk)
          · exact P.sor.rg
          · exact P.sor.rL k hk
        have offg : ¬ (go = g ∨ ownB L go) := fun hh => goR P.lt (hRL _ hh)
        have bo3 := (bo.ext ez2).keep hf3 offg
        have hvz : u.heap.size ≤ z.drew.heap.size := euv.size
        have oX3 : OwnK KV z3 X cX o.key := OwnK.fr (oX.ext e2') hf3 (fun k hk hh => by have := P.lt k (hRL k hh); have := nX k hk; omega) (fun a cs _ h => h)
        have oY3 : OwnK KV z3 Y cY o.row := OwnK.fr oY hf3 (fun k hk hh => by have := P.lt k (hRL k hh); have := nY k hk; have := e1'.size; omega) (fun a cs _ h => h)
        refine ⟨_, rfl, _, _, _, P3.blk.cell rfl, _, P3.blk.cell rfl, _, _, _, P3.blk.cell rfl, _, P3.blk.cell rfl, _, P3.blk.cell rfl, _, _, _, bo3.cell rfl, _, _, _, bo3.cell rfl, ?_⟩
        refine (AddR_spec P3.ref (fun k hk => hk.elim (fun h => P3.lt k h) (fun h => by rw [h]; exact P3.blk.lt)) rfl rfl (iKey.ext KV_pos P3.ext) (iRow.ext KV_pos P3.ext) kg rg kl rl).mono ?_
        rintro _ z4 ⟨Lr', lr', rfl, hr4, e4'⟩
        refine ⟨_, _, _, _, _, _, _, _, _, _, rfl, (P3.blk.ext e4').stOK [_, _, _, _, _] 0 (by simp [rcl]), fun z5 hz5 => ?_⟩
        obtain ⟨P5, f5⟩ := P3.set e4' hr4 hz5
        have hgo5 : go ≠ gv := by have := P.blk.lt; omega
        have bo5 := (bo3.ext e4').keep f5 hgo5
        have hgvu := P.blk.lt
        have oX5 : OwnK KV z5 X cX o.key := OwnK.fr (oX3.ext e4') f5 (fun k hk hh => by have := nX k hk; omega) (fun a cs _ h => h)
        have oY5 : OwnK KV z5 Y cY o.row := OwnK.fr (oY3.ext e4') f5 (fun k hk hh => by have := nY k hk; have := e1'.size; omega) (fun a cs _ h => h)
        refine ⟨_, _, _, bo5.cell rfl, ?_⟩
        refine (SameValues_spec rfl rfl (oX5.imm KV_pos) (iKey.ext KV_pos P5.ext) (by omega)).mono ?_
        rintro _ z6 ⟨⟨x, rfl, hx⟩, e6⟩
        obtain rfl : x = true := hx.2 rfl
        refine ⟨_, rfl, brnb (fun h => by cases h) (fun _ => ⟨_, _, _, (bo5.ext e6).cell rfl, ?_⟩)⟩
        refine (SameValues_spec rfl rfl ((oY5.ext e6).imm KV_pos) (iRow.ext KV_pos (P5.ext.trans' e6)) (by omega)).mono ?_
        rintro _ z7 ⟨⟨x, rfl, hx⟩, e7⟩
        obtain rfl : x = true := hx.2 rfl
        exact ⟨_, rfl, brnb (fun h => by cases h) (fun _ => zero _ (P5.extd (e6.trans' e7)))⟩
      · refine brd (fun h6 => ?_) (fun h6 => ?_)
        · -- Sort
          refine (Sort_spec Pv.sor' (fun k hk => .inr hk)).mono ?_
          rintro _ z3 ⟨rfl, L', lc', hs3, hf3, _⟩
          have P3 := Pv.moved hs3 hf3
          refine ⟨_, rfl, _, _, _, P3.blk.cell rfl, _, P3.blk.cell rfl, _, _, _, P3.blk.cell rfl, _, P3.blk.cell rfl, _, P3.blk.cell rfl, ?_⟩
          refine (SortR_spec P3.ref (fun k hk => hk.elim (fun h => P3.lt k h) (fun h => by rw [h]; exact P3.blk.lt))).mono ?_
          rintro _ z4 ⟨Lr', lr', rfl, hr4, e4'⟩
          refine ⟨_, _, _, _, _, _, _, _, _, _, rfl, (P3.blk.ext e4').stOK [_, _, _, _, _] 0 (by simp [rcl]), fun z5 hz5 => ?_⟩
          obtain ⟨P5, f5⟩ := P3.set e4' hr4 hz5
          exact zero _ P5
        · refine ⟨fun b y => y = z, ?_, ?_⟩
          · rintro b y rfl
            refine br (fun _ => ?_) (fun _ => brd (fun h9 => ?_) (fun h9 => zero _ Pv))
            · -- Next
              refine (Next_spec Pv.sor').mono ?_
              rintro _ z3 ⟨A3, c3, rfl, o3, n3, hs3, hf3⟩
              have P3 := Pv.moved hs3 (hf3.mono fun k hk h => .inl h)
              refine ⟨_, _, _, _, rfl, _, _, _, P3.blk.cell rfl, _, P3.blk.cell rfl, _, _, _, P3.blk.cell rfl, _, P3.blk.cell rfl, _, P3.blk.cell rfl, ?_⟩
              refine (NextR_spec P3.ref).mono ?_
              rintro _ z4 ⟨A4, c4, rfl, i4, e4', hlen⟩
              refine ⟨_, _, _, _, _, _, _, _, _, _, _, _, _, rfl, (P3.blk.ext e4').stOK [_, _, _, _, _] 0 (by simp [rcl]), fun z5 hz5 => ?_⟩
              have hn1 := P3.ref.n1
              have hr4 : RSor (fun k => (more R y k ∧ k < z3.heap.size) ∨ k = gv) z4 DA dac Lr lr (nextS st) := by
                have h4 := P3.ref.ext e4'
                unfold nextS
                split
                · rename_i hok
                  unfold nextOk at hok
                  simp only [Bool.and_eq_true, decide_eq_true_eq] at hok
                  exact ⟨h4.desc, h4.rows, h4.n1, h4.n2, by show st.at_ + 1 ≤ st.l.length; omega, fun hh => by rw [hok.1] at hh; cases hh⟩
                · exact h4
              obtain ⟨P5, f5⟩ := P3.set e4' hr4 hz5
              have hgvu := Pv.blk.lt
              have o5 : OwnK KV z5 A3 c3 (nextR st) := OwnK.fr (o3.ext e4') f5 (fun k hk hh => by have := n3 k hk; omega) (fun a cs _ h => h)
              refine ⟨rfl, rfl, nextR st, nextS st, _, L, lc, Lr, lr, rfl, rfl, hlen, o5.imm KV_pos, ?_, P5⟩
              exact immNo KV_pos (i4.keep KV_pos (f5.step (Ω' := fun k => (more R y k ∧ k < z3.heap.size) ∨ k = gv) (fun k hk he => .inr he) (fun _ _ h => h)))
            · -- Rewind
              refine (Rewind_spec Pv.sor').mono ?_
              rintro _ z3 ⟨rfl, hs3, hf3⟩
              have P3 := Pv.moved hs3 (hf3.mono fun k hk h => .inl h)
              refine ⟨_, rfl, _, _, _, P3.blk.cell rfl, _, P3.blk.cell rfl, _, _, _, P3.blk.cell rfl, _, P3.blk.cell rfl, _, P3.blk.cell rfl, ?_⟩
              refine (RewindR_spec (D := DA) (dc := dac) (L := Lr) (lc := lr) (st := st)).mono ?_
              rintro _ z4 ⟨rfl, e4'⟩
              have h4 := P3.ref.ext e4'
              have hr4 : RSor (fun k => (more R y k ∧ k < z3.heap.size) ∨ k = gv) z4 DA dac Lr lr (if st.sorted then { st with at_ := 0 } else st) := by
                split
                · exact ⟨h4.desc, h4.rows, h4.n1, h4.n2, Nat.zero_le _, fun _ => rfl⟩
                · exact h4
              refine ⟨_, _, _, _, _, _, _, _, _, _, rfl, (P3.blk.ext e4').stOK [_, _, _, _, _] 0 (by simp [rcl]), fun z5 hz5 => ?_⟩
              obtain ⟨P5, f5⟩ := P3.set e4' hr4 hz5
              exact zero _ P5
          · exact brd (fun _ => rfl) (fun _ => rfl)
    · exact brd (fun _ => rfl) (fun _ => brd (fun _ => rfl) (fun _ => brd (fun _ => rfl) (fun _ => brd (fun _ => rfl) (fun _ => rfl))))
end Go.Proofs.Ytakmlaliglmnmaa
