/- Layer 7 (sorter): Add, Sort, Next. -/
import Derived.Test.YtakmlaliglmnmaaS5
set_option linter.unusedVariables false
set_option linter.unusedSimpArgs false
namespace Go.Proofs.Ytakmlaliglmnmaa
open Go Go.Sx R1 S1 Go.Lib

theorem keyR_le {l : List V} {ds : List Bool} (h : (keyR l ds).2 = 0) : (keyR l ds).1.length ≤ 1048576 := by
  unfold keyR at h ⊢
  split
  · simp
  · split
    · simp
    · split
      · simp
      · simp only; omega
theorem putR_right {l : List V} (h : (putR l).2 = 0) : l.length ≤ 200 := by
  unfold putR at h
  split at h
  · rename_i h1; exact absurd h h1
  · rename_i h1
    exact (rightRow_zero (by simpa using h1)).1
def addE (st : St) (key row : List V) : Int := if st.sorted then 70 else if (keyR key st.desc).2 ≠ 0 then (keyR key st.desc).2 else if (putR row).2 ≠ 0 then (putR row).2 else if 65536 ≤ st.l.length then 5 else 0
def addS (st : St) (key row : List V) : St := if addE st key row = 0 then { st with l := st.l ++ [⟨(keyR key st.desc).1, row⟩] } else st

/-- what a call does to a sorter's memory -/
def Moved (R : Nat → Prop) (w w' : World) (g : Nat) (L : Option Addr) (D : Option Addr) (dc : Nat) (st' : St) : Prop := ∃ L' lc', Sor R w' g L' lc' D dc st' ∧ Fr (fun k => k = g ∨ ownB L k) w w' ∧ ∀ k, ownB L' k → ownB L k ∨ w.heap.size ≤ k
theorem Moved.same {R : Nat → Prop} {w w' : World} {g : Nat} {L : Option Addr} {lc : Nat} {D : Option Addr} {dc : Nat} {st : St} (h : Sor R w g L lc D dc st) (e : Ext w w') : Moved R w w' g L D dc st := ⟨L, lc, h.ext e, e.fr, fun _ h => .inl h⟩
theorem sorDesc {R : Nat → Prop} {w : World} {g : Nat} {L : Option Addr} {lc : Nat} {D : Option Addr} {dc : Nat} {st : St} (h : Sor R w g L lc D dc st) : Imm Kd.bool NoB w D st.desc := h.desc.sub KBo_pos fun _ _ h => h.elim

theorem Add_spec {R : Nat → Prop} {w : World} {g : Nat} {L : Option Addr} {lc : Nat} {D : Option Addr} {dc : Nat} {st : St} (h : Sor R w g L lc D dc st) (hR : ∀ k, w.heap.size ≤ k → R k) {KA RA : Option Addr} {kc rc : Nat} {key row : List V} (hK : Imm KV NoB w KA key) (hRow : Imm KV NoB w RA row) (gk : ∀ v ∈ key, good v) (gr : ∀ v ∈ row, good v) (lk : key.length ≤ maxLen) (lr : row.length ≤ maxLen) :
    CallsV Try.prog 18 #[.pointer (some ⟨g, 0, none⟩), .slice KA key.length kc, .slice RA row.length rc] w fun r w' => r = .int .i64 (addE st key row) ∧ Moved R w w' g L D dc (addS st key row) := by
  refine sorter_Sorter_Add.calls okay ?_
  unfold sorter_Sorter_Add.W
  refine (may_spec h false).same ⟨_, rfl, ?_⟩
  cases hs : st.sorted with
  | true =>
    have hE : addE st key row = 70 := by unfold addE; rw [if_pos hs]
    refine brn (fun _ => ⟨by rw [hE]; rfl, ?_⟩) (fun h => by cases h)
    rw [addS, hE, if_neg (by decide)]
    exact Moved.same h (.refl _ _)
  | false =>
  have fin : ∀ {e : Int} {w'}, addE st key row = e → e ≠ 0 → Ext w w' → Value.int .i64 e = .int .i64 (addE st key row) ∧ Moved R w w' g L D dc (addS st key row) := by
    intro e w' hE h0 hw
    refine ⟨by rw [hE], ?_⟩
    rw [addS, hE, if_neg h0]
    exact Moved.same h hw
  refine brn (fun h => absurd rfl h) (fun _ => ⟨_, rfl, _, _, _, h.blk.cell rfl, ?_⟩)
  refine (Key_spec hK (sorDesc h) lk (by have := h.n2; simp only [maxLen]; omega) gk).mono ?_
  rintro _ w1 ⟨X, cX, rfl, oX, e1, nX⟩
  refine ⟨_, _, _, _, rfl, brn (fun hk => fin (by unfold addE; rw [hs, if_neg (by simp), if_pos hk]) hk e1) (fun hk => ?_)⟩
  have hk0 : ¬ (keyR key st.desc).2 ≠ 0 := by simpa using hk
  refine (Put_spec (hRow.ext KV_pos e1) lr gr).mono ?_
  rintro _ w2 ⟨Y, cY, rfl, oY, e2, nY⟩
  have e12 := e1.trans' e2
  refine ⟨_, _, _, _, rfl, brn (fun hp => fin (by unfold addE; rw [hs, if_neg (by simp), if_neg hk0, if_pos hp]) hp e12) (fun hp => ?_)⟩
  have hp0 : ¬ (putR row).2 ≠ 0 := by simpa using hp
  have b2 := h.blk.ext e12
  refine ⟨_, rfl, _, _, _, b2.cell rfl, brd (fun hf => fin (by unfold addE; rw [hs, if_neg (by simp), if_neg hk0, if_neg hp0, if_pos (by omega)]) (by decide) e12) (fun hf => ?_)⟩
  have hE : addE st key row = 0 := by unfold addE; rw [hs, if_neg (by simp), if_neg hk0, if_neg hp0, if_neg (by omega)]
  have e2d := e12.trans' (Fr.drew NoB w2)
  refine ⟨_, rfl, fun u => Blk u g (sc L lc D dc st), h.blk.ext e2d, _, _, _, fun u hu => hu.cell rfl, ?_⟩
  have hrl := putR_right hp
  refine (CloneV_spec (hRow.ext KV_pos e2d) (by omega)).mono ?_
  rintro _ w3 ⟨Z, cZ, rfl, oZ, e3, nZ⟩
  have e3' := e2d.trans' e3
  refine ⟨_, _, _, rfl, h.blk.ext e3', ?_⟩
  intro gn w4 f4
  have e4 := e3'.trans' f4.ext
  refine ⟨h.blk.ext e4, ?_⟩
  have e14 : Ext w1 w4 := (e2.trans' ((Fr.drew NoB w2).ext e3)).trans' f4.ext
  have e23 : Ext w2.drew w3 := e3
  -- the new one
  let G : Nat → Prop := fun k => ¬ R k ∨ k = g
  have hglt := h.blk.lt
  have hLlt := h.rows.lt
  have outA : ∀ k, ownB X k → ¬ (ownB L k ∨ G k) := by
    intro k hk hh
    have hge := nX k hk
    rcases hh with hh | hh | hh
    · have := hLlt k hh; omega
    · exact hh (hR k hge)
    · omega
  have outB : ∀ k, ownB Z k → ¬ (ownB L k ∨ G k) := by
    intro k hk hh
    have hge : w.heap.size ≤ k := Nat.le_trans e2d.size (nZ k hk)
    rcases hh with hh | hh | hh
    · have := hLlt k hh; omega
    · exact hh (hR k hge)
    · omega
  have hnew : OneAt (fun k => ownB L k ∨ G k) w4 ⟨(keyR key st.desc).1, row⟩ X cX Z cZ := by
    refine ⟨oX.le, oZ.le, (oX.ext e14).imm outA, ?_, keyR_le hk, hrl, gr⟩
    obtain ⟨xs, ho, hr⟩ := oZ.ext f4.ext
    exact Own.imm (K := KV) KV_pos ho outB hr
  have hrows : OwnK (Kd.out G KO) w4 L lc st.l := h.rows.ext e4
  obtain ⟨rfl, rfl⟩ := f4
  obtain ⟨L', lc', w5, hr5, ho5, g5⟩ := (h.rows.ext e3').push slO (ty := 61) (K := Kd.out G KO) (a := ⟨(keyR key st.desc).1, row⟩) (cs := oc ⟨(keyR key st.desc).1, row⟩ X cX Z cZ) (e' := 81) (by
    refine ⟨X, cX, Z, cZ, rfl, oX.le, oZ.le, (oX.ext (e2.trans' ((Fr.drew NoB w2).ext e3))).imm outA, ?_, keyR_le hk, hrl, gr⟩
    obtain ⟨xs, ho, hr⟩ := oZ
    exact Own.imm (K := KV) KV_pos ho outB hr) (by simp [oc, Value.oneCell']) (by simp only [maxLen]; omega) (by omega)
  have offL : ¬ ownB L g := h.off
  have b5 : Blk w5 g (sc L lc D dc st) := (h.blk.ext e3').keep g5.fr offL
  refine ⟨_, _, _, _, hr5, _, rfl, okOne b5 (show 3 < 6 by decide) _, ?_⟩
  intro w6 hw6
  obtain ⟨b6, f6⟩ := setOne w5 g 3 (.slice L' (st.l ++ ([⟨(keyR key st.desc).1, row⟩] : List S1.One)).length lc') b5
  rw [← hw6] at b6 f6
  have hL' : ∀ k, ownB L' k → ownB L k ∨ w.heap.size ≤ k := fun k hk => (g5.sub k hk).imp id (fun hh => Nat.le_trans e3'.size hh)
  have off' : ¬ ownB L' g := fun hk => (hL' g hk).elim offL (fun hh => by omega)
  have fr5 : Fr (fun k => k = g ∨ ownB L k) w w5 := e3'.trans g5.fr (fun _ _ h => h.elim) (fun _ _ h => .inr h)
  have fr6 : Fr (fun k => k = g ∨ ownB L k) w w6 := fr5.trans f6 (fun _ _ h => h) (fun _ _ h => .inl h)
  refine ⟨by rw [hE], ?_⟩
  rw [addS, if_pos hE]
  refine ⟨L', lc', ⟨b6, h.rg, fun k hk => (hL' k hk).elim (h.rL k) (hR k), off', h.hd, ?_, ?_, by simp; omega, h.n2, by have := h.n3; simp; omega, h.n4⟩, fr6, hL'⟩
  · refine h.desc.keep KBo_pos (fr6.step (fun k hk hh => .inr hh) fun k hk hh => ?_)
    rcases hh with hh | hh | hh
    · exact .inl hh
    · exact .inr (.inl hh)
    · exact (hL' k hh).elim (fun hh => .inr (.inr hh)) (fun hh => by omega)
  · exact rows_to ho5 f6 (fun k hk e => off' (by rw [← e]; exact hk)) (fun k hk e => .inr (.inr e)) (fun k hk hh => .inr hh)
end Go.Proofs.Ytakmlaliglmnmaa
