/- Layer 7 (sorter): its calls. -/
import Derived.Test.YtakmlaliglmnmaaS4
set_option linter.unusedVariables false
set_option linter.unusedSimpArgs false
namespace Go.Proofs.Ytakmlaliglmnmaa
open Go Go.Sx R1 S1 Go.Lib

structure St where
  desc : List Bool
  dist : Bool
  l : List One
  sorted : Bool
  at_ : Nat
def sc (L : Option Addr) (lc : Nat) (D : Option Addr) (dc : Nat) (st : St) : List Value := [.bool true, .slice D st.desc.length dc, .bool st.dist, .slice L st.l.length lc, .bool st.sorted, .int .i64 (st.at_ : Int)]
/-- a sorter at block g: its rows in the block of L; all of it in the blocks R -/
structure Sor (R : Nat → Prop) (w : World) (g : Nat) (L : Option Addr) (lc : Nat) (D : Option Addr) (dc : Nat) (st : St) : Prop where
  blk : Blk w g (sc L lc D dc st)
  rg : R g
  rL : ∀ k, ownB L k → R k
  off : ¬ ownB L g
  hd : st.desc.length ≤ dc
  desc : Imm Kd.bool (fun k => ¬ R k ∨ k = g ∨ ownB L k) w D st.desc
  rows : OwnK (Kd.out (fun k => ¬ R k ∨ k = g) KO) w L lc st.l
  n1 : st.l.length ≤ 65536
  n2 : st.desc.length ≤ 200
  n3 : st.at_ ≤ st.l.length
  n4 : st.sorted = false → st.at_ = 0
theorem OneAt.keep {Ω Ω' : Nat → Prop} {w w' : World} {a : One} {A B : Option Addr} {c d : Nat} (h : OneAt Ω w a A c B d) (st : Step Ω w Ω' w') : OneAt Ω' w' a A c B d := ⟨h.ck, h.cr, h.ik.keep KB_pos st, h.ir.keep KV_pos st, h.lk, h.lr, h.gr⟩
theorem KO_out {G G' Ω Ω' : Nat → Prop} {w w' : World} {a : One} {cs : List Value} (h : (Kd.out G KO).rep Ω w a cs) (st : Step (fun k => Ω k ∨ G k) w (fun k => Ω' k ∨ G' k) w') : (Kd.out G' KO).rep Ω' w' a cs := by
  obtain ⟨A, c, B, d, rfl, o⟩ := h
  exact ⟨A, c, B, d, rfl, o.keep st⟩
theorem rows_to {G G' : Nat → Prop} {w w' : World} {L : Option Addr} {lc : Nat} {l : List One} (h : OwnK (Kd.out G KO) w L lc l) {S : Nat → Prop} (hf : Fr S w w') (hn : ∀ k, ownB L k → ¬ S k) (hS : ∀ k, k < w.heap.size → S k → ownB L k ∨ G k) (hG : ∀ k, k < w.heap.size → G' k → ownB L k ∨ G k) : OwnK (Kd.out G' KO) w' L lc l := by
  obtain ⟨xs, ho, hr⟩ := h
  refine ⟨xs, ho.keep hf hn, fun i a ha => KO_out (hr i a ha) (hf.step hS fun k hk h => ?_)⟩
  rcases h with h | h
  · exact .inl h
  · exact hG k hk h
theorem Sor.frame {R : Nat → Prop} {w w' : World} {g : Nat} {L : Option Addr} {lc : Nat} {D : Option Addr} {dc : Nat} {st : St} (h : Sor R w g L lc D dc st) {S : Nat → Prop} (hf : Fr S w w') (hS : ∀ k, k < w.heap.size → S k → ¬ R k) : Sor R w' g L lc D dc st := by
  have hLlt := h.rows.lt
  have hS2 : ∀ k, k < w.heap.size → S k → ownB L k ∨ ¬ R k ∨ k = g := fun k hk hs => .inr (.inl (hS k hk hs))
  have hg : ¬ S g := fun hs => hS g h.blk.lt hs h.rg
  have hL : ∀ k, ownB L k → ¬ S k := fun k hk hs => hS k (hLlt k hk) hs (h.rL k hk)
  refine ⟨h.blk.keep hf hg, h.rg, h.rL, h.off, h.hd, h.desc.keep KBo_pos (hf.step (fun k hk hs => .inl (hS k hk hs)) fun _ _ h => h), rows_to h.rows hf hL hS2 (fun k hk hg => .inr hg), h.n1, h.n2, h.n3, h.n4⟩
theorem Sor.ext {R : Nat → Prop} {w w' : World} {g : Nat} {L : Option Addr} {lc : Nat} {D : Option Addr} {dc : Nat} {st : St} (h : Sor R w g L lc D dc st) (e : Ext w w') : Sor R w' g L lc D dc st := h.frame e fun _ _ h => h.elim
theorem Sor.sub {R R' : Nat → Prop} {w : World} {g : Nat} {L : Option Addr} {lc : Nat} {D : Option Addr} {dc : Nat} {st : St} (h : Sor R w g L lc D dc st) (hR : ∀ k, k < w.heap.size → R k → R' k) : Sor R' w g L lc D dc st := by
  have hLlt := h.rows.lt
  refine ⟨h.blk, hR _ h.blk.lt h.rg, fun k hk => hR k (hLlt k hk) (h.rL k hk), h.off, h.hd, h.desc.sub KBo_pos (fun k hk hs => ?_), rows_to h.rows (.refl NoB w) (fun _ _ h => h) (fun _ _ h => h.elim) (fun k hk hs => ?_), h.n1, h.n2, h.n3, h.n4⟩
  · rcases hs with hs | hs | hs
    · exact .inl fun hr => hs (hR k hk hr)
    · exact .inr (.inl hs)
    · exact .inr (.inr hs)
  · rcases hs with hs | hs
    · exact .inr (.inl fun hr => hs (hR k hk hr))
    · exact .inr (.inr hs)
/-- only the block g is written to -/
theorem Sor.touch {R : Nat → Prop} {w w' : World} {g : Nat} {L : Option Addr} {lc : Nat} {D : Option Addr} {dc : Nat} {st st' : St} (h : Sor R w g L lc D dc st) (hf : Fr (fun k => k = g) w w') (hb : Blk w' g (sc L lc D dc st')) (hd : st'.desc = st.desc) (hl : st'.l = st.l) (hn : st'.at_ ≤ st'.l.length) (h4 : st'.sorted = false → st'.at_ = 0) : Sor R w' g L lc D dc st' := by
  refine ⟨hb, h.rg, h.rL, h.off, by rw [hd]; exact h.hd, by rw [hd]; exact h.desc.keep KBo_pos (hf.step (fun k hk hs => .inr (.inl hs)) fun _ _ h => h), ?_, by rw [hl]; exact h.n1, by rw [hd]; exact h.n2, hn, h4⟩
  rw [hl]
  exact rows_to h.rows hf (fun k hk e => h.off (by rw [← e]; exact hk)) (fun k hk e => .inr (.inr e)) (fun k hk hg => .inr hg)

theorem isNone_some (a : Addr) : Option.isNone (some a) = false := rfl
theorem may_spec {R : Nat → Prop} {w : World} {g : Nat} {L : Option Addr} {lc : Nat} {D : Option Addr} {dc : Nat} {st : St} (h : Sor R w g L lc D dc st) (b : Bool) :
    CallsV Try.prog 35 #[.pointer (some ⟨g, 0, none⟩), .bool b] w fun r w' => r = .int .i64 (if st.sorted = b then 0 else 70) ∧ w' = w := by
  refine sorter_Sorter_may.calls okay ?_
  unfold sorter_Sorter_may.W
  refine br (fun h => by cases h) (fun _ => ⟨_, rfl, _, h.blk.cell rfl, brnb (fun h => by cases h) (fun _ => ⟨_, rfl, _, h.blk.cell rfl, brn (fun hn => ?_) (fun hn => ?_)⟩)⟩)
  · exact ⟨by rw [if_neg hn], rfl⟩
  · exact ⟨by rw [if_pos hn], rfl⟩
theorem may_none (w : World) (b : Bool) : CallsV Try.prog 35 #[.pointer none, .bool b] w fun r w' => r = .int .i64 1 ∧ w' = w := by
  refine sorter_Sorter_may.calls okay ?_
  unfold sorter_Sorter_may.W
  exact br (fun _ => ⟨rfl, rfl⟩) (fun h => by cases h)
theorem Len_spec {R : Nat → Prop} {w : World} {g : Nat} {L : Option Addr} {lc : Nat} {D : Option Addr} {dc : Nat} {st : St} (h : Sor R w g L lc D dc st) :
    CallsV Try.prog 26 #[.pointer (some ⟨g, 0, none⟩)] w fun r w' => r = .int .i64 (st.l.length : Int) ∧ w' = w := by
  refine sorter_Sorter_Len.calls okay ?_
  unfold sorter_Sorter_Len.W
  exact br (fun h => by cases h) (fun _ => ⟨_, rfl, _, _, _, h.blk.cell rfl, rfl, rfl⟩)
theorem setOne (w : World) (g o : Nat) (v : Value) {cur : List Value} (h : Blk w g cur) : Blk (setAll ((⟨g, 0, none⟩ : Addr).add o) 0 [v] w) g (cur.set o v) ∧ Fr (fun k => k = g) w (setAll ((⟨g, 0, none⟩ : Addr).add o) 0 [v] w) := by
  rw [add_new, Nat.zero_add]
  exact ⟨Blk.setAll (o := o) [v] 0 h, Fr.setAll [v] 0 w⟩
theorem okOne {w : World} {g o : Nat} {cur : List Value} (h : Blk w g cur) (ho : o < cur.length) (v : Value) : stOK ((⟨g, 0, none⟩ : Addr).add o) 0 [v] w := by
  rw [add_new, Nat.zero_add]
  exact h.stOK [v] 0 (by simp; omega)
theorem Rewind_spec {R : Nat → Prop} {w : World} {g : Nat} {L : Option Addr} {lc : Nat} {D : Option Addr} {dc : Nat} {st : St} (h : Sor R w g L lc D dc st) :
    CallsV Try.prog 24 #[.pointer (some ⟨g, 0, none⟩)] w fun r w' => r = .int .i64 (if st.sorted then 0 else 70) ∧ Sor R w' g L lc D dc (if st.sorted then { st with at_ := 0 } else st) ∧ Fr (fun k => k = g) w w' := by
  refine sorter_Sorter_Rewind.calls okay ?_
  unfold sorter_Sorter_Rewind.W
  refine (may_spec h true).same ⟨_, rfl, ?_⟩
  cases hs : st.sorted with
  | false => exact brn (fun _ => ⟨rfl, h, .refl _ _⟩) (fun h => by cases h)
  | true =>
    refine brn (fun h => absurd rfl h) (fun _ => ⟨_, rfl, okOne h.blk (show 5 < 6 by decide) _, ?_⟩)
    rintro w' rfl
    obtain ⟨b, f⟩ := setOne w g 5 (.int .i64 0) h.blk
    rw [if_pos rfl, if_pos rfl]
    exact ⟨rfl, h.touch f (by simpa [sc, hs] using b) rfl rfl (Nat.zero_le _) (fun _ => rfl), f⟩

/-- Clone, of values -/
theorem CloneV_spec {w : World} {A : Option Addr} {c : Nat} {l : List V} (h : Imm KV NoB w A l) (hl : l.length ≤ 1000000) :
    CallsV Try.prog 38 #[.slice A l.length c] w fun r w' => ∃ A' c', r = .slice A' l.length c' ∧ OwnK KV w' A' c' l ∧ Ext w w' ∧ New w A' := by
  refine slices_Clone_api_Value_api_Value.calls okay ?_
  unfold slices_Clone_api_Value_api_Value.W
  refine br (fun hn => ?_) (fun hn => ?_)
  · have hA : A = none := by cases A <;> simp_all
    have : l = [] := by
      cases l with
      | nil => rfl
      | cons v l => obtain ⟨ad, h, _⟩ := h 0 v rfl; rw [hA] at h; cases h
    subst this
    exact ⟨none, 0, rfl, OwnK.nil _ _, .refl _ _, New.none _⟩
  · intro g w1 f
    have e := f.ext
    have hg := f.ge
    obtain ⟨rfl, rfl⟩ := f
    have ho : OwnK KV (w.alloc (.cells (([] : List Value).toArray) 31)) (some ⟨w.heap.size, 0, none⟩) 0 [] := ownK_lit (K := KV) (l := []) rfl (by simp [maxLen]) (fun i a h => by simp at h)
    obtain ⟨A', c', w', hr, ho', g'⟩ := ho.append slV (ty := 32) (cb := c) (h.toOwn KV_pos e (New.self w 0 none)) (KV_one _ _) (by simp only [maxLen, List.length_nil]; omega) (by simp only [List.length_nil]; omega)
    refine ⟨_, _, _, _, hr, A', c', by simp, by simpa using ho', g'.ext e (New.self w 0 none), g'.new e (New.self w 0 none)⟩
theorem KBo_one : ∀ (Ω : Nat → Prop) (w : World) a cs, Kd.bool.rep Ω w a cs → ∀ v ∈ cs, v.oneCell' = true := by
  intro Ω w a cs h v hv
  have h : cs = [.bool a] := h
  subst h
  simp at hv; subst hv; rfl
theorem CloneF_spec {w : World} {A : Option Addr} {c : Nat} {l : List Bool} (h : Imm Kd.bool NoB w A l) (hl : l.length ≤ 1000000) :
    CallsV Try.prog 34 #[.slice A l.length c] w fun r w' => ∃ A' c', r = .slice A' l.length c' ∧ OwnK Kd.bool w' A' c' l ∧ Ext w w' ∧ New w A' := by
  refine slices_Clone_bool_bool.calls okay ?_
  unfold slices_Clone_bool_bool.W
  refine br (fun hn => ?_) (fun hn => ?_)
  · have hA : A = none := by cases A <;> simp_all
    have : l = [] := by
      cases l with
      | nil => rfl
      | cons v l => obtain ⟨ad, h, _⟩ := h 0 v rfl; rw [hA] at h; cases h
    subst this
    exact ⟨none, 0, rfl, OwnK.nil _ _, .refl _ _, New.none _⟩
  · intro g w1 f
    have e := f.ext
    obtain ⟨rfl, rfl⟩ := f
    have ho : OwnK Kd.bool (w.alloc (.cells (([] : List Value).toArray) 4)) (some ⟨w.heap.size, 0, none⟩) 0 [] := ownK_lit (K := Kd.bool) (l := []) rfl (by simp [maxLen]) (fun i a h => by simp at h)
    obtain ⟨A', c', w', hr, ho', g'⟩ := ho.append slBo (ty := 36) (cb := c) (h.toOwn KBo_pos e (New.self w 0 none)) (KBo_one _ _) (by simp only [maxLen, List.length_nil]; omega) (by simp only [List.length_nil]; omega)
    refine ⟨_, _, _, _, hr, A', c', by simp, by simpa using ho', g'.ext e (New.self w 0 none), g'.new e (New.self w 0 none)⟩
theorem New_spec {w : World} {A : Option Addr} {c : Nat} {ds : List Bool} (h : Imm Kd.bool NoB w A ds) (hl : ds.length ≤ 200) (dist : Bool) :
    CallsV Try.prog 14 #[.slice A ds.length c, .bool dist] w fun r w' => ∃ g D dc, r = .tuple #[.pointer (some ⟨g, 0, none⟩), .int .i64 0] ∧ Sor (fun k => w.heap.size ≤ k) w' g none 0 D dc ⟨ds, dist, [], false, 0⟩ ∧ Ext w w' := by
  refine sorter_New.calls okay ?_
  unfold sorter_New.W
  refine brd (fun h => by omega) (fun _ => ?_)
  refine (CloneF_spec h (by omega)).mono ?_
  rintro _ w1 ⟨D, dc, rfl, ho, e1, n1⟩
  refine ⟨_, _, _, rfl, ?_⟩
  intro g w2 f
  have hge := Nat.le_trans e1.size f.ge
  refine ⟨g, D, dc, rfl, ⟨f.blk, hge, fun k hk => (ownB_none k hk).elim, ownB_none g, ho.le, ?_, OwnK.nil _ _, by simp, hl, Nat.le_refl _, fun _ => rfl⟩, e1.trans' f.ext⟩
  have hlt := ho.lt
  have hfg := f.ge
  obtain ⟨xs, hx, hr⟩ := ho.ext f.ext
  refine Own.imm (K := Kd.bool) KBo_pos hx (fun k hk => ?_) hr
  rintro (h | h | h)
  · exact h (n1 k hk)
  · have := hlt k hk; omega
  · exact ownB_none k h
end Go.Proofs.Ytakmlaliglmnmaa
