/- Layer 3 (record): Unkey. -/
import Derived.Test.YtpaockbhbdeekaaG3
import Derived.Test.YtpaockbhbdeekaaSxFix
set_option linter.unusedVariables false
set_option linter.unusedSimpArgs false
namespace Go.Proofs.Ytpaockbhbdeekaa
open Go Go.Sx R1

theorem unesc_le : ∀ (l : List UInt8) (s : List UInt8) (n : Nat), unesc l = some (s, n) → n ≤ l.length ∧ s.length ≤ n := by
  intro l
  induction hk : l.length using Nat.strongRecOn generalizing l with
  | ind k ih =>
    intro s n h
    subst hk
    match l, h with
    | [], h => rw [unesc] at h; cases h
    | [c], h => rw [unesc] at h; cases h
    | c :: d :: r, h =>
      rw [unesc2] at h
      split at h
      · cases hu : unesc (d :: r) with
        | none => rw [hu] at h; cases h
        | some x =>
          rw [hu] at h
          have := ih _ (by simp) (d :: r) rfl x.1 x.2 hu
          simp only [Option.map_some, Option.some.injEq, Prod.mk.injEq] at h
          obtain ⟨rfl, rfl⟩ := h
          simp only [List.length_cons] at this ⊢
          omega
      · split at h
        · cases hu : unesc r with
          | none => rw [hu] at h; cases h
          | some x =>
            rw [hu] at h
            have := ih _ (by simp only [List.length_cons]; omega) r rfl x.1 x.2 hu
            simp only [Option.map_some, Option.some.injEq, Prod.mk.injEq] at h
            obtain ⟨rfl, rfl⟩ := h
            simp only [List.length_cons] at this ⊢
            omega
        · split at h
          · simp only [Option.some.injEq, Prod.mk.injEq] at h
            obtain ⟨rfl, rfl⟩ := h
            simp
          · cases h
theorem parted_le {b : List UInt8} {v : V} {n : Nat} (h : partedP b = some (v, n)) : n ≤ b.length := by
  match b, h with
  | [], h => cases h
  | t :: r, h =>
    rw [partedP] at h
    split at h
    · cases h; simp
    · split at h
      · split at h
        · cases h
        · cases h; simp; omega
      · split at h
        · cases hu : unesc r with
          | none => rw [hu] at h; cases h
          | some x =>
            obtain ⟨s, m⟩ := x
            have := (unesc_le r s m hu).1
            rw [hu] at h
            dsimp only at h
            split at h
            · cases h; simp; omega
            · cases h
        · cases h
theorem nn8 (b : UInt8) : ~~~(~~~b) = b := UInt8.eq_of_toBitVec_eq (by simp)
theorem tn_tn (d : Bool) (l : List UInt8) : tn d (tn d l) = l := by
  cases d
  · rfl
  · simp [tn, Function.comp_def, nn8]
theorem tn_swap (d : Bool) (l : List UInt8) : tn (!d) (tn true l) = tn d l := by
  cases d
  · simp [tn, Function.comp_def, nn8]
  · simp [tn]
theorem tn_drop (d : Bool) (l : List UInt8) (n : Nat) : (tn d l).drop n = tn d (l.drop n) := by
  cases d
  · rfl
  · simp [tn, List.map_drop]
theorem tn_nil (d : Bool) : tn d [] = [] := by cases d <;> rfl
theorem CloneB_spec {w : World} {A : Option Addr} {c n : Nat} {l : List UInt8} (hn : n = l.length) (h : Imm KB NoB w A l) (hl : l.length ≤ 1048576) :
    CallsV Try.prog 57 #[.slice A n c] w fun r w' => ∃ A' c', r = .slice A' l.length c' ∧ OwnB w' A' c' l ∧ Ext w w' ∧ New w A' := by
  subst hn
  refine slices_Clone_byte_byte.calls okay ?_
  unfold slices_Clone_byte_byte.W
  refine br (fun hn => ?_) (fun hn => ?_)
  · have hA : A = none := by cases A <;> simp_all
    have : l = [] := by
      cases l with
      | nil => rfl
      | cons v l => obtain ⟨ad, h, _⟩ := h 0 v rfl; rw [hA] at h; cases h
    subst this
    exact ⟨none, 0, rfl, OwnB.nil _, .refl _ _, New.none _⟩
  · intro g w1 f
    have e := f.ext
    obtain ⟨rfl, rfl⟩ := f
    have ho : OwnB (w.alloc (.cells (([] : List Value).toArray) 5)) (some ⟨w.heap.size, 0, none⟩) 0 [] := ownB_lit (w := w) (l := []) (by simp [maxLen])
    obtain ⟨A', c', w', hr, ho', g'⟩ := appendBs ho (Src.bytes (P := Try.prog) (c := c) (h.ext KB_pos e)) (by simp; omega) 27 isB
    refine ⟨_, _, _, _, hr, A', c', by simp, by simpa using ho', g'.ext e (New.self w 0 none), g'.new e (New.self w 0 none)⟩
theorem turn_nil {w : World} {X : Option Addr} {c : Nat} : CallsV Try.prog 39 #[.slice X 0 c] w fun r w' => r = .tuple #[] ∧ w' = w := by
  refine record_turn.calls okay ?_
  unfold record_turn.W
  refine ⟨fun x u => x = 0 ∧ u = w, fun _ _ => 0, ⟨rfl, rfl⟩, ?_⟩
  rintro x u ⟨rfl, rfl⟩
  exact brd (fun h => by simp at h) (fun _ => ⟨rfl, rfl⟩)
/-- the rest of a clone: its place -/
def RestAt (A x5 : Option Addr) (p r : List UInt8) : Prop := r ≠ [] → ∃ g, A = some ⟨g, 0, none⟩ ∧ x5 = some ⟨g, p.length, none⟩
theorem restImm {u : World} {A x5 : Option Addr} {c : Nat} {p r : List UInt8} (ho : OwnB u A c (p ++ r)) (hr : RestAt A x5 p r) : Imm KB NoB u x5 r := by
  cases r with
  | nil => exact Imm.nil _ _ _ _
  | cons a r =>
    obtain ⟨g, hA, hx⟩ := hr (by simp)
    subst hA; subst hx
    have := ho.imm0.cut (lo := p.length) (hi := (p ++ a :: r).length) (m := (p ++ a :: r).length) (Nat.le_refl _)
    rw [List.take_length, List.drop_left] at this
    rwa [show cutAt (some (⟨g, 0, none⟩ : Addr)) (p ++ a :: r).length p.length KB.size = some ⟨g, p.length, none⟩ by
      unfold cutAt; rw [if_neg (by simp)]; simp [add_new, show KB.size = 1 from rfl]] at this
def unkeyRR (b : List UInt8) (ds : List Bool) : List V × Int := match unkeyR b ds with | none => ([], 10) | some l => (l, 0)
theorem dropFl (l : List Bool) (j : Nat) (h : j < l.length) : l.drop j = l.getD j false :: l.drop (j + 1) := by
  rw [List.drop_eq_getElem_cons h]; simp [List.getD, h]
theorem Unkey_spec {w : World} {A0 D : Option Addr} {c dc n m : Nat} {b : List UInt8} {ds : List Bool} (hn : n = b.length) (hm : m = ds.length) (h : Imm KB NoB w A0 b) (hD : Imm Kd.bool NoB w D ds) (hl : b.length ≤ maxLen) (hdl : ds.length ≤ maxLen) :
    CallsV Try.prog 26 #[.slice A0 n c, .slice D m dc] w fun r w' => TellsR w (unkeyRR b ds) r w' := by
  subst hn; subst hm
  refine record_Unkey.calls okay ?_
  unfold record_Unkey.W
  simp only [maxLen] at hl hdl
  have bad : ∀ {w'}, unkeyR b ds = none → Ext w w' → TellsR w (unkeyRR b ds) (.tuple #[.slice none 0 0, .int .i64 10]) w' := by
    intro w' hp e
    unfold unkeyRR; rw [hp]; exact TellsR.nil e 10
  refine brd (fun h2 => bad (by unfold unkeyR; rw [if_pos (.inl (by omega))]) (.refl _ _)) (fun h2 => brd (fun h3 => bad (by unfold unkeyR; rw [if_pos (.inr (by omega))]) (.refl _ _)) (fun h3 => ?_))
  have hU : unkeyR b ds = unkeyP b ds := by unfold unkeyR; rw [if_neg (by rintro (h | h) <;> omega)]
  refine (CloneB_spec rfl h (by omega)).mono ?_
  rintro _ w1 ⟨A, cA, rfl, oA, e1, nA⟩
  have hAlt := Own.lt oA
  have hAle := oA.le
  have hr0 : RestAt A A [] b := fun hne => by
    obtain ⟨g, hA, _⟩ := Own.at_ oA (j := 0) (by have := List.length_pos_iff.2 hne; omega)
    exact ⟨g, hA, hA⟩
  refine ⟨_, _, _, rfl, ?_⟩
  refine ⟨fun x x3 x4 x5 x6 x7 t q u => ∃ (j : Nat) (row : List V) (p r : List UInt8), j ≤ ds.length ∧ q = (j : Int) ∧ x3 = row.length ∧ row.length = j ∧ OwnK KV u x x4 row ∧ x6 = r.length ∧ r.length ≤ x7 ∧ (p ++ r).length = b.length ∧ RestAt A x5 p r ∧ OwnB u A cA (p ++ r) ∧ unkeyP b ds = (unkeyP (tn t r) (ds.drop j)).map (fun l => row ++ l) ∧ Ext w u ∧ New w1 x ∧ w1.heap.size ≤ u.heap.size,
    fun _ _ _ _ _ _ _ q _ => (ds.length - q).toNat, ⟨0, [], [], b, by omega, rfl, rfl, rfl, OwnK.nil _ _, rfl, hAle, rfl, hr0, oA, by rw [show tn false b = b from rfl]; cases hh : unkeyP b ds <;> simp [hh], e1, New.none _, Nat.le_refl _⟩, ?_⟩
  rintro x _ x4 x5 _ x7 t _ u ⟨j, row, p, r, hj, rfl, rfl, hrl, hoR, rfl, hr7, hpl, hat, hoA, hun, eu, nx, szu⟩
  refine brd (fun hlt => ?_) (fun hge => ?_)
  · have hjl : j < ds.length := by omega
    obtain ⟨ad, hD', hcD⟩ := itemF (hD.ext KBo_pos eu) (x := (j : Int)) (by omega) (by omega)
    have hdr := dropFl ds j hjl
    rw [hdr] at hun
    rw [Int.toNat_natCast] at hcD
    refine ⟨ad, hD', ⟨by omega, by omega⟩, _, hcD, ?_⟩
    generalize ds.getD j false = d0 at *
    have hnA : ∀ k, k < w.heap.size → ¬ ownB A k := fun k hk ho => absurd hk (Nat.not_lt.2 (nA k ho))
    have hxA : ∀ k, ownB x k → ¬ ownB A k := fun k hx ho => absurd (hAlt k ho) (Nat.not_lt.2 (nx k hx))
    refine ⟨fun tt v => tt = d0 ∧ ∃ r', r'.length = r.length ∧ tn d0 r' = tn t r ∧ OwnB v A cA (p ++ r') ∧ OwnK KV v x x4 row ∧ Ext w v ∧ w1.heap.size ≤ v.heap.size, ?_, ?_⟩
    · rintro d1 v ⟨htt, r', hrl', htr, hoA', hoR', ewv, szv⟩
      subst htt
      rw [← hrl'] at hr7 ⊢
      have hat' : RestAt A x5 p r' := fun hne => hat (by intro h; rw [h] at hrl'; exact hne (List.eq_nil_of_length_eq_zero hrl'))
      have hI := restImm hoA' hat'
      rw [List.length_append] at hpl
      refine (parted_spec rfl hI (by omega) (by omega)).mono ?_
      rintro _ v1 ⟨val, nn, rfl, hval, a1⟩
      refine ⟨_, _, _, _, _, rfl, ?_⟩
      intro g v2 f2
      refine ⟨okW3 f2.blk _ _ _, ?_⟩
      intro v3 hv3
      have b3 := setW3 f2.blk (.int .u8 val.k) (.int .i64 val.n) (.string val.s)
      have e3 : Ext v1 v3 := by rw [hv3]; exact f2.ext.setAll f2.ge _ _
      rw [← hv3] at b3
      have a3 := a1.trans' e3
      have ewv3 := ewv.trans' a3
      have hst : unkeyP (tn t r) (d1 :: ds.drop (j + 1)) = match partedP r' with
          | none => none
          | some (v, n) => (unkeyP ((tn t r).drop n) (ds.drop (j + 1))).map fun l => v :: l := by
        rw [unkeyP, ← htr, tn_tn]; cases partedP r' <;> rfl
      cases hp : partedP r' with
      | none =>
        refine brnb (fun _ => bad ?_ ewv3) (fun h => by cases h)
        rw [hU, hun, hst, hp]; rfl
      | some pr =>
        obtain ⟨val', n'⟩ := pr
        cases hval _ hp
        have hle := parted_le hp
        refine brnb (fun h => by cases h) (fun _ => ?_)
        have e34 : Ext v3 v3.drew := Fr.drew NoB v3
        refine ⟨fun z => Ext v3 z, e34, _, fun z hz => (b3.ext hz).cell rfl, _, fun z hz => (b3.ext hz).cell rfl, _, fun z hz => (b3.ext hz).cell rfl, ⟨by omega, by omega⟩, ?_⟩
        intro g4 v4 f4
        obtain ⟨rfl, rfl⟩ := f4
        have a4 := a3.trans' e34
        have hjm : row.length + 1 ≤ 1048576 := by omega
        obtain ⟨y, y2, v5, hr5, ho5, g5⟩ := (hoR'.ext a4).push slV (ty := 22) (K := KV) (a := val) (cs := vc val) (e' := 37) rfl (KV_one (fun _ => False) v3 val (vc val) rfl) (by simp only [maxLen]; omega) (by omega)
        refine ⟨_, _, _, _, hr5, ?_⟩
        rw [wi _ (by omega) (by omega), Int.toNat_natCast]
        have nxw : New w x := nx.ext e1
        refine ⟨⟨j + 1, row ++ [val], p ++ r'.take nn, r'.drop nn, by omega, rfl, rfl, by simp [hrl], ho5, by rw [List.length_drop], by rw [List.length_drop]; omega, ?_, ?_, ?_, ?_, g5.ext (ewv.trans' a4) nxw, ?_, ?_⟩, by dsimp only; omega⟩
        · rw [List.append_assoc, List.take_append_drop, List.length_append]; omega
        · intro hne
          have hlt2 : nn < r'.length := by
            rcases Nat.lt_or_ge nn r'.length with h | h
            · exact h
            · exact absurd (List.drop_eq_nil_of_le h) hne
          obtain ⟨g', hA', hx5⟩ := hat' (by intro h; rw [h] at hlt2; simp at hlt2)
          refine ⟨g', hA', ?_⟩
          rw [hx5]
          unfold cutAt
          rw [if_neg (by omega)]
          simp [add_new, Addr.add, Nat.min_eq_left (Nat.le_of_lt hlt2)]
        · rw [List.append_assoc, List.take_append_drop]
          exact (hoA'.ext a4).keep g5.fr (fun k ho hx => hxA k hx ho)
        · rw [hun, hst, hp]
          dsimp only
          rw [← htr, tn_drop]
          cases unkeyP (tn d1 (r'.drop nn)) (ds.drop (j + 1)) <;> simp
        · intro k hk
          rcases g5.sub k hk with h | h
          · exact nx k h
          · exact Nat.le_trans szv (Nat.le_trans a4.size h)
        · exact Nat.le_trans szv (Nat.le_trans a4.size g5.fr.size)
    · refine brn (fun hne => ?_) (fun heq => ?_)
      · have hdt : d0 = !t := by cases d0 <;> cases t <;> simp_all
        have fin : ∀ u2, OwnB u2 A cA (p ++ tn true r) → Fr (ownB A) u u2 → (Value.tuple #[] = .tuple #[] ∧ (d0 = d0 ∧ ∃ r', r'.length = r.length ∧ tn d0 r' = tn t r ∧ OwnB u2 A cA (p ++ r') ∧ OwnK KV u2 x x4 row ∧ Ext w u2 ∧ w1.heap.size ≤ u2.heap.size)) := by
          intro u2 ho2 hf2
          refine ⟨rfl, rfl, tn true r, tn_length _ _, by rw [hdt]; exact tn_swap t r, ho2, OwnK.fr hoR hf2 hxA (fun a cs _ h => h), eu.trans hf2 (fun _ _ h => h) (fun k hk ho => (hnA k hk ho).elim), Nat.le_trans szu hf2.size⟩
        by_cases hr0 : r = []
        · subst hr0
          refine turn_nil.mono ?_
          rintro _ u2 ⟨rfl, rfl⟩
          exact fin _ hoA (.refl _ _)
        · obtain ⟨g', hA', hx5⟩ := hat hr0
          rw [hx5]
          refine (turn_spec hoA (by omega) hA' x7).mono ?_
          rintro _ u2 ⟨rfl, ho2, hf2⟩
          exact fin _ ho2 hf2
      · subst heq
        exact ⟨rfl, r, rfl, rfl, hoA, hoR, eu, szu⟩
  · obtain rfl : j = ds.length := by omega
    rw [List.drop_length] at hun
    refine brd (fun hpos => bad ?_ eu) (fun hpos => ?_)
    · rw [hU, hun, unkeyP, if_neg]
      · rfl
      · intro he
        have := tn_length t r
        rw [he] at this
        simp at this; omega
    · have hr0 : r = [] := List.eq_nil_of_length_eq_zero (by omega)
      rw [hr0, tn_nil] at hun
      have : unkeyR b ds = some row := by rw [hU, hun]; simp [unkeyP]
      unfold unkeyRR
      rw [this]
      exact ⟨x, x4, rfl, hoR, eu, fun k hk => Nat.le_trans e1.size (nx k hk)⟩
end Go.Proofs.Ytpaockbhbdeekaa
