/- Layer 7: the chapter's examples come out as written. -/
import Derived.Test.YtakmlaliglmnmaaS9
import Derived.Test.YtakmlaliglmnmaaNestsA
set_option linter.unusedVariables false
set_option linter.unusedSimpArgs false
namespace Go.Proofs.Ytakmlaliglmnmaa
open Go Go.Sx R1 S1 Go.Lib

/-- two sorters apart, from base b on -/
structure Two (b : Nat) (u : World) (Rs Rt : Nat → Prop) : Prop where
  ap : ∀ k, Rs k → ¬ Rt k
  bs : ∀ k, Rs k → b ≤ k ∧ k < u.heap.size
  bt : ∀ k, Rt k → b ≤ k ∧ k < u.heap.size
theorem Two.swap {b : Nat} {u : World} {Rs Rt : Nat → Prop} (h : Two b u Rs Rt) : Two b u Rt Rs := ⟨fun k h1 h2 => h.ap k h2 h1, h.bt, h.bs⟩
theorem Two.ext {b : Nat} {u u' : World} {Rs Rt : Nat → Prop} (h : Two b u Rs Rt) (e : Ext u u') : Two b u' Rs Rt := ⟨h.ap, fun k hk => ⟨(h.bs k hk).1, Nat.lt_of_lt_of_le (h.bs k hk).2 e.size⟩, fun k hk => ⟨(h.bt k hk).1, Nat.lt_of_lt_of_le (h.bt k hk).2 e.size⟩⟩
/-- what the first one may grow into -/
def Grow (R : Nat → Prop) (u : World) : Nat → Prop := fun k => R k ∨ u.heap.size ≤ k
theorem Two.move {b : Nat} {u u' : World} {Rs Rt : Nat → Prop} (h : Two b u Rs Rt) (hb : b ≤ u.heap.size) {gs gt : Nat} {Ls Lt : Option Addr} {lcs lct : Nat} {Ds Dt : Option Addr} {dcs dct : Nat} {ss st ss' : St} (hs : Sor Rs u gs Ls lcs Ds dcs ss) (ht : Sor Rt u gt Lt lct Dt dct st) (m : Moved (Grow Rs u) u u' gs Ls Ds dcs ss') :
    ∃ Rs' Ls' lcs', Two b u' Rs' Rt ∧ Sor Rs' u' gs Ls' lcs' Ds dcs ss' ∧ Sor Rt u' gt Lt lct Dt dct st ∧ u.heap.size ≤ u'.heap.size ∧ (∀ k, Rs' k → Rs k ∨ u.heap.size ≤ k) ∧ ∀ w0, Ext w0 u → w0.heap.size ≤ b → Ext w0 u' := by
  obtain ⟨L', lc', h', hf, hL⟩ := m
  have hsub : ∀ k, (k = gs ∨ ownB Ls k) → Rs k := fun k hk => by
    rcases hk with rfl | hk
    · exact hs.rg
    · exact hs.rL k hk
  refine ⟨fun k => Grow Rs u k ∧ k < u'.heap.size, L', lc', ⟨fun k hk hk' => ?_, fun k hk => ⟨?_, hk.2⟩, fun k hk => ⟨(h.bt k hk).1, Nat.lt_of_lt_of_le (h.bt k hk).2 hf.size⟩⟩, h'.sub fun k hk hr => ⟨hr, hk⟩, ht.frame hf (fun k _ hk => h.ap k (hsub k hk)), hf.size, fun k hk => hk.1, fun w0 e0 hw0 => ?_⟩
  · rcases hk.1 with hk1 | hk1
    · exact h.ap k hk1 hk'
    · exact absurd (h.bt k hk').2 (Nat.not_lt.2 hk1)
  · rcases hk.1 with hk1 | hk1
    · exact (h.bs k hk1).1
    · exact Nat.le_trans hb hk1
  · exact e0.trans hf (fun _ _ h => h) (fun k hk hk' => absurd (Nat.le_trans hw0 (h.bs k (hsub k hk')).1) (Nat.not_le.2 hk))
theorem growSor {R : Nat → Prop} {u : World} {g : Nat} {L : Option Addr} {lc : Nat} {D : Option Addr} {dc : Nat} {st : St} (h : Sor R u g L lc D dc st) : Sor (Grow R u) u g L lc D dc st := h.sub fun k _ hr => .inl hr

/-- the rows A, B, C, of one key -/
def abc : Nat → List S1.One
  | 0 => []
  | i + 1 => abc i ++ [⟨[], [textV (letter i)]⟩]
def abcS (dist : Bool) (n : Nat) : St := ⟨[], dist, abc n, false, 0⟩
theorem abc_add (dist : Bool) (n : Nat) (h : n < 3) : addE (abcS dist n) [] [textV (letter n)] = 0 ∧ addS (abcS dist n) [] [textV (letter n)] = abcS dist (n + 1) := by
  have hl := letter_size n (by omega)
  have hlen : ∀ n, (abc n).length = n := by
    intro n
    induction n with
    | zero => rfl
    | succ n ih => rw [abc, List.length_append, ih]; rfl
  have hE : addE (abcS dist n) [] [textV (letter n)] = 0 := addE_small rfl SmallR.nil rfl (SmallR.cons (right_text _ (by omega)) (show (letter n).size ≤ 100 by omega) SmallR.nil (by decide)) (by show (abc n).length < 65536; rw [hlen]; omega)
  refine ⟨hE, ?_⟩
  rw [addS, if_pos hE]
  rfl
theorem brSt {x y : ByteArray} {A B : Prop} (h : x = y) (k : A) : cond (ByteArray.toList x == ByteArray.toList y) A B := by
  subst h; simp; exact k
def ks4 : List V := [numV 2, numV 1, numV 2, ⟨0, 0, ByteArray.mk #[]⟩]
theorem ks4_good : ∀ v ∈ ks4, good v := by
  intro v hv
  simp only [ks4, List.mem_cons, List.not_mem_nil, or_false] at hv
  rcases hv with rfl | rfl | rfl | rfl <;> exact ⟨by decide, by decide, by decide +kernel⟩
theorem ks4_right : ∀ v ∈ ks4, right v = true ∧ v.s.size ≤ 100 := by
  intro v hv
  simp only [ks4, List.mem_cons, List.not_mem_nil, or_false] at hv
  rcases hv with rfl | rfl | rfl | rfl <;> exact ⟨by decide +kernel, by decide +kernel⟩
theorem ord1 : cat' (ByteArray.mk #[]) (sorted' ⟨[false], false, ordL false ks4 4, false, 0⟩) = ByteArray.mk #[68, 66, 65, 67] := by kernel_rfl
theorem ord2 : cat' (ByteArray.mk #[]) (sorted' ⟨[false], true, ordL false ks4 4, false, 0⟩) = ByteArray.mk #[68, 66, 65] := by kernel_rfl
theorem ord3 : cat' (ByteArray.mk #[]) (sorted' ⟨[true], false, ordL true ks4 4, false, 0⟩) = ByteArray.mk #[65, 67, 66, 68] := by kernel_rfl
theorem abcF : cat' (ByteArray.mk #[]) (sorted' (abcS false 3)) = ByteArray.mk #[65, 66, 67] := by kernel_rfl
theorem abcT : cat' (ByteArray.mk #[]) (sorted' (abcS true 3)) = ByteArray.mk #[65] := by kernel_rfl
theorem abc_one : ∀ x ∈ abc 3, x.r.length = 1 ∧ (x.r.getD 0 V0).s.size ≤ 100 := by
  intro x hx
  have : abc 3 = [⟨[], [textV (letter 0)]⟩, ⟨[], [textV (letter 1)]⟩, ⟨[], [textV (letter 2)]⟩] := rfl
  rw [this] at hx
  simp only [List.mem_cons, List.not_mem_nil, or_false] at hx
  rcases hx with rfl | rfl | rfl <;> exact ⟨rfl, by decide +kernel⟩
theorem immNil {α : Type} (K : Kd α) (w : World) : Imm K NoB w none [] := Imm.nil K _ _ _

theorem awake_spec (w : World) : CallsV Try.prog 11 #[] w fun v w' => v = .bool true ∧ Ext w w' := by
  refine cardindexlaw07_awake.calls okay ?_
  unfold cardindexlaw07_awake.W
  intro g0 w0 f0
  refine ⟨okV3 f0.blk _ _ _, ?_⟩
  intro w1 hw1
  have bn := setV3 f0.blk (.int .u8 0) (.int .i64 0) (.string (ByteArray.mk #[]))
  have e1 : Ext w w1 := by rw [hw1]; exact f0.ext.setAll f0.ge _ _
  rw [← hw1] at bn
  refine (New_spec (A := none) (c := 0) (ds := []) (immNil _ _) (by simp) false).mono ?_
  rintro _ w2 ⟨gs, Ds, dcs, rfl, hs, e2⟩
  refine ⟨_, _, rfl, ?_⟩
  refine (New_spec (A := none) (c := 0) (ds := []) (immNil _ _) (by simp) true).mono ?_
  rintro _ w3 ⟨gt, Dt, dct, rfl, ht, e3⟩
  refine ⟨_, _, rfl, brn (fun h => absurd rfl h) (fun _ => brn (fun h => absurd rfl h) (fun _ => ?_))⟩
  intro gl w4 f4
  have e34 := e3.trans' f4.ext
  have ew4 := (e1.trans' e2).trans' e34
  have hs2 : Sor (fun k => w1.heap.size ≤ k ∧ k < w2.heap.size) w4 gs none 0 Ds dcs (abcS false 0) := (hs.sub fun k hk hr => ⟨hr, hk⟩).ext e34
  have ht2 : Sor (fun k => w2.heap.size ≤ k ∧ k < w3.heap.size) w4 gt none 0 Dt dct (abcS true 0) := (ht.sub fun k hk hr => ⟨hr, hk⟩).ext f4.ext
  have htwo : Two w1.heap.size w4 (fun k => w1.heap.size ≤ k ∧ k < w2.heap.size) (fun k => w2.heap.size ≤ k ∧ k < w3.heap.size) :=
    ⟨fun k h1 h2 => by omega, fun k h => ⟨h.1, Nat.lt_of_lt_of_le h.2 e34.size⟩, fun k h => ⟨Nat.le_trans e2.size h.1, Nat.lt_of_lt_of_le h.2 f4.ext.size⟩⟩
  have hb4 : w1.heap.size ≤ w4.heap.size := Nat.le_trans e2.size e34.size
  have hw1s : w.heap.size ≤ w1.heap.size := e1.size
  have f4b := f4.blk
  have hgl1 : w1.heap.size ≤ gl := Nat.le_trans (Nat.le_trans e2.size e3.size) f4.ge
  have hgls : ∀ k, (w1.heap.size ≤ k ∧ k < w2.heap.size) → k ≠ gl := fun k hk => by have := f4.ge; have := e3.size; omega
  have hglt : ∀ k, (w2.heap.size ≤ k ∧ k < w3.heap.size) → k ≠ gl := fun k hk => by have := f4.ge; omega
  refine ⟨fun x u => ∃ j : Nat, j ≤ 3 ∧ x = (j : Int) ∧ ∃ Rs Rt Ls lcs Lt lct, Two w1.heap.size u Rs Rt ∧ Sor Rs u gs Ls lcs Ds dcs (abcS false j) ∧ Sor Rt u gt Lt lct Dt dct (abcS true j) ∧ w1.heap.size ≤ u.heap.size ∧ Ext w u ∧ Ext w1 u ∧ Blk u gl [.string (ByteArray.mk #[65]), .string (ByteArray.mk #[66]), .string (ByteArray.mk #[67])] ∧ ¬ Rs gl ∧ ¬ Rt gl,
    fun x _ => (3 - x).toNat, ⟨0, by omega, rfl, _, _, none, 0, none, 0, htwo, hs2, ht2, hb4, ew4, e2.trans' e34, f4b, fun h => hgls _ h rfl, fun h => hglt _ h rfl⟩, ?_⟩
  rintro _ u ⟨j, hj, rfl, Rs, Rt, Ls, lcs, Lt, lct, two, hs, ht, hb, eu, eu1, bl, nls, nlt⟩
  refine brd (fun hlt => ?_) (fun hge => ?_)
  · have hj3 : j < 3 := by omega
    have hcell : u.cell? ((⟨gl, 0, none⟩ : Addr).add (j * 1)) = some (.string (letter j)) := by
      have : j = 0 ∨ j = 1 ∨ j = 2 := by omega
      rcases this with rfl | rfl | rfl
      · rw [show letter 0 = ByteArray.mk #[65] by kernel_rfl]; exact bl.cell rfl
      · rw [show letter 1 = ByteArray.mk #[66] by kernel_rfl]; exact bl.cell rfl
      · rw [show letter 2 = ByteArray.mk #[67] by kernel_rfl]; exact bl.cell rfl
    have hl8 := letter_size j (by omega)
    refine ⟨_, rfl, ⟨by omega, by omega⟩, _, by rw [Int.toNat_natCast]; exact hcell, ?_⟩
    have gtx : ∀ x ∈ [textV (letter j)], good x := fun x hx => by rw [List.mem_singleton.1 hx]; exact good_text _ (by omega)
    refine (text_spec u _).mono ?_
    rintro _ u1 ⟨rfl, a1⟩
    refine ⟨_, _, _, rfl, ?_⟩
    intro ga u2 fa
    have a2 := a1.trans' fa.ext
    have oa : OwnK KV u2 _ 1 [textV (letter j)] := freshRow fa [textV (letter j)] (by simp [maxLen]) rfl
    have hs2 := hs.ext a2
    refine (Add_spec (KA := none) (kc := 0) (key := []) (growSor hs2) (fun k hk => .inr hk) (immNil _ _) (oa.imm KV_pos) (fun _ h => by cases h) gtx (by simp [maxLen]) (by simp [maxLen])).mono ?_
    rintro _ u3 ⟨rfl, m3⟩
    obtain ⟨hE, hA⟩ := abc_add false j hj3
    rw [hA] at m3
    have fr3 : Fr Rs u2 u3 := by
      obtain ⟨_, _, _, hf, _⟩ := m3
      exact hf.mono fun k _ hk => by
        rcases hk with rfl | hk
        · exact hs2.rg
        · exact hs2.rL k hk
    obtain ⟨Rs3, Ls3, lcs3, two3, hs3, ht3, sz3, grow3, ext3⟩ := (two.ext a2).move (Nat.le_trans hb a2.size) hs2 (ht.ext a2) m3
    have bl3 := (bl.ext a2).keep fr3 nls
    refine ⟨_, rfl, ?_⟩
    refine (text_spec u3 _).mono ?_
    rintro _ u4 ⟨rfl, a4⟩
    refine ⟨_, _, _, rfl, ?_⟩
    intro gb u5 fb
    have a5 := a4.trans' fb.ext
    have ob : OwnK KV u5 _ 1 [textV (letter j)] := freshRow fb [textV (letter j)] (by simp [maxLen]) rfl
    have ht5 := ht3.ext a5
    refine (Add_spec (KA := none) (kc := 0) (key := []) (growSor ht5) (fun k hk => .inr hk) (immNil _ _) (ob.imm KV_pos) (fun _ h => by cases h) gtx (by simp [maxLen]) (by simp [maxLen])).mono ?_
    rintro _ u6 ⟨rfl, m6⟩
    obtain ⟨hE', hA'⟩ := abc_add true j hj3
    rw [hA'] at m6
    have fr6 : Fr Rt u5 u6 := by
      obtain ⟨_, _, _, hf, _⟩ := m6
      exact hf.mono fun k _ hk => by
        rcases hk with rfl | hk
        · exact ht5.rg
        · exact ht5.rL k hk
    have sz5 : w1.heap.size ≤ u5.heap.size := Nat.le_trans hb (Nat.le_trans a2.size (Nat.le_trans sz3 a5.size))
    obtain ⟨Rt6, Lt6, lct6, two6, ht6, hs6, sz6, grow6, ext6⟩ := (two3.ext a5).swap.move sz5 ht5 (hs3.ext a5) m6
    have bl6 := (bl3.ext a5).keep fr6 nlt
    have eu6 := ext6 w ((ext3 w (eu.trans' a2) hw1s).trans' a5) hw1s
    have eu16 := ext6 w1 ((ext3 w1 (eu1.trans' a2) (Nat.le_refl _)).trans' a5) (Nat.le_refl _)
    -- gl is no block of theirs
    have ngl : gl < u.heap.size := bl.lt
    refine ⟨_, rfl, ?_⟩
    rw [wi _ (by omega) (by omega)]
    have n3 : ¬ Rs3 gl := fun h => (grow3 gl h).elim nls (fun h => by have := a2.size; omega)
    have n6 : ¬ Rt6 gl := fun h => (grow6 gl h).elim nlt (fun h => by have := a2.size; have := a5.size; omega)
    exact ⟨⟨j + 1, by omega, rfl, Rs3, Rt6, Ls3, lcs3, Lt6, lct6, two6.swap, hs6, ht6, Nat.le_trans sz5 sz6, eu6, eu16, bl6, n3, n6⟩, by dsimp only; omega⟩
  · obtain rfl : j = 3 := by omega
    refine (Next_spec hs).mono ?_
    rintro _ u1 ⟨A, cA, rfl, oA, nA, hs1, f1⟩
    have hok : nextOk (abcS false 3) = false := rfl
    rw [hok]
    have hs1 : Sor Rs u1 gs Ls lcs Ds dcs (abcS false 3) := hs1
    have ht1 := ht.frame f1 (fun k _ e => by rw [e]; exact two.ap _ hs.rg)
    have two1 : Two w1.heap.size u1 Rs Rt := ⟨two.ap, fun k hk => ⟨(two.bs k hk).1, Nat.lt_of_lt_of_le (two.bs k hk).2 f1.size⟩, fun k hk => ⟨(two.bt k hk).1, Nat.lt_of_lt_of_le (two.bt k hk).2 f1.size⟩⟩
    have hgs : ∀ {w0 u : World}, w0.heap.size ≤ w1.heap.size → ∀ k, k < w0.heap.size → k = gs → False := fun hw k hk e => by
      have := (two.bs gs hs.rg).1; omega
    have eu1' : Ext w u1 := eu.trans f1 (fun _ _ h => h) (fun k hk e => hgs (u := u) hw1s k hk e)
    have eu11 : Ext w1 u1 := eu1.trans f1 (fun _ _ h => h) (fun k hk e => hgs (u := u) (Nat.le_refl _) k hk e)
    have sz1 := Nat.le_trans hb f1.size
    refine ⟨_, _, _, _, rfl, ?_⟩
    refine (Sort_spec (growSor hs1) (fun k hk => .inr hk)).mono ?_
    rintro _ u2 ⟨rfl, m2⟩
    obtain ⟨Rs2, Ls2, lcs2, two2, hs2, ht2, sz2, grow2, ext2⟩ := two1.move sz1 hs1 ht1 m2
    refine ⟨_, rfl, ?_⟩
    have sz2' := Nat.le_trans sz1 sz2
    refine (Sort_spec (growSor ht2) (fun k hk => .inr hk)).mono ?_
    rintro _ u3 ⟨rfl, m3⟩
    obtain ⟨Rt3, Lt3, lct3, two3, ht3, hs3, sz3, grow3, ext3⟩ := two2.swap.move sz2' ht2 hs2 m3
    refine ⟨_, rfl, ?_⟩
    have eu3 := ext3 w (ext2 w eu1' hw1s) hw1s
    have eu13 := ext3 w1 (ext2 w1 eu11 (Nat.le_refl _)) (Nat.le_refl _)
    have bn3 := bn.ext eu13
    -- three orders
    have hord : ∀ (v : World) (desc dist : Bool), ∀ {gv v4}, Fresh v gv v4 (ks4.flatMap vc) 31 → CallsV Try.prog 32 #[.bool desc, .bool dist, .slice (some ⟨gv, 0, none⟩) 4 4] v4 fun r w' => r = .string (cat' (ByteArray.mk #[]) (sorted' ⟨[desc], dist, ordL desc ks4 4, false, 0⟩)) ∧ Ext v4 w' := by
      intro v desc dist gv v4 fv
      exact orderL_spec (ks := ks4) ((freshRow fv ks4 (by simp [ks4, maxLen]) rfl).imm KV_pos) (by decide) ks4_right ks4_good desc dist
    refine ⟨fun z => Blk z g0 [.int .u8 0, .int .i64 0, .string (ByteArray.mk #[])], bn3.ext (Fr.drew NoB u3), _, fun z hz => hz.cell rfl, _, fun z hz => hz.cell rfl, _, fun z hz => hz.cell rfl, ?_⟩
    have d3 : Ext u3 u3.drew := Fr.drew NoB u3
    refine (num_spec _ 2).mono ?_
    rintro _ v1 ⟨rfl, a1⟩
    have d1 := d3.trans' a1
    refine ⟨_, _, _, rfl, bn3.ext d1, (num_spec _ 1).mono ?_⟩
    rintro _ v2 ⟨rfl, a2⟩
    have d2 := d1.trans' a2
    refine ⟨_, _, _, rfl, bn3.ext d2, (num_spec _ 2).mono ?_⟩
    rintro _ v3 ⟨rfl, a3⟩
    have d3 := d2.trans' a3
    refine ⟨_, _, _, rfl, bn3.ext d3, ?_⟩
    intro gv v4 fv
    have d4 := d3.trans' fv.ext
    refine (hord _ false false fv).mono ?_
    rintro _ v5 ⟨rfl, a5⟩
    have d5 := d4.trans' a5
    refine ⟨_, rfl, brSt ord1 ?_⟩
    refine ⟨fun z => Blk z g0 [.int .u8 0, .int .i64 0, .string (ByteArray.mk #[])], bn3.ext d5, _, fun z hz => hz.cell rfl, _, fun z hz => hz.cell rfl, _, fun z hz => hz.cell rfl, ?_⟩
    clear a1 a2 a3 a5 fv d1 d2 d3 d4
    refine (num_spec _ 2).mono ?_
    rintro _ v1 ⟨rfl, a1⟩
    have d1 := d5.trans' a1
    refine ⟨_, _, _, rfl, bn3.ext d1, (num_spec _ 1).mono ?_⟩
    rintro _ v2 ⟨rfl, a2⟩
    have d2 := d1.trans' a2
    refine ⟨_, _, _, rfl, bn3.ext d2, (num_spec _ 2).mono ?_⟩
    rintro _ v3 ⟨rfl, a3⟩
    have d3 := d2.trans' a3
    refine ⟨_, _, _, rfl, bn3.ext d3, ?_⟩
    intro gv v4 fv
    have d4 := d3.trans' fv.ext
    refine (hord _ false true fv).mono ?_
    rintro _ v6 ⟨rfl, a5⟩
    have d6 := d4.trans' a5
    refine ⟨_, rfl, brSt ord2 ?_⟩
    refine ⟨fun z => Blk z g0 [.int .u8 0, .int .i64 0, .string (ByteArray.mk #[])], bn3.ext d6, _, fun z hz => hz.cell rfl, _, fun z hz => hz.cell rfl, _, fun z hz => hz.cell rfl, ?_⟩
    clear a1 a2 a3 a5 fv d1 d2 d3 d4
    refine (num_spec _ 2).mono ?_
    rintro _ v1 ⟨rfl, a1⟩
    have d1 := d6.trans' a1
    refine ⟨_, _, _, rfl, bn3.ext d1, (num_spec _ 1).mono ?_⟩
    rintro _ v2 ⟨rfl, a2⟩
    have d2 := d1.trans' a2
    refine ⟨_, _, _, rfl, bn3.ext d2, (num_spec _ 2).mono ?_⟩
    rintro _ v3 ⟨rfl, a3⟩
    have d3 := d2.trans' a3
    refine ⟨_, _, _, rfl, bn3.ext d3, ?_⟩
    intro gv v4 fv
    have d4 := d3.trans' fv.ext
    refine (hord _ true false fv).mono ?_
    rintro _ v7 ⟨rfl, a5⟩
    have d7 := d4.trans' a5
    refine ⟨_, rfl, brSt ord3 ?_⟩
    refine brnb (fun _ => ?_) (fun h => by cases h)
    have hs7 := hs3.ext d7
    have ht7 := ht3.ext d7
    have len3 : ∀ d, (sorted' (abcS d 3)).length < 100 := fun d => Nat.lt_of_le_of_lt (sorted'_len _) (by show (abc 3).length < 100; decide)
    refine (all_spec hs7 rfl rfl (len3 false) (fun x hx => abc_one x (sorted'_mem (abcS false 3) x hx))).mono ?_
    rintro _ v8 ⟨rfl, hs8, f8⟩
    refine ⟨_, rfl, brSt abcF ?_⟩
    have ht8 := ht7.frame f8 (fun k _ e h => by rw [e] at h; exact two3.ap _ h hs7.rg)
    refine (all_spec ht8 rfl rfl (len3 true) (fun x hx => abc_one x (sorted'_mem (abcS true 3) x hx))).mono ?_
    rintro _ v9 ⟨rfl, ht9, f9⟩
    refine ⟨_, rfl, brSt abcT ?_⟩
    have hs9 := hs8.frame f9 (fun k _ e h => by rw [e] at h; exact two3.ap _ ht8.rg h)
    refine (Add_spec (KA := none) (kc := 0) (key := []) (RA := none) (rc := 0) (row := []) (growSor hs9) (fun k hk => .inr hk) (immNil _ _) (immNil _ _) (fun _ h => by cases h) (fun _ h => by cases h) (by simp [maxLen]) (by simp [maxLen])).mono ?_
    rintro _ v10 ⟨rfl, m10⟩
    refine ⟨_, rfl, rfl, ?_⟩
    have e7 : Ext w v7 := eu3.trans' d7
    have hgsb := (two3.bt gs hs3.rg).1
    have hgtb := (two3.bs gt ht3.rg).1
    have e8 : Ext w v8 := e7.trans f8 (fun _ _ h => h) (fun k hk e => by omega)
    have e9 : Ext w v9 := e8.trans f9 (fun _ _ h => h) (fun k hk e => by omega)
    refine m10.ext (growSor hs9) e9 (fun k hk => ?_)
    rcases hk with hk | hk
    · exact Nat.le_trans hw1s (two3.bt k hk).1
    · exact Nat.le_trans e9.size hk
end Go.Proofs.Ytakmlaliglmnmaa
