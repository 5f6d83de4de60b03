/- Part 8 of the texts of this claim: the engine, contracts, plain laws. -/
import Derived.Test.YtadlhdiejmilmaaZCPlays4P7
import Derived.Test.YtadlhdiejmilmaaZCPlays4P2
/- Layer 4: the chapter's examples. -/
set_option linter.unusedVariables false
set_option linter.unusedSimpArgs false
namespace Go.Proofs.Ytadlhdiejmilmaa
open Go Go.Sx T4
theorem room {A : Ar} {H : Nat} {es : Es} (S : Sole A H es) (hf : A.fan = 4) (hm : A.most = 10) (hl : es.length ≤ 4) : A.nodes + H + 1 ≤ A.most := by
  obtain ⟨h1, h2, h3, h4⟩ := S.up
  rw [hf] at h4
  have : H ≤ 2 := by
    refine Nat.le_of_not_lt fun h => ?_
    have h5 := h4 (by omega)
    have h6 : 2 ^ 2 ≤ 2 ^ (H - 1) := Nat.pow_le_pow_right (by decide) (by omega)
    have : (4 / 2) ^ (H - 1) = 2 ^ (H - 1) := rfl
    omega
  omega
theorem five {A : Ar} {H : Nat} {es : Es} (S : Sole A H es) (hf : A.fan = 4) (hl : es.length = 5) : H = 2 ∧ A.nodes = 3 := by
  obtain ⟨i, ps, Q, _, T, _, _, hn⟩ := S.at_
  obtain ⟨_, h2, _, h4⟩ := S.up
  rw [hf] at h4
  have h5 : H ≤ 2 := by
    refine Nat.le_of_not_lt fun h => ?_
    have h5 := h4 (by omega)
    have h6 : 2 ^ 2 ≤ 2 ^ (H - 1) := Nat.pow_le_pow_right (by decide) (by omega)
    have : (4 / 2) ^ (H - 1) = 2 ^ (H - 1) := rfl
    omega
  have ht := T.tree
  rw [hf] at ht
  have h1 : H = 1 ∨ H = 2 := by omega
  rcases h1 with rfl | rfl
  · obtain ⟨n, hn, hs, hc⟩ := ht
    rcases hc with ⟨_, _, hk, hke, _⟩ | ⟨h0, _⟩
    · have : n.size = es.length := by simp [Nod.size, hk, hke, keysE_length]
      omega
    · exact absurd h0 (by decide)
  · refine ⟨rfl, ?_⟩
    obtain ⟨n, _, hs, hc⟩ := ht
    rcases hc with ⟨h0, _⟩ | ⟨_, hm, _, ps', rfl, hk⟩
    · cases h0
    · have key : ∀ {lo hi : Option Key} {ks : List Key} {is : List Nat} {es : Es} {ps : List Nat}, T4.Kids (Tree A.nd 4 1 (2, 2)) lo hi ks is es ps → ps.length = is.length ∧ 2 * is.length ≤ es.length := by
        have one : ∀ {j : Nat} {lo hi : Option Key} {es : Es} {ps : List Nat}, Tree A.nd 4 1 (2, 2) j lo hi es ps → ps.length = 1 ∧ 2 ≤ es.length := by
          rintro j lo hi es ps ⟨m, _, _, hc⟩
          rcases hc with ⟨_, h1, h2, h3, _, _, _, rfl⟩ | ⟨h0, _⟩
          · have : m.size = es.length := by simp [Nod.size, h2, h3, keysE_length]
            have h1 : 2 ≤ m.size := h1
            exact ⟨rfl, by omega⟩
          · exact absurd h0 (by decide)
        intro lo hi ks is es ps hk
        induction hk with
        | one h => have := one h; simp; omega
        | cons h _ _ ih => have := one h; simp only [List.length_append, List.length_cons]; omega
      obtain ⟨k1, k2⟩ := key hk
      have hkl := hk.len
      have hm : 2 ≤ n.size := hm
      have hks : n.kids ≠ [] := fun e => by rw [e] at hkl; simp at hkl
      rw [Nod.size, if_neg hks] at hm
      rw [hn, List.length_cons]
      omega
theorem aPut {w0 : World} {R M : Nat → Prop} {w : World} {g : Nat} {A : Ar} (h : Hs w0 R M w g A) {H : Nat} {es : Es} (S : Sole A H es) (hf : A.fan = 4) (hm : A.most = 10) (hl : es.length ≤ 4) {key val : Key} {Ω1 Ω2 : Nat → Prop} {KA VA : Option Addr} (hKA : Imm KB Ω1 w KA key) (hVA : Imm KB Ω2 w VA val) (kc vc : Nat) (hkl : key.length ≤ 1048576) (hvl : val.length ≤ 1048576) :
    CallsV Try.prog 17 #[.pointer (some ⟨g, 0, none⟩), .int .i64 1, .slice KA key.length kc, .slice VA val.length vc] w fun r w' => r = .tuple #[.bool (inE key es), .int .i64 0] ∧ ∃ A' R' M' H', Hs w0 R' M' w' g A' ∧ Chg R M w R' M' w' ∧ A'.fan = 4 ∧ A'.most = 10 ∧ Sole A' H' (insE key val es) := by
  refine (sPut h.ar S hKA hVA kc vc hkl hvl).mono ?_
  rintro _ w' ⟨A', R', M', full, h', c, e1, e2, rfl, hful, hnot⟩
  have : full = false := by
    cases full with
    | false => rfl
    | true => have := (hful rfl).2.2; have := room S hf hm hl; omega
  subst this
  obtain ⟨H', S'⟩ := hnot rfl
  exact ⟨by simp, A', R', M', H', h.chg h' c, c, e1.trans hf, e2.trans hm, S'⟩
def letK : Nat → Key
  | 0 => [99]
  | 1 => [100]
  | _ => [101]
def esj : Nat → Es
  | 0 => [([97], [51]), ([98], [50])]
  | j + 1 => insE (letK j) [] (esj j)
theorem awake_spec (w : World) : CallsV Try.prog 21 #[] w fun r w' => r = .bool true ∧ Ext w w' := by
  refine cardindexlaw04_awake.calls okay ?_
  unfold cardindexlaw04_awake.W
  refine (sNew w 4 10 (by decide) (by decide) (by decide) (by decide)).mono ?_
  rintro _ w1 ⟨g, R, M, rfl, _, _, _, hcr⟩
  refine ⟨_, _, rfl, hcr.mono ?_⟩
  rintro _ w2 ⟨rfl, R2, M2, h2, e2, hR2⟩
  have H2 : Hs w R2 M2 w2 g (mkT (A0 4 10)) := ⟨h2, e2, hR2⟩
  have S2 := (sole_new (fan := 4) (most := 10) (by decide) (by decide) (by decide) (by decide)).2
  refine ⟨_, _, rfl, brn (fun h => absurd rfl h) fun _ => brn (fun h => absurd rfl h) fun _ => brn (fun h => absurd rfl h) fun _ => ?_⟩
  -- b, a, a
  refine (b_spec w2 [98] (by decide)).mono ?_
  rintro _ w3 ⟨kA3, kc3, rfl, o3, e3, _⟩
  refine ⟨_, _, _, rfl, (b_spec w3 [50] (by decide)).mono ?_⟩
  rintro _ w4 ⟨kA4, kc4, rfl, o4, e4, _⟩
  refine ⟨_, _, _, rfl, (aPut ((H2.ext e3).ext e4) S2 rfl rfl (by decide) (o3.ext e4).imm0 o4.imm0 kc3 kc4 (by decide) (by decide)).mono ?_⟩
  rintro _ w5 ⟨rfl, A5, R5, M5, D5, H5, _, f5, m5, S5⟩
  refine ⟨_, _, rfl, ?_⟩
  refine (b_spec w5 [97] (by decide)).mono ?_
  rintro _ w6 ⟨kA6, kc6, rfl, o6, e6, _⟩
  refine ⟨_, _, _, rfl, (b_spec w6 [49] (by decide)).mono ?_⟩
  rintro _ w7 ⟨kA7, kc7, rfl, o7, e7, _⟩
  refine ⟨_, _, _, rfl, (aPut ((H5.ext e6).ext e7) S5 f5 m5 (by decide) (o6.ext e7).imm0 o7.imm0 kc6 kc7 (by decide) (by decide)).mono ?_⟩
  rintro _ w8 ⟨rfl, A8, R8, M8, D8, H8, _, f8, m8, S8⟩
  refine ⟨_, _, rfl, ?_⟩
  refine (b_spec w8 [97] (by decide)).mono ?_
  rintro _ w9 ⟨kA9, kc9, rfl, o9, e9, _⟩
  refine ⟨_, _, _, rfl, (b_spec w9 [51] (by decide)).mono ?_⟩
  rintro _ w10 ⟨kA10, kc10, rfl, o10, e10, _⟩
  refine ⟨_, _, _, rfl, (aPut ((H8.ext e9).ext e10) S8 f8 m8 (by decide) (o9.ext e10).imm0 o10.imm0 kc9 kc10 (by decide) (by decide)).mono ?_⟩
  rintro _ w11 ⟨rfl, A11, R11, M11, D11, H11, _, f11, m11, S11⟩
  have es11 : insE [97] [51] (insE [97] [49] (insE [98] [50] ([] : Es))) = esj 0 := by decide
  rw [es11] at S11
  refine ⟨_, _, rfl, brn (fun h => absurd (by decide) h) fun _ => br (fun h => absurd h (by decide)) fun _ => br (fun h => absurd h (by decide)) fun _ => brnb (fun h => absurd h (by decide)) fun _ => ?_⟩
  -- what comes behind, ahead
  refine (b_spec w11 [97] (by decide)).mono ?_
  rintro _ w12 ⟨kA12, kc12, rfl, o12, e12, _⟩
  refine ⟨_, _, _, rfl, (sAfter (H11.ext e12).ar S11 o12.imm0 kc12 false).mono ?_⟩
  rintro _ w13 ⟨ht, e13⟩
  rw [show aftE [97] false (esj 0) = some ([98], [50]) by decide] at ht
  obtain ⟨A1, c1, B1, d1, rfl, oA1, oB1, _⟩ := ht
  refine ⟨_, _, _, _, _, _, _, rfl, (b_spec w13 [97] (by decide)).mono ?_⟩
  rintro _ w14 ⟨kA14, kc14, rfl, o14, e14, _⟩
  have H14 := ((H11.ext e12).ext e13).ext e14
  refine ⟨_, _, _, rfl, (sAfter H14.ar S11 o14.imm0 kc14 true).mono ?_⟩
  rintro _ w15 ⟨ht, e15⟩
  rw [show aftE [97] true (esj 0) = some ([97], [51]) by decide] at ht
  obtain ⟨A2, c2, B2, d2, rfl, oA2, oB2, _⟩ := ht
  refine ⟨_, _, _, _, _, _, _, rfl, (b_spec w15 [97] (by decide)).mono ?_⟩
  rintro _ w16 ⟨kA16, kc16, rfl, o16, e16, _⟩
  have H16 := (H14.ext e15).ext e16
  refine ⟨_, _, _, rfl, (sBefore H16.ar S11 o16.imm0 kc16 false).mono ?_⟩
  rintro _ w17 ⟨ht, e17⟩
  rw [show befE [97] false (esj 0) = none by decide] at ht
  obtain rfl : _ = eN := ht
  have x1 := ((e14.trans' e15).trans' e16).trans' e17
  have x2 := e16.trans' e17
  refine ⟨_, _, _, _, _, _, _, rfl, (tells_spec (oA1.ext x1).imm0 (oB1.ext x1).imm0 true [98] [50]).same ⟨_, rfl, brnb (fun h => absurd h (by decide)) fun _ => ?_⟩⟩
  refine (tells_spec (oA2.ext x2).imm0 (oB2.ext x2).imm0 true [97] [51]).same ⟨_, rfl, brnb (fun h => absurd h (by decide)) fun _ => ?_⟩
  refine (tells_spec (k := []) (v := []) (Imm.nil KB NoB w17 none) (Imm.nil KB NoB w17 none) false [] []).same ⟨_, rfl, brnb (fun h => absurd h (by decide)) fun _ => ?_⟩
  have H17 := H16.ext e17
  -- c, d, e
  intro gs w18 f18
  have H18 := H17.ext f18.ext
  have hgs : ¬ R11 gs := fun h => by have := H17.ar.lt gs h; have := f18.ge; omega
  refine ⟨fun x u => ∃ j : Nat, j ≤ 3 ∧ x = (j : Int) ∧ ∃ A H R M, Hs w R M u g A ∧ A.fan = 4 ∧ A.most = 10 ∧ Sole A H (esj j) ∧ Blk u gs [.string ⟨#[99]⟩, .string ⟨#[100]⟩, .string ⟨#[101]⟩] ∧ ¬ R gs, fun x _ => (3 - x).toNat, ⟨0, by omega, rfl, _, _, _, _, H18, f11, m11, S11, f18.blk, hgs⟩, ?_⟩
  rintro _ u ⟨j, hj, rfl, A, H, R', M', HA, hf, hm, S, hb, hr⟩
  refine brd (fun hlt => ?_) (fun hge => ?_)
  · have hc : u.cell? ⟨gs, j, none⟩ = some (.string ⟨(letK j).toArray⟩) := by
      have : j = 0 ∨ j = 1 ∨ j = 2 := by omega
      rcases this with rfl | rfl | rfl <;> exact hb.cell0 rfl
    have hl4 : (esj j).length ≤ 4 := by
      have : j = 0 ∨ j = 1 ∨ j = 2 := by omega
      rcases this with rfl | rfl | rfl <;> decide
    have hkl : (letK j).length ≤ 1048576 := by
      have : j = 0 ∨ j = 1 ∨ j = 2 := by omega
      rcases this with rfl | rfl | rfl <;> decide
    refine ⟨_, rfl, ⟨by omega, by omega⟩, _, by rw [Int.toNat_natCast, add_new, Nat.zero_add, Nat.mul_one]; exact hc, (b_spec u (letK j) hkl).mono ?_⟩
    rintro _ u1 ⟨kA, kc, rfl, ok, e1, _⟩
    refine ⟨_, _, _, rfl, (aPut (HA.ext e1) S hf hm hl4 (val := []) ok.imm0 (Imm.nil KB NoB u1 none) kc 0 hkl (by decide)).mono ?_⟩
    rintro _ u2 ⟨rfl, A', R'', M'', H', HA', c, hf', hm', S'⟩
    obtain ⟨hb', hr'⟩ := Chg.blk (HA.ext e1).ar c (hb.ext e1) hr
    rw [wi _ (by omega) (by omega)]
    exact ⟨_, _, rfl, ⟨j + 1, by omega, by omega, A', H', R'', M'', HA', hf', hm', S', hb', hr'⟩, by dsimp only; omega⟩
  · obtain rfl : j = 3 := by omega
    have hl5 : (esj 3).length = 5 := by decide
    obtain ⟨rfl, hn⟩ := five S hf hl5
    refine (sLen HA.ar S).mono ?_
    rintro _ u1 ⟨rfl, e1⟩
    refine ⟨_, rfl, brd (fun _ => ?_) fun h => absurd (by rw [hl5]; rfl) h⟩
    refine (sDeep (HA.ext e1).ar S).mono ?_
    rintro _ u2 ⟨rfl, e2⟩
    refine ⟨_, rfl, brd (fun _ => ?_) fun h => absurd rfl h⟩
    refine (sNodes ((HA.ext e1).ext e2).ar S).mono ?_
    rintro _ u3 ⟨rfl, rfl⟩
    refine ⟨_, rfl, brd (fun _ => ?_) fun h => absurd (by rw [hn]; rfl) h⟩
    have HB := ((HA.ext e1).ext e2).ext (Fr.drew NoB u2)
    refine (sCheck HB.ar S).mono ?_
    rintro _ u4 ⟨rfl, e4⟩
    exact ⟨_, rfl, rfl, (HB.ext e4).e⟩
end Go.Proofs.Ytadlhdiejmilmaa
/- Layer 4: through any script of trees: what is kept from call to call. -/
set_option linter.unusedVariables false
set_option linter.unusedSimpArgs false
namespace Go.Proofs.Ytadlhdiejmilmaa
open Go Go.Sx T4
/-- what was saved, and the document's trees then -/
structure SvE where
  sb : Nat
  TA : Option Addr
  tc : Nat
  F : List (Int × Es)
  last : Nat
def svC (a : SvE) : List Value := [.pointer (some ⟨a.sb, 0, none⟩), .slice a.TA a.F.length a.tc, iv a.last]
def KSv : Kd SvE := ⟨3, fun _ _ a cs => cs = svC a, fun h => by simp [h, svC], fun h _ => h⟩
theorem KSv_pos : 0 < KSv.size := by decide
theorem slV : SlT Try.prog 68 78 3 40 [.pointer none, .slice none 0 0, .int .i64 0] := ⟨by kernel_rfl, ⟨Try.t78, by kernel_rfl, by kernel_rfl, by kernel_rfl, .agg #[.pointer none, .slice none 0 0, .int .i64 0], by kernel_rfl, by kernel_rfl⟩, rfl, by decide⟩
/-- what is written to, call by call -/
def Oq (R : Nat → Prop) (gt : Nat) (X : Option Addr) : Nat → Prop := fun k => R k ∨ k = gt ∨ ownB X k
structure St (w0 u : World) (g gt : Nat) (A : Ar) (Ds : List Tr) (R M : Nat → Prop) (TA : Option Addr) (tc : Nat) (F : List (Int × Es)) (la : Nat) (X : Option Addr) (kc : Nat) (L : List SvE) (n : Nat) : Prop where
  hs : Hs w0 R M u g A
  inv : Inv A Ds
  bt : Blk u gt [.slice TA F.length tc, iv la]
  gtR : ¬ R gt
  gtw : w0.heap.size ≤ gt
  tr : TrR (Oq R gt X) u TA tc F
  sml : Sml F n
  alast : A.last ≤ n
  own : OwnK KSv u X kc L
  off : ∀ k, ownB X k → ¬ R k ∧ k ≠ gt ∧ w0.heap.size ≤ k
  good : ∀ x ∈ L, ∃ B D', Sv1 (Om R M) u x.sb g B ∧ Inv B D' ∧ B.fan = A.fan ∧ B.most = A.most ∧ x.F = foD D' ∧ x.last = B.last ∧ TrR (Oq R gt X) u x.TA x.tc x.F ∧ Sml x.F n ∧ B.last ≤ n
  kept : L.length ≤ n
section
variable {w0 u : World} {g gt : Nat} {A : Ar} {Ds : List Tr} {R M : Nat → Prop} {TA : Option Addr} {tc : Nat} {F : List (Int × Es)} {la : Nat} {X : Option Addr} {kc : Nat} {L : List SvE} {n : Nat}
theorem St.lt (h : St w0 u g gt A Ds R M TA tc F la X kc L n) : ∀ k, Oq R gt X k → k < u.heap.size := by
  rintro k (hk | rfl | hk)
  · exact h.hs.ar.lt k hk
  · exact h.bt.lt
  · exact h.own.lt k hk
theorem St.ext (h : St w0 u g gt A Ds R M TA tc F la X kc L n) {u' : World} (e : Ext u u') : St w0 u' g gt A Ds R M TA tc F la X kc L n :=
  ⟨h.hs.ext e, h.inv, h.bt.ext e, h.gtR, h.gtw, h.tr.ext e, h.sml, h.alast, h.own.fr e (fun _ _ h => h) (fun _ _ _ h => h), h.off, fun x hx => by
    obtain ⟨B, D', h1, h2, h3, h4, h5, h6, h7, h8, h9⟩ := h.good x hx
    exact ⟨B, D', h1.keep (Ext.om e R M), h2, h3, h4, h5, h6, h7.ext e, h8, h9⟩, h.kept⟩
theorem St.mono (h : St w0 u g gt A Ds R M TA tc F la X kc L n) {m : Nat} (hm : n ≤ m) : St w0 u g gt A Ds R M TA tc F la X kc L m :=
  ⟨h.hs, h.inv, h.bt, h.gtR, h.gtw, h.tr, h.sml.mono hm, Nat.le_trans h.alast hm, h.own, h.off, fun x hx => by
    obtain ⟨B, D', h1, h2, h3, h4, h5, h6, h7, h8, h9⟩ := h.good x hx
    exact ⟨B, D', h1, h2, h3, h4, h5, h6, h7, h8.mono hm, Nat.le_trans h9 hm⟩, Nat.le_trans h.kept hm⟩
/-- the tree's call -/
theorem St.chg (h : St w0 u g gt A Ds R M TA tc F la X kc L n) {u' : World} {A' : Ar} {Ds' : List Tr} {R' M' : Nat → Prop} (h' : Ar1 R' M' u' g A') (c : Chg R M u R' M' u') (hI : Inv A' Ds') (h1 : A'.fan = A.fan) (h2 : A'.most = A.most) (h3 : A'.last ≤ n) : St w0 u' g gt A' Ds' R' M' TA tc F la X kc L n := by
  have mr := h.hs.ar.mr
  have st : Step (Oq R gt X) u (Oq R' gt X) u' := ⟨c.fr.size, fun k hk hn => c.fr.block k hk fun hm => hn (.inl (mr k hm)), fun k hk ho => by
    rcases ho with ho | ho
    · exact .inl ((c.r' k ho).resolve_right (by omega))
    · exact .inr ho⟩
  refine ⟨h.hs.chg h' c, hI, h.bt.keep c.fr (fun hm => h.gtR (mr _ hm)), c.off h.bt.lt h.gtR, h.gtw, h.tr.keep st, h.sml, h3, h.own.fr c.fr (fun k hk hm => (h.off k hk).1 (mr k hm)) (fun _ _ _ h => h), fun k hk => ⟨c.off (h.own.lt k hk) (h.off k hk).1, (h.off k hk).2⟩, fun x hx => ?_, h.kept⟩
  obtain ⟨B, D', q1, q2, q3, q4, q5, q6, q7, q8, q9⟩ := h.good x hx
  exact ⟨B, D', q1.keep c.step, q2, q3.trans h1.symm, q4.trans h2.symm, q5, q6, q7.keep st, q8, q9⟩
/-- the document's trees, set -/
theorem St.setT (h : St w0 u g gt A Ds R M TA tc F la X kc L n) {TA' : Option Addr} {tc' : Nat} {F' : List (Int × Es)} {la' : Nat} (hT : TrR (Oq R gt X) u TA' tc' F') (hs : Sml F' n) : stOK ⟨gt, 0, none⟩ 0 [.slice TA' F'.length tc', iv la'] u ∧ ∀ u', u' = setAll ⟨gt, 0, none⟩ 0 [.slice TA' F'.length tc', iv la'] u → St w0 u' g gt A Ds R M TA' tc' F' la' X kc L n := by
  refine ⟨h.bt.stOK (o := 0) [_, _] 0 (by simp), fun u' hu => ?_⟩
  have b' : Blk u' gt [.slice TA' F'.length tc', iv la'] := by rw [hu]; exact Blk.setAll (o := 0) [.slice TA' F'.length tc', iv la'] 0 h.bt
  have f : Fr (fun k => k = gt) u u' := by rw [hu]; exact Fr.setAll _ _ _
  have st : Step (Oq R gt X) u (Oq R gt X) u' := f.step (fun k _ e => .inr (.inl e)) (fun _ _ h => h)
  have hne : ∀ k, k = gt → ¬ R k ∧ w0.heap.size ≤ k := fun k e => e ▸ ⟨h.gtR, h.gtw⟩
  have so : Step (Om R M) u (Om R M) u' := f.step (fun k _ e => .inl (hne k e).1) (fun _ _ h => h)
  refine ⟨h.hs.frame f hne, h.inv, b', h.gtR, h.gtw, hT.keep st, hs, h.alast, h.own.fr f (fun k hk e => (h.off k hk).2.1 e) (fun _ _ _ h => h), h.off, fun x hx => ?_, h.kept⟩
  obtain ⟨B, D', q1, q2, q3, q4, q5, q6, q7, q8, q9⟩ := h.good x hx
  exact ⟨B, D', q1.keep so, q2, q3, q4, q5, q6, q7.keep st, q8, q9⟩
theorem svCell {Ω : Nat → Prop} (h : Imm KSv Ω u X L) {k : Nat} (hk : k < L.length) : ∃ ad, X = some ad ∧ u.cell? ((ad.add (k * 3)).add 0) = some (.pointer (some ⟨L[k].sb, 0, none⟩)) ∧ u.cell? ((ad.add (k * 3)).add 1) = some (.slice L[k].TA L[k].F.length L[k].tc) ∧ u.cell? ((ad.add (k * 3)).add 2) = some (iv L[k].last) := by
  obtain ⟨ad, hA, _, cs, hr, hc⟩ := h k L[k] (List.getElem?_eq_getElem hk)
  have hr : cs = svC L[k] := hr
  subst hr
  exact ⟨ad, hA, by rw [add_add]; exact hc 0 _ rfl, by rw [add_add]; exact hc 1 _ rfl, by rw [add_add]; exact hc 2 _ rfl⟩
/-- one more is kept -/
theorem St.push (h : St w0 u g gt A Ds R M TA tc F la X kc L n) (hl : L.length + 1 ≤ n) (hn : n ≤ 1000000) {a : SvE} {B : Ar} {D' : List Tr} (q1 : Sv1 (Om R M) u a.sb g B) (q2 : Inv B D') (q3 : B.fan = A.fan) (q4 : B.most = A.most) (q5 : a.F = foD D') (q6 : a.last = B.last) (q7 : TrR (Oq R gt X) u a.TA a.tc a.F) (q8 : Sml a.F n) (q9 : B.last ≤ n) :
    ∃ X' kc' u', RunsTo Try.prog (Builtin.append_ #[68, 68] 68 #[.slice X L.length kc, .slice (some ⟨u.heap.size, 0, none⟩) 1 1]) (u.alloc (.cells (svC a).toArray 78)) (.slice X' (L ++ [a]).length kc') u' ∧ St w0 u' g gt A Ds R M TA tc F la X' kc' (L ++ [a]) n ∧ Fr (ownB X) u u' := by
  obtain ⟨X', kc', u', hr, ho, gr⟩ := h.own.push (K := KSv) slV (ty := 68) (a := a) (cs := svC a) rfl (fun v hv => by simp [svC] at hv; rcases hv with rfl | rfl | rfl <;> rfl) (e' := 78) (by simp [maxLen]; omega) (by omega)
  refine ⟨X', kc', u', hr, ?_, gr.fr⟩
  have hw0 := h.hs.e.size
  have st : Step (Oq R gt X) u (Oq R gt X') u' := ⟨gr.fr.size, fun k hk hn => gr.fr.block k hk fun hm => hn (.inr (.inr hm)), fun k hk ho => by
    rcases ho with ho | ho | ho
    · exact .inl ho
    · exact .inr (.inl ho)
    · exact .inr (.inr ((gr.sub k ho).resolve_right (by omega)))⟩
  have so : Step (Om R M) u (Om R M) u' := gr.fr.step (fun k _ e => .inl (h.off k e).1) (fun _ _ h => h)
  have hgl := h.bt.lt
  refine ⟨h.hs.frame gr.fr fun k hk => ⟨(h.off k hk).1, (h.off k hk).2.2⟩, h.inv, h.bt.keep gr.fr (fun hm => (h.off _ hm).2.1 rfl), h.gtR, h.gtw, h.tr.keep st, h.sml, h.alast, ho, fun k hk => ?_, fun x hx => ?_, by simpa using hl⟩
  · rcases gr.sub k hk with hk | hk
    · exact h.off k hk
    · exact ⟨fun hr => by have := h.hs.ar.lt k hr; omega, by omega, by omega⟩
  · rcases List.mem_append.1 hx with hx | hx
    · obtain ⟨B, D', q1, q2, q3, q4, q5, q6, q7, q8, q9⟩ := h.good x hx
      exact ⟨B, D', q1.keep so, q2, q3, q4, q5, q6, q7.keep st, q8, q9⟩
    · obtain rfl := List.mem_singleton.1 hx
      exact ⟨B, D', q1.keep so, q2, q3, q4, q5, q6, q7.keep st, q8, q9⟩
end
theorem gF_nd {F : List (Int × Es)} (hn : (F.map fun p => p.1).Nodup) {k : Nat} {r : Int} {es : Es} (h : F[k]? = some (r, es)) : gF F r = some es := by
  refine gF_at h fun j p hj hlt he => ?_
  have h1 : (F.map fun p => p.1)[j]? = some r := by simp [hj, he]
  have h2 : (F.map fun p => p.1)[k]? = some r := by simp [h]
  have hk := (List.getElem?_eq_some_iff.1 h2).1
  have := (List.getElem?_inj (by have := (List.getElem?_eq_some_iff.1 h1).1; exact this) hn).1 (h1.trans h2.symm)
  omega
theorem Inv.ndF {A : Ar} {Ds : List Tr} (h : Inv A Ds) : ((foD Ds).map fun p => p.1).Nodup := by
  have := h.nd
  have e : (foD Ds).map (fun p => p.1) = Ds.map fun d => d.r := by unfold foD; rw [List.map_map]; rfl
  rw [e]; exact this
theorem insE_sml {key val : Key} {es : Es} {n : Nat} (hk : key.length ≤ 1048576) (h : es.length ≤ n) (hks : ∀ q ∈ es, q.1.length ≤ 1048576) : (insE key val es).length ≤ n + 1 ∧ ∀ q ∈ insE key val es, q.1.length ≤ 1048576 := by
  refine ⟨by rw [len_insE]; split <;> omega, fun q hq => ?_⟩
  rcases insE_mem hq with rfl | hq
  · exact hk
  · exact hks q hq
theorem delE_sml {key : Key} {es : Es} {n : Nat} (h : es.length ≤ n) (hks : ∀ q ∈ es, q.1.length ≤ 1048576) : (delE key es).length ≤ n ∧ ∀ q ∈ delE key es, q.1.length ≤ 1048576 :=
  ⟨Nat.le_trans delE_sub.length_le h, fun q hq => hks q (delE_sub.subset hq)⟩
theorem Sml.set {F : List (Int × Es)} {n : Nat} (h : Sml F n) (j : Nat) (r : Int) {es : Es} (h1 : es.length ≤ n) (h2 : ∀ q ∈ es, q.1.length ≤ 1048576) : Sml (F.set j (r, es)) n := by
  refine ⟨by simpa using h.len, fun p hp => ?_, fun p hp => ?_⟩
  · rcases List.mem_or_eq_of_mem_set hp with hp | rfl
    · exact h.es p hp
    · exact h1
  · rcases List.mem_or_eq_of_mem_set hp with hp | rfl
    · exact h.keys p hp
    · exact h2
end Go.Proofs.Ytadlhdiejmilmaa
/- Layer 4: TreePlays. -/
set_option linter.unusedVariables false
set_option linter.unusedSimpArgs false
namespace Go.Proofs.Ytadlhdiejmilmaa
open Go Go.Sx T4
structure OpV where
  kind : Int
  root : Int
  n : Int
  key : Key
  val : Key
  at_ : Bool
def KOp : Kd OpV := ⟨6, fun Ω w o cs => ∃ a b, cs = [.int .i64 o.kind, .int .i64 o.root, .int .i64 o.n, a, b, .bool o.at_] ∧ KBs.rep Ω w o.key [a] ∧ KBs.rep Ω w o.val [b], fun ⟨_, _, h, _⟩ => by simp [h], fun ⟨a, b, h, h1, h2⟩ st => ⟨a, b, h, KBs.keep h1 st, KBs.keep h2 st⟩⟩
theorem opCell {Ω : Nat → Prop} {w : World} {A : Option Addr} {l : List OpV} (h : Imm KOp Ω w A l) {j : Nat} (hj : j < l.length) : ∃ ad KA kc VA vc, A = some ad ∧ w.cell? ((ad.add (j * 6)).add 0) = some (.int .i64 l[j].kind) ∧ w.cell? ((ad.add (j * 6)).add 1) = some (.int .i64 l[j].root) ∧ w.cell? ((ad.add (j * 6)).add 2) = some (.int .i64 l[j].n) ∧ w.cell? ((ad.add (j * 6)).add 3) = some (.slice KA l[j].key.length kc) ∧ w.cell? ((ad.add (j * 6)).add 4) = some (.slice VA l[j].val.length vc) ∧ w.cell? ((ad.add (j * 6)).add 5) = some (.bool l[j].at_) ∧ Imm KB Ω w KA l[j].key ∧ Imm KB Ω w VA l[j].val := by
  obtain ⟨ad, hA, _, cs, ⟨a, b, rfl, h1, h2⟩, hc⟩ := h j l[j] (List.getElem?_eq_getElem hj)
  obtain ⟨KA, kc, e1, l1, i1⟩ := h1
  obtain ⟨VA, vc, e2, l2, i2⟩ := h2
  simp at e1 e2
  subst e1; subst e2
  exact ⟨ad, KA, kc, VA, vc, hA, by rw [add_add]; exact hc 0 _ rfl, by rw [add_add]; exact hc 1 _ rfl, by rw [add_add]; exact hc 2 _ rfl, by rw [add_add]; exact hc 3 _ rfl, by rw [add_add]; exact hc 4 _ rfl, by rw [add_add]; exact hc 5 _ rfl, i1, i2⟩
theorem New_any (w : World) (fan most : Int) : CallsV Try.prog 13 #[.int .i64 fan, .int .i64 most] w fun r w' => (r = .tuple #[.pointer none, .int .i64 2] ∧ w' = w) ∨ ∃ f m : Nat, fan = (f : Int) ∧ most = (m : Int) ∧ 4 ≤ f ∧ f ≤ 64 ∧ 1 ≤ m ∧ m ≤ 65536 ∧ ∃ g R M, r = .tuple #[.pointer (some ⟨g, 0, none⟩), .int .i64 0] ∧ Ar1 R M w' g (A0 f m) ∧ Ext w w' ∧ ∀ k, R k → w.heap.size ≤ k := by
  by_cases h : fan < 4 ∨ 64 < fan ∨ most < 1 ∨ 65536 < most
  · exact (New_bad w fan most h).mono fun r w' h => .inl h
  · obtain ⟨f, rfl⟩ : ∃ f : Nat, fan = (f : Int) := ⟨fan.toNat, by omega⟩
    obtain ⟨m, rfl⟩ : ∃ m : Nat, most = (m : Int) := ⟨most.toNat, by omega⟩
    exact (New_spec w f m (by omega) (by omega) (by omega) (by omega)).mono fun r w' h => .inr ⟨f, m, rfl, rfl, by omega, by omega, by omega, by omega, h⟩
set_option maxRecDepth 100000 in
set_option maxHeartbeats 2000000 in
theorem TreePlays_spec {Ωo : Nat → Prop} {w : World} (fan most : Int) {OA : Option Addr} {oc : Nat} {ops : List OpV} (ho : Imm KOp Ωo w OA ops) :
    CallsV Try.prog 10 #[.int .i64 fan, .int .i64 most, .slice OA ops.length oc] w fun r w' => r = .bool true ∧ Ext w w' := by
  refine cardindexlaw04_TreePlays.calls okay ?_
  unfold cardindexlaw04_TreePlays.W
  have aw : ∀ {u : World}, Ext w u → CallsV Try.prog 21 #[] u fun v w' => ∃ x, v = .bool x ∧ ((fun r w' => r = Value.bool true ∧ Ext w w') (.bool x) w') := fun e => (awake_spec _).mono fun v w' ⟨h1, h2⟩ => ⟨true, h1, rfl, e.trans' h2⟩
  refine (New_any w fan most).mono ?_
  rintro _ w1 (⟨rfl, rfl⟩ | ⟨f, m, rfl, rfl, hf1, hf2, hm1, hm2, g, R, M, rfl, h1, e1, hR⟩)
  · exact ⟨_, _, rfl, brn (fun _ => br (fun _ => aw (.refl _ _)) fun h => by cases h) fun h => by cases h⟩
  refine ⟨_, _, rfl, brn (fun h => absurd rfl h) fun _ => ?_⟩
  intro gt w2 f2
  have I0 : Inv (A0 f m) [] := (sole_new hf1 hf2 hm1 hm2).1
  have hgt : ¬ R gt := fun h => by have := h1.lt gt h; have := f2.ge; omega
  have S0 : St w w2 g gt (A0 f m) [] R M none 0 [] 0 none 0 [] 0 := by
    refine ⟨⟨h1.ext f2.ext, e1.trans' f2.ext, hR⟩, I0, f2.blk, hgt, Nat.le_trans e1.size f2.ge, ⟨Imm.nil _ _ _ _, Nat.le_refl _⟩, ⟨Nat.le_refl _, fun p h => (by cases h), fun p h => (by cases h)⟩, Nat.le_refl _, OwnK.nil _ _, fun k h => (ownB_none k h).elim, fun x h => (by cases h), Nat.le_refl _⟩
  refine ⟨fun X kn kc x u => ∃ j : Nat, x = (j : Int) ∧ j ≤ 80 ∧ ∃ A Ds R M TA tc L, kn = L.length ∧ A.most = m ∧ St w u g gt A Ds R M TA tc (foD Ds) A.last X kc L j, fun _ _ _ x _ => (80 - x).toNat, ⟨0, rfl, by omega, _, _, _, _, _, _, [], rfl, rfl, S0⟩, ?_⟩
  rintro X kn kc _ u ⟨j, rfl, hj, A, Ds, R, M, TA, tc, L, rfl, hmost, S⟩
  clear S0 I0 hR h1 hgt
  refine brd (fun hlt => brd (fun hlt8 => ?_) (fun _ => aw S.hs.e)) (fun _ => aw S.hs.e)
  have hjl : j < ops.length := by omega
  have hS := S.mono (Nat.le_succ j)
  refine ⟨fun X kn kc u' => ∃ A Ds R M TA tc L, kn = L.length ∧ A.most = m ∧ St w u' g gt A Ds R M TA tc (foD Ds) A.last X kc L (j + 1), ?_, ?_⟩
  · rintro X' kn' kc' u' ⟨A, Ds, R, M, TA, tc, L, rfl, hmost, S⟩
    rw [wi _ (by omega) (by omega)]
    exact ⟨⟨j + 1, by omega, by omega, A, Ds, R, M, TA, tc, L, rfl, hmost, S⟩, by dsimp only; omega⟩
  obtain ⟨ad, KA, kkc, VA, vvc, hOA, o0, o1, o2, o3, o4, o5, iK, iV⟩ := opCell ho hjl
  generalize ops[j] = op at *
  have iK : Imm KB NoB w KA op.key := iK.sub KB_pos fun _ _ h => h.elim
  have iV : Imm KB NoB w VA op.val := iV.sub KB_pos fun _ _ h => h.elim
  have eu := S.hs.e
  refine ⟨ad, hOA, ⟨by omega, by omega⟩, _, by rw [Int.toNat_natCast]; exact Ext.cell eu o0, _, by rw [Int.toNat_natCast]; exact Ext.cell eu o1, _, by rw [Int.toNat_natCast]; exact Ext.cell eu o2, _, _, _, by rw [Int.toNat_natCast]; exact Ext.cell eu o3, _, _, _, by rw [Int.toNat_natCast]; exact Ext.cell eu o4, _, by rw [Int.toNat_natCast]; exact Ext.cell eu o5, ?_⟩
  intro go u1 f1
  refine ⟨f1.blk.stOK (o := 0) [_, _, _, _, _, _] 0 (by simp), fun u2 hu2 => ?_⟩
  have bo : Blk u2 go [.int .i64 op.kind, .int .i64 op.root, .int .i64 op.n, .slice KA op.key.length kkc, .slice VA op.val.length vvc, .bool op.at_] := by rw [hu2]; exact Blk.setAll (o := 0) [.int .i64 op.kind, .int .i64 op.root, .int .i64 op.n, .slice KA op.key.length kkc, .slice VA op.val.length vvc, .bool op.at_] 0 f1.blk
  have e2 : Ext u u2 := by rw [hu2]; exact f1.ext.setAll f1.ge _ _
  have hS2 := hS.ext e2
  have hgoR : ¬ R go := fun h => by have := S.hs.ar.lt go h; have := f1.ge; omega
  have hgoX : ∀ {k}, ownB X k → k ≠ go := fun h e => by have := S.own.lt _ h; have := f1.ge; omega
  have hgogt : go ≠ gt := fun e => by have := S.bt.lt; have := f1.ge; omega
  have hgow : w.heap.size ≤ go := Nat.le_trans S.hs.e.size f1.ge
  have hiKlt : u.heap.size ≤ u2.heap.size := e2.size
  refine ⟨_, _, _, hS2.bt.cell rfl, _, hS2.bt.cell rfl, _, bo.cell rfl, (Find_spec hS2.tr.1 (by have := hS2.sml.len; omega) _ op.root).mono ?_⟩
  rintro _ u3 ⟨i, rfl, hf, e3⟩
  have hS3 := hS2.ext e3
  have bo3 := bo.ext e3
  refine ⟨_, rfl, _, bo3.cell rfl, _, bo3.cell rfl, _, bo3.cell rfl, _, _, _, bo3.cell rfl, _, _, _, bo3.cell rfl, _, bo3.cell rfl, (small_spec op.kind op.root op.n KA VA op.key.length kkc op.val.length vvc op.at_).mono ?_⟩
  rintro _ u4 ⟨rfl, e4⟩
  have hS4 := hS3.ext e4
  have bo4 := bo3.ext e4
  have e24 : Ext u u4 := (e2.trans' e3).trans' e4
  clear hS2 hS3 bo bo3
  refine ⟨_, rfl, brnb (fun _ => ⟨A, Ds, R, M, TA, tc, L, rfl, hmost, hS4⟩) fun hsm => ?_⟩
  obtain ⟨hk1, hv1⟩ := of_decide_eq_true hsm
  have goL : go < u4.heap.size := bo4.lt
  refine ⟨fun X kn kc u' => ∃ A Ds R M TA tc L, kn = L.length ∧ A.most = m ∧ St w u' g gt A Ds R M TA tc (foD Ds) A.last X kc L (j + 1) ∧ Blk u' go [.int .i64 op.kind, .int .i64 op.root, .int .i64 op.n, .slice KA op.key.length kkc, .slice VA op.val.length vvc, .bool op.at_], ?_, ?_⟩
  · rintro X' kn' kc' u5 ⟨A, Ds, R, M, TA, tc, L, rfl, hmost, S, bo⟩
    refine (dCheck S.inv S.hs.ar).mono ?_
    rintro _ u6 ⟨rfl, e6⟩
    have S := S.ext e6
    refine ⟨_, rfl, brn (fun h => absurd rfl h) fun _ => (dNodes S.inv S.hs.ar).mono ?_⟩
    rintro _ _ ⟨rfl, rfl⟩
    have ed : Ext u6 u6.drew := Fr.drew NoB u6
    have S := S.ext ed
    have bo := (bo.ext e6).ext ed
    have hno := S.inv.nodes
    refine ⟨_, rfl, brd (fun h => by omega) fun _ => ⟨_, _, _, S.bt.cell rfl, _, S.bt.cell rfl, _, bo.cell rfl, _, bo.cell rfl, _, bo.cell rfl, _, bo.cell rfl, _, _, _, bo.cell rfl, _, _, _, bo.cell rfl, _, bo.cell rfl, (asked_spec S.hs.ar S.inv S.tr S.lt S.sml (by omega) _ op.root op.kind op.root op.n (iK.ext KB_pos S.hs.e) (by omega) kkc VA op.val.length vvc op.at_).mono ?_⟩⟩
    rintro _ u7 ⟨rfl, e7⟩
    have S := S.ext e7
    have hFl := S.sml.len
    refine ⟨_, rfl, brnb (fun h => by cases h) fun _ => ⟨fun x u => ∃ k : Nat, x = (k : Int) ∧ k ≤ (foD Ds).length ∧ St w u g gt A Ds R M TA tc (foD Ds) A.last X' kc' L (j + 1), fun x _ => ((foD Ds).length - x).toNat, ⟨0, rfl, Nat.zero_le _, S⟩, ?_⟩⟩
    rintro _ u8 ⟨k, rfl, hk, S⟩
    refine ⟨_, _, _, S.bt.cell rfl, brd (fun hlt => ?_) (fun hge => ⟨A, Ds, R, M, TA, tc, L, rfl, hmost, S⟩)⟩
    have hkl : k < (foD Ds).length := by omega
    have hFk : (foD Ds)[k]? = some ((foD Ds)[k].1, (foD Ds)[k].2) := List.getElem?_eq_getElem hkl
    obtain ⟨ad, B, cB, hA, c0, c1, _, _⟩ := trCell S.tr.1 hFk
    have ed : Ext u8 u8.drew := Fr.drew NoB u8
    refine ⟨fun v => Ext u8 v, ed, _, _, _, fun v e => (S.bt.ext e).cell rfl, ad, hA, ⟨by omega, by omega⟩, _, fun v e => by rw [Int.toNat_natCast]; exact Ext.cell e c0, _, _, _, fun v e => (S.bt.ext e).cell rfl, ad, hA, ⟨by omega, by omega⟩, _, _, _, fun v e => by rw [Int.toNat_natCast]; exact Ext.cell e c1, (uLen (S.ext ed).hs.ar S.inv _).mono ?_⟩
    rintro _ u9 ⟨rfl, e9⟩
    rw [gF_nd S.inv.ndF hFk]
    refine ⟨_, rfl, ed.trans' e9, brn (fun h => absurd rfl h) fun _ => ?_⟩
    rw [wi _ (by omega) (by omega)]
    exact ⟨⟨k + 1, by omega, by omega, (S.ext ed).ext e9⟩, by dsimp only; omega⟩
  have keepO : ∀ {u5 u6 : World} {R5 M5 R6 M6 : Nat → Prop} {A5 : Ar}, Ar1 R5 M5 u5 g A5 → ¬ R5 go → Blk u5 go [.int .i64 op.kind, .int .i64 op.root, .int .i64 op.n, .slice KA op.key.length kkc, .slice VA op.val.length vvc, .bool op.at_] → Chg R5 M5 u5 R6 M6 u6 → Blk u6 go [.int .i64 op.kind, .int .i64 op.root, .int .i64 op.n, .slice KA op.key.length kkc, .slice VA op.val.length vvc, .bool op.at_] := fun ha hr hb c => hb.keep c.fr fun hm => hr (ha.mr _ hm)
  have keepT : ∀ {u5 u6 : World} {T : Option Addr} {n c : Nat} {v : Value}, u6 = setAll ⟨gt, 0, none⟩ 0 [.slice T n c, v] u5 → Blk u5 go [.int .i64 op.kind, .int .i64 op.root, .int .i64 op.n, .slice KA op.key.length kkc, .slice VA op.val.length vvc, .bool op.at_] → Blk u6 go [.int .i64 op.kind, .int .i64 op.root, .int .i64 op.n, .slice KA op.key.length kkc, .slice VA op.val.length vvc, .bool op.at_] := fun hu hb => by subst hu; exact hb.keep (Fr.setAll _ _ _) hgogt
  have hFl := hS4.sml.len
  have hno := hS4.inv.nodes
  have hla := hS4.alast
  have m65 := hS4.inv.m
  refine ⟨_, bo4.cell rfl, fun _ u => u = u4, ?_, ?_⟩
  · rintro b u0 hu0
    obtain rfl : u4 = u0 := hu0.symm
    refine br (fun _ => ?_) (fun _ => ?_)
    · -- Put
      refine ⟨fun b u => b = decide (A.nodes + dp A op.root + 1 ≤ m) ∧ Ext u4 u, ?_, ?_⟩
      · rintro _ u5 ⟨rfl, e5⟩
        have hS5 := hS4.ext e5
        have bo5 := bo4.ext e5
        have iK5 := iK.ext KB_pos hS5.hs.e
        have iV5 := iV.ext KB_pos hS5.hs.e
        refine ⟨_, bo5.cell rfl, _, _, _, bo5.cell rfl, _, _, _, bo5.cell rfl, ?_⟩
        rcases hf.cases with ⟨rfl, _, hno⟩ | ⟨k, es, rfl, hFk, _⟩
        · refine (Put_none hS5.hs.ar (by have := hS5.inv.f1; omega) (hS5.inv.miss fun d hd => hno (fo d) (List.mem_map.2 ⟨d, hd, rfl⟩)) KA VA op.key.length kkc op.val.length vvc).same ⟨_, _, rfl, brd (fun _ => br (fun h => by cases h) fun _ => brn (fun h => absurd rfl h) fun _ => ⟨A, Ds, R, M, TA, tc, L, rfl, hmost, hS5, bo5⟩) fun h => absurd (by decide) h⟩
        · obtain ⟨D1, d, D2, rfl, rfl, hdr, rfl⟩ := split_at hFk
          obtain ⟨A', d', full, hr', hI', hsm', hfu, hno', hP⟩ := dPut hS5.inv (key := op.key) (val := op.val) (by omega) (by omega)
          rw [hdr] at hP
          refine (hP hS5.hs.ar iK5 iV5 kkc vvc).mono ?_
          rintro _ u6 ⟨rfl, R', M', h', c⟩
          have hS6 := hS5.chg h' c hI' hsm'.fan hsm'.most (by rw [hsm'.last]; exact hS5.alast)
          have bo6 := keepO hS5.hs.ar hgoR bo5 c
          have hme := List.mem_of_getElem? hFk
          have hks : ∀ p ∈ d.es, p.1.length ≤ 1048576 := hS6.sml.keys _ hme
          have hel : d.es.length ≤ j + 1 := hS6.sml.es _ hme
          refine ⟨_, _, rfl, brd (fun h => by omega) fun _ => ⟨_, _, _, hS6.bt.cell rfl, _, hS6.bt.cell rfl, _, _, _, bo6.cell rfl, (Place_spec hS6.tr.1 hFk (by omega) _ (iK.ext KB_pos hS6.hs.e) kkc hks).mono ?_⟩⟩
          rintro _ u7 ⟨rfl, e7⟩
          have hS7 := hS6.ext e7
          have bo7 := bo6.ext e7
          have hin : inE op.key d.es = has (keysE d.es) op.key := inE_has _ _
          have hdp : dp A op.root = d.h := by rw [← hdr]; exact hS4.inv.one.2
          refine ⟨_, _, rfl, fun u => u = u7, ?_, ?_⟩
          · rintro _ rfl
            cases full with
            | true =>
              obtain ⟨rfl, rfl, _, _⟩ := hfu rfl
              exact brd (fun h => by cases h) fun _ => ⟨_, _, _, _, TA, tc, L, rfl, hmost, hS7, bo7⟩
            | false =>
              refine brd (fun _ => ?_) fun h => absurd rfl h
              have hsl := insE_sml (key := op.key) (val := op.val) (show op.key.length ≤ 1048576 by omega) (show d.es.length ≤ j from by
                have := S.sml.es _ hme; exact this) hks
              refine ⟨_, _, _, hS7.bt.cell rfl, _, hS7.bt.cell rfl, _, _, _, bo7.cell rfl, _, _, _, bo7.cell rfl, (Put_specR hS7.tr hS7.lt (by omega) hFk (by omega) _ (iK.ext KB_pos hS7.hs.e) (iV.ext KB_pos hS7.hs.e) kkc vvc (by omega) (by omega) hks).mono ?_⟩
              rintro _ u8 ⟨TA', tc', rfl, hT, e8⟩
              have hS8 := hS7.ext e8
              have hfo : (foD (D1 ++ d :: D2)).set D1.length (op.root, insE op.key op.val d.es) = foD (D1 ++ d' :: D2) := by
                rw [show (op.root, insE op.key op.val d.es) = fo d' by unfold fo; rw [hr', hdr, hno' rfl]]; exact fo_set
              obtain ⟨q1, q2⟩ := hS8.setT (la' := A.last) hT (hS8.sml.set _ _ hsl.1 hsl.2)
              refine ⟨_, _, _, _, rfl, q1, fun u9 hu9 => ?_⟩
              have hS9 := q2 u9 hu9
              rw [hfo, ← hsm'.last] at hS9
              exact ⟨A', _, R', M', TA', tc', L, rfl, hsm'.most.trans hmost, hS9, keepT hu9 (bo7.ext e8)⟩
          · rw [hin]
            cases full with
            | true =>
              obtain ⟨rfl, rfl, hnin, hroom⟩ := hfu rfl
              rw [hin] at hnin
              rw [hnin]
              refine brd (fun _ => br (fun h => by cases h) fun _ => br (fun h => ?_) fun _ => brn (fun _ => brn (fun h => absurd rfl h) fun _ => br (fun h => by cases h) fun _ => brn (fun h => absurd rfl h) fun _ => rfl) fun h => by cases h) fun h => absurd rfl h
              have := of_decide_eq_true h
              omega
            | false =>
              refine brd (fun h => by cases h) fun _ => brn (fun h => absurd rfl h) fun _ => ?_
              cases has (keysE d.es) op.key with
              | true => exact br (fun _ => brn (fun h => absurd rfl h) fun _ => rfl) fun h => by cases h
              | false => exact br (fun h => by cases h) fun _ => brn (fun h => absurd rfl h) fun _ => rfl
      · have ed : Ext u4 u4.drew := Fr.drew NoB u4
        refine ⟨fun v => Ext u4 v, ed, _, fun v e => (bo4.ext e).cell rfl, (dNodes (hS4.ext ed).inv (hS4.ext ed).hs.ar).mono ?_⟩
        rintro _ _ ⟨rfl, rfl⟩
        have edd : Ext u4 u4.drew.drew := ed.drew
        refine ⟨_, rfl, edd, (uDeep (hS4.ext edd).hs.ar hS4.inv op.root).mono ?_⟩
        rintro _ u5 ⟨rfl, e5⟩
        have hdl := (dp_pos hS4.inv op.root).2
        refine ⟨_, rfl, ?_, edd.trans' e5⟩
        rw [wi ((A.nodes : Int) + (dp A op.root : Int)) (by omega) (by omega), wi _ (by omega) (by omega), decide_eq_decide]
        omega
    · refine ⟨fun _ u => u = u4, ?_, ?_⟩
      · rintro b u0 hu0
        obtain rfl : u4 = u0 := hu0.symm
        refine br (fun _ => ?_) (fun _ => ?_)
        · -- Delete
          have iK4 := iK.ext KB_pos hS4.hs.e
          refine ⟨_, bo4.cell rfl, _, _, _, bo4.cell rfl, ?_⟩
          rcases hf.cases with ⟨rfl, _, hno⟩ | ⟨k, es, rfl, hFk, _⟩
          · refine (Delete_none hS4.hs.ar (by have := hS4.inv.f1; omega) (hS4.inv.miss fun d hd => hno (fo d) (List.mem_map.2 ⟨d, hd, rfl⟩)) KA op.key.length kkc).same ⟨_, _, rfl, brd (fun _ => br (fun h => by cases h) fun _ => brn (fun h => absurd rfl h) fun _ => ⟨A, Ds, R, M, TA, tc, L, rfl, hmost, hS4, bo4⟩) fun h => absurd (by decide) h⟩
          · obtain ⟨D1, d, D2, rfl, rfl, hdr, rfl⟩ := split_at hFk
            obtain ⟨A', d', hr', hI', hsm', he', hP⟩ := dDel hS4.inv op.key
            rw [hdr] at hP
            refine (hP hS4.hs.ar iK4 kkc).mono ?_
            rintro _ u6 ⟨rfl, R', M', h', c⟩
            have hS6 := hS4.chg h' c hI' hsm'.fan hsm'.most (by rw [hsm'.last]; exact hS4.alast)
            have bo6 := keepO hS4.hs.ar hgoR bo4 c
            have hme := List.mem_of_getElem? hFk
            have hks : ∀ p ∈ d.es, p.1.length ≤ 1048576 := hS6.sml.keys _ hme
            have hel : d.es.length ≤ j + 1 := hS6.sml.es _ hme
            refine ⟨_, _, rfl, brd (fun h => by omega) fun _ => ⟨_, _, _, hS6.bt.cell rfl, _, hS6.bt.cell rfl, _, _, _, bo6.cell rfl, (Place_spec hS6.tr.1 hFk (by omega) _ (iK.ext KB_pos hS6.hs.e) kkc hks).mono ?_⟩⟩
            rintro _ u7 ⟨rfl, e7⟩
            have hS7 := hS6.ext e7
            have bo7 := bo6.ext e7
            have hin : inE op.key d.es = has (keysE d.es) op.key := inE_has _ _
            refine ⟨_, _, rfl, brn (fun h => absurd rfl h) fun _ => brn (fun h => absurd (by rw [hin]) h) fun _ => ?_⟩
            have hsl := delE_sml (key := op.key) hel hks
            refine ⟨_, _, _, hS7.bt.cell rfl, _, hS7.bt.cell rfl, _, _, _, bo7.cell rfl, (Delete_specR hS7.tr hS7.lt (by omega) hFk (by omega) _ (iK.ext KB_pos hS7.hs.e) kkc hks).mono ?_⟩
            rintro _ u8 ⟨TA', tc', rfl, hT, e8⟩
            have hS8 := hS7.ext e8
            have hfo : (foD (D1 ++ d :: D2)).set D1.length (op.root, delE op.key d.es) = foD (D1 ++ d' :: D2) := by
              rw [show (op.root, delE op.key d.es) = fo d' by unfold fo; rw [hr', hdr, he']]; exact fo_set
            obtain ⟨q1, q2⟩ := hS8.setT (la' := A.last) hT (hS8.sml.set _ _ hsl.1 hsl.2)
            refine ⟨_, _, _, _, rfl, q1, fun u9 hu9 => ?_⟩
            have hS9 := q2 u9 hu9
            rw [hfo, ← hsm'.last] at hS9
            exact ⟨A', _, R', M', TA', tc', L, rfl, hsm'.most.trans hmost, hS9, keepT hu9 (bo7.ext e8)⟩
        · refine brd (fun _ => ?_) fun _ => brd (fun _ => ?_) fun _ => brd (fun _ => ?_) fun _ => brd (fun _ => ?_) fun _ => ⟨A, Ds, R, M, TA, tc, L, rfl, hmost, hS4, bo4⟩
          · -- Create
            refine (dNodes hS4.inv hS4.hs.ar).mono ?_
            rintro _ _ ⟨rfl, rfl⟩
            have ed : Ext u4 u4.drew := Fr.drew NoB u4
            have hS5 := hS4.ext ed
            have bo5 := bo4.ext ed
            have hDl : Ds.length ≤ j + 1 := by have := hFl; rw [List.length_map] at this; exact this
            by_cases hroom : A.nodes < m
            · obtain ⟨A', i', hI', hf', hm', hl', hC⟩ := dCreate hS5.inv (by omega) (by omega) (by omega)
              refine ⟨_, rfl, fun u => ∃ R' M', St w u g gt A' (Ds ++ [⟨((A.last + 1 : Nat) : Int), i', 1, [], [i']⟩]) R' M' TA tc (foD Ds) A.last X kc L (j + 1) ∧ Blk u go [.int .i64 op.kind, .int .i64 op.root, .int .i64 op.n, .slice KA op.key.length kkc, .slice VA op.val.length vvc, .bool op.at_], ?_, (hC hS5.hs.ar).mono ?_⟩
              · rintro u6 ⟨R', M', hS6, bo6⟩
                refine brd (fun _ => ⟨_, _, _, hS6.bt.cell rfl, _, hS6.bt.cell rfl, (Create_specR hS6.tr hS6.lt (by omega) A.last (by omega)).mono ?_⟩) fun h => absurd (by omega) h
                rintro _ u7 ⟨TA', tc', rfl, hT, e7⟩
                have hS7 := hS6.ext e7
                obtain ⟨q1, q2⟩ := hS7.setT (la' := A.last + 1) hT ⟨by simp; have := S.sml.len; rw [List.length_map] at this; omega, fun p hp => by
                  rcases List.mem_append.1 hp with hp | hp
                  · exact hS7.sml.es p hp
                  · simp at hp; subst hp; exact Nat.zero_le _, fun p hp => by
                  rcases List.mem_append.1 hp with hp | hp
                  · exact hS7.sml.keys p hp
                  · simp at hp; subst hp; intro q hq; cases hq⟩
                refine ⟨_, _, _, _, rfl, q1, fun u8 hu8 => ?_⟩
                have hS8 := q2 u8 hu8
                rw [show foD Ds ++ [(((A.last + 1 : Nat) : Int), ([] : Es))] = foD (Ds ++ [⟨((A.last + 1 : Nat) : Int), i', 1, [], [i']⟩]) by simp [foD, fo], ← hl'] at hS8
                exact ⟨A', _, R', M', TA', tc', L, rfl, hm'.trans hmost, hS8, keepT hu8 (bo6.ext e7)⟩
              · rintro _ u6 ⟨rfl, R', M', h', c⟩
                have hS6 := hS5.chg h' c hI' hf' hm' (by rw [hl']; have := S.alast; omega)
                have hw : IntKind.i64.wrap ((A.last : Int) + 1) = ((A.last + 1 : Nat) : Int) := by rw [wi _ (by omega) (by omega)]; omega
                have fin : ∃ R' M', St w u6 g gt A' (Ds ++ [⟨((A.last + 1 : Nat) : Int), i', 1, [], [i']⟩]) R' M' TA tc (foD Ds) A.last X kc L (j + 1) ∧ Blk u6 go [.int .i64 op.kind, .int .i64 op.root, .int .i64 op.n, .slice KA op.key.length kkc, .slice VA op.val.length vvc, .bool op.at_] := ⟨R', M', hS6, keepO hS5.hs.ar hgoR bo5 c⟩
                refine ⟨_, _, rfl, brn (fun h => absurd (by rw [decide_eq_true (show (0 : Int) = 0 from rfl), decide_eq_true (show (A.nodes : Int) < (m : Int) by omega)]) h) fun _ => brd (fun _ => ⟨_, hS6.bt.cell rfl, brn (fun h => absurd hw.symm h) fun _ => brn (fun h => absurd rfl h) fun _ => fin⟩) fun h => absurd rfl h⟩
            · refine ⟨_, rfl, fun u => Ext u4 u, ?_, (dFull hS5.inv (.inl (by omega)) (by omega) hS5.hs.ar).mono ?_⟩
              · rintro u6 e6
                exact brd (fun h => absurd h (by omega)) fun _ => ⟨A, Ds, R, M, TA, tc, L, rfl, hmost, hS4.ext e6, bo4.ext e6⟩
              · rintro _ u6 ⟨rfl, e6⟩
                refine ⟨_, _, rfl, brn (fun h => absurd (by rw [decide_eq_false (show ¬ (5 : Int) = 0 by decide), decide_eq_false (show ¬ (A.nodes : Int) < (m : Int) by omega)]) h) fun _ => brd (fun h => by cases h) fun _ => brn (fun _ => brn (fun h => absurd rfl h) fun _ => brn (fun h => absurd rfl h) fun _ => ed.trans' e6) fun h => by cases h⟩
          · -- Drop
            refine ⟨_, bo4.cell rfl, ?_⟩
            rcases hf.cases with ⟨rfl, _, hno⟩ | ⟨k, es, rfl, hFk, _⟩
            · refine (Drop_none hS4.hs.ar (by have := hS4.inv.f1; omega) (hS4.inv.miss fun d hd => hno (fo d) (List.mem_map.2 ⟨d, hd, rfl⟩))).same ⟨_, rfl, brn (fun h => absurd (by decide) h) fun _ => brd (fun _ => brn (fun h => absurd rfl h) fun _ => brd (fun h => absurd h (by decide)) fun _ => ⟨A, Ds, R, M, TA, tc, L, rfl, hmost, hS4, bo4⟩) fun h => absurd (by decide) h⟩
            · obtain ⟨D1, d, D2, rfl, rfl, hdr, rfl⟩ := split_at hFk
              obtain ⟨A', hI', hsm', _, hP⟩ := dDrop hS4.inv
              rw [hdr] at hP
              refine (hP hS4.hs.ar).mono ?_
              rintro _ u6 ⟨rfl, R', M', h', c⟩
              have hS6 := hS4.chg h' c hI' hsm'.fan hsm'.most (by rw [hsm'.last]; exact hS4.alast)
              have bo6 := keepO hS4.hs.ar hgoR bo4 c
              refine ⟨_, rfl, brn (fun h => absurd (by rw [decide_eq_true (show (0 : Int) = 0 from rfl), decide_eq_true (show (0 : Int) ≤ (D1.length : Int) by omega)]) h) fun _ => brd (fun h => by omega) fun _ => brd (fun _ => ⟨_, _, _, hS6.bt.cell rfl, _, hS6.bt.cell rfl, ?_⟩) fun h => absurd (by omega) h⟩
              have hfl : (foD D1).length = D1.length := by simp
              have hdd := Drop_specR hS6.tr hS6.lt (by omega) (F1 := foD D1) (F2 := foD D2) (p0 := fo d) (by simp [foD]) (A.last : Int)
              rw [hfl] at hdd
              refine hdd.mono ?_
              rintro _ u7 ⟨TA', tc', rfl, hT, e7⟩
              have hS7 := hS6.ext e7
              have hfo : foD D1 ++ foD D2 = foD (D1 ++ D2) := by simp [foD]
              rw [hfo] at hT
              have hsub : ∀ p ∈ foD (D1 ++ D2), p ∈ foD (D1 ++ d :: D2) := fun p hp => by
                simp only [foD, List.map_append, List.mem_append, List.map_cons, List.mem_cons] at hp ⊢
                rcases hp with hp | hp
                · exact .inl hp
                · exact .inr (.inr hp)
              obtain ⟨q1, q2⟩ := hS7.setT (la' := A.last) hT ⟨by have := hS7.sml.len; simp at this ⊢; omega, fun p hp => hS7.sml.es p (hsub p hp), fun p hp => hS7.sml.keys p (hsub p hp)⟩
              refine ⟨_, _, _, _, rfl, by rw [hfo]; exact q1, fun u8 hu8 => ?_⟩
              have hu9 := hu8
              rw [hfo] at hu8
              have hS8 := q2 u8 hu8
              rw [← hsm'.last] at hS8
              exact ⟨A', _, R', M', TA', tc', L, rfl, hsm'.most.trans hmost, hS8, keepT hu9 (bo6.ext e7)⟩
          · -- Save
            have ed : Ext u4 u4.drew := Fr.drew NoB u4
            have hS5 := hS4.ext ed
            refine ⟨fun v => Blk v gt [.slice TA (foD Ds).length tc, iv A.last], hS5.bt, _, _, _, fun v hv => hv.cell rfl, _, fun v hv => hv.cell rfl, (dSave hS5.inv hS5.hs.ar).mono ?_⟩
            rintro _ u6 ⟨sb, R', rfl, h', c, e6, hSv⟩
            have hS6 := hS5.chg h' c hS5.inv rfl rfl hS5.alast
            have bo6 := (bo4.ext ed).ext e6
            refine ⟨_, rfl, hS6.bt, ?_⟩
            rintro gg u7 ⟨rfl, rfl⟩
            obtain ⟨X', kc', u8, hr8, hS8, f8⟩ := hS6.push (a := ⟨sb, TA, tc, foD Ds, A.last⟩) (by have := S.kept; omega) (by omega) hSv hS5.inv rfl rfl rfl rfl hS6.tr hS6.sml hS6.alast
            exact ⟨hS6.bt.ext (Fr.alloc NoB u6 _), _, _, _, u8, hr8, hS8.bt, A, Ds, R', M, TA, tc, L ++ [⟨sb, TA, tc, foD Ds, A.last⟩], rfl, hmost, hS8, bo6.keep f8 fun hx => hgoX hx rfl⟩
          · -- Load
            refine brd (fun hpos => ?_) fun _ => ⟨A, Ds, R, M, TA, tc, L, rfl, hmost, hS4, bo4⟩
            have hLl := hS4.kept
            refine ⟨_, bo4.cell rfl, (Pick_spec u4 op.n (L.length : Int) (by omega) (by omega)).mono ?_⟩
            rintro _ u5 ⟨k, rfl, hk, hu5⟩
            obtain rfl : u4 = u5 := hu5.symm
            have hkl : k < L.length := by omega
            obtain ⟨ad, hX, c0, c1, c2⟩ := svCell (hS4.own.imm KSv_pos) hkl
            have hmem : L[k] ∈ L := List.getElem_mem hkl
            generalize L[k] = x at *
            refine ⟨_, rfl, ad, hX, ⟨by omega, by omega⟩, _, by rw [Int.toNat_natCast]; exact c0, _, _, _, by rw [Int.toNat_natCast]; exact c1, _, by rw [Int.toNat_natCast]; exact c2, ?_⟩
            intro g3 u6 f6
            refine ⟨f6.blk.stOK (o := 0) [_, _, _] 0 (by simp), fun u7 hu7 => ?_⟩
            have b7 : Blk u7 g3 [.pointer (some ⟨x.sb, 0, none⟩), .slice x.TA x.F.length x.tc, iv x.last] := by rw [hu7]; exact Blk.setAll (o := 0) [.pointer (some ⟨x.sb, 0, none⟩), .slice x.TA x.F.length x.tc, iv x.last] 0 f6.blk
            have e7 : Ext u4 u7 := by rw [hu7]; exact f6.ext.setAll f6.ge _ _
            have hS7 := hS4.ext e7
            have bo7 := bo4.ext e7
            obtain ⟨B, D', q1, q2, q3, q4, q5, q6, q7, q8, q9⟩ := hS7.good x hmem
            refine ⟨_, b7.cell rfl, (dLoad hS7.inv q2 q3 q4 hS7.hs.ar q1).mono ?_⟩
            rintro _ u8 ⟨rfl, R', M', h', c⟩
            have hS8 := hS7.chg h' c q2 q3 q4 q9
            have bo8 := keepO hS7.hs.ar hgoR bo7 c
            have hg3R : ¬ R g3 := fun h => by have := hS4.hs.ar.lt g3 h; have := f6.ge; omega
            have b8 : Blk u8 g3 [.pointer (some ⟨x.sb, 0, none⟩), .slice x.TA x.F.length x.tc, iv x.last] := b7.keep c.fr fun hm => hg3R (hS7.hs.ar.mr _ hm)
            obtain ⟨B', D'', _, _, _, _, _, _, t7, t8, _⟩ := hS8.good x hmem
            obtain ⟨p1, p2⟩ := hS8.setT (la' := x.last) t7 t8
            refine ⟨_, rfl, brn (fun h => absurd rfl h) fun _ => ⟨_, _, _, b8.cell' rfl, _, b8.cell' rfl, p1, fun u9 hu9 => ?_⟩⟩
            have hS9 := p2 u9 hu9
            have bo9 := keepT hu9 bo8
            rw [q5, q6] at hS9
            exact ⟨B, D', R', M', x.TA, x.tc, L, rfl, q4.trans hmost, hS9, bo9⟩
      · exact brd (fun _ => rfl) fun _ => rfl
  · refine brd (fun _ => rfl) fun _ => brd (fun _ => rfl) fun _ => brd (fun _ => rfl) fun _ => rfl
end Go.Proofs.Ytadlhdiejmilmaa
/- Layer 4: an argument of calls. -/
set_option linter.unusedVariables false
namespace Go.Proofs.Ytadlhdiejmilmaa
open Go Go.Sx
theorem opens_Bs : Opens Try.prog 36 KBs (fun l => l.length ≤ maxLen ∧ ∀ a ∈ l, True) := opens_slice Try.underlying36 (by kernel_rfl) KB_pos (opens_u8 Try.underlying5)
theorem opens_Op : Opens Try.prog 70 KOp (fun _ => True) := by
  intro H enc w fuel cs x hx
  obtain ⟨hl, hf⟩ := opens_fields (by kernel_rfl) hx
  have hl3 : cs.length = 6 := hl.trans (by kernel_rfl)
  obtain ⟨k, hk, _⟩ := hf (K := Kd.int .i64) 0 (ft := 3) (off := 0) (by kernel_rfl) (by kernel_rfl) (opens_int Try.underlying3)
  obtain ⟨r, hr, _⟩ := hf (K := Kd.int .i64) 1 (ft := 3) (off := 1) (by kernel_rfl) (by kernel_rfl) (opens_int Try.underlying3)
  obtain ⟨n, hn, _⟩ := hf (K := Kd.int .i64) 2 (ft := 3) (off := 2) (by kernel_rfl) (by kernel_rfl) (opens_int Try.underlying3)
  obtain ⟨a, ha, _⟩ := hf (K := KBs) 3 (ft := 36) (off := 3) (by kernel_rfl) (by kernel_rfl) opens_Bs
  obtain ⟨b, hb, _⟩ := hf (K := KBs) 4 (ft := 36) (off := 4) (by kernel_rfl) (by kernel_rfl) opens_Bs
  obtain ⟨q, hq, _⟩ := hf (K := Kd.bool) 5 (ft := 4) (off := 5) (by kernel_rfl) (by kernel_rfl) (opens_bool Try.underlying4)
  match cs, hl3 with
  | [c0, c1, c2, c3, c4, c5], _ =>
    have hk : [c0] = [.int .i64 k] := hk
    have hr : [c1] = [.int .i64 r] := hr
    have hn : [c2] = [.int .i64 n] := hn
    have hq : [c5] = [.bool q] := hq
    cases hk; cases hr; cases hn; cases hq
    exact ⟨⟨k, r, n, a, b, q⟩, ⟨_, _, rfl, ha, hb⟩, trivial⟩
end Go.Proofs.Ytadlhdiejmilmaa
