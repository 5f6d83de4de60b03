/- 'BytesJoin' answers true. -/
import Derived.Test.YtbpcfkahnhlahaaBLimits
import Derived.Test.YtbpcfkahnhlahaaNestsJ
set_option linter.unusedVariables false
set_option linter.unusedSimpArgs false
namespace Go.Proofs.Ytbpcfkahnhlahaa
open Go Go.Sx
theorem sbj (x y : ByteArray) : sb (x ++ y) = sb x ++ sb y := by simp [sb]
theorem sb_mk (l : List UInt8) : sb ⟨l.toArray⟩ = l := by simp [sb]
theorem of_sb {x : ByteArray} {l : List UInt8} (h : sb x = l) : x = ⟨l.toArray⟩ := by subst h; simp [sb]
theorem eqj (x y : ByteArray) : (ByteArray.toList x == ByteArray.toList y) = decide (sb x = sb y) := by
  rw [ByteArray.toList_eq, ByteArray.toList_eq]
  by_cases h : sb x = sb y
  · rw [decide_eq_true h]; simp [sb] at h; simp [h]
  · rw [decide_eq_false h]; simp [sb] at h; simp [h]
theorem size_sb (x : ByteArray) : x.size = (sb x).length := (sb_length x).symm
theorem size_mk (l : List UInt8) : (ByteArray.mk l.toArray).size = l.length := by rw [size_sb, sb_mk]
theorem KBs_one (a : List UInt8) (cs : List Value) {Ω : Nat → Prop} {w : World} (h : KBs.rep Ω w a cs) : ∀ v ∈ cs, v.oneCell' = true := by
  obtain ⟨A, c, rfl, _⟩ := h
  simp [Value.oneCell']
theorem goods_spec {w : World} {L : Option Addr} {cl : Nat} {bs : List (List UInt8)} (h : Imm KBs NoB w L bs) (hn : bs.length ≤ 40) (hb : ∀ b ∈ bs, b.length ≤ 100) :
    CallsV Try.prog 27 #[.slice L bs.length cl] w fun v w' => v = .tuple #[.string ⟨(bs.flatMap encB).toArray⟩, .string ⟨(bs.flatMap encB).toArray⟩, .bool true] ∧ Ext w w' := by
  refine cardindexlaw01_BytesJoin_1.calls okay ?_
  unfold cardindexlaw01_BytesJoin_1.W
  have hfl := encBs_bound bs 100 hb (by omega)
  have hel : (encBs bs).length = (B1.enc bs.length).length + (bs.flatMap encB).length := by simp [encBs]
  have he10 := B1.enc_le_ten (m := bs.length) (by omega)
  have hfl2 : bs.length * (100 + 10) ≤ 40 * 110 := Nat.mul_le_mul hn (Nat.le_refl _)
  refine (Blobs_spec (OwnB.nil _) (Imm.none h KBs_pos) (by omega) (by simp; omega)).mono ?_
  rw [List.nil_append, wu _ (by omega) (by omega)]
  rintro v w1 ⟨A, c, rfl, ho, hg⟩
  have e1 := hg.ext (.refl _ _) (New.none _)
  refine ⟨_, _, _, rfl, ?_⟩
  refine (Uint_spec (OwnB.nil _) bs.length (by omega) (by simp)).mono ?_
  rw [List.nil_append]
  rintro v w2 ⟨A2, c2, rfl, ho2, hg2, _⟩
  have e2 := hg2.ext (.refl _ _) (New.none _)
  have e02 := e1.trans' e2
  have hle := ho.le
  refine ⟨_, _, _, rfl, ?_⟩
  refine ⟨fun each k w3 => ∃ j : Nat, j ≤ bs.length ∧ k = (j : Int) ∧ sb each = (bs.take j).flatMap encB ∧ Ext w2 w3, fun _ k _ => (bs.length - k).toNat, ⟨0, by omega, rfl, rfl, .refl _ _⟩, ?_⟩
  rintro each _ w3 ⟨j, hj, rfl, hs, e3⟩
  refine brd (fun hlt => ?_) (fun hge => ?_)
  · obtain ⟨ad, hA, X, cx, hcx, hX, hcell⟩ := h.item (x := (j : Int)) (by omega) (by omega)
    rw [Int.toNat_natCast] at hX hcell hcx ⊢
    refine ⟨ad, hA, ⟨by omega, by omega⟩, _, _, _, hcell _ (e02.trans' e3), ?_⟩
    have hb1 : (bs.getD j []).length ≤ 100 := hb _ (by
      have : j < bs.length := by omega
      simp [List.getD, this])
    refine (Blob_spec (OwnB.nil _) (Imm.none (hX.ext KB_pos (e02.trans' e3)) KB_pos) (by rw [List.length_nil]; omega)).mono ?_
    rw [List.nil_append]
    rintro v w4 ⟨A4, c4, rfl, ho4, hg4⟩
    have e4 := hg4.ext (.refl _ _) (New.none _)
    refine ⟨_, _, _, rfl, _, _, to_str bt ho4.imm0 c4, ?_⟩
    have htk := take_flat (f := encB) bs j (by omega)
    have hle2 := take_flat_le (f := encB) bs (j + 1)
    rw [htk, List.length_append] at hle2
    have hes : each.size = ((bs.take j).flatMap encB).length := by rw [size_sb, hs]
    rw [hes, size_mk, wi _ (by omega) (by omega)]
    exact ⟨by omega, ⟨j + 1, by omega, rfl, by rw [sbj, hs, sb_mk, htk], e3.trans' e4⟩, by dsimp only; omega⟩
  · obtain rfl : j = bs.length := by omega
    rw [List.take_length] at hs
    refine brd (fun h => absurd h (by omega)) (fun _ => ?_)
    have e23 := e2.trans' e3
    have hi3 := ho.imm0.ext KB_pos e23
    have hc1 := hi3.cut (lo := (B1.enc bs.length).length) (hi := (encBs bs).length) (m := c) hle
    have hc2 := hi3.cut (lo := 0) (hi := (B1.enc bs.length).length) (m := c) (by omega)
    rw [List.take_length, show (encBs bs).drop (B1.enc bs.length).length = bs.flatMap encB by simp [encBs]] at hc1
    rw [List.drop_zero, show (encBs bs).take (B1.enc bs.length).length = B1.enc bs.length by simp [encBs]] at hc2
    rw [Int.toNat_natCast, show (encBs bs).length - (B1.enc bs.length).length = (bs.flatMap encB).length by omega, Nat.sub_zero]
    refine ⟨fun u => Ext w3 u, Fr.drew NoB w3, ⟨by omega, by omega⟩, _, to_str_all bt hc1 _, ⟨by omega, by omega⟩, _, to_str_all bt hc2 _, ?_⟩
    refine (Uint_spec (OwnB.nil _) bs.length (by omega) (by simp)).mono ?_
    rw [List.nil_append]
    rintro v w5 ⟨A5, c5, rfl, ho5, hg5, _⟩
    have e5 : Ext w3 w5 := (hg5.ext (.refl _ _) (New.none _)).drew0
    refine ⟨_, _, _, rfl, fun u => Ext w5 u, fun u hu => e5.trans' hu, .refl _ _, _, to_str_all bt ho5.imm0 _, ?_, (e02.trans' e3).trans' e5⟩
    rw [eq_str, decide_eq_true rfl, of_sb hs]

theorem one_list (b : List UInt8) : encBs [b] = 1 :: encB b := by
  simp [encBs, B1.enc_lt]
theorem one_imm {w : World} {X : Option Addr} {c : Nat} {b : List UInt8} (h : Imm KB NoB w X b) (hc : b.length ≤ c) : OwnK KBs (w.alloc (.cells #[.slice X b.length c] 30)) (some ⟨w.heap.size, 0, none⟩) 1 [b] :=
  ownK_lit (K := KBs) (cs := [.slice X b.length c]) (l := [b]) rfl (by simp [maxLen]) (fun i a hi => by
    match i, hi with
    | 0, hi => cases hi; exact KBs_rep h hc
    | i + 1, hi => simp at hi)
set_option maxRecDepth 10000 in
theorem join_spec {w : World} {A B : Option Addr} {ca cb : Nat} {la lb : List (List UInt8)} (ha : Imm KBs NoB w A la) (hb : Imm KBs NoB w B lb) (hla : la.length ≤ maxLen) (hlb : lb.length ≤ maxLen) :
    CallsV Try.prog 8 #[.slice A la.length ca, .slice B lb.length cb] w fun v w' => v = .bool true ∧ Ext w w' := by
  refine cardindexlaw01_BytesJoin.calls okay ?_
  unfold cardindexlaw01_BytesJoin.W
  have aw : ∀ w5, Ext w w5 → CallsV Try.prog 14 #[] w5 fun v w' => ∃ x, v = .bool x ∧ ((fun v w' => v = .bool true ∧ Ext w w' : Value → World → Prop) (.bool x) w') := by
    intro w5 e5
    refine (awake_spec w5).mono ?_
    rintro v w6 ⟨rfl, e6⟩
    exact ⟨_, rfl, rfl, e5.trans' e6⟩
  refine brd (fun _ => aw _ (.refl _ _)) (fun h1 => brd (fun _ => aw _ (.refl _ _)) (fun h2 => ?_))
  refine ⟨fun x w1 => Ext w w1 ∧ 0 ≤ x ∧ x ≤ 2 ∧ (0 < x → ∀ b ∈ la, b.length ≤ 100) ∧ (1 < x → ∀ b ∈ lb, b.length ≤ 100), fun x _ => (2 - x).toNat, ⟨.refl _ _, by omega, by omega, fun h => by omega, fun h => by omega⟩, ?_⟩
  rintro x w1 ⟨e1, hx0, hx2, hA, hB⟩
  -- one list of the two
  have body : ∀ (L : Option Addr) (bs : List (List UInt8)), Imm KBs NoB w L bs → bs.length ≤ 20 → ∀ (j : Nat) (w2 : World), j < bs.length → Ext w w2 → ∃ ad, L = some ad ∧ ∃ X cx, (bs.getD j []).length ≤ cx ∧ Imm KB NoB w X (bs.getD j []) ∧ w2.cell? (ad.add ((j : Int).toNat * 1)) = some (.slice X (bs.getD j []).length cx) := by
    intro L bs hL _ j w2 hj e2
    obtain ⟨ad, hA, X, cx, hcx, hX, hcell⟩ := hL.item (x := (j : Int)) (by omega) (by omega)
    exact ⟨ad, hA, X, cx, hcx, hX, hcell w2 e2⟩
  refine brd (fun hlt => ⟨⟨by omega, by omega⟩, ?_⟩) (fun hge => ?_)
  · refine brd (fun hx => ?_) (fun hx => brd (fun hx1 => ?_) (fun hx1 => absurd hx1 (by omega)))
    · refine ⟨fun k w2 => ∃ j : Nat, j ≤ la.length ∧ k = (j : Int) ∧ Ext w w2 ∧ ∀ i, i < j → (la.getD i []).length ≤ 100, fun k _ => (la.length - k).toNat, ⟨0, by omega, rfl, e1, fun i hi => by omega⟩, ?_⟩
      rintro _ w2 ⟨j, hj, rfl, e2, hall⟩
      refine brd (fun hlt => ?_) (fun hge => ?_)
      · obtain ⟨ad, hAd, X, cx, hcx, hX, hcell⟩ := body A la ha (by omega) j w2 (by omega) e2
        refine ⟨ad, hAd, ⟨by omega, by omega⟩, _, _, _, hcell, fun u => Ext w u, e2.drew, ?_⟩
        generalize hbd : la.getD j [] = b at *
        refine brd (fun h100 => brd (fun _ => aw _ e2.drew) (fun h => absurd h100 h)) (fun h100 => ?_)
        have hk := one_imm (hX.ext KB_pos e2.drew) hcx
        have e3 := e2.drew.alloc (.cells #[.slice X b.length cx] 30)
        refine ⟨fun u => Ext w u, fun u hu => hu, e3, ?_⟩
        have hel := encB_length b
        have he10 := B1.enc_le_ten (m := b.length) (by omega)
        refine (Blobs_spec (OwnB.nil _) (Imm.none (hk.imm KBs_pos) KBs_pos) (by simp) (by rw [one_list]; simp; omega)).mono ?_
        rw [List.nil_append, one_list]
        rintro v w4 ⟨A4, c4, rfl, ho4, hg4⟩
        have e4 := e3.trans' (hg4.ext (.refl _ _) (New.none _))
        refine ⟨_, _, _, rfl, fun u => Ext w4 u, fun u hu => e4.trans' hu, .refl _ _, _, to_str_all bt ho4.imm0 _, ?_⟩
        refine (Blob_spec (OwnB.nil _) (Imm.none (hX.ext KB_pos e4) KB_pos) (by rw [List.length_nil]; omega)).mono ?_
        rw [List.nil_append]
        rintro v w5 ⟨A5, c5, rfl, ho5, hg5⟩
        have e5 := hg5.ext (.refl _ _) (New.none _)
        refine ⟨_, _, _, rfl, fun u => Ext w5 u, fun u hu => e5.trans' hu, .refl _ _, _, to_str_all bt ho5.imm0 _, by rw [size_mk, size_mk]; show 1 + _ ≤ _; omega, ?_⟩
        rw [eqj, sbj, sb_mk, sb_mk]
        refine brn (fun h => absurd rfl h) (fun _ => ?_)
        rw [wi _ (by omega) (by omega)]
        exact ⟨⟨j + 1, by omega, rfl, e4.trans' e5, fun i hi => if hij : i = j then by subst hij; rw [hbd]; omega else hall i (by omega)⟩, by dsimp only; omega⟩
      · rw [wi _ (by omega) (by omega)]
        refine ⟨⟨e2, by omega, by omega, fun _ b hb => ?_, fun h => by omega⟩, by dsimp only; omega⟩
        obtain ⟨k, hk, rfl⟩ := List.getElem_of_mem hb
        have := hall k (by omega)
        simpa [List.getD, hk] using this
    · refine ⟨fun k w2 => ∃ j : Nat, j ≤ lb.length ∧ k = (j : Int) ∧ Ext w w2 ∧ ∀ i, i < j → (lb.getD i []).length ≤ 100, fun k _ => (lb.length - k).toNat, ⟨0, by omega, rfl, e1, fun i hi => by omega⟩, ?_⟩
      rintro _ w2 ⟨j, hj, rfl, e2, hall⟩
      refine brd (fun hlt => ?_) (fun hge => ?_)
      · obtain ⟨ad, hAd, X, cx, hcx, hX, hcell⟩ := body B lb hb (by omega) j w2 (by omega) e2
        refine ⟨ad, hAd, ⟨by omega, by omega⟩, _, _, _, hcell, fun u => Ext w u, e2.drew, ?_⟩
        generalize hbd : lb.getD j [] = b at *
        refine brd (fun h100 => brd (fun _ => aw _ e2.drew) (fun h => absurd h100 h)) (fun h100 => ?_)
        have hk := one_imm (hX.ext KB_pos e2.drew) hcx
        have e3 := e2.drew.alloc (.cells #[.slice X b.length cx] 30)
        refine ⟨fun u => Ext w u, fun u hu => hu, e3, ?_⟩
        have hel := encB_length b
        have he10 := B1.enc_le_ten (m := b.length) (by omega)
        refine (Blobs_spec (OwnB.nil _) (Imm.none (hk.imm KBs_pos) KBs_pos) (by simp) (by rw [one_list]; simp; omega)).mono ?_
        rw [List.nil_append, one_list]
        rintro v w4 ⟨A4, c4, rfl, ho4, hg4⟩
        have e4 := e3.trans' (hg4.ext (.refl _ _) (New.none _))
        refine ⟨_, _, _, rfl, fun u => Ext w4 u, fun u hu => e4.trans' hu, .refl _ _, _, to_str_all bt ho4.imm0 _, ?_⟩
        refine (Blob_spec (OwnB.nil _) (Imm.none (hX.ext KB_pos e4) KB_pos) (by rw [List.length_nil]; omega)).mono ?_
        rw [List.nil_append]
        rintro v w5 ⟨A5, c5, rfl, ho5, hg5⟩
        have e5 := hg5.ext (.refl _ _) (New.none _)
        refine ⟨_, _, _, rfl, fun u => Ext w5 u, fun u hu => e5.trans' hu, .refl _ _, _, to_str_all bt ho5.imm0 _, by rw [size_mk, size_mk]; show 1 + _ ≤ _; omega, ?_⟩
        rw [eqj, sbj, sb_mk, sb_mk]
        refine brn (fun h => absurd rfl h) (fun _ => ?_)
        rw [wi _ (by omega) (by omega)]
        exact ⟨⟨j + 1, by omega, rfl, e4.trans' e5, fun i hi => if hij : i = j then by subst hij; rw [hbd]; omega else hall i (by omega)⟩, by dsimp only; omega⟩
      · rw [wi _ (by omega) (by omega)]
        refine ⟨⟨e2, by omega, by omega, fun _ => hA (by omega), fun _ b hb => ?_⟩, by dsimp only; omega⟩
        obtain ⟨k, hk, rfl⟩ := List.getElem_of_mem hb
        have := hall k (by omega)
        simpa [List.getD, hk] using this
  · have hA := hA (by omega)
    have hB := hB (by omega)
    refine (goods_spec (ha.ext KBs_pos e1) (by omega) hA).mono ?_
    rintro v w2 ⟨rfl, e2⟩
    refine ⟨_, _, _, rfl, ?_⟩
    refine (goods_spec (hb.ext KBs_pos (e1.trans' e2)) (by omega) hB).mono ?_
    rintro v w3 ⟨rfl, e3⟩
    refine ⟨_, _, _, rfl, ?_⟩
    have e13 := (e1.trans' e2).trans' e3
    have o4 : OwnK KBs (w3.alloc (.cells #[] 30)) (some ⟨w3.heap.size, 0, none⟩) 0 [] := ownK_lit (K := KBs) (cs := []) (l := []) rfl (by simp) (fun i a hi => by simp at hi)
    have n4 : New w3 (some ⟨w3.heap.size, 0, none⟩) := New.self w3 0 none
    have f4 : Ext w3 (w3.alloc (.cells #[] 30)) := Fr.alloc NoB w3 _
    obtain ⟨A5, c5, w5, hr5, ho5, hg5⟩ := o4.append slBs (ty := 34) (cb := ca) ((ha.ext KBs_pos e13).toOwn KBs_pos f4 n4) (fun a cs h => KBs_one a cs h) (by simp; omega) (by simp; omega)
    rw [List.nil_append] at hr5 ho5
    refine ⟨_, _, _, _, hr5, ?_⟩
    have e5 := hg5.ext f4 n4
    have n5 := hg5.new f4 n4
    obtain ⟨A6, c6, w6, hr6, ho6, hg6⟩ := ho5.append slBs (ty := 34) (cb := cb) ((hb.ext KBs_pos e13).toOwn KBs_pos e5 n5) (fun a cs h => KBs_one a cs h) (by simp [maxLen]; omega) (by omega)
    refine ⟨_, _, _, _, hr6, ?_⟩
    have e6 := hg6.ext e5 n5
    refine (goods_spec (ho6.imm KBs_pos) (by simp; omega) (fun b hb => by
      rcases List.mem_append.1 hb with h | h
      · exact hA b h
      · exact hB b h)).mono ?_
    rintro v w7 ⟨rfl, e7⟩
    refine ⟨_, _, _, rfl, ?_⟩
    have e17 := (e13.trans' e6).trans' e7
    have b1 := encBs_bound la 100 hA (by omega)
    have b2 := encBs_bound lb 100 hB (by omega)
    refine br (fun _ => br (fun _ => br (fun _ => brS (fun _ => brS (fun _ => brS (fun _ => ⟨?_, ?_⟩) (fun h => absurd rfl h)) (fun h => absurd rfl h)) (fun h => absurd rfl h)) (fun h => by cases h)) (fun h => by cases h)) (fun h => by cases h)
    · rw [size_mk, size_mk]; omega
    · rw [eqj, sbj, sb_mk, sb_mk, sb_mk]
      exact brd (fun _ => aw w7 e17) (fun h => absurd (by simp) h)
end Go.Proofs.Ytbpcfkahnhlahaa
