/- 'BytesTells' answers true: each call tells what the document defines, and writes over nothing that it was handed. -/
import Derived.Test.YtbpcfkahnhlahaaF11
import Derived.Test.YtbpcfkahnhlahaaB6
import Derived.Test.YtbpcfkahnhlahaaNestsT
set_option linter.unusedVariables false
set_option linter.unusedSimpArgs false
namespace Go.Proofs.Ytbpcfkahnhlahaa
open Go Go.Sx
abbrev Slots := Nat → Option (Option Addr × Nat × List UInt8)
def upd (s : Slots) (i : Nat) (x : Option (Option Addr × Nat × List UInt8)) : Slots := fun j => if j = i then x else s j
/-- bytes of one's own, each in a block of its own, new since a world -/
structure Own3 (w0 u : World) (s : Slots) : Prop where
  ext : Ext w0 u
  own' : ∀ i x, s i = some x → OwnB u x.1 x.2.1 x.2.2
  new' : ∀ i x, s i = some x → New w0 x.1
  apart : ∀ i j x y, i ≠ j → s i = some x → s j = some y → ∀ k, ownB x.1 k → ¬ ownB y.1 k
theorem Own3.own {w0 u : World} {s : Slots} (h : Own3 w0 u s) (i : Nat) {A : Option Addr} {c : Nat} {l : List UInt8} (hi : s i = some (A, c, l)) : OwnB u A c l := h.own' i _ hi
theorem Own3.new {w0 u : World} {s : Slots} (h : Own3 w0 u s) (i : Nat) {A : Option Addr} {c : Nat} {l : List UInt8} (hi : s i = some (A, c, l)) : New w0 A := h.new' i _ hi
theorem Own3.nil (w : World) : Own3 w w (fun _ => none) := ⟨.refl _ _, fun _ _ h => (by cases h), fun _ _ h => (by cases h), fun _ _ _ _ _ h => (by cases h)⟩
theorem Own3.put {w0 u : World} {s : Slots} (h : Own3 w0 u s) (i : Nat) (hi : s i = none) {b : List UInt8} (hb : b.length ≤ maxLen) :
    ∃ A c u', RunsTo Try.prog (convert 9 30 (.string ⟨b.toArray⟩)) u (.slice A b.length c) u' ∧ Own3 w0 u' (upd s i (some (A, c, b))) := by
  obtain ⟨A, c, u', hr, ho, he, hn, _⟩ := to_bytes bt u ⟨b.toArray⟩ hb
  have hsb : sb ⟨b.toArray⟩ = b := rfl
  rw [hsb] at hr ho
  refine ⟨A, c, u', hr, h.ext.trans' he, fun j x hj => ?_, fun j x hj => ?_, fun j k x y hjk hj hk q q1 q2 => ?_⟩
  · by_cases e : j = i
    · rw [upd, if_pos e] at hj; cases hj; exact ho
    · rw [upd, if_neg e] at hj; exact (h.own' j x hj).ext he
  · by_cases e : j = i
    · rw [upd, if_pos e] at hj; cases hj; exact hn.ext h.ext
    · rw [upd, if_neg e] at hj; exact h.new' j x hj
  · by_cases e : j = i
    · rw [upd, if_pos e] at hj; cases hj
      rw [upd, if_neg (fun e' => hjk (e.trans e'.symm))] at hk
      exact absurd ((h.own' k y hk).lt q q2) (Nat.not_lt.2 (hn q q1))
    · rw [upd, if_neg e] at hj
      by_cases e' : k = i
      · rw [upd, if_pos e'] at hk; cases hk
        exact absurd ((h.own' j x hj).lt q q1) (Nat.not_lt.2 (hn q q2))
      · rw [upd, if_neg e'] at hk
        exact h.apart j k x y hjk hj hk q q1 q2
theorem Own3.grow {w0 u u' : World} {s : Slots} (h : Own3 w0 u s) (i t : Nat) {A A' : Option Addr} {c c' : Nat} {l l' : List UInt8} (hi : s i = some (A, c, l)) (ht : s t = none) (g : Grew A A' u u') (ho : OwnB u' A' c' l') :
    Own3 w0 u' (upd (upd s i none) t (some (A', c', l'))) := by
  have hit : i ≠ t := fun e => by rw [e, ht] at hi; cases hi
  have other : ∀ {j x}, j ≠ t → (upd (upd s i none) t (some (A', c', l'))) j = some x → j ≠ i ∧ s j = some x := by
    intro j x e hj
    rw [upd, if_neg e] at hj
    by_cases e' : j = i
    · rw [upd, if_pos e'] at hj; cases hj
    · rw [upd, if_neg e'] at hj; exact ⟨e', hj⟩
  have fresh : ∀ {j x}, j ≠ i → s j = some x → ∀ q, ownB A' q → ¬ ownB x.1 q := by
    intro j x e hj q q1 q2
    rcases g.sub q q1 with h1 | h1
    · exact h.apart i j _ x (fun e' => e e'.symm) hi hj q h1 q2
    · exact absurd ((h.own' j x hj).lt q q2) (Nat.not_lt.2 h1)
  refine ⟨g.ext h.ext (h.new' i _ hi), fun j x hj => ?_, fun j x hj => ?_, fun j k x y hjk hj hk q q1 q2 => ?_⟩
  · by_cases e : j = t
    · rw [upd, if_pos e] at hj; cases hj; exact ho
    · obtain ⟨e', hj⟩ := other e hj
      exact (h.own' j x hj).keep g.fr (fun q q1 q2 => h.apart i j _ x (fun e2 => e' e2.symm) hi hj q q2 q1)
  · by_cases e : j = t
    · rw [upd, if_pos e] at hj; cases hj; exact g.new h.ext (h.new' i _ hi)
    · exact h.new' j x (other e hj).2
  · by_cases e : j = t
    · rw [upd, if_pos e] at hj; cases hj
      obtain ⟨e', hk⟩ := other (fun e' => hjk (e.trans e'.symm)) hk
      exact fresh e' hk q q1 q2
    · obtain ⟨e', hj⟩ := other e hj
      by_cases e2 : k = t
      · rw [upd, if_pos e2] at hk; cases hk
        exact fresh e' hj q q2 q1
      · obtain ⟨e3, hk⟩ := other e2 hk
        exact h.apart j k x y hjk hj hk q q1 q2
theorem getsF_len (l : List UInt8) (most : Int) : ∀ (k : Nat) (acc : List (List UInt8)) (p : Int), (acc.length : Int) ≤ p → p ≤ (l.length : Int) → (getsF l most k acc p).1.length ≤ l.length
  | 0, acc, p, h1, h2 => by rw [getsF]; dsimp only; omega
  | k + 1, acc, p, h1, h2 => by
    rw [getsF]
    split
    · rename_i h
      obtain ⟨h3, h4, h5⟩ := getB_ok h
      exact getsF_len l most k _ _ (by simp; omega) h5
    · simp
theorem gets_len (l : List UInt8) (at_ many most : Int) : (getBs l at_ many most).1.length ≤ l.length := by
  unfold getBs
  dsimp only
  split
  · simp
  · rename_i h
    split
    · simp
    · obtain ⟨q, h1, h2, h3, h4, h5⟩ := getU_ok (l := l) (at_ := at_) (by omega)
      exact getsF_len l most _ _ _ (by simp; omega) (by omega)
theorem encBs_le : ∀ (l : List (List UInt8)), (∀ b ∈ l, b.length ≤ 100) → (l.flatMap encB).length ≤ 110 * l.length
  | [], _ => by simp
  | b :: l, h => by
    have h1 := encBs_le l (fun x hx => h x (by simp [hx]))
    have h2 := h b (by simp)
    have h3 := B1.enc_le_ten (m := b.length) (by omega)
    simp only [List.flatMap_cons, List.length_append, List.length_cons, encB]
    omega
set_option maxRecDepth 10000 in
set_option maxHeartbeats 4000000 in
theorem tells_spec {w : World} {bA lA : Option Addr} {bc lc : Nat} {n : Nat} {b : List UInt8} {l : List (List UInt8)} (hn : n < 2 ^ 64) (at_ many most : Int) (hmany : -9223372036854775808 ≤ many ∧ many ≤ 9223372036854775807) (hmost : -9223372036854775808 ≤ most ∧ most ≤ 9223372036854775807)
    (hB : Imm KB NoB w bA b) (hbc : b.length ≤ bc) (hL : Imm KBs NoB w lA l) :
    CallsV Try.prog 4 #[.int .u64 n, .slice bA b.length bc, .int .i64 at_, .int .i64 many, .int .i64 most, .slice lA l.length lc] w fun v w' => v = .bool true ∧ Ext w w' := by
  refine cardindexlaw01_BytesTells.calls okay ?_
  unfold cardindexlaw01_BytesTells.W
  have aw : ∀ w5, Ext w w5 → CallsV Try.prog 14 #[] w5 fun v w' => ∃ x, v = .bool x ∧ ((fun v w' => v = .bool true ∧ Ext w w' : Value → World → Prop) (.bool x) w') := by
    intro w5 e5
    refine (awake_spec w5).mono ?_
    rintro v w6 ⟨rfl, e6⟩
    exact ⟨_, rfl, rfl, e5.trans' e6⟩
  refine brd (fun _ => aw _ (.refl _ _)) (fun h600 => brd (fun _ => aw _ (.refl _ _)) (fun h20 => ?_))
  refine ⟨fun i u => ∃ j : Nat, j ≤ l.length ∧ i = (j : Int) ∧ (∀ q, q < j → (l.getD q []).length ≤ 100) ∧ u = w, fun i _ => (l.length - i).toNat, ⟨0, by omega, rfl, fun q h => by omega, rfl⟩, ?_⟩
  rintro _ u ⟨j, hj, rfl, hall, rfl⟩
  refine brd (fun hlt => ?_) (fun hge => ?_)
  · obtain ⟨ad, hA, X, cx, hcx, hx, hcell⟩ := itemI hL (x := (j : Int)) (by omega) (by omega)
    refine ⟨ad, hA, ⟨by omega, by omega⟩, _, _, _, hcell _ (.refl _ _), ?_⟩
    rw [Int.toNat_natCast]
    refine brd (fun _ => aw _ (.refl _ _)) (fun h100 => ?_)
    rw [wi _ (by omega) (by omega)]
    exact ⟨⟨j + 1, by omega, rfl, fun q hq => if hij : q = j then by subst hij; omega else hall q (by omega), rfl⟩, by dsimp only; omega⟩
  · obtain rfl : j = l.length := by omega
    have hall' : ∀ x ∈ l, x.length ≤ 100 := by
      intro x hx
      obtain ⟨q, hq, rfl⟩ := List.getElem_of_mem hx
      have := hall q hq
      simpa [List.getD, hq] using this
    clear hall hge hj
    have hlen := encBs_le l hall'
    have hbn : (encBs l).length ≤ 2300 := by
      have := B1.enc_le_ten (m := l.length) (by omega)
      simp only [encBs, List.length_append]; omega
    refine ⟨_, _, to_str bt hB bc, ?_⟩
    obtain ⟨I, cI, w1, hr1, oI, e1, nI, _⟩ := to_bytes bt u ⟨b.toArray⟩ (by have : (ByteArray.mk b.toArray).size = b.length := rfl; simp [maxLen]; omega)
    have hsb : sb ⟨b.toArray⟩ = b := rfl
    rw [hsb] at hr1 oI
    refine ⟨_, _, _, _, hr1, ?_⟩
    have iB : ∀ z, Ext w1 z → Imm KB NoB z bA b := fun z hz => hB.ext KB_pos (e1.trans' hz)
    have iI : ∀ z, Ext w1 z → Imm KB NoB z I b := fun z hz => oI.imm0.ext KB_pos hz
    have iL : ∀ z, Ext w1 z → Imm KBs NoB z lA l := fun z hz => hL.ext KBs_pos (e1.trans' hz)
    refine (GetUint_spec (iI _ (.refl _ _)) (by omega) at_).mono ?_
    rintro _ w2 ⟨rfl, e2⟩
    refine ⟨_, _, _, rfl, ?_⟩
    refine (GetUintR_spec rfl (iB _ e2) (by omega) at_).mono ?_
    rintro _ w3 ⟨rfl, e3'⟩
    have e3 := e2.trans' e3'
    refine ⟨_, _, _, rfl, ?_⟩
    refine brn (fun h => absurd rfl h) (fun _ => brn (fun h => absurd rfl h) (fun _ => brn (fun h => absurd rfl h) (fun _ => ?_)))
    refine (GetBlob_spec (iI _ e3) (by omega) oI.le at_ most (by omega)).mono ?_
    rintro _ w4 ⟨X, cX, rfl, oX, e4', nX⟩
    have e4 := e3.trans' e4'
    refine ⟨_, _, _, _, _, rfl, ?_⟩
    refine (GetBlobR_spec rfl (iB _ e4) (by omega) hbc at_ most (by omega)).mono ?_
    rintro _ w5 ⟨Y, cY, rfl, oY, e5', nY⟩
    have e5 := e4.trans' e5'
    refine ⟨_, _, _, _, _, rfl, ?_⟩
    refine ⟨_, _, to_str bt (oX.ext e5').imm0 cX, _, _, to_str bt oY.imm0 cY, ?_⟩
    refine brnS (fun h => absurd rfl h) (fun _ => brn (fun h => absurd rfl h) (fun _ => brn (fun h => absurd rfl h) (fun _ => ?_)))
    refine (GetBlobs_spec (iI _ e5) (by omega) oI.le at_ many most (by omega) (by omega)).mono ?_
    rintro _ w6 ⟨X, cX, rfl, oX, e6', nX⟩
    have e6 := e5.trans' e6'
    refine ⟨_, _, _, _, _, rfl, ?_⟩
    refine (GetBlobsR_spec rfl (iB _ e6) (by omega) hbc at_ many most (by omega) (by omega)).mono ?_
    rintro _ w7 ⟨Y, cY, rfl, oY, e7', nY⟩
    have e7 := e6.trans' e7'
    refine ⟨_, _, _, _, _, rfl, ?_⟩
    have oY' := OwnK.weaken (K := Kd.ownBytes w6.heap.size) (K' := KBs) (f := id) (Eq.refl 1) oY (fun Ω a cs hr => ownBytes_KBs hr)
    rw [List.map_id] at oY'
    refine (same_spec ((oX.ext e7').imm KBs_pos) (oY'.imm KBs_pos) (by have := gets_len b at_ many most; omega)).mono ?_
    rintro _ w8 ⟨rfl, e8'⟩
    have e8 := e7.trans' e8'
    rw [decide_eq_true (rfl : (getBs b at_ many most).1 = (getBs b at_ many most).1)]
    refine ⟨_, rfl, ?_⟩
    refine brnb (fun h => by cases h) (fun _ => brn (fun h => absurd rfl h) (fun _ => brn (fun h => absurd rfl h) (fun _ => ?_)))
    refine ⟨_, _, to_str bt (iI _ e8) cI, _, _, to_str bt (iB _ e8) bc, ?_⟩
    refine brnS (fun h => absurd rfl h) (fun _ => ?_)
    have e9 : Ext w1 w8.drew := e8.trans' (Fr.drew NoB _)
    generalize w8.drew = u0 at *
    refine ⟨fun z => Ext u0 z, .refl _ _, _, fun z hz => to_str bt (iB _ (e9.trans' hz)) bc, _, fun z hz => to_str bt (iB _ (e9.trans' hz)) bc, _, fun z hz => to_str bt (iB _ (e9.trans' hz)) bc, ?_⟩
    have o := Own3.nil u0
    have hbm : b.length ≤ maxLen := by simp [maxLen]; omega
    have iB : ∀ z, Ext u0 z → Imm KB NoB z bA b := fun z hz => iB _ (e9.trans' hz)
    have iI := iI _ e9
    have iL0 := iL _ e9
    have iL : ∀ z, Ext u0 z → Imm KBs NoB z lA l := fun z hz => iL _ (e9.trans' hz)
    have eu : Ext u u0 := e1.trans' e9
    clear e1 e2 e3' e3 e4' e4 e5' e5 e6' e6 e7' e7 e8' e8 e9 oX oY oY' nX nY nI hr1
    have hn' : n < 18446744073709551616 := hn
    have hen := B1.enc_le_ten (m := n) hn'
    have heb := B1.enc_le_ten (m := b.length) (by omega)
    have hcb : (encB b).length ≤ b.length + 10 := by simp only [encB, List.length_append]; omega
    have c20 : ∀ {z : World} {A : Option Addr} {c : Nat}, OwnB z A c b → CallsV Try.prog 20 #[.slice A b.length c, .int .u64 n] z fun v w' => ∃ A' c', v = .slice A' (b ++ B1.enc n).length c' ∧ OwnB w' A' c' (b ++ B1.enc n) ∧ Grew A A' z w' := by
      intro z A c h
      refine (Uint_spec h n hn (by omega)).mono ?_
      rintro _ u' ⟨A', c', rfl, ho, hg, _⟩
      exact ⟨A', c', rfl, ho, hg⟩
    have c21 : ∀ {z : World} {A : Option Addr} {c : Nat}, OwnB z A c b → Ext u0 z → New u0 A → CallsV Try.prog 21 #[.slice A b.length c, .slice I b.length cI] z fun v w' => ∃ A' c', v = .slice A' (b ++ encB b).length c' ∧ OwnB w' A' c' (b ++ encB b) ∧ Grew A A' z w' :=
      fun h e q => Blob_spec h (iI.toOwn KB_pos e q) (by omega)
    have c22 : ∀ {z : World} {A : Option Addr} {c : Nat}, OwnB z A c b → Ext u0 z → New u0 A → CallsV Try.prog 22 #[.slice A b.length c, .slice lA l.length lc] z fun v w' => ∃ A' c', v = .slice A' (b ++ encBs l).length c' ∧ OwnB w' A' c' (b ++ encBs l) ∧ Grew A A' z w' :=
      fun h e q => Blobs_spec h (iL0.toOwn KBs_pos e q) (by omega) (by omega)
    repeat' first
      | with_reducible exact o.ext
      | with_reducible apply And.intro
      | (with_reducible refine CallsV.mono (c20 (o.own 3 rfl)) ?_; rintro _ u' ⟨A', c', rfl, ho, hg⟩; have o := o.grow 3 0 rfl rfl hg ho; refine ⟨_, _, _, rfl, ?_⟩)
      | (with_reducible refine CallsV.mono (c20 (o.own 4 rfl)) ?_; rintro _ u' ⟨A', c', rfl, ho, hg⟩; have o := o.grow 4 0 rfl rfl hg ho; refine ⟨_, _, _, rfl, ?_⟩)
      | (with_reducible refine CallsV.mono (c20 (o.own 5 rfl)) ?_; rintro _ u' ⟨A', c', rfl, ho, hg⟩; have o := o.grow 5 0 rfl rfl hg ho; refine ⟨_, _, _, rfl, ?_⟩)
      | (with_reducible refine CallsV.mono (c21 (o.own 3 rfl) o.ext (o.new 3 rfl)) ?_; rintro _ u' ⟨A', c', rfl, ho, hg⟩; have o := o.grow 3 1 rfl rfl hg ho; refine ⟨_, _, _, rfl, ?_⟩)
      | (with_reducible refine CallsV.mono (c21 (o.own 4 rfl) o.ext (o.new 4 rfl)) ?_; rintro _ u' ⟨A', c', rfl, ho, hg⟩; have o := o.grow 4 1 rfl rfl hg ho; refine ⟨_, _, _, rfl, ?_⟩)
      | (with_reducible refine CallsV.mono (c21 (o.own 5 rfl) o.ext (o.new 5 rfl)) ?_; rintro _ u' ⟨A', c', rfl, ho, hg⟩; have o := o.grow 5 1 rfl rfl hg ho; refine ⟨_, _, _, rfl, ?_⟩)
      | (with_reducible refine CallsV.mono (c22 (o.own 3 rfl) o.ext (o.new 3 rfl)) ?_; rintro _ u' ⟨A', c', rfl, ho, hg⟩; have o := o.grow 3 2 rfl rfl hg ho; refine ⟨_, _, _, rfl, ?_⟩)
      | (with_reducible refine CallsV.mono (c22 (o.own 4 rfl) o.ext (o.new 4 rfl)) ?_; rintro _ u' ⟨A', c', rfl, ho, hg⟩; have o := o.grow 4 2 rfl rfl hg ho; refine ⟨_, _, _, rfl, ?_⟩)
      | (with_reducible refine CallsV.mono (c22 (o.own 5 rfl) o.ext (o.new 5 rfl)) ?_; rintro _ u' ⟨A', c', rfl, ho, hg⟩; have o := o.grow 5 2 rfl rfl hg ho; refine ⟨_, _, _, rfl, ?_⟩)
      | (obtain ⟨A, c, u', hr, o⟩ := o.put 3 rfl hbm; refine ⟨_, _, _, _, hr, ?_⟩)
      | (obtain ⟨A, c, u', hr, o⟩ := o.put 4 rfl hbm; refine ⟨_, _, _, _, hr, ?_⟩)
      | (obtain ⟨A, c, u', hr, o⟩ := o.put 5 rfl hbm; refine ⟨_, _, _, _, hr, ?_⟩)
    all_goals (
     have oA := o.own 0 rfl
     have oB := o.own 1 rfl
     have oC := o.own 2 rfl
     refine ⟨fun z => Ext _ z, Fr.drew NoB _, _, fun z hz => to_str bt (oA.ext hz).imm0 _, ?_⟩
     refine (UintR_spec rfl (iB _ (o.ext.trans' (Fr.drew NoB _))) n hn' (by omega)).mono ?_
     rintro _ v1 ⟨P1, p1, rfl, q1, f1', m1⟩
     have f1 : Ext _ v1 := (Fr.drew NoB _).ext f1'
     refine ⟨_, _, _, rfl, f1, fun z => Ext v1 z, .refl _ _, _, to_str_all bt q1.imm0 p1, ?_⟩
     refine brS (fun _ => ?_) (fun h => absurd rfl h)
     refine ⟨_, fun z hz => to_str bt (oB.ext (f1.trans' hz)).imm0 _, ?_⟩
     refine (BlobR_spec rfl rfl (iB _ (o.ext.trans' f1)) (iB _ (o.ext.trans' f1)) (by omega)).mono ?_
     rintro _ v2 ⟨P2, p2, rfl, q2, f2', m2⟩
     have f2 := f1.trans' f2'
     refine ⟨_, _, _, rfl, f2', f2, fun z => Ext v2 z, .refl _ _, _, to_str_all bt q2.imm0 p2, ?_⟩
     refine brS (fun _ => ?_) (fun h => absurd rfl h)
     refine ⟨_, fun z hz => to_str bt (oC.ext (f2.trans' hz)).imm0 _, ?_⟩
     refine (BlobsR_spec rfl rfl (iB _ (o.ext.trans' f2)) (iL _ (o.ext.trans' f2)) (by omega) (by omega)).mono ?_
     rintro _ v3 ⟨P3, p3, rfl, q3, f3', m3⟩
     have f3 := f2.trans' f3'
     refine ⟨_, _, _, rfl, f3', f2'.trans' f3', f3, fun z => Ext v3 z, .refl _ _, _, to_str_all bt q3.imm0 p3, ?_⟩
     refine brS (fun _ => ?_) (fun h => absurd rfl h)
     have f4 := o.ext.trans' f3
     refine ⟨_, fun z hz => to_str bt (iI.ext KB_pos (f4.trans' hz)) cI, _, fun z hz => to_str bt (iB _ (f4.trans' hz)) bc, ?_⟩
     refine brS (fun _ => ?_) (fun h => absurd rfl h)
     refine (awake_spec v3).mono ?_
     rintro _ v4 ⟨rfl, f5⟩
     exact ⟨_, rfl, f5, f3'.trans' f5, (f2'.trans' f3').trans' f5, f3.trans' f5, rfl, eu.trans' (f4.trans' f5)⟩)
end Go.Proofs.Ytbpcfkahnhlahaa
