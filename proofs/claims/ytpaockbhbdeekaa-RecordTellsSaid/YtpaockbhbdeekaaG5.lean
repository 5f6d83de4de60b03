/- Layer 3: helpers of RecordBack and RecordApart. -/
import Derived.Test.YtpaockbhbdeekaaG4
import Derived.Test.YtpaockbhbdeekaaG5Pure
import Derived.Test.YtpaockbhbdeekaaR6
import Derived.Test.YtpaockbhbdeekaaRSmall
set_option linter.unusedVariables false
set_option linter.unusedSimpArgs false
namespace Go.Proofs.Ytpaockbhbdeekaa
open Go Go.Sx R1

theorem getV_ext {la lb : List V} (h : la.length = lb.length) (h2 : ∀ i, i < la.length → la.getD i V0 = lb.getD i V0) : la = lb := by
  apply List.ext_getElem h
  intro i h3 h4
  have := h2 i h3
  simpa [List.getD, h3, h4] using this
theorem eqV (a b : V) : (decide (a.k = b.k) && (decide (a.n = b.n) && (ByteArray.toList a.s == ByteArray.toList b.s && true))) = true ↔ a = b := by
  obtain ⟨ak, an, sa⟩ := a
  obtain ⟨bk, bn, tb⟩ := b
  obtain ⟨⟨l⟩⟩ := sa
  obtain ⟨⟨m⟩⟩ := tb
  have := eq_str l m
  simp only [Bool.and_true, Bool.and_eq_true, decide_eq_true_eq, V.mk.injEq]
  rw [show (ByteArray.toList (ByteArray.mk (Array.mk l)) == ByteArray.toList (ByteArray.mk (Array.mk m))) = decide (l = m) from this]
  simp
theorem cfalse {b : Bool} {A B : Prop} (h : b = false) (k : B) : cond b A B := by rw [h]; exact k
set_option maxRecDepth 100000 in
theorem SameValues_spec {w : World} {A B : Option Addr} {c d n m : Nat} {a b : List V} (hn : n = a.length) (hm : m = b.length) (hA : Imm KV NoB w A a) (hB : Imm KV NoB w B b) (hl : a.length ≤ 1000000) :
    CallsV Try.prog 28 #[.slice A n c, .slice B m d] w fun r w' => (∃ x : Bool, r = .bool x ∧ (x = true ↔ a = b)) ∧ Ext w w' := by
  subst hn; subst hm
  refine cardindexlow_SameValues.calls okay ?_
  unfold cardindexlow_SameValues.W
  refine brn (fun hne => ⟨⟨false, rfl, by simp; rintro rfl; exact hne rfl⟩, .refl _ _⟩) (fun heq => ?_)
  refine ⟨fun x u => ∃ j : Nat, j ≤ a.length ∧ x = (j : Int) ∧ (∀ i, i < j → a.getD i V0 = b.getD i V0) ∧ Ext w u, fun x _ => (a.length - x).toNat, ⟨0, by omega, rfl, fun i h => by omega, .refl _ _⟩, ?_⟩
  rintro _ u ⟨j, hj, rfl, hall, e⟩
  refine brd (fun hlt => ?_) (fun hge => ?_)
  · have hd : Ext w u.drew := e.trans' (Fr.drew NoB u)
    obtain ⟨ad, hA', _, cA⟩ := itemV hA (x := (j : Int)) (by omega) (by omega)
    obtain ⟨bd, hB', _, cB⟩ := itemV hB (x := (j : Int)) (by omega) (by omega)
    rw [Int.toNat_natCast] at cA cB
    simp only [Int.toNat_natCast]
    refine ⟨ad, hA', ⟨by omega, by omega⟩, fun u => Ext w u, hd, _, fun u hu => (cA u (.inr (.inl hu))).1, _, fun u hu => (cA u (.inr (.inl hu))).2.1, _, fun u hu => (cA u (.inr (.inl hu))).2.2,
      bd, hB', ⟨by omega, by omega⟩, _, fun u hu => (cB u (.inr (.inl hu))).1, _, fun u hu => (cB u (.inr (.inl hu))).2.1, _, fun u hu => (cB u (.inr (.inl hu))).2.2, ?_⟩
    refine cfalse (by kernel_rfl) ?_
    refine brnb (fun hne => ?_) (fun heqv => ?_)
    · refine ⟨⟨false, rfl, by simp; rintro rfl; rw [(eqV _ _).2 rfl] at hne; cases hne⟩, hd⟩
    · rw [wi _ (by omega) (by omega)]
      exact ⟨⟨j + 1, by omega, rfl, fun i hi => if hij : i = j then by subst hij; exact (eqV _ _).1 heqv else hall i (by omega), hd⟩, by omega⟩
  · obtain rfl : j = a.length := by omega
    exact ⟨⟨true, rfl, by simp; exact getV_ext (by omega) hall⟩, e⟩
theorem HasPrefix_spec (w : World) (s p : List UInt8) : CallsV Try.prog 29 #[.string ⟨s.toArray⟩, .string ⟨p.toArray⟩] w fun r w' => (∃ y : Bool, r = .bool y ∧ (y = true ↔ ∃ x, s = p ++ x)) ∧ w' = w := by
  refine strings_HasPrefix.calls okay ?_
  unfold strings_HasPrefix.W
  refine (internal_stringslite_HasPrefix.calls okay (K := fun r w' => (∃ y : Bool, r = .bool y ∧ (y = true ↔ ∃ x, s = p ++ x)) ∧ w' = w) ?_).mono ?_
  · unfold internal_stringslite_HasPrefix.W
    rw [sb_size, sb_size]
    refine brd (fun h => ⟨⟨by omega, by omega⟩, ⟨_, rfl, ?_⟩, rfl⟩) (fun h => ⟨⟨false, rfl, ?_⟩, rfl⟩)
    · have he : ByteArray.extract ⟨s.toArray⟩ 0 (Int.toNat (p.length : Nat)) = ⟨(s.take p.length).toArray⟩ := by
        apply ByteArray.ext
        simp [ByteArray.extract, ByteArray.copySlice]
      rw [he, eq_str, decide_eq_true_iff]
      constructor
      · intro h1
        exact ⟨s.drop p.length, by rw [← h1, List.length_take, Nat.min_eq_left (by omega), List.take_append_drop]⟩
      · rintro ⟨x, rfl⟩; simp
    · refine ⟨fun h => (by cases h), ?_⟩
      rintro ⟨x, rfl⟩
      rw [List.length_append] at h
      omega
  · rintro _ _ ⟨⟨y, rfl, hy⟩, rfl⟩
    exact ⟨_, rfl, ⟨_, rfl, hy⟩, rfl⟩
theorem getR_put {a : List V} (h : SmallR a) (hg : ∀ v ∈ a, good v) : getR (putL a) = (a, 0) ∧ (putL a).length ≤ 1048576 := by
  have hp := h.put
  have hl : (putL a).length ≤ 1048576 := by
    unfold putR at hp
    rw [h.row, if_neg (by simp)] at hp
    split at hp
    · have := congrArg Prod.snd hp; simp at this
    · omega
  refine ⟨?_, hl⟩
  have := get_put h.len h.rt hg [] (by rw [List.append_nil]; exact hl)
  rw [List.append_nil, if_pos rfl] at this
  unfold getR
  rw [show putL a = rowB a from rfl, this]
theorem unkeyRR_key {a : List V} {ds : List Bool} (h : SmallR a) (hn : ds.length = a.length) (hg : ∀ v ∈ a, good v) : unkeyRR (key a ds) ds = (a, 0) := by
  have := unkey_key a ds [] hn.symm h.rt hg
  rw [List.append_nil, if_pos rfl] at this
  unfold unkeyRR unkeyR
  have hl := (h.key hn).2
  have := h.len
  rw [if_neg (by rintro (h | h) <;> omega), ‹unkeyP _ _ = _›]
theorem putR_get {b : List UInt8} {a : List V} (h : getP b = some a) : putR a = (b, 0) := by
  obtain ⟨q1, q2, q3, q4, q5⟩ := get_canon h
  have hb : putL a = b := q1.symm
  unfold putR
  rw [rightRow_of q2 q4, if_neg (by simp), hb, if_neg (by omega)]
theorem keyR_unkey {b : List UInt8} {ds : List Bool} {a : List V} (h : unkeyR b ds = some a) : keyR a ds = (b, 0) := by
  unfold unkeyR at h
  split at h
  · cases h
  · obtain ⟨q1, q2, q3, q4⟩ := unkey_canon ds b a h
    unfold keyR
    rw [rightRow_of (by omega) q3, if_neg (by simp), if_neg (by omega), ← q1, if_neg (by omega)]
end Go.Proofs.Ytpaockbhbdeekaa
