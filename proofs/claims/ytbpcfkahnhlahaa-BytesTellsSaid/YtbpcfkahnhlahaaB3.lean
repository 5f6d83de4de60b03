/- Layer 1 (bytes): strings and lists of strings, written. -/
import Derived.Test.YtbpcfkahnhlahaaB2
import Derived.Test.YtbpcfkahnhlahaaSxConv
set_option linter.unusedVariables false
set_option linter.unusedSimpArgs false
namespace Go.Proofs.Ytbpcfkahnhlahaa
open Go Go.Sx
theorem bt : BT Try.prog 30 5 9 := ⟨by kernel_rfl, by kernel_rfl, by kernel_rfl⟩

def encB (b : List UInt8) : List UInt8 := B1.enc b.length ++ b
def encBs (bs : List (List UInt8)) : List UInt8 := B1.enc bs.length ++ bs.flatMap encB

/-- append of bytes onto owned bytes -/
theorem appendBs {w : World} {A : Option Addr} {c : Nat} {l b : List UInt8} (h : OwnB w A c l) {x : Value} (hx : Src Try.prog w 1 x b.length (b.map u8)) (hb : l.length + b.length ≤ 140737488355328) (ty : TypeId) :
    ∃ A' c' w', RunsTo Try.prog (Builtin.append_ #[30, 30] ty #[.slice A l.length c, x]) w (.slice A' (l ++ b).length c') w' ∧ OwnB w' A' c' (l ++ b) ∧ Grew A A' w w' := by
  obtain ⟨A', c', w', hr, ho, hf, hs, _⟩ := append_own (ty := ty) (t2 := 30) slB ⟨_, slB.ht, fun _ h => by cases h⟩ h hx (by simp [maxLen]; omega) (by omega)
  exact ⟨A', c', w', by rw [List.length_append]; exact hr, by unfold OwnB; rw [List.length_append, List.map_append]; exact ho, ⟨hf, hs⟩⟩

theorem Blob_spec {w : World} {A B : Option Addr} {c cb : Nat} {l b : List UInt8} (h : OwnB w A c l) (hB : Imm KB (ownB A) w B b) (hb : l.length + b.length + 10 ≤ 140737488355328) :
    CallsV Try.prog 21 #[.slice A l.length c, .slice B b.length cb] w fun v w' => ∃ A' c', v = .slice A' (l ++ encB b).length c' ∧ OwnB w' A' c' (l ++ encB b) ∧ Grew A A' w w' := by
  refine bytes_Blob.calls okay ?_
  unfold bytes_Blob.W
  rw [wu _ (by omega) (by omega)]
  refine (Uint_spec h b.length (by omega) (by omega)).mono ?_
  rintro v w1 ⟨A1, c1, rfl, ho, hg, _⟩
  refine ⟨_, _, _, rfl, ?_⟩
  have he := B1.enc_le_ten (m := b.length) (by omega)
  obtain ⟨A2, c2, w2, hr, ho2, hg2⟩ := appendBs ho (Src.bytes (P := Try.prog) (c := cb) (hB.grew KB_pos hg)) (by rw [List.length_append]; omega) 30
  refine ⟨_, _, _, _, hr, A2, c2, ?_, ?_, hg.trans hg2⟩
  · simp [encB]
  · unfold encB; rw [← List.append_assoc]; exact ho2

/-- the item of a list of byte strings -/
theorem itemI {Ω : Nat → Prop} {w : World} {A : Option Addr} {l : List (List UInt8)} (h : Imm KBs Ω w A l) {x : Int} (h0 : 0 ≤ x) (h1 : x < (l.length : Nat)) :
    ∃ ad, A = some ad ∧ ∃ B c, (l.getD x.toNat []).length ≤ c ∧ Imm KB Ω w B (l.getD x.toNat []) ∧ ∀ u, Ext w u → u.cell? (ad.add (x.toNat * 1)) = some (.slice B (l.getD x.toNat []).length c) := by
  have hlt : x.toNat < l.length := by omega
  have hg : l[x.toNat]? = some (l.getD x.toNat []) := by simp [List.getD, hlt]
  obtain ⟨ad, hA, hn, cs, ⟨B, c, rfl, hc, hi⟩, hcell⟩ := h x.toNat _ hg
  exact ⟨ad, hA, B, c, hc, hi, fun u hu => hu.cell (fun h => h) (hcell 0 _ rfl)⟩
theorem take_flat {f : List UInt8 → List UInt8} (bs : List (List UInt8)) (j : Nat) (h : j < bs.length) : (bs.take (j + 1)).flatMap f = (bs.take j).flatMap f ++ f (bs.getD j []) := by
  have : bs.take (j + 1) = bs.take j ++ [bs.getD j []] := by rw [List.take_add_one]; simp [List.getD, h]
  rw [this]; simp
theorem take_flat_le {f : List UInt8 → List UInt8} (bs : List (List UInt8)) (j : Nat) : ((bs.take j).flatMap f).length ≤ (bs.flatMap f).length := by
  conv => rhs; rw [← List.take_append_drop j bs, List.flatMap_append, List.length_append]
  omega

theorem Blobs_spec {w : World} {A L : Option Addr} {c cl : Nat} {l : List UInt8} {bs : List (List UInt8)} (h : OwnB w A c l) (hL : Imm KBs (ownB A) w L bs) (hn : bs.length < 140737488355328) (hb : l.length + (encBs bs).length + 10 ≤ 140737488355328) :
    CallsV Try.prog 22 #[.slice A l.length c, .slice L bs.length cl] w fun v w' => ∃ A' c', v = .slice A' (l ++ encBs bs).length c' ∧ OwnB w' A' c' (l ++ encBs bs) ∧ Grew A A' w w' := by
  refine bytes_Blobs.calls okay ?_
  unfold bytes_Blobs.W
  rw [wu _ (by omega) (by omega)]
  refine (Uint_spec h bs.length (by omega) (by omega)).mono ?_
  rintro v w1 ⟨A1, c1, rfl, ho, hg, _⟩
  refine ⟨_, _, _, rfl, ?_⟩
  refine ⟨fun A2 n2 c2 k w2 => ∃ j : Nat, j ≤ bs.length ∧ k = (j : Int) ∧ n2 = (l ++ B1.enc bs.length ++ (bs.take j).flatMap encB).length ∧ OwnB w2 A2 c2 (l ++ B1.enc bs.length ++ (bs.take j).flatMap encB) ∧ Grew A A2 w w2,
    fun _ _ _ k _ => (bs.length - k).toNat, ⟨0, by omega, rfl, by simp, by simpa using ho, hg⟩, ?_⟩
  rintro A2 _ c2 _ w2 ⟨j, hj, rfl, rfl, ho2, hg2⟩
  refine brd (fun hlt => ?_) (fun hlt => ?_)
  · obtain ⟨ad, hA, B, cb, hcb, hi, hc⟩ := itemI (hL.grew KBs_pos hg2) (x := (j : Int)) (by omega) (by omega)
    refine ⟨ad, hA, ⟨by omega, by omega⟩, _, _, _, hc _ (.refl _ _), ?_⟩
    rw [Int.toNat_natCast] at hi ⊢
    have hle := take_flat_le (f := encB) bs (j + 1)
    rw [take_flat bs j (by omega)] at hle
    have hel : (encB (bs.getD j [])).length = (B1.enc (bs.getD j []).length).length + (bs.getD j []).length := by simp [encB]
    have hbs : (encBs bs).length = (B1.enc bs.length).length + (bs.flatMap encB).length := by simp [encBs]
    rw [List.length_append] at hle
    refine (Blob_spec ho2 hi (by simp only [List.length_append]; omega)).mono ?_
    rintro v w3 ⟨A3, c3, rfl, ho3, hg3⟩
    have hw : IntKind.i64.wrap ((j : Int) + 1) = ((j + 1 : Nat) : Int) := by rw [wi _ (by omega) (by omega)]; simp
    refine ⟨_, _, _, rfl, ?_⟩
    rw [hw]
    refine ⟨⟨j + 1, by omega, rfl, ?_, ?_, hg2.trans hg3⟩, by dsimp only; omega⟩
    · rw [take_flat bs j (by omega), List.append_assoc _ _ (encB _)]
    · rw [take_flat bs j (by omega), ← List.append_assoc]; exact ho3
  · obtain rfl : j = bs.length := by omega
    rw [List.take_length] at ho2 ⊢
    refine ⟨A2, c2, ?_, ?_, hg2⟩
    · simp [encBs]
    · unfold encBs; rw [← List.append_assoc]; exact ho2
end Go.Proofs.Ytbpcfkahnhlahaa
