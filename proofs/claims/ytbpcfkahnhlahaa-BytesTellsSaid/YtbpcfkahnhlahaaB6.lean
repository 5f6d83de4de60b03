/- Layer 1 (bytes): the chapter's examples come out as written. -/
import Derived.Test.YtbpcfkahnhlahaaB5
set_option linter.unusedVariables false
set_option linter.unusedSimpArgs false
namespace Go.Proofs.Ytbpcfkahnhlahaa
open Go Go.Sx
def abL : List (List UInt8) := [[97, 98], []]
theorem encAb : encBs abL = [2, 2, 97, 98, 0] := by
  simp [encBs, encB, abL, B1.enc_lt]
theorem encB_ab : encB [97, 98] = [2, 97, 98] := by
  simp [encB, B1.enc_lt]
/-- the list of "ab" and nil, in a literal's block -/
theorem abImm {w : World} {A : Option Addr} {c : Nat} (h : OwnB w A c [97, 98]) : OwnK KBs (w.alloc (.cells #[.slice A 2 c, .slice none 0 0] 30)) (some ⟨w.heap.size, 0, none⟩) 2 abL :=
  ownK_lit (K := KBs) (cs := [.slice A 2 c, .slice none 0 0]) (l := abL) rfl (by simp [abL, maxLen]) (fun i a hi => by
    match i, hi with
    | 0, hi => cases hi; exact KBs_rep h.imm0 h.le
    | 1, hi => cases hi; exact KBs_rep (Imm.nil KB _ _ _) (Nat.le_refl _)
    | i + 2, hi => simp [abL] at hi)
theorem Imm.none {α : Type} {K : Kd α} {w : World} {A : Option Addr} {l : List α} (h : Imm K NoB w A l) (hz : 0 < K.size) : Imm K (ownB none) w A l := h.sub hz fun k _ h => (ownB_none k h).elim

def cards : List (Nat × ByteArray) := [(5, ByteArray.mk #[5]), (127, ByteArray.mk #[127]), (128, ByteArray.mk #[128, 1]), (300, ByteArray.mk #[172, 2])]
theorem cards_ok : ∀ x ∈ cards, x.1 < 18446744073709551616 ∧ sb x.2 = B1.enc x.1 := by
  intro x hx
  simp only [cards, List.mem_cons, List.not_mem_nil, or_false] at hx
  rcases hx with rfl | rfl | rfl | rfl
  · exact ⟨by decide, by rw [B1.enc_lt (by decide)]; rfl⟩
  · exact ⟨by decide, by rw [B1.enc_lt (by decide)]; rfl⟩
  · exact ⟨by decide, by rw [B1.enc_ge (by decide), B1.enc_lt (by decide)]; rfl⟩
  · exact ⟨by decide, by rw [B1.enc_ge (by decide), B1.enc_lt (by decide)]; rfl⟩

theorem awake_spec (w : World) : CallsV Try.prog 14 #[] w fun v w' => v = .bool true ∧ Ext w w' := by
  refine cardindexlaw01_awake.calls okay ?_
  unfold cardindexlaw01_awake.W
  obtain ⟨hr1, ho1, he1⟩ := conv_lit bt w [97, 98] 5 2 2 (by simp [maxLen])
  refine ⟨_, _, _, _, hr1, ?_⟩
  generalize (w.alloc (.cells (([97, 98] : List UInt8).map u8).toArray 5)).freeze ⟨w.heap.size, ([97, 98] : List UInt8).length, none⟩ 1 = w1 at *
  have hk1 := abImm ho1
  have e2 := he1.alloc (.cells #[.slice (some ⟨w.heap.size, 0, none⟩) 2 2, .slice none 0 0] 30)
  refine (Blobs_spec (OwnB.nil _) (Imm.none (hk1.imm KBs_pos) KBs_pos) (by simp [abL]) (by rw [encAb]; simp)).mono ?_
  rw [List.nil_append, encAb]
  rintro v w3 ⟨L, cL, rfl, hoL, hgL⟩
  refine ⟨_, _, _, rfl, ?_⟩
  have e3 := e2.trans' (hgL.ext (.refl _ _) (New.none _))
  have iL := hoL.imm0
  have cl5 := hoL.le
  refine (GetBlobs_spec iL (by simp) cl5 0 2 2 (by decide) (by decide)).mono ?_
  rw [show getBs [2, 2, 97, 98, 0] 0 2 2 = (abL, 5, 0) from by kernel_rfl]
  rintro v w4 ⟨M, cM, rfl, hoM, e4, nM⟩
  refine ⟨_, _, _, _, _, rfl, ?_⟩
  refine (GetBlobs_spec (iL.ext KB_pos e4) (by simp) cl5 0 1 2 (by decide) (by decide)).mono ?_
  rw [show getBs [2, 2, 97, 98, 0] 0 1 2 = ([], 0, 3) from by kernel_rfl]
  rintro v w5 ⟨_, _, rfl, _, e5, _⟩
  refine ⟨_, _, _, _, _, rfl, ?_⟩
  refine (GetBlobs_spec (iL.ext KB_pos (e4.trans' e5)) (by simp) cl5 0 2 1 (by decide) (by decide)).mono ?_
  rw [show getBs [2, 2, 97, 98, 0] 0 2 1 = ([], 0, 3) from by kernel_rfl]
  rintro v w6 ⟨_, _, rfl, _, e6, _⟩
  refine ⟨_, _, _, _, _, rfl, ?_⟩
  have o7 : OwnB (w6.alloc (.cells #[.int .u8 9, .int .u8 172, .int .u8 2] 5)) (some ⟨w6.heap.size, 0, none⟩) 3 [9, 172, 2] := ownB_lit (w := w6) (l := [9, 172, 2]) (by simp [maxLen])
  refine (GetUint_spec o7.imm0 (by simp) 1).mono ?_
  rw [show B1.getU [9, 172, 2] 1 = (300, 3, 0) from by kernel_rfl]
  rintro v w7 ⟨rfl, e7⟩
  refine ⟨_, _, _, rfl, ?_⟩
  have e8 := ((((e3.trans' e4).trans' e5).trans' e6).alloc _).trans' e7
  have o8 : OwnK KC (w7.alloc (.cells #[.int .u64 5, .string (ByteArray.mk #[5]), .int .u64 127, .string (ByteArray.mk #[127]), .int .u64 128, .string (ByteArray.mk #[128, 1]), .int .u64 300, .string (ByteArray.mk #[172, 2])] 25)) (some ⟨w7.heap.size, 0, none⟩) 4 cards :=
    ownK_lit (K := KC) (cs := [.int .u64 5, .string (ByteArray.mk #[5]), .int .u64 127, .string (ByteArray.mk #[127]), .int .u64 128, .string (ByteArray.mk #[128, 1]), .int .u64 300, .string (ByteArray.mk #[172, 2])]) (l := cards) rfl (by simp [cards, maxLen]) (fun i a hi => by
      match i, hi with
      | 0, hi => cases hi; rfl
      | 1, hi => cases hi; rfl
      | 2, hi => cases hi; rfl
      | 3, hi => cases hi; rfl
      | i + 4, hi => simp [cards] at hi)
  refine (fits_spec (o8.imm KC_pos) (by simp [cards]) cards_ok).mono ?_
  rintro v w9 ⟨rfl, e9⟩
  refine ⟨_, rfl, ?_⟩
  refine br (fun _ => ?_) (fun h => by cases h)
  have eL9 : Ext w3 w9 := ((((e4.trans' e5).trans' e6).alloc _).trans' e7).alloc _ |>.trans' e9
  have eM9 : Ext w4 w9 := (((e5.trans' e6).alloc _).trans' e7).alloc _ |>.trans' e9
  obtain ⟨hr10, ho10, he10⟩ := conv_lit bt w9 [97, 98] 5 2 2 (by simp [maxLen])
  refine ⟨_, _, _, _, hr10, ?_⟩
  generalize (w9.alloc (.cells (([97, 98] : List UInt8).map u8).toArray 5)).freeze ⟨w9.heap.size, ([97, 98] : List UInt8).length, none⟩ 1 = w10 at *
  refine (Blob_spec (OwnB.nil _) (Imm.none ho10.imm0 KB_pos) (by simp)).mono ?_
  rw [List.nil_append, encB_ab]
  rintro v w11 ⟨X, cX, rfl, hoX, hgX⟩
  have e11 := he10.trans' (hgX.ext (.refl _ _) (New.none _))
  refine ⟨_, _, _, rfl, _, _, to_str bt hoX.imm0 _, ?_⟩
  refine br (fun _ => ?_) (fun h => by simp at h)
  refine ⟨_, _, to_str bt (iL.ext KB_pos (eL9.trans' e11)) _, ?_⟩
  refine br (fun _ => ?_) (fun h => by simp at h)
  refine brd (fun _ => ?_) (fun h => absurd rfl h)
  refine brd (fun _ => ?_) (fun h => absurd rfl h)
  obtain ⟨hr12, ho12, he12⟩ := conv_lit bt w11 [97, 98] 5 2 2 (by simp [maxLen])
  refine ⟨_, _, _, _, hr12, ?_⟩
  generalize (w11.alloc (.cells (([97, 98] : List UInt8).map u8).toArray 5)).freeze ⟨w11.heap.size, ([97, 98] : List UInt8).length, none⟩ 1 = w12 at *
  have hk12 := abImm ho12
  have eM12 : Ext w4 (w12.alloc (.cells #[.slice (some ⟨w11.heap.size, 0, none⟩) 2 2, .slice none 0 0] 30)) := ((eM9.trans' e11).trans' he12).alloc _
  refine (same_spec ((hoM.ext eM12).imm KBs_pos) (hk12.imm KBs_pos) (by simp [abL])).mono ?_
  rintro v w13 ⟨rfl, e13⟩
  refine ⟨_, rfl, ?_⟩
  refine br (fun _ => ?_) (fun h => by simp at h)
  refine brd (fun _ => ?_) (fun h => absurd rfl h)
  refine brd (fun _ => ?_) (fun h => absurd rfl h)
  refine brd (fun _ => ?_) (fun h => absurd rfl h)
  refine brd (fun _ => ?_) (fun h => absurd rfl h)
  refine brd (fun _ => ?_) (fun h => absurd rfl h)
  refine (bad_spec w13 (ByteArray.mk #[128, 0]) 0 (by decide)).mono ?_
  rintro v w14 ⟨rfl, e14⟩
  refine ⟨_, rfl, ?_⟩
  rw [show badV (sb (ByteArray.mk #[128, 0])) 0 = 10 from by kernel_rfl]
  refine brd (fun _ => ?_) (fun h => absurd rfl h)
  refine (bad_spec w14 (ByteArray.mk #[128]) 0 (by decide)).mono ?_
  rintro v w15 ⟨rfl, e15⟩
  refine ⟨_, rfl, ?_⟩
  rw [show badV (sb (ByteArray.mk #[128])) 0 = 11 from by kernel_rfl]
  exact ⟨rfl, (((((((e8.alloc _).trans' e9).trans' e11).trans' he12).alloc _).trans' e13).trans' e14).trans' e15⟩
end Go.Proofs.Ytbpcfkahnhlahaa
