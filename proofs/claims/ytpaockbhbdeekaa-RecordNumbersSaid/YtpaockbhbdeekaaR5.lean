/- Layer 3: the chapter's examples come out as written. -/
import Derived.Test.YtpaockbhbdeekaaR4
import Derived.Test.YtpaockbhbdeekaaR1L
import Derived.Test.YtpaockbhbdeekaaNestsL
set_option linter.unusedVariables false
set_option linter.unusedSimpArgs false
namespace Go.Proofs.Ytpaockbhbdeekaa
open Go Go.Sx R1
def numV (n : Int) : V := ⟨1, n, ByteArray.mk #[]⟩
def textV (s : ByteArray) : V := ⟨2, 0, s⟩
def blobV (s : ByteArray) : V := ⟨3, 0, s⟩
def agV (v : V) : Value := .agg #[.int .u8 v.k, .int .i64 v.n, .string v.s]

/-- a variable that holds a value, set anew -/
theorem setV {w0 w : World} {g : Nat} {x y z : Value} (b0 : Blk w g [x, y, z]) (e0 : Ext w0 w) (hg : w0.heap.size ≤ g) (a b c : Value) :
    (((w.cell? ((⟨g, 0, none⟩ : Addr).add 0)).isSome = true ∧ w.frozen? ((⟨g, 0, none⟩ : Addr).add 0) = false) ∧
    (((w.setCell ((⟨g, 0, none⟩ : Addr).add 0) a).cell? ((⟨g, 0, none⟩ : Addr).add (0 + 1))).isSome = true ∧ (w.setCell ((⟨g, 0, none⟩ : Addr).add 0) a).frozen? ((⟨g, 0, none⟩ : Addr).add (0 + 1)) = false) ∧
    ((((w.setCell ((⟨g, 0, none⟩ : Addr).add 0) a).setCell ((⟨g, 0, none⟩ : Addr).add (0 + 1)) b).cell? ((⟨g, 0, none⟩ : Addr).add (0 + 1 + 1))).isSome = true ∧ ((w.setCell ((⟨g, 0, none⟩ : Addr).add 0) a).setCell ((⟨g, 0, none⟩ : Addr).add (0 + 1)) b).frozen? ((⟨g, 0, none⟩ : Addr).add (0 + 1 + 1)) = false)) ∧
    Blk (((w.setCell ((⟨g, 0, none⟩ : Addr).add 0) a).setCell ((⟨g, 0, none⟩ : Addr).add (0 + 1)) b).setCell ((⟨g, 0, none⟩ : Addr).add (0 + 1 + 1)) c) g [a, b, c] ∧
    Ext w0 (((w.setCell ((⟨g, 0, none⟩ : Addr).add 0) a).setCell ((⟨g, 0, none⟩ : Addr).add (0 + 1)) b).setCell ((⟨g, 0, none⟩ : Addr).add (0 + 1 + 1)) c) := by
  have b1 := b0.set 0 0 a
  have e1 := e0.setNewAdd (o := 0) (i := 0) hg a
  generalize hw1 : w.setCell ((⟨g, 0, none⟩ : Addr).add 0) a = w1 at *
  have b2 := b1.set 0 (0 + 1) b
  have e2 := e1.setNewAdd (o := 0) (i := 0 + 1) hg b
  generalize w1.setCell ((⟨g, 0, none⟩ : Addr).add (0 + 1)) b = w2 at *
  have b3 := b2.set 0 (0 + 1 + 1) c
  have e3 := e2.setNewAdd (o := 0) (i := 0 + 1 + 1) hg c
  exact ⟨⟨⟨by rw [b0.cell (v := x) rfl]; rfl, b0.unfrozen _ _⟩, ⟨by rw [b1.cell (v := y) rfl]; rfl, b1.unfrozen _ _⟩, ⟨by rw [b2.cell (v := z) rfl]; rfl, b2.unfrozen _ _⟩⟩, b3, e3⟩

theorem Num_spec (w : World) (n : Int) : CallsV Try.prog 60 #[.int .i64 n] w fun r w' => r = agV (numV n) ∧ Ext w w' := by
  refine cardindexlow_Num.calls okay ?_
  unfold cardindexlow_Num.W
  obtain ⟨hs, b, e⟩ := varV w #[.int .u8 0, .int .i64 0, .string (ByteArray.mk #[])] rfl 37 (.int .u8 1) (.int .i64 n) (.string (ByteArray.mk #[]))
  exact ⟨hs.1, hs.2.1, hs.2.2, _, b.cell rfl, _, b.cell rfl, _, b.cell rfl, rfl, e⟩
theorem Text_spec (w : World) (s : ByteArray) : CallsV Try.prog 61 #[.string s] w fun r w' => r = agV (textV s) ∧ Ext w w' := by
  refine cardindexlow_Text.calls okay ?_
  unfold cardindexlow_Text.W
  obtain ⟨hs, b, e⟩ := varV w #[.int .u8 0, .int .i64 0, .string (ByteArray.mk #[])] rfl 37 (.int .u8 2) (.int .i64 0) (.string s)
  exact ⟨hs.1, hs.2.1, hs.2.2, _, b.cell rfl, _, b.cell rfl, _, b.cell rfl, rfl, e⟩
theorem Blob_spec (w : World) (s : ByteArray) : CallsV Try.prog 67 #[.string s] w fun r w' => r = agV (blobV s) ∧ Ext w w' := by
  refine cardindexlow_Blob.calls okay ?_
  unfold cardindexlow_Blob.W
  obtain ⟨hs, b, e⟩ := varV w #[.int .u8 0, .int .i64 0, .string (ByteArray.mk #[])] rfl 37 (.int .u8 3) (.int .i64 0) (.string s)
  exact ⟨hs.1, hs.2.1, hs.2.2, _, b.cell rfl, _, b.cell rfl, _, b.cell rfl, rfl, e⟩
theorem num_spec (w : World) (n : Int) : CallsV Try.prog 30 #[.int .i64 n] w fun r w' => r = agV (numV n) ∧ Ext w w' := by
  refine cardindexlaw03_num.calls okay ?_
  unfold cardindexlaw03_num.W
  have b0 : Blk (w.alloc (.cells #[.int .u8 0, .int .i64 0, .string (ByteArray.mk #[])] 37)) w.heap.size [.int .u8 0, .int .i64 0, .string (ByteArray.mk #[])] := Blk.alloc _ _ _
  have e0 : Ext w (w.alloc (.cells #[.int .u8 0, .int .i64 0, .string (ByteArray.mk #[])] 37)) := Fr.alloc NoB w _
  refine (Num_spec _ n).mono ?_
  rintro r w1 ⟨rfl, e1⟩
  obtain ⟨hs, b, e⟩ := setV (b0.ext e1) (e0.trans' e1) (Nat.le_refl _) (.int .u8 1) (.int .i64 n) (.string (ByteArray.mk #[]))
  exact ⟨_, _, _, rfl, hs.1, hs.2.1, hs.2.2, _, b.cell rfl, _, b.cell rfl, _, b.cell rfl, rfl, e⟩
theorem text_spec (w : World) (s : ByteArray) : CallsV Try.prog 31 #[.string s] w fun r w' => r = agV (textV s) ∧ Ext w w' := by
  refine cardindexlaw03_text.calls okay ?_
  unfold cardindexlaw03_text.W
  have b0 : Blk (w.alloc (.cells #[.int .u8 0, .int .i64 0, .string (ByteArray.mk #[])] 37)) w.heap.size [.int .u8 0, .int .i64 0, .string (ByteArray.mk #[])] := Blk.alloc _ _ _
  have e0 : Ext w (w.alloc (.cells #[.int .u8 0, .int .i64 0, .string (ByteArray.mk #[])] 37)) := Fr.alloc NoB w _
  refine (Text_spec _ s).mono ?_
  rintro r w1 ⟨rfl, e1⟩
  obtain ⟨hs, b, e⟩ := setV (b0.ext e1) (e0.trans' e1) (Nat.le_refl _) (.int .u8 2) (.int .i64 0) (.string s)
  exact ⟨_, _, _, rfl, hs.1, hs.2.1, hs.2.2, _, b.cell rfl, _, b.cell rfl, _, b.cell rfl, rfl, e⟩
theorem blob_spec (w : World) (s : ByteArray) : CallsV Try.prog 36 #[.string s] w fun r w' => r = agV (blobV s) ∧ Ext w w' := by
  refine cardindexlaw03_blob.calls okay ?_
  unfold cardindexlaw03_blob.W
  have b0 : Blk (w.alloc (.cells #[.int .u8 0, .int .i64 0, .string (ByteArray.mk #[])] 37)) w.heap.size [.int .u8 0, .int .i64 0, .string (ByteArray.mk #[])] := Blk.alloc _ _ _
  have e0 : Ext w (w.alloc (.cells #[.int .u8 0, .int .i64 0, .string (ByteArray.mk #[])] 37)) := Fr.alloc NoB w _
  refine (Blob_spec _ s).mono ?_
  rintro r w1 ⟨rfl, e1⟩
  obtain ⟨hs, b, e⟩ := setV (b0.ext e1) (e0.trans' e1) (Nat.le_refl _) (.int .u8 3) (.int .i64 0) (.string s)
  exact ⟨_, _, _, rfl, hs.1, hs.2.1, hs.2.2, _, b.cell rfl, _, b.cell rfl, _, b.cell rfl, rfl, e⟩

/-- a literal's row -/
theorem rowLit {w : World} {e : TypeId} (l : List V) (hl : l.length ≤ maxLen) {cs : List Value} (hcs : cs = l.flatMap vc) : OwnK KV (w.alloc (.cells cs.toArray e)) (some ⟨w.heap.size, 0, none⟩) l.length l := by
  subst hcs
  have hv : ∀ m : List V, (m.flatMap vc).length = m.length * 3 := by
    intro m
    induction m with
    | nil => rfl
    | cons v m ih => rw [List.flatMap_cons, List.length_append, ih, List.length_cons]; simp [vc]; omega
  refine ownK_lit (K := KV) (hv l) hl fun i a hi => ?_
  show ((l.flatMap vc).drop (i * 3)).take 3 = vc a
  have hlt := (List.getElem?_eq_some_iff.1 hi).1
  have he := (List.getElem?_eq_some_iff.1 hi).2
  have hsp : l = l.take i ++ (a :: l.drop (i + 1)) := by
    rw [← he, List.getElem_cons_drop]; simp
  have h3 : ((l.take i).flatMap vc).length = i * 3 := by rw [hv, List.length_take, Nat.min_eq_left (by omega)]
  rw [hsp, List.flatMap_append, List.flatMap_cons, ← h3, List.drop_left]
  rfl
/-- a literal's one flag -/
theorem flagLit {w : World} {e : TypeId} (d : Bool) : OwnF (w.alloc (.cells #[.bool d] e)) (some ⟨w.heap.size, 0, none⟩) 1 [d] := own_lit (cs := [.bool d]) (sz := 1) (n := 1) rfl (by decide)
theorem key1_spec (w : World) (v : V) (hg : good v) (d : Bool) : CallsV Try.prog 14 #[.slice (some ⟨w.heap.size, 0, none⟩) 1 1, .slice (some ⟨(w.alloc (.cells #[.int .u8 v.k, .int .i64 v.n, .string v.s] 37)).heap.size, 0, none⟩) 1 1]
    ((w.alloc (.cells #[.int .u8 v.k, .int .i64 v.n, .string v.s] 37)).alloc (.cells #[.bool d] 4)) fun r w' => Tells w (keyR [v] [d]) r w' := by
  have hr : OwnK KV (w.alloc (.cells #[.int .u8 v.k, .int .i64 v.n, .string v.s] 37)) (some ⟨w.heap.size, 0, none⟩) 1 [v] := rowLit [v] (by simp [maxLen]) rfl
  have e0 : Ext w (w.alloc (.cells #[.int .u8 v.k, .int .i64 v.n, .string v.s] 37)) := Fr.alloc NoB w _
  generalize w.alloc (.cells #[.int .u8 v.k, .int .i64 v.n, .string v.s] 37) = w1 at *
  have e1 : Ext w1 (w1.alloc (.cells #[.bool d] 4)) := Fr.alloc NoB w1 _
  refine (Key_spec ((hr.ext e1).imm KV_pos) (flagLit d).imm (by simp [maxLen]) (by simp [maxLen]) (fun x hx => by rw [List.mem_singleton.1 hx]; exact hg)).mono ?_
  rintro r w2 ⟨A, c, rfl, ho, e2, n2⟩
  exact ⟨A, c, rfl, ho, (e0.trans' e1).trans' e2, n2.ext (e0.trans' e1)⟩
def exRow : List V := [V0, numV 1, numV (-129), textV (ByteArray.mk #[104, 105]), blobV (ByteArray.mk #[0])]
theorem exPut : putR exRow = ([5, 0, 1, 2, 15, 12, 1, 255, 127, 104, 105, 0], 0) := by
  have h1 : exRow.flatMap (fun v => B1.enc (sort v)) = B1.enc 0 ++ (B1.enc 1 ++ (B1.enc 2 ++ (B1.enc 15 ++ (B1.enc 12 ++ [])))) := by kernel_rfl
  have h2 : exRow.flatMap body = [1, 255, 127, 104, 105, 0] := by kernel_rfl
  have h3 : putL exRow = [5, 0, 1, 2, 15, 12, 1, 255, 127, 104, 105, 0] := by
    rw [putL, h1, h2, show exRow.length = 5 from rfl, B1.enc_lt (m := 5) (by decide), B1.enc_lt (m := 0) (by decide), B1.enc_lt (m := 1) (by decide), B1.enc_lt (m := 2) (by decide), B1.enc_lt (m := 15) (by decide), B1.enc_lt (m := 12) (by decide)]
    rfl
  rw [putR, h3, show rightRow exRow = 0 by kernel_rfl]
  rfl
theorem exGood : ∀ v ∈ exRow, good v := by
  intro v hv
  simp only [exRow, List.mem_cons, List.not_mem_nil, or_false] at hv
  rcases hv with rfl | rfl | rfl | rfl | rfl <;> exact ⟨by decide, by decide, by decide +kernel⟩
theorem awake_spec (w : World) : CallsV Try.prog 12 #[] w fun v w' => v = .bool true ∧ Ext w w' := by
  refine cardindexlaw03_awake.calls okay ?_
  unfold cardindexlaw03_awake.W
  refine (num_spec w 1).mono ?_
  rintro _ w1 ⟨rfl, e1⟩
  refine ⟨_, _, _, rfl, ?_⟩
  refine (num_spec w1 (-129)).mono ?_
  rintro _ w2 ⟨rfl, e2⟩
  refine ⟨_, _, _, rfl, ?_⟩
  refine (text_spec w2 _).mono ?_
  rintro _ w3 ⟨rfl, e3⟩
  refine ⟨_, _, _, rfl, ?_⟩
  refine (blob_spec w3 _).mono ?_
  rintro _ w4 ⟨rfl, e4⟩
  refine ⟨_, _, _, rfl, ?_⟩
  have r5 : OwnK KV (w4.alloc (.cells (exRow.flatMap vc).toArray 37)) (some ⟨w4.heap.size, 0, none⟩) 5 exRow := rowLit exRow (by simp [exRow, maxLen]) rfl
  refine (Put_spec (l := exRow) (r5.imm KV_pos) (by simp [exRow, maxLen]) exGood).mono ?_
  rw [exPut]
  rintro _ w5 ⟨X, cX, rfl, oX, e5', nX⟩
  have e5 : Ext w w5 := (((e1.trans' e2).trans' e3).trans' e4).trans' ((Fr.alloc NoB w4 _).ext e5')
  refine ⟨_, _, _, _, rfl, ?_⟩
  refine (num_spec w5 (-1)).mono ?_
  rintro _ w6 ⟨rfl, e6⟩
  refine ⟨_, _, _, rfl, ?_⟩
  refine (key1_spec w6 (numV (-1)) ⟨by decide, by decide, by decide +kernel⟩ false).mono ?_
  rw [show keyR [numV (-1)] [false] = ([2, 127, 255, 255, 255, 255, 255, 255, 255], 0) by kernel_rfl]
  rintro _ w7 ⟨Y, cY, rfl, oY, e7, nY⟩
  refine ⟨_, _, _, _, rfl, ?_⟩
  refine (text_spec w7 _).mono ?_
  rintro _ w8 ⟨rfl, e8⟩
  refine ⟨_, _, _, rfl, ?_⟩
  refine (key1_spec w8 (textV (ByteArray.mk #[0])) ⟨by decide, by decide, by decide +kernel⟩ true).mono ?_
  rw [show keyR [textV (ByteArray.mk #[0])] [true] = ([252, 255, 0, 255, 255], 0) by kernel_rfl]
  rintro _ w9 ⟨Z, cZ, rfl, oZ, e9, nZ⟩
  refine ⟨_, _, _, _, rfl, ?_⟩
  refine (key1_spec w9 ⟨0, 0, ByteArray.mk #[]⟩ ⟨by decide, by decide, by decide +kernel⟩ false).mono ?_
  rw [show keyR [⟨0, 0, ByteArray.mk #[]⟩] [false] = ([1], 0) by kernel_rfl]
  rintro _ w10 ⟨U, cU, rfl, oU, e10, nU⟩
  refine ⟨_, _, _, _, rfl, ?_⟩
  refine (num_spec w10 (-9223372036854775808)).mono ?_
  rintro _ w11 ⟨rfl, e11⟩
  refine ⟨_, _, _, rfl, ?_⟩
  refine (key1_spec w11 (numV (-9223372036854775808)) ⟨by decide, by decide, by decide +kernel⟩ false).mono ?_
  rw [show keyR [numV (-9223372036854775808)] [false] = ([2, 0, 0, 0, 0, 0, 0, 0, 0], 0) by kernel_rfl]
  rintro _ w12 ⟨Q, cQ, rfl, oQ, e12, nQ⟩
  refine ⟨_, _, _, _, rfl, ?_⟩
  refine brd (fun _ => ?_) (fun h => absurd (by decide) h)
  have oL1 : OwnB (w12.alloc (.cells #[.int .u8 5, .int .u8 0, .int .u8 1, .int .u8 2, .int .u8 15, .int .u8 12, .int .u8 1, .int .u8 255, .int .u8 127, .int .u8 104, .int .u8 105, .int .u8 0] 5)) (some ⟨w12.heap.size, 0, none⟩) 12 [5, 0, 1, 2, 15, 12, 1, 255, 127, 104, 105, 0] := ownB_lit (w := w12) (l := [5, 0, 1, 2, 15, 12, 1, 255, 127, 104, 105, 0]) (by simp [maxLen])
  have eW := ((((((e6.trans' e7).trans' e8).trans' e9).trans' e10).trans' e11).trans' e12)
  have a1 : Ext w12 (w12.alloc (.cells #[.int .u8 5, .int .u8 0, .int .u8 1, .int .u8 2, .int .u8 15, .int .u8 12, .int .u8 1, .int .u8 255, .int .u8 127, .int .u8 104, .int .u8 105, .int .u8 0] 5)) := Fr.alloc NoB w12 _
  refine (SameBytes_spec (oX.ext (eW.trans' a1)).imm0 oL1.imm0).same ⟨_, rfl, ?_⟩
  rw [decide_eq_true rfl, cond_true]
  generalize w12.alloc (.cells #[.int .u8 5, .int .u8 0, .int .u8 1, .int .u8 2, .int .u8 15, .int .u8 12, .int .u8 1, .int .u8 255, .int .u8 127, .int .u8 104, .int .u8 105, .int .u8 0] 5) = w13 at *
  have oL2 : OwnB (w13.alloc (.cells #[.int .u8 2, .int .u8 127, .int .u8 255, .int .u8 255, .int .u8 255, .int .u8 255, .int .u8 255, .int .u8 255, .int .u8 255] 5)) (some ⟨w13.heap.size, 0, none⟩) 9 [2, 127, 255, 255, 255, 255, 255, 255, 255] := ownB_lit (w := w13) (l := [2, 127, 255, 255, 255, 255, 255, 255, 255]) (by simp [maxLen])
  have a2 : Ext w13 (w13.alloc (.cells #[.int .u8 2, .int .u8 127, .int .u8 255, .int .u8 255, .int .u8 255, .int .u8 255, .int .u8 255, .int .u8 255, .int .u8 255] 5)) := Fr.alloc NoB w13 _
  have e7_13 := (((((e8.trans' e9).trans' e10).trans' e11).trans' e12)).trans' a1
  refine (SameBytes_spec (oY.ext (e7_13.trans' a2)).imm0 oL2.imm0).same ⟨_, rfl, ?_⟩
  rw [decide_eq_true rfl, cond_true]
  generalize w13.alloc (.cells #[.int .u8 2, .int .u8 127, .int .u8 255, .int .u8 255, .int .u8 255, .int .u8 255, .int .u8 255, .int .u8 255, .int .u8 255] 5) = w14 at *
  have oL3 : OwnB (w14.alloc (.cells #[.int .u8 252, .int .u8 255, .int .u8 0, .int .u8 255, .int .u8 255] 5)) (some ⟨w14.heap.size, 0, none⟩) 5 [252, 255, 0, 255, 255] := ownB_lit (w := w14) (l := [252, 255, 0, 255, 255]) (by simp [maxLen])
  have a3 : Ext w14 (w14.alloc (.cells #[.int .u8 252, .int .u8 255, .int .u8 0, .int .u8 255, .int .u8 255] 5)) := Fr.alloc NoB w14 _
  have e9_14 := (((e10.trans' e11).trans' e12).trans' a1).trans' a2
  refine (SameBytes_spec (oZ.ext (e9_14.trans' a3)).imm0 oL3.imm0).same ⟨_, rfl, ?_⟩
  rw [decide_eq_true rfl, cond_true]
  have e10_15 := (((e11.trans' e12).trans' a1).trans' a2).trans' a3
  have e12_15 := (a1.trans' a2).trans' a3
  refine ⟨_, _, to_str bt (oU.ext e10_15).imm0 _, _, _, to_str bt (oQ.ext e12_15).imm0 _, ?_, ((e5.trans' eW).trans' e12_15)⟩
  rw [ByteArray.toList_eq, ByteArray.toList_eq]
  rfl
end Go.Proofs.Ytpaockbhbdeekaa
