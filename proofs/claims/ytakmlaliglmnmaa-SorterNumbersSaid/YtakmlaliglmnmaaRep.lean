/- Go's library: strings.Repeat of one letter, 65536 times. -/
import Derived.Test.YtakmlaliglmnmaaNestsRp
import Derived.Test.YtakmlaliglmnmaaSxBlk
import Derived.Test.YtakmlaliglmnmaaB1
import Derived.Lib.FrozenHead
import Derived.Lib.MakeNoZero
import Derived.Laws.Externs
import Derived.Laws.IdiomCopy
set_option linter.unusedVariables false
set_option linter.unusedSimpArgs false
namespace Go.Proofs.Ytakmlaliglmnmaa
open Go Go.Sx Go.Lib

/-- a strings.Builder of one's own that holds some bytes -/
structure Bd (w0 w : World) (b : Nat) (l : List UInt8) : Prop where
  ext : Ext w0 w
  at_ : BuilderAtF 95 5 w0.heap.size b (.pointer (some ⟨b, 0, none⟩)) (byteCells l) w
theorem grownBy_fr {w w' : World} {r : Option Nat} (h : w.grownBy w' r) : Fr (fun k => r = some k) w w' := by
  obtain ⟨h1, h2, h3, h4, h5⟩ := h
  exact ⟨h1, h2, h3, h4, fun k hk hn => h5 k hk (fun e => hn e.symm)⟩
theorem Bd.cell1 {w0 w : World} {b : Nat} {l : List UInt8} (h : Bd w0 w b l) : ∃ v, w.heap[b]? = some (.cells #[.pointer (some ⟨b, 0, none⟩), v] 95 (0, 0)) ∧ w.ownsRowF w0.heap.size 5 1 v l.length (byteCells l) ∧ v.ownBlock ≠ some b ∧ ∃ A c, v = .slice A l.length c := by
  obtain ⟨_, hB, v, hb, ho, hne⟩ := h
  rw [byteCells_length] at ho
  refine ⟨v, hb, ho, hne, ?_⟩
  rcases ho.2 with ⟨rfl, hn⟩ | ⟨g, cap, cur, fz, rfl, _⟩
  · exact ⟨none, 0, by rw [hn]⟩
  · exact ⟨_, _, rfl⟩
theorem copyUsed_spec {w0 w : World} {b : Nat} {l : List UInt8} (h : Bd w0 w b l) : CallsV Try.prog 79 #[.pointer (some ⟨b, 0, none⟩)] w fun r w' => r = .tuple #[] ∧ w' = w := by
  refine strings_Builder_copyCheck.calls okay ?_
  unfold strings_Builder_copyCheck.W
  obtain ⟨v, hb, _⟩ := h.cell1
  have c0 : w.cell? ⟨b, 0, none⟩ = some (.pointer (some ⟨b, 0, none⟩)) := by rw [cell_of_heap hb]; rfl
  exact ⟨_, rfl, _, c0, ⟨_, rfl, _, c0, _, ⟨rfl, rfl⟩, rfl, rfl⟩⟩
theorem infoB : ∃ i, Try.prog.info? 5 = some i ∧ i.zero = some (.int .u8 0) ∧ i.size = 1 ∧ i.bytes = 1 := by
  have h : (Try.prog.info? 5).map (fun i => (i.zero, i.size, i.bytes)) = some (some (.int .u8 0), 1, 1) := by kernel_rfl
  cases hi : Try.prog.info? 5 with
  | none => rw [hi] at h; cases h
  | some i =>
    rw [hi] at h
    simp at h
    exact ⟨i, rfl, h.1, h.2.1, h.2.2⟩
theorem WriteString_spec {w0 w : World} {b : Nat} {l : List UInt8} (h : Bd w0 w b l) (s : ByteArray) (hl : l.length + s.size ≤ 1000000000000) :
    CallsV Try.prog 54 #[.pointer (some ⟨b, 0, none⟩), .string s] w fun r w' => r = .tuple #[.int .i64 s.size, .nilIface] ∧ Bd w0 w' b (l ++ s.data.toList) := by
  refine strings_Builder_WriteString.calls okay ?_
  unfold strings_Builder_WriteString.W
  refine (copyUsed_spec h).mono ?_
  rintro _ w1 ⟨rfl, rfl⟩
  obtain ⟨v, hb, ho, hne, A, c, rfl⟩ := h.cell1
  have c1 : w1.cell? ⟨b, 1, none⟩ = some (.slice A l.length c) := by rw [cell_of_heap hb]; rfl
  refine ⟨rfl, _, rfl, A, l.length, c, c1, ?_⟩
  obtain ⟨i0, hi0, hz0, hs0, hb0⟩ := infoB
  obtain ⟨v', w2, hr, ho2, hg, _⟩ := run_append_own_stringF (P := Try.prog) w1 w0.heap.size 76 9 76 5 i0 Try.underlying76 Try.underlying9 hi0 hz0 hs0 hb0 (.slice A l.length c) l.length (byteCells l) ho s (by simp [maxLen]; omega) (by omega) h.ext.size
  have hv : ∃ A' c', v' = .slice A' (l.length + s.size) c' := by
    rcases ho2.2 with ⟨rfl, hn⟩ | ⟨g, cap, cur, fz, rfl, _⟩
    · exact ⟨none, 0, by rw [hn]⟩
    · exact ⟨_, _, rfl⟩
  obtain ⟨A', c', rfl⟩ := hv
  have f2 := grownBy_fr hg
  have hb2 : w2.heap[b]? = some (.cells #[.pointer (some ⟨b, 0, none⟩), .slice A l.length c] 95 (0, 0)) := (f2.block b (Array.getElem?_eq_some_iff.1 hb).1 (fun e => hne e)).trans hb
  have c2 : w2.cell? ⟨b, 1, none⟩ = some (.slice A l.length c) := by rw [cell_of_heap hb2]; rfl
  have e2 : Ext w0 w2 := h.ext.trans f2 (fun _ _ h => h) (fun k hk e => by
    rcases ho.2 with ⟨e', _⟩ | ⟨g, cap, cur, fz, e', hbg, _⟩
    · rw [e'] at e; cases e
    · rw [e'] at e; cases e; exact absurd hk (Nat.not_lt.2 hbg))
  refine ⟨A', _, c', w2, hr, _, rfl, ⟨by rw [show (Addr.add (Addr.add ⟨b, 0, none⟩ 1) 0) = (⟨b, 1, none⟩ : Addr) from rfl, c2]; rfl, frozen_of_heap hb2 1⟩, ?_⟩
  rintro w3 rfl
  have hl2 : (byteCells (l ++ s.data.toList)).length = l.length + s.size := by rw [byteCells_length, List.length_append]; rfl
  refine ⟨rfl, e2.setNew (show w0.heap.size ≤ b from h.at_.1) _, ?_⟩
  refine BuilderAtF.put h.at_.1 hb2 ?_ (by decide)
  rw [hl2, byteCells_append]
  exact ho2
theorem bLen_spec {w0 w : World} {b : Nat} {l : List UInt8} (h : Bd w0 w b l) : CallsV Try.prog 55 #[.pointer (some ⟨b, 0, none⟩)] w fun r w' => r = .int .i64 (l.length : Nat) ∧ w' = w := by
  refine strings_Builder_Len.calls okay ?_
  unfold strings_Builder_Len.W
  obtain ⟨v, hb, ho, hne, A, c, rfl⟩ := h.cell1
  have c1 : w.cell? ⟨b, 1, none⟩ = some (.slice A l.length c) := by rw [cell_of_heap hb]; rfl
  exact ⟨_, rfl, _, _, _, c1, rfl, rfl⟩
theorem bString_spec {w0 w : World} {b : Nat} {l : List UInt8} (h : Bd w0 w b l) (h0 : l ≠ []) (hl : l.length ≤ 1000000000000) : CallsV Try.prog 56 #[.pointer (some ⟨b, 0, none⟩)] w fun r w' => r = .string ⟨l.toArray⟩ ∧ Bd w0 w' b l := by
  refine strings_Builder_String.calls okay ?_
  unfold strings_Builder_String.W
  obtain ⟨v, hb, ho, hne, A, c, rfl⟩ := h.cell1
  have c1 : w.cell? ⟨b, 1, none⟩ = some (.slice A l.length c) := by rw [cell_of_heap hb]; rfl
  have hpos : 0 < l.length := List.length_pos_iff.2 h0
  rcases ho.2 with ⟨hv, hn⟩ | ⟨g, cap, cur, fz, hv, hbg, hg, hfz, hnc, hcm, hcs, htk⟩
  · omega
  cases hv
  refine ⟨_, rfl, fun u => u.cell? ⟨b, 1, none⟩ = some (.slice (some ⟨g, 0, none⟩) l.length c), c1, _, _, _, fun u hu => hu, _, rfl, _, _, _, fun u hu => hu, ?_⟩
  refine ⟨some ⟨g, 0, none⟩, w.drew, run_unsafeSliceData_row (P := Try.prog) (w := w.drew) _ _ _ _ _ (by omega), c1, ?_⟩
  have hd : Bd w0 w.drew b l := ⟨h.ext.drew, h.at_.drew⟩
  have hsz : cur.size = c := by simpa using hcs
  have hcell : ∀ j x, l[j]? = some x → w.drew.cell? ((⟨g, 0, none⟩ : Addr).add j) = some (.int .u8 x.toNat) := by
    intro j x hj
    have := ho.cells (g := g) rfl j (.int .u8 x.toNat) (by simp [byteCells, hj])
    exact this
  have hgd : w.drew.heap[g]? = some (.cells cur 5 fz) := hg
  have hr := run_unsafeString_row (P := Try.prog) (w := w.drew) 123 3 9 5 Try.underlying123 (by kernel_rfl) g cur.size (by simp [World.shape?, hgd]) l h0 (by omega) (by omega) hcell
  have hf : Bd w0 (w.drew.freeze ⟨g, 0, none⟩ l.length) b l := by
    refine ⟨?_, ?_⟩
    · have hne0 : l.length ≠ 0 := by omega
      refine ⟨(freeze_os _ _ _).trans hd.ext.os, (freeze_tape _ _ _).trans hd.ext.tape, (freeze_output _ _ _).trans hd.ext.output, by rw [freeze_size]; exact hd.ext.size, fun k hk hn => (freeze_other _ _ _ _ _ (by omega)).trans (hd.ext.block k hk hn)⟩
    · have := hd.at_.froze (g := g) (cap := c) (by rw [byteCells_length]; exact c1)
      rwa [byteCells_length] at this
  refine ⟨_, _, hr, ?_, rfl, hf⟩
  obtain ⟨v2, hb2, _, _, _⟩ := hf.cell1
  have : (w.drew.freeze ⟨g, 0, none⟩ l.length).heap[b]? = w.heap[b]? := freeze_other _ _ _ _ _ (by
    rintro rfl
    exact hne rfl)
  show World.cell? _ _ = _
  rw [cell_of_heap (this.trans hb)]; rfl
theorem copyFresh_spec {w0 w : World} {b : Nat} (e : Ext w0 w) (hB : w0.heap.size ≤ b) (hb : w.heap[b]? = some (.cells #[.pointer none, .slice none 0 0] 95 (0, 0))) :
    CallsV Try.prog 79 #[.pointer (some ⟨b, 0, none⟩)] w fun r w' => r = .tuple #[] ∧ Ext w0 w' ∧ w'.heap[b]? = some (.cells #[.pointer (some ⟨b, 0, none⟩), .slice none 0 0] 95 (0, 0)) := by
  refine strings_Builder_copyCheck.calls okay ?_
  unfold strings_Builder_copyCheck.W
  have c0 : w.cell? ⟨b, 0, none⟩ = some (.pointer none) := by rw [cell_of_heap hb]; rfl
  have hsh : w.shape? b = some (95, 2) := by simp [World.shape?, hb]
  obtain ⟨j, hj, hj2⟩ : ∃ j, Try.prog.info? 95 = some j ∧ j.size = 2 := by
    have h : (Try.prog.info? 95).map (·.size) = some 2 := by kernel_rfl
    cases hi : Try.prog.info? 95 with
    | none => rw [hi] at h; cases h
    | some i => rw [hi] at h; simp at h; exact ⟨i, rfl, h⟩
  have hto := run_to_unsafe (P := Try.prog) w (src := 93) (dst := 131) ⟨b, 0, none⟩ Try.underlying93 Try.underlying131 hj (by omega) hsh (by show 0 < 2; decide)
  have hfrom := run_from_unsafe (P := Try.prog) w (src := 131) (dst := 93) ⟨b, 0, none⟩ Try.underlying131 Try.underlying93 hj hsh (by kernel_rfl)
  have hno : RunsTo Try.prog (callFunc 91 #[.pointer (some ⟨b, 0, none⟩)]) w (.value (.pointer (some ⟨b, 0, none⟩))) w := by
    unfold RunsTo
    rw [run_callFunc_extern Try.func91 (by kernel_rfl) (by kernel_rfl) (by kernel_rfl) (e := Extern.AbiNoEscape.same) (by kernel_rfl), run_noEscape]
    rfl
  refine ⟨_, rfl, _, c0, ?_⟩
  refine ⟨_, _, hto, _, _, hno, _, _, hfrom, _, rfl, ⟨by rw [show (Addr.add ⟨b, 0, none⟩ 0) = (⟨b, 0, none⟩ : Addr) from rfl]; rw [show (Addr.add ⟨b, 0, none⟩ 0) = (⟨b, 0, none⟩ : Addr) from rfl, c0]; rfl, frozen_of_heap hb 0⟩, ?_⟩
  rintro w3 rfl
  refine ⟨rfl, e.setNew hB _, ?_⟩
  show (World.setCell w ⟨b, 0, none⟩ _).heap[b]? = _
  simp [World.setCell, Array.getElem?_modify, hb]
theorem bGrow_spec {w0 w : World} {b : Nat} (e : Ext w0 w) (hB : w0.heap.size ≤ b) (hb : w.heap[b]? = some (.cells #[.pointer none, .slice none 0 0] 95 (0, 0))) (n : Nat) (hn0 : 0 < n) (hn : n ≤ 1000000000000) :
    CallsV Try.prog 53 #[.pointer (some ⟨b, 0, none⟩), .int .i64 n] w fun r w' => r = .tuple #[] ∧ Bd w0 w' b [] := by
  refine strings_Builder_Grow.calls okay ?_
  unfold strings_Builder_Grow.W
  refine (copyFresh_spec e hB hb).mono ?_
  rintro _ w1 ⟨rfl, e1, hb1⟩
  have c1 : w1.cell? ⟨b, 1, none⟩ = some (.slice none 0 0) := by rw [cell_of_heap hb1]; rfl
  refine ⟨rfl, fun u => u = w1, ?_, brd (fun h => by omega) (fun _ => rfl)⟩
  intro u hu
  obtain rfl : w1 = u := hu.symm
  refine ⟨_, rfl, fun u => u.cell? ⟨b, 1, none⟩ = some (.slice none 0 0), c1, _, _, _, fun u hu => hu, _, rfl, _, _, _, fun u hu => hu, ?_⟩
  refine brd (fun _ => ?_) (fun h => absurd (show IntKind.i64.wrap ((0 : Nat) - (0 : Nat) : Int) < (n : Int) by rw [wi _ (by decide) (by decide)]; omega) h)
  refine CallsV.mono (K := fun r w' => r = .tuple #[] ∧ Bd w0 w' b []) ?_ (fun v w' h => ⟨h.1, rfl, h.2⟩)
  refine strings_Builder_grow.calls okay ?_
  unfold strings_Builder_grow.W
  have hb1d : w1.drew.drew.heap[b]? = some (.cells #[.pointer (some ⟨b, 0, none⟩), .slice none 0 0] 95 (0, 0)) := hb1
  refine ⟨_, rfl, fun u => u.cell? ⟨b, 1, none⟩ = some (.slice none 0 0), c1, _, _, _, fun u hu => hu, _, rfl, _, _, _, fun u hu => hu, ?_⟩
  rw [wi (2 * ((0 : Nat) : Int)) (by decide) (by decide), wi _ (by omega) (by omega)]
  have hz : (2 * ((0 : Nat) : Int)) + (n : Int) = (n : Int) := by omega
  rw [hz]
  obtain ⟨cs, hrun, hle, hmax⟩ := run_makeNoZero (P := Try.prog) w1.drew.drew #[3] 76 5 Try.underlying76 n (by omega)
  have hcall : RunsTo Try.prog (callFunc 92 #[.int .i64 n]) w1.drew.drew (.value (.slice (some ⟨w1.drew.drew.heap.size, 0, none⟩) n cs.size)) (w1.drew.drew.drew.drew.alloc (.cells cs 5)) := by
    unfold RunsTo
    rw [run_callFunc_extern Try.func92 (by kernel_rfl) (by kernel_rfl) (by kernel_rfl) (e := Extern.BytealgMakeNoZero.makeNoZero #[3] #[76]) (by kernel_rfl), hrun]
    rfl
  have hbs : w1.drew.drew.drew.drew.heap = w1.heap := rfl
  have hlt1 : b < w1.heap.size := (Array.getElem?_eq_some_iff.1 hb1).1
  have hb2 : (w1.drew.drew.drew.drew.alloc (.cells cs 5)).heap[b]? = some (.cells #[.pointer (some ⟨b, 0, none⟩), .slice none 0 0] 95 (0, 0)) := (alloc_old _ _ _ hlt1).trans hb1
  have c2 : (w1.drew.drew.drew.drew.alloc (.cells cs 5)).cell? ⟨b, 1, none⟩ = some (.slice none 0 0) := by rw [cell_of_heap hb2]; rfl
  have e2 : Ext w0 (w1.drew.drew.drew.drew.alloc (.cells cs 5)) := ((((e1.drew).drew).drew).drew).alloc _
  have hg2 : (w1.drew.drew.drew.drew.alloc (.cells cs 5)).heap[w1.heap.size]? = some (.cells cs 5 (0, 0)) := Go.heap_alloc_new _ _
  refine ⟨_, _, _, _, hcall, c2, ⟨by omega, by omega⟩, _, rfl, _, _, _, c2, ?_⟩
  generalize w1.drew.drew.drew.drew.alloc (.cells cs 5) = w2 at *
  have hcopy : RunsTo Try.prog (Builtin.copy_ #[76, 76] 3 #[.slice (cutAt (some ⟨w1.drew.drew.heap.size, 0, none⟩) cs.size 0 1) 0 (cs.size - 0), .slice none 0 0]) w2 (.int .i64 0) w2 := by
    obtain ⟨i0, hi0, _, hs0, _⟩ := infoB
    exact run_copy_none (P := Try.prog) w2 _ _ _ 5 _ none 0 _ 0 0 Try.underlying76 (by rw [hi0]; simp [hs0]) rfl
  refine ⟨_, _, hcopy, _, rfl, ⟨by rw [show (Addr.add (Addr.add ⟨b, 0, none⟩ 1) 0) = (⟨b, 1, none⟩ : Addr) from rfl, c2]; rfl, frozen_of_heap hb2 1⟩, ?_⟩
  rintro w3 rfl
  have hcut : cutAt (some ⟨w1.drew.drew.heap.size, 0, none⟩) cs.size 0 1 = some ⟨w1.heap.size, 0, none⟩ := by
    unfold cutAt
    rw [if_neg (by omega)]; rfl
  have hm := hmax (by simp [maxLen]; omega)
  refine ⟨rfl, e2.setNew (show w0.heap.size ≤ b from hB) _, ?_⟩
  refine BuilderAtF.put hB hb2 ?_ (by decide)
  rw [hcut]
  exact ⟨by simp [byteCells], .inr ⟨w1.heap.size, cs.size, cs, (0, 0), rfl, e1.size, hg2, Nat.zero_le _, Nat.zero_le _, hm, (Nat.mul_one _).symm, by simp [byteCells]⟩⟩
theorem Mul_spec (w : World) : CallsV Try.prog 51 #[.int .u64 1, .int .u64 65536] w fun r w' => r = .tuple #[.int .u64 0, .int .u64 65536] ∧ w' = w := by
  refine math_bits_Mul.calls okay ?_
  unfold math_bits_Mul.W
  refine CallsV.mono (K := fun r w' => r = .tuple #[.int .u64 0, .int .u64 65536] ∧ w' = w) ?_ (fun v w' h => ⟨_, _, h.1, rfl, h.2⟩)
  refine math_bits_Mul64.calls okay ?_
  unfold math_bits_Mul64.W
  exact ⟨by decide, by decide, by decide, by decide, by decide, by kernel_rfl, rfl⟩
/-- how many bytes a builder holds -/
def bl (u : World) (g : Nat) : Nat := match u.cell? ⟨g, 1, none⟩ with | some (.slice _ n _) => n | _ => 0
theorem Bd.bl {w0 w : World} {b : Nat} {l : List UInt8} (h : Bd w0 w b l) : bl w b = l.length := by
  obtain ⟨v, hb, ho, hne, A, c, rfl⟩ := h.cell1
  have c1 : w.cell? ⟨b, 1, none⟩ = some (.slice A l.length c) := by rw [cell_of_heap hb]; rfl
  unfold Go.Proofs.Ytakmlaliglmnmaa.bl
  rw [c1]
def xs (n : Nat) : List UInt8 := List.replicate n 120
theorem xs_len (n : Nat) : (xs n).length = n := List.length_replicate
set_option maxRecDepth 10000 in
theorem Repeat_spec (w : World) : CallsV Try.prog 30 #[.string ⟨#[120]⟩, .int .i64 65536] w fun r w' => r = .string ⟨(xs 65536).toArray⟩ ∧ Ext w w' := by
  refine strings_Repeat.calls okay ?_
  unfold strings_Repeat.W
  refine brd (fun h => absurd h (by decide)) (fun _ => brd (fun h => absurd h (by decide)) (fun _ => ?_))
  refine ⟨fun u => u = w, ?_, brd (fun h => absurd h (by decide)) (fun _ => rfl)⟩
  intro u hu; obtain rfl : w = u := hu.symm
  refine (Mul_spec w).mono ?_
  rintro _ u ⟨rfl, hu⟩
  obtain rfl : w = u := hu.symm
  refine ⟨_, _, rfl, fun u => u = w, ?_, brd (fun h => absurd h (by decide)) (fun _ => brd (fun h => absurd h (by decide)) (fun _ => rfl))⟩
  intro u hu; obtain rfl : w = u := hu.symm
  refine brd (fun h => absurd h (by decide)) (fun _ => ?_)
  refine ⟨fun u => u = w, ?_, 120, ⟨by decide, rfl⟩, fun x u => x = false ∧ u = w, ?_, ?_⟩
  · intro u hu; obtain rfl : w = u := hu.symm
    refine ⟨fun x u => x = 8192 ∧ u = w, ?_, brd (fun _ => ⟨by decide, brd (fun h => absurd h (by decide)) (fun _ => ⟨by decide, rfl⟩)⟩) (fun h => absurd h (by decide))⟩
    intro x u hu
    obtain ⟨rfl, hu⟩ := hu
    obtain rfl : w = u := hu.symm
    intro g w1 f
    have hw : IntKind.i64.wrap (65536 : Int) = ((65536 : Nat) : Int) := by decide
    rw [hw]
    generalize hN : (65536 : Nat) = N
    have hbk : w1.heap[g]? = some (.cells #[.pointer none, .slice none 0 0] 95 (0, 0)) := by
      obtain ⟨rfl, rfl⟩ := f
      exact Go.heap_alloc_new _ _
    refine (bGrow_spec f.ext f.ge hbk N (by omega) (by omega)).mono ?_
    rintro _ w2 ⟨rfl, h2⟩
    refine ⟨rfl, ?_⟩
    refine (WriteString_spec h2 ⟨#[120]⟩ (by decide)).mono ?_
    rintro _ w3 ⟨rfl, h3⟩
    refine ⟨_, _, rfl, fun u => ∃ k, 1 ≤ k ∧ k ≤ N ∧ Bd w u g (xs k), fun u => N - bl u g, ⟨1, by omega, by omega, h3⟩, ?_⟩
    rintro u ⟨k, hk1, hk2, hk⟩
    refine (bLen_spec hk).mono ?_
    rintro _ u' ⟨rfl, hu⟩
    obtain rfl : u = u' := hu.symm
    rw [xs_len]
    refine ⟨_, rfl, ?_⟩
    refine brd (fun hlt => ?_) (fun hge => ?_)
    · refine (bLen_spec hk).mono ?_
      rintro _ u' ⟨rfl, hu⟩
      obtain rfl : u = u' := hu.symm
      rw [xs_len]
      refine ⟨_, rfl, ?_⟩
      refine (bLen_spec hk).mono ?_
      rintro _ u' ⟨rfl, hu⟩
      obtain rfl : u = u' := hu.symm
      rw [xs_len]
      refine ⟨_, rfl, ?_⟩
      have hne : xs k ≠ [] := fun h => by have := xs_len k; rw [h] at this; simp at this; omega
      refine (bString_spec hk hne (by rw [xs_len]; omega)).mono ?_
      rintro _ u1 ⟨rfl, h1⟩
      refine ⟨_, rfl, ?_⟩
      rw [wi ((N : Int) - (k : Int)) (by omega) (by omega)]
      obtain ⟨c, hc, c1, c2, c3⟩ : ∃ c : Nat, (if (8192 : Int) < if (k : Int) < (N : Int) - (k : Int) then (k : Int) else (N : Int) - (k : Int) then (8192 : Int) else if (k : Int) < (N : Int) - (k : Int) then (k : Int) else (N : Int) - (k : Int)) = (c : Int) ∧ 1 ≤ c ∧ c ≤ k ∧ k + c ≤ N := by
        refine ⟨(if (8192 : Int) < if (k : Int) < (N : Int) - (k : Int) then (k : Int) else (N : Int) - (k : Int) then (8192 : Int) else if (k : Int) < (N : Int) - (k : Int) then (k : Int) else (N : Int) - (k : Int)).toNat, ?_⟩
        split <;> split <;> omega
      rw [hc]
      have hsz : (ByteArray.mk (xs k).toArray).size = k := xs_len k
      refine ⟨⟨by omega, by rw [hsz]; omega⟩, ?_⟩
      rw [Int.toNat_natCast]
      have hex : (ByteArray.mk (xs k).toArray).extract 0 c = ⟨(xs c).toArray⟩ := by
        apply ByteArray.ext
        rw [ByteArray.data_extract]
        apply Array.ext
        · simp [xs]; omega
        · intro i h1 h2; simp [xs]
      rw [hex]
      refine (WriteString_spec h1 ⟨(xs c).toArray⟩ (by rw [xs_len, show (ByteArray.mk (xs c).toArray).size = c from xs_len c]; omega)).mono ?_
      rintro _ u2 ⟨rfl, h2⟩
      have e2 : xs k ++ (ByteArray.mk (xs c).toArray).data.toList = xs (k + c) := by
        show xs k ++ xs c = _
        simp [xs]
      rw [e2] at h2
      refine ⟨_, _, rfl, ⟨k + c, by omega, by omega, h2⟩, ?_⟩
      dsimp only
      rw [h2.bl, hk.bl, xs_len, xs_len]
      omega
    · obtain rfl : k = N := by omega
      have hne : xs k ≠ [] := fun h => by have := xs_len k; rw [h] at this; simp at this; omega
      refine (bString_spec hk hne (by rw [xs_len]; omega)).mono ?_
      rintro _ u1 ⟨rfl, h1⟩
      exact ⟨_, rfl, rfl, h1.ext⟩
  · intro x u hu
    obtain ⟨rfl, hu⟩ := hu
    exact hu
  · refine brd (fun h => absurd h (by decide)) (fun _ => brd (fun h => absurd h (by decide)) (fun _ => brd (fun h => absurd h (by decide)) (fun _ => brd (fun h => absurd h (by decide)) (fun _ => ⟨by decide, rfl⟩))))
end Go.Proofs.Ytakmlaliglmnmaa
