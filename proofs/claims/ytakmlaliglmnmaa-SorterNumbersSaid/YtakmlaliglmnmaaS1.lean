/- Layer 7 (sorter): rows with keys, compared and copied. -/
import Derived.Test.YtakmlaliglmnmaaNestsS
import Derived.Test.YtakmlaliglmnmaaR4
import Derived.Test.YtakmlaliglmnmaaS1Pure
import Derived.Test.YtakmlaliglmnmaaSxFix
import Derived.Laws.Externs
set_option linter.unusedVariables false
set_option linter.unusedSimpArgs false
namespace Go.Proofs.Ytakmlaliglmnmaa
open Go Go.Sx R1 S1 Go.Lib

/-- a row and its key, in memory -/
structure OneAt (Ω : Nat → Prop) (w : World) (a : One) (A : Option Addr) (c : Nat) (B : Option Addr) (d : Nat) : Prop where
  ck : a.k.length ≤ c
  cr : a.r.length ≤ d
  ik : Imm KB Ω w A a.k
  ir : Imm KV Ω w B a.r
  lk : a.k.length ≤ 1048576
  lr : a.r.length ≤ 200
  gr : ∀ v ∈ a.r, good v
def oc (a : One) (A : Option Addr) (c : Nat) (B : Option Addr) (d : Nat) : List Value := [.slice A a.k.length c, .slice B a.r.length d]
def KO : Kd One := ⟨2, fun Ω w a cs => ∃ A c B d, cs = oc a A c B d ∧ OneAt Ω w a A c B d, fun ⟨_, _, _, _, h, _⟩ => by simp [h, oc], fun ⟨A, c, B, d, h, o⟩ st => ⟨A, c, B, d, h, o.ck, o.cr, o.ik.keep KB_pos st, o.ir.keep KV_pos st, o.lk, o.lr, o.gr⟩⟩
def O0 : One := ⟨[], []⟩
abbrev KF (Ω0 : Nat → Prop) (w0 : World) : Kd One := Kd.fix Ω0 w0 KO
theorem KF_pos {Ω0 : Nat → Prop} {w0 : World} : 0 < (KF Ω0 w0).size := show 0 < 2 by decide
theorem KF_one {Ω0 : Nat → Prop} {w0 : World} : ∀ (Ω : Nat → Prop) (w : World) a cs, (KF Ω0 w0).rep Ω w a cs → ∀ v ∈ cs, v.oneCell' = true := by
  intro Ω w a cs h v hv
  obtain ⟨A, c, B, d, rfl, _⟩ := (show KO.rep Ω0 w0 a cs from h)
  simp [oc] at hv
  rcases hv with rfl | rfl <;> rfl
theorem slO : SlT Try.prog 61 81 2 48 [.slice none 0 0, .slice none 0 0] := ⟨by kernel_rfl, ⟨Try.t81, by kernel_rfl, by kernel_rfl, by kernel_rfl, .agg #[.slice none 0 0, .slice none 0 0], by kernel_rfl, by kernel_rfl⟩, rfl, by decide⟩
/-- the i-th -/
theorem itemO {Ω0 Ω : Nat → Prop} {w0 w : World} {A : Option Addr} {l : List One} (h : Imm (KF Ω0 w0) Ω w A l) (hΩ : ∀ k, ¬ Ω k ∨ True) {i : Nat} (hi : i < l.length) :
    ∃ ad, A = some ad ∧ ∃ kA kc rA rc, OneAt Ω0 w0 (l.getD i O0) kA kc rA rc ∧ ∀ u, Ext w u → u.cell? ((ad.add (i * 2)).add 0) = some (.slice kA (l.getD i O0).k.length kc) ∧ u.cell? ((ad.add (i * 2)).add (0 + 1)) = some (.slice rA (l.getD i O0).r.length rc) := by
  have hg : l[i]? = some (l.getD i O0) := by simp [List.getD, hi]
  obtain ⟨ad, hA, hn, cs, ⟨kA, kc, rA, rc, rfl, ho⟩, hcell⟩ := h i _ hg
  refine ⟨ad, hA, kA, kc, rA, rc, ho, fun u hu => ⟨?_, ?_⟩⟩
  · have := hu.cell (fun h => h) (hcell 0 _ rfl)
    rw [add_add]; exact this
  · have := hu.cell (fun h => h) (hcell 1 _ rfl)
    rw [add_add]; exact this

theorem run_loadBytes {w : World} : ∀ (l : List UInt8) (a : Addr) (acc : ByteArray), (∀ j v, l[j]? = some v → w.cell? (a.add j) = some (u8 v)) → (Extern.Bytes.loadBytes a l.length acc).run Try.prog w = .ok ⟨(acc.data.toList ++ l).toArray⟩ w
  | [], a, acc, h => by
    simp only [List.length_nil, Extern.Bytes.loadBytes, Sem.run_pure, List.append_nil, Array.toArray_toList]
  | b :: l, a, acc, h => by
    have h0 : w.cell? a = some (u8 b) := h 0 b rfl
    have ih := run_loadBytes l (a.add 1) (acc.push b) (fun j v hj => by
      rw [add_add, Nat.add_comm]; exact h (j + 1) v hj)
    simp only [List.length_cons, Extern.Bytes.loadBytes, Sem.run_bind, run_load, h0, Result.andThen_ok, u8]
    have hb : ((b.toNat : Int).toNat.toUInt8) = b := by simp
    rw [hb, ih]
    congr 2
    simp [ByteArray.push]
theorem run_bytesOf {Ω : Nat → Prop} {w : World} {A : Option Addr} {l : List UInt8} (h : Imm KB Ω w A l) (c : Nat) : (Extern.Bytes.bytesOf (.slice A l.length c)).run Try.prog w = .ok ⟨l.toArray⟩ w := by
  cases A with
  | none =>
    have : l = [] := by
      cases l with
      | nil => rfl
      | cons b r => obtain ⟨ad, h, _⟩ := h 0 b rfl; cases h
    subst this; rfl
  | some a =>
    have := run_loadBytes l a .empty (fun j v hj => by
      obtain ⟨ad, hA, _, cs, hr, hc⟩ := h j v hj
      cases hA
      have hr : cs = [u8 v] := hr
      subst hr
      have := hc 0 _ rfl
      rwa [show j * KB.size + 0 = j from Nat.mul_one j] at this)
    rw [show ((ByteArray.empty.data.toList ++ l).toArray) = l.toArray from rfl] at this
    exact this
theorem bCompare_spec {Ω Ω' : Nat → Prop} {w : World} {A B : Option Addr} {l m : List UInt8} {c d : Nat} (h : Imm KB Ω w A l) (h' : Imm KB Ω' w B m) :
    CallsV Try.prog 43 #[.slice A l.length c, .slice B m.length d] w fun r w' => r = .int .i64 (compareBytes l m) ∧ w' = w := by
  refine bytes_Compare.calls okay ?_
  unfold bytes_Compare.W
  refine ⟨_, w, ?_, rfl, rfl⟩
  unfold RunsTo
  rw [run_callFunc_extern Try.func72 (by kernel_rfl) (by kernel_rfl) (by kernel_rfl) (e := Extern.BytealgCompare.compare) (by kernel_rfl)]
  have : (Extern.BytealgCompare.compare #[.slice A l.length c, .slice B m.length d]).run Try.prog w = .ok (.int .i64 (compareBytes l m)) w := by
    change Sem.run Try.prog (do pure (goInt (Extern.BytealgCompare.cmp (← Extern.Bytes.bytesOf (.slice A l.length c)) (← Extern.Bytes.bytesOf (.slice B m.length d))))) w = _
    simp only [Sem.run_bind, run_bytesOf h, run_bytesOf h', Result.andThen_ok, Sem.run_pure, cmp_eq]
    rfl
  rw [this]; rfl
theorem bEqual_spec {Ω Ω' : Nat → Prop} {w : World} {A B : Option Addr} {l m : List UInt8} {c d : Nat} (h : Imm KB Ω w A l) (h' : Imm KB Ω' w B m) :
    CallsV Try.prog 46 #[.slice A l.length c, .slice B m.length d] w fun r w' => r = .bool (decide (l = m)) ∧ w' = w := by
  refine bytes_Equal.calls okay ?_
  unfold bytes_Equal.W
  exact ⟨_, _, to_str bt h c, _, _, to_str bt h' d, by rw [eq_str], rfl⟩
theorem later_spec {Ω0 : Nat → Prop} {w0 w : World} (e : Ext w0 w) {x y : One} {A B A' B' : Option Addr} {c d c' d' : Nat} (hx : OneAt Ω0 w0 x A c B d) (hy : OneAt Ω0 w0 y A' c' B' d') :
    CallsV Try.prog 42 #[.agg #[.slice A x.k.length c, .slice B x.r.length d], .agg #[.slice A' y.k.length c', .slice B' y.r.length d']] w fun r w' => r = .bool (decide (0 < compareBytes x.k y.k)) ∧ Ext w w' := by
  refine sorter_Sorter_Sort_1.calls okay ?_
  unfold sorter_Sorter_Sort_1.W
  intro g w1 f1 g2 w2 f2
  have e2 := f1.ext.trans' f2.ext
  refine ⟨_, _, _, (f1.blk.ext f2.ext).cell rfl, _, _, _, f2.blk.cell rfl, ?_⟩
  exact (bCompare_spec (hx.ik.ext KB_pos (e.trans' e2)) (hy.ik.ext KB_pos (e.trans' e2))).same ⟨_, rfl, rfl, e2⟩
theorem equal_spec {Ω0 : Nat → Prop} {w0 w : World} {S0 : Nat → Prop} (e : Fr S0 w0 w) (hS : ∀ k, S0 k → Ω0 k) {x y : One} {A B A' B' : Option Addr} {c d c' d' : Nat} (hx : OneAt Ω0 w0 x A c B d) (hy : OneAt Ω0 w0 y A' c' B' d') :
    CallsV Try.prog 45 #[.agg #[.slice A x.k.length c, .slice B x.r.length d], .agg #[.slice A' y.k.length c', .slice B' y.r.length d']] w fun r w' => r = .bool (decide (x.k = y.k)) ∧ Ext w w' := by
  refine sorter_Sorter_Sort_2.calls okay ?_
  unfold sorter_Sorter_Sort_2.W
  intro g w1 f1 g2 w2 f2
  have e2 := f1.ext.trans' f2.ext
  have st : Step Ω0 w0 Ω0 w2 := (e.ext e2.fr).step (fun k _ h => hS k h) (fun _ _ h => h)
  refine ⟨_, _, _, (f1.blk.ext f2.ext).cell rfl, _, _, _, f2.blk.cell rfl, ?_⟩
  exact (bEqual_spec (hx.ik.keep KB_pos st) (hy.ik.keep KB_pos st)).same ⟨_, rfl, rfl, e2⟩
/-- make, of no elements, with room -/
theorem make_room {t e sz by_ : Nat} {z : List Value} (T : SlT Try.prog t e sz by_ z) (hz1 : ∀ v ∈ z, v.oneCell' = true) (w : World) (n : Nat) (h1 : n ≤ maxLen) (h2 : n * by_ ≤ 281474976710656) (k k' : IntKind) :
    ∃ A w', RunsTo Try.prog (Instr.makeSlice t (.int k 0) (.int k' (n : Int))) w (.slice A 0 n) w' ∧ Own w' sz A 0 n [] ∧ Ext w w' ∧ New w A := by
  obtain ⟨i, hi, hs, hb, zv, hzv, hzl⟩ := T.hi
  have h2' : (i.bytes : Int) * (n : Int) ≤ 281474976710656 := by
    have h3 : ((n * by_ : Nat) : Int) ≤ 281474976710656 := by omega
    rw [Int.natCast_mul] at h3
    rw [hb, Int.mul_comm]; exact h3
  have hr := run_make (P := Try.prog) w t e i zv (und_underlying T.ht) (inf_info hi) hzv k k' (0 : Int) (n : Int) (by omega) (by omega) h2' (by simp [maxLen] at h1; omega)
  refine ⟨_, _, by simpa [RunsTo] using hr, ?_, Fr.alloc NoB w _, New.self w 0 none⟩
  have hzs : zv.cells.size = sz := by rw [← Array.length_toList, ← cellsL_eq, hzl]; exact T.hz
  refine ⟨by simp, h1, .inr ⟨w.heap.size, _, e, 0, 0, rfl, Go.heap_alloc_new w _, Nat.zero_le _, ?_, by simp, .inr (Nat.le_refl _)⟩⟩
  simp [madeCells, hs, hzs]
end Go.Proofs.Ytakmlaliglmnmaa
