/- Part 3 of the texts of this claim: the engine, contracts, plain laws. -/
import Derived.Test.YtaifphjenebgoaaDoorZCEnds15P2
import Derived.Test.YtaifphjenebgoaaDoorProg
import Derived.MapKept
import Derived.Test.YtaifphjenebgoaaDoorZCEnds15P1
import Derived.Sort.Grow
import Derived.Lib.SlicesCompact
/- Layer 3, plain: rows as bytes and keys. -/
set_option linter.unusedVariables false
set_option linter.unusedSimpArgs false
namespace R1
open Go.Sx

structure V where
  k : Int
  n : Int
  s : ByteArray

/-- a right value -/
def right (v : V) : Bool :=
  if v.k = 0 then decide (v.n = 0 ∧ v.s.size = 0) else if v.k = 1 then decide (v.s.size = 0) else if v.k = 2 ∨ v.k = 3 then decide (v.n = 0 ∧ v.s.size ≤ 65536) else false
/-- a value that memory can hold -/
def good (v : V) : Prop := (0 ≤ v.k ∧ v.k ≤ 255) ∧ (-9223372036854775808 ≤ v.n ∧ v.n ≤ 9223372036854775807) ∧ v.s.size ≤ Go.maxLen
/-- may it be a row? -/
def rightRow (l : List V) : Int := if 200 < l.length then 3 else if l.all right then 0 else 2

/-! ## numbers -/
def fits (n : Int) (k : Nat) : Bool := decide (-(2 ^ (8 * k - 1) : Nat) ≤ n ∧ n < (2 ^ (8 * k - 1) : Nat))
def wideFrom (n : Int) : Nat → Nat → Nat
  | 0, k => k
  | f + 1, k => if fits n k then k else wideFrom n f (k + 1)
/-- as few bytes as tell a number -/
def wide (n : Int) : Nat := wideFrom n 7 1
theorem wideFrom_le (n : Int) : ∀ f k, k ≤ wideFrom n f k ∧ wideFrom n f k ≤ f + k
  | 0, k => by simp [wideFrom]
  | f + 1, k => by
    have := wideFrom_le n f (k + 1)
    unfold wideFrom; split <;> omega
theorem wide_pos (n : Int) : 1 ≤ wide n := (wideFrom_le n 7 1).1
theorem wide_le (n : Int) : wide n ≤ 8 := (wideFrom_le n 7 1).2
/-- the last k bytes of a number, the highest first -/
def hi (m : Nat) : Nat → List UInt8
  | 0 => []
  | k + 1 => (m / 256 ^ k % 256).toUInt8 :: hi m k
theorem hi_length (m : Nat) : ∀ k, (hi m k).length = k
  | 0 => rfl
  | k + 1 => by simp [hi, hi_length m k]

/-! ## keys -/
def esc : List UInt8 → List UInt8
  | [] => []
  | c :: r => if c = 0 then 0 :: 255 :: esc r else c :: esc r
theorem esc_append : ∀ (a b : List UInt8), esc (a ++ b) = esc a ++ esc b
  | [], b => rfl
  | c :: a, b => by
    rw [List.cons_append, esc, esc, esc_append a b]
    split <;> rfl
theorem esc_length : ∀ (a : List UInt8), (esc a).length ≤ 2 * a.length
  | [] => by simp [esc]
  | c :: a => by have := esc_length a; unfold esc; split <;> simp <;> omega
def kpart (v : V) : List UInt8 :=
  if v.k = 0 then [1] else if v.k = 1 then 2 :: hi (v.n + 9223372036854775808).toNat 8 else (if v.k = 2 then 3 else 4) :: esc (sb v.s) ++ [0, 0]
theorem part_length (v : V) : (kpart v).length ≤ 9 + 2 * v.s.size := by
  unfold kpart
  have := esc_length (sb v.s)
  rw [sb_length] at this
  split
  · simp; omega
  · split
    · simp [hi_length]
    · simp; omega
theorem kpart_pos (v : V) : 0 < (kpart v).length := by
  unfold kpart; split
  · simp
  · split <;> simp
def tn (d : Bool) (l : List UInt8) : List UInt8 := if d then l.map (fun b => ~~~b) else l
theorem tn_length (d : Bool) (l : List UInt8) : (tn d l).length = l.length := by unfold tn; split <;> simp
def key : List V → List Bool → List UInt8
  | v :: vs, d :: ds => tn d (kpart v) ++ key vs ds
  | _, _ => []
def keyR (l : List V) (ds : List Bool) : List UInt8 × Int :=
  if rightRow l ≠ 0 then ([], rightRow l) else if ds.length ≠ l.length then ([], 2) else if 1048576 < (key l ds).length then ([], 3) else (key l ds, 0)
theorem key_append : ∀ (a b : List V) (d e : List Bool), a.length = d.length → key (a ++ b) (d ++ e) = key a d ++ key b e
  | [], b, [], e, _ => rfl
  | v :: a, b, x :: d, e, h => by
    show tn x (kpart v) ++ key (a ++ b) (d ++ e) = _
    rw [key_append a b d e (by simpa using h)]; simp [key]
  | [], _, _ :: _, _, h => by simp at h
  | _ :: _, _, [], _, h => by simp at h
theorem key_snoc (l : List V) (ds : List Bool) (i : Nat) (h : i < l.length) (h2 : i < ds.length) : key (l.take (i + 1)) (ds.take (i + 1)) = key (l.take i) (ds.take i) ++ tn (ds[i]) (kpart l[i]) := by
  rw [List.take_add_one, List.take_add_one, key_append _ _ _ _ (by simp; omega)]
  simp [h, h2, key]
theorem key_le : ∀ (l : List V) (ds : List Bool) (M : Nat), (∀ v ∈ l, v.s.size ≤ M) → (key l ds).length ≤ l.length * (9 + 2 * M)
  | [], _, M, _ => by simp [key]
  | v :: l, [], M, _ => by simp [key]
  | v :: l, d :: ds, M, h => by
    have h1 := key_le l ds M (fun v hv => h v (List.mem_cons.2 (.inr hv)))
    have h2 := part_length v
    have h3 := h v (List.mem_cons.2 (.inl rfl))
    simp only [key, List.length_append, tn_length, List.length_cons, Nat.add_mul, Nat.one_mul]
    omega

/-! ## rows -/
def sort (v : V) : Nat := if v.k = 1 then wide v.n else if v.k = 3 then 2 * v.s.size + 10 else if v.k = 2 then 2 * v.s.size + 11 else 0
def body (v : V) : List UInt8 := (if v.k = 1 then hi (v.n % 18446744073709551616).toNat (wide v.n) else []) ++ sb v.s
theorem right_size {v : V} (h : right v = true) : v.s.size ≤ 65536 := by
  unfold right at h
  split at h
  · have := of_decide_eq_true h; omega
  · split at h
    · have := of_decide_eq_true h; omega
    · split at h
      · have := of_decide_eq_true h; omega
      · cases h
end R1
/- make, copy, and what is owned written to in its midst. -/
set_option linter.unusedVariables false
set_option linter.unusedSimpArgs false
namespace Go.Sx
section
variable {P : Program}
theorem made_one (z : Value) (n : Nat) : (madeCells #[z] n).toList = List.replicate n z := by
  apply List.ext_getElem
  · simp [madeCells]
  · intro i h1 h2
    simp [madeCells, Nat.mod_one]
/-- make: elements of one cell -/
theorem make_own {t e by_ : Nat} {z : Value} (T : SlT P t e 1 by_ [z]) (hz1 : z.oneCell' = true) (w : World) (n : Nat) (h1 : n ≤ maxLen) (h2 : n * by_ ≤ 281474976710656) (k k' : IntKind) :
    ∃ w', RunsTo P (Instr.makeSlice t (.int k (n : Int)) (.int k' (n : Int))) w (.slice (some ⟨w.heap.size, 0, none⟩) n n) w' ∧ Own w' 1 (some ⟨w.heap.size, 0, none⟩) n n (List.replicate n z) ∧ Ext w w' := by
  obtain ⟨i, hi, hs, hb, zv, hzv, hzl⟩ := T.hi
  have hc : zv.cells = #[z] := by
    have := cellsL_eq zv
    rw [← Array.toList_inj]; rw [← cellsL_eq, hzl]
  have h2' : (i.bytes : Int) * (n : Int) ≤ 281474976710656 := by
    have h3 : ((n * by_ : Nat) : Int) ≤ 281474976710656 := by omega
    rw [Int.natCast_mul] at h3
    rw [hb, Int.mul_comm]; exact h3
  have hr := run_make (P := P) w t e i zv (und_underlying T.ht) (inf_info hi) hzv k k' (n : Int) (n : Int) (by omega) (by omega) h2' (by simp [maxLen] at h1; omega)
  rw [hc, hs, Int.toNat_natCast, Nat.mul_one] at hr
  refine ⟨_, hr, ?_, Fr.alloc NoB w _⟩
  have := own_lit (w := w) (cs := List.replicate n z) (e := e) (sz := 1) (n := n) (by simp) h1
  rw [show (madeCells #[z] n) = (List.replicate n z).toArray by rw [← made_one, Array.toArray_toList]]
  exact this

theorem zerosL_part (z : List Value) (n i : Nat) (hi : i < n) : ((zerosL z n).drop (i * z.length)).take z.length = z := by
  apply List.ext_getElem?
  intro j
  rw [List.getElem?_take]
  split
  · rename_i hj
    have hlt : i * z.length + j < n * z.length := by
      have h1 : (i + 1) * z.length ≤ n * z.length := Nat.mul_le_mul_right _ hi
      rw [Nat.add_mul, Nat.one_mul] at h1
      omega
    rw [List.getElem?_drop, zerosL_get z n _ hlt, Nat.mul_comm, Nat.mul_add_mod, Nat.mod_eq_of_lt hj]
  · rename_i hj
    rw [List.getElem?_eq_none (by omega)]
/-- make: elements of some cells -/
theorem make_ownZ {t e sz by_ : Nat} {z : List Value} (T : SlT P t e sz by_ z) (w : World) (n : Nat) (h1 : n ≤ maxLen) (h2 : n * by_ ≤ 281474976710656) (k k' : IntKind) :
    ∃ w', RunsTo P (Instr.makeSlice t (.int k (n : Int)) (.int k' (n : Int))) w (.slice (some ⟨w.heap.size, 0, none⟩) n n) w' ∧ Own w' sz (some ⟨w.heap.size, 0, none⟩) n n (zerosL z n) ∧ Ext w w' := by
  obtain ⟨i, hi, hs, hb, zv, hzv, hzl⟩ := T.hi
  have hc : zv.cells.toList = z := by rw [← cellsL_eq, hzl]
  have h2' : (i.bytes : Int) * (n : Int) ≤ 281474976710656 := by
    have h3 : ((n * by_ : Nat) : Int) ≤ 281474976710656 := by omega
    rw [Int.natCast_mul] at h3
    rw [hb, Int.mul_comm]; exact h3
  have hr := run_make (P := P) w t e i zv (und_underlying T.ht) (inf_info hi) hzv k k' (n : Int) (n : Int) (by omega) (by omega) h2' (by simp [maxLen] at h1; omega)
  rw [hs, Int.toNat_natCast] at hr
  refine ⟨_, hr, ?_, Fr.alloc NoB w _⟩
  have hzs : z.length = sz := T.hz
  have := own_lit (w := w) (cs := zerosL z n) (e := e) (sz := sz) (n := n) (by rw [zerosL_length, hzs]) h1
  have hm : madeCells zv.cells (n * sz) = (zerosL z n).toArray := by
    rw [← Array.toList_inj]
    have := zeros_eq zv.cells sz n (by rw [hc]; exact hzs)
    rw [hc] at this
    exact this
  rw [hm]
  exact this
theorem make_ownK {α : Type} {K : Kd α} {t e by_ : Nat} {z : List Value} (T : SlT P t e K.size by_ z) {a : α} (ha : ∀ Ω w, K.rep Ω w a z) (w : World) (n : Nat) (h1 : n ≤ maxLen) (h2 : n * by_ ≤ 281474976710656) (k k' : IntKind) :
    ∃ w', RunsTo P (Instr.makeSlice t (.int k (n : Int)) (.int k' (n : Int))) w (.slice (some ⟨w.heap.size, 0, none⟩) n n) w' ∧ OwnK K w' (some ⟨w.heap.size, 0, none⟩) n (List.replicate n a) ∧ Ext w w' := by
  obtain ⟨w', hr, ho, he⟩ := make_ownZ T w n h1 h2 k k'
  refine ⟨w', hr, ⟨_, by rw [List.length_replicate]; exact ho, fun i b hb => ?_⟩, he⟩
  obtain ⟨hi, rfl⟩ := List.getElem?_eq_some_iff.1 hb
  rw [List.length_replicate] at hi
  have hzs : z.length = K.size := T.hz
  rw [← hzs, zerosL_part z n i hi, List.getElem_replicate]
  exact ha _ _
/-- copy of as many elements as there are -/
theorem copy_own {t t2 e sz by_ : Nat} {z : List Value} (T : SlT P t e sz by_ z) {ty : TypeId} {w : World} {A : Option Addr} {n c : Nat} {xs : List Value} (h : Own w sz A n c xs) {x : Value} {ys : List Value} (hx : Src P w sz x n ys) :
    ∃ w', RunsTo P (Builtin.copy_ #[t, t2] ty #[.slice A n c, x]) w (.int .i64 (n : Int)) w' ∧ Own w' sz A n c ys ∧ Fr (ownB A) w w' := by
  obtain ⟨i, hi, hsz, hby, zv, hzv, hzl⟩ := T.hi
  subst hsz
  obtain ⟨hfc, hlen, hyl, hy1⟩ := hx
  have hfd := hfc w rfl
  rcases h.2.2 with ⟨rfl, rfl, rfl⟩ | ⟨g, cur, e', lo, hi', rfl, hg, hnc, hcs, htake, hfz⟩
  · have hy0 : ys = [] := List.eq_nil_of_length_eq_zero (by simpa using hyl)
    subst hy0
    refine ⟨w, ?_, Own.nil w _, .refl _ _⟩
    simp only [RunsTo, Builtin.copy_, List.getElem?_toArray, List.getElem?_cons_zero, List.getElem?_cons_succ, Sem.run_bind, run_und T.ht, Result.andThen_ok, hlen, run_size hi, Nat.min_self, Nat.min_def, Nat.le_refl, if_true, hfd, Sem.run_pure, goInt]
  · have hfit : 0 + 0 + ys.length ≤ cur.size := by rw [hyl, hcs]; simpa using Nat.mul_le_mul_right _ hnc
    have hst := run_storeCells_own (P := P) g 0 e' lo hi' ys 0 cur w hg hfz hfit hy1
    simp only [Nat.add_zero, Nat.zero_add, List.take_zero, List.nil_append] at hst
    refine ⟨w.setRow g (ys ++ cur.toList.drop ys.length).toArray, ?_, ⟨hyl, h.2.1, .inr ⟨g, _, e', lo, hi', rfl, setRow_heap w g cur _ e' _ hg, hnc, ?_, ?_, ?_⟩⟩, ⟨rfl, rfl, rfl, by simp, fun k _ hk => setRow_other w g k _ (fun e => hk (by rw [ownB_some]; exact e.symm))⟩⟩
    · simp only [RunsTo, Builtin.copy_, List.getElem?_toArray, List.getElem?_cons_zero, List.getElem?_cons_succ, Sem.run_bind, run_und T.ht, Result.andThen_ok, hlen, run_size hi, Nat.min_self, Nat.min_def, Nat.le_refl, if_true, hfd, hst, Sem.run_pure, goInt]
    · simp only [List.size_toArray, List.length_append, List.length_drop, Array.length_toList]
      omega
    · rw [← hyl]; exact List.take_left
    · simp only [List.size_toArray, List.length_append, List.length_drop, Array.length_toList]
      omega

/-- a cell of what is owned, written -/
theorem Own.at_ {w : World} {sz : Nat} {A : Option Addr} {n c : Nat} {xs : List Value} (h : Own w sz A n c xs) {j : Nat} (hj : j < n * sz) :
    ∃ g, A = some ⟨g, 0, none⟩ ∧ (w.cell? ⟨g, j, none⟩).isSome = true ∧ w.frozen? ⟨g, j, none⟩ = false ∧ ∀ v, Own (w.setCell ⟨g, j, none⟩ v) sz A n c (xs.set j v) ∧ Fr (ownB A) w (w.setCell ⟨g, j, none⟩ v) := by
  rcases h.2.2 with ⟨_, rfl, _⟩ | ⟨g, cur, e, lo, hi, rfl, hg, hnc, hcs, htake, hfz⟩
  · simp at hj
  · have hjc : j < cur.size := by rw [hcs]; exact Nat.lt_of_lt_of_le hj (Nat.mul_le_mul_right _ hnc)
    refine ⟨g, rfl, by rw [cell_of_row w g j cur e _ hg]; simp [hjc], not_frozen hg hjc hfz, fun v => ⟨⟨by rw [List.length_set]; exact h.1, h.2.1, .inr ⟨g, cur.setIfInBounds j v, e, lo, hi, rfl, ?_, hnc, by simpa using hcs, ?_, by simpa using hfz⟩⟩, ?_⟩⟩
    · simp [World.setCell, Array.getElem?_modify, hg]
    · rw [Array.toList_setIfInBounds, ← htake, List.take_set]
    · exact Fr.setCell (ownB (some ⟨g, 0, none⟩)) v (.inr (by rw [ownB_some]))
end
end Go.Sx
/- What all texts of a seat stand on: the program is right; tests of strings; values. -/
set_option linter.unusedVariables false
set_option linter.unusedSimpArgs false
namespace Go.Proofs.YtaifphjenebgoaaDoor
open Go Go.Sx R1
theorem okay : Okay Tryd.prog := ⟨by kernel_rfl, by kernel_rfl⟩
theorem brS {l l' : List UInt8} {A B : Prop} (h1 : l = l' → A) (h2 : l ≠ l' → B) : cond (ByteArray.toList ⟨l.toArray⟩ == ByteArray.toList ⟨l'.toArray⟩) A B := by rw [eq_str]; exact brd h1 h2
theorem brnS {l l' : List UInt8} {A B : Prop} (h1 : l ≠ l' → A) (h2 : l = l' → B) : cond (!(ByteArray.toList ⟨l.toArray⟩ == ByteArray.toList ⟨l'.toArray⟩)) A B := by rw [eq_str]; exact brn h1 h2
/-- a value's cells -/
def vc (v : V) : List Value := [.int .u8 v.k, .int .i64 v.n, .string v.s]
def KV : Kd V := ⟨3, fun _ _ a cs => cs = vc a, fun h => by simp [h, vc], fun h _ => h⟩
theorem KV_pos : 0 < KV.size := by decide
theorem KV_one : ∀ (Ω : Nat → Prop) (w : World) a cs, KV.rep Ω w a cs → ∀ v ∈ cs, v.oneCell' = true := by
  intro Ω w a cs h v hv
  have h : cs = vc a := h
  subst h
  simp [vc] at hv
  rcases hv with rfl | rfl | rfl <;> rfl
def V0 : V := ⟨0, 0, ByteArray.empty⟩
end Go.Proofs.YtaifphjenebgoaaDoor
/- Layer 15, plain: programs; which may be. -/
set_option linter.unusedVariables false
set_option linter.unusedSimpArgs false
namespace K15
open Go.Sx R1
structure Cur where
  name : ByteArray
  ix : Bool
  wr : Bool
structure Srt where
  desc : List Bool
  cols : Int
  dist : Bool
structure Tot where
  fn : ByteArray
  dist : Bool
structure Ins where
  op : Int
  a : Int
  b : Int
  c : Int
  d : Int
structure Prog where
  ver : Int
  regs : Int
  binds : Int
  names : List ByteArray
  consts : List V
  curs : List Cur
  sorts : List Srt
  tots : List Tot
  code : List Ins
def C0 : Cur := ⟨ByteArray.empty, false, false⟩
def S0 : Srt := ⟨[], 0, false⟩
def T0 : Tot := ⟨ByteArray.empty, false⟩
def I0 : Ins := ⟨0, 0, 0, 0, 0⟩
def within (n low high : Int) : Bool := decide (low ≤ n) && decide (n ≤ high)
def longN (s : ByteArray) : Bool := decide (200 < s.size)
def wrongV (v : V) : Bool := !right v
def badCur (c : Cur) : Bool := decide (c.name.size = 0) || (decide (200 < c.name.size) || (c.ix && c.wr))
def badSrt (s : Srt) : Bool := decide (30 < s.desc.length) || !within s.cols 1 60
def knownT (n : List UInt8) : Bool := decide (n = [99, 111, 117, 110, 116] ∨ n = [99, 111, 117, 110, 116, 42] ∨ n = [115, 117, 109] ∨ n = [116, 111, 116, 97, 108] ∨ n = [109, 105, 110] ∨ n = [109, 97, 120] ∨ n = [103, 114, 111, 117, 112, 95, 99, 111, 110, 99, 97, 116])
def newT (n : List UInt8) (d : Bool) : Int := if knownT n then (if d && decide (n = [99, 111, 117, 110, 116, 42]) then 2 else 0) else 21
def badTot (t : Tot) : Bool := !decide (newT (sb t.fn) t.dist = 0)
def partsP (p : Prog) : Bool :=
  within p.ver 1 1099511627776 && (within p.regs 1 250 && (within p.binds 0 1000 && (decide (p.names.length ≤ 200) && (decide (p.consts.length ≤ 1000) && (decide (p.curs.length ≤ 12) && (decide (p.sorts.length ≤ 6) && (decide (p.tots.length ≤ 60) &&
  (!p.names.any longN && (!p.consts.any wrongV && (!p.curs.any badCur && (!p.sorts.any badSrt && !p.tots.any badTot)))))))))))
end K15
/- Layer 15, plain: what a letter says of a number. -/
set_option linter.unusedVariables false
set_option linter.unusedSimpArgs false
namespace K15
open Go.Sx R1
def below (n high : Int) : Bool := decide (0 ≤ n) && decide (n < high)
def curAt (p : Prog) (n : Int) : Cur := p.curs.getD n.toNat C0
def constAt (p : Prog) (n : Int) : V := p.consts.getD n.toNat ⟨0, 0, ByteArray.empty⟩
def fieldP (p : Prog) (t l n : Int) : Bool :=
  if l = 45 then decide (n = 0)
  else if l = 114 then below n p.regs
  else if l = 107 then below n p.consts.length
  else if l = 98 then below n p.binds
  else if l = 115 then below n p.sorts.length
  else if l = 116 then below n p.tots.length
  else if l = 99 then below n p.curs.length
  else if l = 50 then below n 15
  else if l = 49 then below n 2
  else if l = 102 then below n 10
  else if l = 120 then below n 60
  else if l = 106 then decide (t < n) && decide (n < p.code.length)
  else if l = 110 then decide (1 ≤ n) && decide (n ≤ t)
  else if l = 109 then decide (1 ≤ n) && decide (n ≤ p.regs)
  else if l = 105 then below n p.curs.length && (curAt p n).ix
  else if l = 108 then below n p.curs.length && !(curAt p n).ix
  else if l = 119 then below n p.curs.length && (!(curAt p n).ix && (curAt p n).wr)
  else if l = 113 then below n p.consts.length && decide ((constAt p n).k = 2)
  else false
/-- what each instruction has, a letter each -/
def shapes : List (Int × List UInt8) := [(1, [114, 107, 45, 45]), (2, [114, 98, 45, 45]), (3, [114, 114, 45, 45]), (4, [114, 114, 114, 50]), (5, [114, 114, 45, 49]), (6, [114, 114, 45, 49]), (7, [114, 114, 45, 49]), (8, [114, 114, 109, 102]), (9, [114, 45, 45, 49]), (10, [106, 45, 45, 45]), (11, [106, 114, 45, 45]), (12, [106, 114, 114, 109]), (13, [99, 106, 45, 45]), (14, [105, 106, 114, 109]), (15, [99, 110, 45, 45]), (16, [105, 106, 114, 109]), (17, [108, 106, 114, 45]), (18, [114, 99, 120, 45]), (19, [114, 99, 45, 45]), (20, [115, 114, 114, 45]), (21, [115, 106, 45, 45]), (22, [115, 110, 45, 45]), (23, [114, 115, 120, 45]), (24, [116, 45, 45, 45]), (25, [116, 114, 45, 45]), (26, [114, 116, 45, 45]), (27, [114, 45, 45, 45]), (28, [114, 119, 45, 45]), (29, [119, 114, 114, 45]), (30, [119, 114, 45, 45]), (31, [113, 45, 45, 45]), (32, [45, 45, 45, 45]), (33, [45, 45, 45, 45]), (34, [45, 45, 45, 45]), (35, [45, 45, 45, 45])]
def lookS : List (Int × List UInt8) → Int → List UInt8
  | [], _ => []
  | (k, l) :: r, o => if o = k then l else lookS r o
def shapeP (o : Int) : List UInt8 := lookS shapes o
/-- the letters -/
def letters : List Int := [45, 114, 107, 98, 115, 116, 99, 50, 49, 102, 120, 106, 110, 109, 105, 108, 119, 113]
def srtAt (p : Prog) (n : Int) : Srt := p.sorts.getD n.toNat S0
def fieldsL (p : Prog) (t : Int) (i : Ins) : List UInt8 → Bool
  | [x, y, z, u] => fieldP p t x.toNat i.a && (fieldP p t y.toNat i.b && (fieldP p t z.toNat i.c && fieldP p t u.toNat i.d))
  | _ => false
/-- are the numbers of an instruction what its letters say? -/
def fieldsP (p : Prog) (t : Int) (i : Ins) : Bool := fieldsL p t i (shapeP i.op)
def fnNames : List (List UInt8) := [[108, 101, 110, 103, 116, 104], [117, 112, 112, 101, 114], [108, 111, 119, 101, 114], [97, 98, 115], [116, 121, 112, 101, 111, 102], [104, 101, 120], [105, 102, 110, 117, 108, 108], [105, 110, 115, 116, 114], [115, 117, 98, 115, 116, 114], [99, 111, 97, 108, 101, 115, 99, 101]]
def knownF (n : List UInt8) (c : Int) : Bool :=
  if n = [108, 101, 110, 103, 116, 104] ∨ n = [117, 112, 112, 101, 114] ∨ n = [108, 111, 119, 101, 114] ∨ n = [97, 98, 115] ∨ n = [116, 121, 112, 101, 111, 102] ∨ n = [104, 101, 120] then decide (c = 1)
  else if n = [105, 102, 110, 117, 108, 108] ∨ n = [105, 110, 115, 116, 114] then decide (c = 2)
  else if n = [115, 117, 98, 115, 116, 114] then decide (c = 2) || decide (c = 3)
  else if n = [99, 111, 97, 108, 101, 115, 99, 101] then decide (2 ≤ c) && decide (c ≤ 100) else false
def fnAt (d : Int) : List UInt8 := if d < 0 ∨ (fnNames.length : Int) ≤ d then [] else fnNames.getD d.toNat []
def fitsP (p : Prog) (f m : Int) : Bool := decide (m ≤ p.regs - f)
def runsP (p : Prog) (t : Int) (i : Ins) : Bool :=
  if i.op = 8 then decide (i.c ≤ 100) && (fitsP p i.b i.c && knownF (fnAt i.d) i.c)
  else if i.op = 12 then fitsP p i.b i.d && fitsP p i.c i.d
  else if i.op = 14 ∨ i.op = 16 then fitsP p i.c i.d
  else if i.op = 18 then decide (i.c < 30)
  else if i.op = 23 then decide (i.c < (srtAt p i.b).cols)
  else if i.op = 20 then fitsP p i.b (srtAt p i.a).desc.length && fitsP p i.c (srtAt p i.a).cols
  else if i.op = 27 then fitsP p i.a p.names.length
  else if i.op = 31 ∨ i.op = 32 ∨ i.op = 33 ∨ i.op = 34 then decide (t = 0) && decide (p.code.length = 2)
  else true
/-- may an instruction stand at a place? -/
def okAt (p : Prog) (t : Nat) (i : Ins) : Bool := fieldsP p t i && runsP p t i
def okFrom (p : Prog) : Nat → List Ins → Bool
  | _, [] => true
  | t, i :: l => okAt p t i && okFrom p (t + 1) l
/-- may a program be? -/
def checkP (p : Prog) : Bool := partsP p && (decide (1 ≤ p.code.length) && (decide (p.code.length ≤ 4000) && (decide ((p.code.getD (p.code.length - 1) I0).op = 35) && okFrom p 0 p.code)))
end K15
/- Maps: made, written, read, by their entries in order. -/
set_option linter.unusedVariables false
set_option linter.unusedSectionVars false
set_option linter.unusedSimpArgs false
namespace Go.Sx
open Go.MapKept
section
variable {P : Program} {α : Type} [DecidableEq α]
/-- a key's entry -/
def getM : List (α × Value) → α → Option Value
  | [], _ => none
  | (x, u) :: l, a => if a = x then some u else getM l a
def setM : List (α × Value) → α → Value → List (α × Value)
  | [], a, v => [(a, v)]
  | (x, u) :: l, a, v => if a = x then (a, v) :: l else (x, u) :: setM l a v
def findM : List (α × Value) → α → Nat → Option (Nat × Value)
  | [], _, _ => none
  | (x, u) :: l, a, i => if a = x then some (i, u) else findM l a (i + 1)
theorem findM_get (a : α) : ∀ (l : List (α × Value)) (i : Nat), (findM l a i).map (·.2) = getM l a
  | [], _ => rfl
  | (x, u) :: l, i => by
    rw [findM, getM]
    split
    · rfl
    · exact findM_get a l (i + 1)
theorem findM_none (a : α) (v : Value) : ∀ (l : List (α × Value)) (i : Nat), findM l a i = none → setM l a v = l ++ [(a, v)]
  | [], _, _ => rfl
  | (x, u) :: l, i, h => by
    rw [findM] at h
    split at h
    · cases h
    · rename_i hne
      rw [setM, if_neg hne, findM_none a v l (i + 1) h]; rfl
theorem findM_some (a : α) (v : Value) : ∀ (l : List (α × Value)) (i j : Nat) (u : Value), findM l a i = some (j, u) → ∃ n, j = i + n ∧ l[n]? = some (a, u) ∧ setM l a v = l.set n (a, v)
  | [], _, _, _, h => by cases h
  | (x, u) :: l, i, j, u', h => by
    rw [findM] at h
    split at h
    · rename_i he
      subst he
      cases h
      exact ⟨0, rfl, rfl, by rw [setM, if_pos rfl]; rfl⟩
    · rename_i hne
      obtain ⟨n, h1, h2, h3⟩ := findM_some a v l (i + 1) j u' h
      exact ⟨n + 1, by omega, by simpa using h2, by rw [setM, if_neg hne, h3]; rfl⟩
/-- keys of a type that are told from one another by what they are -/
structure KeyF (P : Program) (kt : TypeId) (d : TypeDesc) (f : α → Value) : Prop where
  und : und P kt = some d
  key : ∀ a, IsKey d (f a)
  inj : ∀ a b, f a = f b → a = b
/-- a map's entries, in the order in which they came -/
def MapK (f : α → Value) (w : World) (b : Nat) (l : List (α × Value)) : Prop := ∃ es clock, w.heap[b]? = some (.map es clock) ∧ es.toList.map (fun e => (e.key, e.val)) = l.map (fun p => (f p.1, p.2))
theorem MapK.lt {f : α → Value} {w : World} {b : Nat} {l : List (α × Value)} (h : MapK f w b l) : b < w.heap.size := by
  obtain ⟨es, c, h, _⟩ := h; exact (Array.getElem?_eq_some_iff.1 h).1
theorem MapK.keep {f : α → Value} {w w' : World} {b : Nat} {l : List (α × Value)} {S : Nat → Prop} (h : MapK f w b l) (hf : Fr S w w') (hn : ¬ S b) : MapK f w' b l := by
  have hl := h.lt
  obtain ⟨es, c, h, he⟩ := h; exact ⟨es, c, (hf.block b hl hn).trans h, he⟩
theorem MapK.ext {f : α → Value} {w w' : World} {b : Nat} {l : List (α × Value)} (h : MapK f w b l) (e : Ext w w') : MapK f w' b l := h.keep e (fun h => h)
theorem MapK.new (f : α → Value) (w : World) : MapK f (w.alloc (.map #[] 0)) w.heap.size [] := ⟨#[], 0, (MapKept.heap_alloc w _).1, rfl⟩
theorem makeMap_run (t : TypeId) (w : World) : RunsTo P (Instr.makeMap t none) w (.map (some w.heap.size)) (w.alloc (.map #[] 0)) := by
  unfold RunsTo; simp [Instr.makeMap]
theorem makeMapN_run {t k e : TypeId} (ht : und P t = some (.map k e)) (n : Int) (w : World) : RunsTo P (Instr.makeMap t (some (.int .i64 n))) w (.map (some w.heap.size)) (w.alloc (.map #[] 0)) := by
  unfold RunsTo; simp [Instr.makeMap, run_und ht, Result.andThen, asInt, asIntOf]
theorem findNow_M {kt : TypeId} {d : TypeDesc} {f : α → Value} (F : KeyF P kt d f) (a : α) : ∀ (es : List MapEntry) (l : List (α × Value)) (i : Nat), es.map (fun e => (e.key, e.val)) = l.map (fun p => (f p.1, p.2)) → Instr.findNow d (f a) es i = some (findM l a i)
  | [], [], _, _ => rfl
  | [], _ :: _, _, h => by cases h
  | _ :: _, [], _, h => by cases h
  | e :: es, (x, u) :: l, i, h => by
    simp only [List.map_cons, List.cons.injEq, Prod.mk.injEq] at h
    obtain ⟨⟨h1, h2⟩, h3⟩ := h
    obtain ⟨r, hr, hiff⟩ := sameNow_of_keys (F.key a) (F.key x)
    rw [Instr.findNow, h1, hr, findM]
    by_cases hax : a = x
    · subst hax
      rw [if_pos rfl, hiff.2 rfl]
      simp [h2]
    · rw [if_neg hax]
      cases r with
      | true => exact absurd (F.inj _ _ (hiff.1 rfl)) hax
      | false => exact findNow_M F a es l (i + 1) h3
theorem MapK.look {kt et t : TypeId} {d : TypeDesc} {f : α → Value} (F : KeyF P kt d f) (ht : Go.Sx.und P t = some (.map kt et)) {w : World} {b : Nat} {l : List (α × Value)} (h : MapK f w b l) (a : α) {z : Value} (hz : ∀ w, (zeroValue et).run P w = .ok z w) :
    RunsTo P (Instr.lookup t (.map (some b)) (f a) true) w (.tuple #[(getM l a).getD z, .bool (getM l a).isSome]) w ∧ RunsTo P (Instr.lookup t (.map (some b)) (f a) false) w ((getM l a).getD z) w := by
  obtain ⟨es, clock, hb, he⟩ := h
  have hf := findNow_M F a es.toList l 0 he
  have hg := findM_get a l 0
  have hc : (Instr.checkKey es.isEmpty 10000 kt (f a)).run P w = .ok () w := MapKept.run_checkKey (und_underlying F.und) (F.key a) _ 9999
  rw [← hg]
  cases hr : findM l a 0 with
  | none =>
    rw [hr] at hf
    constructor <;> simp [RunsTo, Instr.lookup, run_und ht, MapKept.run_getObj_map hb, hc, MapKept.run_findKey (und_underlying F.und) hf, Result.andThen, hz]
  | some p =>
    obtain ⟨j, u⟩ := p
    rw [hr] at hf
    constructor <;> simp [RunsTo, Instr.lookup, run_und ht, MapKept.run_getObj_map hb, hc, MapKept.run_findKey (und_underlying F.und) hf, Result.andThen]
theorem MapK.update {kt et t : TypeId} {d : TypeDesc} {f : α → Value} (F : KeyF P kt d f) (ht : Go.Sx.und P t = some (.map kt et)) {w : World} {b : Nat} {l : List (α × Value)} (h : MapK f w b l) (a : α) (v : Value) :
    ∃ w', RunsTo P (Instr.mapUpdate t (.map (some b)) (f a) v) w () w' ∧ MapK f w' b (setM l a v) ∧ Fr (fun k => k = b) w w' := by
  obtain ⟨es, clock, hb, he⟩ := h
  have hf := findNow_M F a es.toList l 0 he
  have hc : (Instr.checkKey false 10000 kt (f a)).run P w = .ok () w := MapKept.run_checkKey (und_underlying F.und) (F.key a) _ 9999
  have frame : ∀ o : Obj, Fr (fun k => k = b) w { w with heap := w.heap.setIfInBounds b o } := fun o => ⟨rfl, rfl, rfl, by simp, fun k _ hn => (MapKept.heap_set hb (o' := o)).2 k hn⟩
  cases hr : findM l a 0 with
  | none =>
    rw [hr] at hf
    refine ⟨{ w with heap := w.heap.setIfInBounds b (.map (es.push { key := f a, val := v, born := clock }) (clock + 1)) }, ?_, ⟨_, _, (MapKept.heap_set hb).1, ?_⟩, frame _⟩
    · simp [RunsTo, Instr.mapUpdate, run_und ht, MapKept.run_getObj_map hb, hc, MapKept.run_findKey (und_underlying F.und) hf, MapKept.run_setObj_map _ hb, Result.andThen]
    · rw [findM_none a v l 0 hr]; simp [he]
  | some p =>
    obtain ⟨j, u⟩ := p
    rw [hr] at hf
    obtain ⟨n, hj, hn, hs⟩ := findM_some a v l 0 j u hr
    rw [Nat.zero_add] at hj
    obtain rfl : j = n := hj
    have hk : ∃ e, es[j]? = some e ∧ e.key = f a := by
      have := congrArg (fun q => q[j]?) he
      simp only [List.getElem?_map, hn, Option.map_some] at this
      cases h' : es.toList[j]? with
      | none => rw [h'] at this; cases this
      | some e => rw [h'] at this; simp at this; exact ⟨e, by simpa using h', this.1⟩
    obtain ⟨e, hen, hek⟩ := hk
    have hst : (Instr.keyThatStays (((es[j]?).map (·.key)).getD (f a)) (f a)).run P w = .ok (f a) w := by
      rw [hen]; simp only [Option.map_some, Option.getD_some, hek]
      exact MapKept.run_keyThatStays (F.key a)
    refine ⟨{ w with heap := w.heap.setIfInBounds b (.map (es.modify j fun e => { e with key := f a, val := v }) clock) }, ?_, ⟨_, _, (MapKept.heap_set hb).1, ?_⟩, frame _⟩
    · simp [RunsTo, Instr.mapUpdate, run_und ht, MapKept.run_getObj_map hb, hc, MapKept.run_findKey (und_underlying F.und) hf, MapKept.run_setObj_map _ hb, Result.andThen, hst]
    · rw [hs, Array.toList_modify]
      apply List.ext_getElem?
      intro i
      have hi := congrArg (fun q => q[i]?) he
      simp only [List.getElem?_map] at hi
      simp only [List.getElem?_map, List.getElem?_modify, List.getElem?_set]
      by_cases hni : j = i
      · subst hni
        have hl : j < l.length := (List.getElem?_eq_some_iff.1 hn).1
        have : es.toList[j]? = some e := by simpa using hen
        simp [this, hl]
      · simp only [hni, if_false]
        cases h' : es.toList[i]? with
        | none => rw [h'] at hi; simpa using hi
        | some q => rw [h'] at hi; simpa using hi
end
/-- numbers as keys -/
theorem keyInt {P : Program} {kt : TypeId} {q : IntKind} (h : und P kt = some (.int q)) : KeyF P kt (.int q) (fun a : Int => Value.int q a) := ⟨h, fun a => by simp [IsKey], fun a b e => by cases e; rfl⟩
end Go.Sx
/- Layer 15 (code): names of functions, which totals there are. -/
set_option linter.unusedVariables false
set_option linter.unusedSimpArgs false
namespace Go.Proofs.YtaifphjenebgoaaDoor
open Go Go.Sx K15
/-- the table of blanks lies in the world -/
def Tab (w : World) : Prop := Lib.TabIs Tryd.prog w "strings.asciiSpace" .u8 Lib.asciiSpaceTab
theorem Tab.ext {w w' : World} (h : Tab w) (e : Ext w w') : Tab w' := by
  unfold Tab Lib.TabIs World.var? at *
  cases hg : Tryd.prog.globalNamed "strings.asciiSpace" with
  | none => rw [hg] at h; cases h
  | some g =>
    rw [hg] at h
    simp only [Option.bind_some] at h ⊢
    cases hb : w.heap[g]? with
    | none => rw [hb] at h; cases h
    | some o =>
      rw [(e.block g (Array.getElem?_eq_some_iff.1 hb).1 (fun h => h)), hb]
      rw [hb] at h
      exact h
theorem part1 {α : Type} {l : List α} {i : Nat} {x : α} (h : l[i]? = some x) : (l.drop i).take 1 = [x] := by
  obtain ⟨hlt, rfl⟩ := List.getElem?_eq_some_iff.1 h
  rw [List.drop_eq_getElem_cons hlt]; rfl
theorem cntF_le : ∀ (l : List UInt8) (b : Bool), Lib.cntF b l ≤ l.length
  | [], _ => Nat.le_refl _
  | x :: l, b => by
    have := cntF_le l (Lib.isSp x)
    rw [Lib.cntF, List.length_cons]
    split <;> omega
theorem fields_le (l : List UInt8) : (Lib.fields l).length ≤ l.length := by
  have := Lib.fieldsGo_length l []
  have h2 := cntF_le l true
  show (Lib.fieldsGo [] l).length ≤ _
  rw [this]
  simp only [List.isEmpty_nil, if_true]
  omega
/-- a string of a list's bytes -/
def bs (l : List UInt8) : ByteArray := ⟨l.toArray⟩
theorem bs_sb (s : ByteArray) : bs (sb s) = s := rfl
theorem Fields_spec {w : World} (hT : Tab w) (s : ByteArray) (hs : s.size < 1000) (ha : ∀ b ∈ sb s, b.toNat < 128) :
    CallsV Tryd.prog 12 #[.string s] w fun r w' => ∃ A, r = .slice A (Lib.fields (sb s)).length (Lib.fields (sb s)).length ∧ Imm Kd.str NoB w' A ((Lib.fields (sb s)).map bs) ∧ Ext w w' := by
  refine Calls.mono (Tryd.strings_Fields s w (by omega) (fun j b hj => ha b (List.mem_of_getElem? hj)) hT) ?_
  rintro e w' ⟨he, rfl⟩
  refine ⟨_, he, _, rfl, ?_, Fr.alloc NoB w _⟩
  have hl : (Lib.fields (sb s)).length ≤ maxLen := by
    have := fields_le (sb s)
    rw [sb_length] at this
    simp only [maxLen]; omega
  have := (ownK_lit (K := Kd.str) (w := w) (cs := (Lib.fields s.data.toList).map fun l => Value.string ⟨l.toArray⟩) (e := 9) (l := (Lib.fields (sb s)).map bs) (by simp [Kd.str, sb]) (by simpa using hl) (fun i a hi => by
    rw [List.getElem?_map] at hi
    cases hq : (Lib.fields (sb s))[i]? with
    | none => rw [hq] at hi; cases hi
    | some x =>
      rw [hq] at hi
      cases hi
      show ((((Lib.fields (sb s)).map fun l => Value.string ⟨l.toArray⟩).drop (i * 1)).take 1) = [.string (bs x)]
      rw [Nat.mul_one, part1 (x := Value.string (bs x)) (by rw [List.getElem?_map, hq]; rfl)])).imm (by decide)
  exact this
/-- the d-th of some words -/
def nth (l : List (List UInt8)) (d : Int) : List UInt8 × Bool := if d < 0 ∨ (l.length : Int) ≤ d then ([], false) else (l.getD d.toNat [], true)
theorem named_spec {w : World} (hT : Tab w) (s : ByteArray) (hs : s.size < 1000) (ha : ∀ b ∈ sb s, b.toNat < 128) (d : Int) :
    CallsV Tryd.prog 26 #[.string s, .int .i64 d] w fun r w' => r = .tuple #[.string (bs (nth (Lib.fields (sb s)) d).1), .bool (nth (Lib.fields (sb s)) d).2] ∧ Ext w w' := by
  refine code_named.calls okay ?_
  unfold code_named.W nth
  refine (Fields_spec hT s hs ha).mono ?_
  rintro _ w1 ⟨A, rfl, hi, e⟩
  refine ⟨_, _, _, rfl, ?_⟩
  refine brd (fun h => ⟨by rw [if_pos (.inl h)]; rfl, e⟩) (fun h1 => brd (fun h => ⟨by rw [if_pos (.inr h)]; rfl, e⟩) (fun h2 => ?_))
  rw [if_neg (by omega)]
  have hlt : d.toNat < ((Lib.fields (sb s)).map bs).length := by rw [List.length_map]; omega
  obtain ⟨ad, hA, cs, hrep, hc⟩ := hi.get1 hlt
  have hrep : cs = [.string _] := hrep
  subst hrep
  have hlt2 : d.toNat < (Lib.fields (sb s)).length := by rwa [List.length_map] at hlt
  refine ⟨ad, hA, ⟨by omega, by omega⟩, _, hc 0 _ rfl, ?_, e⟩
  rw [List.getElem_map]
  simp [List.getD, hlt2]
def fWords : ByteArray := ByteArray.mk #[108, 101, 110, 103, 116, 104, 32, 117, 112, 112, 101, 114, 32, 108, 111, 119, 101, 114, 32, 97, 98, 115, 32, 116, 121, 112, 101, 111, 102, 32, 104, 101, 120, 32, 105, 102, 110, 117, 108, 108, 32, 105, 110, 115, 116, 114, 32, 115, 117, 98, 115, 116, 114, 32, 99, 111, 97, 108, 101, 115, 99, 101]
abbrev fNames : List (List UInt8) := K15.fnNames
theorem fFields : Lib.fields (sb fWords) = fNames := by decide +kernel
theorem fAscii : ∀ b ∈ sb fWords, b.toNat < 128 := by decide +kernel
theorem Func_spec {w : World} (hT : Tab w) (d : Int) :
    CallsV Tryd.prog 60 #[.int .i64 d] w fun r w' => r = .tuple #[.string (bs (nth fNames d).1), .bool (nth fNames d).2] ∧ Ext w w' := by
  refine code_Func.calls okay ?_
  unfold code_Func.W
  refine (named_spec hT fWords (by decide) fAscii d).mono ?_
  rw [fFields]
  rintro _ w1 ⟨rfl, e⟩
  exact ⟨_, _, rfl, rfl, e⟩
theorem Known_spec (w : World) (n : List UInt8) (c : Int) : CallsV Tryd.prog 61 #[.string (bs n), .int .i64 c] w fun r w' => r = .bool (knownF n c) ∧ w' = w := by
  refine value_Known.calls okay ?_
  unfold value_Known.W knownF
  refine ⟨fun x u => x = decide (n = [108, 101, 110, 103, 116, 104] ∨ n = [117, 112, 112, 101, 114] ∨ n = [108, 111, 119, 101, 114] ∨ n = [97, 98, 115] ∨ n = [116, 121, 112, 101, 111, 102] ∨ n = [104, 101, 120]) ∧ u = w, ?_, ?_⟩
  · rintro x u ⟨rfl, hu⟩
    obtain rfl : w = u := hu.symm
    by_cases h1 : n = [108, 101, 110, 103, 116, 104] ∨ n = [117, 112, 112, 101, 114] ∨ n = [108, 111, 119, 101, 114] ∨ n = [97, 98, 115] ∨ n = [116, 121, 112, 101, 111, 102] ∨ n = [104, 101, 120]
    · rw [decide_eq_true h1, cond_true, if_pos h1]; exact ⟨rfl, rfl⟩
    · rw [decide_eq_false h1, cond_false, if_neg h1]
      refine ⟨fun x u => x = decide (n = [105, 102, 110, 117, 108, 108] ∨ n = [105, 110, 115, 116, 114]) ∧ u = w, ?_, ?_⟩
      · rintro x u ⟨rfl, hu⟩
        obtain rfl : w = u := hu.symm
        by_cases h2 : n = [105, 102, 110, 117, 108, 108] ∨ n = [105, 110, 115, 116, 114]
        · rw [decide_eq_true h2, cond_true, if_pos h2]; exact ⟨rfl, rfl⟩
        · rw [decide_eq_false h2, cond_false, if_neg h2]
          refine brS (fun h => ?_) (fun h => ?_)
          · rw [if_pos h]
            exact brd (fun h3 => ⟨by rw [decide_eq_true h3]; rfl, rfl⟩) (fun h3 => ⟨by rw [decide_eq_false h3]; rfl, rfl⟩)
          · rw [if_neg h]
            refine brS (fun h4 => ?_) (fun h4 => ?_)
            · rw [if_pos h4]
              exact brd (fun h3 => ⟨by rw [decide_eq_true h3]; rfl, rfl⟩) (fun h3 => ⟨by rw [decide_eq_false h3]; rfl, rfl⟩)
            · rw [if_neg h4]; exact ⟨rfl, rfl⟩
      · refine brS (fun h => ⟨?_, rfl⟩) (fun h => ⟨?_, rfl⟩)
        · exact (eq_str n [105, 102, 110, 117, 108, 108]).trans (by rw [decide_eq_true h, decide_eq_true (.inl h)])
        · refine (eq_str n [105, 110, 115, 116, 114]).trans ?_
          exact decide_eq_decide.2 ⟨.inr, fun q => q.resolve_left h⟩
  · have fin : ∀ {x : Bool} {p : Prop} [Decidable p], x = decide p → (p ↔ (n = [108, 101, 110, 103, 116, 104] ∨ n = [117, 112, 112, 101, 114] ∨ n = [108, 111, 119, 101, 114] ∨ n = [97, 98, 115] ∨ n = [116, 121, 112, 101, 111, 102] ∨ n = [104, 101, 120])) → x = decide (n = [108, 101, 110, 103, 116, 104] ∨ n = [117, 112, 112, 101, 114] ∨ n = [108, 111, 119, 101, 114] ∨ n = [97, 98, 115] ∨ n = [116, 121, 112, 101, 111, 102] ∨ n = [104, 101, 120]) := fun h1 h2 => by rw [h1]; exact decide_eq_decide.2 h2
    refine brS (fun h => ⟨fin (eq_str n _) ⟨fun q => .inl q, fun _ => h⟩, rfl⟩) (fun h1 => ?_)
    refine brS (fun h => ⟨fin (eq_str n _) ⟨fun q => .inr (.inl q), fun _ => h⟩, rfl⟩) (fun h2 => ?_)
    refine brS (fun h => ⟨fin (eq_str n _) ⟨fun q => .inr (.inr (.inl q)), fun _ => h⟩, rfl⟩) (fun h3 => ?_)
    refine brS (fun h => ⟨fin (eq_str n _) ⟨fun q => .inr (.inr (.inr (.inl q))), fun _ => h⟩, rfl⟩) (fun h4 => ?_)
    refine brS (fun h => ⟨fin (eq_str n _) ⟨fun q => .inr (.inr (.inr (.inr (.inl q)))), fun _ => h⟩, rfl⟩) (fun h5 => ?_)
    refine ⟨fin (eq_str n _) ⟨fun q => .inr (.inr (.inr (.inr (.inr q)))), fun q => ?_⟩, rfl⟩
    rcases q with q | q | q | q | q | q
    · exact absurd q h1
    · exact absurd q h2
    · exact absurd q h3
    · exact absurd q h4
    · exact absurd q h5
    · exact q
end Go.Proofs.YtaifphjenebgoaaDoor
/- Layer 15 (code): what an instruction has. -/
set_option linter.unusedVariables false
set_option linter.unusedSimpArgs false
namespace Go.Proofs.YtaifphjenebgoaaDoor
open Go Go.Sx R1 K15
def shapeV (l : List UInt8) : Value := .agg #[.string (bs l)]
theorem look_get (o : Int) : ∀ l : List (Int × List UInt8), (getM (l.map fun p => (p.1, shapeV p.2)) o).getD (.agg #[.string (ByteArray.mk #[])]) = shapeV (lookS l o)
  | [] => rfl
  | (k, x) :: r => by
    rw [List.map_cons, getM, lookS]
    split
    · rfl
    · exact look_get o r
theorem upd_step {kt et t : TypeId} {d : TypeDesc} {q : IntKind} (F : KeyF Tryd.prog kt d (fun a : Int => Value.int q a)) (ht : und Tryd.prog t = some (.map kt et)) {w0 w : World} {b : Nat} {l : List (Int × Value)} {a : Int} {v : Value} {Kp : World → Prop}
    (hb : w0.heap.size ≤ b) (hm : MapK (fun a : Int => Value.int q a) w b l ∧ Ext w0 w) (h : ∀ w', MapK (fun a : Int => Value.int q a) w' b (setM l a v) ∧ Ext w0 w' → Kp w') :
    ∃ w', RunsTo Tryd.prog (Instr.mapUpdate t (.map (some b)) (.int q a) v) w () w' ∧ Kp w' := by
  obtain ⟨w', hr, hm', hf⟩ := hm.1.update F ht a v
  exact ⟨w', hr, h w' ⟨hm', hm.2.trans hf (fun _ _ h => h) (fun k hk e => by omega)⟩⟩
set_option maxRecDepth 10000 in
theorem shape_spec (w : World) (o : Int) : CallsV Tryd.prog 19 #[.int .u8 o] w fun r w' => r = .string (bs (shapeP o)) ∧ Ext w w' := by
  refine code_shape.calls okay ?_
  unfold code_shape.W
  have F : KeyF Tryd.prog 36 (.int .u8) (fun a : Int => Value.int .u8 a) := keyInt (by kernel_rfl)
  have hT : und Tryd.prog 93 = some (.map 36 92) := by kernel_rfl
  refine ⟨_, _, makeMap_run _ _, ?_⟩
  have hm : MapK (fun a : Int => Value.int .u8 a) (w.alloc (.map #[] 0)) w.heap.size [] ∧ Ext w (w.alloc (.map #[] 0)) := ⟨MapK.new _ _, Fr.alloc NoB _ _⟩
  generalize w.alloc (.map #[] 0) = w1 at *
  iterate 35 (refine upd_step F hT (Nat.le_refl _) hm ?_; clear hm; intro w1 hm)
  have hl : ∀ {x}, MapK (fun a : Int => Value.int .u8 a) w1 w.heap.size x ∧ Ext w w1 → x = shapes.map (fun p => (p.1, shapeV p.2)) → MapK (fun a : Int => Value.int .u8 a) w1 w.heap.size (shapes.map fun p => (p.1, shapeV p.2)) := fun h e => by rw [← e]; exact h.1
  have hM := hl hm (by kernel_rfl)
  obtain ⟨_, hr⟩ := hM.look F hT o (z := .agg #[.string (ByteArray.mk #[])]) (fun w => by kernel_rfl)
  rw [look_get] at hr
  exact ⟨_, _, hr, rfl, hm.2⟩
end Go.Proofs.YtaifphjenebgoaaDoor
/- The preconditions of Go functions, printed by a program of this workplace (nests.py); each is proved to be the engine's own. -/
set_option linter.unusedVariables false
set_option maxRecDepth 100000
namespace Go.Proofs.YtaifphjenebgoaaDoor
open Go Go.Sx
noncomputable def code_field_2.W : Value → Addr → Addr → Addr → World → (Value → World → Prop) → Prop := fun (okx : Go.Value) (a1 a2 a3 : Go.Addr) (w : Go.World) (K : Go.Value → Go.World → Prop) =>
 Go.Sx.cellsL okx = [okx] ∧ ∀ (g : Nat) (w' : Go.World), Go.Sx.Fresh w g w' [okx] (81 : Nat) → K (Go.Value.func (Go.Fn.func (50 : Nat)) #[] #[Go.Value.pointer (Option.some a1), Go.Value.pointer
 (Option.some a2), Go.Value.pointer (Option.some (Go.Addr.mk g (0 : Nat) Option.none)), Go.Value.pointer (Option.some a3)]) w'
theorem code_field_2.eq (okx : Value) (a1 : Addr) (a2 : Addr) (a3 : Addr) (w : World) (K : Value → World → Prop) : code_field_2.W okx a1 a2 a3 w K = fnW Tryd.prog Tryd.f49 (.named (.named .auto)) [okx, .pointer (some a1), .pointer (some a2), .pointer (some a3)] w K := by kernel_rfl
theorem code_field_2.calls (ok : Okay Tryd.prog) {okx : Value} {a1 : Addr} {a2 : Addr} {a3 : Addr} {w : World} {K : Value → World → Prop} (h : code_field_2.W okx a1 a2 a3 w K) : CallsV Tryd.prog 49 #[okx, .pointer (some a1), .pointer (some a2), .pointer (some a3)] w K :=
  fnW_calls ok Tryd.func49 (an := (.named (.named .auto))) (args := [okx, .pointer (some a1), .pointer (some a2), .pointer (some a3)]) (by rw [← code_field_2.eq]; exact h)
noncomputable def code_field_2_1.W : Addr → Addr → Addr → Addr → World → (Value → World → Prop) → Prop := fun (a0 a1 a2 a3 : Go.Addr) (w : Go.World) (K : Go.Value → Go.World → Prop) => ∃ (S : Go.World
 → Prop), S (Go.World.drew w) ∧ ∃ (x : Go.Value), (∀ (u : Go.World), S u → Go.World.cell? u a0 = Option.some x) ∧ ∃ (x_1 : Option Go.Addr), ∃ (x_2 : Nat), ∃ (x_3 : Nat), (∀ (u : Go.World), S u →
 Go.World.cell? u (Go.Addr.add a1 (5 : Nat)) = Option.some (Go.Value.slice x_1 x_2 x_3)) ∧ ∃ (fid : Nat), ∃ (first : Array Go.Value), ∃ (captured : Array Go.Value), x = Go.Value.func (Go.Fn.func fid)
 first captured ∧ Go.Sx.bodied Go.Proofs.Tryd.prog fid = Bool.true ∧ Go.Sx.CallsV Go.Proofs.Tryd.prog fid (List.toArray (Array.toList first ++ ([Go.Value.int Go.IntKind.i64 (↑x_2 : Int)] ++ Array.toList
 captured))) (Go.World.drew w) fun (r : Go.Value) (w' : Go.World) => ∃ (x : Go.Value), r = x ∧ S w' ∧ ∃ (fid : Nat), ∃ (first : Array Go.Value), ∃ (captured : Array Go.Value), x = Go.Value.func
 (Go.Fn.func fid) first captured ∧ Go.Sx.bodied Go.Proofs.Tryd.prog fid = Bool.true ∧ Go.Sx.CallsV Go.Proofs.Tryd.prog fid (List.toArray (Array.toList first ++ ([] ++ Array.toList captured))) w' fun (r
 : Go.Value) (w' : Go.World) => ∃ (x : Bool), r = Go.Value.bool x ∧ S w' ∧ bif x then ∃ (S_1 : Go.World → Prop), S_1 w' ∧ ∃ (x : Go.Value), (∀ (u : Go.World), S_1 u → Go.World.cell? u a2 = Option.some
 x) ∧ ∃ (x_4 : Option Go.Addr), ∃ (x_5 : Nat), ∃ (x_6 : Nat), (∀ (u : Go.World), S_1 u → Go.World.cell? u (Go.Addr.add a1 (5 : Nat)) = Option.some (Go.Value.slice x_4 x_5 x_6)) ∧ ∃ (x_7 : Int), (∀ (u :
 Go.World), S_1 u → Go.World.cell? u a3 = Option.some (Go.Value.int Go.IntKind.i64 x_7)) ∧ ∃ (ad : Go.Addr), x_4 = Option.some ad ∧ ((0 : Int) ≤ x_7 ∧ x_7 < (↑x_5 : Int)) ∧ ∃ (x_8 : ByteArray), (∀ (u :
 Go.World), S_1 u → Go.World.cell? u (Go.Addr.add (Go.Addr.add ad (Int.toNat x_7 * (3 : Nat))) (0 : Nat)) = Option.some (Go.Value.string x_8)) ∧ ∃ (x_9 : Bool), (∀ (u : Go.World), S_1 u → Go.World.cell?
 u (Go.Addr.add (Go.Addr.add ad (Int.toNat x_7 * (3 : Nat))) (1 : Nat)) = Option.some (Go.Value.bool x_9)) ∧ ∃ (x_10 : Bool), (∀ (u : Go.World), S_1 u → Go.World.cell? u (Go.Addr.add (Go.Addr.add ad
 (Int.toNat x_7 * (3 : Nat))) (2 : Nat)) = Option.some (Go.Value.bool x_10)) ∧ ∃ (fid : Nat), ∃ (first : Array Go.Value), ∃ (captured : Array Go.Value), x = Go.Value.func (Go.Fn.func fid) first captured
 ∧ Go.Sx.bodied Go.Proofs.Tryd.prog fid = Bool.true ∧ Go.Sx.CallsV Go.Proofs.Tryd.prog fid (List.toArray (Array.toList first ++ ([Go.Value.agg #[Go.Value.string x_8, Go.Value.bool x_9, Go.Value.bool
 x_10]] ++ Array.toList captured))) w' fun (r : Go.Value) (w' : Go.World) => ∃ (x : Bool), r = Go.Value.bool x ∧ S_1 w' ∧ S w' ∧ K (Go.Value.bool x) w' else K (Go.Value.bool Bool.false) w'
theorem code_field_2_1.eq (a0 : Addr) (a1 : Addr) (a2 : Addr) (a3 : Addr) (w : World) (K : Value → World → Prop) : code_field_2_1.W a0 a1 a2 a3 w K = fnW Tryd.prog Tryd.f50 (.named (.named .auto)) [.pointer (some a0), .pointer (some a1), .pointer (some a2), .pointer (some a3)] w K := by kernel_rfl
theorem code_field_2_1.calls (ok : Okay Tryd.prog) {a0 : Addr} {a1 : Addr} {a2 : Addr} {a3 : Addr} {w : World} {K : Value → World → Prop} (h : code_field_2_1.W a0 a1 a2 a3 w K) : CallsV Tryd.prog 50 #[.pointer (some a0), .pointer (some a1), .pointer (some a2), .pointer (some a3)] w K :=
  fnW_calls ok Tryd.func50 (an := (.named (.named .auto))) (args := [.pointer (some a0), .pointer (some a1), .pointer (some a2), .pointer (some a3)]) (by rw [← code_field_2_1.eq]; exact h)
noncomputable def code_field_10.W : Addr → Addr → Addr → World → (Value → World → Prop) → Prop := fun (a0 a1 a2 : Go.Addr) (w : Go.World) (K : Go.Value → Go.World → Prop) => ∃ (x : Go.Value),
 Go.World.cell? w a0 = Option.some x ∧ ∃ (x_1 : Option Go.Addr), ∃ (x_2 : Nat), ∃ (x_3 : Nat), Go.World.cell? w (Go.Addr.add a1 (4 : Nat)) = Option.some (Go.Value.slice x_1 x_2 x_3) ∧ ∃ (fid : Nat), ∃
 (first : Array Go.Value), ∃ (captured : Array Go.Value), x = Go.Value.func (Go.Fn.func fid) first captured ∧ Go.Sx.bodied Go.Proofs.Tryd.prog fid = Bool.true ∧ Go.Sx.CallsV Go.Proofs.Tryd.prog fid
 (List.toArray (Array.toList first ++ ([Go.Value.int Go.IntKind.i64 (↑x_2 : Int)] ++ Array.toList captured))) w fun (r : Go.Value) (w' : Go.World) => ∃ (x : Go.Value), r = x ∧ ∃ (fid : Nat), ∃ (first :
 Array Go.Value), ∃ (captured : Array Go.Value), x = Go.Value.func (Go.Fn.func fid) first captured ∧ Go.Sx.bodied Go.Proofs.Tryd.prog fid = Bool.true ∧ Go.Sx.CallsV Go.Proofs.Tryd.prog fid (List.toArray
 (Array.toList first ++ ([] ++ Array.toList captured))) w' fun (r : Go.Value) (w' : Go.World) => ∃ (x : Bool), r = Go.Value.bool x ∧ bif x then ∃ (x : Option Go.Addr), ∃ (x_4 : Nat), ∃ (x_5 : Nat),
 Go.World.cell? w' (Go.Addr.add a1 (4 : Nat)) = Option.some (Go.Value.slice x x_4 x_5) ∧ ∃ (x_6 : Int), Go.World.cell? w' a2 = Option.some (Go.Value.int Go.IntKind.i64 x_6) ∧ ∃ (ad : Go.Addr), x =
 Option.some ad ∧ ((0 : Int) ≤ x_6 ∧ x_6 < (↑x_4 : Int)) ∧ ∃ (x : Int), Go.World.cell? w' (Go.Addr.add (Go.Addr.add ad (Int.toNat x_6 * (3 : Nat))) (0 : Nat)) = Option.some (Go.Value.int Go.IntKind.u8
 x) ∧ K (Go.Value.bool (Decidable.decide (x = (2 : Int)))) w' else K (Go.Value.bool Bool.false) w'
theorem code_field_10.eq (a0 : Addr) (a1 : Addr) (a2 : Addr) (w : World) (K : Value → World → Prop) : code_field_10.W a0 a1 a2 w K = fnW Tryd.prog Tryd.f58 (.named (.named .auto)) [.pointer (some a0), .pointer (some a1), .pointer (some a2)] w K := by kernel_rfl
theorem code_field_10.calls (ok : Okay Tryd.prog) {a0 : Addr} {a1 : Addr} {a2 : Addr} {w : World} {K : Value → World → Prop} (h : code_field_10.W a0 a1 a2 w K) : CallsV Tryd.prog 58 #[.pointer (some a0), .pointer (some a1), .pointer (some a2)] w K :=
  fnW_calls ok Tryd.func58 (an := (.named (.named .auto))) (args := [.pointer (some a0), .pointer (some a1), .pointer (some a2)]) (by rw [← code_field_10.eq]; exact h)
noncomputable def code_field.W : Int → Int → Int → Option Addr → Nat → Nat → Option Addr → Nat → Nat → Option Addr → Nat → Nat → Option Addr → Nat → Nat → Option Addr → Nat → Nat → Option Addr → Nat →
 Nat → Int → Int → Int → World → (Value → World → Prop) → Prop := fun (p0 p1 p2 : Int) (p3_A : Option Go.Addr) (p3_n p3_c : Nat) (p4_A : Option Go.Addr) (p4_n p4_c : Nat) (p5_A : Option Go.Addr) (p5_n
 p5_c : Nat) (p6_A : Option Go.Addr) (p6_n p6_c : Nat) (p7_A : Option Go.Addr) (p7_n p7_c : Nat) (p8_A : Option Go.Addr) (p8_n p8_c : Nat) (atx letter n : Int) (w : Go.World) (K : Go.Value → Go.World →
 Prop) => ∀ (g : Nat) (w' : Go.World), Go.Sx.Fresh w g w' [Go.Value.int Go.IntKind.i64 p0, Go.Value.int Go.IntKind.i64 p1, Go.Value.int Go.IntKind.i64 p2, Go.Value.slice p3_A p3_n p3_c, Go.Value.slice
 p4_A p4_n p4_c, Go.Value.slice p5_A p5_n p5_c, Go.Value.slice p6_A p6_n p6_c, Go.Value.slice p7_A p7_n p7_c, Go.Value.slice p8_A p8_n p8_c] (29 : Nat) → ∀ (g_1 : Nat) (w'_1 : Go.World), Go.Sx.Fresh w'
 g_1 w'_1 [Go.Value.int Go.IntKind.i64 atx] (3 : Nat) → ∀ (g_2 : Nat) (w' : Go.World), Go.Sx.Fresh w'_1 g_2 w' [Go.Value.int Go.IntKind.i64 n] (3 : Nat) → ∀ (g_3 : Nat) (w'_2 : Go.World), Go.Sx.Fresh w'
 g_3 w'_2 [Go.Value.nilFunc] (94 : Nat) → Go.Sx.cellsL (Go.Value.func (Go.Fn.func (47 : Nat)) #[] #[Go.Value.pointer (Option.some (Go.Addr.mk g_2 (0 : Nat) Option.none))]) = [Go.Value.func (Go.Fn.func
 (47 : Nat)) #[] #[Go.Value.pointer (Option.some (Go.Addr.mk g_2 (0 : Nat) Option.none))]] ∧ Go.Value.oneCell' (Go.Value.func (Go.Fn.func (47 : Nat)) #[] #[Go.Value.pointer (Option.some (Go.Addr.mk g_2
 (0 : Nat) Option.none))]) = Bool.true ∧ Go.Sx.stOK (Go.Addr.mk g_3 (0 : Nat) Option.none) (0 : Nat) [Go.Value.func (Go.Fn.func (47 : Nat)) #[] #[Go.Value.pointer (Option.some (Go.Addr.mk g_2 (0 : Nat)
 Option.none))]] w'_2 ∧ ∀ (w' : Go.World), w' = Go.Sx.setAll (Go.Addr.mk g_3 (0 : Nat) Option.none) (0 : Nat) [Go.Value.func (Go.Fn.func (47 : Nat)) #[] #[Go.Value.pointer (Option.some (Go.Addr.mk g_2
 (0 : Nat) Option.none))]] w'_2 → ∃ (S : Go.World → Prop), S (Go.World.drew w') ∧ ∃ (x : Go.Value), (∀ (u : Go.World), S u → Go.World.cell? u (Go.Addr.mk g_3 (0 : Nat) Option.none) = Option.some x) ∧ ∃
 (x_1 : Int), (∀ (u : Go.World), S u → Go.World.cell? u (Go.Addr.add (Go.Addr.mk g (0 : Nat) Option.none) (1 : Nat)) = Option.some (Go.Value.int Go.IntKind.i64 x_1)) ∧ ∃ (x_2 : Go.Value), (∀ (u :
 Go.World), S u → Go.World.cell? u (Go.Addr.mk g_3 (0 : Nat) Option.none) = Option.some x_2) ∧ ∃ (x_3 : Option Go.Addr), ∃ (x_4 : Nat), ∃ (x_5 : Nat), (∀ (u : Go.World), S u → Go.World.cell? u
 (Go.Addr.add (Go.Addr.mk g (0 : Nat) Option.none) (4 : Nat)) = Option.some (Go.Value.slice x_3 x_4 x_5)) ∧ ∃ (x_6 : Go.Value), (∀ (u : Go.World), S u → Go.World.cell? u (Go.Addr.mk g_3 (0 : Nat)
 Option.none) = Option.some x_6) ∧ ∃ (x_7 : Int), (∀ (u : Go.World), S u → Go.World.cell? u (Go.Addr.add (Go.Addr.mk g (0 : Nat) Option.none) (2 : Nat)) = Option.some (Go.Value.int Go.IntKind.i64 x_7))
 ∧ ∃ (x_8 : Go.Value), (∀ (u : Go.World), S u → Go.World.cell? u (Go.Addr.mk g_3 (0 : Nat) Option.none) = Option.some x_8) ∧ ∃ (x_9 : Option Go.Addr), ∃ (x_10 : Nat), ∃ (x_11 : Nat), (∀ (u : Go.World),
 S u → Go.World.cell? u (Go.Addr.add (Go.Addr.mk g (0 : Nat) Option.none) (6 : Nat)) = Option.some (Go.Value.slice x_9 x_10 x_11)) ∧ ∃ (x_12 : Go.Value), (∀ (u : Go.World), S u → Go.World.cell? u
 (Go.Addr.mk g_3 (0 : Nat) Option.none) = Option.some x_12) ∧ ∃ (x_13 : Option Go.Addr), ∃ (x_14 : Nat), ∃ (x_15 : Nat), (∀ (u : Go.World), S u → Go.World.cell? u (Go.Addr.add (Go.Addr.mk g (0 : Nat)
 Option.none) (7 : Nat)) = Option.some (Go.Value.slice x_13 x_14 x_15)) ∧ ∃ (x_16 : Go.Value), (∀ (u : Go.World), S u → Go.World.cell? u (Go.Addr.mk g_3 (0 : Nat) Option.none) = Option.some x_16) ∧ ∃
 (x_17 : Option Go.Addr), ∃ (x_18 : Nat), ∃ (x_19 : Nat), (∀ (u : Go.World), S u → Go.World.cell? u (Go.Addr.add (Go.Addr.mk g (0 : Nat) Option.none) (5 : Nat)) = Option.some (Go.Value.slice x_17 x_18
 x_19)) ∧ ∃ (x_20 : Go.Value), (∀ (u : Go.World), S u → Go.World.cell? u (Go.Addr.mk g_3 (0 : Nat) Option.none) = Option.some x_20) ∧ ∃ (x_21 : Go.Value), (∀ (u : Go.World), S u → Go.World.cell? u
 (Go.Addr.mk g_3 (0 : Nat) Option.none) = Option.some x_21) ∧ ∃ (x_22 : Go.Value), (∀ (u : Go.World), S u → Go.World.cell? u (Go.Addr.mk g_3 (0 : Nat) Option.none) = Option.some x_22) ∧ ∃ (x_23 :
 Go.Value), (∀ (u : Go.World), S u → Go.World.cell? u (Go.Addr.mk g_3 (0 : Nat) Option.none) = Option.some x_23) ∧ ∃ (G : (Nat → Bool) → (Nat → Go.Value) → Go.World → Prop), (∀ (ν : Nat → Go.Value), G
 (fun (x : Nat) => Bool.false) ν (Go.World.drew w')) ∧ (∀ (D : Nat → Bool) (ν : Nat → Go.Value) (w : Go.World), G D ν w → S w) ∧ ((∀ (D : Nat → Bool) (ν : Nat → Go.Value) (w : Go.World), G D ν w → D (0
 : Nat) = Bool.false → ∃ (x : Option Nat), ∃ (w' : Go.World), Go.Sx.RunsTo Go.Proofs.Tryd.prog (Go.Instr.makeMap (96 : Nat) Option.none) w (Go.Value.map x) w' ∧ G (Go.Sx.setD D (0 : Nat)) (Go.Sx.setNuV
 ν (Option.some (14 : Nat)) (Go.Value.map x)) w') ∧ (∀ (D : Nat → Bool) (ν : Nat → Go.Value) (w : Go.World), G D ν w → D (2 : Nat) = Bool.false → D (0 : Nat) = Bool.true → ∃ (x : Option Nat), ν (14 :
 Nat) = Go.Value.map x ∧ ∃ (w' : Go.World), Go.Sx.RunsTo Go.Proofs.Tryd.prog (Go.Instr.mapUpdate (96 : Nat) (Go.Value.map x) (Go.Value.int Go.IntKind.u8 (45 : Int)) (Go.Value.func (Go.Fn.func (51 :
 Nat)) #[] #[Go.Value.pointer (Option.some (Go.Addr.mk g_2 (0 : Nat) Option.none))])) w () w' ∧ G (Go.Sx.setD D (2 : Nat)) (Go.Sx.setNuV ν Option.none Go.undef) w') ∧ (∀ (D : Nat → Bool) (ν : Nat →
 Go.Value) (w : Go.World), G D ν w → D (6 : Nat) = Bool.false → ∃ (fid : Nat), ∃ (first : Array Go.Value), ∃ (captured : Array Go.Value), x = Go.Value.func (Go.Fn.func fid) first captured ∧ Go.Sx.bodied
 Go.Proofs.Tryd.prog fid = Bool.true ∧ Go.Sx.CallsV Go.Proofs.Tryd.prog fid (List.toArray (Array.toList first ++ ([Go.Value.int Go.IntKind.i64 x_1] ++ Array.toList captured))) w fun (r : Go.Value) (w' :
 Go.World) => ∃ (x : Go.Value), r = x ∧ G (Go.Sx.setD D (6 : Nat)) (Go.Sx.setNuV ν (Option.some (19 : Nat)) x) w') ∧ (∀ (D : Nat → Bool) (ν : Nat → Go.Value) (w : Go.World), G D ν w → D (7 : Nat) =
 Bool.false → D (0 : Nat) = Bool.true → D (6 : Nat) = Bool.true → ∃ (x : Option Nat), ν (14 : Nat) = Go.Value.map x ∧ ∃ (w' : Go.World), Go.Sx.RunsTo Go.Proofs.Tryd.prog (Go.Instr.mapUpdate (96 : Nat)
 (Go.Value.map x) (Go.Value.int Go.IntKind.u8 (114 : Int)) (ν (19 : Nat))) w () w' ∧ G (Go.Sx.setD D (7 : Nat)) (Go.Sx.setNuV ν Option.none Go.undef) w') ∧ (∀ (D : Nat → Bool) (ν : Nat → Go.Value) (w :
 Go.World), G D ν w → D (12 : Nat) = Bool.false → D (6 : Nat) = Bool.true → ∃ (fid : Nat), ∃ (first : Array Go.Value), ∃ (captured : Array Go.Value), x_2 = Go.Value.func (Go.Fn.func fid) first captured
 ∧ Go.Sx.bodied Go.Proofs.Tryd.prog fid = Bool.true ∧ Go.Sx.CallsV Go.Proofs.Tryd.prog fid (List.toArray (Array.toList first ++ ([Go.Value.int Go.IntKind.i64 (↑x_4 : Int)] ++ Array.toList captured))) w
 fun (r : Go.Value) (w' : Go.World) => ∃ (x : Go.Value), r = x ∧ G (Go.Sx.setD D (12 : Nat)) (Go.Sx.setNuV ν (Option.some (24 : Nat)) x) w') ∧ (∀ (D : Nat → Bool) (ν : Nat → Go.Value) (w : Go.World), G
 D ν w → D (13 : Nat) = Bool.false → D (0 : Nat) = Bool.true → D (12 : Nat) = Bool.true → ∃ (x : Option Nat), ν (14 : Nat) = Go.Value.map x ∧ ∃ (w' : Go.World), Go.Sx.RunsTo Go.Proofs.Tryd.prog
 (Go.Instr.mapUpdate (96 : Nat) (Go.Value.map x) (Go.Value.int Go.IntKind.u8 (107 : Int)) (ν (24 : Nat))) w () w' ∧ G (Go.Sx.setD D (13 : Nat)) (Go.Sx.setNuV ν Option.none Go.undef) w') ∧ (∀ (D : Nat →
 Bool) (ν : Nat → Go.Value) (w : Go.World), G D ν w → D (17 : Nat) = Bool.false → D (12 : Nat) = Bool.true → ∃ (fid : Nat), ∃ (first : Array Go.Value), ∃ (captured : Array Go.Value), x_6 = Go.Value.func
 (Go.Fn.func fid) first captured ∧ Go.Sx.bodied Go.Proofs.Tryd.prog fid = Bool.true ∧ Go.Sx.CallsV Go.Proofs.Tryd.prog fid (List.toArray (Array.toList first ++ ([Go.Value.int Go.IntKind.i64 x_7] ++
 Array.toList captured))) w fun (r : Go.Value) (w' : Go.World) => ∃ (x : Go.Value), r = x ∧ G (Go.Sx.setD D (17 : Nat)) (Go.Sx.setNuV ν (Option.some (28 : Nat)) x) w') ∧ (∀ (D : Nat → Bool) (ν : Nat →
 Go.Value) (w : Go.World), G D ν w → D (18 : Nat) = Bool.false → D (0 : Nat) = Bool.true → D (17 : Nat) = Bool.true → ∃ (x : Option Nat), ν (14 : Nat) = Go.Value.map x ∧ ∃ (w' : Go.World), Go.Sx.RunsTo
 Go.Proofs.Tryd.prog (Go.Instr.mapUpdate (96 : Nat) (Go.Value.map x) (Go.Value.int Go.IntKind.u8 (98 : Int)) (ν (28 : Nat))) w () w' ∧ G (Go.Sx.setD D (18 : Nat)) (Go.Sx.setNuV ν Option.none Go.undef)
 w') ∧ (∀ (D : Nat → Bool) (ν : Nat → Go.Value) (w : Go.World), G D ν w → D (23 : Nat) = Bool.false → D (17 : Nat) = Bool.true → ∃ (fid : Nat), ∃ (first : Array Go.Value), ∃ (captured : Array Go.Value),
 x_8 = Go.Value.func (Go.Fn.func fid) first captured ∧ Go.Sx.bodied Go.Proofs.Tryd.prog fid = Bool.true ∧ Go.Sx.CallsV Go.Proofs.Tryd.prog fid (List.toArray (Array.toList first ++ ([Go.Value.int
 Go.IntKind.i64 (↑x_10 : Int)] ++ Array.toList captured))) w fun (r : Go.Value) (w' : Go.World) => ∃ (x : Go.Value), r = x ∧ G (Go.Sx.setD D (23 : Nat)) (Go.Sx.setNuV ν (Option.some (33 : Nat)) x) w') ∧
 (∀ (D : Nat → Bool) (ν : Nat → Go.Value) (w : Go.World), G D ν w → D (24 : Nat) = Bool.false → D (0 : Nat) = Bool.true → D (23 : Nat) = Bool.true → ∃ (x : Option Nat), ν (14 : Nat) = Go.Value.map x ∧ ∃
 (w' : Go.World), Go.Sx.RunsTo Go.Proofs.Tryd.prog (Go.Instr.mapUpdate (96 : Nat) (Go.Value.map x) (Go.Value.int Go.IntKind.u8 (115 : Int)) (ν (33 : Nat))) w () w' ∧ G (Go.Sx.setD D (24 : Nat))
 (Go.Sx.setNuV ν Option.none Go.undef) w') ∧ (∀ (D : Nat → Bool) (ν : Nat → Go.Value) (w : Go.World), G D ν w → D (29 : Nat) = Bool.false → D (23 : Nat) = Bool.true → ∃ (fid : Nat), ∃ (first : Array
 Go.Value), ∃ (captured : Array Go.Value), x_12 = Go.Value.func (Go.Fn.func fid) first captured ∧ Go.Sx.bodied Go.Proofs.Tryd.prog fid = Bool.true ∧ Go.Sx.CallsV Go.Proofs.Tryd.prog fid (List.toArray
 (Array.toList first ++ ([Go.Value.int Go.IntKind.i64 (↑x_14 : Int)] ++ Array.toList captured))) w fun (r : Go.Value) (w' : Go.World) => ∃ (x : Go.Value), r = x ∧ G (Go.Sx.setD D (29 : Nat))
 (Go.Sx.setNuV ν (Option.some (38 : Nat)) x) w') ∧ (∀ (D : Nat → Bool) (ν : Nat → Go.Value) (w : Go.World), G D ν w → D (30 : Nat) = Bool.false → D (0 : Nat) = Bool.true → D (29 : Nat) = Bool.true → ∃
 (x : Option Nat), ν (14 : Nat) = Go.Value.map x ∧ ∃ (w' : Go.World), Go.Sx.RunsTo Go.Proofs.Tryd.prog (Go.Instr.mapUpdate (96 : Nat) (Go.Value.map x) (Go.Value.int Go.IntKind.u8 (116 : Int)) (ν (38 :
 Nat))) w () w' ∧ G (Go.Sx.setD D (30 : Nat)) (Go.Sx.setNuV ν Option.none Go.undef) w') ∧ (∀ (D : Nat → Bool) (ν : Nat → Go.Value) (w : Go.World), G D ν w → D (35 : Nat) = Bool.false → D (29 : Nat) =
 Bool.true → ∃ (fid : Nat), ∃ (first : Array Go.Value), ∃ (captured : Array Go.Value), x_16 = Go.Value.func (Go.Fn.func fid) first captured ∧ Go.Sx.bodied Go.Proofs.Tryd.prog fid = Bool.true ∧
 Go.Sx.CallsV Go.Proofs.Tryd.prog fid (List.toArray (Array.toList first ++ ([Go.Value.int Go.IntKind.i64 (↑x_18 : Int)] ++ Array.toList captured))) w fun (r : Go.Value) (w' : Go.World) => ∃ (x :
 Go.Value), r = x ∧ G (Go.Sx.setD D (35 : Nat)) (Go.Sx.setNuV ν (Option.some (43 : Nat)) x) w') ∧ (∀ (D : Nat → Bool) (ν : Nat → Go.Value) (w : Go.World), G D ν w → D (36 : Nat) = Bool.false → D (0 :
 Nat) = Bool.true → D (35 : Nat) = Bool.true → ∃ (x : Option Nat), ν (14 : Nat) = Go.Value.map x ∧ ∃ (w' : Go.World), Go.Sx.RunsTo Go.Proofs.Tryd.prog (Go.Instr.mapUpdate (96 : Nat) (Go.Value.map x)
 (Go.Value.int Go.IntKind.u8 (99 : Int)) (ν (43 : Nat))) w () w' ∧ G (Go.Sx.setD D (36 : Nat)) (Go.Sx.setNuV ν Option.none Go.undef) w') ∧ (∀ (D : Nat → Bool) (ν : Nat → Go.Value) (w : Go.World), G D ν
 w → D (38 : Nat) = Bool.false → D (35 : Nat) = Bool.true → ∃ (fid : Nat), ∃ (first : Array Go.Value), ∃ (captured : Array Go.Value), x_20 = Go.Value.func (Go.Fn.func fid) first captured ∧ Go.Sx.bodied
 Go.Proofs.Tryd.prog fid = Bool.true ∧ Go.Sx.CallsV Go.Proofs.Tryd.prog fid (List.toArray (Array.toList first ++ ([Go.Value.int Go.IntKind.i64 (15 : Int)] ++ Array.toList captured))) w fun (r :
 Go.Value) (w' : Go.World) => ∃ (x : Go.Value), r = x ∧ G (Go.Sx.setD D (38 : Nat)) (Go.Sx.setNuV ν (Option.some (45 : Nat)) x) w') ∧ (∀ (D : Nat → Bool) (ν : Nat → Go.Value) (w : Go.World), G D ν w → D
 (39 : Nat) = Bool.false → D (0 : Nat) = Bool.true → D (38 : Nat) = Bool.true → ∃ (x : Option Nat), ν (14 : Nat) = Go.Value.map x ∧ ∃ (w' : Go.World), Go.Sx.RunsTo Go.Proofs.Tryd.prog
 (Go.Instr.mapUpdate (96 : Nat) (Go.Value.map x) (Go.Value.int Go.IntKind.u8 (50 : Int)) (ν (45 : Nat))) w () w' ∧ G (Go.Sx.setD D (39 : Nat)) (Go.Sx.setNuV ν Option.none Go.undef) w') ∧ (∀ (D : Nat →
 Bool) (ν : Nat → Go.Value) (w : Go.World), G D ν w → D (41 : Nat) = Bool.false → D (38 : Nat) = Bool.true → ∃ (fid : Nat), ∃ (first : Array Go.Value), ∃ (captured : Array Go.Value), x_21 =
 Go.Value.func (Go.Fn.func fid) first captured ∧ Go.Sx.bodied Go.Proofs.Tryd.prog fid = Bool.true ∧ Go.Sx.CallsV Go.Proofs.Tryd.prog fid (List.toArray (Array.toList first ++ ([Go.Value.int
 Go.IntKind.i64 (2 : Int)] ++ Array.toList captured))) w fun (r : Go.Value) (w' : Go.World) => ∃ (x : Go.Value), r = x ∧ G (Go.Sx.setD D (41 : Nat)) (Go.Sx.setNuV ν (Option.some (47 : Nat)) x) w') ∧ (∀
 (D : Nat → Bool) (ν : Nat → Go.Value) (w : Go.World), G D ν w → D (42 : Nat) = Bool.false → D (0 : Nat) = Bool.true → D (41 : Nat) = Bool.true → ∃ (x : Option Nat), ν (14 : Nat) = Go.Value.map x ∧ ∃
 (w' : Go.World), Go.Sx.RunsTo Go.Proofs.Tryd.prog (Go.Instr.mapUpdate (96 : Nat) (Go.Value.map x) (Go.Value.int Go.IntKind.u8 (49 : Int)) (ν (47 : Nat))) w () w' ∧ G (Go.Sx.setD D (42 : Nat))
 (Go.Sx.setNuV ν Option.none Go.undef) w') ∧ (∀ (D : Nat → Bool) (ν : Nat → Go.Value) (w : Go.World), G D ν w → D (44 : Nat) = Bool.false → D (41 : Nat) = Bool.true → ∃ (fid : Nat), ∃ (first : Array
 Go.Value), ∃ (captured : Array Go.Value), x_22 = Go.Value.func (Go.Fn.func fid) first captured ∧ Go.Sx.bodied Go.Proofs.Tryd.prog fid = Bool.true ∧ Go.Sx.CallsV Go.Proofs.Tryd.prog fid (List.toArray
 (Array.toList first ++ ([Go.Value.int Go.IntKind.i64 (10 : Int)] ++ Array.toList captured))) w fun (r : Go.Value) (w' : Go.World) => ∃ (x : Go.Value), r = x ∧ G (Go.Sx.setD D (44 : Nat)) (Go.Sx.setNuV
 ν (Option.some (49 : Nat)) x) w') ∧ (∀ (D : Nat → Bool) (ν : Nat → Go.Value) (w : Go.World), G D ν w → D (45 : Nat) = Bool.false → D (0 : Nat) = Bool.true → D (44 : Nat) = Bool.true → ∃ (x : Option
 Nat), ν (14 : Nat) = Go.Value.map x ∧ ∃ (w' : Go.World), Go.Sx.RunsTo Go.Proofs.Tryd.prog (Go.Instr.mapUpdate (96 : Nat) (Go.Value.map x) (Go.Value.int Go.IntKind.u8 (102 : Int)) (ν (49 : Nat))) w ()
 w' ∧ G (Go.Sx.setD D (45 : Nat)) (Go.Sx.setNuV ν Option.none Go.undef) w') ∧ (∀ (D : Nat → Bool) (ν : Nat → Go.Value) (w : Go.World), G D ν w → D (47 : Nat) = Bool.false → D (44 : Nat) = Bool.true → ∃
 (fid : Nat), ∃ (first : Array Go.Value), ∃ (captured : Array Go.Value), x_23 = Go.Value.func (Go.Fn.func fid) first captured ∧ Go.Sx.bodied Go.Proofs.Tryd.prog fid = Bool.true ∧ Go.Sx.CallsV
 Go.Proofs.Tryd.prog fid (List.toArray (Array.toList first ++ ([Go.Value.int Go.IntKind.i64 (60 : Int)] ++ Array.toList captured))) w fun (r : Go.Value) (w' : Go.World) => ∃ (x : Go.Value), r = x ∧ G
 (Go.Sx.setD D (47 : Nat)) (Go.Sx.setNuV ν (Option.some (51 : Nat)) x) w') ∧ (∀ (D : Nat → Bool) (ν : Nat → Go.Value) (w : Go.World), G D ν w → D (48 : Nat) = Bool.false → D (0 : Nat) = Bool.true → D
 (47 : Nat) = Bool.true → ∃ (x : Option Nat), ν (14 : Nat) = Go.Value.map x ∧ ∃ (w' : Go.World), Go.Sx.RunsTo Go.Proofs.Tryd.prog (Go.Instr.mapUpdate (96 : Nat) (Go.Value.map x) (Go.Value.int
 Go.IntKind.u8 (120 : Int)) (ν (51 : Nat))) w () w' ∧ G (Go.Sx.setD D (48 : Nat)) (Go.Sx.setNuV ν Option.none Go.undef) w') ∧ (∀ (D : Nat → Bool) (ν : Nat → Go.Value) (w : Go.World), G D ν w → D (50 :
 Nat) = Bool.false → D (0 : Nat) = Bool.true → ∃ (x : Option Nat), ν (14 : Nat) = Go.Value.map x ∧ ∃ (w' : Go.World), Go.Sx.RunsTo Go.Proofs.Tryd.prog (Go.Instr.mapUpdate (96 : Nat) (Go.Value.map x)
 (Go.Value.int Go.IntKind.u8 (106 : Int)) (Go.Value.func (Go.Fn.func (52 : Nat)) #[] #[Go.Value.pointer (Option.some (Go.Addr.mk g_2 (0 : Nat) Option.none)), Go.Value.pointer (Option.some (Go.Addr.mk
 g_1 (0 : Nat) Option.none)), Go.Value.pointer (Option.some (Go.Addr.mk g (0 : Nat) Option.none))])) w () w' ∧ G (Go.Sx.setD D (50 : Nat)) (Go.Sx.setNuV ν Option.none Go.undef) w') ∧ (∀ (D : Nat → Bool)
 (ν : Nat → Go.Value) (w : Go.World), G D ν w → D (52 : Nat) = Bool.false → D (0 : Nat) = Bool.true → ∃ (x : Option Nat), ν (14 : Nat) = Go.Value.map x ∧ ∃ (w' : Go.World), Go.Sx.RunsTo
 Go.Proofs.Tryd.prog (Go.Instr.mapUpdate (96 : Nat) (Go.Value.map x) (Go.Value.int Go.IntKind.u8 (110 : Int)) (Go.Value.func (Go.Fn.func (53 : Nat)) #[] #[Go.Value.pointer (Option.some (Go.Addr.mk g_2
 (0 : Nat) Option.none)), Go.Value.pointer (Option.some (Go.Addr.mk g_1 (0 : Nat) Option.none))])) w () w' ∧ G (Go.Sx.setD D (52 : Nat)) (Go.Sx.setNuV ν Option.none Go.undef) w') ∧ (∀ (D : Nat → Bool)
 (ν : Nat → Go.Value) (w : Go.World), G D ν w → D (54 : Nat) = Bool.false → D (0 : Nat) = Bool.true → ∃ (x : Option Nat), ν (14 : Nat) = Go.Value.map x ∧ ∃ (w' : Go.World), Go.Sx.RunsTo
 Go.Proofs.Tryd.prog (Go.Instr.mapUpdate (96 : Nat) (Go.Value.map x) (Go.Value.int Go.IntKind.u8 (109 : Int)) (Go.Value.func (Go.Fn.func (54 : Nat)) #[] #[Go.Value.pointer (Option.some (Go.Addr.mk g_2
 (0 : Nat) Option.none)), Go.Value.pointer (Option.some (Go.Addr.mk g (0 : Nat) Option.none))])) w () w' ∧ G (Go.Sx.setD D (54 : Nat)) (Go.Sx.setNuV ν Option.none Go.undef) w') ∧ (∀ (D : Nat → Bool) (ν
 : Nat → Go.Value) (w : Go.World), G D ν w → D (56 : Nat) = Bool.false → D (47 : Nat) = Bool.true → ∃ (fid : Nat), ∃ (first : Array Go.Value), ∃ (captured : Array Go.Value), Go.Value.func (Go.Fn.func
 (49 : Nat)) #[] #[Go.Value.pointer (Option.some (Go.Addr.mk g_3 (0 : Nat) Option.none)), Go.Value.pointer (Option.some (Go.Addr.mk g (0 : Nat) Option.none)), Go.Value.pointer (Option.some (Go.Addr.mk
 g_2 (0 : Nat) Option.none))] = Go.Value.func (Go.Fn.func fid) first captured ∧ Go.Sx.bodied Go.Proofs.Tryd.prog fid = Bool.true ∧ Go.Sx.CallsV Go.Proofs.Tryd.prog fid (List.toArray (Array.toList first
 ++ ([Go.Value.func (Go.Fn.func (55 : Nat)) #[] #[]] ++ Array.toList captured))) w fun (r : Go.Value) (w' : Go.World) => ∃ (x : Go.Value), r = x ∧ G (Go.Sx.setD D (56 : Nat)) (Go.Sx.setNuV ν
 (Option.some (56 : Nat)) x) w') ∧ (∀ (D : Nat → Bool) (ν : Nat → Go.Value) (w : Go.World), G D ν w → D (57 : Nat) = Bool.false → D (0 : Nat) = Bool.true → D (56 : Nat) = Bool.true → ∃ (x : Option Nat),
 ν (14 : Nat) = Go.Value.map x ∧ ∃ (w' : Go.World), Go.Sx.RunsTo Go.Proofs.Tryd.prog (Go.Instr.mapUpdate (96 : Nat) (Go.Value.map x) (Go.Value.int Go.IntKind.u8 (105 : Int)) (ν (56 : Nat))) w () w' ∧ G
 (Go.Sx.setD D (57 : Nat)) (Go.Sx.setNuV ν Option.none Go.undef) w') ∧ (∀ (D : Nat → Bool) (ν : Nat → Go.Value) (w : Go.World), G D ν w → D (59 : Nat) = Bool.false → D (56 : Nat) = Bool.true → ∃ (fid :
 Nat), ∃ (first : Array Go.Value), ∃ (captured : Array Go.Value), Go.Value.func (Go.Fn.func (49 : Nat)) #[] #[Go.Value.pointer (Option.some (Go.Addr.mk g_3 (0 : Nat) Option.none)), Go.Value.pointer
 (Option.some (Go.Addr.mk g (0 : Nat) Option.none)), Go.Value.pointer (Option.some (Go.Addr.mk g_2 (0 : Nat) Option.none))] = Go.Value.func (Go.Fn.func fid) first captured ∧ Go.Sx.bodied
 Go.Proofs.Tryd.prog fid = Bool.true ∧ Go.Sx.CallsV Go.Proofs.Tryd.prog fid (List.toArray (Array.toList first ++ ([Go.Value.func (Go.Fn.func (56 : Nat)) #[] #[]] ++ Array.toList captured))) w fun (r :
 Go.Value) (w' : Go.World) => ∃ (x : Go.Value), r = x ∧ G (Go.Sx.setD D (59 : Nat)) (Go.Sx.setNuV ν (Option.some (58 : Nat)) x) w') ∧ (∀ (D : Nat → Bool) (ν : Nat → Go.Value) (w : Go.World), G D ν w → D
 (60 : Nat) = Bool.false → D (0 : Nat) = Bool.true → D (59 : Nat) = Bool.true → ∃ (x : Option Nat), ν (14 : Nat) = Go.Value.map x ∧ ∃ (w' : Go.World), Go.Sx.RunsTo Go.Proofs.Tryd.prog
 (Go.Instr.mapUpdate (96 : Nat) (Go.Value.map x) (Go.Value.int Go.IntKind.u8 (108 : Int)) (ν (58 : Nat))) w () w' ∧ G (Go.Sx.setD D (60 : Nat)) (Go.Sx.setNuV ν Option.none Go.undef) w') ∧ (∀ (D : Nat →
 Bool) (ν : Nat → Go.Value) (w : Go.World), G D ν w → D (62 : Nat) = Bool.false → D (59 : Nat) = Bool.true → ∃ (fid : Nat), ∃ (first : Array Go.Value), ∃ (captured : Array Go.Value), Go.Value.func
 (Go.Fn.func (49 : Nat)) #[] #[Go.Value.pointer (Option.some (Go.Addr.mk g_3 (0 : Nat) Option.none)), Go.Value.pointer (Option.some (Go.Addr.mk g (0 : Nat) Option.none)), Go.Value.pointer (Option.some
 (Go.Addr.mk g_2 (0 : Nat) Option.none))] = Go.Value.func (Go.Fn.func fid) first captured ∧ Go.Sx.bodied Go.Proofs.Tryd.prog fid = Bool.true ∧ Go.Sx.CallsV Go.Proofs.Tryd.prog fid (List.toArray
 (Array.toList first ++ ([Go.Value.func (Go.Fn.func (57 : Nat)) #[] #[]] ++ Array.toList captured))) w fun (r : Go.Value) (w' : Go.World) => ∃ (x : Go.Value), r = x ∧ G (Go.Sx.setD D (62 : Nat))
 (Go.Sx.setNuV ν (Option.some (60 : Nat)) x) w') ∧ (∀ (D : Nat → Bool) (ν : Nat → Go.Value) (w : Go.World), G D ν w → D (63 : Nat) = Bool.false → D (0 : Nat) = Bool.true → D (62 : Nat) = Bool.true → ∃
 (x : Option Nat), ν (14 : Nat) = Go.Value.map x ∧ ∃ (w' : Go.World), Go.Sx.RunsTo Go.Proofs.Tryd.prog (Go.Instr.mapUpdate (96 : Nat) (Go.Value.map x) (Go.Value.int Go.IntKind.u8 (119 : Int)) (ν (60 :
 Nat))) w () w' ∧ G (Go.Sx.setD D (63 : Nat)) (Go.Sx.setNuV ν Option.none Go.undef) w') ∧ ∀ (D : Nat → Bool) (ν : Nat → Go.Value) (w : Go.World), G D ν w → D (65 : Nat) = Bool.false → D (0 : Nat) =
 Bool.true → ∃ (x : Option Nat), ν (14 : Nat) = Go.Value.map x ∧ ∃ (w' : Go.World), Go.Sx.RunsTo Go.Proofs.Tryd.prog (Go.Instr.mapUpdate (96 : Nat) (Go.Value.map x) (Go.Value.int Go.IntKind.u8 (113 :
 Int)) (Go.Value.func (Go.Fn.func (58 : Nat)) #[] #[Go.Value.pointer (Option.some (Go.Addr.mk g_3 (0 : Nat) Option.none)), Go.Value.pointer (Option.some (Go.Addr.mk g (0 : Nat) Option.none)),
 Go.Value.pointer (Option.some (Go.Addr.mk g_2 (0 : Nat) Option.none))])) w () w' ∧ G (Go.Sx.setD D (65 : Nat)) (Go.Sx.setNuV ν Option.none Go.undef) w') ∧ ∀ (D : Nat → Bool) (ν : Nat → Go.Value) (w :
 Go.World), D (0 : Nat) = Bool.true → D (2 : Nat) = Bool.true → D (6 : Nat) = Bool.true → D (7 : Nat) = Bool.true → D (12 : Nat) = Bool.true → D (13 : Nat) = Bool.true → D (17 : Nat) = Bool.true → D (18
 : Nat) = Bool.true → D (23 : Nat) = Bool.true → D (24 : Nat) = Bool.true → D (29 : Nat) = Bool.true → D (30 : Nat) = Bool.true → D (35 : Nat) = Bool.true → D (36 : Nat) = Bool.true → D (38 : Nat) =
 Bool.true → D (39 : Nat) = Bool.true → D (41 : Nat) = Bool.true → D (42 : Nat) = Bool.true → D (44 : Nat) = Bool.true → D (45 : Nat) = Bool.true → D (47 : Nat) = Bool.true → D (48 : Nat) = Bool.true →
 D (50 : Nat) = Bool.true → D (52 : Nat) = Bool.true → D (54 : Nat) = Bool.true → D (56 : Nat) = Bool.true → D (57 : Nat) = Bool.true → D (59 : Nat) = Bool.true → D (60 : Nat) = Bool.true → D (62 : Nat)
 = Bool.true → D (63 : Nat) = Bool.true → D (65 : Nat) = Bool.true → G D ν w → ∃ (x : Option Nat), ν (14 : Nat) = Go.Value.map x ∧ ∃ (x_24 : Go.Value), ∃ (w' : Go.World), Go.Sx.RunsTo
 Go.Proofs.Tryd.prog (Go.Instr.lookup (96 : Nat) (Go.Value.map x) (Go.Value.int Go.IntKind.u8 letter) Bool.false) w x_24 w' ∧ ∃ (fid : Nat), ∃ (first : Array Go.Value), ∃ (captured : Array Go.Value),
 x_24 = Go.Value.func (Go.Fn.func fid) first captured ∧ Go.Sx.bodied Go.Proofs.Tryd.prog fid = Bool.true ∧ Go.Sx.CallsV Go.Proofs.Tryd.prog fid (List.toArray (Array.toList first ++ ([] ++ Array.toList
 captured))) w' fun (r : Go.Value) (w' : Go.World) => ∃ (x : Bool), r = Go.Value.bool x ∧ K (Go.Value.bool x) w'
theorem code_field.eq (p0 : Int) (p1 : Int) (p2 : Int) (p3_A : Option Addr) (p3_n : Nat) (p3_c : Nat) (p4_A : Option Addr) (p4_n : Nat) (p4_c : Nat) (p5_A : Option Addr) (p5_n : Nat) (p5_c : Nat) (p6_A : Option Addr) (p6_n : Nat) (p6_c : Nat) (p7_A : Option Addr) (p7_n : Nat) (p7_c : Nat) (p8_A : Option Addr) (p8_n : Nat) (p8_c : Nat) (atx : Int) (letter : Int) (n : Int) (w : World) (K : Value → World → Prop) : code_field.W p0 p1 p2 p3_A p3_n p3_c p4_A p4_n p4_c p5_A p5_n p5_c p6_A p6_n p6_c p7_A p7_n p7_c p8_A p8_n p8_c atx letter n w K = fnW Tryd.prog Tryd.f20 (.named (.named (.seq .auto (.seq .auto (.seq .auto (.seq (.loop [(14, .one .map)] .auto) .auto)))))) [.agg #[.int .i64 p0, .int .i64 p1, .int .i64 p2, .slice p3_A p3_n p3_c, .slice p4_A p4_n p4_c, .slice p5_A p5_n p5_c, .slice p6_A p6_n p6_c, .slice p7_A p7_n p7_c, .slice p8_A p8_n p8_c], .int .i64 atx, .int .u8 letter, .int .i64 n] w K := by kernel_rfl
theorem code_field.calls (ok : Okay Tryd.prog) {p0 : Int} {p1 : Int} {p2 : Int} {p3_A : Option Addr} {p3_n : Nat} {p3_c : Nat} {p4_A : Option Addr} {p4_n : Nat} {p4_c : Nat} {p5_A : Option Addr} {p5_n : Nat} {p5_c : Nat} {p6_A : Option Addr} {p6_n : Nat} {p6_c : Nat} {p7_A : Option Addr} {p7_n : Nat} {p7_c : Nat} {p8_A : Option Addr} {p8_n : Nat} {p8_c : Nat} {atx : Int} {letter : Int} {n : Int} {w : World} {K : Value → World → Prop} (h : code_field.W p0 p1 p2 p3_A p3_n p3_c p4_A p4_n p4_c p5_A p5_n p5_c p6_A p6_n p6_c p7_A p7_n p7_c p8_A p8_n p8_c atx letter n w K) : CallsV Tryd.prog 20 #[.agg #[.int .i64 p0, .int .i64 p1, .int .i64 p2, .slice p3_A p3_n p3_c, .slice p4_A p4_n p4_c, .slice p5_A p5_n p5_c, .slice p6_A p6_n p6_c, .slice p7_A p7_n p7_c, .slice p8_A p8_n p8_c], .int .i64 atx, .int .u8 letter, .int .i64 n] w K :=
  fnW_calls ok Tryd.func20 (an := (.named (.named (.seq .auto (.seq .auto (.seq .auto (.seq (.loop [(14, .one .map)] .auto) .auto))))))) (args := [.agg #[.int .i64 p0, .int .i64 p1, .int .i64 p2, .slice p3_A p3_n p3_c, .slice p4_A p4_n p4_c, .slice p5_A p5_n p5_c, .slice p6_A p6_n p6_c, .slice p7_A p7_n p7_c, .slice p8_A p8_n p8_c], .int .i64 atx, .int .u8 letter, .int .i64 n]) (by rw [← code_field.eq]; exact h)
end Go.Proofs.YtaifphjenebgoaaDoor
/- The preconditions of Go functions, printed by a program of this workplace (nests.py); each is proved to be the engine's own. -/
set_option linter.unusedVariables false
set_option maxRecDepth 100000
namespace Go.Proofs.YtaifphjenebgoaaDoor
open Go Go.Sx
noncomputable def slices_ContainsFunc_string_string.W : Option Addr → Nat → Nat → Value → World → (Value → World → Prop) → Prop := fun (s_A : Option Go.Addr) (s_n s_c : Nat) (f : Go.Value) (w :
 Go.World) (K : Go.Value → Go.World → Prop) => Go.Sx.CallsV Go.Proofs.Tryd.prog (73 : Nat) #[Go.Value.slice s_A s_n s_c, f] w fun (v : Go.Value) (w' : Go.World) => ∃ (x : Int), v = Go.Value.int
 Go.IntKind.i64 x ∧ K (Go.Value.bool (Decidable.decide ((0 : Int) ≤ x))) w'
theorem slices_ContainsFunc_string_string.eq (s_A : Option Addr) (s_n : Nat) (s_c : Nat) (f : Value) (w : World) (K : Value → World → Prop) : slices_ContainsFunc_string_string.W s_A s_n s_c f w K = fnW Tryd.prog Tryd.f42 (.named (.named .auto)) [.slice s_A s_n s_c, f] w K := by kernel_rfl
theorem slices_ContainsFunc_string_string.calls (ok : Okay Tryd.prog) {s_A : Option Addr} {s_n : Nat} {s_c : Nat} {f : Value} {w : World} {K : Value → World → Prop} (h : slices_ContainsFunc_string_string.W s_A s_n s_c f w K) : CallsV Tryd.prog 42 #[.slice s_A s_n s_c, f] w K :=
  fnW_calls ok Tryd.func42 (an := (.named (.named .auto))) (args := [.slice s_A s_n s_c, f]) (by rw [← slices_ContainsFunc_string_string.eq]; exact h)
noncomputable def slices_ContainsFunc_api_Value_api_Value.W : Option Addr → Nat → Nat → Value → World → (Value → World → Prop) → Prop := fun (s_A : Option Go.Addr) (s_n s_c : Nat) (f : Go.Value) (w :
 Go.World) (K : Go.Value → Go.World → Prop) => Go.Sx.CallsV Go.Proofs.Tryd.prog (74 : Nat) #[Go.Value.slice s_A s_n s_c, f] w fun (v : Go.Value) (w' : Go.World) => ∃ (x : Int), v = Go.Value.int
 Go.IntKind.i64 x ∧ K (Go.Value.bool (Decidable.decide ((0 : Int) ≤ x))) w'
theorem slices_ContainsFunc_api_Value_api_Value.eq (s_A : Option Addr) (s_n : Nat) (s_c : Nat) (f : Value) (w : World) (K : Value → World → Prop) : slices_ContainsFunc_api_Value_api_Value.W s_A s_n s_c f w K = fnW Tryd.prog Tryd.f43 (.named (.named .auto)) [.slice s_A s_n s_c, f] w K := by kernel_rfl
theorem slices_ContainsFunc_api_Value_api_Value.calls (ok : Okay Tryd.prog) {s_A : Option Addr} {s_n : Nat} {s_c : Nat} {f : Value} {w : World} {K : Value → World → Prop} (h : slices_ContainsFunc_api_Value_api_Value.W s_A s_n s_c f w K) : CallsV Tryd.prog 43 #[.slice s_A s_n s_c, f] w K :=
  fnW_calls ok Tryd.func43 (an := (.named (.named .auto))) (args := [.slice s_A s_n s_c, f]) (by rw [← slices_ContainsFunc_api_Value_api_Value.eq]; exact h)
noncomputable def slices_ContainsFunc_api_Cur_api_Cur.W : Option Addr → Nat → Nat → Value → World → (Value → World → Prop) → Prop := fun (s_A : Option Go.Addr) (s_n s_c : Nat) (f : Go.Value) (w :
 Go.World) (K : Go.Value → Go.World → Prop) => Go.Sx.CallsV Go.Proofs.Tryd.prog (75 : Nat) #[Go.Value.slice s_A s_n s_c, f] w fun (v : Go.Value) (w' : Go.World) => ∃ (x : Int), v = Go.Value.int
 Go.IntKind.i64 x ∧ K (Go.Value.bool (Decidable.decide ((0 : Int) ≤ x))) w'
theorem slices_ContainsFunc_api_Cur_api_Cur.eq (s_A : Option Addr) (s_n : Nat) (s_c : Nat) (f : Value) (w : World) (K : Value → World → Prop) : slices_ContainsFunc_api_Cur_api_Cur.W s_A s_n s_c f w K = fnW Tryd.prog Tryd.f44 (.named (.named .auto)) [.slice s_A s_n s_c, f] w K := by kernel_rfl
theorem slices_ContainsFunc_api_Cur_api_Cur.calls (ok : Okay Tryd.prog) {s_A : Option Addr} {s_n : Nat} {s_c : Nat} {f : Value} {w : World} {K : Value → World → Prop} (h : slices_ContainsFunc_api_Cur_api_Cur.W s_A s_n s_c f w K) : CallsV Tryd.prog 44 #[.slice s_A s_n s_c, f] w K :=
  fnW_calls ok Tryd.func44 (an := (.named (.named .auto))) (args := [.slice s_A s_n s_c, f]) (by rw [← slices_ContainsFunc_api_Cur_api_Cur.eq]; exact h)
noncomputable def slices_ContainsFunc_api_Sort_api_Sort.W : Option Addr → Nat → Nat → Value → World → (Value → World → Prop) → Prop := fun (s_A : Option Go.Addr) (s_n s_c : Nat) (f : Go.Value) (w :
 Go.World) (K : Go.Value → Go.World → Prop) => Go.Sx.CallsV Go.Proofs.Tryd.prog (76 : Nat) #[Go.Value.slice s_A s_n s_c, f] w fun (v : Go.Value) (w' : Go.World) => ∃ (x : Int), v = Go.Value.int
 Go.IntKind.i64 x ∧ K (Go.Value.bool (Decidable.decide ((0 : Int) ≤ x))) w'
theorem slices_ContainsFunc_api_Sort_api_Sort.eq (s_A : Option Addr) (s_n : Nat) (s_c : Nat) (f : Value) (w : World) (K : Value → World → Prop) : slices_ContainsFunc_api_Sort_api_Sort.W s_A s_n s_c f w K = fnW Tryd.prog Tryd.f45 (.named (.named .auto)) [.slice s_A s_n s_c, f] w K := by kernel_rfl
theorem slices_ContainsFunc_api_Sort_api_Sort.calls (ok : Okay Tryd.prog) {s_A : Option Addr} {s_n : Nat} {s_c : Nat} {f : Value} {w : World} {K : Value → World → Prop} (h : slices_ContainsFunc_api_Sort_api_Sort.W s_A s_n s_c f w K) : CallsV Tryd.prog 45 #[.slice s_A s_n s_c, f] w K :=
  fnW_calls ok Tryd.func45 (an := (.named (.named .auto))) (args := [.slice s_A s_n s_c, f]) (by rw [← slices_ContainsFunc_api_Sort_api_Sort.eq]; exact h)
noncomputable def slices_ContainsFunc_api_Acc_api_Acc.W : Option Addr → Nat → Nat → Value → World → (Value → World → Prop) → Prop := fun (s_A : Option Go.Addr) (s_n s_c : Nat) (f : Go.Value) (w :
 Go.World) (K : Go.Value → Go.World → Prop) => Go.Sx.CallsV Go.Proofs.Tryd.prog (77 : Nat) #[Go.Value.slice s_A s_n s_c, f] w fun (v : Go.Value) (w' : Go.World) => ∃ (x : Int), v = Go.Value.int
 Go.IntKind.i64 x ∧ K (Go.Value.bool (Decidable.decide ((0 : Int) ≤ x))) w'
theorem slices_ContainsFunc_api_Acc_api_Acc.eq (s_A : Option Addr) (s_n : Nat) (s_c : Nat) (f : Value) (w : World) (K : Value → World → Prop) : slices_ContainsFunc_api_Acc_api_Acc.W s_A s_n s_c f w K = fnW Tryd.prog Tryd.f46 (.named (.named .auto)) [.slice s_A s_n s_c, f] w K := by kernel_rfl
theorem slices_ContainsFunc_api_Acc_api_Acc.calls (ok : Okay Tryd.prog) {s_A : Option Addr} {s_n : Nat} {s_c : Nat} {f : Value} {w : World} {K : Value → World → Prop} (h : slices_ContainsFunc_api_Acc_api_Acc.W s_A s_n s_c f w K) : CallsV Tryd.prog 46 #[.slice s_A s_n s_c, f] w K :=
  fnW_calls ok Tryd.func46 (an := (.named (.named .auto))) (args := [.slice s_A s_n s_c, f]) (by rw [← slices_ContainsFunc_api_Acc_api_Acc.eq]; exact h)
noncomputable def slices_IndexFunc_string_string.W : Option Addr → Nat → Nat → Value → World → (Value → World → Prop) → Prop := fun (s_A : Option Go.Addr) (s_n s_c : Nat) (f : Go.Value) (w : Go.World)
 (K : Go.Value → Go.World → Prop) => ∃ (I : Int → Go.World → Prop), ∃ (μ : Int → Go.World → Nat), I (0 : Int) w ∧ ∀ (x : Int) (w : Go.World), I x w → bif Decidable.decide (x < (↑s_n : Int)) then ∃ (ad :
 Go.Addr), s_A = Option.some ad ∧ ((0 : Int) ≤ x ∧ x < (↑s_n : Int)) ∧ ∃ (x_1 : ByteArray), Go.World.cell? w (Go.Addr.add ad (Int.toNat x * (1 : Nat))) = Option.some (Go.Value.string x_1) ∧ ∃ (fid :
 Nat), ∃ (first : Array Go.Value), ∃ (captured : Array Go.Value), f = Go.Value.func (Go.Fn.func fid) first captured ∧ Go.Sx.bodied Go.Proofs.Tryd.prog fid = Bool.true ∧ Go.Sx.CallsV Go.Proofs.Tryd.prog
 fid (List.toArray (Array.toList first ++ ([Go.Value.string x_1] ++ Array.toList captured))) w fun (r : Go.Value) (w' : Go.World) => ∃ (x_2 : Bool), r = Go.Value.bool x_2 ∧ bif x_2 then K (Go.Value.int
 Go.IntKind.i64 x) w' else I (Go.IntKind.wrap Go.IntKind.i64 (x + (1 : Int))) w' ∧ μ (Go.IntKind.wrap Go.IntKind.i64 (x + (1 : Int))) w' < μ x w else K (Go.Value.int Go.IntKind.i64 (-1 : Int)) w
theorem slices_IndexFunc_string_string.eq (s_A : Option Addr) (s_n : Nat) (s_c : Nat) (f : Value) (w : World) (K : Value → World → Prop) : slices_IndexFunc_string_string.W s_A s_n s_c f w K = fnW Tryd.prog Tryd.f73 (.named (.named (.seq .auto (.seq (.seq .auto (.block (.loop [(8, .one (.int .i64))] .auto))) .auto)))) [.slice s_A s_n s_c, f] w K := by kernel_rfl
theorem slices_IndexFunc_string_string.calls (ok : Okay Tryd.prog) {s_A : Option Addr} {s_n : Nat} {s_c : Nat} {f : Value} {w : World} {K : Value → World → Prop} (h : slices_IndexFunc_string_string.W s_A s_n s_c f w K) : CallsV Tryd.prog 73 #[.slice s_A s_n s_c, f] w K :=
  fnW_calls ok Tryd.func73 (an := (.named (.named (.seq .auto (.seq (.seq .auto (.block (.loop [(8, .one (.int .i64))] .auto))) .auto))))) (args := [.slice s_A s_n s_c, f]) (by rw [← slices_IndexFunc_string_string.eq]; exact h)
noncomputable def slices_IndexFunc_api_Value_api_Value.W : Option Addr → Nat → Nat → Value → World → (Value → World → Prop) → Prop := fun (s_A : Option Go.Addr) (s_n s_c : Nat) (f : Go.Value) (w :
 Go.World) (K : Go.Value → Go.World → Prop) => ∃ (I : Int → Go.World → Prop), ∃ (μ : Int → Go.World → Nat), I (0 : Int) w ∧ ∀ (x : Int) (w : Go.World), I x w → bif Decidable.decide (x < (↑s_n : Int))
 then ∃ (ad : Go.Addr), s_A = Option.some ad ∧ ((0 : Int) ≤ x ∧ x < (↑s_n : Int)) ∧ ∃ (x_1 : Int), Go.World.cell? w (Go.Addr.add (Go.Addr.add ad (Int.toNat x * (3 : Nat))) (0 : Nat)) = Option.some
 (Go.Value.int Go.IntKind.u8 x_1) ∧ ∃ (x_2 : Int), Go.World.cell? w (Go.Addr.add (Go.Addr.add ad (Int.toNat x * (3 : Nat))) (1 : Nat)) = Option.some (Go.Value.int Go.IntKind.i64 x_2) ∧ ∃ (x_3 :
 ByteArray), Go.World.cell? w (Go.Addr.add (Go.Addr.add ad (Int.toNat x * (3 : Nat))) (2 : Nat)) = Option.some (Go.Value.string x_3) ∧ ∃ (fid : Nat), ∃ (first : Array Go.Value), ∃ (captured : Array
 Go.Value), f = Go.Value.func (Go.Fn.func fid) first captured ∧ Go.Sx.bodied Go.Proofs.Tryd.prog fid = Bool.true ∧ Go.Sx.CallsV Go.Proofs.Tryd.prog fid (List.toArray (Array.toList first ++
 ([Go.Value.agg #[Go.Value.int Go.IntKind.u8 x_1, Go.Value.int Go.IntKind.i64 x_2, Go.Value.string x_3]] ++ Array.toList captured))) w fun (r : Go.Value) (w' : Go.World) => ∃ (x_4 : Bool), r =
 Go.Value.bool x_4 ∧ bif x_4 then K (Go.Value.int Go.IntKind.i64 x) w' else I (Go.IntKind.wrap Go.IntKind.i64 (x + (1 : Int))) w' ∧ μ (Go.IntKind.wrap Go.IntKind.i64 (x + (1 : Int))) w' < μ x w else K
 (Go.Value.int Go.IntKind.i64 (-1 : Int)) w
theorem slices_IndexFunc_api_Value_api_Value.eq (s_A : Option Addr) (s_n : Nat) (s_c : Nat) (f : Value) (w : World) (K : Value → World → Prop) : slices_IndexFunc_api_Value_api_Value.W s_A s_n s_c f w K = fnW Tryd.prog Tryd.f74 (.named (.named (.seq .auto (.seq (.seq .auto (.block (.loop [(8, .one (.int .i64))] .auto))) .auto)))) [.slice s_A s_n s_c, f] w K := by kernel_rfl
theorem slices_IndexFunc_api_Value_api_Value.calls (ok : Okay Tryd.prog) {s_A : Option Addr} {s_n : Nat} {s_c : Nat} {f : Value} {w : World} {K : Value → World → Prop} (h : slices_IndexFunc_api_Value_api_Value.W s_A s_n s_c f w K) : CallsV Tryd.prog 74 #[.slice s_A s_n s_c, f] w K :=
  fnW_calls ok Tryd.func74 (an := (.named (.named (.seq .auto (.seq (.seq .auto (.block (.loop [(8, .one (.int .i64))] .auto))) .auto))))) (args := [.slice s_A s_n s_c, f]) (by rw [← slices_IndexFunc_api_Value_api_Value.eq]; exact h)
noncomputable def slices_IndexFunc_api_Cur_api_Cur.W : Option Addr → Nat → Nat → Value → World → (Value → World → Prop) → Prop := fun (s_A : Option Go.Addr) (s_n s_c : Nat) (f : Go.Value) (w :
 Go.World) (K : Go.Value → Go.World → Prop) => ∃ (I : Int → Go.World → Prop), ∃ (μ : Int → Go.World → Nat), I (0 : Int) w ∧ ∀ (x : Int) (w : Go.World), I x w → bif Decidable.decide (x < (↑s_n : Int))
 then ∃ (ad : Go.Addr), s_A = Option.some ad ∧ ((0 : Int) ≤ x ∧ x < (↑s_n : Int)) ∧ ∃ (x_1 : ByteArray), Go.World.cell? w (Go.Addr.add (Go.Addr.add ad (Int.toNat x * (3 : Nat))) (0 : Nat)) = Option.some
 (Go.Value.string x_1) ∧ ∃ (x_2 : Bool), Go.World.cell? w (Go.Addr.add (Go.Addr.add ad (Int.toNat x * (3 : Nat))) (1 : Nat)) = Option.some (Go.Value.bool x_2) ∧ ∃ (x_3 : Bool), Go.World.cell? w
 (Go.Addr.add (Go.Addr.add ad (Int.toNat x * (3 : Nat))) (2 : Nat)) = Option.some (Go.Value.bool x_3) ∧ ∃ (fid : Nat), ∃ (first : Array Go.Value), ∃ (captured : Array Go.Value), f = Go.Value.func
 (Go.Fn.func fid) first captured ∧ Go.Sx.bodied Go.Proofs.Tryd.prog fid = Bool.true ∧ Go.Sx.CallsV Go.Proofs.Tryd.prog fid (List.toArray (Array.toList first ++ ([Go.Value.agg #[Go.Value.string x_1,
 Go.Value.bool x_2, Go.Value.bool x_3]] ++ Array.toList captured))) w fun (r : Go.Value) (w' : Go.World) => ∃ (x_4 : Bool), r = Go.Value.bool x_4 ∧ bif x_4 then K (Go.Value.int Go.IntKind.i64 x) w' else
 I (Go.IntKind.wrap Go.IntKind.i64 (x + (1 : Int))) w' ∧ μ (Go.IntKind.wrap Go.IntKind.i64 (x + (1 : Int))) w' < μ x w else K (Go.Value.int Go.IntKind.i64 (-1 : Int)) w
theorem slices_IndexFunc_api_Cur_api_Cur.eq (s_A : Option Addr) (s_n : Nat) (s_c : Nat) (f : Value) (w : World) (K : Value → World → Prop) : slices_IndexFunc_api_Cur_api_Cur.W s_A s_n s_c f w K = fnW Tryd.prog Tryd.f75 (.named (.named (.seq .auto (.seq (.seq .auto (.block (.loop [(8, .one (.int .i64))] .auto))) .auto)))) [.slice s_A s_n s_c, f] w K := by kernel_rfl
theorem slices_IndexFunc_api_Cur_api_Cur.calls (ok : Okay Tryd.prog) {s_A : Option Addr} {s_n : Nat} {s_c : Nat} {f : Value} {w : World} {K : Value → World → Prop} (h : slices_IndexFunc_api_Cur_api_Cur.W s_A s_n s_c f w K) : CallsV Tryd.prog 75 #[.slice s_A s_n s_c, f] w K :=
  fnW_calls ok Tryd.func75 (an := (.named (.named (.seq .auto (.seq (.seq .auto (.block (.loop [(8, .one (.int .i64))] .auto))) .auto))))) (args := [.slice s_A s_n s_c, f]) (by rw [← slices_IndexFunc_api_Cur_api_Cur.eq]; exact h)
noncomputable def slices_IndexFunc_api_Sort_api_Sort.W : Option Addr → Nat → Nat → Value → World → (Value → World → Prop) → Prop := fun (s_A : Option Go.Addr) (s_n s_c : Nat) (f : Go.Value) (w :
 Go.World) (K : Go.Value → Go.World → Prop) => ∃ (I : Int → Go.World → Prop), ∃ (μ : Int → Go.World → Nat), I (0 : Int) w ∧ ∀ (x : Int) (w : Go.World), I x w → bif Decidable.decide (x < (↑s_n : Int))
 then ∃ (ad : Go.Addr), s_A = Option.some ad ∧ ((0 : Int) ≤ x ∧ x < (↑s_n : Int)) ∧ ∃ (x_1 : Option Go.Addr), ∃ (x_2 : Nat), ∃ (x_3 : Nat), Go.World.cell? w (Go.Addr.add (Go.Addr.add ad (Int.toNat x *
 (3 : Nat))) (0 : Nat)) = Option.some (Go.Value.slice x_1 x_2 x_3) ∧ ∃ (x_4 : Int), Go.World.cell? w (Go.Addr.add (Go.Addr.add ad (Int.toNat x * (3 : Nat))) (1 : Nat)) = Option.some (Go.Value.int
 Go.IntKind.i64 x_4) ∧ ∃ (x_5 : Bool), Go.World.cell? w (Go.Addr.add (Go.Addr.add ad (Int.toNat x * (3 : Nat))) (2 : Nat)) = Option.some (Go.Value.bool x_5) ∧ ∃ (fid : Nat), ∃ (first : Array Go.Value),
 ∃ (captured : Array Go.Value), f = Go.Value.func (Go.Fn.func fid) first captured ∧ Go.Sx.bodied Go.Proofs.Tryd.prog fid = Bool.true ∧ Go.Sx.CallsV Go.Proofs.Tryd.prog fid (List.toArray (Array.toList
 first ++ ([Go.Value.agg #[Go.Value.slice x_1 x_2 x_3, Go.Value.int Go.IntKind.i64 x_4, Go.Value.bool x_5]] ++ Array.toList captured))) w fun (r : Go.Value) (w' : Go.World) => ∃ (x_6 : Bool), r =
 Go.Value.bool x_6 ∧ bif x_6 then K (Go.Value.int Go.IntKind.i64 x) w' else I (Go.IntKind.wrap Go.IntKind.i64 (x + (1 : Int))) w' ∧ μ (Go.IntKind.wrap Go.IntKind.i64 (x + (1 : Int))) w' < μ x w else K
 (Go.Value.int Go.IntKind.i64 (-1 : Int)) w
theorem slices_IndexFunc_api_Sort_api_Sort.eq (s_A : Option Addr) (s_n : Nat) (s_c : Nat) (f : Value) (w : World) (K : Value → World → Prop) : slices_IndexFunc_api_Sort_api_Sort.W s_A s_n s_c f w K = fnW Tryd.prog Tryd.f76 (.named (.named (.seq .auto (.seq (.seq .auto (.block (.loop [(8, .one (.int .i64))] .auto))) .auto)))) [.slice s_A s_n s_c, f] w K := by kernel_rfl
theorem slices_IndexFunc_api_Sort_api_Sort.calls (ok : Okay Tryd.prog) {s_A : Option Addr} {s_n : Nat} {s_c : Nat} {f : Value} {w : World} {K : Value → World → Prop} (h : slices_IndexFunc_api_Sort_api_Sort.W s_A s_n s_c f w K) : CallsV Tryd.prog 76 #[.slice s_A s_n s_c, f] w K :=
  fnW_calls ok Tryd.func76 (an := (.named (.named (.seq .auto (.seq (.seq .auto (.block (.loop [(8, .one (.int .i64))] .auto))) .auto))))) (args := [.slice s_A s_n s_c, f]) (by rw [← slices_IndexFunc_api_Sort_api_Sort.eq]; exact h)
noncomputable def slices_IndexFunc_api_Acc_api_Acc.W : Option Addr → Nat → Nat → Value → World → (Value → World → Prop) → Prop := fun (s_A : Option Go.Addr) (s_n s_c : Nat) (f : Go.Value) (w :
 Go.World) (K : Go.Value → Go.World → Prop) => ∃ (I : Int → Go.World → Prop), ∃ (μ : Int → Go.World → Nat), I (0 : Int) w ∧ ∀ (x : Int) (w : Go.World), I x w → bif Decidable.decide (x < (↑s_n : Int))
 then ∃ (ad : Go.Addr), s_A = Option.some ad ∧ ((0 : Int) ≤ x ∧ x < (↑s_n : Int)) ∧ ∃ (x_1 : ByteArray), Go.World.cell? w (Go.Addr.add (Go.Addr.add ad (Int.toNat x * (2 : Nat))) (0 : Nat)) = Option.some
 (Go.Value.string x_1) ∧ ∃ (x_2 : Bool), Go.World.cell? w (Go.Addr.add (Go.Addr.add ad (Int.toNat x * (2 : Nat))) (1 : Nat)) = Option.some (Go.Value.bool x_2) ∧ ∃ (fid : Nat), ∃ (first : Array
 Go.Value), ∃ (captured : Array Go.Value), f = Go.Value.func (Go.Fn.func fid) first captured ∧ Go.Sx.bodied Go.Proofs.Tryd.prog fid = Bool.true ∧ Go.Sx.CallsV Go.Proofs.Tryd.prog fid (List.toArray
 (Array.toList first ++ ([Go.Value.agg #[Go.Value.string x_1, Go.Value.bool x_2]] ++ Array.toList captured))) w fun (r : Go.Value) (w' : Go.World) => ∃ (x_3 : Bool), r = Go.Value.bool x_3 ∧ bif x_3 then
 K (Go.Value.int Go.IntKind.i64 x) w' else I (Go.IntKind.wrap Go.IntKind.i64 (x + (1 : Int))) w' ∧ μ (Go.IntKind.wrap Go.IntKind.i64 (x + (1 : Int))) w' < μ x w else K (Go.Value.int Go.IntKind.i64 (-1 :
 Int)) w
theorem slices_IndexFunc_api_Acc_api_Acc.eq (s_A : Option Addr) (s_n : Nat) (s_c : Nat) (f : Value) (w : World) (K : Value → World → Prop) : slices_IndexFunc_api_Acc_api_Acc.W s_A s_n s_c f w K = fnW Tryd.prog Tryd.f77 (.named (.named (.seq .auto (.seq (.seq .auto (.block (.loop [(8, .one (.int .i64))] .auto))) .auto)))) [.slice s_A s_n s_c, f] w K := by kernel_rfl
theorem slices_IndexFunc_api_Acc_api_Acc.calls (ok : Okay Tryd.prog) {s_A : Option Addr} {s_n : Nat} {s_c : Nat} {f : Value} {w : World} {K : Value → World → Prop} (h : slices_IndexFunc_api_Acc_api_Acc.W s_A s_n s_c f w K) : CallsV Tryd.prog 77 #[.slice s_A s_n s_c, f] w K :=
  fnW_calls ok Tryd.func77 (an := (.named (.named (.seq .auto (.seq (.seq .auto (.block (.loop [(8, .one (.int .i64))] .auto))) .auto))))) (args := [.slice s_A s_n s_c, f]) (by rw [← slices_IndexFunc_api_Acc_api_Acc.eq]; exact h)
noncomputable def code_parts_5.W : Option Addr → Nat → Nat → Int → Bool → Addr → World → (Value → World → Prop) → Prop := fun (s0_A : Option Go.Addr) (s0_n s0_c : Nat) (s1 : Int) (s2 : Bool) (a1 :
 Go.Addr) (w : Go.World) (K : Go.Value → Go.World → Prop) => ∀ (g : Nat) (w' : Go.World), Go.Sx.Fresh w g w' [Go.Value.slice s0_A s0_n s0_c, Go.Value.int Go.IntKind.i64 s1, Go.Value.bool s2] (56 : Nat)
 → ∃ (x : Option Go.Addr), ∃ (x_1 : Nat), ∃ (x_2 : Nat), Go.World.cell? w' (Go.Addr.add (Go.Addr.mk g (0 : Nat) Option.none) (0 : Nat)) = Option.some (Go.Value.slice x x_1 x_2) ∧ bif Decidable.decide
 ((30 : Int) < (↑x_1 : Int)) then K (Go.Value.bool Bool.true) w' else ∃ (x : Go.Value), Go.World.cell? w' a1 = Option.some x ∧ ∃ (x_3 : Int), Go.World.cell? w' (Go.Addr.add (Go.Addr.mk g (0 : Nat)
 Option.none) (1 : Nat)) = Option.some (Go.Value.int Go.IntKind.i64 x_3) ∧ ∃ (fid : Nat), ∃ (first : Array Go.Value), ∃ (captured : Array Go.Value), x = Go.Value.func (Go.Fn.func fid) first captured ∧
 Go.Sx.bodied Go.Proofs.Tryd.prog fid = Bool.true ∧ Go.Sx.CallsV Go.Proofs.Tryd.prog fid (List.toArray (Array.toList first ++ ([Go.Value.int Go.IntKind.i64 x_3, Go.Value.int Go.IntKind.i64 (1 : Int),
 Go.Value.int Go.IntKind.i64 (60 : Int)] ++ Array.toList captured))) w' fun (r : Go.Value) (w' : Go.World) => ∃ (x : Bool), r = Go.Value.bool x ∧ K (Go.Value.bool !x) w'
theorem code_parts_5.eq (s0_A : Option Addr) (s0_n : Nat) (s0_c : Nat) (s1 : Int) (s2 : Bool) (a1 : Addr) (w : World) (K : Value → World → Prop) : code_parts_5.W s0_A s0_n s0_c s1 s2 a1 w K = fnW Tryd.prog Tryd.f39 (.named (.named .auto)) [.agg #[.slice s0_A s0_n s0_c, .int .i64 s1, .bool s2], .pointer (some a1)] w K := by kernel_rfl
theorem code_parts_5.calls (ok : Okay Tryd.prog) {s0_A : Option Addr} {s0_n : Nat} {s0_c : Nat} {s1 : Int} {s2 : Bool} {a1 : Addr} {w : World} {K : Value → World → Prop} (h : code_parts_5.W s0_A s0_n s0_c s1 s2 a1 w K) : CallsV Tryd.prog 39 #[.agg #[.slice s0_A s0_n s0_c, .int .i64 s1, .bool s2], .pointer (some a1)] w K :=
  fnW_calls ok Tryd.func39 (an := (.named (.named .auto))) (args := [.agg #[.slice s0_A s0_n s0_c, .int .i64 s1, .bool s2], .pointer (some a1)]) (by rw [← code_parts_5.eq]; exact h)
noncomputable def code_parts.W : Int → Int → Int → Option Addr → Nat → Nat → Option Addr → Nat → Nat → Option Addr → Nat → Nat → Option Addr → Nat → Nat → Option Addr → Nat → Nat → Option Addr → Nat →
 Nat → World → (Value → World → Prop) → Prop := fun (p0 p1 p2 : Int) (p3_A : Option Go.Addr) (p3_n p3_c : Nat) (p4_A : Option Go.Addr) (p4_n p4_c : Nat) (p5_A : Option Go.Addr) (p5_n p5_c : Nat) (p6_A :
 Option Go.Addr) (p6_n p6_c : Nat) (p7_A : Option Go.Addr) (p7_n p7_c : Nat) (p8_A : Option Go.Addr) (p8_n p8_c : Nat) (w : Go.World) (K : Go.Value → Go.World → Prop) => ∀ (g : Nat) (w' : Go.World),
 Go.Sx.Fresh w g w' [Go.Value.int Go.IntKind.i64 p0, Go.Value.int Go.IntKind.i64 p1, Go.Value.int Go.IntKind.i64 p2, Go.Value.slice p3_A p3_n p3_c, Go.Value.slice p4_A p4_n p4_c, Go.Value.slice p5_A
 p5_n p5_c, Go.Value.slice p6_A p6_n p6_c, Go.Value.slice p7_A p7_n p7_c, Go.Value.slice p8_A p8_n p8_c] (29 : Nat) → ∀ (g_1 : Nat) (w'_1 : Go.World), Go.Sx.Fresh w' g_1 w'_1 [Go.Value.nilFunc] (78 :
 Nat) → Go.Sx.cellsL (Go.Value.func (Go.Fn.func (34 : Nat)) #[] #[]) = [Go.Value.func (Go.Fn.func (34 : Nat)) #[] #[]] ∧ Go.Value.oneCell' (Go.Value.func (Go.Fn.func (34 : Nat)) #[] #[]) = Bool.true ∧
 Go.Sx.stOK (Go.Addr.mk g_1 (0 : Nat) Option.none) (0 : Nat) [Go.Value.func (Go.Fn.func (34 : Nat)) #[] #[]] w'_1 ∧ ∀ (w' : Go.World), w' = Go.Sx.setAll (Go.Addr.mk g_1 (0 : Nat) Option.none) (0 : Nat)
 [Go.Value.func (Go.Fn.func (34 : Nat)) #[] #[]] w'_1 → ∃ (x : Go.Value), Go.World.cell? w' (Go.Addr.mk g_1 (0 : Nat) Option.none) = Option.some x ∧ ∃ (x_1 : Int), Go.World.cell? w' (Go.Addr.add
 (Go.Addr.mk g (0 : Nat) Option.none) (0 : Nat)) = Option.some (Go.Value.int Go.IntKind.i64 x_1) ∧ ∃ (fid : Nat), ∃ (first : Array Go.Value), ∃ (captured : Array Go.Value), x = Go.Value.func (Go.Fn.func
 fid) first captured ∧ Go.Sx.bodied Go.Proofs.Tryd.prog fid = Bool.true ∧ Go.Sx.CallsV Go.Proofs.Tryd.prog fid (List.toArray (Array.toList first ++ ([Go.Value.int Go.IntKind.i64 x_1, Go.Value.int
 Go.IntKind.i64 (1 : Int), Go.Value.int Go.IntKind.i64 (1099511627776 : Int)] ++ Array.toList captured))) w' fun (r : Go.Value) (w' : Go.World) => ∃ (x : Bool), r = Go.Value.bool x ∧ bif x then ∃ (x :
 Go.Value), Go.World.cell? w' (Go.Addr.mk g_1 (0 : Nat) Option.none) = Option.some x ∧ ∃ (x_2 : Int), Go.World.cell? w' (Go.Addr.add (Go.Addr.mk g (0 : Nat) Option.none) (1 : Nat)) = Option.some
 (Go.Value.int Go.IntKind.i64 x_2) ∧ ∃ (fid : Nat), ∃ (first : Array Go.Value), ∃ (captured : Array Go.Value), x = Go.Value.func (Go.Fn.func fid) first captured ∧ Go.Sx.bodied Go.Proofs.Tryd.prog fid =
 Bool.true ∧ Go.Sx.CallsV Go.Proofs.Tryd.prog fid (List.toArray (Array.toList first ++ ([Go.Value.int Go.IntKind.i64 x_2, Go.Value.int Go.IntKind.i64 (1 : Int), Go.Value.int Go.IntKind.i64 (250 : Int)]
 ++ Array.toList captured))) w' fun (r : Go.Value) (w' : Go.World) => ∃ (x : Bool), r = Go.Value.bool x ∧ bif x then ∃ (x : Go.Value), Go.World.cell? w' (Go.Addr.mk g_1 (0 : Nat) Option.none) =
 Option.some x ∧ ∃ (x_3 : Int), Go.World.cell? w' (Go.Addr.add (Go.Addr.mk g (0 : Nat) Option.none) (2 : Nat)) = Option.some (Go.Value.int Go.IntKind.i64 x_3) ∧ ∃ (fid : Nat), ∃ (first : Array
 Go.Value), ∃ (captured : Array Go.Value), x = Go.Value.func (Go.Fn.func fid) first captured ∧ Go.Sx.bodied Go.Proofs.Tryd.prog fid = Bool.true ∧ Go.Sx.CallsV Go.Proofs.Tryd.prog fid (List.toArray
 (Array.toList first ++ ([Go.Value.int Go.IntKind.i64 x_3, Go.Value.int Go.IntKind.i64 (0 : Int), Go.Value.int Go.IntKind.i64 (1000 : Int)] ++ Array.toList captured))) w' fun (r : Go.Value) (w' :
 Go.World) => ∃ (x : Bool), r = Go.Value.bool x ∧ bif x then ∃ (x : Option Go.Addr), ∃ (x_4 : Nat), ∃ (x_5 : Nat), Go.World.cell? w' (Go.Addr.add (Go.Addr.mk g (0 : Nat) Option.none) (3 : Nat)) =
 Option.some (Go.Value.slice x x_4 x_5) ∧ bif Decidable.decide ((↑x_4 : Int) ≤ (200 : Int)) then ∃ (x : Option Go.Addr), ∃ (x_6 : Nat), ∃ (x_7 : Nat), Go.World.cell? w' (Go.Addr.add (Go.Addr.mk g (0 :
 Nat) Option.none) (4 : Nat)) = Option.some (Go.Value.slice x x_6 x_7) ∧ bif Decidable.decide ((↑x_6 : Int) ≤ (1000 : Int)) then ∃ (x : Option Go.Addr), ∃ (x_8 : Nat), ∃ (x_9 : Nat), Go.World.cell? w'
 (Go.Addr.add (Go.Addr.mk g (0 : Nat) Option.none) (5 : Nat)) = Option.some (Go.Value.slice x x_8 x_9) ∧ bif Decidable.decide ((↑x_8 : Int) ≤ (12 : Int)) then ∃ (x : Option Go.Addr), ∃ (x_10 : Nat), ∃
 (x_11 : Nat), Go.World.cell? w' (Go.Addr.add (Go.Addr.mk g (0 : Nat) Option.none) (6 : Nat)) = Option.some (Go.Value.slice x x_10 x_11) ∧ bif Decidable.decide ((↑x_10 : Int) ≤ (6 : Int)) then ∃ (x :
 Option Go.Addr), ∃ (x_12 : Nat), ∃ (x_13 : Nat), Go.World.cell? w' (Go.Addr.add (Go.Addr.mk g (0 : Nat) Option.none) (7 : Nat)) = Option.some (Go.Value.slice x x_12 x_13) ∧ bif Decidable.decide ((↑x_12
 : Int) ≤ (60 : Int)) then ∃ (x : Option Go.Addr), ∃ (x_14 : Nat), ∃ (x_15 : Nat), Go.World.cell? w' (Go.Addr.add (Go.Addr.mk g (0 : Nat) Option.none) (3 : Nat)) = Option.some (Go.Value.slice x x_14
 x_15) ∧ Go.Sx.CallsV Go.Proofs.Tryd.prog (42 : Nat) #[Go.Value.slice x x_14 x_15, Go.Value.func (Go.Fn.func (35 : Nat)) #[] #[]] w' fun (v : Go.Value) (w' : Go.World) => ∃ (x : Bool), v = Go.Value.bool
 x ∧ bif !x then ∃ (x : Option Go.Addr), ∃ (x_16 : Nat), ∃ (x_17 : Nat), Go.World.cell? w' (Go.Addr.add (Go.Addr.mk g (0 : Nat) Option.none) (4 : Nat)) = Option.some (Go.Value.slice x x_16 x_17) ∧
 Go.Sx.CallsV Go.Proofs.Tryd.prog (43 : Nat) #[Go.Value.slice x x_16 x_17, Go.Value.func (Go.Fn.func (36 : Nat)) #[] #[]] w' fun (v : Go.Value) (w' : Go.World) => ∃ (x : Bool), v = Go.Value.bool x ∧ bif
 !x then ∃ (x : Option Go.Addr), ∃ (x_18 : Nat), ∃ (x_19 : Nat), Go.World.cell? w' (Go.Addr.add (Go.Addr.mk g (0 : Nat) Option.none) (5 : Nat)) = Option.some (Go.Value.slice x x_18 x_19) ∧ Go.Sx.CallsV
 Go.Proofs.Tryd.prog (44 : Nat) #[Go.Value.slice x x_18 x_19, Go.Value.func (Go.Fn.func (38 : Nat)) #[] #[]] w' fun (v : Go.Value) (w' : Go.World) => ∃ (x : Bool), v = Go.Value.bool x ∧ bif !x then ∃ (x
 : Option Go.Addr), ∃ (x_20 : Nat), ∃ (x_21 : Nat), Go.World.cell? w' (Go.Addr.add (Go.Addr.mk g (0 : Nat) Option.none) (6 : Nat)) = Option.some (Go.Value.slice x x_20 x_21) ∧ Go.Sx.CallsV
 Go.Proofs.Tryd.prog (45 : Nat) #[Go.Value.slice x x_20 x_21, Go.Value.func (Go.Fn.func (39 : Nat)) #[] #[Go.Value.pointer (Option.some (Go.Addr.mk g_1 (0 : Nat) Option.none))]] w' fun (v : Go.Value)
 (w' : Go.World) => ∃ (x : Bool), v = Go.Value.bool x ∧ bif !x then ∃ (x : Option Go.Addr), ∃ (x_22 : Nat), ∃ (x_23 : Nat), Go.World.cell? w' (Go.Addr.add (Go.Addr.mk g (0 : Nat) Option.none) (7 : Nat))
 = Option.some (Go.Value.slice x x_22 x_23) ∧ Go.Sx.CallsV Go.Proofs.Tryd.prog (46 : Nat) #[Go.Value.slice x x_22 x_23, Go.Value.func (Go.Fn.func (40 : Nat)) #[] #[]] w' fun (v : Go.Value) (w' :
 Go.World) => ∃ (x : Bool), v = Go.Value.bool x ∧ K (Go.Value.bool !x) w' else K (Go.Value.bool Bool.false) w' else K (Go.Value.bool Bool.false) w' else K (Go.Value.bool Bool.false) w' else K
 (Go.Value.bool Bool.false) w' else K (Go.Value.bool Bool.false) w' else K (Go.Value.bool Bool.false) w' else K (Go.Value.bool Bool.false) w' else K (Go.Value.bool Bool.false) w' else K (Go.Value.bool
 Bool.false) w' else K (Go.Value.bool Bool.false) w' else K (Go.Value.bool Bool.false) w' else K (Go.Value.bool Bool.false) w'
theorem code_parts.eq (p0 : Int) (p1 : Int) (p2 : Int) (p3_A : Option Addr) (p3_n : Nat) (p3_c : Nat) (p4_A : Option Addr) (p4_n : Nat) (p4_c : Nat) (p5_A : Option Addr) (p5_n : Nat) (p5_c : Nat) (p6_A : Option Addr) (p6_n : Nat) (p6_c : Nat) (p7_A : Option Addr) (p7_n : Nat) (p7_c : Nat) (p8_A : Option Addr) (p8_n : Nat) (p8_c : Nat) (w : World) (K : Value → World → Prop) : code_parts.W p0 p1 p2 p3_A p3_n p3_c p4_A p4_n p4_c p5_A p5_n p5_c p6_A p6_n p6_c p7_A p7_n p7_c p8_A p8_n p8_c w K = fnW Tryd.prog Tryd.f18 (.named (.named .auto)) [.agg #[.int .i64 p0, .int .i64 p1, .int .i64 p2, .slice p3_A p3_n p3_c, .slice p4_A p4_n p4_c, .slice p5_A p5_n p5_c, .slice p6_A p6_n p6_c, .slice p7_A p7_n p7_c, .slice p8_A p8_n p8_c]] w K := by kernel_rfl
theorem code_parts.calls (ok : Okay Tryd.prog) {p0 : Int} {p1 : Int} {p2 : Int} {p3_A : Option Addr} {p3_n : Nat} {p3_c : Nat} {p4_A : Option Addr} {p4_n : Nat} {p4_c : Nat} {p5_A : Option Addr} {p5_n : Nat} {p5_c : Nat} {p6_A : Option Addr} {p6_n : Nat} {p6_c : Nat} {p7_A : Option Addr} {p7_n : Nat} {p7_c : Nat} {p8_A : Option Addr} {p8_n : Nat} {p8_c : Nat} {w : World} {K : Value → World → Prop} (h : code_parts.W p0 p1 p2 p3_A p3_n p3_c p4_A p4_n p4_c p5_A p5_n p5_c p6_A p6_n p6_c p7_A p7_n p7_c p8_A p8_n p8_c w K) : CallsV Tryd.prog 18 #[.agg #[.int .i64 p0, .int .i64 p1, .int .i64 p2, .slice p3_A p3_n p3_c, .slice p4_A p4_n p4_c, .slice p5_A p5_n p5_c, .slice p6_A p6_n p6_c, .slice p7_A p7_n p7_c, .slice p8_A p8_n p8_c]] w K :=
  fnW_calls ok Tryd.func18 (an := (.named (.named .auto))) (args := [.agg #[.int .i64 p0, .int .i64 p1, .int .i64 p2, .slice p3_A p3_n p3_c, .slice p4_A p4_n p4_c, .slice p5_A p5_n p5_c, .slice p6_A p6_n p6_c, .slice p7_A p7_n p7_c, .slice p8_A p8_n p8_c]]) (by rw [← code_parts.eq]; exact h)
end Go.Proofs.YtaifphjenebgoaaDoor
/- Layer 15 (code): what of a program but its code may be. -/
set_option linter.unusedVariables false
set_option linter.unusedSimpArgs false
namespace Go.Proofs.YtaifphjenebgoaaDoor
open Go Go.Sx R1 K15
def KCur : Kd Cur := ⟨3, fun _ _ a cs => cs = [.string a.name, .bool a.ix, .bool a.wr], fun h => by simp [h], fun h _ => h⟩
def KSrt : Kd Srt := ⟨3, fun Ω w a cs => ∃ A c, cs = [.slice A a.desc.length c, .int .i64 a.cols, .bool a.dist] ∧ a.desc.length ≤ c ∧ Imm Kd.bool Ω w A a.desc, fun ⟨_, _, h, _⟩ => by simp [h], fun ⟨A, c, h, hc, hi⟩ st => ⟨A, c, h, hc, hi.keep (by decide) st⟩⟩
def KTot : Kd Tot := ⟨2, fun _ _ a cs => cs = [.string a.fn, .bool a.dist], fun h => by simp [h], fun h _ => h⟩
def KIns : Kd Ins := ⟨5, fun _ _ a cs => cs = [.int .u8 a.op, .int .i64 a.a, .int .i64 a.b, .int .i64 a.c, .int .i64 a.d], fun h => by simp [h], fun h _ => h⟩
theorem KCur_pos : 0 < KCur.size := by decide
theorem KSrt_pos : 0 < KSrt.size := by decide
theorem KTot_pos : 0 < KTot.size := by decide
theorem KIns_pos : 0 < KIns.size := by decide
theorem KStr_pos : 0 < Kd.str.size := by decide
/-- a function value that tells of a thing whether p, from a world on; 'arg': the thing as an argument -/
def Tests {α : Type} (K : Kd α) (arg : List Value → Value) (w : World) (f : Value) (p : α → Bool) : Prop :=
  ∀ u, Ext w u → ∀ a cs, K.rep NoB u a cs → ∃ (fid : FuncId) (first captured : Array Value), f = .func (.func fid) first captured ∧ bodied Tryd.prog fid = true ∧
    CallsV Tryd.prog fid (first.toList ++ ([arg cs] ++ captured.toList)).toArray u fun r w' => r = .bool (p a) ∧ Ext u w'
def argA (cs : List Value) : Value := .agg cs.toArray
def arg1 (cs : List Value) : Value := cs.headD undef
/-- where the first one is that p holds of -/
def firstI {α : Type} (p : α → Bool) : List α → Nat → Int
  | [], _ => -1
  | x :: l, i => if p x then (i : Int) else firstI p l (i + 1)
theorem firstI_any {α : Type} (p : α → Bool) : ∀ (l : List α) (i : Nat), decide (0 ≤ firstI p l i) = l.any p
  | [], _ => rfl
  | x :: l, i => by
    rw [firstI, List.any_cons]
    cases h : p x
    · rw [if_neg (by decide), firstI_any p l (i + 1)]; simp
    · rw [if_pos rfl]
      simp
theorem firstI_drop {α : Type} (p : α → Bool) (l : List α) (j : Nat) (h : j < l.length) : firstI p (l.drop j) j = if p l[j] then (j : Int) else firstI p (l.drop (j + 1)) (j + 1) := by
  rw [List.drop_eq_getElem_cons h, firstI]
theorem index_string {w : World} {A : Option Addr} {c n : Nat} {l : List ByteArray} {f : Value} {p : ByteArray → Bool} (hn : n = l.length) (hi : Imm Kd.str NoB w A l) (hl : l.length ≤ maxLen) (hf : Tests Kd.str arg1 w f p) :
    CallsV Tryd.prog 73 #[.slice A n c, f] w fun r w' => r = .int .i64 (firstI p l 0) ∧ Ext w w' := by
  subst hn
  simp only [maxLen] at hl
  refine slices_IndexFunc_string_string.calls okay ?_
  unfold slices_IndexFunc_string_string.W
  refine ⟨fun x u => ∃ j : Nat, j ≤ l.length ∧ x = (j : Int) ∧ firstI p l 0 = firstI p (l.drop j) j ∧ Ext w u, fun x _ => (l.length - x).toNat, ⟨0, by omega, rfl, rfl, .refl _ _⟩, ?_⟩
  rintro _ u ⟨j, hj, rfl, hq, e⟩
  refine brd (fun hlt => ?_) (fun hge => ?_)
  · have hjl : j < l.length := by omega
    obtain ⟨ad, hA, cs, hrep, hc⟩ := (hi.ext (by decide) e).get1 hjl
    rw [firstI_drop p l j hjl] at hq
    have hcs : cs = [.string l[j]] := hrep
    subst hcs
    obtain ⟨fid, first, captured, rfl, hb, hcall⟩ := hf u e _ _ hrep
    refine ⟨ad, hA, ⟨by omega, by omega⟩, _, by rw [Int.toNat_natCast]; exact hc 0 _ rfl, fid, first, captured, rfl, hb, ?_⟩
    refine hcall.mono ?_
    rintro _ u1 ⟨rfl, e1⟩
    refine ⟨_, rfl, ?_⟩
    cases hp : p l[j] with
    | true =>
      rw [cond_true]
      rw [hp, if_pos rfl] at hq
      exact ⟨by rw [hq], e.trans' e1⟩
    | false =>
      rw [cond_false]
      rw [hp, if_neg (by decide)] at hq
      rw [wi _ (by omega) (by omega)]
      exact ⟨⟨j + 1, by omega, rfl, hq, e.trans' e1⟩, by dsimp only; omega⟩
  · obtain rfl : j = l.length := by omega
    rw [List.drop_length] at hq
    exact ⟨by rw [hq]; rfl, e⟩
theorem contains_string {w : World} {A : Option Addr} {c n : Nat} {l : List ByteArray} {f : Value} {p : ByteArray → Bool} (hn : n = l.length) (hi : Imm Kd.str NoB w A l) (hl : l.length ≤ maxLen) (hf : Tests Kd.str arg1 w f p) :
    CallsV Tryd.prog 42 #[.slice A n c, f] w fun r w' => r = .bool (l.any p) ∧ Ext w w' := by
  refine slices_ContainsFunc_string_string.calls okay ?_
  unfold slices_ContainsFunc_string_string.W
  refine (index_string hn hi hl hf).mono ?_
  rintro _ u ⟨rfl, e⟩
  exact ⟨_, rfl, by rw [firstI_any], e⟩
theorem index_api_Value {w : World} {A : Option Addr} {c n : Nat} {l : List V} {f : Value} {p : V → Bool} (hn : n = l.length) (hi : Imm KV NoB w A l) (hl : l.length ≤ maxLen) (hf : Tests KV argA w f p) :
    CallsV Tryd.prog 74 #[.slice A n c, f] w fun r w' => r = .int .i64 (firstI p l 0) ∧ Ext w w' := by
  subst hn
  simp only [maxLen] at hl
  refine slices_IndexFunc_api_Value_api_Value.calls okay ?_
  unfold slices_IndexFunc_api_Value_api_Value.W
  refine ⟨fun x u => ∃ j : Nat, j ≤ l.length ∧ x = (j : Int) ∧ firstI p l 0 = firstI p (l.drop j) j ∧ Ext w u, fun x _ => (l.length - x).toNat, ⟨0, by omega, rfl, rfl, .refl _ _⟩, ?_⟩
  rintro _ u ⟨j, hj, rfl, hq, e⟩
  refine brd (fun hlt => ?_) (fun hge => ?_)
  · have hjl : j < l.length := by omega
    obtain ⟨ad, hA, cs, hrep, hc⟩ := (hi.ext (by decide) e).get1 hjl
    rw [firstI_drop p l j hjl] at hq
    have hcs : cs = vc l[j] := hrep
    subst hcs
    obtain ⟨fid, first, captured, rfl, hb, hcall⟩ := hf u e _ _ hrep
    refine ⟨ad, hA, ⟨by omega, by omega⟩, _, by rw [Int.toNat_natCast, add_add]; exact hc 0 _ rfl, _, by rw [Int.toNat_natCast, add_add]; exact hc 1 _ rfl, _, by rw [Int.toNat_natCast, add_add]; exact hc 2 _ rfl, fid, first, captured, rfl, hb, ?_⟩
    refine hcall.mono ?_
    rintro _ u1 ⟨rfl, e1⟩
    refine ⟨_, rfl, ?_⟩
    cases hp : p l[j] with
    | true =>
      rw [cond_true]
      rw [hp, if_pos rfl] at hq
      exact ⟨by rw [hq], e.trans' e1⟩
    | false =>
      rw [cond_false]
      rw [hp, if_neg (by decide)] at hq
      rw [wi _ (by omega) (by omega)]
      exact ⟨⟨j + 1, by omega, rfl, hq, e.trans' e1⟩, by dsimp only; omega⟩
  · obtain rfl : j = l.length := by omega
    rw [List.drop_length] at hq
    exact ⟨by rw [hq]; rfl, e⟩
theorem contains_api_Value {w : World} {A : Option Addr} {c n : Nat} {l : List V} {f : Value} {p : V → Bool} (hn : n = l.length) (hi : Imm KV NoB w A l) (hl : l.length ≤ maxLen) (hf : Tests KV argA w f p) :
    CallsV Tryd.prog 43 #[.slice A n c, f] w fun r w' => r = .bool (l.any p) ∧ Ext w w' := by
  refine slices_ContainsFunc_api_Value_api_Value.calls okay ?_
  unfold slices_ContainsFunc_api_Value_api_Value.W
  refine (index_api_Value hn hi hl hf).mono ?_
  rintro _ u ⟨rfl, e⟩
  exact ⟨_, rfl, by rw [firstI_any], e⟩
theorem index_api_Cur {w : World} {A : Option Addr} {c n : Nat} {l : List Cur} {f : Value} {p : Cur → Bool} (hn : n = l.length) (hi : Imm KCur NoB w A l) (hl : l.length ≤ maxLen) (hf : Tests KCur argA w f p) :
    CallsV Tryd.prog 75 #[.slice A n c, f] w fun r w' => r = .int .i64 (firstI p l 0) ∧ Ext w w' := by
  subst hn
  simp only [maxLen] at hl
  refine slices_IndexFunc_api_Cur_api_Cur.calls okay ?_
  unfold slices_IndexFunc_api_Cur_api_Cur.W
  refine ⟨fun x u => ∃ j : Nat, j ≤ l.length ∧ x = (j : Int) ∧ firstI p l 0 = firstI p (l.drop j) j ∧ Ext w u, fun x _ => (l.length - x).toNat, ⟨0, by omega, rfl, rfl, .refl _ _⟩, ?_⟩
  rintro _ u ⟨j, hj, rfl, hq, e⟩
  refine brd (fun hlt => ?_) (fun hge => ?_)
  · have hjl : j < l.length := by omega
    obtain ⟨ad, hA, cs, hrep, hc⟩ := (hi.ext (by decide) e).get1 hjl
    rw [firstI_drop p l j hjl] at hq
    have hcs : cs = [.string l[j].name, .bool l[j].ix, .bool l[j].wr] := hrep
    subst hcs
    obtain ⟨fid, first, captured, rfl, hb, hcall⟩ := hf u e _ _ hrep
    refine ⟨ad, hA, ⟨by omega, by omega⟩, _, by rw [Int.toNat_natCast, add_add]; exact hc 0 _ rfl, _, by rw [Int.toNat_natCast, add_add]; exact hc 1 _ rfl, _, by rw [Int.toNat_natCast, add_add]; exact hc 2 _ rfl, fid, first, captured, rfl, hb, ?_⟩
    refine hcall.mono ?_
    rintro _ u1 ⟨rfl, e1⟩
    refine ⟨_, rfl, ?_⟩
    cases hp : p l[j] with
    | true =>
      rw [cond_true]
      rw [hp, if_pos rfl] at hq
      exact ⟨by rw [hq], e.trans' e1⟩
    | false =>
      rw [cond_false]
      rw [hp, if_neg (by decide)] at hq
      rw [wi _ (by omega) (by omega)]
      exact ⟨⟨j + 1, by omega, rfl, hq, e.trans' e1⟩, by dsimp only; omega⟩
  · obtain rfl : j = l.length := by omega
    rw [List.drop_length] at hq
    exact ⟨by rw [hq]; rfl, e⟩
theorem contains_api_Cur {w : World} {A : Option Addr} {c n : Nat} {l : List Cur} {f : Value} {p : Cur → Bool} (hn : n = l.length) (hi : Imm KCur NoB w A l) (hl : l.length ≤ maxLen) (hf : Tests KCur argA w f p) :
    CallsV Tryd.prog 44 #[.slice A n c, f] w fun r w' => r = .bool (l.any p) ∧ Ext w w' := by
  refine slices_ContainsFunc_api_Cur_api_Cur.calls okay ?_
  unfold slices_ContainsFunc_api_Cur_api_Cur.W
  refine (index_api_Cur hn hi hl hf).mono ?_
  rintro _ u ⟨rfl, e⟩
  exact ⟨_, rfl, by rw [firstI_any], e⟩
theorem index_api_Sort {w : World} {A : Option Addr} {c n : Nat} {l : List Srt} {f : Value} {p : Srt → Bool} (hn : n = l.length) (hi : Imm KSrt NoB w A l) (hl : l.length ≤ maxLen) (hf : Tests KSrt argA w f p) :
    CallsV Tryd.prog 76 #[.slice A n c, f] w fun r w' => r = .int .i64 (firstI p l 0) ∧ Ext w w' := by
  subst hn
  simp only [maxLen] at hl
  refine slices_IndexFunc_api_Sort_api_Sort.calls okay ?_
  unfold slices_IndexFunc_api_Sort_api_Sort.W
  refine ⟨fun x u => ∃ j : Nat, j ≤ l.length ∧ x = (j : Int) ∧ firstI p l 0 = firstI p (l.drop j) j ∧ Ext w u, fun x _ => (l.length - x).toNat, ⟨0, by omega, rfl, rfl, .refl _ _⟩, ?_⟩
  rintro _ u ⟨j, hj, rfl, hq, e⟩
  refine brd (fun hlt => ?_) (fun hge => ?_)
  · have hjl : j < l.length := by omega
    obtain ⟨ad, hA, cs, hrep, hc⟩ := (hi.ext (by decide) e).get1 hjl
    rw [firstI_drop p l j hjl] at hq
    obtain ⟨D, dc, hcs, _⟩ := id hrep
    subst hcs
    obtain ⟨fid, first, captured, rfl, hb, hcall⟩ := hf u e _ _ hrep
    refine ⟨ad, hA, ⟨by omega, by omega⟩, _, _, _, by rw [Int.toNat_natCast, add_add]; exact hc 0 _ rfl, _, by rw [Int.toNat_natCast, add_add]; exact hc 1 _ rfl, _, by rw [Int.toNat_natCast, add_add]; exact hc 2 _ rfl, fid, first, captured, rfl, hb, ?_⟩
    refine hcall.mono ?_
    rintro _ u1 ⟨rfl, e1⟩
    refine ⟨_, rfl, ?_⟩
    cases hp : p l[j] with
    | true =>
      rw [cond_true]
      rw [hp, if_pos rfl] at hq
      exact ⟨by rw [hq], e.trans' e1⟩
    | false =>
      rw [cond_false]
      rw [hp, if_neg (by decide)] at hq
      rw [wi _ (by omega) (by omega)]
      exact ⟨⟨j + 1, by omega, rfl, hq, e.trans' e1⟩, by dsimp only; omega⟩
  · obtain rfl : j = l.length := by omega
    rw [List.drop_length] at hq
    exact ⟨by rw [hq]; rfl, e⟩
theorem contains_api_Sort {w : World} {A : Option Addr} {c n : Nat} {l : List Srt} {f : Value} {p : Srt → Bool} (hn : n = l.length) (hi : Imm KSrt NoB w A l) (hl : l.length ≤ maxLen) (hf : Tests KSrt argA w f p) :
    CallsV Tryd.prog 45 #[.slice A n c, f] w fun r w' => r = .bool (l.any p) ∧ Ext w w' := by
  refine slices_ContainsFunc_api_Sort_api_Sort.calls okay ?_
  unfold slices_ContainsFunc_api_Sort_api_Sort.W
  refine (index_api_Sort hn hi hl hf).mono ?_
  rintro _ u ⟨rfl, e⟩
  exact ⟨_, rfl, by rw [firstI_any], e⟩
theorem index_api_Acc {w : World} {A : Option Addr} {c n : Nat} {l : List Tot} {f : Value} {p : Tot → Bool} (hn : n = l.length) (hi : Imm KTot NoB w A l) (hl : l.length ≤ maxLen) (hf : Tests KTot argA w f p) :
    CallsV Tryd.prog 77 #[.slice A n c, f] w fun r w' => r = .int .i64 (firstI p l 0) ∧ Ext w w' := by
  subst hn
  simp only [maxLen] at hl
  refine slices_IndexFunc_api_Acc_api_Acc.calls okay ?_
  unfold slices_IndexFunc_api_Acc_api_Acc.W
  refine ⟨fun x u => ∃ j : Nat, j ≤ l.length ∧ x = (j : Int) ∧ firstI p l 0 = firstI p (l.drop j) j ∧ Ext w u, fun x _ => (l.length - x).toNat, ⟨0, by omega, rfl, rfl, .refl _ _⟩, ?_⟩
  rintro _ u ⟨j, hj, rfl, hq, e⟩
  refine brd (fun hlt => ?_) (fun hge => ?_)
  · have hjl : j < l.length := by omega
    obtain ⟨ad, hA, cs, hrep, hc⟩ := (hi.ext (by decide) e).get1 hjl
    rw [firstI_drop p l j hjl] at hq
    have hcs : cs = [.string l[j].fn, .bool l[j].dist] := hrep
    subst hcs
    obtain ⟨fid, first, captured, rfl, hb, hcall⟩ := hf u e _ _ hrep
    refine ⟨ad, hA, ⟨by omega, by omega⟩, _, by rw [Int.toNat_natCast, add_add]; exact hc 0 _ rfl, _, by rw [Int.toNat_natCast, add_add]; exact hc 1 _ rfl, fid, first, captured, rfl, hb, ?_⟩
    refine hcall.mono ?_
    rintro _ u1 ⟨rfl, e1⟩
    refine ⟨_, rfl, ?_⟩
    cases hp : p l[j] with
    | true =>
      rw [cond_true]
      rw [hp, if_pos rfl] at hq
      exact ⟨by rw [hq], e.trans' e1⟩
    | false =>
      rw [cond_false]
      rw [hp, if_neg (by decide)] at hq
      rw [wi _ (by omega) (by omega)]
      exact ⟨⟨j + 1, by omega, rfl, hq, e.trans' e1⟩, by dsimp only; omega⟩
  · obtain rfl : j = l.length := by omega
    rw [List.drop_length] at hq
    exact ⟨by rw [hq]; rfl, e⟩
theorem contains_api_Acc {w : World} {A : Option Addr} {c n : Nat} {l : List Tot} {f : Value} {p : Tot → Bool} (hn : n = l.length) (hi : Imm KTot NoB w A l) (hl : l.length ≤ maxLen) (hf : Tests KTot argA w f p) :
    CallsV Tryd.prog 46 #[.slice A n c, f] w fun r w' => r = .bool (l.any p) ∧ Ext w w' := by
  refine slices_ContainsFunc_api_Acc_api_Acc.calls okay ?_
  unfold slices_ContainsFunc_api_Acc_api_Acc.W
  refine (index_api_Acc hn hi hl hf).mono ?_
  rintro _ u ⟨rfl, e⟩
  exact ⟨_, rfl, by rw [firstI_any], e⟩
end Go.Proofs.YtaifphjenebgoaaDoor
/- Layer 15 (code): what of a program but its code may be: the calls. -/
set_option linter.unusedVariables false
set_option linter.unusedSimpArgs false
namespace Go.Proofs.YtaifphjenebgoaaDoor
open Go Go.Sx R1 K15
theorem eq_empty0 (x : ByteArray) : (ByteArray.toList x == ByteArray.toList (ByteArray.mk #[])) = decide (x.size = 0) := by
  obtain ⟨⟨l⟩⟩ := x
  refine (eq_str l []).trans ?_
  cases l <;> simp [ByteArray.size]
theorem cbool {b : Bool} {A B : Prop} (h1 : b = true → A) (h2 : b = false → B) : cond b A B := by
  cases b with
  | true => exact h1 rfl
  | false => exact h2 rfl
theorem right1_spec (w : World) (v : V) : CallsV Tryd.prog 37 #[.agg #[.int .u8 v.k, .int .i64 v.n, .string v.s]] w fun r w' => r = .bool (right v) ∧ Ext w w' := by
  refine value_Right.calls okay ?_
  unfold value_Right.W right
  intro g w1 f
  have b := f.blk
  have e := f.ext
  refine ⟨_, b.cell rfl, ?_⟩
  refine brd (fun h0 => ?_) (fun h0 => ?_)
  · rw [if_pos h0]
    refine ⟨_, b.cell rfl, brd (fun hn => ⟨_, b.cell rfl, ?_, e⟩) (fun hn => ⟨?_, e⟩)⟩
    · rw [eq_empty0]; simp [hn]
    · simp [hn]
  · rw [if_neg h0]
    refine brd (fun h1 => ?_) (fun h1 => ?_)
    · rw [if_pos h1]
      exact ⟨_, b.cell rfl, by rw [eq_empty0], e⟩
    · rw [if_neg h1]
      have two : ∀ (p : Prop) [Decidable p], p → (v.k = 2 ∨ v.k = 3) → (∃ x, w1.cell? (Addr.add ⟨g, 0, none⟩ 1) = some (.int .i64 x) ∧ cond (decide (x = 0)) (∃ x, w1.cell? (Addr.add ⟨g, 0, none⟩ 2) = some (.string x) ∧ (Value.bool (decide ((x.size : Int) ≤ 65536)) = .bool (decide (v.n = 0 ∧ v.s.size ≤ 65536)) ∧ Ext w w1)) (Value.bool false = .bool (decide (v.n = 0 ∧ v.s.size ≤ 65536)) ∧ Ext w w1)) := fun p _ _ _ => by
        refine ⟨_, b.cell rfl, brd (fun hn => ⟨_, b.cell rfl, ?_, e⟩) (fun hn => ⟨?_, e⟩)⟩
        · congr 1
          exact decide_eq_decide.2 ⟨fun h => ⟨hn, by omega⟩, fun h => by have := h.2; omega⟩
        · simp [hn]
      refine brd (fun h2 => ?_) (fun h2 => ?_)
      · rw [if_pos (.inl h2)]
        exact brd (fun _ => two _ h2 (.inl h2)) (fun h => absurd h2 h)
      · refine brd (fun h3 => ?_) (fun h3 => ⟨?_, e⟩)
        · rw [if_pos (.inr h3)]; exact two _ h3 (.inr h3)
        · rw [if_neg (fun h => h.elim h2 h3)]
theorem aggKnown_spec (w : World) (n : List UInt8) : CallsV Tryd.prog 71 #[.string (bs n)] w fun r w' => r = .bool (knownT n) ∧ w' = w := by
  refine agg_Known.calls okay ?_
  unfold agg_Known.W knownT
  have t : ∀ {p : Prop} [Decidable p], p → (Value.bool true = .bool (decide p) ∧ w = w) := fun h => ⟨by rw [decide_eq_true h], rfl⟩
  refine brS (fun h => brS (fun _ => t (.inl h)) (fun q => absurd h q)) (fun h1 => ?_)
  refine brS (fun h => brS (fun _ => t (.inr (.inl h))) (fun q => absurd h q)) (fun h2 => ?_)
  refine brS (fun h => brS (fun _ => t (.inr (.inr (.inl h)))) (fun q => absurd h q)) (fun h3 => ?_)
  refine brS (fun h => brS (fun _ => t (.inr (.inr (.inr (.inl h))))) (fun q => absurd h q)) (fun h4 => ?_)
  refine brS (fun h => brS (fun _ => t (.inr (.inr (.inr (.inr (.inl h)))))) (fun q => absurd h q)) (fun h5 => ?_)
  refine brS (fun h => brS (fun _ => t (.inr (.inr (.inr (.inr (.inr (.inl h))))))) (fun q => absurd h q)) (fun h6 => ?_)
  refine brS (fun h => t (.inr (.inr (.inr (.inr (.inr (.inr h))))))) (fun h7 => ⟨?_, rfl⟩)
  rw [decide_eq_false]
  rintro (h | h | h | h | h | h | h)
  · exact h1 h
  · exact h2 h
  · exact h3 h
  · exact h4 h
  · exact h5 h
  · exact h6 h
  · exact h7 h
theorem Reset_spec {w : World} {g : Nat} {n : ByteArray} {d : Bool} (hn : n.size ≠ 0) (b : Blk w g [.string n, .bool d, .int .i64 0, .int .u64 0, .int .u64 0, .int .u8 0, .int .i64 0, .string (ByteArray.mk #[]), .slice none 0 0, .map none]) :
    CallsV Tryd.prog 72 #[.pointer (some ⟨g, 0, none⟩)] w fun r w' => r = .tuple #[] ∧ Fr (fun k => k = g) w w' := by
  refine agg_Acc_Reset.calls okay ?_
  unfold agg_Acc_Reset.W
  refine cbool (fun h => by cases h) (fun _ => ?_)
  refine ⟨_, rfl, _, b.cell rfl, ?_⟩
  rw [eq_empty0]
  refine brd (fun h => absurd h hn) (fun _ => ?_)
  have bd := b.ext (Fr.drew NoB w)
  refine ⟨_, rfl, fun z => Ext w.drew z, .refl _ _, _, fun z hz => (bd.ext hz).cell rfl, _, rfl, _, fun z hz => (bd.ext hz).cell rfl, ?_⟩
  have e1 : Ext w.drew (w.drew.alloc (.map #[] 0)) := Fr.alloc NoB _ _
  refine ⟨_, _, makeMap_run _ _, e1, _, rfl, (bd.ext e1).stOK [_, _, _, _, _, _, _, _, _, _] 0 (by simp), ?_⟩
  rintro w2 rfl
  exact ⟨rfl, ((Fr.drew NoB w).ext e1).trans (Fr.setAll _ _ _) (fun _ _ h => h.elim) (fun _ _ h => h)⟩
theorem aggNew_spec (w : World) (n : List UInt8) (d : Bool) : CallsV Tryd.prog 41 #[.string (bs n), .bool d] w fun r w' => ∃ A, r = .tuple #[.pointer A, .int .i64 (newT n d)] ∧ Ext w w' := by
  refine agg_New.calls okay ?_
  unfold agg_New.W newT
  refine (aggKnown_spec w n).mono ?_
  rintro _ u ⟨rfl, hu⟩
  obtain rfl : w = u := hu.symm
  refine ⟨_, rfl, brnb (fun h => ⟨none, by rw [h]; rfl, .refl _ _⟩) (fun hk => ?_)⟩
  rw [if_pos hk]
  have hne : (bs n).size ≠ 0 := by
    intro h
    have : n = [] := List.eq_nil_of_length_eq_zero h
    subst this
    simp [knownT] at hk
  have mk : (if d && decide (n = [99, 111, 117, 110, 116, 42]) then (2 : Int) else 0) = 0 → ∀ g w1, Fresh w g w1 [.string (bs n), .bool d, .int .i64 0, .int .u64 0, .int .u64 0, .int .u8 0, .int .i64 0, .string (ByteArray.mk #[]), .slice none 0 0, .map none] 117 →
      CallsV Tryd.prog 72 #[.pointer (some ⟨g, 0, none⟩)] w1 fun v w' => v = .tuple #[] ∧ (∃ A, Value.tuple #[.pointer (some ⟨g, 0, none⟩), .int .i64 0] = .tuple #[.pointer A, .int .i64 (if d && decide (n = [99, 111, 117, 110, 116, 42]) then (2 : Int) else 0)] ∧ Ext w w') := by
    intro h0 g w1 f
    refine (Reset_spec hne f.blk).mono ?_
    rintro _ w2 ⟨rfl, hf⟩
    exact ⟨rfl, _, by rw [h0], f.ext.trans hf (fun _ _ h => h) (fun k hk e => by have := f.ge; omega)⟩
  refine cbool (fun hd => ?_) (fun hd => ?_)
  · refine brS (fun h => ⟨none, by rw [if_pos (by simp [hd, h])], .refl _ _⟩) (fun h => ?_)
    exact mk (if_neg (by simp [h]))
  · exact mk (if_neg (by simp [hd]))
theorem tests1 (w : World) : Tests Kd.str arg1 w (.func (.func 35) #[] #[]) longN := by
  intro u e a cs hr
  have hr : cs = [.string a] := hr
  subst hr
  refine ⟨_, _, _, rfl, by kernel_rfl, ?_⟩
  refine code_parts_2.calls okay ?_
  unfold code_parts_2.W
  exact ⟨by congr 1; exact decide_eq_decide.2 (by omega), .refl _ _⟩
theorem tests2 (w : World) : Tests KV argA w (.func (.func 36) #[] #[]) wrongV := by
  intro u e a cs hr
  have hr : cs = vc a := hr
  subst hr
  refine ⟨_, _, _, rfl, by kernel_rfl, ?_⟩
  refine code_parts_3.calls okay ?_
  unfold code_parts_3.W
  intro g w1 f
  refine ⟨_, f.blk.cell rfl, _, f.blk.cell rfl, _, f.blk.cell rfl, ?_⟩
  refine (right1_spec w1 a).mono ?_
  rintro _ w2 ⟨rfl, e2⟩
  exact ⟨_, rfl, rfl, f.ext.trans' e2⟩
theorem tests3 (w : World) : Tests KCur argA w (.func (.func 38) #[] #[]) badCur := by
  intro u e a cs hr
  have hr : cs = [.string a.name, .bool a.ix, .bool a.wr] := hr
  subst hr
  refine ⟨_, _, _, rfl, by kernel_rfl, ?_⟩
  refine code_parts_4.calls okay ?_
  unfold code_parts_4.W badCur
  intro g w1 f
  have b := f.blk
  refine ⟨_, b.cell rfl, ?_⟩
  rw [eq_empty0]
  refine brd (fun h => ⟨by rw [decide_eq_true h]; rfl, f.ext⟩) (fun h => ⟨_, b.cell rfl, ?_⟩)
  rw [decide_eq_false h, Bool.false_or]
  refine brd (fun h2 => ⟨by rw [decide_eq_true (by omega : 200 < a.name.size)]; rfl, f.ext⟩) (fun h2 => ⟨_, b.cell rfl, ?_⟩)
  rw [decide_eq_false (by omega : ¬ 200 < a.name.size), Bool.false_or]
  refine cbool (fun h3 => ⟨_, b.cell rfl, by rw [h3, Bool.true_and], f.ext⟩) (fun h3 => ⟨by rw [h3, Bool.false_and], f.ext⟩)
theorem tests5 (w : World) : Tests KTot argA w (.func (.func 40) #[] #[]) badTot := by
  intro u e a cs hr
  have hr : cs = [.string a.fn, .bool a.dist] := hr
  subst hr
  refine ⟨_, _, _, rfl, by kernel_rfl, ?_⟩
  refine code_parts_6.calls okay ?_
  unfold code_parts_6.W
  intro g w1 f
  refine ⟨_, f.blk.cell rfl, _, f.blk.cell rfl, ?_⟩
  refine (aggNew_spec w1 (sb a.fn) a.dist).mono ?_
  rintro _ w2 ⟨A, rfl, e2⟩
  exact ⟨_, _, rfl, rfl, f.ext.trans' e2⟩
theorem within_spec (w : World) (n low high : Int) : CallsV Tryd.prog 34 #[.int .i64 n, .int .i64 low, .int .i64 high] w fun r w' => r = .bool (within n low high) ∧ w' = w := by
  refine code_parts_1.calls okay ?_
  unfold code_parts_1.W within
  exact brd (fun h => ⟨by rw [decide_eq_true h, Bool.true_and], rfl⟩) (fun h => ⟨by rw [decide_eq_false h, Bool.false_and], rfl⟩)
theorem tests4 {w : World} {g1 : Nat} (hb : Blk w g1 [.func (.func 34) #[] #[]]) : Tests KSrt argA w (.func (.func 39) #[] #[.pointer (some ⟨g1, 0, none⟩)]) badSrt := by
  intro u e a cs hr
  obtain ⟨D, dc, rfl, hdc, hD⟩ := hr
  refine ⟨_, _, _, rfl, by kernel_rfl, ?_⟩
  refine code_parts_5.calls okay ?_
  unfold code_parts_5.W badSrt
  intro g w1 f
  have b := f.blk
  have e1 := e.trans' f.ext
  refine ⟨_, _, _, b.cell rfl, ?_⟩
  refine brd (fun h => ⟨by rw [decide_eq_true (by omega : 30 < a.desc.length)]; rfl, f.ext⟩) (fun h => ?_)
  rw [decide_eq_false (by omega : ¬ 30 < a.desc.length), Bool.false_or]
  refine ⟨_, (hb.ext e1).cell0 rfl, _, b.cell rfl, _, _, _, rfl, by kernel_rfl, ?_⟩
  refine (within_spec w1 a.cols 1 60).mono ?_
  rintro _ u1 ⟨rfl, hu⟩
  obtain rfl : w1 = u1 := hu.symm
  exact ⟨_, rfl, rfl, f.ext⟩
end Go.Proofs.YtaifphjenebgoaaDoor
/- Layer 15 (code): a program in memory; what of it but its code may be. -/
set_option linter.unusedVariables false
set_option linter.unusedSimpArgs false
namespace Go.Proofs.YtaifphjenebgoaaDoor
open Go Go.Sx R1 K15
/-- where a program's parts lie -/
structure PAd where
  nA : Option Addr
  nc : Nat
  cA : Option Addr
  cc : Nat
  uA : Option Addr
  uc : Nat
  sA : Option Addr
  sc : Nat
  tA : Option Addr
  tc : Nat
  dA : Option Addr
  dc : Nat
abbrev pcs (p : Prog) (a : PAd) : List Value := [.int .i64 p.ver, .int .i64 p.regs, .int .i64 p.binds, .slice a.nA p.names.length a.nc, .slice a.cA p.consts.length a.cc, .slice a.uA p.curs.length a.uc, .slice a.sA p.sorts.length a.sc, .slice a.tA p.tots.length a.tc, .slice a.dA p.code.length a.dc]
abbrev pagg (p : Prog) (a : PAd) : Value := .agg #[.int .i64 p.ver, .int .i64 p.regs, .int .i64 p.binds, .slice a.nA p.names.length a.nc, .slice a.cA p.consts.length a.cc, .slice a.uA p.curs.length a.uc, .slice a.sA p.sorts.length a.sc, .slice a.tA p.tots.length a.tc, .slice a.dA p.code.length a.dc]
/-- a program that is read -/
structure PIm (w : World) (p : Prog) (a : PAd) : Prop where
  names : Imm Kd.str NoB w a.nA p.names
  consts : Imm KV NoB w a.cA p.consts
  curs : Imm KCur NoB w a.uA p.curs
  sorts : Imm KSrt NoB w a.sA p.sorts
  tots : Imm KTot NoB w a.tA p.tots
  code : Imm KIns NoB w a.dA p.code
  l1 : p.names.length ≤ maxLen
  l2 : p.consts.length ≤ maxLen
  l3 : p.curs.length ≤ maxLen
  l4 : p.sorts.length ≤ maxLen
  l5 : p.tots.length ≤ maxLen
  l6 : p.code.length ≤ maxLen
  c6 : p.code.length ≤ a.dc
theorem PIm.ext {w w' : World} {p : Prog} {a : PAd} (h : PIm w p a) (e : Ext w w') : PIm w' p a :=
  ⟨h.names.ext KStr_pos e, h.consts.ext KV_pos e, h.curs.ext KCur_pos e, h.sorts.ext KSrt_pos e, h.tots.ext KTot_pos e, h.code.ext KIns_pos e, h.l1, h.l2, h.l3, h.l4, h.l5, h.l6, h.c6⟩
set_option maxRecDepth 10000 in
theorem parts_spec {w : World} {p : Prog} {a : PAd} (h : PIm w p a) : CallsV Tryd.prog 18 #[pagg p a] w fun r w' => r = .bool (partsP p) ∧ Ext w w' := by
  refine code_parts.calls okay ?_
  unfold code_parts.W
  intro g w1 f1
  intro g1 w2 f2
  refine ⟨rfl, rfl, f2.blk.stOK [_] 0 (by simp), ?_⟩
  intro w3 hw3
  have b3 : Blk w3 g1 [.func (.func 34) #[] #[]] := by rw [hw3]; exact Blk.setAll (o := 0) [_] 0 f2.blk
  have e3 : Ext w w3 := by rw [hw3]; exact Ext.setAll (f1.ext.trans' f2.ext) (Nat.le_trans f1.ext.size f2.ge) _ _
  have bp : Blk w3 g (pcs p a) := by
    rw [hw3]
    exact ((f1.blk.ext f2.ext).keep (Fr.setAll (g := g1) (o := 0) _ 0 w2) (fun e => by have := f2.ge; have := f1.blk.lt; omega))
  clear hw3
  have fin : ∀ (b : Bool) (u : World), b = partsP p → Ext w3 u → (Value.bool b = .bool (partsP p) ∧ Ext w u) := fun b u hb e => ⟨by rw [hb], e3.trans' e⟩
  refine ⟨_, b3.cell0 rfl, _, bp.cell rfl, _, _, _, rfl, by kernel_rfl, ?_⟩
  refine (within_spec w3 p.ver 1 1099511627776).mono ?_
  rintro _ u ⟨rfl, hu⟩
  obtain rfl : w3 = u := hu.symm
  refine ⟨_, rfl, cbool (fun h0 => ?_) (fun h0 => fin _ _ (by simp [partsP, h0]) (.refl _ _))⟩
  refine ⟨_, b3.cell0 rfl, _, bp.cell rfl, _, _, _, rfl, by kernel_rfl, ?_⟩
  refine (within_spec w3 p.regs 1 250).mono ?_
  rintro _ u ⟨rfl, hu⟩
  obtain rfl : w3 = u := hu.symm
  refine ⟨_, rfl, cbool (fun h1 => ?_) (fun h1 => fin _ _ (by simp [partsP, h0, h1]) (.refl _ _))⟩
  refine ⟨_, b3.cell0 rfl, _, bp.cell rfl, _, _, _, rfl, by kernel_rfl, ?_⟩
  refine (within_spec w3 p.binds 0 1000).mono ?_
  rintro _ u ⟨rfl, hu⟩
  obtain rfl : w3 = u := hu.symm
  refine ⟨_, rfl, cbool (fun h2 => ?_) (fun h2 => fin _ _ (by simp [partsP, h0, h1, h2]) (.refl _ _))⟩
  refine ⟨_, _, _, bp.cell rfl, brd (fun h3 => ?_) (fun h3 => fin _ _ (by simp [partsP, h0, h1, h2, show ¬ p.names.length ≤ 200 by omega]) (.refl _ _))⟩
  have h3 : p.names.length ≤ 200 := by omega
  refine ⟨_, _, _, bp.cell rfl, brd (fun h4 => ?_) (fun h4 => fin _ _ (by simp [partsP, h0, h1, h2, h3, show ¬ p.consts.length ≤ 1000 by omega]) (.refl _ _))⟩
  have h4 : p.consts.length ≤ 1000 := by omega
  refine ⟨_, _, _, bp.cell rfl, brd (fun h5 => ?_) (fun h5 => fin _ _ (by simp [partsP, h0, h1, h2, h3, h4, show ¬ p.curs.length ≤ 12 by omega]) (.refl _ _))⟩
  have h5 : p.curs.length ≤ 12 := by omega
  refine ⟨_, _, _, bp.cell rfl, brd (fun h6 => ?_) (fun h6 => fin _ _ (by simp [partsP, h0, h1, h2, h3, h4, h5, show ¬ p.sorts.length ≤ 6 by omega]) (.refl _ _))⟩
  have h6 : p.sorts.length ≤ 6 := by omega
  refine ⟨_, _, _, bp.cell rfl, brd (fun h7 => ?_) (fun h7 => fin _ _ (by simp [partsP, h0, h1, h2, h3, h4, h5, h6, show ¬ p.tots.length ≤ 60 by omega]) (.refl _ _))⟩
  have h7 : p.tots.length ≤ 60 := by omega
  have e30 : Ext w3 w3 := .refl _ _
  refine ⟨_, _, _, (bp.ext e30).cell rfl, ?_⟩
  refine (contains_string rfl (h.ext (e3.trans' e30)).names h.l1 (tests1 w3)).mono ?_
  rintro _ v1 ⟨rfl, q1⟩
  have e31 := e30.trans' q1
  refine ⟨_, rfl, brnb (fun k0 => ?_) (fun k0 => fin _ _ (by simp only [partsP, k0]; simp [h0, h1, h2, h3, h4, h5, h6, h7]) e31)⟩
  refine ⟨_, _, _, (bp.ext e31).cell rfl, ?_⟩
  refine (contains_api_Value rfl (h.ext (e3.trans' e31)).consts h.l2 (tests2 v1)).mono ?_
  rintro _ v2 ⟨rfl, q2⟩
  have e32 := e31.trans' q2
  refine ⟨_, rfl, brnb (fun k1 => ?_) (fun k1 => fin _ _ (by simp only [partsP, k1]; simp [h0, h1, h2, h3, h4, h5, h6, h7, k0]) e32)⟩
  refine ⟨_, _, _, (bp.ext e32).cell rfl, ?_⟩
  refine (contains_api_Cur rfl (h.ext (e3.trans' e32)).curs h.l3 (tests3 v2)).mono ?_
  rintro _ v3 ⟨rfl, q3⟩
  have e33 := e32.trans' q3
  refine ⟨_, rfl, brnb (fun k2 => ?_) (fun k2 => fin _ _ (by simp only [partsP, k2]; simp [h0, h1, h2, h3, h4, h5, h6, h7, k0, k1]) e33)⟩
  refine ⟨_, _, _, (bp.ext e33).cell rfl, ?_⟩
  refine (contains_api_Sort rfl (h.ext (e3.trans' e33)).sorts h.l4 (tests4 (b3.ext e33))).mono ?_
  rintro _ v4 ⟨rfl, q4⟩
  have e34 := e33.trans' q4
  refine ⟨_, rfl, brnb (fun k3 => ?_) (fun k3 => fin _ _ (by simp only [partsP, k3]; simp [h0, h1, h2, h3, h4, h5, h6, h7, k0, k1, k2]) e34)⟩
  refine ⟨_, _, _, (bp.ext e34).cell rfl, ?_⟩
  refine (contains_api_Acc rfl (h.ext (e3.trans' e34)).tots h.l5 (tests5 v4)).mono ?_
  rintro _ v5 ⟨rfl, q5⟩
  have e35 := e34.trans' q5
  exact ⟨_, rfl, fin _ _ (by simp [partsP, h0, h1, h2, h3, h4, h5, h6, h7, k0, k1, k2, k3]) e35⟩
end Go.Proofs.YtaifphjenebgoaaDoor
/- Layer 15 (code): the closures of field. -/
set_option linter.unusedVariables false
set_option linter.unusedSimpArgs false
namespace Go.Proofs.YtaifphjenebgoaaDoor
open Go Go.Sx R1 K15
abbrev bptr (g : Nat) : Value := .pointer (some ⟨g, 0, none⟩)
theorem below1_spec {u : World} {g2 g : Nat} {n high : Int} (bn : Blk u g2 [.int .i64 n]) (bh : Blk u g [.int .i64 high]) :
    CallsV Tryd.prog 48 #[bptr g2, bptr g] u fun r w' => r = .bool (below n high) ∧ Ext u w' := by
  refine code_field_1_1.calls okay ?_
  unfold code_field_1_1.W
  refine ⟨_, bn.cell0 rfl, brd (fun h => ?_) (fun h => ?_)⟩
  · exact ⟨_, bn.cell0 rfl, _, bh.cell0 rfl, by simp [below, h], .refl _ _⟩
  · exact ⟨by simp [below, h], .refl _ _⟩
theorem below_spec (u : World) (g2 : Nat) (high : Int) :
    CallsV Tryd.prog 47 #[.int .i64 high, bptr g2] u fun r w' => ∃ g, r = .func (.func 48) #[] #[bptr g2, bptr g] ∧ Blk w' g [.int .i64 high] ∧ Ext u w' := by
  refine code_field_1.calls okay ?_
  unfold code_field_1.W
  intro g w' f
  exact ⟨g, rfl, f.blk, f.ext⟩
/-- what field's closures stand on -/
structure FCtx (w : World) (p : Prog) (a : PAd) (t n : Int) (g g1 g2 g3 : Nat) : Prop where
  P : PIm w p a
  bp : Blk w g (pcs p a)
  bt : Blk w g1 [.int .i64 t]
  bn : Blk w g2 [.int .i64 n]
  bb : Blk w g3 [.func (.func 47) #[] #[bptr g2]]
theorem FCtx.ext {w w' : World} {p : Prog} {a : PAd} {t n : Int} {g g1 g2 g3 : Nat} (h : FCtx w p a t n g g1 g2 g3) (e : Ext w w') : FCtx w' p a t n g g1 g2 g3 :=
  ⟨h.P.ext e, h.bp.ext e, h.bt.ext e, h.bn.ext e, h.bb.ext e⟩
section
variable {w : World} {p : Prog} {a : PAd} {t n : Int} {g g1 g2 g3 : Nat}
theorem field3_spec (h : FCtx w p a t n g g1 g2 g3) : CallsV Tryd.prog 51 #[bptr g2] w fun r w' => r = .bool (decide (n = 0)) ∧ Ext w w' := by
  refine code_field_3.calls okay ?_
  unfold code_field_3.W
  exact ⟨_, h.bn.cell0 rfl, rfl, .refl _ _⟩
theorem field4_spec (h : FCtx w p a t n g g1 g2 g3) : CallsV Tryd.prog 52 #[bptr g2, bptr g1, bptr g] w fun r w' => r = .bool (decide (t < n) && decide (n < p.code.length)) ∧ Ext w w' := by
  refine code_field_4.calls okay ?_
  unfold code_field_4.W
  refine ⟨_, h.bn.cell0 rfl, _, h.bt.cell0 rfl, brd (fun hq => ?_) (fun hq => ?_)⟩
  · exact ⟨_, h.bn.cell0 rfl, _, _, _, h.bp.cell rfl, by simp [hq], .refl _ _⟩
  · exact ⟨by simp [hq], .refl _ _⟩
theorem field5_spec (h : FCtx w p a t n g g1 g2 g3) : CallsV Tryd.prog 53 #[bptr g2, bptr g1] w fun r w' => r = .bool (decide (1 ≤ n) && decide (n ≤ t)) ∧ Ext w w' := by
  refine code_field_5.calls okay ?_
  unfold code_field_5.W
  refine ⟨_, h.bn.cell0 rfl, brd (fun hq => ?_) (fun hq => ?_)⟩
  · exact ⟨_, h.bn.cell0 rfl, _, h.bt.cell0 rfl, by simp [hq], .refl _ _⟩
  · exact ⟨by simp [hq], .refl _ _⟩
theorem field6_spec (h : FCtx w p a t n g g1 g2 g3) : CallsV Tryd.prog 54 #[bptr g2, bptr g] w fun r w' => r = .bool (decide (1 ≤ n) && decide (n ≤ p.regs)) ∧ Ext w w' := by
  refine code_field_6.calls okay ?_
  unfold code_field_6.W
  refine ⟨_, h.bn.cell0 rfl, brd (fun hq => ?_) (fun hq => ?_)⟩
  · exact ⟨_, h.bn.cell0 rfl, _, h.bp.cell rfl, by simp [hq], .refl _ _⟩
  · exact ⟨by simp [hq], .refl _ _⟩
theorem field7_spec (u : World) (c : Cur) : CallsV Tryd.prog 55 #[.agg #[.string c.name, .bool c.ix, .bool c.wr]] u fun r w' => r = .bool c.ix ∧ Ext u w' := by
  refine code_field_7.calls okay ?_
  unfold code_field_7.W
  intro g w' f
  exact ⟨_, f.blk.cell rfl, rfl, f.ext⟩
theorem field8_spec (u : World) (c : Cur) : CallsV Tryd.prog 56 #[.agg #[.string c.name, .bool c.ix, .bool c.wr]] u fun r w' => r = .bool (!c.ix) ∧ Ext u w' := by
  refine code_field_8.calls okay ?_
  unfold code_field_8.W
  intro g w' f
  exact ⟨_, f.blk.cell rfl, rfl, f.ext⟩
theorem field9_spec (u : World) (c : Cur) : CallsV Tryd.prog 57 #[.agg #[.string c.name, .bool c.ix, .bool c.wr]] u fun r w' => r = .bool (!c.ix && c.wr) ∧ Ext u w' := by
  refine code_field_9.calls okay ?_
  unfold code_field_9.W
  intro g w' f
  refine ⟨_, f.blk.cell rfl, ?_⟩
  cases hx : c.ix with
  | true => exact ⟨by simp, f.ext⟩
  | false => exact ⟨_, f.blk.cell rfl, by simp, f.ext⟩
/-- what is asked of a cursor -/
def AsksC (f : FuncId) (q : Cur → Bool) : Prop := bodied Tryd.prog f = true ∧ ∀ (u : World) (c : Cur), CallsV Tryd.prog f #[.agg #[.string c.name, .bool c.ix, .bool c.wr]] u fun r w' => r = .bool (q c) ∧ Ext u w'
theorem cursor_spec (u : World) (f : FuncId) :
    CallsV Tryd.prog 49 #[.func (.func f) #[] #[], bptr g3, bptr g, bptr g2] u fun r w' => ∃ k, r = .func (.func 50) #[] #[bptr g3, bptr g, bptr k, bptr g2] ∧ Blk w' k [.func (.func f) #[] #[]] ∧ Ext u w' := by
  refine code_field_2.calls okay ?_
  unfold code_field_2.W
  refine ⟨rfl, fun k w' f => ?_⟩
  exact ⟨k, rfl, f.blk, f.ext⟩
theorem cursor1_spec (h : FCtx w p a t n g g1 g2 g3) {f : FuncId} {q : Cur → Bool} (hq : AsksC f q) {k : Nat} (bk : Blk w k [.func (.func f) #[] #[]]) :
    CallsV Tryd.prog 50 #[bptr g3, bptr g, bptr k, bptr g2] w fun r w' => r = .bool (below n p.curs.length && q (curAt p n)) ∧ Ext w w' := by
  refine code_field_2_1.calls okay ?_
  unfold code_field_2_1.W
  refine ⟨fun u => Ext w u, Fr.drew NoB w, _, fun u e => (h.ext e).bb.cell0 rfl, _, _, _, fun u e => (h.ext e).bp.cell rfl, _, _, _, rfl, by kernel_rfl, ?_⟩
  refine (below_spec _ g2 p.curs.length).mono ?_
  rintro _ u ⟨k1, rfl, bk1, e1⟩
  have e1 : Ext w u := (Fr.drew NoB w).ext e1
  refine ⟨_, rfl, e1, _, _, _, rfl, by kernel_rfl, ?_⟩
  refine (below1_spec (h.ext e1).bn bk1).mono ?_
  rintro _ u2 ⟨rfl, e2⟩
  have e2 := e1.trans' e2
  refine ⟨_, rfl, e2, ?_⟩
  cases hb : below n p.curs.length with
  | false => rw [cond_false]; exact ⟨rfl, e2⟩
  | true =>
    rw [cond_true]
    simp only [below, Bool.and_eq_true, decide_eq_true_eq] at hb
    have hlt : n.toNat < p.curs.length := by omega
    obtain ⟨ad, hA, cs, hrep, hc⟩ := h.P.curs.get1 hlt
    have hcs : cs = [.string p.curs[n.toNat].name, .bool p.curs[n.toNat].ix, .bool p.curs[n.toNat].wr] := hrep
    subst hcs
    have hcur : curAt p n = p.curs[n.toNat] := by simp [curAt, hlt]
    have cell : ∀ (u : World), Ext w u → ∀ (j : Nat) (v : Value), [Value.string p.curs[n.toNat].name, .bool p.curs[n.toNat].ix, .bool p.curs[n.toNat].wr][j]? = some v → u.cell? ((ad.add (n.toNat * 3)).add j) = some v := fun u e j v hv => by
      rw [add_add]; exact e.cell (fun h => h) (hc j v hv)
    refine ⟨fun u => Ext w u, e2, _, fun u e => (bk.ext e).cell0 rfl, _, _, _, fun u e => (h.ext e).bp.cell rfl, _, fun u e => (h.ext e).bn.cell0 rfl, ad, hA, ⟨hb.1, hb.2⟩, _, fun u e => cell u e 0 _ rfl, _, fun u e => cell u e 1 _ rfl, _, fun u e => cell u e 2 _ rfl, f, _, _, rfl, hq.1, ?_⟩
    refine (hq.2 u2 p.curs[n.toNat]).mono ?_
    rintro _ u3 ⟨rfl, e3⟩
    have e3 := e2.trans' e3
    exact ⟨_, rfl, e3, e3, by rw [hcur]; rfl, e3⟩
theorem field10_spec (h : FCtx w p a t n g g1 g2 g3) : CallsV Tryd.prog 58 #[bptr g3, bptr g, bptr g2] w fun r w' => r = .bool (below n p.consts.length && decide ((constAt p n).k = 2)) ∧ Ext w w' := by
  refine code_field_10.calls okay ?_
  unfold code_field_10.W
  refine ⟨_, h.bb.cell0 rfl, _, _, _, h.bp.cell rfl, _, _, _, rfl, by kernel_rfl, ?_⟩
  refine (below_spec _ g2 p.consts.length).mono ?_
  rintro _ u ⟨k1, rfl, bk1, e1⟩
  refine ⟨_, rfl, _, _, _, rfl, by kernel_rfl, ?_⟩
  refine (below1_spec (h.ext e1).bn bk1).mono ?_
  rintro _ u2 ⟨rfl, e2⟩
  have e2 := e1.trans' e2
  refine ⟨_, rfl, ?_⟩
  cases hb : below n p.consts.length with
  | false => rw [cond_false]; exact ⟨rfl, e2⟩
  | true =>
    rw [cond_true]
    simp only [below, Bool.and_eq_true, decide_eq_true_eq] at hb
    have hlt : n.toNat < p.consts.length := by omega
    obtain ⟨ad, hA, cs, hrep, hc⟩ := h.P.consts.get1 hlt
    have hcs : cs = vc p.consts[n.toNat] := hrep
    subst hcs
    have hcur : constAt p n = p.consts[n.toNat] := by simp [constAt, hlt]
    exact ⟨_, _, _, (h.ext e2).bp.cell rfl, _, (h.ext e2).bn.cell0 rfl, ad, hA, ⟨hb.1, hb.2⟩, _, by rw [add_add]; exact e2.cell (fun h => h) (hc 0 _ rfl), by rw [hcur]; rfl, e2⟩
end
end Go.Proofs.YtaifphjenebgoaaDoor
/- Layer 15 (code): may a number be what a letter says. (Printed in part by gen7.py.) -/
set_option linter.unusedVariables false
set_option linter.unusedSimpArgs false
namespace Go.Proofs.YtaifphjenebgoaaDoor
open Go Go.Sx R1 K15
theorem getM_setM {α : Type} [DecidableEq α] (a : α) (v : Value) (c : α) : ∀ l : List (α × Value), getM (setM l a v) c = if c = a then some v else getM l c
  | [] => by simp only [setM, getM]
  | (x, u) :: l => by
    by_cases h : a = x
    · subst h
      by_cases hc : c = a <;> simp [setM, getM, hc]
    · rw [setM, if_neg h, getM, getM, getM_setM a v c l]
      by_cases hc : c = x
      · subst hc
        rw [if_pos rfl, if_pos rfl, if_neg (fun e => h e.symm)]
      · rw [if_neg hc, if_neg hc]
/-- a function value that answers b, as long as one block stays as it is -/
def AnsF (w1 u : World) (v : Value) (b : Bool) : Prop :=
  ∃ (fid : FuncId) (captured : Array Value) (k : Nat) (cur : List Value), v = .func (.func fid) #[] captured ∧ bodied Tryd.prog fid = true ∧ Blk u k cur ∧
    ∀ u', Ext w1 u' → Blk u' k cur → CallsV Tryd.prog fid captured u' fun r w' => r = .bool b ∧ Ext u' w'
theorem AnsF.keep {w1 u u' : World} {v : Value} {b : Bool} {S : Nat → Prop} (h : AnsF w1 u v b) (f : Fr S u u') (hS : ∀ k cur, Blk u k cur → ¬ S k) : AnsF w1 u' v b := by
  obtain ⟨fid, cap, k, cur, h1, h2, h3, h4⟩ := h
  exact ⟨fid, cap, k, cur, h1, h2, h3.keep f (hS k cur h3), h4⟩
theorem AnsF.ext {w1 u u' : World} {v : Value} {b : Bool} (h : AnsF w1 u v b) (e : Ext u u') : AnsF w1 u' v b := h.keep e fun _ _ _ h => h
abbrev kf : Int → Value := fun a => Value.int .u8 a
theorem mapk_apart {u : World} {M : Nat} {l : List (Int × Value)} (h : MapK kf u M l) (k : Nat) (cur : List Value) (hb : Blk u k cur) : ¬ (k = M) := by
  rintro rfl
  obtain ⟨es, c, h1, _⟩ := h
  obtain ⟨e, h2⟩ := hb
  rw [h1] at h2; cases h2
/-- what is so behind each of the operations -/
def GF (w1 : World) (ans : Int → Bool) (calls : List (Nat × Nat × Int)) (ins : List (Nat × Int)) (D : Nat → Bool) (ν : Nat → Value) (u : World) : Prop :=
  Ext w1 u ∧ (∀ p ∈ calls, D p.1 = true → AnsF w1 u (ν p.2.1) (ans p.2.2)) ∧ (∀ p ∈ ins, D p.1 = true → D 0 = true) ∧
  (D 0 = true → ∃ M l, ν 14 = .map (some M) ∧ w1.heap.size ≤ M ∧ MapK kf u M l ∧ (∀ c v, getM l c = some v → AnsF w1 u v (ans c)) ∧ ∀ p ∈ ins, D p.1 = true → (getM l p.2).isSome = true)
theorem setD_ne {D : Nat → Bool} {i j : Nat} (h : j ≠ i) : setD D i j = D j := by
  have : Nat.beq j i = false := by cases hb : Nat.beq j i with | false => rfl | true => exact absurd (Nat.eq_of_beq_eq_true hb) h
  simp [setD, this]
theorem setD_eq {D : Nat → Bool} {i : Nat} : setD D i i = true := by simp [setD]
theorem setD_case {D : Nat → Bool} {i j : Nat} (h : setD D i j = true) : j = i ∨ (j ≠ i ∧ D j = true) := by
  by_cases hj : j = i
  · exact .inl hj
  · rw [setD_ne hj] at h; exact .inr ⟨hj, h⟩
theorem setNuV_ne {ν : Nat → Value} {d t : Nat} {v : Value} (h : t ≠ d) : setNuV ν (some d) v t = ν t := by
  have : Nat.beq t d = false := by cases hb : Nat.beq t d with | false => rfl | true => exact absurd (Nat.eq_of_beq_eq_true hb) h
  simp [setNuV, this]
theorem setNuV_eq {ν : Nat → Value} {d : Nat} {v : Value} : setNuV ν (some d) v d = v := by simp [setNuV]
theorem keyLet : KeyF Tryd.prog 5 (.int .u8) kf := keyInt (by kernel_rfl)
theorem mapLet : und Tryd.prog 96 = some (.map 5 33) := by kernel_rfl
def tcalls : List (Nat × Nat × Int) := [(6, 19, 114), (12, 24, 107), (17, 28, 98), (23, 33, 115), (29, 38, 116), (35, 43, 99), (38, 45, 50), (41, 47, 49), (44, 49, 102), (47, 51, 120), (56, 56, 105), (59, 58, 108), (62, 60, 119)]
def tins : List (Nat × Int) := [(2, 45), (7, 114), (13, 107), (18, 98), (24, 115), (30, 116), (36, 99), (39, 50), (42, 49), (45, 102), (48, 120), (50, 106), (52, 110), (54, 109), (57, 105), (60, 108), (63, 119), (65, 113)]
section
variable {w1 : World} {ans : Int → Bool} {D : Nat → Bool} {ν : Nat → Value} {u : World}
theorem tc_ne : ∀ p ∈ tcalls, p.1 ≠ 0 ∧ p.2.1 ≠ 14 := by decide
theorem ti_ne : ∀ p ∈ tins, p.1 ≠ 0 := by decide
theorem G_map (h : GF w1 ans tcalls tins D ν u) (h0 : D 0 = false) : GF w1 ans tcalls tins (setD D 0) (setNuV ν (some 14) (.map (some u.heap.size))) (u.alloc (.map #[] 0)) := by
  have e : Ext u (u.alloc (.map #[] 0)) := Fr.alloc NoB _ _
  refine ⟨h.1.trans' e, fun p hp hd => ?_, fun _ _ _ => setD_eq, fun _ => ⟨_, [], setNuV_eq, h.1.size, MapK.new _ _, fun c v hv => (by cases hv), fun p hp hd => ?_⟩⟩
  · obtain ⟨n1, n2⟩ := tc_ne p hp
    rw [setD_ne n1] at hd
    rw [setNuV_ne n2]
    exact (h.2.1 p hp hd).ext e
  · rw [setD_ne (ti_ne p hp)] at hd
    have := h.2.2.1 p hp hd
    rw [h0] at this; cases this
theorem G_call {i t : Nat} {c : Int} (hm : (∀ p ∈ tcalls, (p.1 = i → p.2.1 = t) ∧ (p.2.1 = t → p.2.2 = c)) ∧ (∀ p ∈ tins, p.1 ≠ i)) (hn : i ≠ 0 ∧ t ≠ 14) (h : GF w1 ans tcalls tins D ν u) {u' : World} (e : Ext u u') {v : Value} (ha : AnsF w1 u' v (ans c)) :
    GF w1 ans tcalls tins (setD D i) (setNuV ν (some t) v) u' := by
  refine ⟨h.1.trans' e, fun p hp hd => ?_, fun p hp hd => ?_, fun hd => ?_⟩
  · obtain ⟨m1, m2⟩ := hm.1 p hp
    by_cases ht : p.2.1 = t
    · rw [ht, setNuV_eq, m2 ht]; exact ha
    · rw [setNuV_ne ht]
      rcases setD_case hd with hi | ⟨_, hd⟩
      · exact absurd (m1 hi) ht
      · exact (h.2.1 p hp hd).ext e
  · rw [setD_ne (hm.2 p hp)] at hd
    rw [setD_ne (fun e => hn.1 e.symm)]
    exact h.2.2.1 p hp hd
  · rw [setD_ne (fun e => hn.1 e.symm)] at hd
    obtain ⟨M, l, h1, h2, h3, h4, h5⟩ := h.2.2.2 hd
    refine ⟨M, l, by rw [setNuV_ne (fun e => hn.2 e.symm)]; exact h1, h2, h3.ext e, fun c v hv => (h4 c v hv).ext e, fun p hp hd => h5 p hp ?_⟩
    rw [setD_ne (hm.2 p hp)] at hd; exact hd
theorem G_ins {i : Nat} {c : Int} (hm : (∀ p ∈ tins, p.1 = i → p.2 = c) ∧ ∀ p ∈ tcalls, p.1 ≠ i) (hn : i ≠ 0) (h : GF w1 ans tcalls tins D ν u) (h0 : D 0 = true) {v : Value} (ha : AnsF w1 u v (ans c)) :
    ∃ M, ν 14 = .map M ∧ ∃ w', RunsTo Tryd.prog (Instr.mapUpdate 96 (.map M) (.int .u8 c) v) u () w' ∧ GF w1 ans tcalls tins (setD D i) (setNuV ν none undef) w' := by
  obtain ⟨M, l, h1, h2, h3, h4, h5⟩ := h.2.2.2 h0
  obtain ⟨w', hr, hm', hf⟩ := h3.update keyLet mapLet c v
  have hap := mapk_apart h3
  refine ⟨_, h1, w', hr, h.1.trans hf (fun _ _ h => h) (fun k hk e => absurd hk (by omega)), fun p hp hd => ?_, fun p hp hd => ?_, fun _ => ⟨M, _, h1, h2, hm', fun c' v' hv => ?_, fun p hp hd => ?_⟩⟩
  · rw [setD_ne (hm.2 p hp)] at hd
    exact (h.2.1 p hp hd).keep hf hap
  · rw [setD_ne (fun e => hn e.symm)]; exact h0
  · rw [getM_setM] at hv
    split at hv
    · rename_i e; cases hv; subst e; exact ha.keep hf hap
    · exact (h4 c' v' hv).keep hf hap
  · rw [getM_setM]
    by_cases hpc : p.2 = c
    · rw [if_pos hpc]; rfl
    · rw [if_neg hpc]
      rcases setD_case hd with hi | ⟨_, hd⟩
      · exact absurd (hm.1 p hp hi) hpc
      · exact h5 p hp hd
end
section
variable {w1 : World} {p : Prog} {a : PAd} {t n : Int} {g g1 g2 g3 : Nat}
theorem ans_below (hc : FCtx w1 p a t n g g1 g2 g3) {u : World} (e : Ext w1 u) {k : Nat} {high : Int} (bk : Blk u k [.int .i64 high]) {b : Bool} (hb : b = below n high) :
    AnsF w1 u (.func (.func 48) #[] #[bptr g2, bptr k]) b :=
  ⟨_, _, k, _, rfl, by kernel_rfl, bk, fun u' e' b' => by rw [hb]; exact below1_spec (hc.ext e').bn b'⟩
theorem ans_cur (hc : FCtx w1 p a t n g g1 g2 g3) {u : World} (e : Ext w1 u) {f : FuncId} {q : Cur → Bool} (hq : AsksC f q) {k : Nat} (bk : Blk u k [.func (.func f) #[] #[]]) {b : Bool} (hb : b = (below n p.curs.length && q (curAt p n))) :
    AnsF w1 u (.func (.func 50) #[] #[bptr g3, bptr g, bptr k, bptr g2]) b :=
  ⟨_, _, k, _, rfl, by kernel_rfl, bk, fun u' e' b' => by rw [hb]; exact cursor1_spec (hc.ext e') hq b'⟩
end
theorem letters_in : ∀ l ∈ letters, ∃ q ∈ tins, q.2 = l := by decide
set_option maxRecDepth 10000 in
theorem field_spec {w : World} {p : Prog} {a : PAd} (h : PIm w p a) (t l n : Int) (hl : l ∈ letters) :
    CallsV Tryd.prog 20 #[pagg p a, .int .i64 t, .int .u8 l, .int .i64 n] w fun r w' => r = .bool (fieldP p t l n) ∧ Ext w w' := by
  refine code_field.calls okay ?_
  unfold code_field.W
  intro g wa fa g1 wb fb g2 wc fc g3 wd fd
  refine ⟨rfl, rfl, fd.blk.stOK [_] 0 (by simp), fun w1 hw1 => ?_⟩
  have ed : Ext wc wd := fd.ext
  have hc : FCtx w1 p a t n g g1 g2 g3 := by
    have k1 : ∀ {k : Nat} {cur : List Value}, Blk wc k cur → Blk w1 k cur := fun {k cur} b => by
      rw [hw1]
      exact (b.ext ed).keep (Fr.setAll (g := g3) (o := 0) _ 0 wd) (fun e => by have := fd.ge; have := b.lt; omega)
    refine ⟨?_, k1 ((fa.blk.ext fb.ext).ext fc.ext), k1 (fb.blk.ext fc.ext), k1 fc.blk, ?_⟩
    · rw [hw1]
      exact h.ext (Ext.setAll (((fa.ext.trans' fb.ext).trans' fc.ext).trans' ed) (Nat.le_trans (((fa.ext.trans' fb.ext).trans' fc.ext).size) fd.ge) _ _)
    · rw [hw1]; exact Blk.setAll (o := 0) [_] 0 fd.blk
  have e0 : Ext w w1 := by rw [hw1]; exact Ext.setAll (((fa.ext.trans' fb.ext).trans' fc.ext).trans' ed) (Nat.le_trans (((fa.ext.trans' fb.ext).trans' fc.ext).size) fd.ge) _ _
  clear hw1 fa fb fc fd ed
  refine ⟨fun u => Ext w1 u, Fr.drew NoB w1, _, fun u e => (hc.ext e).bb.cell0 rfl, _, fun u e => (hc.ext e).bp.cell rfl, _, fun u e => (hc.ext e).bb.cell0 rfl, _, _, _, fun u e => (hc.ext e).bp.cell rfl, _, fun u e => (hc.ext e).bb.cell0 rfl, _, fun u e => (hc.ext e).bp.cell rfl,
    _, fun u e => (hc.ext e).bb.cell0 rfl, _, _, _, fun u e => (hc.ext e).bp.cell rfl, _, fun u e => (hc.ext e).bb.cell0 rfl, _, _, _, fun u e => (hc.ext e).bp.cell rfl, _, fun u e => (hc.ext e).bb.cell0 rfl, _, _, _, fun u e => (hc.ext e).bp.cell rfl,
    _, fun u e => (hc.ext e).bb.cell0 rfl, _, fun u e => (hc.ext e).bb.cell0 rfl, _, fun u e => (hc.ext e).bb.cell0 rfl, _, fun u e => (hc.ext e).bb.cell0 rfl, GF w1 (fun c => fieldP p t c n) tcalls tins, ?_, fun D ν u hG => hG.1, ?_, ?_⟩
  · intro ν
    exact ⟨Fr.drew NoB w1, fun _ _ h => (by cases h), fun _ _ h => (by cases h), fun h => (by cases h)⟩
  · refine ⟨?_, ?_, ?_, ?_, ?_, ?_, ?_, ?_, ?_, ?_, ?_, ?_, ?_, ?_, ?_, ?_, ?_, ?_, ?_, ?_, ?_, ?_, ?_, ?_, ?_, ?_, ?_, ?_, ?_, ?_, ?_, ?_⟩
    · intro D ν u hG h0
      exact ⟨_, _, makeMap_run _ _, G_map hG h0⟩
    · intro D ν u hG _ h0
      exact G_ins (i := 2) (c := 45) (by decide) (by decide) hG h0 ⟨_, _, _, _, rfl, by kernel_rfl, (hc.ext hG.1).bn, fun u e _ => by
        refine (field3_spec (hc.ext e)).mono ?_
        rintro r w' ⟨rfl, e1⟩
        exact ⟨by simp [fieldP], e1⟩⟩
    · intro D ν u hG h0
      refine ⟨_, _, _, rfl, by kernel_rfl, (below_spec u g2 _).mono ?_⟩
      rintro _ u1 ⟨k, rfl, bk, e⟩
      exact ⟨_, rfl, G_call (i := 6) (t := 19) (c := 114) (by decide) (by decide) hG e (ans_below hc (hG.1.trans' e) bk (by simp [fieldP]))⟩
    · intro D ν u hG _ h0 h1
      exact G_ins (i := 7) (c := 114) (by decide) (by decide) hG h0 (hG.2.1 (6, 19, 114) (by decide) h1)
    · intro D ν u hG h0 _
      refine ⟨_, _, _, rfl, by kernel_rfl, (below_spec u g2 _).mono ?_⟩
      rintro _ u1 ⟨k, rfl, bk, e⟩
      exact ⟨_, rfl, G_call (i := 12) (t := 24) (c := 107) (by decide) (by decide) hG e (ans_below hc (hG.1.trans' e) bk (by simp [fieldP]))⟩
    · intro D ν u hG _ h0 h1
      exact G_ins (i := 13) (c := 107) (by decide) (by decide) hG h0 (hG.2.1 (12, 24, 107) (by decide) h1)
    · intro D ν u hG h0 _
      refine ⟨_, _, _, rfl, by kernel_rfl, (below_spec u g2 _).mono ?_⟩
      rintro _ u1 ⟨k, rfl, bk, e⟩
      exact ⟨_, rfl, G_call (i := 17) (t := 28) (c := 98) (by decide) (by decide) hG e (ans_below hc (hG.1.trans' e) bk (by simp [fieldP]))⟩
    · intro D ν u hG _ h0 h1
      exact G_ins (i := 18) (c := 98) (by decide) (by decide) hG h0 (hG.2.1 (17, 28, 98) (by decide) h1)
    · intro D ν u hG h0 _
      refine ⟨_, _, _, rfl, by kernel_rfl, (below_spec u g2 _).mono ?_⟩
      rintro _ u1 ⟨k, rfl, bk, e⟩
      exact ⟨_, rfl, G_call (i := 23) (t := 33) (c := 115) (by decide) (by decide) hG e (ans_below hc (hG.1.trans' e) bk (by simp [fieldP]))⟩
    · intro D ν u hG _ h0 h1
      exact G_ins (i := 24) (c := 115) (by decide) (by decide) hG h0 (hG.2.1 (23, 33, 115) (by decide) h1)
    · intro D ν u hG h0 _
      refine ⟨_, _, _, rfl, by kernel_rfl, (below_spec u g2 _).mono ?_⟩
      rintro _ u1 ⟨k, rfl, bk, e⟩
      exact ⟨_, rfl, G_call (i := 29) (t := 38) (c := 116) (by decide) (by decide) hG e (ans_below hc (hG.1.trans' e) bk (by simp [fieldP]))⟩
    · intro D ν u hG _ h0 h1
      exact G_ins (i := 30) (c := 116) (by decide) (by decide) hG h0 (hG.2.1 (29, 38, 116) (by decide) h1)
    · intro D ν u hG h0 _
      refine ⟨_, _, _, rfl, by kernel_rfl, (below_spec u g2 _).mono ?_⟩
      rintro _ u1 ⟨k, rfl, bk, e⟩
      exact ⟨_, rfl, G_call (i := 35) (t := 43) (c := 99) (by decide) (by decide) hG e (ans_below hc (hG.1.trans' e) bk (by simp [fieldP]))⟩
    · intro D ν u hG _ h0 h1
      exact G_ins (i := 36) (c := 99) (by decide) (by decide) hG h0 (hG.2.1 (35, 43, 99) (by decide) h1)
    · intro D ν u hG h0 _
      refine ⟨_, _, _, rfl, by kernel_rfl, (below_spec u g2 _).mono ?_⟩
      rintro _ u1 ⟨k, rfl, bk, e⟩
      exact ⟨_, rfl, G_call (i := 38) (t := 45) (c := 50) (by decide) (by decide) hG e (ans_below hc (hG.1.trans' e) bk (by simp [fieldP]))⟩
    · intro D ν u hG _ h0 h1
      exact G_ins (i := 39) (c := 50) (by decide) (by decide) hG h0 (hG.2.1 (38, 45, 50) (by decide) h1)
    · intro D ν u hG h0 _
      refine ⟨_, _, _, rfl, by kernel_rfl, (below_spec u g2 _).mono ?_⟩
      rintro _ u1 ⟨k, rfl, bk, e⟩
      exact ⟨_, rfl, G_call (i := 41) (t := 47) (c := 49) (by decide) (by decide) hG e (ans_below hc (hG.1.trans' e) bk (by simp [fieldP]))⟩
    · intro D ν u hG _ h0 h1
      exact G_ins (i := 42) (c := 49) (by decide) (by decide) hG h0 (hG.2.1 (41, 47, 49) (by decide) h1)
    · intro D ν u hG h0 _
      refine ⟨_, _, _, rfl, by kernel_rfl, (below_spec u g2 _).mono ?_⟩
      rintro _ u1 ⟨k, rfl, bk, e⟩
      exact ⟨_, rfl, G_call (i := 44) (t := 49) (c := 102) (by decide) (by decide) hG e (ans_below hc (hG.1.trans' e) bk (by simp [fieldP]))⟩
    · intro D ν u hG _ h0 h1
      exact G_ins (i := 45) (c := 102) (by decide) (by decide) hG h0 (hG.2.1 (44, 49, 102) (by decide) h1)
    · intro D ν u hG h0 _
      refine ⟨_, _, _, rfl, by kernel_rfl, (below_spec u g2 _).mono ?_⟩
      rintro _ u1 ⟨k, rfl, bk, e⟩
      exact ⟨_, rfl, G_call (i := 47) (t := 51) (c := 120) (by decide) (by decide) hG e (ans_below hc (hG.1.trans' e) bk (by simp [fieldP]))⟩
    · intro D ν u hG _ h0 h1
      exact G_ins (i := 48) (c := 120) (by decide) (by decide) hG h0 (hG.2.1 (47, 51, 120) (by decide) h1)
    · intro D ν u hG _ h0
      exact G_ins (i := 50) (c := 106) (by decide) (by decide) hG h0 ⟨_, _, _, _, rfl, by kernel_rfl, (hc.ext hG.1).bn, fun u e _ => by
        refine (field4_spec (hc.ext e)).mono ?_
        rintro r w' ⟨rfl, e1⟩
        exact ⟨by simp [fieldP], e1⟩⟩
    · intro D ν u hG _ h0
      exact G_ins (i := 52) (c := 110) (by decide) (by decide) hG h0 ⟨_, _, _, _, rfl, by kernel_rfl, (hc.ext hG.1).bn, fun u e _ => by
        refine (field5_spec (hc.ext e)).mono ?_
        rintro r w' ⟨rfl, e1⟩
        exact ⟨by simp [fieldP], e1⟩⟩
    · intro D ν u hG _ h0
      exact G_ins (i := 54) (c := 109) (by decide) (by decide) hG h0 ⟨_, _, _, _, rfl, by kernel_rfl, (hc.ext hG.1).bn, fun u e _ => by
        refine (field6_spec (hc.ext e)).mono ?_
        rintro r w' ⟨rfl, e1⟩
        exact ⟨by simp [fieldP], e1⟩⟩
    · intro D ν u hG h0 _
      refine ⟨_, _, _, rfl, by kernel_rfl, (cursor_spec u _).mono ?_⟩
      rintro _ u1 ⟨k, rfl, bk, e⟩
      exact ⟨_, rfl, G_call (i := 56) (t := 56) (c := 105) (by decide) (by decide) hG e (ans_cur hc (hG.1.trans' e) ⟨by kernel_rfl, field7_spec⟩ bk (by simp [fieldP]))⟩
    · intro D ν u hG _ h0 h1
      exact G_ins (i := 57) (c := 105) (by decide) (by decide) hG h0 (hG.2.1 (56, 56, 105) (by decide) h1)
    · intro D ν u hG h0 _
      refine ⟨_, _, _, rfl, by kernel_rfl, (cursor_spec u _).mono ?_⟩
      rintro _ u1 ⟨k, rfl, bk, e⟩
      exact ⟨_, rfl, G_call (i := 59) (t := 58) (c := 108) (by decide) (by decide) hG e (ans_cur hc (hG.1.trans' e) ⟨by kernel_rfl, field8_spec⟩ bk (by simp [fieldP]))⟩
    · intro D ν u hG _ h0 h1
      exact G_ins (i := 60) (c := 108) (by decide) (by decide) hG h0 (hG.2.1 (59, 58, 108) (by decide) h1)
    · intro D ν u hG h0 _
      refine ⟨_, _, _, rfl, by kernel_rfl, (cursor_spec u _).mono ?_⟩
      rintro _ u1 ⟨k, rfl, bk, e⟩
      exact ⟨_, rfl, G_call (i := 62) (t := 60) (c := 119) (by decide) (by decide) hG e (ans_cur hc (hG.1.trans' e) ⟨by kernel_rfl, field9_spec⟩ bk (by simp [fieldP]))⟩
    · intro D ν u hG _ h0 h1
      exact G_ins (i := 63) (c := 119) (by decide) (by decide) hG h0 (hG.2.1 (62, 60, 119) (by decide) h1)
    · intro D ν u hG _ h0
      exact G_ins (i := 65) (c := 113) (by decide) (by decide) hG h0 ⟨_, _, _, _, rfl, by kernel_rfl, (hc.ext hG.1).bn, fun u e _ => by
        refine (field10_spec (hc.ext e)).mono ?_
        rintro r w' ⟨rfl, e1⟩
        exact ⟨by simp [fieldP], e1⟩⟩
  · intro D ν u d0 d2 d6 d7 d12 d13 d17 d18 d23 d24 d29 d30 d35 d36 d38 d39 d41 d42 d44 d45 d47 d48 d50 d52 d54 d56 d57 d59 d60 d62 d63 d65 hG
    obtain ⟨M, m, h1, h2, h3, h4, h5⟩ := hG.2.2.2 d0
    obtain ⟨q, hq, hql⟩ := letters_in l hl
    have hd : ∀ q ∈ tins, D q.1 = true := fun q hq => by
      simp only [tins, List.mem_cons, List.mem_nil_iff, or_false] at hq
      rcases hq with rfl | rfl | rfl | rfl | rfl | rfl | rfl | rfl | rfl | rfl | rfl | rfl | rfl | rfl | rfl | rfl | rfl | rfl <;> assumption
    have hs := h5 q hq (hd q hq)
    rw [hql] at hs
    obtain ⟨v, hv⟩ := Option.isSome_iff_exists.1 hs
    obtain ⟨_, hr⟩ := h3.look keyLet mapLet l (z := Value.nilFunc) (fun w => by kernel_rfl)
    rw [hv] at hr
    obtain ⟨fid, cap, k, cur, rfl, hb, bk, hcall⟩ := h4 l v hv
    refine ⟨_, h1, _, _, hr, fid, _, _, rfl, hb, ?_⟩
    have := hcall u hG.1 bk
    simp only [List.nil_append, Array.toArray_toList]
    refine this.mono ?_
    rintro _ u' ⟨rfl, e⟩
    exact ⟨_, rfl, rfl, (e0.trans' hG.1).trans' e⟩
end Go.Proofs.YtaifphjenebgoaaDoor
/- Layer 15 (code): what hangs on two numbers of an instruction. -/
set_option linter.unusedVariables false
set_option linter.unusedSimpArgs false
namespace Go.Proofs.YtaifphjenebgoaaDoor
open Go Go.Sx R1 K15
theorem fields_of {p : Prog} {t : Int} {i : Ins} {x y z u : UInt8} (hs : shapeP i.op = [x, y, z, u]) (h : fieldsP p t i = true) :
    fieldP p t x.toNat i.a = true ∧ fieldP p t y.toNat i.b = true ∧ fieldP p t z.toNat i.c = true ∧ fieldP p t u.toNat i.d = true := by
  unfold fieldsP at h
  rw [hs] at h
  simp only [fieldsL, Bool.and_eq_true] at h
  exact h
theorem field_r {p : Prog} {t n : Int} (h : fieldP p t ((114 : UInt8).toNat : Int) n = true) : 0 ≤ n ∧ n < p.regs := by
  have h : fieldP p t 114 n = true := h
  simpa [fieldP, below] using h
theorem field_s {p : Prog} {t n : Int} (h : fieldP p t ((115 : UInt8).toNat : Int) n = true) : 0 ≤ n ∧ n < p.sorts.length := by
  have h : fieldP p t 115 n = true := h
  simpa [fieldP, below] using h
section
variable {w : World} {p : Prog} {a : PAd}
theorem fits_spec {g : Nat} (bp : Blk w g (pcs p a)) {f m : Int} (hr : 0 ≤ p.regs ∧ p.regs ≤ 250) (hf : 0 ≤ f ∧ f < p.regs) :
    CallsV Tryd.prog 59 #[.int .i64 f, .int .i64 m, .pointer (some ⟨g, 0, none⟩)] w fun r w' => r = .bool (fitsP p f m) ∧ w' = w := by
  refine code_runs_1.calls okay ?_
  unfold code_runs_1.W
  exact ⟨_, bp.cell rfl, by rw [wi _ (by omega) (by omega)]; rfl, rfl⟩
theorem insAt_imm (h : PIm w p a) {t : Nat} (ht : t < p.code.length) : ∃ ad, a.dA = some ad ∧ ∀ (u : World), Ext w u → ∀ (j : Nat) (v : Value), [Value.int .u8 p.code[t].op, .int .i64 p.code[t].a, .int .i64 p.code[t].b, .int .i64 p.code[t].c, .int .i64 p.code[t].d][j]? = some v → u.cell? ((ad.add (t * 5)).add j) = some v := by
  obtain ⟨ad, hA, cs, hrep, hc⟩ := h.code.get1 ht
  have hcs : cs = [.int .u8 p.code[t].op, .int .i64 p.code[t].a, .int .i64 p.code[t].b, .int .i64 p.code[t].c, .int .i64 p.code[t].d] := hrep
  subst hcs
  exact ⟨ad, hA, fun u e j v hv => by rw [add_add]; exact e.cell (fun h => h) (hc j v hv)⟩
theorem srtAt_imm (h : PIm w p a) {n : Int} (hn : 0 ≤ n ∧ n < p.sorts.length) : ∃ ad, a.sA = some ad ∧ ∃ A c, ∀ (u : World), Ext w u → ∀ (j : Nat) (v : Value), [Value.slice A (srtAt p n).desc.length c, .int .i64 (srtAt p n).cols, .bool (srtAt p n).dist][j]? = some v → u.cell? ((ad.add (n.toNat * 3)).add j) = some v := by
  have hlt : n.toNat < p.sorts.length := by omega
  obtain ⟨ad, hA, cs, hrep, hc⟩ := h.sorts.get1 hlt
  have e : srtAt p n = p.sorts[n.toNat] := by simp [srtAt, hlt]
  obtain ⟨A, c, hcs, _⟩ := id hrep
  subst hcs
  rw [e]
  exact ⟨ad, hA, A, c, fun u e j v hv => by rw [add_add]; exact e.cell (fun h => h) (hc j v hv)⟩
set_option maxRecDepth 10000 in
theorem runs_spec (h : PIm w p a) (hT : Tab w) {t : Nat} (ht : t < p.code.length) (hr : 0 ≤ p.regs ∧ p.regs ≤ 250) (hf : fieldsP p t p.code[t] = true) :
    CallsV Tryd.prog 21 #[pagg p a, .int .i64 t] w fun r w' => r = .bool (runsP p t p.code[t]) ∧ Ext w w' := by
  refine code_runs.calls okay ?_
  unfold code_runs.W
  intro g wa fa
  obtain ⟨ad, hA, hc⟩ := insAt_imm h ht
  refine ⟨_, _, _, fa.blk.cell rfl, ad, hA, ⟨by omega, by omega⟩, _, by rw [Int.toNat_natCast]; exact hc wa fa.ext 0 _ rfl, _, by rw [Int.toNat_natCast]; exact hc wa fa.ext 1 _ rfl, _, by rw [Int.toNat_natCast]; exact hc wa fa.ext 2 _ rfl,
    _, by rw [Int.toNat_natCast]; exact hc wa fa.ext 3 _ rfl, _, by rw [Int.toNat_natCast]; exact hc wa fa.ext 4 _ rfl, ?_⟩
  intro g1 wb fb
  refine ⟨fb.blk.stOK [_, _, _, _, _] 0 (by simp), fun w1 hw1 => ?_⟩
  have bi : Blk w1 g1 [.int .u8 p.code[t].op, .int .i64 p.code[t].a, .int .i64 p.code[t].b, .int .i64 p.code[t].c, .int .i64 p.code[t].d] := by rw [hw1]; exact Blk.setAll (o := 0) [_, _, _, _, _] 0 fb.blk
  have bp : Blk w1 g (pcs p a) := by
    rw [hw1]; exact (fa.blk.ext fb.ext).keep (Fr.setAll (g := g1) (o := 0) _ 0 wb) (fun e => by have := fb.ge; have := fa.blk.lt; omega)
  have e1 : Ext w w1 := by rw [hw1]; exact Ext.setAll (fa.ext.trans' fb.ext) (Nat.le_trans fa.ext.size fb.ge) _ _
  clear hw1 fa fb hc
  generalize hi : p.code[t] = i at *
  unfold runsP
  refine ⟨_, bi.cell rfl, brd (fun h8 => ?_) (fun h8 => ?_)⟩
  · rw [if_pos h8]
    obtain ⟨q1, q2, q3, q4⟩ := fields_of (x := 114) (y := 114) (z := 109) (u := 102) (by rw [h8]; decide) hf
    refine ⟨_, bi.cell rfl, (Func_spec (hT.ext e1) i.d).mono ?_⟩
    rintro _ u ⟨rfl, e2⟩
    have e := e1.trans' e2
    refine ⟨_, _, rfl, _, (bi.ext e2).cell rfl, brd (fun hq => ?_) (fun hq => ⟨by simp [hq], e⟩)⟩
    refine ⟨_, (bi.ext e2).cell rfl, _, (bi.ext e2).cell rfl, (fits_spec (bp.ext e2) hr (field_r q2)).mono ?_⟩
    rintro _ u' ⟨rfl, hu⟩
    obtain rfl : u = u' := hu.symm
    refine ⟨_, rfl, cbool (fun hq2 => ?_) (fun hq2 => ⟨by simp [hq, hq2], e⟩)⟩
    refine ⟨_, (bi.ext e2).cell rfl, (Known_spec u _ i.c).mono ?_⟩
    rintro _ u' ⟨rfl, hu⟩
    obtain rfl : u = u' := hu.symm
    refine ⟨_, rfl, ?_, e⟩
    rw [hq2, decide_eq_true hq, Bool.true_and, Bool.true_and]
    have : (nth fNames i.d).1 = fnAt i.d := by unfold nth fnAt; split <;> rfl
    rw [this]
  rw [if_neg h8]
  refine brd (fun h12 => ?_) (fun h12 => ?_)
  · rw [if_pos h12]
    obtain ⟨q1, q2, q3, q4⟩ := fields_of (x := 106) (y := 114) (z := 114) (u := 109) (by rw [h12]; decide) hf
    refine ⟨_, bi.cell rfl, _, bi.cell rfl, (fits_spec bp hr (field_r q2)).mono ?_⟩
    rintro _ u' ⟨rfl, hu⟩
    obtain rfl : w1 = u' := hu.symm
    refine ⟨_, rfl, cbool (fun hq2 => ?_) (fun hq2 => ⟨by simp [hq2], e1⟩)⟩
    refine ⟨_, bi.cell rfl, _, bi.cell rfl, (fits_spec bp hr (field_r q3)).mono ?_⟩
    rintro _ u' ⟨rfl, hu⟩
    obtain rfl : w1 = u' := hu.symm
    exact ⟨_, rfl, by simp [hq2], e1⟩
  rw [if_neg h12]
  refine ⟨fun x u => x = decide (i.op = 14 ∨ i.op = 16) ∧ u = w1, ?_, ?_⟩
  rotate_left
  · exact brd (fun h => ⟨by simp [h], rfl⟩) (fun h => ⟨by simp [h], rfl⟩)
  rintro x u ⟨rfl, hu⟩
  obtain rfl : w1 = u := hu.symm
  refine brd (fun h14 => ?_) (fun h14 => ?_)
  · rw [if_pos h14]
    obtain ⟨q1, q2, q3, q4⟩ := fields_of (x := 105) (y := 106) (z := 114) (u := 109) (by rcases h14 with h | h <;> rw [h] <;> decide) hf
    refine ⟨_, bi.cell rfl, _, bi.cell rfl, (fits_spec bp hr (field_r q3)).mono ?_⟩
    rintro _ u' ⟨rfl, hu⟩
    obtain rfl : w1 = u' := hu.symm
    exact ⟨_, rfl, rfl, e1⟩
  rw [if_neg h14]
  refine brd (fun h18 => ?_) (fun h18 => ?_)
  · rw [if_pos h18]
    exact ⟨_, bi.cell rfl, rfl, e1⟩
  rw [if_neg h18]
  refine brd (fun h23 => ?_) (fun h23 => ?_)
  · rw [if_pos h23]
    obtain ⟨q1, q2, q3, q4⟩ := fields_of (x := 114) (y := 115) (z := 120) (u := 45) (by rw [h23]; decide) hf
    have hs := field_s q2
    obtain ⟨ad, hA, A, c, hcell⟩ := srtAt_imm h hs
    exact ⟨fun u => Ext w1 u, Fr.drew NoB w1, _, fun u e => (bi.ext e).cell rfl, _, _, _, fun u e => (bp.ext e).cell rfl, _, fun u e => (bi.ext e).cell rfl, ad, hA, ⟨hs.1, hs.2⟩, _, fun u e => hcell u (e1.trans' e) 1 _ rfl, rfl, e1.drew⟩
  rw [if_neg h23]
  refine brd (fun h20 => ?_) (fun h20 => ?_)
  · rw [if_pos h20]
    obtain ⟨q1, q2, q3, q4⟩ := fields_of (x := 115) (y := 114) (z := 114) (u := 45) (by rw [h20]; decide) hf
    have hs := field_s q1
    obtain ⟨ad, hA, A, c, hcell⟩ := srtAt_imm h hs
    have ed : Ext w1 w1.drew := Fr.drew NoB w1
    refine ⟨fun u => Ext w1 u, ed, _, fun u e => (bi.ext e).cell rfl, _, _, _, fun u e => (bp.ext e).cell rfl, _, fun u e => (bi.ext e).cell rfl, ad, hA, ⟨hs.1, hs.2⟩, _, _, _, fun u e => hcell u (e1.trans' e) 0 _ rfl, (fits_spec (bp.ext ed) hr (field_r q2)).mono ?_⟩
    rintro _ u' ⟨rfl, hu⟩
    obtain rfl : w1.drew = u' := hu.symm
    refine ⟨_, rfl, ed, cbool (fun hq2 => ?_) (fun hq2 => ⟨by simp [hq2], e1.drew⟩)⟩
    refine ⟨fun u => Ext w1 u, ed, _, fun u e => (bi.ext e).cell rfl, _, _, _, fun u e => (bp.ext e).cell rfl, _, fun u e => (bi.ext e).cell rfl, ad, hA, ⟨hs.1, hs.2⟩, _, fun u e => hcell u (e1.trans' e) 1 _ rfl, (fits_spec (bp.ext ed) hr (field_r q3)).mono ?_⟩
    rintro _ u' ⟨rfl, hu⟩
    obtain rfl : w1.drew = u' := hu.symm
    exact ⟨_, rfl, ed, ed, by simp [hq2], e1.drew⟩
  rw [if_neg h20]
  refine brd (fun h27 => ?_) (fun h27 => ?_)
  · rw [if_pos h27]
    obtain ⟨q1, q2, q3, q4⟩ := fields_of (x := 114) (y := 45) (z := 45) (u := 45) (by rw [h27]; decide) hf
    refine ⟨_, bi.cell rfl, _, _, _, bp.cell rfl, (fits_spec bp hr (field_r q1)).mono ?_⟩
    rintro _ u' ⟨rfl, hu⟩
    obtain rfl : w1 = u' := hu.symm
    exact ⟨_, rfl, rfl, e1⟩
  rw [if_neg h27]
  refine ⟨fun x u => x = decide (i.op = 31 ∨ i.op = 32 ∨ i.op = 33 ∨ i.op = 34) ∧ u = w1, ?_, ?_⟩
  · rintro x u ⟨rfl, hu⟩
    obtain rfl : w1 = u := hu.symm
    refine brd (fun h31 => ?_) (fun h31 => ?_)
    · rw [if_pos h31]
      refine brd (fun h0 => ?_) (fun h0 => ⟨by rw [decide_eq_false h0]; rfl, e1⟩)
      exact ⟨_, _, _, bp.cell rfl, by rw [decide_eq_true h0, Bool.true_and]; congr 1; apply decide_eq_decide.2; omega, e1⟩
    · rw [if_neg h31]; exact ⟨rfl, e1⟩
  · refine brd (fun h => ⟨by simp [h], rfl⟩) (fun ha => brd (fun h => ⟨by simp [h], rfl⟩) (fun hb => brd (fun h => ⟨by simp [h], rfl⟩) (fun hc => ⟨by simp [ha, hb, hc], rfl⟩)))
end
end Go.Proofs.YtaifphjenebgoaaDoor
/- Layer 15 (code): Check. -/
set_option linter.unusedVariables false
set_option linter.unusedSimpArgs false
namespace Go.Proofs.YtaifphjenebgoaaDoor
open Go Go.Sx R1 K15
theorem lookS_or (o : Int) : ∀ l : List (Int × List UInt8), lookS l o = [] ∨ ∃ q ∈ l, lookS l o = q.2
  | [] => .inl rfl
  | (k, x) :: r => by
    rw [lookS]
    split
    · exact .inr ⟨(k, x), by simp, rfl⟩
    · rcases lookS_or o r with h | ⟨q, hq, h⟩
      · exact .inl h
      · exact .inr ⟨q, by simp [hq], h⟩
def four : List UInt8 → Bool
  | [x, y, z, u] => letters.contains (x.toNat : Int) && (letters.contains (y.toNat : Int) && (letters.contains (z.toNat : Int) && letters.contains (u.toNat : Int)))
  | _ => false
theorem shapes_four : shapes.all (fun q => four q.2) = true := by decide
theorem shape_four (o : Int) : shapeP o = [] ∨ ∃ x y z u : UInt8, shapeP o = [x, y, z, u] ∧ (x.toNat : Int) ∈ letters ∧ (y.toNat : Int) ∈ letters ∧ (z.toNat : Int) ∈ letters ∧ (u.toNat : Int) ∈ letters := by
  rcases lookS_or o shapes with h | ⟨q, hq, h⟩
  · exact .inl h
  · have e := List.all_eq_true.1 shapes_four q hq
    right
    rw [show shapeP o = q.2 from h]
    generalize q.2 = l at e
    match l, e with
    | [a, b, c, d], e =>
      simp only [four, Bool.and_eq_true, List.contains_iff_mem] at e
      exact ⟨a, b, c, d, rfl, e⟩
theorem bs_get (l : List UInt8) (k : Nat) (b : UInt8) (h : l[k]? = some b) : (bs l)[k]? = some b := by
  obtain ⟨hlt, rfl⟩ := List.getElem?_eq_some_iff.1 h
  have h1 : k < (bs l).size := by simpa [bs, ByteArray.size] using hlt
  rw [getElem?_pos (bs l) k h1]
  congr 1
def nums (i : Ins) : List Int := [i.a, i.b, i.c, i.d]
/-- are the numbers from the k-th on what the letters say? -/
def fieldsFrom (p : Prog) (t : Int) : List UInt8 → List Int → Bool
  | x :: l, n :: r => fieldP p t x.toNat n && fieldsFrom p t l r
  | _, _ => true
theorem fieldsFrom_eq {p : Prog} {t : Int} {i : Ins} {x y z u : UInt8} (h : shapeP i.op = [x, y, z, u]) : fieldsFrom p t [x, y, z, u] (nums i) = fieldsP p t i := by
  unfold fieldsP; rw [h]; simp [fieldsFrom, nums, fieldsL]
section
variable {w : World} {p : Prog} {a : PAd}
theorem okFrom_drop (p : Prog) (l : List Ins) (t : Nat) (h : t < l.length) : okFrom p t (l.drop t) = (okAt p t l[t] && okFrom p (t + 1) (l.drop (t + 1))) := by
  rw [List.drop_eq_getElem_cons h, okFrom]
set_option maxRecDepth 20000 in
theorem Check_spec (h : PIm w p a) (hT : Tab w) : CallsV Tryd.prog 8 #[pagg p a] w fun r w' => r = .int .i64 (if checkP p then 0 else 140) ∧ Ext w w' := by
  refine code_Check.calls okay ?_
  unfold code_Check.W
  intro g wa fa
  have cell : ∀ u, Ext wa u → ∀ (j : Nat) (v : Value), (pcs p a)[j]? = some v → u.cell? ((⟨g, 0, none⟩ : Addr).add j) = some v := fun u e j v hv => (fa.blk.ext e).cell (by simpa using hv)
  have er : Ext wa wa := .refl _ _
  refine ⟨_, cell wa er 0 _ rfl, _, cell wa er 1 _ rfl, _, cell wa er 2 _ rfl, _, _, _, cell wa er 3 _ rfl, _, _, _, cell wa er 4 _ rfl, _, _, _, cell wa er 5 _ rfl, _, _, _, cell wa er 6 _ rfl, _, _, _, cell wa er 7 _ rfl, _, _, _, cell wa er 8 _ rfl,
    (parts_spec (h.ext fa.ext)).mono ?_⟩
  rintro _ w1 ⟨rfl, e1⟩
  have fin : ∀ (b : Bool) (u : World) (x : Int), checkP p = b → Ext wa u → x = (if b then 0 else 140) → (Value.int .i64 x = .int .i64 (if checkP p then 0 else 140) ∧ Ext w u) := fun b u x hb e hx => ⟨by rw [hb, hx], fa.ext.trans' e⟩
  refine ⟨_, rfl, brnb (fun h0 => fin false _ _ (by simp [checkP, h0]) e1 rfl) (fun h0 => ?_)⟩
  refine ⟨_, _, _, cell w1 e1 8 _ rfl, brd (fun h1 => fin false _ _ (by simp [checkP, show ¬ 1 ≤ p.code.length by omega]) e1 rfl) (fun h1 => ?_)⟩
  have h1 : 1 ≤ p.code.length := by omega
  refine ⟨_, _, _, cell w1 e1 8 _ rfl, brd (fun h2 => fin false _ _ (by simp [checkP, show ¬ p.code.length ≤ 4000 by omega]) e1 rfl) (fun h2 => ?_)⟩
  have h2 : p.code.length ≤ 4000 := by omega
  have hlast : p.code.length - 1 < p.code.length := by omega
  obtain ⟨ad, hA, hc⟩ := insAt_imm (h.ext fa.ext) hlast
  have hw : IntKind.i64.wrap ((p.code.length : Int) - 1) = (p.code.length : Int) - 1 := wi _ (by omega) (by omega)
  refine ⟨_, _, _, cell w1 e1 8 _ rfl, _, _, _, cell w1 e1 8 _ rfl, ad, hA, ⟨by rw [hw]; omega, by rw [hw]; omega⟩, _, by rw [hw, show ((p.code.length : Int) - 1).toNat = p.code.length - 1 by omega]; exact hc w1 e1 0 _ rfl, ?_⟩
  have hl : p.code.getD (p.code.length - 1) I0 = p.code[p.code.length - 1] := by simp [List.getD, hlast]
  refine brn (fun h3 => fin false _ _ (by simp only [checkP, hl, decide_eq_false h3]; simp) e1 rfl) (fun h3 => ?_)
  clear hc hA
  have hall : checkP p = okFrom p 0 p.code := by simp only [checkP, hl, h0, decide_eq_true h1, decide_eq_true h2, decide_eq_true h3, Bool.true_and]
  have hr : 0 ≤ p.regs ∧ p.regs ≤ 250 := by
    simp only [partsP, within, Bool.and_eq_true, decide_eq_true_eq] at h0; omega
  refine ⟨_, _, _, cell w1 e1 8 _ rfl, fun x u => ∃ t : Nat, t ≤ p.code.length ∧ x = (t : Int) ∧ checkP p = okFrom p t (p.code.drop t) ∧ Ext wa u, fun x _ => ((p.code.length : Int) - x).toNat, ⟨0, by omega, rfl, by rw [hall]; rfl, e1⟩, ?_⟩
  rintro _ u ⟨t, ht, rfl, hq, e⟩
  refine brd (fun hlt => ?_) (fun hge => ?_)
  rotate_left
  · obtain rfl : t = p.code.length := by omega
    rw [List.drop_length] at hq
    exact fin true _ _ hq e rfl
  have hlt : t < p.code.length := by omega
  rw [okFrom_drop p p.code t hlt] at hq
  obtain ⟨ad, hA, hc⟩ := insAt_imm (h.ext fa.ext) hlt
  refine ⟨ad, hA, ⟨by omega, by omega⟩, _, by rw [Int.toNat_natCast]; exact hc u e 0 _ rfl, _, by rw [Int.toNat_natCast]; exact hc u e 1 _ rfl, _, by rw [Int.toNat_natCast]; exact hc u e 2 _ rfl, _, by rw [Int.toNat_natCast]; exact hc u e 3 _ rfl, _, by rw [Int.toNat_natCast]; exact hc u e 4 _ rfl, ?_⟩
  intro g1 wb fb
  refine ⟨fb.blk.stOK [_, _, _, _, _] 0 (by simp), fun wc hwc => ?_⟩
  have bi : Blk wc g1 [.int .u8 p.code[t].op, .int .i64 p.code[t].a, .int .i64 p.code[t].b, .int .i64 p.code[t].c, .int .i64 p.code[t].d] := by rw [hwc]; exact Blk.setAll (o := 0) [_, _, _, _, _] 0 fb.blk
  have ec : Ext wa wc := by rw [hwc]; exact Ext.setAll (e.trans' fb.ext) (Nat.le_trans e.size fb.ge) _ _
  clear hwc fb hc hA
  generalize hi : p.code[t] = i at *
  refine ⟨_, bi.cell rfl, (shape_spec wc i.op).mono ?_⟩
  rintro _ wd ⟨rfl, ed⟩
  have e' := ec.trans' ed
  refine ⟨_, rfl, ?_⟩
  rcases shape_four i.op with hs | ⟨x, y, z, v, hs, m1, m2, m3, m4⟩
  · rw [hs]
    refine brS (l := []) (l' := []) (fun _ => fin false _ _ ?_ e' rfl) (fun h => absurd rfl h)
    rw [hq]
    simp [okAt, fieldsP, hs, fieldsL]
  rw [hs]
  refine brS (l := [x, y, z, v]) (l' := []) (fun h => by cases h) (fun _ => ?_)
  have bi := bi.ext ed
  refine ⟨_, bi.cell rfl, _, bi.cell rfl, _, bi.cell rfl, _, bi.cell rfl, ?_⟩
  have hfe := fieldsFrom_eq (p := p) (t := (t : Int)) hs
  refine ⟨fun x' u => ∃ k : Nat, k ≤ 4 ∧ x' = (k : Int) ∧ fieldsP p t i = fieldsFrom p t ([x, y, z, v].drop k) ((nums i).drop k) ∧ Ext wa u, fun x' _ => (4 - x').toNat, ⟨0, by omega, rfl, by rw [← hfe]; rfl, e'⟩, ?_⟩
  rintro _ u1 ⟨k, hk, rfl, hf, e2⟩
  have cells : ∀ (Kp : World → Prop), Kp u1 → True := fun _ _ => trivial
  have go : ∀ (k : Nat) (l : UInt8) (n : Int) (u2 : World), [x, y, z, v][k]? = some l → (nums i)[k]? = some n → (l.toNat : Int) ∈ letters → Ext wa u2 → k < 4 → fieldsP p t i = fieldsFrom p t ([x, y, z, v].drop k) ((nums i).drop k) →
      CallsV Tryd.prog 20 #[pagg p a, .int .i64 t, .int .u8 (l.toNat : Int), .int .i64 n] u2 fun r w' => ∃ b, r = .bool b ∧ (b = false → checkP p = false) ∧ (b = true → fieldsP p t i = fieldsFrom p t ([x, y, z, v].drop (k + 1)) ((nums i).drop (k + 1))) ∧ Ext wa w' := by
    intro k l n u2 hl hn hm e3 hk hf
    refine (field_spec ((h.ext fa.ext).ext e3) t l.toNat n hm).mono ?_
    rintro _ u3 ⟨rfl, e4⟩
    obtain ⟨hlt1, rfl⟩ := List.getElem?_eq_some_iff.1 hl
    obtain ⟨hlt2, rfl⟩ := List.getElem?_eq_some_iff.1 hn
    rw [List.drop_eq_getElem_cons hlt1, List.drop_eq_getElem_cons hlt2, fieldsFrom] at hf
    refine ⟨_, rfl, fun hb => ?_, fun hb => ?_, e3.trans' e4⟩
    · rw [hq, okAt, hf, hb]; simp
    · rw [hf, hb, Bool.true_and]
  refine brd (fun hk4 => ?_) (fun hk4 => ?_)
  · refine ⟨⟨by omega, by omega⟩, ?_⟩
    have ez := e2.drew
    have cell' : ∀ u, Ext wa u → ∀ (j : Nat) (v : Value), (pcs p a)[j]? = some v → u.cell? ((⟨g, 0, none⟩ : Addr).add j) = some v := cell
    have rest : ∀ (k : Nat) (l : UInt8) (n : Int) (b0 : Bool), k < 4 → True := fun _ _ _ _ _ => trivial
    refine brd (fun hk0 => ?_) (fun hk0 => brd (fun hk1 => ?_) (fun hk1 => brd (fun hk2 => ?_) (fun hk2 => brd (fun hk3 => ?_) (fun hk3 => by omega))))
    · obtain rfl : k = 0 := by omega
      refine ⟨fun u => Ext wa u, ez, _, fun u e => cell u e 0 _ rfl, _, fun u e => cell u e 1 _ rfl, _, fun u e => cell u e 2 _ rfl, _, _, _, fun u e => cell u e 3 _ rfl, _, _, _, fun u e => cell u e 4 _ rfl, _, _, _, fun u e => cell u e 5 _ rfl, _, _, _, fun u e => cell u e 6 _ rfl, _, _, _, fun u e => cell u e 7 _ rfl, _, _, _, fun u e => cell u e 8 _ rfl,
        _, ⟨by omega, bs_get _ _ x (by rfl)⟩, (go 0 x i.a _ rfl rfl m1 ez (by omega) hf).mono ?_⟩
      rintro _ u3 ⟨b, rfl, hb1, hb2, e3⟩
      refine ⟨_, rfl, brnb (fun hb => fin false _ _ (hb1 hb) e3 rfl) (fun hb => ⟨⟨1, by omega, rfl, hb2 hb, e3⟩, by dsimp only; decide⟩)⟩
    · obtain rfl : k = 1 := by omega
      refine ⟨fun u => Ext wa u, ez, _, fun u e => cell u e 0 _ rfl, _, fun u e => cell u e 1 _ rfl, _, fun u e => cell u e 2 _ rfl, _, _, _, fun u e => cell u e 3 _ rfl, _, _, _, fun u e => cell u e 4 _ rfl, _, _, _, fun u e => cell u e 5 _ rfl, _, _, _, fun u e => cell u e 6 _ rfl, _, _, _, fun u e => cell u e 7 _ rfl, _, _, _, fun u e => cell u e 8 _ rfl,
        _, ⟨by omega, bs_get _ _ y (by rfl)⟩, (go 1 y i.b _ rfl rfl m2 ez (by omega) hf).mono ?_⟩
      rintro _ u3 ⟨b, rfl, hb1, hb2, e3⟩
      refine ⟨_, rfl, brnb (fun hb => fin false _ _ (hb1 hb) e3 rfl) (fun hb => ⟨⟨2, by omega, rfl, hb2 hb, e3⟩, by dsimp only; decide⟩)⟩
    · obtain rfl : k = 2 := by omega
      refine ⟨fun u => Ext wa u, ez, _, fun u e => cell u e 0 _ rfl, _, fun u e => cell u e 1 _ rfl, _, fun u e => cell u e 2 _ rfl, _, _, _, fun u e => cell u e 3 _ rfl, _, _, _, fun u e => cell u e 4 _ rfl, _, _, _, fun u e => cell u e 5 _ rfl, _, _, _, fun u e => cell u e 6 _ rfl, _, _, _, fun u e => cell u e 7 _ rfl, _, _, _, fun u e => cell u e 8 _ rfl,
        _, ⟨by omega, bs_get _ _ z (by rfl)⟩, (go 2 z i.c _ rfl rfl m3 ez (by omega) hf).mono ?_⟩
      rintro _ u3 ⟨b, rfl, hb1, hb2, e3⟩
      refine ⟨_, rfl, brnb (fun hb => fin false _ _ (hb1 hb) e3 rfl) (fun hb => ⟨⟨3, by omega, rfl, hb2 hb, e3⟩, by dsimp only; decide⟩)⟩
    · obtain rfl : k = 3 := by omega
      refine ⟨fun u => Ext wa u, ez, _, fun u e => cell u e 0 _ rfl, _, fun u e => cell u e 1 _ rfl, _, fun u e => cell u e 2 _ rfl, _, _, _, fun u e => cell u e 3 _ rfl, _, _, _, fun u e => cell u e 4 _ rfl, _, _, _, fun u e => cell u e 5 _ rfl, _, _, _, fun u e => cell u e 6 _ rfl, _, _, _, fun u e => cell u e 7 _ rfl, _, _, _, fun u e => cell u e 8 _ rfl,
        _, ⟨by omega, bs_get _ _ v (by rfl)⟩, (go 3 v i.d _ rfl rfl m4 ez (by omega) hf).mono ?_⟩
      rintro _ u3 ⟨b, rfl, hb1, hb2, e3⟩
      refine ⟨_, rfl, brnb (fun hb => fin false _ _ (hb1 hb) e3 rfl) (fun hb => ⟨⟨4, by omega, rfl, hb2 hb, e3⟩, by dsimp only; decide⟩)⟩
  · obtain rfl : k = 4 := by omega
    have hf1 : fieldsP p t i = true := hf
    refine ⟨_, cell u1 e2 0 _ rfl, _, cell u1 e2 1 _ rfl, _, cell u1 e2 2 _ rfl, _, _, _, cell u1 e2 3 _ rfl, _, _, _, cell u1 e2 4 _ rfl, _, _, _, cell u1 e2 5 _ rfl, _, _, _, cell u1 e2 6 _ rfl, _, _, _, cell u1 e2 7 _ rfl, _, _, _, cell u1 e2 8 _ rfl,
      (runs_spec ((h.ext fa.ext).ext e2) (hT.ext (fa.ext.trans' e2)) hlt hr (by rw [hi]; exact hf1)).mono ?_⟩
    rintro _ u3 ⟨rfl, e3⟩
    rw [hi]
    have e3 := e2.trans' e3
    refine ⟨_, rfl, brnb (fun hb => fin false _ _ (by rw [hq, okAt, hb]; simp) e3 rfl) (fun hb => ?_)⟩
    rw [wi _ (by omega) (by omega)]
    refine ⟨⟨t + 1, by omega, by omega, by rw [hq, okAt, hf1, hb]; simp, e3⟩, ?_⟩
    dsimp only; omega
end
end Go.Proofs.YtaifphjenebgoaaDoor
/- Things told of in an earlier world; lists that are written to in their midst, cut, cleared. -/
set_option linter.unusedVariables false
set_option linter.unusedSimpArgs false
namespace Go.Sx
section
variable {P : Program} {α : Type}
/-- told of in w0, but for the blocks Ω0 -/
def Kd.fix (Ω0 : Nat → Prop) (w0 : World) (K : Kd α) : Kd α := ⟨K.size, fun _ _ a cs => K.rep Ω0 w0 a cs, fun h => K.len h, fun h _ => h⟩
/-- nor in the blocks G -/
def Kd.out (G : Nat → Prop) (K : Kd α) : Kd α := ⟨K.size, fun Ω w a cs => K.rep (fun k => Ω k ∨ G k) w a cs, fun h => K.len h, fun h st => K.keep h ⟨st.size, fun k hk hn => st.block k hk (fun h => hn (.inl h)), fun k hk h => h.imp (st.sub k hk) id⟩⟩
/-- what is owned by w, seen from w0 = w -/
theorem OwnK.toFix {K : Kd α} {w : World} {A : Option Addr} {c : Nat} {l : List α} (h : OwnK K w A c l) : OwnK (Kd.fix (ownB A) w K) w A c l := h
theorem OwnK.fixImm {K : Kd α} {w : World} {A : Option Addr} {c : Nat} {l : List α} (h : OwnK K w A c l) (hz : 0 < K.size) : Imm (Kd.fix (ownB A) w K) NoB w A l := by
  obtain ⟨xs, ho, hr⟩ := h
  exact Own.imm (K := Kd.fix (ownB A) w K) hz ho (fun _ _ h => h) hr
theorem OwnK.unfix {K : Kd α} {Ω0 : Nat → Prop} {w0 w : World} {A : Option Addr} {c : Nat} {l : List α} (h : OwnK (Kd.fix Ω0 w0 K) w A c l) (st : Step Ω0 w0 (ownB A) w) : OwnK K w A c l := by
  obtain ⟨xs, ho, hr⟩ := h
  exact ⟨xs, ho, fun i a ha => K.keep (show K.rep Ω0 w0 a _ from hr i a ha) st⟩
theorem OwnK.lt {K : Kd α} {w : World} {A : Option Addr} {c : Nat} {l : List α} (h : OwnK K w A c l) : ∀ k, ownB A k → k < w.heap.size := by
  obtain ⟨xs, ho, _⟩ := h; exact ho.lt
theorem OwnK.fr {K : Kd α} {w w' : World} {S : Nat → Prop} {A : Option Addr} {c : Nat} {l : List α} (h : OwnK K w A c l) (hf : Fr S w w') (hn : ∀ k, ownB A k → ¬ S k) (hr : ∀ a cs, a ∈ l → K.rep (ownB A) w a cs → K.rep (ownB A) w' a cs) : OwnK K w' A c l := by
  obtain ⟨xs, ho, hx⟩ := h
  exact ⟨xs, ho.keep hf hn, fun i a ha => hr a _ (List.mem_of_getElem? ha) (hx i a ha)⟩
theorem OwnK.take {K : Kd α} {w : World} {A : Option Addr} {c : Nat} {l : List α} (h : OwnK K w A c l) (k : Nat) (hk : k ≤ l.length) : OwnK K w A c (l.take k) := by
  obtain ⟨xs, ho, hx⟩ := h
  refine ⟨xs.take (k * K.size), by rw [List.length_take, Nat.min_eq_left hk]; exact ho.take hk, fun i a ha => ?_⟩
  rw [List.getElem?_take] at ha
  split at ha
  · rename_i hlt
    have := hx i a ha
    have e : ((xs.take (k * K.size)).drop (i * K.size)).take K.size = (xs.drop (i * K.size)).take K.size := by
      rw [List.drop_take, List.take_take, Nat.min_eq_left]
      have : (i + 1) * K.size ≤ k * K.size := Nat.mul_le_mul_right _ hlt
      rw [Nat.add_mul, Nat.one_mul] at this; omega
    rw [e]; exact this
  · cases ha
/-- the block of a list that is owned, as a block -/
theorem OwnK.blk {K : Kd α} {w : World} {A : Option Addr} {c : Nat} {l : List α} (h : OwnK K w A c l) (hz : 0 < K.size) {i : Nat} (hi : i < l.length) : ∃ g, A = some ⟨g, 0, none⟩ ∧ ∀ j, j < K.size → (w.cell? ⟨g, i * K.size + j, none⟩).isSome = true ∧ w.frozen? ⟨g, i * K.size + j, none⟩ = false := by
  obtain ⟨xs, ho, hx⟩ := h
  have hle : (i + 1) * K.size ≤ l.length * K.size := Nat.mul_le_mul_right _ hi
  rw [Nat.add_mul, Nat.one_mul] at hle
  obtain ⟨g, hA, _⟩ := ho.at_ (j := i * K.size) (by omega)
  refine ⟨g, hA, fun j hj => ?_⟩
  obtain ⟨g', hA', h1, h2, _⟩ := ho.at_ (j := i * K.size + j) (by omega)
  rw [hA] at hA'; cases hA'
  exact ⟨h1, h2⟩
theorem stOK_of {a : Addr} {w : World} : ∀ (vs : List Value) (i : Nat), (∀ j, j < vs.length → (w.cell? (a.add (i + j))).isSome = true ∧ w.frozen? (a.add (i + j)) = false) → stOK a i vs w
  | [], _, _ => trivial
  | [v], i, h => h 0 (by simp)
  | v :: x :: vs, i, h => ⟨h 0 (by simp), stOK_of (x :: vs) (i + 1) (fun j hj => by have := h (j + 1) (by simp at hj ⊢; omega); rwa [show i + (j + 1) = i + 1 + j by omega] at this)⟩
theorem setAll_own {sz n c o g : Nat} : ∀ (vs : List Value) (i : Nat) {w : World} {xs : List Value}, Own w sz (some ⟨g, 0, none⟩) n c xs → o + i + vs.length ≤ n * sz →
    Own (setAll ⟨g, o, none⟩ i vs w) sz (some ⟨g, 0, none⟩) n c (setL xs (o + i) vs)
  | [], _, _, _, h, _ => h
  | v :: vs, i, w, xs, h, hl => by
    obtain ⟨g', hA, _, _, hs⟩ := h.at_ (j := o + i) (by simp at hl; omega)
    cases hA
    have := setAll_own vs (i + 1) (hs v).1 (o := o) (by simp at hl; omega)
    show Own (setAll ⟨g, o, none⟩ (i + 1) vs (w.setCell ((⟨g, o, none⟩ : Addr).add i) v)) _ _ _ _ _
    rw [add_new]
    exact this
theorem setL_length : ∀ (vs : List Value) (o : Nat) (xs : List Value), (setL xs o vs).length = xs.length
  | [], _, _ => rfl
  | v :: vs, o, xs => by rw [setL, setL_length vs, List.length_set]
theorem setL_get : ∀ (vs : List Value) (o : Nat) (xs : List Value) (j : Nat), j < xs.length → (setL xs o vs)[j]? = if o ≤ j ∧ j < o + vs.length then vs[j - o]? else xs[j]?
  | [], o, xs, j, h => by
    have : ¬ (o ≤ j ∧ j < o + ([] : List Value).length) := by rw [List.length_nil]; omega
    rw [setL, if_neg this]
  | v :: vs, o, xs, j, h => by
    rw [setL, setL_get vs (o + 1) (xs.set o v) j (by simpa using h), List.getElem?_set]
    by_cases hj : o = j
    · subst hj
      rw [if_neg (by omega), if_pos rfl, if_pos (by simpa using h), if_pos (by simp)]
      simp
    · rw [if_neg hj]
      by_cases hr : o + 1 ≤ j ∧ j < o + 1 + vs.length
      · rw [if_pos hr, if_pos (by simp; omega), show j - o = (j - (o + 1)) + 1 by omega]; rfl
      · rw [if_neg hr, if_neg (by simp; omega)]
/-- the i-th thing of a list that is owned, set anew -/
theorem OwnK.set {K : Kd α} {w : World} {A : Option Addr} {c : Nat} {l : List α} (h : OwnK K w A c l) (hfix : ∀ w' a cs, K.rep (ownB A) w a cs → K.rep (ownB A) w' a cs) {i : Nat} (hi : i < l.length) {a : α} {cs : List Value} (ha : K.rep (ownB A) w a cs) {g : Nat} (hA : A = some ⟨g, 0, none⟩) :
    OwnK K (setAll ⟨g, i * K.size, none⟩ 0 cs w) A c (l.set i a) := by
  subst hA
  obtain ⟨xs, ho, hx⟩ := h
  have hcl := K.len ha
  have hle : (i + 1) * K.size ≤ l.length * K.size := Nat.mul_le_mul_right _ hi
  rw [Nat.add_mul, Nat.one_mul] at hle
  have ho' := setAll_own (o := i * K.size) cs 0 ho (by omega)
  refine ⟨setL xs (i * K.size + 0) cs, by rw [List.length_set]; exact ho', fun j b hj => ?_⟩
  have hlen := ho.len
  have hjl : j < l.length := by have := (List.getElem?_eq_some_iff.1 hj).1; simpa using this
  have hje : (j + 1) * K.size ≤ l.length * K.size := Nat.mul_le_mul_right _ hjl
  rw [Nat.add_mul, Nat.one_mul] at hje
  have ext : ∀ (ys : List Value), ys.length = K.size → (∀ q, q < K.size → (setL xs (i * K.size + 0) cs)[j * K.size + q]? = ys[q]?) → ((setL xs (i * K.size + 0) cs).drop (j * K.size)).take K.size = ys := by
    intro ys hy hq
    apply List.ext_getElem?
    intro q
    rw [List.getElem?_take]
    split
    · rename_i hlt; rw [List.getElem?_drop]; exact hq q hlt
    · rw [List.getElem?_eq_none (by omega)]
  by_cases hij : i = j
  · subst hij
    rw [List.getElem?_set_self hi] at hj
    cases hj
    rw [ext cs hcl (fun q hq => by
      rw [setL_get _ _ _ _ (by omega), if_pos (by omega)]; congr 1; omega)]
    exact hfix _ _ _ ha
  · rw [List.getElem?_set_ne hij] at hj
    have hb := hx j b hj
    rw [ext ((xs.drop (j * K.size)).take K.size) (K.len hb) (fun q hq => by
      have hd : ¬ (i * K.size + 0 ≤ j * K.size + q ∧ j * K.size + q < i * K.size + 0 + cs.length) := by
        rcases Nat.lt_or_ge i j with h | h
        · have : (i + 1) * K.size ≤ j * K.size := Nat.mul_le_mul_right _ h
          rw [Nat.add_mul, Nat.one_mul] at this; omega
        · have : (j + 1) * K.size ≤ i * K.size := Nat.mul_le_mul_right _ (by omega)
          rw [Nat.add_mul, Nat.one_mul] at this; omega
      rw [setL_get _ _ _ _ (by omega), if_neg hd, List.getElem?_take_of_lt hq, List.getElem?_drop])]
    exact hfix _ _ _ hb
theorem made_cells (z : Array Value) (n : Nat) : (Builtin.zeroCells z n).size = n * z.size := by simp [Builtin.zeroCells, Nat.mul_comm]
/-- clear, of what is owned, from a place on -/
theorem clear_own {K : Kd α} {t e by_ : Nat} {z : List Value} (T : SlT P t e K.size by_ z) (hz1 : ∀ v ∈ z, v.oneCell' = true) {ty : TypeId} {w : World} {A : Option Addr} {c : Nat} {l : List α} (h : OwnK K w A c l) (hfix : ∀ w' a cs, K.rep (ownB A) w a cs → K.rep (ownB A) w' a cs) {k : Nat} (hk : k ≤ l.length) (c' : Nat) :
    ∃ w', RunsTo P (Builtin.clear_ #[t] ty #[.slice (cutAt A c k K.size) (l.length - k) c']) w (.tuple #[]) w' ∧ OwnK K w' A c (l.take k) ∧ Fr (ownB A) w w' := by
  obtain ⟨i, hi, hsz, hby, zv, hzv, hzl⟩ := T.hi
  have hpos := T.pos
  rcases Nat.eq_or_lt_of_le hk with rfl | hlt
  · refine ⟨w, ?_, by rw [List.take_length]; exact h, .refl _ _⟩
    rw [Nat.sub_self]
    unfold RunsTo
    cases hA : cutAt A c l.length K.size <;> simp [Builtin.clear_, run_und T.ht, Result.andThen]
  · have hT := h.take k hk
    obtain ⟨xs, ho, hx⟩ := h
    rcases ho.2.2 with ⟨_, h0, _⟩ | ⟨g, cur, e', lo, hi', rfl, hg, hnc, hcs, htake, hfz⟩
    · omega
    · have hne : ¬ c = k := by have := ho.le; omega
      have hcut : cutAt (some ⟨g, 0, none⟩) c k K.size = some ⟨g, k * K.size, none⟩ := by
        unfold cutAt; rw [if_neg hne]; simp [add_new]
      rw [hcut]
      obtain ⟨m, hm⟩ : ∃ m, l.length - k = m + 1 := ⟨l.length - k - 1, by omega⟩
      have hzc : zv.cells.toList = z := by rw [← cellsL_eq]; exact hzl
      have hzs : zv.cells.size = K.size := by rw [← Array.length_toList, hzc]; exact T.hz
      have hlen : (Builtin.zeroCells zv.cells (l.length - k)).toList.length = (l.length - k) * K.size := by rw [Array.length_toList, made_cells, hzs]
      have hone : ∀ v ∈ (Builtin.zeroCells zv.cells (l.length - k)).toList, v.oneCell' = true := by
        intro v hv
        simp only [Builtin.zeroCells, Array.toList_map, List.mem_map] at hv
        obtain ⟨q, hq, rfl⟩ := hv
        have hqs : q % zv.cells.size < zv.cells.size := Nat.mod_lt _ (by omega)
        rw [getElem!_pos zv.cells _ hqs]
        exact hz1 _ (by rw [← hzc]; simp)
      have hle : l.length * K.size ≤ c * K.size := Nat.mul_le_mul_right _ hnc
      have hsub : k * K.size + (l.length - k) * K.size = l.length * K.size := by rw [← Nat.add_mul]; congr 1; omega
      have hst := run_storeCells_own (P := P) g (k * K.size) e' lo hi' (Builtin.zeroCells zv.cells (l.length - k)).toList 0 cur w hg hfz (by omega) hone
      refine ⟨w.setRow g (cur.toList.take (k * K.size + 0) ++ (Builtin.zeroCells zv.cells (l.length - k)).toList ++ cur.toList.drop (k * K.size + 0 + (Builtin.zeroCells zv.cells (l.length - k)).toList.length)).toArray, ?_, ?_, ⟨rfl, rfl, rfl, by simp, fun b _ hb => setRow_other w g b _ (fun e => hb (by rw [ownB_some]; exact e.symm))⟩⟩
      · have hzr : (zeroValue e).run P w = .ok zv w := by simp only [zeroValue, Sem.run_bind, run_inf hi, Result.andThen_ok, hzv, Sem.run_pure]
        unfold RunsTo
        rw [hm] at hst ⊢
        simp only [Builtin.clear_, List.getElem?_toArray, List.getElem?_cons_zero, Sem.run_bind, run_und T.ht, Result.andThen_ok, hzr, hst, Sem.run_pure]
      · obtain ⟨xs', ho', hx'⟩ := hT
        refine ⟨xs', ⟨ho'.1, ho'.2.1, .inr ⟨g, _, e', lo, hi', rfl, setRow_heap w g cur _ e' _ hg, by rw [List.length_take]; omega, ?_, ?_, ?_⟩⟩, fun j b hj => hfix _ _ _ (hx' j b hj)⟩
        · simp only [List.size_toArray, List.length_append, List.length_take, List.length_drop, Array.length_toList, hlen]; omega
        · have hx'' : xs' = cur.toList.take (k * K.size) := by
            rcases ho'.2.2 with ⟨h, _⟩ | ⟨g2, cur2, e2, lo2, hi2, hA2, hg2, _, _, ht2, _⟩
            · cases h
            · cases hA2
              rw [hg] at hg2; cases hg2
              rw [← ht2, List.length_take, Nat.min_eq_left hk]
          have hkl : (k * K.size) ≤ cur.toList.length := by rw [Array.length_toList]; omega
          rw [List.length_take, Nat.min_eq_left hk, hx'']
          simp only [Nat.add_zero, List.append_assoc]
          rw [List.take_append_of_le_length (by rw [List.length_take]; omega), List.take_take, Nat.min_self]
        · simp only [List.size_toArray, List.length_append, List.length_take, List.length_drop, Array.length_toList, hlen]
          rcases hfz with h | h
          · left; omega
          · right; exact h
end
end Go.Sx
/- Sorting and compacting of what is owned: from the words of the kit's contracts to this engine's. -/
set_option linter.unusedVariables false
set_option linter.unusedSimpArgs false
namespace Go.Sx
open Go.Sort
abbrev eI : Int → Value := Value.int .i64
theorem own_holds {w : World} {g n c : Nat} {l : List Int} (h : Own w 1 (some ⟨g, 0, none⟩) n c (l.map eI)) : Holds eI w g 0 l.toArray := by
  intro j hj
  have hj : j < l.length := by simpa using hj
  have hn : l.length = n := by have := h.1; simpa using this
  obtain ⟨g', hA, h1, h2, _⟩ := h.at_ (j := j) (by omega)
  cases hA
  obtain ⟨g', hA, hc⟩ := h.cells (j := j) (v := eI l[j]) (by simp [hj])
  cases hA
  rw [Nat.zero_add]
  refine ⟨?_, h2⟩
  rw [hc]
  simp [hj]
theorem putRow_own {w : World} {g n c : Nat} {xs : List Value} (h : Own w 1 (some ⟨g, 0, none⟩) n c xs) {ys : List Int} (hy : ys.length = n) (q : Nat) (os : Array Obj) :
    Own (grow (putRow eI (Sort.ahead w q) g 0 ys.toArray) os) 1 (some ⟨g, 0, none⟩) n c (ys.map eI) ∧ Fr (ownB (some ⟨g, 0, none⟩)) w (grow (putRow eI (Sort.ahead w q) g 0 ys.toArray) os) := by
  have hx := h.1
  rcases h.2.2 with ⟨h0, _⟩ | ⟨g', cur, e, lo, hi, hA, hg, hnc, hcs, ht, hf⟩
  · cases h0
  · cases hA
    have hlt : g < w.heap.size := (Array.getElem?_eq_some_iff.1 hg).1
    have hb : (grow (putRow eI (Sort.ahead w q) g 0 ys.toArray) os).heap[g]? = some (.cells (putCells eI 0 ys.toArray cur) e (lo, hi)) := by
      simp only [grow, putRow, mapBlock, Sort.ahead]
      rw [Array.getElem?_append_left (by simpa using hlt), Array.getElem?_modify, if_pos rfl, hg]
      rfl
    refine ⟨⟨by simp; omega, h.2.1, .inr ⟨g, _, e, lo, hi, rfl, hb, hnc, by simpa [putCells] using hcs, ?_, by simpa [putCells] using hf⟩⟩, ⟨rfl, rfl, rfl, by simp [grow, putRow, mapBlock, Sort.ahead], fun k hk hn => ?_⟩⟩
    · apply List.ext_getElem?
      intro j
      rw [List.getElem?_take, List.getElem?_map]
      by_cases hj : j < n * 1
      · rw [if_pos hj]
        have hj1 : j < cur.size := by rw [hcs]; exact Nat.lt_of_lt_of_le hj (Nat.mul_le_mul_right _ hnc)
        have hj2 : j < ys.length := by omega
        simp [putCells, hj1, hj2]
      · rw [if_neg hj, List.getElem?_eq_none (by omega)]; rfl
    · have hne : g ≠ k := fun e => hn (by rw [ownB_some]; exact e)
      simp only [grow, putRow, mapBlock, Sort.ahead]
      rw [Array.getElem?_append_left (by simpa using hk), Array.getElem?_modify, if_neg hne]
theorem grow_nil (w : World) : grow w #[] = w := by simp
end Go.Sx
/- More on what is owned: single cells of a list's things, set; slices cut at their begin. -/
set_option linter.unusedVariables false
set_option linter.unusedSimpArgs false
namespace Go.Sx
section
variable {P : Program} {α : Type}
theorem cutAt_zero (A : Option Addr) (c sz : Nat) : cutAt A c 0 sz = A := by
  unfold cutAt
  split
  · rfl
  · rw [Nat.zero_mul]
    cases A <;> rfl
theorem chunk_set (xs : List Value) (sz i k q : Nat) (hq : q < sz) (v : Value) :
    ((xs.set (i * sz + q) v).drop (k * sz)).take sz = if k = i then ((xs.drop (k * sz)).take sz).set q v else (xs.drop (k * sz)).take sz := by
  apply List.ext_getElem?
  intro j
  by_cases hj : j < sz
  · rw [List.getElem?_take_of_lt hj, List.getElem?_drop, List.getElem?_set]
    by_cases hk : k = i
    · subst hk
      rw [if_pos rfl, List.getElem?_set, List.length_take, List.length_drop, List.getElem?_take_of_lt hj, List.getElem?_drop]
      by_cases hjq : q = j
      · subst hjq
        rw [if_pos rfl, if_pos rfl]
        by_cases hl : k * sz + q < xs.length
        · rw [if_pos hl, if_pos (by omega)]
        · rw [if_neg hl, if_neg (by omega)]
      · rw [if_neg (by omega), if_neg hjq]
    · rw [if_neg hk, List.getElem?_take_of_lt hj, List.getElem?_drop]
      have hne : ¬ i * sz + q = k * sz + j := by
        intro e
        rcases Nat.lt_or_ge i k with h | h
        · have : (i + 1) * sz ≤ k * sz := Nat.mul_le_mul_right _ h
          rw [Nat.add_mul, Nat.one_mul] at this; omega
        · have : (k + 1) * sz ≤ i * sz := Nat.mul_le_mul_right _ (by omega)
          rw [Nat.add_mul, Nat.one_mul] at this; omega
      rw [if_neg hne]
  · rw [List.getElem?_eq_none (by rw [List.length_take]; omega)]
    split
    · rw [List.getElem?_eq_none (by rw [List.length_set, List.length_take]; omega)]
    · rw [List.getElem?_eq_none (by rw [List.length_take]; omega)]
/-- one cell of the i-th thing of a list that is owned, set -/
theorem OwnK.setC {K : Kd α} {w : World} {A : Option Addr} {c : Nat} {l : List α} (h : OwnK K w A c l) (hfix : ∀ w' a cs, K.rep (ownB A) w a cs → K.rep (ownB A) w' a cs) {i : Nat} {x : α} (hi : l[i]? = some x) {q : Nat} (hq : q < K.size) {v : Value} {a : α}
    (ha : ∀ cs, K.rep (ownB A) w x cs → K.rep (ownB A) w a (cs.set q v)) :
    ∃ g, A = some ⟨g, 0, none⟩ ∧ (w.cell? ⟨g, i * K.size + q, none⟩).isSome = true ∧ w.frozen? ⟨g, i * K.size + q, none⟩ = false ∧ OwnK K (w.setCell ⟨g, i * K.size + q, none⟩ v) A c (l.set i a) ∧ Fr (ownB A) w (w.setCell ⟨g, i * K.size + q, none⟩ v) := by
  obtain ⟨xs, ho, hx⟩ := h
  have hil : i < l.length := (List.getElem?_eq_some_iff.1 hi).1
  have hle : (i + 1) * K.size ≤ l.length * K.size := Nat.mul_le_mul_right _ hil
  rw [Nat.add_mul, Nat.one_mul] at hle
  obtain ⟨g, hA, h1, h2, h3⟩ := ho.at_ (j := i * K.size + q) (by omega)
  obtain ⟨h4, h5⟩ := h3 v
  refine ⟨g, hA, h1, h2, ⟨_, by rw [List.length_set]; exact h4, fun j b hj => ?_⟩, h5⟩
  rw [chunk_set _ _ _ _ _ hq]
  by_cases hij : j = i
  · subst hij
    rw [if_pos rfl]
    rw [List.getElem?_set_self hil] at hj
    cases hj
    exact hfix _ _ _ (ha _ (hx j x hi))
  · rw [if_neg hij]
    rw [List.getElem?_set_ne (fun e => hij e.symm)] at hj
    exact hfix _ _ _ (hx j b hj)
/-- a new block's things -/
theorem Fresh.imm {K : Kd α} {w w' : World} {g : Nat} {cs : List Value} {e : TypeId} (f : Fresh w g w' cs e) {Ω : Nat → Prop} (hΩ : ¬ Ω g) {l : List α} (hz : 0 < K.size) (hl : cs.length = l.length * K.size) (hn : l.length ≤ maxLen)
    (hr : ∀ i a, l[i]? = some a → K.rep Ω w' a ((cs.drop (i * K.size)).take K.size)) : Imm K Ω w' (some ⟨g, 0, none⟩) l := by
  obtain ⟨rfl, rfl⟩ := f
  exact (own_lit (w := w) (cs := cs) (e := e) hl hn).imm hz (fun k hk => by rw [ownB_some] at hk; subst hk; exact hΩ) hr
/-- all of a block, set anew -/
theorem set0 {w w' : World} {g : Nat} {cur cs : List Value} (b : Blk w g cur) (h : w' = setAll ⟨g, 0, none⟩ 0 cs w) (hl : cs.length = cur.length) : Blk w' g cs ∧ Fr (fun k => k = g) w w' := by
  have e : ∀ (cs pre suf : List Value), suf.length = cs.length → setL (pre ++ suf) pre.length cs = pre ++ cs := by
    intro cs
    induction cs with
    | nil => intro pre suf hs; simp at hs; subst hs; simp [setL]
    | cons v vs ih =>
      intro pre suf hs
      cases suf with
      | nil => simp at hs
      | cons y ys =>
        rw [setL]
        have h1 : (pre ++ y :: ys).set pre.length v = (pre ++ [v]) ++ ys := by simp
        have h2 : pre.length + 1 = (pre ++ [v]).length := by simp
        rw [h1, h2, ih (pre ++ [v]) ys (by simpa using hs)]
        simp
  subst h
  refine ⟨?_, Fr.setAll _ _ _⟩
  have := Blk.setAll (o := 0) cs 0 b
  have h3 := e cs [] cur hl.symm
  simp only [List.nil_append, List.length_nil] at h3
  rw [Nat.add_zero, h3] at this
  exact this
theorem brf {b : Bool} {A B : Prop} (h : b = false) (hB : B) : cond b A B := by rw [h]; exact hB
theorem brt {b : Bool} {A B : Prop} (h : b = true) (hA : A) : cond b A B := by rw [h]; exact hA
end
end Go.Sx
/- Layer 15: what the statements look at; words; the chapter's examples. -/
set_option linter.unusedVariables false
set_option linter.unusedSimpArgs false
namespace Go.Proofs.YtaifphjenebgoaaDoor
open Go Go.Sx R1 K15
abbrev insC (i : Ins) : List Value := [.int .u8 i.op, .int .i64 i.a, .int .i64 i.b, .int .i64 i.c, .int .i64 i.d]
set_option maxRecDepth 10000 in
theorem Great_spec {w : World} {p : Prog} {a : PAd} (h : PIm w p a) : CallsV Tryd.prog 7 #[pagg p a] w fun r w' => ∃ b, r = .bool b ∧ Ext w w' := by
  have m1 := h.l1
  have m2 := h.l2
  have m3 := h.l3
  have m4 := h.l4
  have m5 := h.l5
  simp only [maxLen] at m1 m2 m3 m4 m5
  refine cardindexlaw15_Great.calls okay ?_
  unfold cardindexlaw15_Great.W
  intro g w1 f
  have bp := f.blk
  have h := h.ext f.ext
  have e1 := f.ext
  repeat (first | refine ⟨_, Blk.cell (bp) (by rfl), ?_⟩ | refine ⟨_, _, _, Blk.cell (bp) (by rfl), ?_⟩)
  refine brd (fun _ => ⟨_, rfl, e1⟩) (fun _ => ?_)
  repeat (first | refine ⟨_, Blk.cell (bp) (by rfl), ?_⟩ | refine ⟨_, _, _, Blk.cell (bp) (by rfl), ?_⟩)
  refine brd (fun _ => ⟨_, rfl, e1⟩) (fun _ => ?_)
  repeat (first | refine ⟨_, Blk.cell (bp) (by rfl), ?_⟩ | refine ⟨_, _, _, Blk.cell (bp) (by rfl), ?_⟩)
  refine brd (fun _ => ⟨_, rfl, e1⟩) (fun _ => ?_)
  repeat (first | refine ⟨_, Blk.cell (bp) (by rfl), ?_⟩ | refine ⟨_, _, _, Blk.cell (bp) (by rfl), ?_⟩)
  refine ⟨fun x y u => ∃ k : Nat, k ≤ p.names.length ∧ y = (k : Int) ∧ u = w1, fun x y u => ((p.names.length : Int) - y).toNat, ⟨0, by omega, rfl, rfl⟩, ?_⟩
  rintro x _ u ⟨k, hk, rfl, hu⟩
  obtain rfl : w1 = u := hu.symm
  refine brd (fun hlt => ?_) (fun _ => ?_)
  · repeat (first | refine ⟨_, Blk.cell (bp) (by rfl), ?_⟩ | refine ⟨_, _, _, Blk.cell (bp) (by rfl), ?_⟩)
    obtain ⟨ad, hA, cs, hrep, hc⟩ := h.names.get1 (show k < p.names.length by omega)
    have hcs : cs = [.string p.names[k]] := hrep
    subst hcs
    rw [wi ((k : Int) + 1) (by omega) (by omega)]
    exact ⟨ad, hA, ⟨by omega, by omega⟩, _, hc 0 _ rfl, ⟨k + 1, by omega, by omega, rfl⟩, by dsimp only; omega⟩
  repeat (first | refine ⟨_, Blk.cell (bp) (by rfl), ?_⟩ | refine ⟨_, _, _, Blk.cell (bp) (by rfl), ?_⟩)
  refine ⟨fun x y u => ∃ k : Nat, k ≤ p.consts.length ∧ y = (k : Int) ∧ u = w1, fun x y u => ((p.consts.length : Int) - y).toNat, ⟨0, by omega, rfl, rfl⟩, ?_⟩
  rintro x _ u ⟨k, hk, rfl, hu⟩
  obtain rfl : w1 = u := hu.symm
  refine brd (fun hlt => ?_) (fun _ => ?_)
  · repeat (first | refine ⟨_, Blk.cell (bp) (by rfl), ?_⟩ | refine ⟨_, _, _, Blk.cell (bp) (by rfl), ?_⟩)
    obtain ⟨ad, hA, cs, hrep, hc⟩ := h.consts.get1 (show k < p.consts.length by omega)
    have hcs : cs = vc p.consts[k] := hrep
    subst hcs
    rw [wi ((k : Int) + 1) (by omega) (by omega)]
    exact ⟨ad, hA, ⟨by omega, by omega⟩, _, by rw [add_add]; exact hc 2 _ rfl, ⟨k + 1, by omega, by omega, rfl⟩, by dsimp only; omega⟩
  repeat (first | refine ⟨_, Blk.cell (bp) (by rfl), ?_⟩ | refine ⟨_, _, _, Blk.cell (bp) (by rfl), ?_⟩)
  refine ⟨fun x y u => ∃ k : Nat, k ≤ p.curs.length ∧ y = (k : Int) ∧ u = w1, fun x y u => ((p.curs.length : Int) - y).toNat, ⟨0, by omega, rfl, rfl⟩, ?_⟩
  rintro x _ u ⟨k, hk, rfl, hu⟩
  obtain rfl : w1 = u := hu.symm
  refine brd (fun hlt => ?_) (fun _ => ?_)
  · repeat (first | refine ⟨_, Blk.cell (bp) (by rfl), ?_⟩ | refine ⟨_, _, _, Blk.cell (bp) (by rfl), ?_⟩)
    obtain ⟨ad, hA, cs, hrep, hc⟩ := h.curs.get1 (show k < p.curs.length by omega)
    have hcs : cs = [.string p.curs[k].name, .bool p.curs[k].ix, .bool p.curs[k].wr] := hrep
    subst hcs
    rw [wi ((k : Int) + 1) (by omega) (by omega)]
    exact ⟨ad, hA, ⟨by omega, by omega⟩, _, by rw [add_add]; exact hc 0 _ rfl, ⟨k + 1, by omega, by omega, rfl⟩, by dsimp only; omega⟩
  repeat (first | refine ⟨_, Blk.cell (bp) (by rfl), ?_⟩ | refine ⟨_, _, _, Blk.cell (bp) (by rfl), ?_⟩)
  refine ⟨fun x y u => ∃ k : Nat, k ≤ p.sorts.length ∧ y = (k : Int) ∧ u = w1, fun x y u => ((p.sorts.length : Int) - y).toNat, ⟨0, by omega, rfl, rfl⟩, ?_⟩
  rintro x _ u ⟨k, hk, rfl, hu⟩
  obtain rfl : w1 = u := hu.symm
  refine brd (fun hlt => ?_) (fun _ => ?_)
  · repeat (first | refine ⟨_, Blk.cell (bp) (by rfl), ?_⟩ | refine ⟨_, _, _, Blk.cell (bp) (by rfl), ?_⟩)
    obtain ⟨ad, hA, cs, hrep, hc⟩ := h.sorts.get1 (show k < p.sorts.length by omega)
    obtain ⟨B, d, hcs, _⟩ := id hrep
    subst hcs
    rw [wi ((k : Int) + 1) (by omega) (by omega)]
    exact ⟨ad, hA, ⟨by omega, by omega⟩, _, _, _, by rw [add_add]; exact hc 0 _ rfl, ⟨k + 1, by omega, by omega, rfl⟩, by dsimp only; omega⟩
  repeat (first | refine ⟨_, Blk.cell (bp) (by rfl), ?_⟩ | refine ⟨_, _, _, Blk.cell (bp) (by rfl), ?_⟩)
  refine ⟨fun x y u => ∃ k : Nat, k ≤ p.tots.length ∧ y = (k : Int) ∧ u = w1, fun x y u => ((p.tots.length : Int) - y).toNat, ⟨0, by omega, rfl, rfl⟩, ?_⟩
  rintro x _ u ⟨k, hk, rfl, hu⟩
  obtain rfl : w1 = u := hu.symm
  refine brd (fun hlt => ?_) (fun _ => ⟨_, rfl, e1⟩)
  repeat (first | refine ⟨_, Blk.cell (bp) (by rfl), ?_⟩ | refine ⟨_, _, _, Blk.cell (bp) (by rfl), ?_⟩)
  obtain ⟨ad, hA, cs, hrep, hc⟩ := h.tots.get1 (show k < p.tots.length by omega)
  have hcs : cs = [.string p.tots[k].fn, .bool p.tots[k].dist] := hrep
  subst hcs
  rw [wi ((k : Int) + 1) (by omega) (by omega)]
  exact ⟨ad, hA, ⟨by omega, by omega⟩, _, by rw [add_add]; exact hc 0 _ rfl, ⟨k + 1, by omega, by omega, rfl⟩, by dsimp only; omega⟩
theorem Pick_spec (w : World) (x n : Int) (h1 : 1 ≤ n) (h2 : n ≤ 9223372036854775807) :
    CallsV Tryd.prog 10 #[.int .i64 x, .int .i64 n] w fun r w' => ∃ k : Nat, r = .int .i64 (k : Int) ∧ (k : Int) < n ∧ w' = w := by
  refine cardindexkit_Pick.calls okay ?_
  unfold cardindexkit_Pick.W
  have a1 := Int.lt_tmod_of_pos x (show 0 < n by omega)
  have a2 := Int.tmod_lt_of_pos x (show 0 < n by omega)
  refine brd (fun h => by omega) (fun _ => ⟨by omega, brd (fun h => ?_) (fun h => ?_)⟩)
  · rw [wi _ (by omega) (by omega)]
    exact ⟨(x.tmod n + n).toNat, by congr 1; omega, by omega, rfl⟩
  · exact ⟨(x.tmod n).toNat, by congr 1; omega, by omega, rfl⟩
def oWords : ByteArray := ByteArray.mk #[99, 111, 110, 115, 116, 32, 98, 105, 110, 100, 32, 109, 111, 118, 101, 32, 116, 119, 111, 32, 111, 110, 101, 32, 105, 115, 32, 99, 97, 115, 116, 32, 99, 97, 108, 108, 32, 109, 117, 115, 116, 32, 106, 117, 109, 112, 32, 105, 102, 32, 100, 105, 102, 102, 101, 114, 32, 102, 105, 114, 115, 116, 32, 115, 101, 101, 107, 32, 110, 101, 120, 116, 32, 112, 97, 115, 116, 32, 102, 105, 110, 100, 32, 99, 111, 108, 32, 114, 111, 119, 105, 100, 32, 97, 100, 100, 32, 115, 111, 114, 116, 101, 100, 32, 97, 102, 116, 101, 114, 32, 116, 97, 107, 101, 32, 99, 108, 101, 97, 114, 32, 115, 116, 101, 112, 32, 116, 111, 116, 97, 108, 32, 114, 111, 119, 32, 110, 101, 119, 105, 100, 32, 105, 110, 115, 101, 114, 116, 32, 100, 101, 108, 101, 116, 101, 32, 100, 101, 102, 105, 110, 101, 32, 98, 101, 103, 105, 110, 32, 99, 111, 109, 109, 105, 116, 32, 98, 97, 99, 107, 32, 104, 97, 108, 116]
theorem oField : nth (Lib.fields (sb oWords)) 3 = ([116, 119, 111], true) := by decide +kernel
theorem oAscii : ∀ b ∈ sb oWords, b.toNat < 128 := by decide +kernel
theorem WordTwo_spec {w : World} (hT : Tab w) : CallsV Tryd.prog 14 #[.int .u8 4] w fun r w' => r = .string (bs [116, 119, 111]) ∧ Ext w w' := by
  refine code_Word.calls okay ?_
  unfold code_Word.W
  rw [show IntKind.i64.wrap (IntKind.i64.wrap 4 - 1) = 3 by decide]
  refine (named_spec hT oWords (by decide +kernel) oAscii 3).mono ?_
  rw [oField]
  rintro _ w1 ⟨rfl, e⟩
  exact ⟨_, _, rfl, rfl, e⟩
theorem Itoa_spec (w : World) (i : Nat) (hi : i < 10) : CallsV Tryd.prog 22 #[.int .i64 i] w fun r w' => r = .string (bs [UInt8.ofNat (48 + i)]) ∧ w' = w := by
  refine Calls.mono (Tryd.strconv_Itoa_small i (by omega) w) ?_
  rintro e w' ⟨he, hw⟩
  rw [Lib.decDigits, dif_pos hi] at he
  exact ⟨_, he, rfl, hw⟩
def preS : List (List UInt8) := [[116, 119, 111], [116, 119, 111, 32, 50], [116, 119, 111, 32, 50, 32, 48], [116, 119, 111, 32, 50, 32, 48, 32, 49], [116, 119, 111, 32, 50, 32, 48, 32, 49, 32, 54]]
abbrev iTwo : Ins := ⟨4, 2, 0, 1, 6⟩
theorem ShowTwo_spec {w : World} (hT : Tab w) : CallsV Tryd.prog 11 #[.agg #[.int .u8 4, .int .i64 2, .int .i64 0, .int .i64 1, .int .i64 6]] w fun r w' => r = .string (bs [116, 119, 111, 32, 50, 32, 48, 32, 49, 32, 54]) ∧ Ext w w' := by
  refine code_Show.calls okay ?_
  unfold code_Show.W
  intro g w1 f
  have b : Blk w1 g (insC iTwo) := f.blk
  repeat (first | refine ⟨_, Blk.cell (b) (by rfl), ?_⟩ | refine ⟨_, _, _, Blk.cell (b) (by rfl), ?_⟩)
  refine (WordTwo_spec (hT.ext f.ext)).mono ?_
  rintro _ w2 ⟨rfl, k2⟩
  have e2 := f.ext.trans' k2
  have b := b.ext k2
  clear f
  refine ⟨_, rfl, fun x u => x = bs [116, 119, 111] ∧ u = w2, ?_, brS (fun h => absurd h (by decide)) (fun _ => ⟨rfl, rfl⟩)⟩
  rintro x u ⟨rfl, hu⟩
  subst hu
  repeat (first | refine ⟨_, Blk.cell (b) (by rfl), ?_⟩ | refine ⟨_, _, _, Blk.cell (b) (by rfl), ?_⟩)
  refine ⟨fun x y v => ∃ k : Nat, k ≤ 4 ∧ y = (k : Int) ∧ x = bs (preS.getD k []) ∧ v = u, fun x y v => (4 - y).toNat, ⟨0, by omega, rfl, rfl, rfl⟩, ?_⟩
  rintro x _ v ⟨k, hk, rfl, rfl, hv⟩
  subst hv
  refine brd (fun hlt => ⟨⟨by omega, by omega⟩, ?_⟩) (fun hge => ?_)
  · refine brd (fun h => ?_) (fun n0 => brd (fun h => ?_) (fun n1 => brd (fun h => ?_) (fun n2 => brd (fun h => ?_) (fun n3 => by omega))))
    · obtain rfl : k = 0 := by omega
      refine (Itoa_spec v 2 (by omega)).mono ?_
      rintro _ v1 ⟨rfl, hv⟩
      exact ⟨_, rfl, by decide, by decide, ⟨1, by omega, rfl, rfl, hv⟩, by dsimp only; decide⟩
    · obtain rfl : k = 1 := by omega
      refine (Itoa_spec v 0 (by omega)).mono ?_
      rintro _ v1 ⟨rfl, hv⟩
      exact ⟨_, rfl, by decide, by decide, ⟨2, by omega, rfl, rfl, hv⟩, by dsimp only; decide⟩
    · obtain rfl : k = 2 := by omega
      refine (Itoa_spec v 1 (by omega)).mono ?_
      rintro _ v1 ⟨rfl, hv⟩
      exact ⟨_, rfl, by decide, by decide, ⟨3, by omega, rfl, rfl, hv⟩, by dsimp only; decide⟩
    · obtain rfl : k = 3 := by omega
      refine (Itoa_spec v 6 (by omega)).mono ?_
      rintro _ v1 ⟨rfl, hv⟩
      exact ⟨_, rfl, by decide, by decide, ⟨4, by omega, rfl, rfl, hv⟩, by dsimp only; decide⟩
  · obtain rfl : k = 4 := by omega
    exact ⟨rfl, e2⟩
end Go.Proofs.YtaifphjenebgoaaDoor
/- Layer 15: the chapter's examples. -/
set_option linter.unusedVariables false
set_option linter.unusedSimpArgs false
namespace Go.Proofs.YtaifphjenebgoaaDoor
open Go Go.Sx R1 K15
abbrev hHalt : Ins := ⟨35, 0, 0, 0, 0⟩
abbrev hJump (a : Int) : Ins := ⟨10, a, 0, 0, 0⟩
abbrev hP (l : List Ins) : Prog := ⟨1, 1, 0, [], [], [], [], [], l⟩
abbrev hA (A : Option Addr) (c : Nat) : PAd := ⟨none, 0, none, 0, none, 0, none, 0, none, 0, A, c⟩
theorem hPim {w : World} {A : Option Addr} {c : Nat} {l : List Ins} (h : Imm KIns NoB w A l) (hl : l.length ≤ 2) (hc : l.length ≤ c) : PIm w (hP l) (hA A c) :=
  ⟨Imm.nil _ _ _ _, Imm.nil _ _ _ _, Imm.nil _ _ _ _, Imm.nil _ _ _ _, Imm.nil _ _ _ _, h, Nat.zero_le _, Nat.zero_le _, Nat.zero_le _, Nat.zero_le _, Nat.zero_le _, Nat.le_trans hl (by simp [maxLen]), hc⟩
theorem cellSet {u v : World} {g o : Nat} {x : Value} {cs : List Value} (hb : Blk u g cs) (hv : v = setAll ((⟨g, 0, none⟩ : Addr).add o) 0 [x] u) : Blk v g (cs.set o x) ∧ Fr (fun k => k = g) u v := by
  rw [add_new] at hv
  have h1 : Blk v g (cs.set (0 + o) x) := by rw [hv]; exact Blk.setAll (o := 0 + o) [x] 0 hb
  rw [Nat.zero_add] at h1
  exact ⟨h1, by rw [hv]; exact Fr.setAll _ _ _⟩
theorem cellOK {u : World} {g o : Nat} {x : Value} {cs : List Value} (hb : Blk u g cs) (ho : o < cs.length) : stOK ((⟨g, 0, none⟩ : Addr).add o) 0 [x] u := by
  rw [add_new]; exact hb.stOK (o := 0 + o) [x] 0 (by simp; omega)
theorem two_imm {w w' : World} {g : Nat} {a : Int} {Ω : Nat → Prop} (f : Fresh w g w' [.int .u8 10, .int .i64 a, .int .i64 0, .int .i64 0, .int .i64 0, .int .u8 35, .int .i64 0, .int .i64 0, .int .i64 0, .int .i64 0] 38) (h : ¬ Ω g) : Imm KIns Ω w' (some ⟨g, 0, none⟩) [hJump a, hHalt] :=
  f.imm h KIns_pos rfl (by simp [maxLen]) (by
    intro i a h
    rcases i with _ | _ | i
    · simp at h; subst h; rfl
    · simp at h; subst h; rfl
    · simp at h)
theorem chk0 : checkP (hP [hHalt]) = true := by decide +kernel
theorem chk1 : checkP (hP [hJump 0, hHalt]) = false := by decide +kernel
theorem chk2 : checkP (hP [hJump 1, hHalt]) = true := by decide +kernel
set_option maxRecDepth 20000 in
set_option maxHeartbeats 4000000 in
theorem awake_spec {w : World} (hT : Tab w) : CallsV Tryd.prog 9 #[] w fun r w' => r = .bool true ∧ Ext w w' := by
  refine cardindexlaw15_awake.calls okay ?_
  unfold cardindexlaw15_awake.W
  intro g0 w1 f0 g1 w2 f1
  refine ⟨f1.blk.stOK (pcs (hP [hHalt]) (hA (some ⟨g0, 0, none⟩) 1)) 0 (by simp), fun w3 hw => ?_⟩
  obtain ⟨b1, q⟩ := set0 f1.blk hw rfl
  have z0 := f0.ge
  have z1 := f1.ge
  have z2 := f0.lt
  have e3 : Ext w w3 := (f0.ext.trans' f1.ext).trans q (fun _ _ h => h) (fun k hk e => by have := f0.ext.size; omega)
  have i0 : Imm KIns (fun k => k = g1) w1 (some ⟨g0, 0, none⟩) [hHalt] := f0.imm (fun h => by omega) KIns_pos rfl (by simp [maxLen]) (by
    intro i a h
    rcases i with _ | i
    · simp at h; subst h; rfl
    · simp at h)
  have i0 : Imm KIns NoB w3 (some ⟨g0, 0, none⟩) [hHalt] := (i0.ext KIns_pos f1.ext).keep KIns_pos (q.step (fun _ _ h => h) (fun _ _ h => h.elim))
  clear hw f0 f1 q z0 z1 z2
  refine ⟨fun u => Ext w3 u, Fr.drew NoB w3, ?_⟩
  repeat (first | refine ⟨_, fun u e => Blk.cell (Blk.ext (b1) e) (by rfl), ?_⟩ | refine ⟨_, _, _, fun u e => Blk.cell (Blk.ext (b1) e) (by rfl), ?_⟩)
  refine ⟨?_, ?_⟩
  case' refine_1 =>
    intro gq w4 f4
    have x4 : Ext w3 w4 := Ext.drew0 f4.ext
    refine ⟨x4, ?_⟩
    intro gr w5 f5
    have x5 := x4.trans' f5.ext
    have hq : w3.heap.size ≤ gq := f4.ge
    have hr : w3.heap.size ≤ gr := Nat.le_trans x4.size f5.ge
    have hn : gq ≠ gr := by have := f4.lt; have := f5.ge; omega
    refine ⟨x5, (f4.blk.ext f5.ext).stOK (pcs (hP [hHalt]) (hA (some ⟨g0, 0, none⟩) 1)) 0 (by simp), fun w6 hw6 => ?_⟩
    obtain ⟨bq, q6⟩ := set0 (f4.blk.ext f5.ext) hw6 rfl
    have br := f5.blk.keep q6 (fun e => hn e.symm)
    have x6 : Ext w3 w6 := x5.trans q6 (fun _ _ h => h) (fun k hk e => by omega)
    refine ⟨x6, br.stOK (pcs (hP [hHalt]) (hA (some ⟨g0, 0, none⟩) 1)) 0 (by simp), fun w7 hw7 => ?_⟩
    obtain ⟨br, q7⟩ := set0 br hw7 rfl
    have bq := bq.keep q7 hn
    have x7 : Ext w3 w7 := x6.trans q7 (fun _ _ h => h) (fun k hk e => by omega)
    clear hw7 hw6 q7 q6 x6 x5 f5 x4 f4
  case' refine_2 =>
    intro gr w4 f4
    have x4 : Ext w3 w4 := Ext.drew0 f4.ext
    refine ⟨x4, ?_⟩
    intro gq w5 f5
    have x5 := x4.trans' f5.ext
    have hr : w3.heap.size ≤ gr := f4.ge
    have hq : w3.heap.size ≤ gq := Nat.le_trans x4.size f5.ge
    have hn : gq ≠ gr := by have := f4.lt; have := f5.ge; omega
    refine ⟨x5, f5.blk.stOK (pcs (hP [hHalt]) (hA (some ⟨g0, 0, none⟩) 1)) 0 (by simp), fun w6 hw6 => ?_⟩
    obtain ⟨bq, q6⟩ := set0 f5.blk hw6 rfl
    have br := (f4.blk.ext f5.ext).keep q6 (fun e => hn e.symm)
    have x6 : Ext w3 w6 := x5.trans q6 (fun _ _ h => h) (fun k hk e => by omega)
    refine ⟨x6, br.stOK (pcs (hP [hHalt]) (hA (some ⟨g0, 0, none⟩) 1)) 0 (by simp), fun w7 hw7 => ?_⟩
    obtain ⟨br, q7⟩ := set0 br hw7 rfl
    have bq := bq.keep q7 hn
    have x7 : Ext w3 w7 := x6.trans q7 (fun _ _ h => h) (fun k hk e => by omega)
    clear hw7 hw6 q7 q6 x6 x5 f5 x4 f4
  all_goals
    intro g8 w8 f8
    have y8 := f8.ge
    have l8 := f8.lt
    have lq := bq.lt
    have lr := br.lt
    have sz7 := x7.size
    have i8 : Imm KIns (fun k => k = gq ∨ k = gr) w8 (some ⟨g8, 0, none⟩) [hJump 0, hHalt] := two_imm f8 (fun h => by omega)
    refine ⟨cellOK (bq.ext f8.ext) (by simp), fun w9 hw9 => ?_⟩
    obtain ⟨bq9, q9⟩ := cellSet (bq.ext f8.ext) hw9
    have i9 : Imm KIns (fun k => k = gr) w9 (some ⟨g8, 0, none⟩) [hJump 0, hHalt] := i8.keep KIns_pos (q9.step (fun _ _ h => .inl h) (fun _ _ h => .inr h))
    have br9 := (br.ext f8.ext).keep q9 (fun e => hn e.symm)
    have lr9 := br9.lt
    intro g10 w10 f10
    have y10 := f10.ge
    have i10 : Imm KIns (fun k => k = gr) w10 (some ⟨g10, 0, none⟩) [hJump 1, hHalt] := two_imm f10 (fun h => by omega)
    refine ⟨cellOK (br9.ext f10.ext) (by simp), fun w11 hw11 => ?_⟩
    obtain ⟨br11, q11⟩ := cellSet (br9.ext f10.ext) hw11
    have bq11 := (bq9.ext f10.ext).keep q11 hn
    have x9 : Ext w3 w9 := (x7.trans' f8.ext).trans q9 (fun _ _ h => h) (fun k hk e => by omega)
    have x11 : Ext w3 w11 := (x9.trans' f10.ext).trans q11 (fun _ _ h => h) (fun k hk e => by omega)
    have j1 : Imm KIns NoB w11 (some ⟨g8, 0, none⟩) [hJump 0, hHalt] := (i9.ext KIns_pos f10.ext).keep KIns_pos (q11.step (fun _ _ h => h) (fun _ _ h => h.elim))
    have j2 : Imm KIns NoB w11 (some ⟨g10, 0, none⟩) [hJump 1, hHalt] := i10.keep KIns_pos (q11.step (fun _ _ h => h) (fun _ _ h => h.elim))
    have p0 : PIm w11 (hP [hHalt]) (hA (some ⟨g0, 0, none⟩) 1) := hPim (i0.ext KIns_pos x11) (by simp) (by simp)
    have p1 : PIm w11 (hP [hJump 0, hHalt]) (hA (some ⟨g8, 0, none⟩) 2) := hPim j1 (by simp) (by simp)
    have p2 : PIm w11 (hP [hJump 1, hHalt]) (hA (some ⟨g10, 0, none⟩) 2) := hPim j2 (by simp) (by simp)
    have e11 := e3.trans' x11
    have b11 := b1.ext x11
    clear x9 x11 q9 q11 f8 f10 i8 i9 i10 hw9 hw11 br9 bq9 j1 j2
    refine (ShowTwo_spec (hT.ext e11)).mono ?_
    rintro _ w12 ⟨rfl, k12⟩
    refine ⟨_, rfl, brS (fun _ => ?_) (fun h => absurd rfl h)⟩
    repeat (first | refine ⟨_, Blk.cell (b11.ext k12) (by rfl), ?_⟩ | refine ⟨_, _, _, Blk.cell (b11.ext k12) (by rfl), ?_⟩)
    refine (Check_spec (p0.ext k12) (hT.ext (e11.trans' k12))).mono ?_
    rintro _ w13 ⟨rfl, k13⟩
    rw [chk0]
    refine ⟨_, rfl, brd (fun _ => ?_) (fun h => absurd rfl h)⟩
    have k := k12.trans' k13
    repeat (first | refine ⟨_, Blk.cell (bq11.ext k) (by rfl), ?_⟩ | refine ⟨_, _, _, Blk.cell (bq11.ext k) (by rfl), ?_⟩)
    refine (Check_spec (p1.ext k) (hT.ext (e11.trans' k))).mono ?_
    rintro _ w14 ⟨rfl, k14⟩
    rw [chk1]
    refine ⟨_, rfl, brd (fun _ => ?_) (fun h => absurd rfl h)⟩
    have k' := k.trans' k14
    repeat (first | refine ⟨_, Blk.cell (br11.ext k') (by rfl), ?_⟩ | refine ⟨_, _, _, Blk.cell (br11.ext k') (by rfl), ?_⟩)
    refine (Check_spec (p2.ext k') (hT.ext (e11.trans' k'))).mono ?_
    rintro _ w15 ⟨rfl, k15⟩
    rw [chk2]
    exact ⟨_, rfl, rfl, e11.trans' (k'.trans' k15)⟩
end Go.Proofs.YtaifphjenebgoaaDoor
/- Layer 15, plain: what is so of each instruction of a program that may be. -/
set_option linter.unusedVariables false
set_option linter.unusedSimpArgs false
namespace K15
open Go.Sx R1
theorem okFrom_at (p : Prog) : ∀ (l : List Ins) (s : Nat), okFrom p s l = true → ∀ (t : Nat) (h : t < l.length), okAt p (s + t) l[t] = true
  | [], s, _, t, h => by simp at h
  | i :: l, s, ho, t, h => by
    rw [okFrom, Bool.and_eq_true] at ho
    cases t with
    | zero => exact ho.1
    | succ t =>
      have := okFrom_at p l (s + 1) ho.2 t (by simpa using h)
      rw [show s + (t + 1) = s + 1 + t by omega]
      simpa using this
structure Checked (p : Prog) : Prop where
  parts : partsP p = true
  lo : 1 ≤ p.code.length
  hi : p.code.length ≤ 4000
  last : (p.code.getD (p.code.length - 1) I0).op = 35
  at_ : ∀ (t : Nat) (h : t < p.code.length), okAt p t p.code[t] = true
theorem checked {p : Prog} (h : checkP p = true) : Checked p := by
  simp only [checkP, Bool.and_eq_true, decide_eq_true_eq] at h
  obtain ⟨h1, h2, h3, h4, h5⟩ := h
  exact ⟨h1, h2, h3, h4, fun t ht => by have := okFrom_at p p.code 0 h5 t ht; rwa [Nat.zero_add] at this⟩
theorem fieldsL_of {p : Prog} {t : Int} {i : Ins} {x y z u : UInt8} (hs : shapeP i.op = [x, y, z, u]) (h : fieldsP p t i = true) :
    fieldP p t x.toNat i.a = true ∧ fieldP p t y.toNat i.b = true ∧ fieldP p t z.toNat i.c = true ∧ fieldP p t u.toNat i.d = true := by
  unfold fieldsP at h
  rw [hs] at h
  simp only [fieldsL, Bool.and_eq_true] at h
  exact h
theorem field_j {p : Prog} {t n : Int} (h : fieldP p t ((106 : UInt8).toNat : Int) n = true) : t < n ∧ n < p.code.length := by
  have h : fieldP p t 106 n = true := h
  simpa [fieldP] using h
theorem field_n {p : Prog} {t n : Int} (h : fieldP p t ((110 : UInt8).toNat : Int) n = true) : 1 ≤ n ∧ n ≤ t := by
  have h : fieldP p t 110 n = true := h
  simpa [fieldP] using h
/-- where instructions lead, of a program that may be -/
theorem jumps {p : Prog} (h : Checked p) (t : Nat) (ht : t < p.code.length) :
    ((p.code[t].op = 10 ∨ p.code[t].op = 11 ∨ p.code[t].op = 12) → (t : Int) < p.code[t].a ∧ p.code[t].a < p.code.length) ∧
    ((p.code[t].op = 13 ∨ p.code[t].op = 14 ∨ p.code[t].op = 16 ∨ p.code[t].op = 17 ∨ p.code[t].op = 21) → (t : Int) < p.code[t].b ∧ p.code[t].b < p.code.length) ∧
    ((p.code[t].op = 15 ∨ p.code[t].op = 22) → 1 ≤ p.code[t].b ∧ p.code[t].b ≤ (t : Int)) := by
  have ho := h.at_ t ht
  simp only [okAt, Bool.and_eq_true] at ho
  have hf := ho.1
  generalize p.code[t] = i at *
  have sh : ∀ o l, i.op = o → lookS shapes o = l → shapeP i.op = l := fun o l h1 h2 => by rw [h1]; exact h2
  refine ⟨fun h => ?_, fun h => ?_, fun h => ?_⟩
  · rcases h with h | h | h
    · exact field_j (fieldsL_of (sh _ _ h rfl) hf).1
    · exact field_j (fieldsL_of (sh _ _ h rfl) hf).1
    · exact field_j (fieldsL_of (sh _ _ h rfl) hf).1
  · rcases h with h | h | h | h | h
    · exact field_j (fieldsL_of (sh _ _ h rfl) hf).2.1
    · exact field_j (fieldsL_of (sh _ _ h rfl) hf).2.1
    · exact field_j (fieldsL_of (sh _ _ h rfl) hf).2.1
    · exact field_j (fieldsL_of (sh _ _ h rfl) hf).2.1
    · exact field_j (fieldsL_of (sh _ _ h rfl) hf).2.1
  · rcases h with h | h
    · exact field_n (fieldsL_of (sh _ _ h rfl) hf).2.1
    · exact field_n (fieldsL_of (sh _ _ h rfl) hf).2.1
end K15
/- Layer 15, plain: an instruction's number that is too great, or below 0. -/
set_option linter.unusedVariables false
set_option linter.unusedSimpArgs false
namespace K15
open Go.Sx R1
def bigN (n : Int) : Prop := n = 1073741824 ∨ n = -1
structure Sizes (p : Prog) : Prop where
  regs : p.regs ≤ 250
  binds : p.binds ≤ 1000
  consts : p.consts.length ≤ 1000
  curs : p.curs.length ≤ 12
  sorts : p.sorts.length ≤ 6
  tots : p.tots.length ≤ 60
  code : p.code.length ≤ 4000
theorem Checked.sizes {p : Prog} (h : Checked p) : Sizes p := by
  have h1 := h.parts
  simp only [partsP, within, Bool.and_eq_true, decide_eq_true_eq] at h1
  obtain ⟨_, h2, h3, _, h4, h5, h6, h7, _⟩ := h1
  exact ⟨h2.2, h3.2, h4, h5, h6, h7, h.hi⟩
theorem below_big {n hi : Int} (hn : bigN n) (h : hi ≤ 4000) : below n hi = false := by
  unfold below bigN at *
  rcases hn with rfl | rfl
  · rw [Bool.and_eq_false_iff]; exact .inr (decide_eq_false (by omega))
  · rfl
theorem fieldP_big {p : Prog} (S : Sizes p) {t : Nat} (ht : t < p.code.length) (l : Int) {n : Int} (hn : bigN n) : fieldP p t l n = false := by
  obtain ⟨s1, s2, s3, s4, s5, s6, s7⟩ := S
  have b : ∀ hi : Int, hi ≤ 4000 → below n hi = false := fun hi h => below_big hn h
  have n0 : decide (n = 0) = false := decide_eq_false (by unfold bigN at hn; omega)
  have n1 : (decide ((t : Int) < n) && decide (n < p.code.length)) = false := by
    unfold bigN at hn
    rcases hn with rfl | rfl
    · rw [Bool.and_eq_false_iff]; exact .inr (decide_eq_false (by omega))
    · rw [Bool.and_eq_false_iff]; exact .inl (decide_eq_false (by omega))
  have n2 : (decide (1 ≤ n) && decide (n ≤ (t : Int))) = false := by
    unfold bigN at hn
    rcases hn with rfl | rfl
    · rw [Bool.and_eq_false_iff]; exact .inr (decide_eq_false (by omega))
    · rfl
  have n3 : (decide (1 ≤ n) && decide (n ≤ p.regs)) = false := by
    unfold bigN at hn
    rcases hn with rfl | rfl
    · rw [Bool.and_eq_false_iff]; exact .inr (decide_eq_false (by omega))
    · rfl
  unfold fieldP
  rw [n0, n1, n2, n3, b p.regs (by omega), b p.consts.length (by omega), b p.binds (by omega), b p.sorts.length (by omega), b p.tots.length (by omega), b p.curs.length (by omega), b 15 (by decide), b 2 (by decide), b 10 (by decide), b 60 (by decide)]
  simp only [Bool.false_and, ite_self]
theorem fields_big {p : Prog} (S : Sizes p) {t : Nat} (ht : t < p.code.length) {i : Ins} {n : Int} (hn : bigN n) (h : i.a = n ∨ i.b = n ∨ i.c = n ∨ i.d = n) : fieldsP p t i = false := by
  unfold fieldsP
  generalize shapeP i.op = l
  have F : ∀ l, fieldP p t l n = false := fun l => fieldP_big S ht l hn
  unfold fieldsL
  split
  · rcases h with h | h | h | h
    · rw [h, F]; rfl
    · rw [h, F]; simp
    · rw [h, F]; simp
    · rw [h, F]; simp
  · rfl
/-- a program that may be, one of its instructions' numbers put so: it may not be -/
theorem check_big {p : Prog} (h : Checked p) {t : Nat} (ht : t < p.code.length) {i : Ins} {n : Int} (hn : bigN n) (hi : i.a = n ∨ i.b = n ∨ i.c = n ∨ i.d = n) :
    checkP { p with code := p.code.set t i } = false := by
  cases hq : checkP { p with code := p.code.set t i } with
  | false => rfl
  | true =>
    have hc := checked hq
    have ht' : t < (p.code.set t i).length := by rw [List.length_set]; exact ht
    have ho := hc.at_ t ht'
    simp only [List.getElem_set_self, okAt, Bool.and_eq_true] at ho
    have := fields_big (p := { p with code := p.code.set t i }) hc.sizes ht' hn hi
    rw [this] at ho
    exact absurd ho.1 (by decide)
end K15
