/- Part 4 of the texts of this claim: the engine, contracts, plain laws. -/
import Derived.Test.YtaifphjenebgoaaGreatDoorZCBack15P3
import Derived.Test.YtaifphjenebgoaaGreatDoorZCBack15P2
import Derived.Test.YtaifphjenebgoaaGreatDoorProg
set_option linter.unusedVariables false
set_option linter.unusedSimpArgs false
namespace K15
open Go.Sx R1
structure Cur where
  name : ByteArray
  ix : Bool
  wr : Bool
structure Srt where
  desc : List Bool
  cols : Int
  dist : Bool
structure Tot where
  fn : ByteArray
  dist : Bool
structure Ins where
  op : Int
  a : Int
  b : Int
  c : Int
  d : Int
structure Prog where
  ver : Int
  regs : Int
  binds : Int
  names : List ByteArray
  consts : List V
  curs : List Cur
  sorts : List Srt
  tots : List Tot
  code : List Ins
def C0 : Cur := ⟨ByteArray.empty, false, false⟩
def S0 : Srt := ⟨[], 0, false⟩
def I0 : Ins := ⟨0, 0, 0, 0, 0⟩
def within (n low high : Int) : Bool := decide (low ≤ n) && decide (n ≤ high)
def longN (s : ByteArray) : Bool := decide (200 < s.size)
def wrongV (v : V) : Bool := !right v
def badCur (c : Cur) : Bool := decide (c.name.size = 0) || (decide (200 < c.name.size) || (c.ix && c.wr))
def badSrt (s : Srt) : Bool := decide (30 < s.desc.length) || !within s.cols 1 60
def knownT (n : List UInt8) : Bool := decide (n = [99, 111, 117, 110, 116] ∨ n = [99, 111, 117, 110, 116, 42] ∨ n = [115, 117, 109] ∨ n = [116, 111, 116, 97, 108] ∨ n = [109, 105, 110] ∨ n = [109, 97, 120] ∨ n = [103, 114, 111, 117, 112, 95, 99, 111, 110, 99, 97, 116])
def newT (n : List UInt8) (d : Bool) : Int := if knownT n then (if d && decide (n = [99, 111, 117, 110, 116, 42]) then 2 else 0) else 21
def badTot (t : Tot) : Bool := !decide (newT (sb t.fn) t.dist = 0)
def partsP (p : Prog) : Bool :=
  within p.ver 1 1099511627776 && (within p.regs 1 250 && (within p.binds 0 1000 && (decide (p.names.length ≤ 200) && (decide (p.consts.length ≤ 1000) && (decide (p.curs.length ≤ 12) && (decide (p.sorts.length ≤ 6) && (decide (p.tots.length ≤ 60) &&
  (!p.names.any longN && (!p.consts.any wrongV && (!p.curs.any badCur && (!p.sorts.any badSrt && !p.tots.any badTot)))))))))))
end K15
set_option linter.unusedVariables false
set_option linter.unusedSimpArgs false
namespace K15
open Go.Sx R1
def below (n high : Int) : Bool := decide (0 ≤ n) && decide (n < high)
def curAt (p : Prog) (n : Int) : Cur := p.curs.getD n.toNat C0
def constAt (p : Prog) (n : Int) : V := p.consts.getD n.toNat ⟨0, 0, ByteArray.empty⟩
def fieldP (p : Prog) (t l n : Int) : Bool :=
  if l = 45 then decide (n = 0)
  else if l = 114 then below n p.regs
  else if l = 107 then below n p.consts.length
  else if l = 98 then below n p.binds
  else if l = 115 then below n p.sorts.length
  else if l = 116 then below n p.tots.length
  else if l = 99 then below n p.curs.length
  else if l = 50 then below n 15
  else if l = 49 then below n 2
  else if l = 102 then below n 10
  else if l = 120 then below n 60
  else if l = 106 then decide (t < n) && decide (n < p.code.length)
  else if l = 110 then decide (1 ≤ n) && decide (n ≤ t)
  else if l = 109 then decide (1 ≤ n) && decide (n ≤ p.regs)
  else if l = 105 then below n p.curs.length && (curAt p n).ix
  else if l = 108 then below n p.curs.length && !(curAt p n).ix
  else if l = 119 then below n p.curs.length && (!(curAt p n).ix && (curAt p n).wr)
  else if l = 113 then below n p.consts.length && decide ((constAt p n).k = 2)
  else false
def shapes : List (Int × List UInt8) := [(1, [114, 107, 45, 45]), (2, [114, 98, 45, 45]), (3, [114, 114, 45, 45]), (4, [114, 114, 114, 50]), (5, [114, 114, 45, 49]), (6, [114, 114, 45, 49]), (7, [114, 114, 45, 49]), (8, [114, 114, 109, 102]), (9, [114, 45, 45, 49]), (10, [106, 45, 45, 45]), (11, [106, 114, 45, 45]), (12, [106, 114, 114, 109]), (13, [99, 106, 45, 45]), (14, [105, 106, 114, 109]), (15, [99, 110, 45, 45]), (16, [105, 106, 114, 109]), (17, [108, 106, 114, 45]), (18, [114, 99, 120, 45]), (19, [114, 99, 45, 45]), (20, [115, 114, 114, 45]), (21, [115, 106, 45, 45]), (22, [115, 110, 45, 45]), (23, [114, 115, 120, 45]), (24, [116, 45, 45, 45]), (25, [116, 114, 45, 45]), (26, [114, 116, 45, 45]), (27, [114, 45, 45, 45]), (28, [114, 119, 45, 45]), (29, [119, 114, 114, 45]), (30, [119, 114, 45, 45]), (31, [113, 45, 45, 45]), (32, [45, 45, 45, 45]), (33, [45, 45, 45, 45]), (34, [45, 45, 45, 45]), (35, [45, 45, 45, 45])]
def lookS : List (Int × List UInt8) → Int → List UInt8
  | [], _ => []
  | (k, l) :: r, o => if o = k then l else lookS r o
def shapeP (o : Int) : List UInt8 := lookS shapes o
def letters : List Int := [45, 114, 107, 98, 115, 116, 99, 50, 49, 102, 120, 106, 110, 109, 105, 108, 119, 113]
def srtAt (p : Prog) (n : Int) : Srt := p.sorts.getD n.toNat S0
def fieldsL (p : Prog) (t : Int) (i : Ins) : List UInt8 → Bool
  | [x, y, z, u] => fieldP p t x.toNat i.a && (fieldP p t y.toNat i.b && (fieldP p t z.toNat i.c && fieldP p t u.toNat i.d))
  | _ => false
def fieldsP (p : Prog) (t : Int) (i : Ins) : Bool := fieldsL p t i (shapeP i.op)
def fnNames : List (List UInt8) := [[108, 101, 110, 103, 116, 104], [117, 112, 112, 101, 114], [108, 111, 119, 101, 114], [97, 98, 115], [116, 121, 112, 101, 111, 102], [104, 101, 120], [105, 102, 110, 117, 108, 108], [105, 110, 115, 116, 114], [115, 117, 98, 115, 116, 114], [99, 111, 97, 108, 101, 115, 99, 101]]
def knownF (n : List UInt8) (c : Int) : Bool :=
  if n = [108, 101, 110, 103, 116, 104] ∨ n = [117, 112, 112, 101, 114] ∨ n = [108, 111, 119, 101, 114] ∨ n = [97, 98, 115] ∨ n = [116, 121, 112, 101, 111, 102] ∨ n = [104, 101, 120] then decide (c = 1)
  else if n = [105, 102, 110, 117, 108, 108] ∨ n = [105, 110, 115, 116, 114] then decide (c = 2)
  else if n = [115, 117, 98, 115, 116, 114] then decide (c = 2) || decide (c = 3)
  else if n = [99, 111, 97, 108, 101, 115, 99, 101] then decide (2 ≤ c) && decide (c ≤ 100) else false
def fnAt (d : Int) : List UInt8 := if d < 0 ∨ (fnNames.length : Int) ≤ d then [] else fnNames.getD d.toNat []
def fitsP (p : Prog) (f m : Int) : Bool := decide (m ≤ p.regs - f)
def runsP (p : Prog) (t : Int) (i : Ins) : Bool :=
  if i.op = 8 then decide (i.c ≤ 100) && (fitsP p i.b i.c && knownF (fnAt i.d) i.c)
  else if i.op = 12 then fitsP p i.b i.d && fitsP p i.c i.d
  else if i.op = 14 ∨ i.op = 16 then fitsP p i.c i.d
  else if i.op = 18 then decide (i.c < 30)
  else if i.op = 23 then decide (i.c < (srtAt p i.b).cols)
  else if i.op = 20 then fitsP p i.b (srtAt p i.a).desc.length && fitsP p i.c (srtAt p i.a).cols
  else if i.op = 27 then fitsP p i.a p.names.length
  else if i.op = 31 ∨ i.op = 32 ∨ i.op = 33 ∨ i.op = 34 then decide (t = 0) && decide (p.code.length = 2)
  else true
def okAt (p : Prog) (t : Nat) (i : Ins) : Bool := fieldsP p t i && runsP p t i
def okFrom (p : Prog) : Nat → List Ins → Bool
  | _, [] => true
  | t, i :: l => okAt p t i && okFrom p (t + 1) l
def checkP (p : Prog) : Bool := partsP p && (decide (1 ≤ p.code.length) && (decide (p.code.length ≤ 4000) && (decide ((p.code.getD (p.code.length - 1) I0).op = 35) && okFrom p 0 p.code)))
end K15
set_option linter.unusedVariables false
set_option linter.unusedSimpArgs false
namespace Go.Proofs.YtaifphjenebgoaaGreatDoor
open Go Go.Sx K15
def Tab (w : World) : Prop := Lib.TabIs Tryz.prog w "strings.asciiSpace" .u8 Lib.asciiSpaceTab
theorem Tab.ext {w w' : World} (h : Tab w) (e : Ext w w') : Tab w' := by
  unfold Tab Lib.TabIs World.var? at *
  cases hg : Tryz.prog.globalNamed "strings.asciiSpace" with
  | none => rw [hg] at h; cases h
  | some g =>
    rw [hg] at h
    simp only [Option.bind_some] at h ⊢
    cases hb : w.heap[g]? with
    | none => rw [hb] at h; cases h
    | some o =>
      rw [(e.block g (Array.getElem?_eq_some_iff.1 hb).1 (fun h => h)), hb]
      rw [hb] at h
      exact h
theorem part1 {α : Type} {l : List α} {i : Nat} {x : α} (h : l[i]? = some x) : (l.drop i).take 1 = [x] := by
  obtain ⟨hlt, rfl⟩ := List.getElem?_eq_some_iff.1 h
  rw [List.drop_eq_getElem_cons hlt]; rfl
theorem cntF_le : ∀ (l : List UInt8) (b : Bool), Lib.cntF b l ≤ l.length
  | [], _ => Nat.le_refl _
  | x :: l, b => by
    have := cntF_le l (Lib.isSp x)
    rw [Lib.cntF, List.length_cons]
    split <;> omega
theorem fields_le (l : List UInt8) : (Lib.fields l).length ≤ l.length := by
  have := Lib.fieldsGo_length l []
  have h2 := cntF_le l true
  show (Lib.fieldsGo [] l).length ≤ _
  rw [this]
  simp only [List.isEmpty_nil, if_true]
  omega
def bs (l : List UInt8) : ByteArray := ⟨l.toArray⟩
theorem Fields_spec {w : World} (hT : Tab w) (s : ByteArray) (hs : s.size < 1000) (ha : ∀ b ∈ sb s, b.toNat < 128) :
    CallsV Tryz.prog 110 #[.string s] w fun r w' => ∃ A, r = .slice A (Lib.fields (sb s)).length (Lib.fields (sb s)).length ∧ Imm Kd.str NoB w' A ((Lib.fields (sb s)).map bs) ∧ Ext w w' := by
  refine Calls.mono (Tryz.strings_Fields s w (by omega) (fun j b hj => ha b (List.mem_of_getElem? hj)) hT) ?_
  rintro e w' ⟨he, rfl⟩
  refine ⟨_, he, _, rfl, ?_, Fr.alloc NoB w _⟩
  have hl : (Lib.fields (sb s)).length ≤ maxLen := by
    have := fields_le (sb s)
    rw [sb_length] at this
    simp only [maxLen]; omega
  have := (ownK_lit (K := Kd.str) (w := w) (cs := (Lib.fields s.data.toList).map fun l => Value.string ⟨l.toArray⟩) (e := 9) (l := (Lib.fields (sb s)).map bs) (by simp [Kd.str, sb]) (by simpa using hl) (fun i a hi => by
    rw [List.getElem?_map] at hi
    cases hq : (Lib.fields (sb s))[i]? with
    | none => rw [hq] at hi; cases hi
    | some x =>
      rw [hq] at hi
      cases hi
      show ((((Lib.fields (sb s)).map fun l => Value.string ⟨l.toArray⟩).drop (i * 1)).take 1) = [.string (bs x)]
      rw [Nat.mul_one, part1 (x := Value.string (bs x)) (by rw [List.getElem?_map, hq]; rfl)])).imm (by decide)
  exact this
def nth (l : List (List UInt8)) (d : Int) : List UInt8 × Bool := if d < 0 ∨ (l.length : Int) ≤ d then ([], false) else (l.getD d.toNat [], true)
theorem named_spec {w : World} (hT : Tab w) (s : ByteArray) (hs : s.size < 1000) (ha : ∀ b ∈ sb s, b.toNat < 128) (d : Int) :
    CallsV Tryz.prog 56 #[.string s, .int .i64 d] w fun r w' => r = .tuple #[.string (bs (nth (Lib.fields (sb s)) d).1), .bool (nth (Lib.fields (sb s)) d).2] ∧ Ext w w' := by
  refine code_named.calls okay ?_
  unfold code_named.W nth
  refine (Fields_spec hT s hs ha).mono ?_
  rintro _ w1 ⟨A, rfl, hi, e⟩
  refine ⟨_, _, _, rfl, ?_⟩
  refine brd (fun h => ⟨by rw [if_pos (.inl h)]; rfl, e⟩) (fun h1 => brd (fun h => ⟨by rw [if_pos (.inr h)]; rfl, e⟩) (fun h2 => ?_))
  rw [if_neg (by omega)]
  have hlt : d.toNat < ((Lib.fields (sb s)).map bs).length := by rw [List.length_map]; omega
  obtain ⟨ad, hA, cs, hrep, hc⟩ := hi.get1 hlt
  have hrep : cs = [.string _] := hrep
  subst hrep
  have hlt2 : d.toNat < (Lib.fields (sb s)).length := by rwa [List.length_map] at hlt
  refine ⟨ad, hA, ⟨by omega, by omega⟩, _, hc 0 _ rfl, ?_, e⟩
  rw [List.getElem_map]
  simp [List.getD, hlt2]
def fWords : ByteArray := ByteArray.mk #[108, 101, 110, 103, 116, 104, 32, 117, 112, 112, 101, 114, 32, 108, 111, 119, 101, 114, 32, 97, 98, 115, 32, 116, 121, 112, 101, 111, 102, 32, 104, 101, 120, 32, 105, 102, 110, 117, 108, 108, 32, 105, 110, 115, 116, 114, 32, 115, 117, 98, 115, 116, 114, 32, 99, 111, 97, 108, 101, 115, 99, 101]
abbrev fNames : List (List UInt8) := K15.fnNames
theorem fFields : Lib.fields (sb fWords) = fNames := by decide +kernel
theorem fAscii : ∀ b ∈ sb fWords, b.toNat < 128 := by decide +kernel
theorem Func_spec {w : World} (hT : Tab w) (d : Int) :
    CallsV Tryz.prog 18 #[.int .i64 d] w fun r w' => r = .tuple #[.string (bs (nth fNames d).1), .bool (nth fNames d).2] ∧ Ext w w' := by
  refine code_Func.calls okay ?_
  unfold code_Func.W
  refine (named_spec hT fWords (by decide) fAscii d).mono ?_
  rw [fFields]
  rintro _ w1 ⟨rfl, e⟩
  exact ⟨_, _, rfl, rfl, e⟩
theorem Known_spec (w : World) (n : List UInt8) (c : Int) : CallsV Tryz.prog 100 #[.string (bs n), .int .i64 c] w fun r w' => r = .bool (knownF n c) ∧ w' = w := by
  refine value_Known.calls okay ?_
  unfold value_Known.W knownF
  refine ⟨fun x u => x = decide (n = [108, 101, 110, 103, 116, 104] ∨ n = [117, 112, 112, 101, 114] ∨ n = [108, 111, 119, 101, 114] ∨ n = [97, 98, 115] ∨ n = [116, 121, 112, 101, 111, 102] ∨ n = [104, 101, 120]) ∧ u = w, ?_, ?_⟩
  · rintro x u ⟨rfl, hu⟩
    obtain rfl : w = u := hu.symm
    by_cases h1 : n = [108, 101, 110, 103, 116, 104] ∨ n = [117, 112, 112, 101, 114] ∨ n = [108, 111, 119, 101, 114] ∨ n = [97, 98, 115] ∨ n = [116, 121, 112, 101, 111, 102] ∨ n = [104, 101, 120]
    · rw [decide_eq_true h1, cond_true, if_pos h1]; exact ⟨rfl, rfl⟩
    · rw [decide_eq_false h1, cond_false, if_neg h1]
      refine ⟨fun x u => x = decide (n = [105, 102, 110, 117, 108, 108] ∨ n = [105, 110, 115, 116, 114]) ∧ u = w, ?_, ?_⟩
      · rintro x u ⟨rfl, hu⟩
        obtain rfl : w = u := hu.symm
        by_cases h2 : n = [105, 102, 110, 117, 108, 108] ∨ n = [105, 110, 115, 116, 114]
        · rw [decide_eq_true h2, cond_true, if_pos h2]; exact ⟨rfl, rfl⟩
        · rw [decide_eq_false h2, cond_false, if_neg h2]
          refine brS (fun h => ?_) (fun h => ?_)
          · rw [if_pos h]
            exact brd (fun h3 => ⟨by rw [decide_eq_true h3]; rfl, rfl⟩) (fun h3 => ⟨by rw [decide_eq_false h3]; rfl, rfl⟩)
          · rw [if_neg h]
            refine brS (fun h4 => ?_) (fun h4 => ?_)
            · rw [if_pos h4]
              exact brd (fun h3 => ⟨by rw [decide_eq_true h3]; rfl, rfl⟩) (fun h3 => ⟨by rw [decide_eq_false h3]; rfl, rfl⟩)
            · rw [if_neg h4]; exact ⟨rfl, rfl⟩
      · refine brS (fun h => ⟨?_, rfl⟩) (fun h => ⟨?_, rfl⟩)
        · exact (eq_str n [105, 102, 110, 117, 108, 108]).trans (by rw [decide_eq_true h, decide_eq_true (.inl h)])
        · refine (eq_str n [105, 110, 115, 116, 114]).trans ?_
          exact decide_eq_decide.2 ⟨.inr, fun q => q.resolve_left h⟩
  · have fin : ∀ {x : Bool} {p : Prop} [Decidable p], x = decide p → (p ↔ (n = [108, 101, 110, 103, 116, 104] ∨ n = [117, 112, 112, 101, 114] ∨ n = [108, 111, 119, 101, 114] ∨ n = [97, 98, 115] ∨ n = [116, 121, 112, 101, 111, 102] ∨ n = [104, 101, 120])) → x = decide (n = [108, 101, 110, 103, 116, 104] ∨ n = [117, 112, 112, 101, 114] ∨ n = [108, 111, 119, 101, 114] ∨ n = [97, 98, 115] ∨ n = [116, 121, 112, 101, 111, 102] ∨ n = [104, 101, 120]) := fun h1 h2 => by rw [h1]; exact decide_eq_decide.2 h2
    refine brS (fun h => ⟨fin (eq_str n _) ⟨fun q => .inl q, fun _ => h⟩, rfl⟩) (fun h1 => ?_)
    refine brS (fun h => ⟨fin (eq_str n _) ⟨fun q => .inr (.inl q), fun _ => h⟩, rfl⟩) (fun h2 => ?_)
    refine brS (fun h => ⟨fin (eq_str n _) ⟨fun q => .inr (.inr (.inl q)), fun _ => h⟩, rfl⟩) (fun h3 => ?_)
    refine brS (fun h => ⟨fin (eq_str n _) ⟨fun q => .inr (.inr (.inr (.inl q))), fun _ => h⟩, rfl⟩) (fun h4 => ?_)
    refine brS (fun h => ⟨fin (eq_str n _) ⟨fun q => .inr (.inr (.inr (.inr (.inl q)))), fun _ => h⟩, rfl⟩) (fun h5 => ?_)
    refine ⟨fin (eq_str n _) ⟨fun q => .inr (.inr (.inr (.inr (.inr q)))), fun q => ?_⟩, rfl⟩
    rcases q with q | q | q | q | q | q
    · exact absurd q h1
    · exact absurd q h2
    · exact absurd q h3
    · exact absurd q h4
    · exact absurd q h5
    · exact q
end Go.Proofs.YtaifphjenebgoaaGreatDoor
set_option linter.unusedVariables false
set_option linter.unusedSimpArgs false
namespace Go.Proofs.YtaifphjenebgoaaGreatDoor
open Go Go.Sx R1 K15
def KCur : Kd Cur := ⟨3, fun _ _ a cs => cs = [.string a.name, .bool a.ix, .bool a.wr], fun h => by simp [h], fun h _ => h⟩
def KSrt : Kd Srt := ⟨3, fun Ω w a cs => ∃ A c, cs = [.slice A a.desc.length c, .int .i64 a.cols, .bool a.dist] ∧ a.desc.length ≤ c ∧ Imm Kd.bool Ω w A a.desc, fun ⟨_, _, h, _⟩ => by simp [h], fun ⟨A, c, h, hc, hi⟩ st => ⟨A, c, h, hc, hi.keep (by decide) st⟩⟩
def KTot : Kd Tot := ⟨2, fun _ _ a cs => cs = [.string a.fn, .bool a.dist], fun h => by simp [h], fun h _ => h⟩
def KIns : Kd Ins := ⟨5, fun _ _ a cs => cs = [.int .u8 a.op, .int .i64 a.a, .int .i64 a.b, .int .i64 a.c, .int .i64 a.d], fun h => by simp [h], fun h _ => h⟩
theorem KCur_pos : 0 < KCur.size := by decide
theorem KSrt_pos : 0 < KSrt.size := by decide
theorem KTot_pos : 0 < KTot.size := by decide
theorem KIns_pos : 0 < KIns.size := by decide
theorem KStr_pos : 0 < Kd.str.size := by decide
def Tests {α : Type} (K : Kd α) (arg : List Value → Value) (w : World) (f : Value) (p : α → Bool) : Prop :=
  ∀ u, Ext w u → ∀ a cs, K.rep NoB u a cs → ∃ (fid : FuncId) (first captured : Array Value), f = .func (.func fid) first captured ∧ bodied Tryz.prog fid = true ∧
    CallsV Tryz.prog fid (first.toList ++ ([arg cs] ++ captured.toList)).toArray u fun r w' => r = .bool (p a) ∧ Ext u w'
def argA (cs : List Value) : Value := .agg cs.toArray
def arg1 (cs : List Value) : Value := cs.headD undef
def firstI {α : Type} (p : α → Bool) : List α → Nat → Int
  | [], _ => -1
  | x :: l, i => if p x then (i : Int) else firstI p l (i + 1)
theorem firstI_any {α : Type} (p : α → Bool) : ∀ (l : List α) (i : Nat), decide (0 ≤ firstI p l i) = l.any p
  | [], _ => rfl
  | x :: l, i => by
    rw [firstI, List.any_cons]
    cases h : p x
    · rw [if_neg (by decide), firstI_any p l (i + 1)]; simp
    · rw [if_pos rfl]
      simp
theorem firstI_drop {α : Type} (p : α → Bool) (l : List α) (j : Nat) (h : j < l.length) : firstI p (l.drop j) j = if p l[j] then (j : Int) else firstI p (l.drop (j + 1)) (j + 1) := by
  rw [List.drop_eq_getElem_cons h, firstI]
theorem index_string {w : World} {A : Option Addr} {c n : Nat} {l : List ByteArray} {f : Value} {p : ByteArray → Bool} (hn : n = l.length) (hi : Imm Kd.str NoB w A l) (hl : l.length ≤ maxLen) (hf : Tests Kd.str arg1 w f p) :
    CallsV Tryz.prog 130 #[.slice A n c, f] w fun r w' => r = .int .i64 (firstI p l 0) ∧ Ext w w' := by
  subst hn
  simp only [maxLen] at hl
  refine slices_IndexFunc_string_string.calls okay ?_
  unfold slices_IndexFunc_string_string.W
  refine ⟨fun x u => ∃ j : Nat, j ≤ l.length ∧ x = (j : Int) ∧ firstI p l 0 = firstI p (l.drop j) j ∧ Ext w u, fun x _ => (l.length - x).toNat, ⟨0, by omega, rfl, rfl, .refl _ _⟩, ?_⟩
  rintro _ u ⟨j, hj, rfl, hq, e⟩
  refine brd (fun hlt => ?_) (fun hge => ?_)
  · have hjl : j < l.length := by omega
    obtain ⟨ad, hA, cs, hrep, hc⟩ := (hi.ext (by decide) e).get1 hjl
    rw [firstI_drop p l j hjl] at hq
    have hcs : cs = [.string l[j]] := hrep
    subst hcs
    obtain ⟨fid, first, captured, rfl, hb, hcall⟩ := hf u e _ _ hrep
    refine ⟨ad, hA, ⟨by omega, by omega⟩, _, by rw [Int.toNat_natCast]; exact hc 0 _ rfl, fid, first, captured, rfl, hb, ?_⟩
    refine hcall.mono ?_
    rintro _ u1 ⟨rfl, e1⟩
    refine ⟨_, rfl, ?_⟩
    cases hp : p l[j] with
    | true =>
      rw [cond_true]
      rw [hp, if_pos rfl] at hq
      exact ⟨by rw [hq], e.trans' e1⟩
    | false =>
      rw [cond_false]
      rw [hp, if_neg (by decide)] at hq
      rw [wi _ (by omega) (by omega)]
      exact ⟨⟨j + 1, by omega, rfl, hq, e.trans' e1⟩, by dsimp only; omega⟩
  · obtain rfl : j = l.length := by omega
    rw [List.drop_length] at hq
    exact ⟨by rw [hq]; rfl, e⟩
theorem contains_string {w : World} {A : Option Addr} {c n : Nat} {l : List ByteArray} {f : Value} {p : ByteArray → Bool} (hn : n = l.length) (hi : Imm Kd.str NoB w A l) (hl : l.length ≤ maxLen) (hf : Tests Kd.str arg1 w f p) :
    CallsV Tryz.prog 82 #[.slice A n c, f] w fun r w' => r = .bool (l.any p) ∧ Ext w w' := by
  refine slices_ContainsFunc_string_string.calls okay ?_
  unfold slices_ContainsFunc_string_string.W
  refine (index_string hn hi hl hf).mono ?_
  rintro _ u ⟨rfl, e⟩
  exact ⟨_, rfl, by rw [firstI_any], e⟩
theorem index_api_Value {w : World} {A : Option Addr} {c n : Nat} {l : List V} {f : Value} {p : V → Bool} (hn : n = l.length) (hi : Imm KV NoB w A l) (hl : l.length ≤ maxLen) (hf : Tests KV argA w f p) :
    CallsV Tryz.prog 131 #[.slice A n c, f] w fun r w' => r = .int .i64 (firstI p l 0) ∧ Ext w w' := by
  subst hn
  simp only [maxLen] at hl
  refine slices_IndexFunc_api_Value_api_Value.calls okay ?_
  unfold slices_IndexFunc_api_Value_api_Value.W
  refine ⟨fun x u => ∃ j : Nat, j ≤ l.length ∧ x = (j : Int) ∧ firstI p l 0 = firstI p (l.drop j) j ∧ Ext w u, fun x _ => (l.length - x).toNat, ⟨0, by omega, rfl, rfl, .refl _ _⟩, ?_⟩
  rintro _ u ⟨j, hj, rfl, hq, e⟩
  refine brd (fun hlt => ?_) (fun hge => ?_)
  · have hjl : j < l.length := by omega
    obtain ⟨ad, hA, cs, hrep, hc⟩ := (hi.ext (by decide) e).get1 hjl
    rw [firstI_drop p l j hjl] at hq
    have hcs : cs = vc l[j] := hrep
    subst hcs
    obtain ⟨fid, first, captured, rfl, hb, hcall⟩ := hf u e _ _ hrep
    refine ⟨ad, hA, ⟨by omega, by omega⟩, _, by rw [Int.toNat_natCast, add_add]; exact hc 0 _ rfl, _, by rw [Int.toNat_natCast, add_add]; exact hc 1 _ rfl, _, by rw [Int.toNat_natCast, add_add]; exact hc 2 _ rfl, fid, first, captured, rfl, hb, ?_⟩
    refine hcall.mono ?_
    rintro _ u1 ⟨rfl, e1⟩
    refine ⟨_, rfl, ?_⟩
    cases hp : p l[j] with
    | true =>
      rw [cond_true]
      rw [hp, if_pos rfl] at hq
      exact ⟨by rw [hq], e.trans' e1⟩
    | false =>
      rw [cond_false]
      rw [hp, if_neg (by decide)] at hq
      rw [wi _ (by omega) (by omega)]
      exact ⟨⟨j + 1, by omega, rfl, hq, e.trans' e1⟩, by dsimp only; omega⟩
  · obtain rfl : j = l.length := by omega
    rw [List.drop_length] at hq
    exact ⟨by rw [hq]; rfl, e⟩
theorem contains_api_Value {w : World} {A : Option Addr} {c n : Nat} {l : List V} {f : Value} {p : V → Bool} (hn : n = l.length) (hi : Imm KV NoB w A l) (hl : l.length ≤ maxLen) (hf : Tests KV argA w f p) :
    CallsV Tryz.prog 83 #[.slice A n c, f] w fun r w' => r = .bool (l.any p) ∧ Ext w w' := by
  refine slices_ContainsFunc_api_Value_api_Value.calls okay ?_
  unfold slices_ContainsFunc_api_Value_api_Value.W
  refine (index_api_Value hn hi hl hf).mono ?_
  rintro _ u ⟨rfl, e⟩
  exact ⟨_, rfl, by rw [firstI_any], e⟩
theorem index_api_Cur {w : World} {A : Option Addr} {c n : Nat} {l : List Cur} {f : Value} {p : Cur → Bool} (hn : n = l.length) (hi : Imm KCur NoB w A l) (hl : l.length ≤ maxLen) (hf : Tests KCur argA w f p) :
    CallsV Tryz.prog 132 #[.slice A n c, f] w fun r w' => r = .int .i64 (firstI p l 0) ∧ Ext w w' := by
  subst hn
  simp only [maxLen] at hl
  refine slices_IndexFunc_api_Cur_api_Cur.calls okay ?_
  unfold slices_IndexFunc_api_Cur_api_Cur.W
  refine ⟨fun x u => ∃ j : Nat, j ≤ l.length ∧ x = (j : Int) ∧ firstI p l 0 = firstI p (l.drop j) j ∧ Ext w u, fun x _ => (l.length - x).toNat, ⟨0, by omega, rfl, rfl, .refl _ _⟩, ?_⟩
  rintro _ u ⟨j, hj, rfl, hq, e⟩
  refine brd (fun hlt => ?_) (fun hge => ?_)
  · have hjl : j < l.length := by omega
    obtain ⟨ad, hA, cs, hrep, hc⟩ := (hi.ext (by decide) e).get1 hjl
    rw [firstI_drop p l j hjl] at hq
    have hcs : cs = [.string l[j].name, .bool l[j].ix, .bool l[j].wr] := hrep
    subst hcs
    obtain ⟨fid, first, captured, rfl, hb, hcall⟩ := hf u e _ _ hrep
    refine ⟨ad, hA, ⟨by omega, by omega⟩, _, by rw [Int.toNat_natCast, add_add]; exact hc 0 _ rfl, _, by rw [Int.toNat_natCast, add_add]; exact hc 1 _ rfl, _, by rw [Int.toNat_natCast, add_add]; exact hc 2 _ rfl, fid, first, captured, rfl, hb, ?_⟩
    refine hcall.mono ?_
    rintro _ u1 ⟨rfl, e1⟩
    refine ⟨_, rfl, ?_⟩
    cases hp : p l[j] with
    | true =>
      rw [cond_true]
      rw [hp, if_pos rfl] at hq
      exact ⟨by rw [hq], e.trans' e1⟩
    | false =>
      rw [cond_false]
      rw [hp, if_neg (by decide)] at hq
      rw [wi _ (by omega) (by omega)]
      exact ⟨⟨j + 1, by omega, rfl, hq, e.trans' e1⟩, by dsimp only; omega⟩
  · obtain rfl : j = l.length := by omega
    rw [List.drop_length] at hq
    exact ⟨by rw [hq]; rfl, e⟩
theorem contains_api_Cur {w : World} {A : Option Addr} {c n : Nat} {l : List Cur} {f : Value} {p : Cur → Bool} (hn : n = l.length) (hi : Imm KCur NoB w A l) (hl : l.length ≤ maxLen) (hf : Tests KCur argA w f p) :
    CallsV Tryz.prog 84 #[.slice A n c, f] w fun r w' => r = .bool (l.any p) ∧ Ext w w' := by
  refine slices_ContainsFunc_api_Cur_api_Cur.calls okay ?_
  unfold slices_ContainsFunc_api_Cur_api_Cur.W
  refine (index_api_Cur hn hi hl hf).mono ?_
  rintro _ u ⟨rfl, e⟩
  exact ⟨_, rfl, by rw [firstI_any], e⟩
theorem index_api_Sort {w : World} {A : Option Addr} {c n : Nat} {l : List Srt} {f : Value} {p : Srt → Bool} (hn : n = l.length) (hi : Imm KSrt NoB w A l) (hl : l.length ≤ maxLen) (hf : Tests KSrt argA w f p) :
    CallsV Tryz.prog 133 #[.slice A n c, f] w fun r w' => r = .int .i64 (firstI p l 0) ∧ Ext w w' := by
  subst hn
  simp only [maxLen] at hl
  refine slices_IndexFunc_api_Sort_api_Sort.calls okay ?_
  unfold slices_IndexFunc_api_Sort_api_Sort.W
  refine ⟨fun x u => ∃ j : Nat, j ≤ l.length ∧ x = (j : Int) ∧ firstI p l 0 = firstI p (l.drop j) j ∧ Ext w u, fun x _ => (l.length - x).toNat, ⟨0, by omega, rfl, rfl, .refl _ _⟩, ?_⟩
  rintro _ u ⟨j, hj, rfl, hq, e⟩
  refine brd (fun hlt => ?_) (fun hge => ?_)
  · have hjl : j < l.length := by omega
    obtain ⟨ad, hA, cs, hrep, hc⟩ := (hi.ext (by decide) e).get1 hjl
    rw [firstI_drop p l j hjl] at hq
    obtain ⟨D, dc, hcs, _⟩ := id hrep
    subst hcs
    obtain ⟨fid, first, captured, rfl, hb, hcall⟩ := hf u e _ _ hrep
    refine ⟨ad, hA, ⟨by omega, by omega⟩, _, _, _, by rw [Int.toNat_natCast, add_add]; exact hc 0 _ rfl, _, by rw [Int.toNat_natCast, add_add]; exact hc 1 _ rfl, _, by rw [Int.toNat_natCast, add_add]; exact hc 2 _ rfl, fid, first, captured, rfl, hb, ?_⟩
    refine hcall.mono ?_
    rintro _ u1 ⟨rfl, e1⟩
    refine ⟨_, rfl, ?_⟩
    cases hp : p l[j] with
    | true =>
      rw [cond_true]
      rw [hp, if_pos rfl] at hq
      exact ⟨by rw [hq], e.trans' e1⟩
    | false =>
      rw [cond_false]
      rw [hp, if_neg (by decide)] at hq
      rw [wi _ (by omega) (by omega)]
      exact ⟨⟨j + 1, by omega, rfl, hq, e.trans' e1⟩, by dsimp only; omega⟩
  · obtain rfl : j = l.length := by omega
    rw [List.drop_length] at hq
    exact ⟨by rw [hq]; rfl, e⟩
theorem contains_api_Sort {w : World} {A : Option Addr} {c n : Nat} {l : List Srt} {f : Value} {p : Srt → Bool} (hn : n = l.length) (hi : Imm KSrt NoB w A l) (hl : l.length ≤ maxLen) (hf : Tests KSrt argA w f p) :
    CallsV Tryz.prog 85 #[.slice A n c, f] w fun r w' => r = .bool (l.any p) ∧ Ext w w' := by
  refine slices_ContainsFunc_api_Sort_api_Sort.calls okay ?_
  unfold slices_ContainsFunc_api_Sort_api_Sort.W
  refine (index_api_Sort hn hi hl hf).mono ?_
  rintro _ u ⟨rfl, e⟩
  exact ⟨_, rfl, by rw [firstI_any], e⟩
theorem index_api_Acc {w : World} {A : Option Addr} {c n : Nat} {l : List Tot} {f : Value} {p : Tot → Bool} (hn : n = l.length) (hi : Imm KTot NoB w A l) (hl : l.length ≤ maxLen) (hf : Tests KTot argA w f p) :
    CallsV Tryz.prog 134 #[.slice A n c, f] w fun r w' => r = .int .i64 (firstI p l 0) ∧ Ext w w' := by
  subst hn
  simp only [maxLen] at hl
  refine slices_IndexFunc_api_Acc_api_Acc.calls okay ?_
  unfold slices_IndexFunc_api_Acc_api_Acc.W
  refine ⟨fun x u => ∃ j : Nat, j ≤ l.length ∧ x = (j : Int) ∧ firstI p l 0 = firstI p (l.drop j) j ∧ Ext w u, fun x _ => (l.length - x).toNat, ⟨0, by omega, rfl, rfl, .refl _ _⟩, ?_⟩
  rintro _ u ⟨j, hj, rfl, hq, e⟩
  refine brd (fun hlt => ?_) (fun hge => ?_)
  · have hjl : j < l.length := by omega
    obtain ⟨ad, hA, cs, hrep, hc⟩ := (hi.ext (by decide) e).get1 hjl
    rw [firstI_drop p l j hjl] at hq
    have hcs : cs = [.string l[j].fn, .bool l[j].dist] := hrep
    subst hcs
    obtain ⟨fid, first, captured, rfl, hb, hcall⟩ := hf u e _ _ hrep
    refine ⟨ad, hA, ⟨by omega, by omega⟩, _, by rw [Int.toNat_natCast, add_add]; exact hc 0 _ rfl, _, by rw [Int.toNat_natCast, add_add]; exact hc 1 _ rfl, fid, first, captured, rfl, hb, ?_⟩
    refine hcall.mono ?_
    rintro _ u1 ⟨rfl, e1⟩
    refine ⟨_, rfl, ?_⟩
    cases hp : p l[j] with
    | true =>
      rw [cond_true]
      rw [hp, if_pos rfl] at hq
      exact ⟨by rw [hq], e.trans' e1⟩
    | false =>
      rw [cond_false]
      rw [hp, if_neg (by decide)] at hq
      rw [wi _ (by omega) (by omega)]
      exact ⟨⟨j + 1, by omega, rfl, hq, e.trans' e1⟩, by dsimp only; omega⟩
  · obtain rfl : j = l.length := by omega
    rw [List.drop_length] at hq
    exact ⟨by rw [hq]; rfl, e⟩
theorem contains_api_Acc {w : World} {A : Option Addr} {c n : Nat} {l : List Tot} {f : Value} {p : Tot → Bool} (hn : n = l.length) (hi : Imm KTot NoB w A l) (hl : l.length ≤ maxLen) (hf : Tests KTot argA w f p) :
    CallsV Tryz.prog 86 #[.slice A n c, f] w fun r w' => r = .bool (l.any p) ∧ Ext w w' := by
  refine slices_ContainsFunc_api_Acc_api_Acc.calls okay ?_
  unfold slices_ContainsFunc_api_Acc_api_Acc.W
  refine (index_api_Acc hn hi hl hf).mono ?_
  rintro _ u ⟨rfl, e⟩
  exact ⟨_, rfl, by rw [firstI_any], e⟩
end Go.Proofs.YtaifphjenebgoaaGreatDoor
set_option linter.unusedVariables false
set_option linter.unusedSimpArgs false
namespace Go.Proofs.YtaifphjenebgoaaGreatDoor
open Go Go.Sx R1 K15
theorem eq_empty0 (x : ByteArray) : (ByteArray.toList x == ByteArray.toList (ByteArray.mk #[])) = decide (x.size = 0) := by
  obtain ⟨⟨l⟩⟩ := x
  refine (eq_str l []).trans ?_
  cases l <;> simp [ByteArray.size]
theorem cbool {b : Bool} {A B : Prop} (h1 : b = true → A) (h2 : b = false → B) : cond b A B := by
  cases b with
  | true => exact h1 rfl
  | false => exact h2 rfl
theorem right1_spec (w : World) (v : V) : CallsV Tryz.prog 77 #[.agg #[.int .u8 v.k, .int .i64 v.n, .string v.s]] w fun r w' => r = .bool (right v) ∧ Ext w w' := by
  refine value_Right.calls okay ?_
  unfold value_Right.W right
  intro g w1 f
  have b := f.blk
  have e := f.ext
  refine ⟨_, b.cell rfl, ?_⟩
  refine brd (fun h0 => ?_) (fun h0 => ?_)
  · rw [if_pos h0]
    refine ⟨_, b.cell rfl, brd (fun hn => ⟨_, b.cell rfl, ?_, e⟩) (fun hn => ⟨?_, e⟩)⟩
    · rw [eq_empty0]; simp [hn]
    · simp [hn]
  · rw [if_neg h0]
    refine brd (fun h1 => ?_) (fun h1 => ?_)
    · rw [if_pos h1]
      exact ⟨_, b.cell rfl, by rw [eq_empty0], e⟩
    · rw [if_neg h1]
      have two : ∀ (p : Prop) [Decidable p], p → (v.k = 2 ∨ v.k = 3) → (∃ x, w1.cell? (Addr.add ⟨g, 0, none⟩ 1) = some (.int .i64 x) ∧ cond (decide (x = 0)) (∃ x, w1.cell? (Addr.add ⟨g, 0, none⟩ 2) = some (.string x) ∧ (Value.bool (decide ((x.size : Int) ≤ 65536)) = .bool (decide (v.n = 0 ∧ v.s.size ≤ 65536)) ∧ Ext w w1)) (Value.bool false = .bool (decide (v.n = 0 ∧ v.s.size ≤ 65536)) ∧ Ext w w1)) := fun p _ _ _ => by
        refine ⟨_, b.cell rfl, brd (fun hn => ⟨_, b.cell rfl, ?_, e⟩) (fun hn => ⟨?_, e⟩)⟩
        · congr 1
          exact decide_eq_decide.2 ⟨fun h => ⟨hn, by omega⟩, fun h => by have := h.2; omega⟩
        · simp [hn]
      refine brd (fun h2 => ?_) (fun h2 => ?_)
      · rw [if_pos (.inl h2)]
        exact brd (fun _ => two _ h2 (.inl h2)) (fun h => absurd h2 h)
      · refine brd (fun h3 => ?_) (fun h3 => ⟨?_, e⟩)
        · rw [if_pos (.inr h3)]; exact two _ h3 (.inr h3)
        · rw [if_neg (fun h => h.elim h2 h3)]
theorem aggKnown_spec (w : World) (n : List UInt8) : CallsV Tryz.prog 128 #[.string (bs n)] w fun r w' => r = .bool (knownT n) ∧ w' = w := by
  refine agg_Known.calls okay ?_
  unfold agg_Known.W knownT
  have t : ∀ {p : Prop} [Decidable p], p → (Value.bool true = .bool (decide p) ∧ w = w) := fun h => ⟨by rw [decide_eq_true h], rfl⟩
  refine brS (fun h => brS (fun _ => t (.inl h)) (fun q => absurd h q)) (fun h1 => ?_)
  refine brS (fun h => brS (fun _ => t (.inr (.inl h))) (fun q => absurd h q)) (fun h2 => ?_)
  refine brS (fun h => brS (fun _ => t (.inr (.inr (.inl h)))) (fun q => absurd h q)) (fun h3 => ?_)
  refine brS (fun h => brS (fun _ => t (.inr (.inr (.inr (.inl h))))) (fun q => absurd h q)) (fun h4 => ?_)
  refine brS (fun h => brS (fun _ => t (.inr (.inr (.inr (.inr (.inl h)))))) (fun q => absurd h q)) (fun h5 => ?_)
  refine brS (fun h => brS (fun _ => t (.inr (.inr (.inr (.inr (.inr (.inl h))))))) (fun q => absurd h q)) (fun h6 => ?_)
  refine brS (fun h => t (.inr (.inr (.inr (.inr (.inr (.inr h))))))) (fun h7 => ⟨?_, rfl⟩)
  rw [decide_eq_false]
  rintro (h | h | h | h | h | h | h)
  · exact h1 h
  · exact h2 h
  · exact h3 h
  · exact h4 h
  · exact h5 h
  · exact h6 h
  · exact h7 h
theorem Reset_spec {w : World} {g : Nat} {n : ByteArray} {d : Bool} (hn : n.size ≠ 0) (b : Blk w g [.string n, .bool d, .int .i64 0, .int .u64 0, .int .u64 0, .int .u8 0, .int .i64 0, .string (ByteArray.mk #[]), .slice none 0 0, .map none]) :
    CallsV Tryz.prog 129 #[.pointer (some ⟨g, 0, none⟩)] w fun r w' => r = .tuple #[] ∧ Fr (fun k => k = g) w w' := by
  refine agg_Acc_Reset.calls okay ?_
  unfold agg_Acc_Reset.W
  refine cbool (fun h => by cases h) (fun _ => ?_)
  refine ⟨_, rfl, _, b.cell rfl, ?_⟩
  rw [eq_empty0]
  refine brd (fun h => absurd h hn) (fun _ => ?_)
  have bd := b.ext (Fr.drew NoB w)
  refine ⟨_, rfl, fun z => Ext w.drew z, .refl _ _, _, fun z hz => (bd.ext hz).cell rfl, _, rfl, _, fun z hz => (bd.ext hz).cell rfl, ?_⟩
  have e1 : Ext w.drew (w.drew.alloc (.map #[] 0)) := Fr.alloc NoB _ _
  refine ⟨_, _, makeMap_run _ _, e1, _, rfl, (bd.ext e1).stOK [_, _, _, _, _, _, _, _, _, _] 0 (by simp), ?_⟩
  rintro w2 rfl
  exact ⟨rfl, ((Fr.drew NoB w).ext e1).trans (Fr.setAll _ _ _) (fun _ _ h => h.elim) (fun _ _ h => h)⟩
theorem aggNew_spec (w : World) (n : List UInt8) (d : Bool) : CallsV Tryz.prog 81 #[.string (bs n), .bool d] w fun r w' => ∃ A, r = .tuple #[.pointer A, .int .i64 (newT n d)] ∧ Ext w w' := by
  refine agg_New.calls okay ?_
  unfold agg_New.W newT
  refine (aggKnown_spec w n).mono ?_
  rintro _ u ⟨rfl, hu⟩
  obtain rfl : w = u := hu.symm
  refine ⟨_, rfl, brnb (fun h => ⟨none, by rw [h]; rfl, .refl _ _⟩) (fun hk => ?_)⟩
  rw [if_pos hk]
  have hne : (bs n).size ≠ 0 := by
    intro h
    have : n = [] := List.eq_nil_of_length_eq_zero h
    subst this
    simp [knownT] at hk
  have mk : (if d && decide (n = [99, 111, 117, 110, 116, 42]) then (2 : Int) else 0) = 0 → ∀ g w1, Fresh w g w1 [.string (bs n), .bool d, .int .i64 0, .int .u64 0, .int .u64 0, .int .u8 0, .int .i64 0, .string (ByteArray.mk #[]), .slice none 0 0, .map none] 151 →
      CallsV Tryz.prog 129 #[.pointer (some ⟨g, 0, none⟩)] w1 fun v w' => v = .tuple #[] ∧ (∃ A, Value.tuple #[.pointer (some ⟨g, 0, none⟩), .int .i64 0] = .tuple #[.pointer A, .int .i64 (if d && decide (n = [99, 111, 117, 110, 116, 42]) then (2 : Int) else 0)] ∧ Ext w w') := by
    intro h0 g w1 f
    refine (Reset_spec hne f.blk).mono ?_
    rintro _ w2 ⟨rfl, hf⟩
    exact ⟨rfl, _, by rw [h0], f.ext.trans hf (fun _ _ h => h) (fun k hk e => by have := f.ge; omega)⟩
  refine cbool (fun hd => ?_) (fun hd => ?_)
  · refine brS (fun h => ⟨none, by rw [if_pos (by simp [hd, h])], .refl _ _⟩) (fun h => ?_)
    exact mk (if_neg (by simp [h]))
  · exact mk (if_neg (by simp [hd]))
theorem tests1 (w : World) : Tests Kd.str arg1 w (.func (.func 75) #[] #[]) longN := by
  intro u e a cs hr
  have hr : cs = [.string a] := hr
  subst hr
  refine ⟨_, _, _, rfl, by kernel_rfl, ?_⟩
  refine code_parts_2.calls okay ?_
  unfold code_parts_2.W
  exact ⟨by congr 1; exact decide_eq_decide.2 (by omega), .refl _ _⟩
theorem tests2 (w : World) : Tests KV argA w (.func (.func 76) #[] #[]) wrongV := by
  intro u e a cs hr
  have hr : cs = vc a := hr
  subst hr
  refine ⟨_, _, _, rfl, by kernel_rfl, ?_⟩
  refine code_parts_3.calls okay ?_
  unfold code_parts_3.W
  intro g w1 f
  refine ⟨_, f.blk.cell rfl, _, f.blk.cell rfl, _, f.blk.cell rfl, ?_⟩
  refine (right1_spec w1 a).mono ?_
  rintro _ w2 ⟨rfl, e2⟩
  exact ⟨_, rfl, rfl, f.ext.trans' e2⟩
theorem tests3 (w : World) : Tests KCur argA w (.func (.func 78) #[] #[]) badCur := by
  intro u e a cs hr
  have hr : cs = [.string a.name, .bool a.ix, .bool a.wr] := hr
  subst hr
  refine ⟨_, _, _, rfl, by kernel_rfl, ?_⟩
  refine code_parts_4.calls okay ?_
  unfold code_parts_4.W badCur
  intro g w1 f
  have b := f.blk
  refine ⟨_, b.cell rfl, ?_⟩
  rw [eq_empty0]
  refine brd (fun h => ⟨by rw [decide_eq_true h]; rfl, f.ext⟩) (fun h => ⟨_, b.cell rfl, ?_⟩)
  rw [decide_eq_false h, Bool.false_or]
  refine brd (fun h2 => ⟨by rw [decide_eq_true (by omega : 200 < a.name.size)]; rfl, f.ext⟩) (fun h2 => ⟨_, b.cell rfl, ?_⟩)
  rw [decide_eq_false (by omega : ¬ 200 < a.name.size), Bool.false_or]
  refine cbool (fun h3 => ⟨_, b.cell rfl, by rw [h3, Bool.true_and], f.ext⟩) (fun h3 => ⟨by rw [h3, Bool.false_and], f.ext⟩)
theorem tests5 (w : World) : Tests KTot argA w (.func (.func 80) #[] #[]) badTot := by
  intro u e a cs hr
  have hr : cs = [.string a.fn, .bool a.dist] := hr
  subst hr
  refine ⟨_, _, _, rfl, by kernel_rfl, ?_⟩
  refine code_parts_6.calls okay ?_
  unfold code_parts_6.W
  intro g w1 f
  refine ⟨_, f.blk.cell rfl, _, f.blk.cell rfl, ?_⟩
  refine (aggNew_spec w1 (sb a.fn) a.dist).mono ?_
  rintro _ w2 ⟨A, rfl, e2⟩
  exact ⟨_, _, rfl, rfl, f.ext.trans' e2⟩
theorem within_spec (w : World) (n low high : Int) : CallsV Tryz.prog 74 #[.int .i64 n, .int .i64 low, .int .i64 high] w fun r w' => r = .bool (within n low high) ∧ w' = w := by
  refine code_parts_1.calls okay ?_
  unfold code_parts_1.W within
  exact brd (fun h => ⟨by rw [decide_eq_true h, Bool.true_and], rfl⟩) (fun h => ⟨by rw [decide_eq_false h, Bool.false_and], rfl⟩)
theorem tests4 {w : World} {g1 : Nat} (hb : Blk w g1 [.func (.func 74) #[] #[]]) : Tests KSrt argA w (.func (.func 79) #[] #[.pointer (some ⟨g1, 0, none⟩)]) badSrt := by
  intro u e a cs hr
  obtain ⟨D, dc, rfl, hdc, hD⟩ := hr
  refine ⟨_, _, _, rfl, by kernel_rfl, ?_⟩
  refine code_parts_5.calls okay ?_
  unfold code_parts_5.W badSrt
  intro g w1 f
  have b := f.blk
  have e1 := e.trans' f.ext
  refine ⟨_, _, _, b.cell rfl, ?_⟩
  refine brd (fun h => ⟨by rw [decide_eq_true (by omega : 30 < a.desc.length)]; rfl, f.ext⟩) (fun h => ?_)
  rw [decide_eq_false (by omega : ¬ 30 < a.desc.length), Bool.false_or]
  refine ⟨_, (hb.ext e1).cell0 rfl, _, b.cell rfl, _, _, _, rfl, by kernel_rfl, ?_⟩
  refine (within_spec w1 a.cols 1 60).mono ?_
  rintro _ u1 ⟨rfl, hu⟩
  obtain rfl : w1 = u1 := hu.symm
  exact ⟨_, rfl, rfl, f.ext⟩
end Go.Proofs.YtaifphjenebgoaaGreatDoor
set_option linter.unusedVariables false
set_option linter.unusedSimpArgs false
namespace Go.Proofs.YtaifphjenebgoaaGreatDoor
open Go Go.Sx R1 K15
theorem bt : BT Tryz.prog 32 5 9 := ⟨by kernel_rfl, by kernel_rfl, by kernel_rfl⟩
theorem itemV {Ω : Nat → Prop} {w : World} {A : Option Addr} {l : List V} (h : Imm KV Ω w A l) {x : Int} (h0 : 0 ≤ x) (h1 : x < (l.length : Nat)) :
    ∃ ad, A = some ad ∧ ¬ Ω ad.block ∧ ∀ u, w.cell? = u.cell? ∨ Ext w u ∨ (∃ S, Fr S w u ∧ ∀ k, S k → Ω k) → u.cell? ((ad.add (x.toNat * 3)).add 0) = some (.int .u8 (l.getD x.toNat V0).k) ∧ u.cell? ((ad.add (x.toNat * 3)).add (0 + 1)) = some (.int .i64 (l.getD x.toNat V0).n) ∧ u.cell? ((ad.add (x.toNat * 3)).add (0 + 1 + 1)) = some (.string (l.getD x.toNat V0).s) := by
  have hlt : x.toNat < l.length := by omega
  have hg : l[x.toNat]? = some (l.getD x.toNat V0) := by simp [List.getD, hlt]
  obtain ⟨ad, hA, hn, cs, hr, hcell⟩ := h x.toNat _ hg
  have hr : cs = vc (l.getD x.toNat V0) := hr
  subst hr
  refine ⟨ad, hA, hn, fun u hu => ?_⟩
  have hc : ∀ j v, (vc (l.getD x.toNat V0))[j]? = some v → u.cell? ((ad.add (x.toNat * 3)).add j) = some v := by
    intro j v hj
    have h2 := hcell j v hj
    rw [add_add]
    rcases hu with hu | hu | ⟨S, hu, hS⟩
    · rw [← hu]; exact h2
    · exact hu.cell (fun h => h) h2
    · exact hu.cell (by rw [add_block]; exact fun h => hn (hS _ h)) h2
  exact ⟨hc 0 _ rfl, hc 1 _ rfl, hc 2 _ rfl⟩
theorem itemV0 {Ω : Nat → Prop} {w : World} {A : Option Addr} {l : List V} (h : Imm KV Ω w A l) {x : Int} (h0 : 0 ≤ x) (h1 : x < (l.length : Nat)) :
    ∃ ad, A = some ad ∧ w.cell? ((ad.add (x.toNat * 3)).add 0) = some (.int .u8 (l.getD x.toNat V0).k) ∧ w.cell? ((ad.add (x.toNat * 3)).add (0 + 1)) = some (.int .i64 (l.getD x.toNat V0).n) ∧ w.cell? ((ad.add (x.toNat * 3)).add (0 + 1 + 1)) = some (.string (l.getD x.toNat V0).s) := by
  obtain ⟨ad, hA, _, hc⟩ := itemV h h0 h1
  exact ⟨ad, hA, hc w (.inl rfl)⟩
theorem varV (w : World) (zs : Array Value) (hz : zs.size = 3) (e : TypeId) (a b c : Value) : ((((w.alloc (.cells zs e)).cell? ((⟨w.heap.size, 0, none⟩ : Addr).add 0)).isSome = true ∧ (w.alloc (.cells zs e)).frozen? ((⟨w.heap.size, 0, none⟩ : Addr).add 0) = false) ∧
    ((((w.alloc (.cells zs e)).setCell ((⟨w.heap.size, 0, none⟩ : Addr).add 0) a).cell? ((⟨w.heap.size, 0, none⟩ : Addr).add (0 + 1))).isSome = true ∧ ((w.alloc (.cells zs e)).setCell ((⟨w.heap.size, 0, none⟩ : Addr).add 0) a).frozen? ((⟨w.heap.size, 0, none⟩ : Addr).add (0 + 1)) = false) ∧
    (((((w.alloc (.cells zs e)).setCell ((⟨w.heap.size, 0, none⟩ : Addr).add 0) a).setCell ((⟨w.heap.size, 0, none⟩ : Addr).add (0 + 1)) b).cell? ((⟨w.heap.size, 0, none⟩ : Addr).add (0 + 1 + 1))).isSome = true ∧ (((w.alloc (.cells zs e)).setCell ((⟨w.heap.size, 0, none⟩ : Addr).add 0) a).setCell ((⟨w.heap.size, 0, none⟩ : Addr).add (0 + 1)) b).frozen? ((⟨w.heap.size, 0, none⟩ : Addr).add (0 + 1 + 1)) = false)) ∧
    Blk ((((w.alloc (.cells zs e)).setCell ((⟨w.heap.size, 0, none⟩ : Addr).add 0) a).setCell ((⟨w.heap.size, 0, none⟩ : Addr).add (0 + 1)) b).setCell ((⟨w.heap.size, 0, none⟩ : Addr).add (0 + 1 + 1)) c) w.heap.size [a, b, c] ∧
    Ext w ((((w.alloc (.cells zs e)).setCell ((⟨w.heap.size, 0, none⟩ : Addr).add 0) a).setCell ((⟨w.heap.size, 0, none⟩ : Addr).add (0 + 1)) b).setCell ((⟨w.heap.size, 0, none⟩ : Addr).add (0 + 1 + 1)) c) := by
  obtain ⟨x, y, z, rfl⟩ : ∃ x y z, zs = #[x, y, z] := by
    obtain ⟨l⟩ := zs
    match l, hz with
    | [x, y, z], _ => exact ⟨x, y, z, rfl⟩
  have b0 : Blk (w.alloc (.cells #[x, y, z] e)) w.heap.size [x, y, z] := Blk.alloc _ _ _
  have e0 : Ext w (w.alloc (.cells #[x, y, z] e)) := Fr.alloc NoB w _
  generalize w.alloc (.cells #[x, y, z] e) = w0 at *
  have b1 := b0.set 0 0 a
  have e1 := e0.setNewAdd (o := 0) (i := 0) (Nat.le_refl _) a
  generalize w0.setCell ((⟨w.heap.size, 0, none⟩ : Addr).add 0) a = w1 at *
  have b2 := b1.set 0 (0 + 1) b
  have e2 := e1.setNewAdd (o := 0) (i := 0 + 1) (Nat.le_refl _) b
  generalize w1.setCell ((⟨w.heap.size, 0, none⟩ : Addr).add (0 + 1)) b = w2 at *
  have b3 := b2.set 0 (0 + 1 + 1) c
  have e3 := e2.setNewAdd (o := 0) (i := 0 + 1 + 1) (Nat.le_refl _) c
  exact ⟨⟨⟨by rw [b0.cell (v := x) rfl]; rfl, b0.unfrozen _ _⟩, ⟨by rw [b1.cell (v := y) rfl]; rfl, b1.unfrozen _ _⟩, ⟨by rw [b2.cell (v := z) rfl]; rfl, b2.unfrozen _ _⟩⟩, b3, e3⟩
theorem appendBs {w : World} {A : Option Addr} {c : Nat} {l b : List UInt8} (h : OwnB w A c l) {x : Value} (hx : Src Tryz.prog w 1 x b.length (b.map u8)) (hb : l.length + b.length ≤ 140737488355328) (ty : TypeId) {t2 : TypeId} (ht2 : ∃ d, und Tryz.prog t2 = some d ∧ ∀ k, d ≠ .int k) :
    ∃ A' c' w', RunsTo Tryz.prog (Builtin.append_ #[32, t2] ty #[.slice A l.length c, x]) w (.slice A' (l ++ b).length c') w' ∧ OwnB w' A' c' (l ++ b) ∧ Grew A A' w w' := by
  obtain ⟨A', c', w', hr, ho, hf, hs, _⟩ := append_own (ty := ty) (t2 := t2) slB ht2 h hx (by simp [maxLen]; omega) (by omega)
  exact ⟨A', c', w', by rw [List.length_append]; exact hr, by unfold OwnB; rw [List.length_append, List.map_append]; exact ho, ⟨hf, hs⟩⟩
theorem isB : ∃ d, und Tryz.prog 32 = some d ∧ ∀ k, d ≠ .int k := ⟨_, slB.ht, fun _ h => by cases h⟩
theorem isS : ∃ d, und Tryz.prog 9 = some d ∧ ∀ k, d ≠ .int k := ⟨_, bt.hs, fun _ h => by cases h⟩
def encB (b : List UInt8) : List UInt8 := B1.enc b.length ++ b
theorem Blob_spec {w : World} {A B : Option Addr} {c cb : Nat} {l b : List UInt8} (h : OwnB w A c l) (hB : Imm KB (ownB A) w B b) (hb : l.length + b.length + 10 ≤ 140737488355328) :
    CallsV Tryz.prog 28 #[.slice A l.length c, .slice B b.length cb] w fun v w' => ∃ A' c', v = .slice A' (l ++ encB b).length c' ∧ OwnB w' A' c' (l ++ encB b) ∧ Grew A A' w w' := by
  refine bytes_Blob.calls okay ?_
  unfold bytes_Blob.W
  rw [wu _ (by omega) (by omega)]
  refine (Uint_spec h b.length (by omega) (by omega)).mono ?_
  rintro v w1 ⟨A1, c1, rfl, ho, hg, _⟩
  refine ⟨_, _, _, rfl, ?_⟩
  have he := B1.enc_le_ten (m := b.length) (by omega)
  obtain ⟨A2, c2, w2, hr, ho2, hg2⟩ := appendBs ho (Src.bytes (P := Tryz.prog) (c := cb) (hB.grew KB_pos hg)) (by rw [List.length_append]; omega) 32 isB
  refine ⟨_, _, _, _, hr, A2, c2, ?_, ?_, hg.trans hg2⟩
  · simp [encB]
  · unfold encB; rw [← List.append_assoc]; exact ho2
theorem high_spec {w : World} {A : Option Addr} {c : Nat} {l : List UInt8} (h : OwnB w A c l) (m k : Nat) (hm : m < 18446744073709551616) (hk : k ≤ 8) (hb : l.length + 8 ≤ 140737488355328) :
    CallsV Tryz.prog 66 #[.slice A l.length c, .int .u64 (m : Int), .int .i64 (k : Int)] w fun v w' => ∃ A' c', v = .slice A' (l ++ hi m k).length c' ∧ OwnB w' A' c' (l ++ hi m k) ∧ Grew A A' w w' := by
  refine record_high.calls okay ?_
  unfold record_high.W
  have hsplit : ∀ j, j ≤ k → ∃ r, hi m k = r ++ hi m j ∧ r.length = k - j := by
    intro j hj
    induction k with
    | zero => obtain rfl : j = 0 := by omega
              exact ⟨[], rfl, rfl⟩
    | succ k ih =>
      rcases Nat.lt_or_ge k j with h | h
      · obtain rfl : j = k + 1 := by omega
        exact ⟨[], rfl, by simp⟩
      · obtain ⟨r, hr, hl⟩ := ih (by omega) h
        exact ⟨(m / 256 ^ k % 256).toUInt8 :: r, by rw [hi, hr]; rfl, by simp [hl]; omega⟩
  refine ⟨fun A1 n1 c1 x w1 => ∃ (j : Nat) (r : List UInt8), j ≤ k ∧ x = (j : Int) - 1 ∧ hi m k = r ++ hi m j ∧ r.length = k - j ∧ n1 = (l ++ r).length ∧ OwnB w1 A1 c1 (l ++ r) ∧ Grew A A1 w w1, fun _ _ _ x _ => (x + 1).toNat,
    ⟨k, [], by omega, by rw [wi _ (by omega) (by omega)], by simp, by simp, by simp, by simpa using h, .refl _ _⟩, ?_⟩
  rintro A1 _ c1 _ w1 ⟨j, r, hj, rfl, hr, hrl, rfl, ho, hg⟩
  have hlen : (l ++ r).length = l.length + (k - j) := by simp [hrl]
  refine brd (fun h0 => ?_) (fun h0 => ?_)
  · obtain ⟨i, rfl⟩ : ∃ i, j = i + 1 := ⟨j - 1, by omega⟩
    have e1 : IntKind.i64.wrap (8 * (((i + 1 : Nat) : Int) - 1)) = ((8 * i : Nat) : Int) := by rw [wi _ (by omega) (by omega)]; omega
    rw [e1, Int.toNat_natCast, show min (8 * i) 64 = 8 * i by omega, show ((2 : Int) ^ (8 * i)) = ((256 ^ i : Nat) : Int) by rw [show (256 : Nat) = 2 ^ 8 from rfl, ← Nat.pow_mul]; simp, Int.fdiv_eq_ediv_of_nonneg _ (Int.natCast_nonneg _), ← Int.natCast_ediv]
    have hw : IntKind.u8.wrap ((m / 256 ^ i : Nat) : Int) = ((m / 256 ^ i % 256 : Nat) : Int) := by rw [IntKind.wrap_u8]; omega
    rw [hw, toUInt8_int (Nat.mod_lt _ (by decide))]
    obtain ⟨A2, c2, w2, hrun, ho2, hg2, _⟩ := appendB ho (m / 256 ^ i % 256).toUInt8 (by omega) 5 32
    refine ⟨by omega, A2, _, c2, w2, hrun, ?_⟩
    rw [wi _ (by omega) (by omega)]
    refine ⟨⟨i, r ++ [(m / 256 ^ i % 256).toUInt8], by omega, by omega, by rw [hr, hi]; simp, by simp [hrl]; omega, by simp; omega, by rw [← List.append_assoc]; exact ho2, hg.trans hg2⟩, by dsimp only; omega⟩
  · obtain rfl : j = 0 := by omega
    have : hi m k = r := by rw [hr]; simp [hi]
    rw [this]
    exact ⟨A1, c1, rfl, ho, hg⟩
theorem fits_shift {n : Int} (h1 : -9223372036854775808 ≤ n) (h2 : n ≤ 9223372036854775807) {k : Nat} (hk : 1 ≤ k) (hk' : k ≤ 7) :
    (Int.fdiv (IntKind.i64.wrap (n * 2 ^ min (Int.toNat (IntKind.i64.wrap (64 - IntKind.i64.wrap (8 * (k : Int))))) 64)) (2 ^ min (Int.toNat (IntKind.i64.wrap (64 - IntKind.i64.wrap (8 * (k : Int))))) 64) = n) ↔ fits n k = true := by
  have e : IntKind.i64.wrap (64 - IntKind.i64.wrap (8 * (k : Int))) = ((64 - 8 * k : Nat) : Int) := by
    rw [wi (8 * (k : Int)) (by omega) (by omega), wi _ (by omega) (by omega)]; omega
  rw [e, Int.toNat_natCast, IntKind.wrap_i64, Int.fdiv_eq_ediv_of_nonneg _ (by exact Int.le_of_lt (Int.pow_pos (by decide)))]
  unfold fits
  rw [decide_eq_true_iff]
  obtain rfl | rfl | rfl | rfl | rfl | rfl | rfl : k = 1 ∨ k = 2 ∨ k = 3 ∨ k = 4 ∨ k = 5 ∨ k = 6 ∨ k = 7 := by omega
  all_goals
    simp only [Nat.reduceMul, Nat.reduceSub, Nat.reducePow, Int.reducePow, show min 56 64 = 56 from rfl, show min 48 64 = 48 from rfl, show min 40 64 = 40 from rfl, show min 32 64 = 32 from rfl, show min 24 64 = 24 from rfl, show min 16 64 = 16 from rfl, show min 8 64 = 8 from rfl, Int.cast_ofNat_Int]
    omega
theorem wide_spec (w : World) (n : Int) (h1 : -9223372036854775808 ≤ n) (h2 : n ≤ 9223372036854775807) :
    CallsV Tryz.prog 67 #[.int .i64 n] w fun v w' => v = .int .i64 (wide n : Nat) ∧ w' = w := by
  refine record_wide.calls okay ?_
  unfold record_wide.W
  have e : ∀ k : Nat, k ≤ 8 → IntKind.i64.wrap (64 - IntKind.i64.wrap (8 * (k : Int))) = ((64 - 8 * k : Nat) : Int) := by
    intro k hk
    rw [wi (8 * (k : Int)) (by omega) (by omega), wi _ (by omega) (by omega)]; omega
  have fs : ∀ (k : Nat) (A B : Prop), 1 ≤ k → k ≤ 7 → (fits n k = false → A) → (fits n k = true → B) →
      (bif !decide (Int.fdiv (IntKind.i64.wrap (n * 2 ^ min (Int.toNat (IntKind.i64.wrap (64 - IntKind.i64.wrap (8 * (k : Int))))) 64)) (2 ^ min (Int.toNat (IntKind.i64.wrap (64 - IntKind.i64.wrap (8 * (k : Int))))) 64) = n) then A else B) := by
    intro k A B k1 k7 ha hb
    refine brn (fun h => ha ?_) (fun h => hb ((fits_shift h1 h2 k1 k7).1 h))
    cases hf : fits n k with
    | false => rfl
    | true => exact absurd ((fits_shift h1 h2 k1 k7).2 hf) h
  have e1 := e 1 (by omega)
  refine ⟨fun x w1 => ∃ k : Nat, 1 < k ∧ k ≤ 8 ∧ x = (k : Int) ∧ wide n = wideFrom n (8 - k) k ∧ w1 = w, fun x _ => (9 - x).toNat, ⟨?_, ?_, ?_⟩, ?_⟩
  · rw [show ((1 : Int)) = ((1 : Nat) : Int) from rfl, e1]; omega
  · rw [show ((1 : Int)) = ((1 : Nat) : Int) from rfl, e1]; omega
  · have f1 := fun A B => fs 1 A B (by decide) (by decide)
    simp only [show ((1 : Nat) : Int) = 1 from rfl] at f1
    refine f1 _ _ (fun hf => ?_) (fun hf => ⟨?_, rfl⟩)
    · exact ⟨2, by omega, by omega, by rw [wi _ (by omega) (by omega)]; rfl, by show wideFrom n 7 1 = _; rw [wideFrom, hf, if_neg (by decide)], rfl⟩
    · have : wide n = 1 := by show wideFrom n 7 1 = _; rw [wideFrom, hf, if_pos rfl]
      rw [this]; rfl
  · rintro _ w1 ⟨k, hk, hk8, rfl, hw, rfl⟩
    refine brd (fun hlt => ?_) (fun hge => ?_)
    · refine ⟨by rw [e k (by omega)]; omega, by rw [e k (by omega)]; omega, ?_⟩
      have hwk : wideFrom n (8 - k) k = if fits n k then k else wideFrom n (8 - (k + 1)) (k + 1) := by
        rw [show 8 - k = (8 - (k + 1)) + 1 by omega, wideFrom]
      rw [hwk] at hw
      refine fs k _ _ (by omega) (by omega) (fun hf => ?_) (fun hf => ⟨?_, rfl⟩)
      · rw [hf] at hw
        rw [wi _ (by omega) (by omega)]
        exact ⟨⟨k + 1, by omega, by omega, rfl, hw, rfl⟩, by dsimp only; omega⟩
      · rw [hf] at hw
        rw [show wide n = k from hw]
    · obtain rfl : k = 8 := by omega
      refine ⟨?_, rfl⟩
      rw [hw]; rfl
theorem sort_spec (w : World) (v : V) (hg : good v) (hs : v.s.size ≤ 1000000000) :
    CallsV Tryz.prog 65 #[.agg #[.int .u8 v.k, .int .i64 v.n, .string v.s]] w fun r w' => r = .int .u64 (sort v : Nat) ∧ Ext w w' := by
  refine record_sort.calls okay ?_
  unfold record_sort.W
  have b : Blk (w.alloc (.cells #[.int .u8 v.k, .int .i64 v.n, .string v.s] 54)) w.heap.size [.int .u8 v.k, .int .i64 v.n, .string v.s] := Blk.alloc _ _ _
  have e : Ext w (w.alloc (.cells #[.int .u8 v.k, .int .i64 v.n, .string v.s] 54)) := Fr.alloc NoB w _
  generalize w.alloc (.cells #[.int .u8 v.k, .int .i64 v.n, .string v.s] 54) = W at *
  refine ⟨_, b.cell rfl, ?_⟩
  have hwl := wide_le v.n
  unfold sort
  refine brd (fun h1 => ?_) (fun h1 => ?_)
  · rw [if_pos h1]
    refine ⟨_, b.cell rfl, (wide_spec W v.n hg.2.1.1 hg.2.1.2).same ⟨_, rfl, ?_, e⟩⟩
    rw [wu _ (by omega) (by omega)]
  rw [if_neg h1]
  refine brd (fun h1 => ?_) (fun h1 => ?_)
  · rw [if_pos h1]
    refine ⟨_, b.cell rfl, ?_, e⟩
    rw [wu (v.s.size : Int) (by omega) (by omega), wu (2 * (v.s.size : Int)) (by omega) (by omega), wu _ (by omega) (by omega)]
    rfl
  rw [if_neg h1]
  refine brd (fun h1 => ?_) (fun h1 => ?_)
  · rw [if_pos h1]
    refine ⟨_, b.cell rfl, ?_, e⟩
    rw [wu (v.s.size : Int) (by omega) (by omega), wu (2 * (v.s.size : Int)) (by omega) (by omega), wu _ (by omega) (by omega)]
    rfl
  rw [if_neg h1]
  exact ⟨rfl, e⟩
theorem Src.sb (w : World) (s : ByteArray) : Src Tryz.prog w 1 (.string s) (sb s).length ((Go.Sx.sb s).map u8) := by
  have := Src.str (P := Tryz.prog) (w := w) s
  rw [sb_length]
  have e : Lib.strCells s = (Go.Sx.sb s).map u8 := by simp [Lib.strCells, Go.Sx.sb, u8]
  rw [← e]; exact this
def Tells (w : World) (r : List UInt8 × Int) (v : Value) (w' : World) : Prop := ∃ A c, v = .tuple #[.slice A r.1.length c, .int .i64 r.2] ∧ OwnB w' A c r.1 ∧ Ext w w' ∧ New w A
theorem Tells.nil {w w' : World} (e : Ext w w') (x : Int) : Tells w ([], x) (.tuple #[.slice none 0 0, .int .i64 x]) w' := ⟨none, 0, rfl, OwnB.nil _, e, New.none _⟩
theorem rightRow_zero {l : List V} (h : rightRow l = 0) : l.length ≤ 200 ∧ l.all right = true := by
  unfold rightRow at h
  split at h
  · cases h
  · refine ⟨by omega, ?_⟩
    split at h
    · assumption
    · cases h
theorem getD_mem {l : List V} {i : Nat} (h : i < l.length) : l.getD i V0 ∈ l := by simp [List.getD, h]
def putL (l : List V) : List UInt8 := B1.enc l.length ++ l.flatMap (fun v => B1.enc (sort v)) ++ l.flatMap body
def putR (l : List V) : List UInt8 × Int := if rightRow l ≠ 0 then ([], rightRow l) else if 1048576 < (putL l).length then ([], 3) else (putL l, 0)
theorem flat_snoc {f : V → List UInt8} (l : List V) (j : Nat) (h : j < l.length) : (l.take (j + 1)).flatMap f = (l.take j).flatMap f ++ f (l.getD j V0) := by
  have : l.take (j + 1) = l.take j ++ [l.getD j V0] := by rw [List.take_add_one]; simp [List.getD, h]
  rw [this, List.flatMap_append]; simp
theorem sort_lt (v : V) (hs : v.s.size ≤ 65536) : sort v < 2 ^ 64 := by
  have := wide_le v.n
  unfold sort; split
  · omega
  · split
    · omega
    · split <;> omega
theorem flat_le {f : V → List UInt8} {M : Nat} : ∀ (l : List V), (∀ v ∈ l, (f v).length ≤ M) → (l.flatMap f).length ≤ l.length * M
  | [], _ => by simp
  | v :: l, h => by
    have h1 := flat_le l (fun v hv => h v (List.mem_cons.2 (.inr hv)))
    have h2 := h v (List.mem_cons.2 (.inl rfl))
    rw [List.flatMap_cons, List.length_append, List.length_cons, Nat.add_mul, Nat.one_mul]; omega
theorem body_length (v : V) : (body v).length ≤ 8 + v.s.size := by
  have := wide_le v.n
  unfold body; split <;> simp [hi_length, sb_length] <;> omega
theorem bounded_spec {w : World} {A : Option Addr} {c n : Nat} : CallsV Tryz.prog 68 #[.slice A n c] w fun r w' => r = (if 1048576 < n then .tuple #[.slice none 0 0, .int .i64 3] else .tuple #[.slice A n c, .int .i64 0]) ∧ w' = w := by
  refine record_bounded.calls okay ?_
  unfold record_bounded.W
  refine brd (fun h => ?_) (fun h => ?_)
  · exact ⟨by rw [if_pos (by omega)], rfl⟩
  · exact ⟨by rw [if_neg (by omega)], rfl⟩
theorem testsR (w : World) : Tests KV argA w (.func (.func 126) #[] #[]) wrongV := by
  intro u _ a cs hr
  have hr : cs = vc a := hr
  subst hr
  refine ⟨_, #[], #[], rfl, by kernel_rfl, ?_⟩
  refine record_right_1.calls okay ?_
  unfold record_right_1.W
  intro g w1 f
  repeat (first | refine ⟨_, Blk.cell (f.blk) (by rfl), ?_⟩ | refine ⟨_, _, _, Blk.cell (f.blk) (by rfl), ?_⟩)
  refine (right1_spec w1 a).mono ?_
  rintro _ w2 ⟨rfl, e⟩
  exact ⟨_, rfl, rfl, f.ext.trans' e⟩
theorem right_spec {w : World} {A : Option Addr} {c : Nat} {l : List V} (h : Imm KV NoB w A l) (hl : l.length ≤ maxLen) :
    CallsV Tryz.prog 64 #[.slice A l.length c] w fun r w' => r = .int .i64 (rightRow l) ∧ Ext w w' := by
  refine record_right.calls okay ?_
  unfold record_right.W rightRow
  refine brd (fun h1 => ⟨by rw [if_pos (by omega)], .refl _ _⟩) (fun h1 => ?_)
  rw [if_neg (by omega)]
  refine (contains_api_Value rfl h hl (testsR w)).mono ?_
  rintro _ w1 ⟨rfl, e⟩
  have ha : l.any wrongV = !l.all right := by
    rw [List.not_all_eq_any_not]; rfl
  rw [ha]
  refine ⟨_, rfl, brnb (fun h => ?_) (fun h => ?_)⟩
  · rw [h]; exact ⟨rfl, e⟩
  · rw [h]; exact ⟨rfl, e⟩
theorem Put_spec {w : World} {A : Option Addr} {c : Nat} {l : List V} (h : Imm KV NoB w A l) (hl : l.length ≤ maxLen) (hg : ∀ v ∈ l, good v) :
    CallsV Tryz.prog 27 #[.slice A l.length c] w fun r w' => Tells w (putR l) r w' := by
  refine record_Put.calls okay ?_
  unfold record_Put.W
  refine (right_spec h hl).mono ?_
  rintro r w1 ⟨rfl, e1⟩
  refine ⟨_, rfl, ?_⟩
  unfold putR
  refine brn (fun hr => ?_) (fun hr => ?_)
  · rw [if_pos hr]; exact Tells.nil e1 _
  rw [if_neg (by rw [hr]; simp)]
  obtain ⟨h200, hall⟩ := rightRow_zero hr
  rw [List.all_eq_true] at hall
  have h1 := h.ext KV_pos e1
  rw [wu _ (by omega) (by omega)]
  refine (Uint_spec (OwnB.nil w1) l.length (by omega) (by simp)).mono ?_
  rw [List.nil_append]
  rintro r w2 ⟨A2, c2, rfl, ho2, hg2, _⟩
  have e2 := hg2.ext (.refl _ _) (New.none _)
  have n2 := hg2.new (.refl _ _) (New.none _)
  have he := B1.enc_le_ten (m := l.length) (by omega)
  refine ⟨_, _, _, rfl, ?_⟩
  have hsl : ∀ v ∈ l, (B1.enc (sort v)).length ≤ 10 := fun v hv => B1.enc_le_ten (sort_lt v (right_size (hall v hv)))
  have hbl : ∀ v ∈ l, (body v).length ≤ 65544 := fun v hv => by have := body_length v; have := right_size (hall v hv); omega
  have hS : ∀ j, ((l.take j).flatMap fun v => B1.enc (sort v)).length ≤ 2000 := fun j => by
    have := flat_le (f := fun v => B1.enc (sort v)) (M := 10) (l.take j) (fun v hv => hsl v (List.mem_of_mem_take hv))
    rw [List.length_take] at this; omega
  have hB : ∀ j, ((l.take j).flatMap body).length ≤ 13108800 := fun j => by
    have := flat_le (f := body) (M := 65544) (l.take j) (fun v hv => hbl v (List.mem_of_mem_take hv))
    rw [List.length_take] at this; omega
  refine ⟨fun A3 n3 c3 x w3 => ∃ j : Nat, j ≤ l.length ∧ x = (j : Int) ∧ n3 = (B1.enc l.length ++ (l.take j).flatMap fun v => B1.enc (sort v)).length ∧ OwnB w3 A3 c3 (B1.enc l.length ++ (l.take j).flatMap fun v => B1.enc (sort v)) ∧ Ext w1 w3 ∧ New w1 A3,
    fun _ _ _ x _ => (l.length - x).toNat, ⟨0, by omega, rfl, by simp, by simpa using ho2, e2, n2⟩, ?_⟩
  rintro A3 _ c3 _ w3 ⟨j, hj, rfl, rfl, ho3, e3, n3⟩
  have hSj := hS j
  refine brd (fun hlt => ?_) (fun hge => ?_)
  · obtain ⟨ad, hA, q1, q2, q3⟩ := itemV0 (h1.ext KV_pos e3) (x := (j : Int)) (by omega) (by omega)
    refine ⟨ad, hA, ⟨by omega, by omega⟩, _, q1, _, q2, _, q3, ?_⟩
    rw [Int.toNat_natCast]
    have hjl : j < l.length := by omega
    have hgv := hg _ (getD_mem hjl)
    have hsz := right_size (hall _ (getD_mem hjl))
    have hsn := flat_snoc (f := fun v => B1.enc (sort v)) l j hjl
    generalize l.getD j V0 = v at *
    obtain ⟨hs, b, e⟩ := varV w3 #[.int .u8 0, .int .i64 0, .string (ByteArray.mk #[])] rfl 54 (.int .u8 v.k) (.int .i64 v.n) (.string v.s)
    refine ⟨hs.1, hs.2.1, hs.2.2, _, b.cell rfl, _, b.cell rfl, _, b.cell rfl, ?_⟩
    refine (sort_spec _ v hgv (by omega)).mono ?_
    rintro r w4 ⟨rfl, e4⟩
    refine ⟨_, rfl, ?_⟩
    refine (Uint_spec (ho3.ext (e.trans' e4)) (sort v) (sort_lt v hsz) (by rw [List.length_append]; omega)).mono ?_
    rintro r w5 ⟨A5, c5, rfl, ho5, hg5, _⟩
    have e34 := e3.trans' (e.trans' e4)
    refine ⟨_, _, _, rfl, ?_⟩
    rw [wi _ (by omega) (by omega)]
    rw [List.append_assoc, ← hsn] at ho5 ⊢
    exact ⟨⟨j + 1, by omega, rfl, rfl, ho5, hg5.ext e34 n3, hg5.new e34 n3⟩, by dsimp only; omega⟩
  obtain rfl : j = l.length := by omega
  rw [List.take_length] at ho3 hSj ⊢
  refine ⟨fun A4 n4 c4 x w4 => ∃ j : Nat, j ≤ l.length ∧ x = (j : Int) ∧ n4 = (B1.enc l.length ++ (l.flatMap fun v => B1.enc (sort v)) ++ (l.take j).flatMap body).length ∧ OwnB w4 A4 c4 (B1.enc l.length ++ (l.flatMap fun v => B1.enc (sort v)) ++ (l.take j).flatMap body) ∧ Ext w1 w4 ∧ New w1 A4,
    fun _ _ _ x _ => (l.length - x).toNat, ⟨0, by omega, rfl, by simp, by simpa using ho3, e3, n3⟩, ?_⟩
  rintro A4 _ c4 _ w4 ⟨j, hj, rfl, rfl, ho4, e4, n4⟩
  have hBj := hB j
  refine brd (fun hlt => ?_) (fun hge => ?_)
  · obtain ⟨ad, hA, q1, q2, q3⟩ := itemV0 (h1.ext KV_pos e4) (x := (j : Int)) (by omega) (by omega)
    refine ⟨ad, hA, ⟨by omega, by omega⟩, _, q1, _, q2, _, q3, ?_⟩
    rw [Int.toNat_natCast]
    have hjl : j < l.length := by omega
    have hgv := hg _ (getD_mem hjl)
    have hsz := right_size (hall _ (getD_mem hjl))
    have hsn := flat_snoc (f := body) l j hjl
    generalize l.getD j V0 = v at *
    obtain ⟨hs, b, e⟩ := varV w4 #[.int .u8 0, .int .i64 0, .string (ByteArray.mk #[])] rfl 54 (.int .u8 v.k) (.int .i64 v.n) (.string v.s)
    have hnot : ¬ ownB A4 w4.heap.size := fun hk => absurd (Own.lt ho4 _ hk) (Nat.lt_irrefl _)
    refine ⟨hs.1, hs.2.1, hs.2.2, _, b.cell rfl, ?_⟩
    have e4' := e4.trans' e
    have ho4' := ho4.ext e
    generalize w4.heap.size = g at *
    generalize (((w4.alloc (.cells #[.int .u8 0, .int .i64 0, .string (ByteArray.mk #[])] 54)).setCell ((⟨g, 0, none⟩ : Addr).add 0) (.int .u8 v.k)).setCell ((⟨g, 0, none⟩ : Addr).add (0 + 1)) (.int .i64 v.n)).setCell ((⟨g, 0, none⟩ : Addr).add (0 + 1 + 1)) (.string v.s) = W at *
    have hlen : (B1.enc l.length ++ (l.flatMap fun v => B1.enc (sort v)) ++ (l.take j).flatMap body).length ≤ 20000000 := by simp only [List.length_append]; omega
    generalize hpre : B1.enc l.length ++ (l.flatMap fun v => B1.enc (sort v)) = pre at *
    refine brd (fun h1 => ?_) (fun h1 => ?_)
    · refine ⟨fun u => Blk u g [.int .u8 v.k, .int .i64 v.n, .string v.s], b.ext (Fr.drew NoB W), _, fun u hu => hu.cell rfl, _, fun u hu => hu.cell rfl, ?_⟩
      refine (wide_spec _ v.n hgv.2.1.1 hgv.2.1.2).same ⟨_, rfl, fun u => Blk u g [.int .u8 v.k, .int .i64 v.n, .string v.s], fun _ h => h, b.ext (Fr.drew NoB W), ?_⟩
      have hwl := wide_le v.n
      have hm : IntKind.u64.wrap v.n = (((v.n % 18446744073709551616).toNat : Nat) : Int) := by rw [wu_mod]; omega
      rw [hm]
      have ed := e4'.trans' (Fr.drew NoB W)
      refine (high_spec (ho4'.ext (Fr.drew NoB W)) (v.n % 18446744073709551616).toNat (wide v.n) (by omega) hwl (by omega)).mono ?_
      rintro r w5 ⟨A5, c5, rfl, ho5, hg5⟩
      have b5 := (b.ext (Fr.drew NoB W)).keep hg5.fr hnot
      have hhl := hi_length (v.n % 18446744073709551616).toNat (wide v.n)
      refine ⟨_, _, _, rfl, fun u => Blk u g [.int .u8 v.k, .int .i64 v.n, .string v.s], fun _ h => h, b5, _, b5.cell rfl, ?_⟩
      obtain ⟨A6, c6, w6, hr6, ho6, hg6⟩ := appendBs ho5 (Src.sb w5 v.s) (by rw [List.length_append, hhl, sb_length]; omega) 32 isS
      refine ⟨_, _, _, _, hr6, ?_⟩
      rw [wi _ (by omega) (by omega)]
      have hcat : pre ++ (l.take j).flatMap body ++ hi (v.n % 18446744073709551616).toNat (wide v.n) ++ sb v.s = pre ++ (l.take (j + 1)).flatMap body := by
        rw [hsn, body, if_pos h1]; simp
      rw [hcat] at ho6 ⊢
      have hg56 := hg5.trans hg6
      exact ⟨⟨j + 1, by omega, rfl, rfl, ho6, hg56.ext ed n4, hg56.new ed n4⟩, by dsimp only; omega⟩
    · obtain ⟨A6, c6, w6, hr6, ho6, hg6⟩ := appendBs ho4' (Src.sb W v.s) (by rw [sb_length]; omega) 32 isS
      refine ⟨_, b.cell rfl, _, _, _, _, hr6, ?_⟩
      rw [wi _ (by omega) (by omega)]
      have hcat : pre ++ (l.take j).flatMap body ++ sb v.s = pre ++ (l.take (j + 1)).flatMap body := by
        rw [hsn, body, if_neg h1]; simp
      rw [hcat] at ho6 ⊢
      exact ⟨⟨j + 1, by omega, rfl, rfl, ho6, hg6.ext e4' n4, hg6.new e4' n4⟩, by dsimp only; omega⟩
  obtain rfl : j = l.length := by omega
  rw [List.take_length] at ho4 ⊢
  refine (bounded_spec).same ?_
  show _
  by_cases hb : 1048576 < (putL l).length
  · have hb' := hb
    unfold putL at hb'
    rw [if_pos hb, if_pos hb']
    exact ⟨_, _, _, _, rfl, Tells.nil (e1.trans' e4) _⟩
  · have hb' := hb
    unfold putL at hb'
    rw [if_neg hb, if_neg hb']
    exact ⟨_, _, _, _, rfl, A4, c4, rfl, ho4, e1.trans' e4, n4.ext e1⟩
end Go.Proofs.YtaifphjenebgoaaGreatDoor
set_option linter.unusedVariables false
set_option linter.unusedSimpArgs false
namespace Go.Proofs.YtaifphjenebgoaaGreatDoor
open Go Go.Sx

theorem byteI {Ω : Nat → Prop} {w : World} {A : Option Addr} {l : List UInt8} (h : Imm KB Ω w A l) {x : Int} (h0 : 0 ≤ x) (h1 : x < (l.length : Nat)) :
    ∃ ad, A = some ad ∧ ∀ u, Ext w u → u.cell? (ad.add (x.toNat * 1)) = some (.int .u8 ((l.getD x.toNat 0).toNat : Int)) := by
  obtain ⟨ad, hA, _⟩ := h.byte (i := x.toNat) (by omega)
  refine ⟨ad, hA, fun u hu => ?_⟩
  obtain ⟨ad', hA', hc⟩ := (h.keep KB_pos (hu.step Ω)).byte (i := x.toNat) (by omega)
  rw [hA] at hA'; cases hA'
  rw [hc]
  have : x.toNat < l.length := by omega
  simp [List.getD, this]

def tri (r : Nat × Int × Int) : Value := .tuple #[.int .u64 r.1, .int .i64 r.2.1, .int .i64 r.2.2]

theorem GetUint_spec {Ω : Nat → Prop} {w : World} {A : Option Addr} {c : Nat} {l : List UInt8} (h : Imm KB Ω w A l) (hl : l.length ≤ 140737488355328) (at_ : Int) :
    CallsV Tryz.prog 69 #[.slice A l.length c, .int .i64 at_] w fun v w' => v = tri (B1.getU l at_) ∧ Ext w w' := by
  refine bytes_GetUint.calls okay ?_
  unfold bytes_GetUint.W
  refine brd (fun h0 => ?_) (fun h0 => ?_)
  · exact ⟨by rw [B1.getU, if_pos (.inl h0)]; rfl, .refl _ _⟩
  refine brd (fun h1 => ?_) (fun h1 => ?_)
  · exact ⟨by rw [B1.getU, if_pos (.inr h1)]; rfl, .refl _ _⟩
  obtain ⟨a, rfl⟩ : ∃ a : Nat, at_ = (a : Int) := ⟨at_.toNat, by omega⟩
  have hg : B1.getU l (a : Int) = (B1.dec 0 (l.drop a)).at a := by
    rw [B1.getU, if_neg (by omega), Int.toNat_natCast]
  have hm : (l.drop a).length = l.length - a := by simp
  have hgd : ∀ j, (l.drop a).getD j 0 = l.getD (a + j) 0 := fun j => B1.getD_drop l a j 0
  rw [B1.dec_eq] at hg
  have hsl := B1.scan_le (l.drop a) 0
  have hs9 := B1.scan_nine (l.drop a) 0 (by omega)
  have hbig := B1.vt_lt_u64 (l := l.drop a)
  have hscan := B1.scan_ge (l.drop a) 0
  have huniq := B1.scan_unique (l.drop a) 0
  generalize hsdef : B1.scan 0 (l.drop a) = s at *
  refine ⟨fun x w1 => x = ((a + s : Nat) : Int) ∧ w = w1, ?_, ?_⟩
  · rintro _ _ ⟨rfl, rfl⟩
    refine brd (fun he => ?_) (fun he => ?_)
    · exact ⟨by rw [hg, if_neg (by omega)]; rfl, .refl _ _⟩
    have hlt : s < (l.drop a).length := by omega
    rw [if_pos hlt] at hg
    have hb256 := ((l.drop a).getD s 0).toNat_lt
    obtain ⟨ad, hA, hc⟩ := byteI h (x := ((a + s : Nat) : Int)) (by omega) (by omega)
    rw [Int.toNat_natCast, ← hgd] at hc
    refine ⟨fun u => Ext w u, Fr.drew _ _, ad, hA, ⟨by omega, by omega⟩, _, hc, ?_⟩
    refine ⟨fun w1 => Ext w w1 ∧ ¬ ((0 < 0 + s ∧ ((l.drop a).getD s 0).toNat = 0) ∨ (0 + s = 9 ∧ 2 ≤ ((l.drop a).getD s 0).toNat)), ?_, ?_⟩
    · rintro w1 ⟨he1, hnb⟩
      rw [if_neg hnb] at hg
      have hbig := hbig hlt (fun h2 => hnb (.inr ⟨by omega, h2.2⟩))
      have hx1 : IntKind.i64.wrap (((a + s : Nat) : Int) - 1) = ((a + s : Nat) : Int) - 1 := wi _ (by omega) (by omega)
      refine ⟨fun i n w2 => ∃ j : Nat, j ≤ s ∧ i = ((a + j : Nat) : Int) - 1 ∧ n = (B1.vt (s - j) ((l.drop a).drop j) : Nat) ∧ Ext w w2, fun i _ _ => (i + 1).toNat,
        ⟨s, Nat.le_refl _, hx1, ?_, he1⟩, ?_⟩
      · rw [wu _ (by omega) (by omega), Nat.sub_self, B1.vt_zero _ (by simp; omega), B1.getD_drop (l.drop a) s 0 0]; rfl
      · rintro _ _ w2 ⟨j, hj, rfl, rfl, he2⟩
        refine brd (fun hle => ?_) (fun hle => ?_)
        · obtain ⟨j, rfl⟩ : ∃ j', j = j' + 1 := ⟨j - 1, by omega⟩
          obtain ⟨ad, hA, hc⟩ := byteI h (x := ((a + (j + 1) : Nat) : Int) - 1) (by omega) (by omega)
          refine ⟨ad, hA, ⟨by omega, by omega⟩, _, hc _ he2, ?_⟩
          have e1 : (((a + (j + 1) : Nat) : Int) - 1).toNat = a + j := by omega
          rw [e1, ← hgd]
          have hge := hscan j (by omega)
          have hlt' := ((l.drop a).getD j 0).toNat_lt
          have hv := B1.vt_drop j s (l.drop a) (by omega) (by omega)
          have hvm := B1.vt_mono s (l.drop a) j (by omega) (by omega)
          have e2 : IntKind.u64.wrap (IntKind.u64.wrap (((B1.vt (s - (j + 1)) ((l.drop a).drop (j + 1)) : Nat) : Int) * 128) + IntKind.u64.wrap (IntKind.u8.wrap ((((l.drop a).getD j 0).toNat : Int) - 128)))
              = ((B1.vt (s - j) ((l.drop a).drop j) : Nat) : Int) := by
            rw [w8 _ (by omega) (by omega), wu ((((l.drop a).getD j 0).toNat : Int) - 128) (by omega) (by omega), wu (_ * 128) (by omega) (by omega), wu _ (by omega) (by omega), hv]
            omega
          have e3 : IntKind.i64.wrap (((a + (j + 1) : Nat) : Int) - 1 - 1) = ((a + j : Nat) : Int) - 1 := by rw [wi _ (by omega) (by omega)]; omega
          rw [e2, e3]
          exact ⟨⟨j, by omega, rfl, rfl, he2⟩, by dsimp only; omega⟩
        · obtain rfl : j = 0 := by omega
          refine ⟨?_, he2⟩
          rw [hg]
          have e4 : IntKind.i64.wrap (((a + s : Nat) : Int) - a) = (s : Int) := by rw [wi _ (by omega) (by omega)]; omega
          have e5 : IntKind.i64.wrap ((s : Int) + 1) = ((s + 1 : Nat) : Int) := by rw [wi _ (by omega) (by omega)]; omega
          have e6 : IntKind.i64.wrap ((a : Int) + ((s + 1 : Nat) : Int)) = (a : Int) + ((s + 1 : Nat) : Int) := wi _ (by omega) (by omega)
          rw [e4, e5, e6]
          rfl
    · have e4 : IntKind.i64.wrap (((a + s : Nat) : Int) - a) = (s : Int) := by rw [wi _ (by omega) (by omega)]; omega
      have e5 : IntKind.i64.wrap ((s : Int) + 1) = ((s + 1 : Nat) : Int) := by rw [wi _ (by omega) (by omega)]; omega
      rw [e4, e5]
      have hbad : ((0 < 0 + s ∧ ((l.drop a).getD s 0).toNat = 0) ∨ (0 + s = 9 ∧ 2 ≤ ((l.drop a).getD s 0).toNat)) → (Value.tuple #[.int .u64 0, .int .i64 0, .int .i64 10] = tri (B1.getU l (a : Int))) := by
        intro hb; rw [hg, if_pos hb]; rfl
      refine brd (fun h1 => ?_) (fun h1 => ?_)
      · refine brd (fun h2 => ?_) (fun h2 => ?_)
        · exact ⟨hbad (.inl ⟨by omega, by omega⟩), Fr.drew _ _⟩
        refine brd (fun h3 => ?_) (fun h3 => ?_)
        · refine brd (fun h4 => ?_) (fun h4 => ?_)
          · exact ⟨hbad (.inr ⟨by omega, by omega⟩), Fr.drew _ _⟩
          · exact ⟨Fr.drew _ _, by omega⟩
        · exact ⟨Fr.drew _ _, by omega⟩
      · refine brd (fun h3 => ?_) (fun h3 => ?_)
        · refine brd (fun h4 => ?_) (fun h4 => ?_)
          · exact ⟨hbad (.inr ⟨by omega, by omega⟩), Fr.drew _ _⟩
          · exact ⟨Fr.drew _ _, by omega⟩
        · exact ⟨Fr.drew _ _, by omega⟩
  · refine ⟨fun x w1 => ∃ j : Nat, x = ((a + j : Nat) : Int) ∧ j ≤ 9 ∧ j ≤ (l.drop a).length ∧ (∀ i, i < j → 128 ≤ ((l.drop a).getD i 0).toNat) ∧ w = w1, fun x _ => (l.length - x).toNat, ⟨0, rfl, by omega, by omega, fun i hi => by omega, rfl⟩, ?_⟩
    rintro _ _ ⟨j, rfl, hj9, hjl, hge, rfl⟩
    refine brd (fun h2 => ?_) (fun h2 => ?_)
    · have e1 : IntKind.i64.wrap (IntKind.i64.wrap ((a : Int) + 10) - 1) = (a : Int) + 9 := by
        rw [wi ((a : Int) + 10) (by omega) (by omega), wi _ (by omega) (by omega)]; omega
      rw [e1]
      refine brd (fun h3 => ?_) (fun h3 => ?_)
      · obtain ⟨ad, hA, hc⟩ := byteI h (x := ((a + j : Nat) : Int)) (by omega) (by omega)
        rw [Int.toNat_natCast, ← hgd] at hc
        refine ⟨ad, hA, ⟨by omega, by omega⟩, _, hc _ (.refl _ _), ?_⟩
        refine brd (fun h4 => ?_) (fun h4 => ?_)
        · have e3 : IntKind.i64.wrap (((a + j : Nat) : Int) + 1) = ((a + (j + 1) : Nat) : Int) := by rw [wi _ (by omega) (by omega)]; omega
          rw [e3]
          exact ⟨⟨j + 1, rfl, by omega, by omega, fun i hi => if hij : i = j then by subst hij; omega else hge i (by omega), rfl⟩, by dsimp only; omega⟩
        · exact ⟨by rw [huniq j (by omega) hjl hge (.inr (.inr (by omega)))], rfl⟩
      · exact ⟨by rw [huniq j (by omega) hjl hge (.inr (.inl (by omega)))], rfl⟩
    · exact ⟨by rw [huniq j (by omega) hjl hge (.inl (by omega))], rfl⟩
end Go.Proofs.YtaifphjenebgoaaGreatDoor
set_option linter.unusedVariables false
set_option linter.unusedSimpArgs false
namespace Go.Proofs.YtaifphjenebgoaaGreatDoor
open Go Go.Sx
theorem getU_okB {l : List UInt8} {at_ : Int} (h : (B1.getU l at_).2.2 = 0) : ∃ p : Nat, (B1.getU l at_).2.1 = (p : Int) ∧ p ≤ l.length ∧ (B1.getU l at_).1 < 18446744073709551616 ∧ 0 ≤ at_ ∧ at_ < p := by
  unfold B1.getU at h ⊢
  by_cases hc : at_ < 0 ∨ (l.length : Int) < at_
  · rw [if_pos hc] at h; cases h
  rw [if_neg hc] at h ⊢
  rw [B1.dec_eq] at h ⊢
  have hbig := B1.vt_lt_u64 (l := l.drop at_.toNat)
  generalize B1.scan 0 (l.drop at_.toNat) = s at *
  have hm : (l.drop at_.toNat).length = l.length - at_.toNat := by simp
  by_cases h1 : s < (l.drop at_.toNat).length
  · rw [if_pos h1] at h ⊢
    split at h
    · cases h
    · rename_i h2
      rw [if_neg h2]
      refine ⟨at_.toNat + (s + 1), ?_, by omega, hbig h1 (fun h3 => h2 (.inr ⟨by omega, h3.2⟩)), by omega, by omega⟩
      show at_ + ((s + 1 : Nat) : Int) = _
      omega
  · rw [if_neg h1] at h; cases h

def getB (l : List UInt8) (at_ most : Int) : List UInt8 × Int × Int :=
  let r := B1.getU l at_
  if r.2.2 ≠ 0 then ([], 0, r.2.2) else if most < 0 ∨ most < (r.1 : Int) then ([], 0, 3) else if l.length - r.2.1.toNat < r.1 then ([], 0, 11)
  else ((l.drop r.2.1.toNat).take r.1, r.2.1 + r.1, 0)
theorem GetBlob_spec {Ω : Nat → Prop} {w : World} {A : Option Addr} {c : Nat} {l : List UInt8} (h : Imm KB Ω w A l) (hl : l.length ≤ 140737488355328) (hlc : l.length ≤ c) (at_ most : Int) (hm : most < 9223372036854775808) :
    CallsV Tryz.prog 70 #[.slice A l.length c, .int .i64 at_, .int .i64 most] w fun v w' => ∃ A' c',
      v = .tuple #[.slice A' (getB l at_ most).1.length c', .int .i64 (getB l at_ most).2.1, .int .i64 (getB l at_ most).2.2] ∧ OwnB w' A' c' (getB l at_ most).1 ∧ Ext w w' ∧ New w A' := by
  refine bytes_GetBlob.calls okay ?_
  unfold bytes_GetBlob.W
  refine (GetUint_spec h hl at_).mono ?_
  rintro v w1 ⟨rfl, he⟩
  refine ⟨_, _, _, rfl, ?_⟩
  have hok := getU_okB (l := l) (at_ := at_)
  have hgb : getB l at_ most = (let r := B1.getU l at_; if r.2.2 ≠ 0 then ([], 0, r.2.2) else if most < 0 ∨ most < (r.1 : Int) then ([], 0, 3) else if l.length - r.2.1.toNat < r.1 then ([], 0, 11)
  else ((l.drop r.2.1.toNat).take r.1, r.2.1 + r.1, 0)) := rfl
  generalize getB l at_ most = g at *
  generalize B1.getU l at_ = r at *
  obtain ⟨n, p, e⟩ := r
  dsimp only at hgb hok ⊢
  have bail : ∀ x : Int, g = ([], 0, x) → ∃ A' c', Value.tuple #[.slice none 0 0, .int .i64 0, .int .i64 x] = .tuple #[.slice A' g.1.length c', .int .i64 g.2.1, .int .i64 g.2.2] ∧ OwnB w1 A' c' g.1 ∧ Ext w w1 ∧ New w A' := by
    rintro x rfl
    exact ⟨none, 0, rfl, OwnB.nil _, he, New.none _⟩
  refine brn (fun h0 => bail _ (by rw [hgb, if_pos h0])) (fun h0 => ?_)
  obtain ⟨q, rfl, hq, hn, _, _⟩ := hok h0
  rw [if_neg (by omega)] at hgb
  rw [Int.toNat_natCast] at hgb ⊢
  refine ⟨⟨by omega, by omega⟩, ?_⟩
  refine brd (fun h1 => bail _ (by rw [hgb, if_pos (.inl h1)])) (fun h1 => ?_)
  rw [wu most (by omega) (by omega)]
  refine brd (fun h2 => bail _ (by rw [hgb, if_pos (.inr h2)])) (fun h2 => ?_)
  rw [if_neg (by omega)] at hgb
  rw [wu _ (by omega) (by omega)]
  refine brd (fun h3 => bail _ (by rw [hgb, if_pos (by omega)])) (fun h3 => ?_)
  rw [if_neg (by omega)] at hgb
  subst hgb
  refine ⟨⟨by omega, by omega⟩, ?_⟩
  have hcut : Imm KB Ω w1 (cutAt (cutAt A c q 1) (c - q) 0 1) ((l.drop q).take n) := by
    have h1 := ((h.ext KB_pos he).cut (lo := q) (hi := l.length) (m := c) hlc)
    rw [List.take_length] at h1
    have h2 := h1.cut (lo := 0) (hi := n) (m := c - q) (by omega)
    rwa [List.drop_zero] at h2
  have hln : ((l.drop q).take n).length = n := by simp; omega
  have ho : OwnB (w1.alloc (.cells #[] 5)) (some ⟨w1.heap.size, 0, none⟩) 0 [] := ownB_lit (w := w1) (l := []) (by simp)
  have hcut' := hcut.ext KB_pos (Fr.alloc NoB w1 (.cells #[] 5))
  obtain ⟨A2, c2, w2, hr, ho2, hg2⟩ := appendBs ho (Src.bytes (P := Tryz.prog) (c := c - q - 0) hcut') (by simp; omega) 32 isB
  rw [List.nil_append] at hr ho2
  have e1 : (n : Int).toNat - 0 = ((l.drop q).take n).length := by rw [hln]; omega
  rw [e1]
  refine ⟨_, _, _, _, hr, A2, c2, ?_, ho2, ?_, ?_⟩
  · rw [wi _ (show -9223372036854775808 ≤ (n : Int) by omega) (by omega), wi _ (by omega) (by omega)]
  · exact he.trans' (hg2.ext (Fr.alloc NoB w1 _) (New.self w1 0 none))
  · exact (hg2.new (Fr.alloc NoB w1 _) (New.self w1 0 none)).ext he

end Go.Proofs.YtaifphjenebgoaaGreatDoor
set_option linter.unusedVariables false
set_option linter.unusedSimpArgs false
namespace K15
open Go.Sx R1
theorem okFrom_at (p : Prog) : ∀ (l : List Ins) (s : Nat), okFrom p s l = true → ∀ (t : Nat) (h : t < l.length), okAt p (s + t) l[t] = true
  | [], s, _, t, h => by simp at h
  | i :: l, s, ho, t, h => by
    rw [okFrom, Bool.and_eq_true] at ho
    cases t with
    | zero => exact ho.1
    | succ t =>
      have := okFrom_at p l (s + 1) ho.2 t (by simpa using h)
      rw [show s + (t + 1) = s + 1 + t by omega]
      simpa using this
structure Checked (p : Prog) : Prop where
  parts : partsP p = true
  lo : 1 ≤ p.code.length
  hi : p.code.length ≤ 4000
  last : (p.code.getD (p.code.length - 1) I0).op = 35
  at_ : ∀ (t : Nat) (h : t < p.code.length), okAt p t p.code[t] = true
theorem checked {p : Prog} (h : checkP p = true) : Checked p := by
  simp only [checkP, Bool.and_eq_true, decide_eq_true_eq] at h
  obtain ⟨h1, h2, h3, h4, h5⟩ := h
  exact ⟨h1, h2, h3, h4, fun t ht => by have := okFrom_at p p.code 0 h5 t ht; rwa [Nat.zero_add] at this⟩
end K15
set_option linter.unusedVariables false
set_option linter.unusedSimpArgs false
namespace K15
open Go.Sx R1
structure Sizes (p : Prog) : Prop where
  regs : p.regs ≤ 250
  binds : p.binds ≤ 1000
  consts : p.consts.length ≤ 1000
  curs : p.curs.length ≤ 12
  sorts : p.sorts.length ≤ 6
  tots : p.tots.length ≤ 60
  code : p.code.length ≤ 4000
theorem Checked.sizes {p : Prog} (h : Checked p) : Sizes p := by
  have h1 := h.parts
  simp only [partsP, within, Bool.and_eq_true, decide_eq_true_eq] at h1
  obtain ⟨_, h2, h3, _, h4, h5, h6, h7, _⟩ := h1
  exact ⟨h2.2, h3.2, h4, h5, h6, h7, h.hi⟩
end K15
set_option linter.unusedVariables false
set_option linter.unusedSimpArgs false
namespace K15
open Go.Sx R1
def okN (n : Int) : Prop := 0 ≤ n ∧ n < 9223372036854775808
def eI (n : Int) : List UInt8 := B1.enc n.toNat
def eB (l : List UInt8) : List UInt8 := B1.enc l.length ++ l
def eF (b : Bool) : List UInt8 := eI (if b then 1 else 0)
def eL {α : Type} (e : α → List UInt8) (l : List α) : List UInt8 := eI l.length ++ l.flatMap e
def eS (s : ByteArray) : List UInt8 := eB (sb s)
def eCur (c : Cur) : List UInt8 := eS c.name ++ (eF c.ix ++ eF c.wr)
def eSrt (s : Srt) : List UInt8 := eL eF s.desc ++ (eI s.cols ++ eF s.dist)
def eTot (t : Tot) : List UInt8 := eS t.fn ++ eF t.dist
def eIns (i : Ins) : List UInt8 := eI i.op ++ (eI i.a ++ (eI i.b ++ (eI i.c ++ eI i.d)))
def fCur (c : Cur) : Prop := c.name.size < 18446744073709551616
def fSrt (s : Srt) : Prop := s.desc.length < 9223372036854775808 ∧ okN s.cols
def fTot (t : Tot) : Prop := t.fn.size < 18446744073709551616
def fIns (i : Ins) : Prop := okN i.op ∧ okN i.a ∧ okN i.b ∧ okN i.c ∧ okN i.d
def bytesP (f : V → List UInt8) (p : Prog) : List UInt8 :=
  eI p.ver ++ (eI p.regs ++ (eI p.binds ++ (eL eS p.names ++ (eL (fun v => eB (f v)) p.consts ++ (eL eCur p.curs ++ (eL eSrt p.sorts ++ (eL eTot p.tots ++ eL eIns p.code)))))))
structure Fine (p : Prog) : Prop where
  ver : okN p.ver
  regs : okN p.regs
  binds : okN p.binds
  l1 : p.names.length < 9223372036854775808
  names : ∀ s ∈ p.names, s.size < 18446744073709551616
  l2 : p.consts.length < 9223372036854775808
  consts : ∀ v ∈ p.consts, right v = true ∧ good v
  l3 : p.curs.length < 9223372036854775808
  curs : ∀ c ∈ p.curs, fCur c
  l4 : p.sorts.length < 9223372036854775808
  sorts : ∀ s ∈ p.sorts, fSrt s
  l5 : p.tots.length < 9223372036854775808
  tots : ∀ t ∈ p.tots, fTot t
  l6 : p.code.length < 9223372036854775808
  code : ∀ i ∈ p.code, fIns i
theorem field_ok {p : Prog} (S : Sizes p) {t : Nat} (ht : t < p.code.length) {l n : Int} (h : fieldP p t l n = true) : okN n := by
  obtain ⟨s1, s2, s3, s4, s5, s6, s7⟩ := S
  have b : ∀ hi : Int, hi ≤ 4000 → below n hi = true → okN n := fun hi hh h => by
    unfold below at h
    simp only [Bool.and_eq_true, decide_eq_true_eq] at h
    unfold okN; omega
  unfold fieldP at h
  have c : ∀ (q : Prop) [Decidable q] (x y : Bool), (if q then x else y) = true → (x = true → okN n) → (y = true → okN n) → okN n := fun q _ x y h hx hy => by
    by_cases hq : q
    · rw [if_pos hq] at h; exact hx h
    · rw [if_neg hq] at h; exact hy h
  refine c _ _ _ h (fun h => ?_) (fun h => ?_)
  · first | exact b _ (by omega) h | exact b _ (by omega) (Bool.and_eq_true_iff.1 h).1 | (simp only [Bool.and_eq_true, decide_eq_true_eq] at h; unfold okN; omega)
  refine c _ _ _ h (fun h => ?_) (fun h => ?_)
  · first | exact b _ (by omega) h | exact b _ (by omega) (Bool.and_eq_true_iff.1 h).1 | (simp only [Bool.and_eq_true, decide_eq_true_eq] at h; unfold okN; omega)
  refine c _ _ _ h (fun h => ?_) (fun h => ?_)
  · first | exact b _ (by omega) h | exact b _ (by omega) (Bool.and_eq_true_iff.1 h).1 | (simp only [Bool.and_eq_true, decide_eq_true_eq] at h; unfold okN; omega)
  refine c _ _ _ h (fun h => ?_) (fun h => ?_)
  · first | exact b _ (by omega) h | exact b _ (by omega) (Bool.and_eq_true_iff.1 h).1 | (simp only [Bool.and_eq_true, decide_eq_true_eq] at h; unfold okN; omega)
  refine c _ _ _ h (fun h => ?_) (fun h => ?_)
  · first | exact b _ (by omega) h | exact b _ (by omega) (Bool.and_eq_true_iff.1 h).1 | (simp only [Bool.and_eq_true, decide_eq_true_eq] at h; unfold okN; omega)
  refine c _ _ _ h (fun h => ?_) (fun h => ?_)
  · first | exact b _ (by omega) h | exact b _ (by omega) (Bool.and_eq_true_iff.1 h).1 | (simp only [Bool.and_eq_true, decide_eq_true_eq] at h; unfold okN; omega)
  refine c _ _ _ h (fun h => ?_) (fun h => ?_)
  · first | exact b _ (by omega) h | exact b _ (by omega) (Bool.and_eq_true_iff.1 h).1 | (simp only [Bool.and_eq_true, decide_eq_true_eq] at h; unfold okN; omega)
  refine c _ _ _ h (fun h => ?_) (fun h => ?_)
  · first | exact b _ (by omega) h | exact b _ (by omega) (Bool.and_eq_true_iff.1 h).1 | (simp only [Bool.and_eq_true, decide_eq_true_eq] at h; unfold okN; omega)
  refine c _ _ _ h (fun h => ?_) (fun h => ?_)
  · first | exact b _ (by omega) h | exact b _ (by omega) (Bool.and_eq_true_iff.1 h).1 | (simp only [Bool.and_eq_true, decide_eq_true_eq] at h; unfold okN; omega)
  refine c _ _ _ h (fun h => ?_) (fun h => ?_)
  · first | exact b _ (by omega) h | exact b _ (by omega) (Bool.and_eq_true_iff.1 h).1 | (simp only [Bool.and_eq_true, decide_eq_true_eq] at h; unfold okN; omega)
  refine c _ _ _ h (fun h => ?_) (fun h => ?_)
  · first | exact b _ (by omega) h | exact b _ (by omega) (Bool.and_eq_true_iff.1 h).1 | (simp only [Bool.and_eq_true, decide_eq_true_eq] at h; unfold okN; omega)
  refine c _ _ _ h (fun h => ?_) (fun h => ?_)
  · first | exact b _ (by omega) h | exact b _ (by omega) (Bool.and_eq_true_iff.1 h).1 | (simp only [Bool.and_eq_true, decide_eq_true_eq] at h; unfold okN; omega)
  refine c _ _ _ h (fun h => ?_) (fun h => ?_)
  · first | exact b _ (by omega) h | exact b _ (by omega) (Bool.and_eq_true_iff.1 h).1 | (simp only [Bool.and_eq_true, decide_eq_true_eq] at h; unfold okN; omega)
  refine c _ _ _ h (fun h => ?_) (fun h => ?_)
  · first | exact b _ (by omega) h | exact b _ (by omega) (Bool.and_eq_true_iff.1 h).1 | (simp only [Bool.and_eq_true, decide_eq_true_eq] at h; unfold okN; omega)
  refine c _ _ _ h (fun h => ?_) (fun h => ?_)
  · first | exact b _ (by omega) h | exact b _ (by omega) (Bool.and_eq_true_iff.1 h).1 | (simp only [Bool.and_eq_true, decide_eq_true_eq] at h; unfold okN; omega)
  refine c _ _ _ h (fun h => ?_) (fun h => ?_)
  · first | exact b _ (by omega) h | exact b _ (by omega) (Bool.and_eq_true_iff.1 h).1 | (simp only [Bool.and_eq_true, decide_eq_true_eq] at h; unfold okN; omega)
  refine c _ _ _ h (fun h => ?_) (fun h => ?_)
  · first | exact b _ (by omega) h | exact b _ (by omega) (Bool.and_eq_true_iff.1 h).1 | (simp only [Bool.and_eq_true, decide_eq_true_eq] at h; unfold okN; omega)
  refine c _ _ _ h (fun h => ?_) (fun h => ?_)
  · first | exact b _ (by omega) h | exact b _ (by omega) (Bool.and_eq_true_iff.1 h).1 | (simp only [Bool.and_eq_true, decide_eq_true_eq] at h; unfold okN; omega)
  cases h
theorem Checked.fine {p : Prog} (h : Checked p) (ho : ∀ i ∈ p.code, 0 ≤ i.op ∧ i.op < 256) (hgv : ∀ v ∈ p.consts, good v) : Fine p := by
  have S := h.sizes
  have h1 := h.parts
  simp only [partsP, within, Bool.and_eq_true, decide_eq_true_eq, Bool.not_eq_true', List.any_eq_false] at h1
  obtain ⟨g1, g2, g3, g4, g5, g6, g7, g8, g9, g10, g11, g12, g13⟩ := h1
  refine ⟨⟨by omega, by omega⟩, ⟨by omega, by omega⟩, ⟨by omega, by omega⟩, by omega, fun s hs => ?_, by omega, fun v hv => ?_, by omega, fun c hc => ?_, by omega, fun s hs => ?_, by omega, fun t ht => ?_, by have := h.hi; omega, fun i hi => ?_⟩
  · have := g9 s hs
    simp only [longN, decide_eq_true_eq] at this
    omega
  · have := g10 v hv
    simp only [wrongV, Bool.not_eq_true', Bool.not_eq_false] at this
    exact ⟨this, hgv v hv⟩
  · have := g11 c hc
    simp only [badCur, Bool.or_eq_true, decide_eq_true_eq, not_or] at this
    unfold fCur; omega
  · have := g12 s hs
    simp only [badSrt, within, Bool.or_eq_true, decide_eq_true_eq, not_or, Bool.not_eq_true', Bool.not_eq_false, Bool.and_eq_true] at this
    unfold fSrt okN; omega
  · have := g13 t ht
    unfold fTot
    simp only [badTot, Bool.not_eq_true', decide_eq_false_iff_not, Decidable.not_not] at this
    have hk : knownT (sb t.fn) = true := by
      cases hk : knownT (sb t.fn) with
      | true => rfl
      | false => simp [newT, hk] at this
    simp only [knownT, decide_eq_true_eq] at hk
    rw [← sb_length]
    rcases hk with hk | hk | hk | hk | hk | hk | hk <;> rw [hk] <;> decide
  · obtain ⟨k, hk, rfl⟩ := List.getElem_of_mem hi
    have hi' := h.at_ k hk
    simp only [okAt, Bool.and_eq_true] at hi'
    have hf := hi'.1
    unfold fieldsP fieldsL at hf
    have hop := ho _ hi
    split at hf
    · simp only [Bool.and_eq_true] at hf
      exact ⟨⟨hop.1, by omega⟩, field_ok S hk hf.1, field_ok S hk hf.2.1, field_ok S hk hf.2.2.1, field_ok S hk hf.2.2.2⟩
    · cases hf
end K15
set_option linter.unusedVariables false
set_option linter.unusedSimpArgs false
namespace K15
open Go.Sx R1
structure Few (p : Prog) : Prop where
  l1 : p.names.length ≤ 200
  names : ∀ s ∈ p.names, s.size ≤ 200
  l2 : p.consts.length ≤ 1000
  l3 : p.curs.length ≤ 12
  curs : ∀ c ∈ p.curs, c.name.size ≤ 200
  l4 : p.sorts.length ≤ 6
  sorts : ∀ s ∈ p.sorts, s.desc.length ≤ 30 ∧ 1 ≤ s.cols ∧ s.cols ≤ 60
  l5 : p.tots.length ≤ 60
  tots : ∀ t ∈ p.tots, t.fn.size ≤ 200
  l6 : p.code.length ≤ 4000
theorem Checked.few {p : Prog} (h : Checked p) : Few p := by
  have h1 := h.parts
  simp only [partsP, within, Bool.and_eq_true, decide_eq_true_eq, Bool.not_eq_true', List.any_eq_false] at h1
  obtain ⟨g1, g2, g3, g4, g5, g6, g7, g8, g9, g10, g11, g12, g13⟩ := h1
  refine ⟨g4, fun s hs => ?_, g5, g6, fun c hc => ?_, g7, fun s hs => ?_, g8, fun t ht => ?_, h.hi⟩
  · have := g9 s hs
    simp only [longN, decide_eq_true_eq] at this
    omega
  · have := g11 c hc
    simp only [badCur, Bool.or_eq_true, decide_eq_true_eq, not_or] at this
    omega
  · have := g12 s hs
    simp only [badSrt, within, Bool.or_eq_true, decide_eq_true_eq, not_or, Bool.not_eq_true', Bool.not_eq_false, Bool.and_eq_true] at this
    omega
  · have := g13 t ht
    simp only [badTot, Bool.not_eq_true', decide_eq_false_iff_not, Decidable.not_not] at this
    have hk : knownT (sb t.fn) = true := by
      cases hk : knownT (sb t.fn) with
      | true => rfl
      | false => simp [newT, hk] at this
    simp only [knownT, decide_eq_true_eq] at hk
    rw [← sb_length]
    rcases hk with hk | hk | hk | hk | hk | hk | hk <;> rw [hk] <;> decide
theorem eI_len {n : Int} (h : okN n) : (eI n).length ≤ 10 := B1.enc_le_ten (by unfold okN at h; omega)
theorem eF_len (b : Bool) : (eF b).length ≤ 10 := eI_len (by unfold okN; split <;> omega)
theorem eB_len {l : List UInt8} (h : l.length < 9223372036854775808) : (eB l).length ≤ l.length + 10 := by
  have := B1.enc_le_ten (m := l.length) (by omega)
  unfold eB; rw [List.length_append]; omega
theorem eS_len {s : ByteArray} (h : s.size ≤ 200) : (eS s).length ≤ 210 := by
  have := eB_len (l := sb s) (by rw [sb_length]; omega)
  rw [sb_length] at this
  unfold eS; omega
theorem flatB {α : Type} {f : α → List UInt8} {M : Nat} : ∀ (xs : List α), (∀ v ∈ xs, (f v).length ≤ M) → (xs.flatMap f).length ≤ xs.length * M
  | [], _ => by simp
  | v :: xs, h => by
    have h1 := flatB xs (fun v hv => h v (List.mem_cons.2 (.inr hv)))
    have h2 := h v (List.mem_cons.2 (.inl rfl))
    rw [List.flatMap_cons, List.length_append, List.length_cons, Nat.add_mul, Nat.one_mul]; omega
theorem takeB {α : Type} {f : α → List UInt8} {M N : Nat} (xs : List α) (j : Nat) (hl : xs.length ≤ N) (h : ∀ v ∈ xs, (f v).length ≤ M) : ((xs.take j).flatMap f).length ≤ N * M := by
  refine Nat.le_trans (flatB (f := f) (M := M) _ (fun v hv => h v (List.mem_of_mem_take hv))) (Nat.mul_le_mul_right _ ?_)
  rw [List.length_take]; omega
theorem flatS {α : Type} {f : α → List UInt8} {xs : List α} {j : Nat} (h : j < xs.length) : (xs.take (j + 1)).flatMap f = (xs.take j).flatMap f ++ f xs[j] := by
  rw [List.take_add_one, List.getElem?_eq_getElem h, Option.toList_some, List.flatMap_append]; simp only [List.flatMap_cons, List.flatMap_nil, List.append_nil]
theorem eCur_len {c : Cur} (h : c.name.size ≤ 200) : (eCur c).length ≤ 230 := by
  have h1 := eS_len h
  have h2 := eF_len c.ix
  have h3 := eF_len c.wr
  unfold eCur; simp only [List.length_append]; omega
theorem eSrt_len {s : Srt} (h : s.desc.length ≤ 30 ∧ 1 ≤ s.cols ∧ s.cols ≤ 60) : (eSrt s).length ≤ 330 := by
  have h1 := flatB (f := eF) (M := 10) s.desc (fun v _ => eF_len v)
  have h2 := eI_len (n := (s.desc.length : Int)) (by unfold okN; omega)
  have h3 := eI_len (n := s.cols) (by unfold okN; omega)
  have h4 := eF_len s.dist
  unfold eSrt eL; simp only [List.length_append]; omega
theorem eTot_len {t : Tot} (h : t.fn.size ≤ 200) : (eTot t).length ≤ 220 := by
  have h1 := eS_len h
  have h3 := eF_len t.dist
  unfold eTot; simp only [List.length_append]; omega
theorem eIns_len {i : Ins} (h : fIns i) : (eIns i).length ≤ 50 := by
  have h1 := eI_len h.1
  have h2 := eI_len h.2.1
  have h3 := eI_len h.2.2.1
  have h4 := eI_len h.2.2.2.1
  have h5 := eI_len h.2.2.2.2
  unfold eIns; simp only [List.length_append]; omega
def bytesR (f : V → List UInt8) (p : Prog) : List UInt8 × Int := if checkP p = false then ([], 140) else if 1048576 < (bytesP f p).length then ([], 3) else (bytesP f p, 0)
end K15
set_option linter.unusedVariables false
set_option linter.unusedSimpArgs false
namespace K15
open Go.Sx R1
abbrev Rd (α : Type) := List UInt8 → Option (α × List UInt8)
structure PC {α : Type} (S : α → Prop) (e : α → List UInt8) (r : Rd α) : Prop where
  back : ∀ x a, S x → r (e x ++ a) = some (x, a)
  canon : ∀ b x a, r b = some (x, a) → b = e x ++ a ∧ S x
def numO (most : Nat) : Rd Int := fun b => match B1.dec 0 b with
  | .ok n u => if n ≤ most then some ((n : Int), b.drop u) else none
  | _ => none
def inN (most : Nat) (n : Int) : Prop := 0 ≤ n ∧ n ≤ most
theorem pc_num {most : Nat} (hm : most < 9223372036854775808) : PC (inN most) eI (numO most) := ⟨fun x a hx => by
  unfold inN at hx
  have h1 := B1.dec_enc x.toNat 0 a (by omega) (B1.lim64 (by omega)) (fun h => by omega)
  unfold numO eI
  rw [h1]
  simp only
  rw [if_pos (by omega), List.drop_left]
  congr 2
  omega, fun b x a h => by
  unfold numO at h
  split at h
  · next n u hd =>
    split at h
    · next hn =>
      simp only [Option.some.injEq, Prod.mk.injEq] at h
      obtain ⟨rfl, rfl⟩ := h
      obtain ⟨_, _, ht, _⟩ := B1.dec_ok b 0 n u (by omega) hd
      refine ⟨?_, by unfold inN; omega⟩
      unfold eI
      rw [Int.toNat_natCast, ← ht, List.take_append_drop]
    · cases h
  · cases h⟩
def seqO {α β : Type} (r : Rd α) (s : Rd β) : Rd (α × β) := fun b => match r b with
  | some (x, a) => match s a with
    | some (y, c) => some ((x, y), c)
    | none => none
  | none => none
theorem PC.seq {α β : Type} {S : α → Prop} {T : β → Prop} {e : α → List UInt8} {f : β → List UInt8} {r : Rd α} {s : Rd β} (h : PC S e r) (k : PC T f s) :
    PC (fun z : α × β => S z.1 ∧ T z.2) (fun z => e z.1 ++ f z.2) (seqO r s) := ⟨fun z a hz => by
  unfold seqO
  rw [List.append_assoc, h.back z.1 _ hz.1]
  simp only
  rw [k.back z.2 _ hz.2], fun b z a hb => by
  unfold seqO at hb
  split at hb
  · next x c h1 =>
    split at hb
    · next y d h2 =>
      simp only [Option.some.injEq, Prod.mk.injEq] at hb
      obtain ⟨rfl, rfl⟩ := hb
      obtain ⟨e1, s1⟩ := h.canon _ _ _ h1
      obtain ⟨e2, s2⟩ := k.canon _ _ _ h2
      exact ⟨by rw [e1, e2, List.append_assoc], s1, s2⟩
    · cases hb
  · cases hb⟩
def mapO {α β : Type} (f : α → β) (r : Rd α) : Rd β := fun b => (r b).map fun z => (f z.1, z.2)
theorem PC.map {α β : Type} {S : α → Prop} {e : α → List UInt8} {r : Rd α} (h : PC S e r) (f : α → β) (g : β → α) (h1 : ∀ x, S x → g (f x) = x) (h2 : ∀ y, f (g y) = y) :
    PC (fun y => S (g y)) (fun y => e (g y)) (mapO f r) := ⟨fun y a hy => by
  unfold mapO
  rw [h.back _ _ hy]
  simp [h2], fun b y a hb => by
  unfold mapO at hb
  rw [Option.map_eq_some_iff] at hb
  obtain ⟨⟨x, c⟩, hx, he⟩ := hb
  simp only [Prod.mk.injEq] at he
  obtain ⟨rfl, rfl⟩ := he
  obtain ⟨e1, s1⟩ := h.canon _ _ _ hx
  rw [h1 x s1]
  exact ⟨e1, s1⟩⟩
theorem PC.imp {α : Type} {S T : α → Prop} {e f : α → List UInt8} {r : Rd α} (h : PC S e r) (hs : ∀ x, S x ↔ T x) (he : ∀ x, e x = f x) : PC T f r :=
  ⟨fun x a hx => by rw [← he]; exact h.back x a ((hs x).2 hx), fun b x a hb => by obtain ⟨e1, s1⟩ := h.canon b x a hb; exact ⟨by rw [e1, he], (hs x).1 s1⟩⟩
def blobO (most : Nat) : Rd (List UInt8) := fun b => match numO most b with
  | some (n, a) => if a.length < n.toNat then none else some (a.take n.toNat, a.drop n.toNat)
  | none => none
theorem pc_blob {most : Nat} (hm : most < 9223372036854775808) : PC (fun l => l.length ≤ most) eB (blobO most) := ⟨fun x a hx => by
  have h := (pc_num hm).back (x.length : Int) (x ++ a) (by unfold inN; omega)
  unfold eI at h
  rw [Int.toNat_natCast] at h
  unfold blobO eB
  rw [List.append_assoc, h]
  simp, fun b x a hb => by
  unfold blobO at hb
  split at hb
  · next n c h1 =>
    split at hb
    · cases hb
    · next hl =>
      simp only [Option.some.injEq, Prod.mk.injEq] at hb
      obtain ⟨rfl, rfl⟩ := hb
      obtain ⟨e1, s1⟩ := (pc_num hm).canon _ _ _ h1
      unfold inN at s1
      have hlen : (c.take n.toNat).length = n.toNat := by rw [List.length_take]; omega
      refine ⟨?_, by rw [hlen]; omega⟩
      unfold eB eI at *
      rw [hlen, List.append_assoc, List.take_append_drop]
      exact e1
  · cases hb⟩
def repO {α : Type} (r : Rd α) : Nat → Rd (List α)
  | 0, b => some ([], b)
  | n + 1, b => match r b with
    | some (x, a) => match repO r n a with
      | some (l, c) => some (x :: l, c)
      | none => none
    | none => none
theorem rep_back {α : Type} {S : α → Prop} {e : α → List UInt8} {r : Rd α} (h : PC S e r) : ∀ (l : List α) (a : List UInt8), (∀ x ∈ l, S x) → repO r l.length (l.flatMap e ++ a) = some (l, a)
  | [], a, _ => by simp [repO]
  | x :: l, a, hx => by
    rw [List.length_cons, repO, List.flatMap_cons, List.append_assoc, h.back x _ (hx x (by simp))]
    simp only
    rw [rep_back h l a (fun y hy => hx y (by simp [hy]))]
theorem rep_canon {α : Type} {S : α → Prop} {e : α → List UInt8} {r : Rd α} (h : PC S e r) : ∀ (n : Nat) (b : List UInt8) (l : List α) (a : List UInt8), repO r n b = some (l, a) → b = l.flatMap e ++ a ∧ l.length = n ∧ ∀ x ∈ l, S x
  | 0, b, l, a, hb => by
    rw [repO] at hb
    simp only [Option.some.injEq, Prod.mk.injEq] at hb
    obtain ⟨rfl, rfl⟩ := hb
    simp
  | n + 1, b, l, a, hb => by
    rw [repO] at hb
    split at hb
    · next x c h1 =>
      split at hb
      · next l' d h2 =>
        simp only [Option.some.injEq, Prod.mk.injEq] at hb
        obtain ⟨rfl, rfl⟩ := hb
        obtain ⟨e1, s1⟩ := h.canon _ _ _ h1
        obtain ⟨e2, n2, s2⟩ := rep_canon h n c l' d h2
        refine ⟨by rw [e1, e2]; simp [List.append_assoc], by simp [n2], fun y hy => ?_⟩
        rcases List.mem_cons.1 hy with rfl | hy
        · exact s1
        · exact s2 y hy
      · cases hb
    · cases hb
def someO {α : Type} (most : Nat) (r : Rd α) : Rd (List α) := fun b => match numO most b with
  | some (n, a) => repO r n.toNat a
  | none => none
theorem pc_some {α : Type} {S : α → Prop} {e : α → List UInt8} {r : Rd α} {most : Nat} (hm : most < 9223372036854775808) (h : PC S e r) : PC (fun l => l.length ≤ most ∧ ∀ x ∈ l, S x) (eL e) (someO most r) := ⟨fun l a hl => by
  unfold someO eL
  rw [List.append_assoc, (pc_num hm).back _ _ (by unfold inN; omega)]
  simp only [Int.toNat_natCast]
  exact rep_back h l a hl.2, fun b l a hb => by
  unfold someO at hb
  split at hb
  · next n c h1 =>
    obtain ⟨e1, s1⟩ := (pc_num hm).canon _ _ _ h1
    obtain ⟨e2, n2, s2⟩ := rep_canon h _ _ _ _ hb
    unfold inN at s1
    refine ⟨?_, by omega, s2⟩
    unfold eL
    rw [e1, e2, n2, List.append_assoc]
    congr 2
    omega
  · cases hb⟩
def flagO : Rd Bool := mapO (fun n => decide (n = 1)) (numO 1)
theorem pc_flag : PC (fun _ => True) eF flagO :=
  ((pc_num (most := 1) (by decide)).map (fun n => decide (n = 1)) (fun b => if b then 1 else 0) (fun x hx => by
    unfold inN at hx
    rcases (show x = 0 ∨ x = 1 by omega) with rfl | rfl <;> rfl) (fun y => by cases y <;> rfl)).imp (fun b => ⟨fun _ => trivial, fun _ => by unfold inN; split <;> omega⟩) (fun b => rfl)
def textO (most : Nat) : Rd ByteArray := mapO (fun l => ⟨l.toArray⟩) (blobO most)
theorem pc_text {most : Nat} (hm : most < 9223372036854775808) : PC (fun s => s.size ≤ most) eS (textO most) :=
  ((pc_blob hm).map (fun l => (⟨l.toArray⟩ : ByteArray)) sb (fun x _ => rfl) (fun y => rfl)).imp (fun s => by rw [sb_length]) (fun s => rfl)
end K15
set_option linter.unusedVariables false
set_option linter.unusedSimpArgs false
namespace K15
open Go.Sx R1
def curO : Rd Cur := mapO (fun z : ByteArray × (Bool × Bool) => ⟨z.1, z.2.1, z.2.2⟩) (seqO (textO 200) (seqO flagO flagO))
theorem pc_cur : PC (fun c => c.name.size ≤ 200) eCur curO :=
  (((pc_text (most := 200) (by decide)).seq (pc_flag.seq pc_flag)).map (fun z : ByteArray × (Bool × Bool) => (⟨z.1, z.2.1, z.2.2⟩ : Cur)) (fun c => (c.name, (c.ix, c.wr))) (fun _ _ => rfl) (fun _ => rfl)).imp
    (fun c => ⟨fun h => h.1, fun h => ⟨h, trivial, trivial⟩⟩) (fun c => rfl)
def srtO : Rd Srt := mapO (fun z : List Bool × (Int × Bool) => ⟨z.1, z.2.1, z.2.2⟩) (seqO (someO 30 flagO) (seqO (numO 60) flagO))
theorem pc_srt : PC (fun s => s.desc.length ≤ 30 ∧ inN 60 s.cols) eSrt srtO :=
  (((pc_some (most := 30) (by decide) pc_flag).seq ((pc_num (most := 60) (by decide)).seq pc_flag)).map (fun z : List Bool × (Int × Bool) => (⟨z.1, z.2.1, z.2.2⟩ : Srt)) (fun c => (c.desc, (c.cols, c.dist))) (fun _ _ => rfl) (fun _ => rfl)).imp
    (fun c => ⟨fun h => ⟨h.1.1, h.2.1⟩, fun h => ⟨⟨h.1, fun _ _ => trivial⟩, h.2, trivial⟩⟩) (fun c => rfl)
def totO : Rd Tot := mapO (fun z : ByteArray × Bool => ⟨z.1, z.2⟩) (seqO (textO 200) flagO)
theorem pc_tot : PC (fun c => c.fn.size ≤ 200) eTot totO :=
  (((pc_text (most := 200) (by decide)).seq pc_flag).map (fun z : ByteArray × Bool => (⟨z.1, z.2⟩ : Tot)) (fun c => (c.fn, c.dist)) (fun _ _ => rfl) (fun _ => rfl)).imp
    (fun c => ⟨fun h => h.1, fun h => ⟨h, trivial⟩⟩) (fun c => rfl)
def bigM : Nat := 1099511627776
def insO : Rd Ins := mapO (fun z : Int × (Int × (Int × (Int × Int))) => ⟨z.1, z.2.1, z.2.2.1, z.2.2.2.1, z.2.2.2.2⟩) (seqO (numO 255) (seqO (numO bigM) (seqO (numO bigM) (seqO (numO bigM) (numO bigM)))))
def limIns (i : Ins) : Prop := inN 255 i.op ∧ inN bigM i.a ∧ inN bigM i.b ∧ inN bigM i.c ∧ inN bigM i.d
theorem pc_ins : PC limIns eIns insO :=
  (((pc_num (most := 255) (by decide)).seq ((pc_num (most := bigM) (by decide)).seq ((pc_num (most := bigM) (by decide)).seq ((pc_num (most := bigM) (by decide)).seq (pc_num (most := bigM) (by decide)))))).map
    (fun z : Int × (Int × (Int × (Int × Int))) => (⟨z.1, z.2.1, z.2.2.1, z.2.2.2.1, z.2.2.2.2⟩ : Ins)) (fun i => (i.op, (i.a, (i.b, (i.c, i.d))))) (fun _ _ => rfl) (fun _ => rfl)).imp
    (fun i => Iff.rfl) (fun i => rfl)
def constO (g : List UInt8 → Option V) : Rd V := fun b => match blobO 1048576 b with
  | some (l, a) => (g l).map fun v => (v, a)
  | none => none
structure FG (Sv : V → Prop) (f : V → List UInt8) (g : List UInt8 → Option V) : Prop where
  len : ∀ v, Sv v → (f v).length ≤ 1048576
  back : ∀ v, Sv v → g (f v) = some v
  canon : ∀ l v, g l = some v → l = f v ∧ Sv v
section
variable {Sv : V → Prop} {f : V → List UInt8} {g : List UInt8 → Option V}
theorem pc_const (H : FG Sv f g) : PC Sv (fun v => eB (f v)) (constO g) := ⟨fun v a hv => by
  unfold constO
  rw [(pc_blob (most := 1048576) (by decide)).back _ _ (H.len v hv)]
  simp only
  rw [H.back v hv]; rfl, fun b v a hb => by
  unfold constO at hb
  split at hb
  · next l c h1 =>
    rw [Option.map_eq_some_iff] at hb
    obtain ⟨x, hx, he⟩ := hb
    simp only [Prod.mk.injEq] at he
    obtain ⟨rfl, rfl⟩ := he
    obtain ⟨e1, _⟩ := (pc_blob (most := 1048576) (by decide)).canon _ _ _ h1
    obtain ⟨e2, s2⟩ := H.canon _ _ hx
    exact ⟨by rw [e1, e2], s2⟩
  · cases hb⟩
abbrev PT := Int × (Int × (Int × (List ByteArray × (List V × (List Cur × (List Srt × (List Tot × List Ins)))))))
def ofT (z : PT) : Prog := ⟨z.1, z.2.1, z.2.2.1, z.2.2.2.1, z.2.2.2.2.1, z.2.2.2.2.2.1, z.2.2.2.2.2.2.1, z.2.2.2.2.2.2.2.1, z.2.2.2.2.2.2.2.2⟩
def toT (p : Prog) : PT := (p.ver, (p.regs, (p.binds, (p.names, (p.consts, (p.curs, (p.sorts, (p.tots, p.code))))))))
def progO (g : List UInt8 → Option V) : Rd Prog := mapO ofT (seqO (numO bigM) (seqO (numO 250) (seqO (numO 1000) (seqO (someO 200 (textO 200)) (seqO (someO 1000 (constO g)) (seqO (someO 12 curO) (seqO (someO 6 srtO) (seqO (someO 60 totO) (someO 4000 insO)))))))))
structure Lim (Sv : V → Prop) (p : Prog) : Prop where
  ver : inN bigM p.ver
  regs : inN 250 p.regs
  binds : inN 1000 p.binds
  names : p.names.length ≤ 200 ∧ ∀ s ∈ p.names, s.size ≤ 200
  consts : p.consts.length ≤ 1000 ∧ ∀ v ∈ p.consts, Sv v
  curs : p.curs.length ≤ 12 ∧ ∀ c ∈ p.curs, c.name.size ≤ 200
  sorts : p.sorts.length ≤ 6 ∧ ∀ s ∈ p.sorts, s.desc.length ≤ 30 ∧ inN 60 s.cols
  tots : p.tots.length ≤ 60 ∧ ∀ t ∈ p.tots, t.fn.size ≤ 200
  code : p.code.length ≤ 4000 ∧ ∀ i ∈ p.code, limIns i
theorem pc_prog (H : FG Sv f g) : PC (Lim Sv) (bytesP f) (progO g) :=
  (((pc_num (most := bigM) (by decide)).seq ((pc_num (most := 250) (by decide)).seq ((pc_num (most := 1000) (by decide)).seq ((pc_some (most := 200) (by decide) (pc_text (most := 200) (by decide))).seq ((pc_some (most := 1000) (by decide) (pc_const H)).seq ((pc_some (most := 12) (by decide) pc_cur).seq ((pc_some (most := 6) (by decide) pc_srt).seq ((pc_some (most := 60) (by decide) pc_tot).seq (pc_some (most := 4000) (by decide) pc_ins))))))))).map
    ofT toT (fun _ _ => rfl) (fun _ => rfl)).imp
    (fun p => ⟨fun h => ⟨h.1, h.2.1, h.2.2.1, h.2.2.2.1, h.2.2.2.2.1, h.2.2.2.2.2.1, h.2.2.2.2.2.2.1, h.2.2.2.2.2.2.2.1, h.2.2.2.2.2.2.2.2⟩, fun h => ⟨h.ver, h.regs, h.binds, h.names, h.consts, h.curs, h.sorts, h.tots, h.code⟩⟩) (fun p => rfl)
def readO (g : List UInt8 → Option V) (b : List UInt8) : Option Prog := match progO g b with
  | some (p, a) => if a = [] ∧ b.length ≤ 1048576 ∧ checkP p = true then some p else none
  | none => none
theorem read_canon (H : FG Sv f g) {b : List UInt8} {p : Prog} (h : readO g b = some p) : b = bytesP f p ∧ b.length ≤ 1048576 ∧ checkP p = true ∧ Lim Sv p := by
  unfold readO at h
  split at h
  · next q a h1 =>
    split at h
    · next hc =>
      cases h
      obtain ⟨e1, s1⟩ := (pc_prog H).canon _ _ _ h1
      rw [hc.1, List.append_nil] at e1
      exact ⟨e1, hc.2.1, hc.2.2, s1⟩
    · cases h
  · cases h
theorem read_back (H : FG Sv f g) {p : Prog} (hl : Lim Sv p) (hc : checkP p = true) (hb : (bytesP f p).length ≤ 1048576) : readO g (bytesP f p) = some p := by
  have h := (pc_prog H).back p [] hl
  rw [List.append_nil] at h
  unfold readO
  rw [h]
  simp [hb, hc]
end
end K15
set_option linter.unusedVariables false
set_option linter.unusedSimpArgs false
namespace K15
open Go.Sx R1
theorem field_low {p : Prog} (S : Sizes p) {t : Nat} (ht : t < p.code.length) {l n : Int} (h : fieldP p t l n = true) : (0 ≤ n ∧ n ≤ 4000) := by
  obtain ⟨s1, s2, s3, s4, s5, s6, s7⟩ := S
  have b : ∀ hi : Int, hi ≤ 4000 → below n hi = true → (0 ≤ n ∧ n ≤ 4000) := fun hi hh h => by
    unfold below at h
    simp only [Bool.and_eq_true, decide_eq_true_eq] at h
    omega
  unfold fieldP at h
  have c : ∀ (q : Prop) [Decidable q] (x y : Bool), (if q then x else y) = true → (x = true → (0 ≤ n ∧ n ≤ 4000)) → (y = true → (0 ≤ n ∧ n ≤ 4000)) → (0 ≤ n ∧ n ≤ 4000) := fun q _ x y h hx hy => by
    by_cases hq : q
    · rw [if_pos hq] at h; exact hx h
    · rw [if_neg hq] at h; exact hy h
  refine c _ _ _ h (fun h => ?_) (fun h => ?_)
  · first | exact b _ (by omega) h | exact b _ (by omega) (Bool.and_eq_true_iff.1 h).1 | (simp only [Bool.and_eq_true, decide_eq_true_eq] at h; omega)
  refine c _ _ _ h (fun h => ?_) (fun h => ?_)
  · first | exact b _ (by omega) h | exact b _ (by omega) (Bool.and_eq_true_iff.1 h).1 | (simp only [Bool.and_eq_true, decide_eq_true_eq] at h; omega)
  refine c _ _ _ h (fun h => ?_) (fun h => ?_)
  · first | exact b _ (by omega) h | exact b _ (by omega) (Bool.and_eq_true_iff.1 h).1 | (simp only [Bool.and_eq_true, decide_eq_true_eq] at h; omega)
  refine c _ _ _ h (fun h => ?_) (fun h => ?_)
  · first | exact b _ (by omega) h | exact b _ (by omega) (Bool.and_eq_true_iff.1 h).1 | (simp only [Bool.and_eq_true, decide_eq_true_eq] at h; omega)
  refine c _ _ _ h (fun h => ?_) (fun h => ?_)
  · first | exact b _ (by omega) h | exact b _ (by omega) (Bool.and_eq_true_iff.1 h).1 | (simp only [Bool.and_eq_true, decide_eq_true_eq] at h; omega)
  refine c _ _ _ h (fun h => ?_) (fun h => ?_)
  · first | exact b _ (by omega) h | exact b _ (by omega) (Bool.and_eq_true_iff.1 h).1 | (simp only [Bool.and_eq_true, decide_eq_true_eq] at h; omega)
  refine c _ _ _ h (fun h => ?_) (fun h => ?_)
  · first | exact b _ (by omega) h | exact b _ (by omega) (Bool.and_eq_true_iff.1 h).1 | (simp only [Bool.and_eq_true, decide_eq_true_eq] at h; omega)
  refine c _ _ _ h (fun h => ?_) (fun h => ?_)
  · first | exact b _ (by omega) h | exact b _ (by omega) (Bool.and_eq_true_iff.1 h).1 | (simp only [Bool.and_eq_true, decide_eq_true_eq] at h; omega)
  refine c _ _ _ h (fun h => ?_) (fun h => ?_)
  · first | exact b _ (by omega) h | exact b _ (by omega) (Bool.and_eq_true_iff.1 h).1 | (simp only [Bool.and_eq_true, decide_eq_true_eq] at h; omega)
  refine c _ _ _ h (fun h => ?_) (fun h => ?_)
  · first | exact b _ (by omega) h | exact b _ (by omega) (Bool.and_eq_true_iff.1 h).1 | (simp only [Bool.and_eq_true, decide_eq_true_eq] at h; omega)
  refine c _ _ _ h (fun h => ?_) (fun h => ?_)
  · first | exact b _ (by omega) h | exact b _ (by omega) (Bool.and_eq_true_iff.1 h).1 | (simp only [Bool.and_eq_true, decide_eq_true_eq] at h; omega)
  refine c _ _ _ h (fun h => ?_) (fun h => ?_)
  · first | exact b _ (by omega) h | exact b _ (by omega) (Bool.and_eq_true_iff.1 h).1 | (simp only [Bool.and_eq_true, decide_eq_true_eq] at h; omega)
  refine c _ _ _ h (fun h => ?_) (fun h => ?_)
  · first | exact b _ (by omega) h | exact b _ (by omega) (Bool.and_eq_true_iff.1 h).1 | (simp only [Bool.and_eq_true, decide_eq_true_eq] at h; omega)
  refine c _ _ _ h (fun h => ?_) (fun h => ?_)
  · first | exact b _ (by omega) h | exact b _ (by omega) (Bool.and_eq_true_iff.1 h).1 | (simp only [Bool.and_eq_true, decide_eq_true_eq] at h; omega)
  refine c _ _ _ h (fun h => ?_) (fun h => ?_)
  · first | exact b _ (by omega) h | exact b _ (by omega) (Bool.and_eq_true_iff.1 h).1 | (simp only [Bool.and_eq_true, decide_eq_true_eq] at h; omega)
  refine c _ _ _ h (fun h => ?_) (fun h => ?_)
  · first | exact b _ (by omega) h | exact b _ (by omega) (Bool.and_eq_true_iff.1 h).1 | (simp only [Bool.and_eq_true, decide_eq_true_eq] at h; omega)
  refine c _ _ _ h (fun h => ?_) (fun h => ?_)
  · first | exact b _ (by omega) h | exact b _ (by omega) (Bool.and_eq_true_iff.1 h).1 | (simp only [Bool.and_eq_true, decide_eq_true_eq] at h; omega)
  refine c _ _ _ h (fun h => ?_) (fun h => ?_)
  · first | exact b _ (by omega) h | exact b _ (by omega) (Bool.and_eq_true_iff.1 h).1 | (simp only [Bool.and_eq_true, decide_eq_true_eq] at h; omega)
  cases h
theorem Checked.lim {p : Prog} (h : Checked p) (ho : ∀ i ∈ p.code, 0 ≤ i.op ∧ i.op < 256) (hgv : ∀ v ∈ p.consts, good v) : Lim (fun v => right v = true ∧ good v) p := by
  have S := h.sizes
  have F := h.few
  have FF := h.fine ho hgv
  have h1 := h.parts
  simp only [partsP, within, Bool.and_eq_true, decide_eq_true_eq] at h1
  obtain ⟨g1, g2, g3, _⟩ := h1
  refine ⟨⟨by omega, by unfold bigM; omega⟩, ⟨by omega, by omega⟩, ⟨by omega, by omega⟩, ⟨F.l1, F.names⟩, ⟨F.l2, FF.consts⟩, ⟨F.l3, F.curs⟩, ⟨F.l4, fun s hs => ?_⟩, ⟨F.l5, F.tots⟩, ⟨F.l6, fun i hi => ?_⟩⟩
  · have := F.sorts s hs
    exact ⟨this.1, by omega, by omega⟩
  · have hop := ho i hi
    obtain ⟨k, hk, rfl⟩ := List.getElem_of_mem hi
    have hi' := h.at_ k hk
    simp only [okAt, Bool.and_eq_true] at hi'
    have hf := hi'.1
    unfold fieldsP fieldsL at hf
    split at hf
    · simp only [Bool.and_eq_true] at hf
      have c : ∀ {l n : Int}, fieldP p k l n = true → inN bigM n := fun h => by have := field_low S hk h; unfold inN bigM; omega
      exact ⟨⟨hop.1, by omega⟩, c hf.1, c hf.2.1, c hf.2.2.1, c hf.2.2.2⟩
    · cases hf
end K15
set_option linter.unusedVariables false
set_option linter.unusedSimpArgs false
namespace R1
open Go.Sx

def be' : Nat → List UInt8 → Nat
  | n, [] => n
  | n, c :: r => be' (n * 256 + c.toNat) r
def be (l : List UInt8) : Nat := be' 0 l
theorem be'_snoc : ∀ (l : List UInt8) (n : Nat) (c : UInt8), be' n (l ++ [c]) = be' n l * 256 + c.toNat
  | [], n, c => rfl
  | x :: l, n, c => be'_snoc l (n * 256 + x.toNat) c
theorem be_snoc (l : List UInt8) (c : UInt8) : be (l ++ [c]) = be l * 256 + c.toNat := be'_snoc l 0 c
theorem be_lt (l : List UInt8) : be l < 256 ^ l.length := by
  rw [← List.reverse_reverse l]
  induction l.reverse with
  | nil => simp [be, be']
  | cons c r ih =>
    rw [List.reverse_cons, be_snoc, List.length_append, List.length_singleton, Nat.pow_succ]
    have := c.toNat_lt
    omega
def sgn (k m : Nat) : Int := if m < 2 ^ (8 * k - 1) then (m : Int) else (m : Int) - ((2 ^ (8 * k) : Nat) : Int)
def got (b : List UInt8) (k : Nat) : Option (V × Nat) :=
  if k = 0 then some (⟨0, 0, ByteArray.mk #[]⟩, 0)
  else if k ≤ 8 then (if b.length < k then none else if wide (sgn k (be (b.take k))) = k then some (⟨1, sgn k (be (b.take k)), ByteArray.mk #[]⟩, k) else none)
  else if k = 9 then none
  else if 65536 < (k - 10) / 2 then none
  else if b.length < (k - 10) / 2 then none
  else some (⟨if k % 2 = 1 then 2 else 3, 0, ⟨(b.take ((k - 10) / 2)).toArray⟩⟩, (k - 10) / 2)
def sortsP (b : List UInt8) : Nat → Int → Option (List Nat × Int)
  | 0, at_ => some ([], at_)
  | n + 1, at_ => if (B1.getU b at_).2.2 ≠ 0 then none else (sortsP b n (B1.getU b at_).2.1).map fun r => ((B1.getU b at_).1 :: r.1, r.2)
def rowsP (b : List UInt8) : List Nat → Nat → Option (List V × Nat)
  | [], at_ => some ([], at_)
  | k :: ks, at_ => match got (b.drop at_) k with
    | none => none
    | some (v, n) => (rowsP b ks (at_ + n)).map fun r => (v :: r.1, r.2)
def getP (b : List UInt8) : Option (List V) :=
  if (B1.getU b 0).2.2 ≠ 0 ∨ 200 < (B1.getU b 0).1 ∨ 1048576 < b.length then none
  else match sortsP b (B1.getU b 0).1 (B1.getU b 0).2.1 with
    | none => none
    | some (ks, at_) => match rowsP b ks at_.toNat with
      | none => none
      | some (row, e) => if e < b.length then none else some row
end R1
set_option linter.unusedVariables false
set_option linter.unusedSimpArgs false
namespace R1
open Go.Sx

/-! ## numbers -/
theorem be'_eq : ∀ (l : List UInt8) (n : Nat), be' n l = n * 256 ^ l.length + be l
  | [], n => by simp [be', be]
  | c :: r, n => by
    have h1 := be'_eq r (n * 256 + c.toNat)
    have h2 := be'_eq r (0 * 256 + c.toNat)
    show be' (n * 256 + c.toNat) r = _
    have h3 : be (c :: r) = be' (0 * 256 + c.toNat) r := rfl
    rw [h1, h3, h2, List.length_cons, Nat.pow_succ, Nat.add_mul, Nat.mul_assoc, Nat.mul_comm 256 (256 ^ r.length)]
    simp [Nat.add_assoc]
theorem be_cons (c : UInt8) (r : List UInt8) : be (c :: r) = c.toNat * 256 ^ r.length + be r := by
  show be' (0 * 256 + c.toNat) r = _
  rw [be'_eq]; simp
theorem be_hi (m : Nat) : ∀ k, be (hi m k) = m % 256 ^ k
  | 0 => by simp [hi, be, be', Nat.mod_one]
  | k + 1 => by
    rw [hi, be_cons, hi_length, be_hi m k, Nat.pow_succ, Nat.mod_mul]
    have : ((m / 256 ^ k % 256).toUInt8).toNat = m / 256 ^ k % 256 := B1.toUInt8_toNat (Nat.mod_lt _ (by decide))
    rw [this, Nat.mul_comm, Nat.add_comm]
theorem hi_be : ∀ (l : List UInt8) (m : Nat), m % 256 ^ l.length = be l → hi m l.length = l
  | [], m, _ => rfl
  | c :: r, m, h => by
    rw [be_cons, List.length_cons, Nat.pow_succ, Nat.mod_mul] at h
    have hb := be_lt r
    have hp : 0 < 256 ^ r.length := Nat.pow_pos (by decide)
    have hm := Nat.mod_lt m hp
    have h1 : m % 256 ^ r.length = be r := by
      have := congrArg (· % 256 ^ r.length) h
      simp only [Nat.add_mul_mod_self_left] at this
      rw [Nat.mod_eq_of_lt hm, Nat.mul_comm, Nat.add_comm, Nat.add_mul_mod_self_left, Nat.mod_eq_of_lt hb] at this
      exact this
    have h2 : m / 256 ^ r.length % 256 = c.toNat := by
      have : 256 ^ r.length * (m / 256 ^ r.length % 256) = 256 ^ r.length * c.toNat := by
        rw [Nat.mul_comm (256 ^ r.length) c.toNat]; omega
      exact Nat.eq_of_mul_eq_mul_left hp this
    rw [List.length_cons, hi, h2, hi_be r m h1]
    simp

/-! ## keys -/
theorem sb_mk (l : List UInt8) : sb ⟨l.toArray⟩ = l := by simp [sb]
theorem mk_sb (s : ByteArray) : (⟨(sb s).toArray⟩ : ByteArray) = s := by simp [sb]
theorem empty_of {s : ByteArray} (h : s.size = 0) : s = ByteArray.mk #[] := by
  obtain ⟨a⟩ := s
  have : a.size = 0 := h
  rw [Array.size_eq_zero_iff] at this
  rw [this]
theorem right0 {v : V} (h : right v = true) (hk : v.k = 0) : v = ⟨0, 0, ByteArray.mk #[]⟩ := by
  obtain ⟨k, n, s⟩ := v
  dsimp only at hk; subst hk
  unfold right at h
  rw [if_pos rfl] at h
  have := of_decide_eq_true h
  dsimp only at this
  rw [this.1, empty_of this.2]
theorem right1 {v : V} (h : right v = true) (hk : v.k = 1) : v = ⟨1, v.n, ByteArray.mk #[]⟩ := by
  obtain ⟨k, n, s⟩ := v
  dsimp only at hk; subst hk
  unfold right at h
  rw [if_neg (by simp), if_pos rfl] at h
  have := of_decide_eq_true h
  dsimp only at this ⊢
  rw [empty_of this]
theorem right2 {v : V} (h : right v = true) (h0 : v.k ≠ 0) (h1 : v.k ≠ 1) : (v.k = 2 ∨ v.k = 3) ∧ v.s.size ≤ 65536 ∧ v = ⟨v.k, 0, v.s⟩ := by
  obtain ⟨k, n, s⟩ := v
  unfold right at h
  rw [if_neg h0, if_neg h1] at h
  split at h
  · rename_i hk
    have := of_decide_eq_true h
    dsimp only at this ⊢
    exact ⟨hk, this.2, by rw [this.1]⟩
  · cases h
theorem sb_size (l : List UInt8) : (⟨l.toArray⟩ : ByteArray).size = l.length := by simp [ByteArray.size]
theorem rightT {k : Int} {s : ByteArray} (hk : k = 2 ∨ k = 3) (hs : s.size ≤ 65536) : right ⟨k, 0, s⟩ = true ∧ good ⟨k, 0, s⟩ := by
  refine ⟨?_, ⟨by dsimp only; omega, by dsimp only; omega⟩, by simp only [Go.maxLen]; omega⟩
  unfold right
  rw [if_neg (by dsimp only; omega), if_neg (by dsimp only; omega), if_pos hk]
  exact decide_eq_true ⟨rfl, hs⟩
theorem rightN {n : Int} (h : -9223372036854775808 ≤ n) (h2 : n ≤ 9223372036854775807) : right ⟨1, n, ByteArray.mk #[]⟩ = true ∧ good ⟨1, n, ByteArray.mk #[]⟩ :=
  ⟨rfl, ⟨show (0 : Int) ≤ 1 by decide, show (1 : Int) ≤ 255 by decide⟩, ⟨h, h2⟩, Nat.zero_le _⟩
theorem rightZ : right ⟨0, 0, ByteArray.mk #[]⟩ = true ∧ good ⟨0, 0, ByteArray.mk #[]⟩ := ⟨rfl, ⟨by decide, by decide⟩, ⟨by decide, by decide⟩, by decide⟩
theorem n8 (b : UInt8) : ~~~(~~~b) = b := UInt8.eq_of_toBitVec_eq (by simp)
/-! ## rows -/
theorem wideFrom_fits (n : Int) : ∀ f k, fits n (wideFrom n f k) = true ∨ wideFrom n f k = f + k
  | 0, k => .inr (by simp [wideFrom])
  | f + 1, k => by
    unfold wideFrom
    by_cases h : fits n k = true
    · rw [if_pos h]; exact .inl h
    · rw [if_neg h]
      rcases wideFrom_fits n f (k + 1) with h | h
      · exact .inl h
      · exact .inr (by omega)
theorem fits_wide {n : Int} (h : -9223372036854775808 ≤ n) (h2 : n ≤ 9223372036854775807) : fits n (wide n) = true := by
  rcases wideFrom_fits n 7 1 with hw | hw
  · exact hw
  · show fits n (wideFrom n 7 1) = true
    rw [hw]
    exact decide_eq_true ⟨by simpa using h, by simp; omega⟩
theorem cases8 {k : Nat} (h : 1 ≤ k) (h2 : k ≤ 8) : k = 1 ∨ k = 2 ∨ k = 3 ∨ k = 4 ∨ k = 5 ∨ k = 6 ∨ k = 7 ∨ k = 8 := by omega
theorem sgn_hi {n : Int} {k : Nat} (h1 : 1 ≤ k) (h8 : k ≤ 8) (h : fits n k = true) : sgn k ((n % 18446744073709551616).toNat % 256 ^ k) = n := by
  have h := of_decide_eq_true h
  rcases cases8 h1 h8 with rfl | rfl | rfl | rfl | rfl | rfl | rfl | rfl <;> (unfold sgn; simp at h ⊢; split <;> omega)
theorem hi_sgn {x k : Nat} (h1 : 1 ≤ k) (h8 : k ≤ 8) (h : x < 256 ^ k) : (sgn k x % 18446744073709551616).toNat % 256 ^ k = x ∧ -9223372036854775808 ≤ sgn k x ∧ sgn k x ≤ 9223372036854775807 := by
  rcases cases8 h1 h8 with rfl | rfl | rfl | rfl | rfl | rfl | rfl | rfl <;> (unfold sgn; simp at h ⊢; split <;> omega)
theorem got_body {v : V} (hr : right v = true) (hg : good v) (r : List UInt8) : got (body v ++ r) (sort v) = some (v, (body v).length) := by
  by_cases h0 : v.k = 0
  · have hv := right0 hr h0
    rw [hv]
    rfl
  by_cases h1 : v.k = 1
  · have hv := right1 hr h1
    have hn := hg.2.1
    have hw := fits_wide hn.1 hn.2
    have w1 := wide_pos v.n
    have w8 := wide_le v.n
    have hs : sort v = wide v.n := by unfold sort; rw [if_pos h1]
    have hb : body v = hi (v.n % 18446744073709551616).toNat (wide v.n) := by
      unfold body; rw [if_pos h1]
      have : sb v.s = [] := by rw [hv]; rfl
      rw [this, List.append_nil]
    have hl : (body v).length = wide v.n := by rw [hb, hi_length]
    rw [hs]
    unfold got
    rw [if_neg (by omega), if_pos w8, if_neg (by rw [List.length_append]; omega)]
    have ht : (body v ++ r).take (wide v.n) = body v := List.take_left' hl
    rw [ht, hl, hb, be_hi, sgn_hi w1 w8 hw, if_pos rfl, ← hv]
  · obtain ⟨hk, hs, hv⟩ := right2 hr h0 h1
    have hb : body v = sb v.s := by unfold body; rw [if_neg h1]; rfl
    have hl : (body v).length = v.s.size := by rw [hb, sb_length]
    have h3 : sort v = if v.k = 3 then 2 * v.s.size + 10 else 2 * v.s.size + 11 := by
      unfold sort; rw [if_neg h1]
      rcases hk with h | h
      · rw [if_neg (by omega), if_pos h, if_neg (by omega)]
      · rw [if_pos h, if_pos h]
    have h4 : (sort v - 10) / 2 = v.s.size ∧ 10 ≤ sort v ∧ (if sort v % 2 = 1 then (2 : Int) else 3) = v.k := by
      rw [h3]
      rcases hk with h | h
      · rw [if_neg (by omega), if_pos (by omega)]; exact ⟨by omega, by omega, h.symm⟩
      · rw [if_pos h, if_neg (by omega)]; exact ⟨by omega, by omega, h.symm⟩
    unfold got
    rw [if_neg (by omega), if_neg (by omega), if_neg (by omega), h4.1, if_neg (by omega), if_neg (by rw [List.length_append]; omega), h4.2.2]
    have ht : (body v ++ r).take v.s.size = body v := List.take_left' hl
    rw [ht, hl, hb, mk_sb, ← hv]
theorem got_canon {b : List UInt8} {k : Nat} {v : V} {n : Nat} (h : got b k = some (v, n)) : b.take n = body v ∧ n ≤ b.length ∧ sort v = k ∧ right v = true ∧ good v := by
  unfold got at h
  split at h
  · rename_i hk
    cases h
    exact ⟨rfl, Nat.zero_le _, by rw [hk]; rfl, rightZ⟩
  · split at h
    · split at h
      · cases h
      · split at h
        · rename_i hw
          simp only [Option.some.injEq, Prod.mk.injEq] at h
          obtain ⟨rfl, rfl⟩ := h
          have htl : (b.take k).length = k := by rw [List.length_take]; omega
          have hb := be_lt (b.take k)
          rw [htl] at hb
          obtain ⟨q1, q2, q3⟩ := hi_sgn (x := be (b.take k)) (k := k) (by omega) (by omega) hb
          refine ⟨?_, by omega, ?_, rightN q2 q3⟩
          · unfold body
            rw [if_pos rfl]
            dsimp only
            rw [hw, show sb (ByteArray.mk #[]) = [] from rfl, List.append_nil]
            have := hi_be (b.take k) _ (by rw [htl]; exact q1)
            rw [htl] at this
            exact this.symm
          · unfold sort
            rw [if_pos rfl]
            exact hw
        · cases h
    · split at h
      · cases h
      · split at h
        · cases h
        · split at h
          · cases h
          · simp only [Option.some.injEq, Prod.mk.injEq] at h
            obtain ⟨rfl, rfl⟩ := h
            have hz : (⟨(b.take ((k - 10) / 2)).toArray⟩ : ByteArray).size = (k - 10) / 2 := by rw [sb_size, List.length_take]; omega
            refine ⟨?_, by omega, ?_, rightT (by split <;> simp) (by omega)⟩
            · unfold body
              rw [if_neg (by dsimp only; split <;> decide)]
              dsimp only
              rw [sb_mk]; rfl
            · unfold sort
              dsimp only
              rw [hz]
              by_cases hk : k % 2 = 1
              · rw [if_pos hk, if_neg (by decide), if_neg (by decide), if_pos rfl]; omega
              · rw [if_neg hk, if_neg (by decide), if_pos rfl]; omega
theorem sort_lt' {v : V} (h : right v = true) : sort v < 18446744073709551616 := by
  have := right_size h
  have := wide_le v.n
  unfold sort; split
  · omega
  · split
    · omega
    · split <;> omega
def sortsB (l : List V) : List UInt8 := l.flatMap (fun v => B1.enc (sort v))
theorem sorts_put : ∀ (l : List V) (pre r : List UInt8), (∀ v ∈ l, right v = true) → sortsP (pre ++ (sortsB l ++ r)) l.length pre.length = some (l.map sort, ((pre ++ sortsB l).length : Int))
  | [], pre, r, _ => by simp [sortsP, sortsB]
  | v :: l, pre, r, h => by
    have hu := B1.getU_enc pre (sort v) (sortsB l ++ r) (sort_lt' (h v (.head _)))
    have e : sortsB (v :: l) = B1.enc (sort v) ++ sortsB l := rfl
    have ih := sorts_put l (pre ++ B1.enc (sort v)) r (fun v hv => h v (.tail _ hv))
    rw [List.append_assoc] at ih
    rw [List.length_append, List.append_assoc] at ih
    rw [List.length_cons, sortsP, e, List.append_assoc, hu]
    dsimp only
    rw [if_neg (by simp), ih]
    rfl
theorem rows_put : ∀ (l : List V) (pre r : List UInt8), (∀ v ∈ l, right v = true) → (∀ v ∈ l, good v) → rowsP (pre ++ (l.flatMap body ++ r)) (l.map sort) pre.length = some (l, (pre ++ l.flatMap body).length)
  | [], pre, r, _, _ => by simp [rowsP]
  | v :: l, pre, r, h, hg => by
    have ih := rows_put l (pre ++ body v) r (fun v hv => h v (.tail _ hv)) (fun v hv => hg v (.tail _ hv))
    rw [List.append_assoc, List.length_append, List.append_assoc] at ih
    rw [List.map_cons, rowsP, List.drop_left, List.flatMap_cons, List.append_assoc, got_body (h v (.head _)) (hg v (.head _))]
    dsimp only
    rw [ih]
    rfl
def rowB (l : List V) : List UInt8 := B1.enc l.length ++ sortsB l ++ l.flatMap body
theorem get_put {l : List V} (h200 : l.length ≤ 200) (hr : ∀ v ∈ l, right v = true) (hg : ∀ v ∈ l, good v) (x : List UInt8) (hlen : (rowB l ++ x).length ≤ 1048576) : getP (rowB l ++ x) = if x = [] then some l else none := by
  have hu := B1.getU_enc [] l.length (sortsB l ++ (l.flatMap body ++ x)) (by omega)
  rw [List.nil_append, List.length_nil] at hu
  have e : rowB l ++ x = B1.enc l.length ++ (sortsB l ++ (l.flatMap body ++ x)) := by unfold rowB; simp
  have h1 := sorts_put l (B1.enc l.length) (l.flatMap body ++ x) hr
  have h2 := rows_put l (B1.enc l.length ++ sortsB l) x hr hg
  rw [List.append_assoc] at h2
  unfold getP
  rw [e] at hlen ⊢
  have hu' : B1.getU (B1.enc l.length ++ (sortsB l ++ (l.flatMap body ++ x))) 0 = (l.length, ((B1.enc l.length).length : Int), 0) := by
    have : ((0 : Nat) : Int) = 0 := rfl
    rw [this] at hu
    rw [hu]; simp
  rw [hu']
  dsimp only
  rw [if_neg (by rintro (h | h | h) <;> omega), h1]
  dsimp only
  rw [Int.toNat_natCast, h2]
  dsimp only
  by_cases hx : x = []
  · subst hx
    rw [if_pos rfl, if_neg]
    simp
  · have := List.length_pos_iff.2 hx
    rw [if_neg hx, if_pos]
    simp only [List.length_append]
    omega
theorem take_more {b : List UInt8} {i n : Nat} {x : List UInt8} (h : (b.drop i).take n = x) : b.take (i + n) = b.take i ++ x := by
  rw [List.take_add, h]
theorem getU_canon {b : List UInt8} {at_ : Int} (h : (B1.getU b at_).2.2 = 0) : ∃ i u : Nat, at_ = (i : Int) ∧ (B1.getU b at_).2.1 = ((i + u : Nat) : Int) ∧ i + u ≤ b.length ∧ b.take (i + u) = b.take i ++ B1.enc (B1.getU b at_).1 := by
  unfold B1.getU at h ⊢
  by_cases hr : at_ < 0 ∨ (b.length : Int) < at_
  · rw [if_pos hr] at h; cases h
  · rw [if_neg hr] at h ⊢
    cases hd : B1.dec 0 (b.drop at_.toNat) with
    | short => rw [hd] at h; cases h
    | bad => rw [hd] at h; cases h
    | ok n u =>
      obtain ⟨q1, q2, q3, _⟩ := B1.dec_ok _ 0 n u (by omega) hd
      rw [List.length_drop] at q2
      exact ⟨at_.toNat, u, by omega, by show at_ + (u : Int) = _; omega, by omega, take_more q3⟩
theorem sorts_canon : ∀ (n : Nat) (b : List UInt8) (i : Nat) (ks : List Nat) (e : Int), i ≤ b.length → sortsP b n i = some (ks, e) → ks.length = n ∧ ∃ j : Nat, e = (j : Int) ∧ i ≤ j ∧ j ≤ b.length ∧ b.take j = b.take i ++ ks.flatMap B1.enc
  | 0, b, i, ks, e, hi, h => by
    rw [sortsP] at h
    cases h
    exact ⟨rfl, i, rfl, Nat.le_refl _, hi, by simp⟩
  | n + 1, b, i, ks, e, hi, h => by
    rw [sortsP] at h
    by_cases hne : (B1.getU b i).2.2 ≠ 0
    · rw [if_pos hne] at h; cases h
    · rw [if_neg hne] at h
      obtain ⟨i', u, hi', hx, hle, ht⟩ := getU_canon (by simpa using hne)
      have : i' = i := by omega
      subst this
      rw [hx] at h
      cases hs : sortsP b n ((i' + u : Nat) : Int) with
      | none => rw [hs] at h; cases h
      | some r =>
        obtain ⟨l, e'⟩ := r
        rw [hs] at h
        cases h
        obtain ⟨q1, j, q2, q3, q4, q5⟩ := sorts_canon n b (i' + u) l _ hle hs
        exact ⟨by simp [q1], j, q2, by omega, q4, by rw [q5, ht]; simp⟩
theorem rows_canon : ∀ (ks : List Nat) (b : List UInt8) (i : Nat) (row : List V) (e : Nat), i ≤ b.length → rowsP b ks i = some (row, e) → e ≤ b.length ∧ b.take e = b.take i ++ row.flatMap body ∧ row.map sort = ks ∧ (∀ v ∈ row, right v = true) ∧ ∀ v ∈ row, good v
  | [], b, i, row, e, hi, h => by
    rw [rowsP] at h
    cases h
    exact ⟨hi, by simp, rfl, by simp, by simp⟩
  | k :: ks, b, i, row, e, hi, h => by
    rw [rowsP] at h
    cases hg : got (b.drop i) k with
    | none => rw [hg] at h; cases h
    | some x =>
      obtain ⟨v, n⟩ := x
      rw [hg] at h
      dsimp only at h
      obtain ⟨q1, q2, q3, q4, q5⟩ := got_canon hg
      rw [List.length_drop] at q2
      cases hs : rowsP b ks (i + n) with
      | none => rw [hs] at h; cases h
      | some r =>
        obtain ⟨l, e'⟩ := r
        rw [hs] at h
        cases h
        obtain ⟨p1, p2, p3, p4, p5⟩ := rows_canon ks b (i + n) l _ (by omega) hs
        refine ⟨p1, by rw [p2, take_more q1]; simp, by simp [q3, p3], fun w hw => ?_, fun w hw => ?_⟩
        · rcases List.mem_cons.1 hw with rfl | hw
          · exact q4
          · exact p4 w hw
        · rcases List.mem_cons.1 hw with rfl | hw
          · exact q5
          · exact p5 w hw
theorem get_canon {b : List UInt8} {l : List V} (h : getP b = some l) : b = rowB l ∧ l.length ≤ 200 ∧ b.length ≤ 1048576 ∧ (∀ v ∈ l, right v = true) ∧ ∀ v ∈ l, good v := by
  unfold getP at h
  split at h
  · cases h
  · rename_i hc
    simp only [not_or, Classical.not_not] at hc
    obtain ⟨i, u, h0, hx, hle, ht⟩ := getU_canon hc.1
    have : i = 0 := by omega
    subst this
    rw [hx] at h
    generalize (B1.getU b 0).1 = N at *
    cases hs : sortsP b N ((0 + u : Nat) : Int) with
    | none => rw [hs] at h; cases h
    | some r =>
      obtain ⟨ks, e⟩ := r
      rw [hs] at h
      dsimp only at h
      obtain ⟨q1, j, rfl, q3, q4, q5⟩ := sorts_canon N b (0 + u) ks e hle hs
      rw [Int.toNat_natCast] at h
      cases hs2 : rowsP b ks j with
      | none => rw [hs2] at h; cases h
      | some r2 =>
        obtain ⟨row, e2⟩ := r2
        rw [hs2] at h
        dsimp only at h
        split at h
        · cases h
        · cases h
          obtain ⟨p1, p2, p3, p4, p5⟩ := rows_canon ks b j l e2 q4 hs2
          have he : e2 = b.length := by omega
          rw [he, List.take_length, q5, ht, List.take_zero, List.nil_append] at p2
          have hN : l.length = N := by rw [← q1, ← p3, List.length_map]
          refine ⟨?_, by omega, by omega, p4, p5⟩
          rw [p2]
          unfold rowB sortsB
          rw [hN, ← p3, List.flatMap_map]
end R1
set_option linter.unusedVariables false
set_option linter.unusedSimpArgs false
namespace K15
open Go.Sx R1
def gV (l : List UInt8) : Option V := match getP l with
  | some [v] => some v
  | _ => none
def constP (v : V) : List UInt8 := rowB [v]
theorem constP_eq (v : V) : constP v = B1.enc 1 ++ (B1.enc (sort v) ++ body v) := by
  simp [constP, rowB, sortsB]
theorem fg : FG (fun v => right v = true ∧ good v) constP gV := by
  have hlen : ∀ v, right v = true ∧ good v → (constP v).length ≤ 1048576 := fun v h => by
    rw [constP_eq]
    have h1 := B1.enc_le_ten (m := 1) (by omega)
    have h2 := B1.enc_le_ten (m := sort v) (sort_lt' h.1)
    have hs := right_size h.1
    have h3 : (body v).length ≤ 8 + v.s.size := by
      have := wide_le v.n
      unfold body; split <;> simp [hi_length, sb_length] <;> omega
    simp only [List.length_append]; omega
  refine ⟨hlen, fun v h => ?_, fun l v h => ?_⟩
  · have := get_put (l := [v]) (by simp) (by intro x hx; simp at hx; subst hx; exact h.1) (by intro x hx; simp at hx; subst hx; exact h.2) [] (by rw [List.append_nil]; exact hlen v h)
    rw [List.append_nil, if_pos rfl] at this
    unfold gV constP
    rw [this]
  · unfold gV at h
    split at h
    · next x hx =>
      cases h
      obtain ⟨e, _, _, hr, hg⟩ := get_canon hx
      exact ⟨e, hr v (by simp), hg v (by simp)⟩
    · cases h
end K15
set_option linter.unusedVariables false
set_option linter.unusedSimpArgs false
namespace K15
open Go.Sx R1
section
variable {α β : Type}
def adv (r : Rd α) (s : Option (List UInt8)) : Option (List UInt8) := (s.bind r).map (·.2)
def Got (r : Rd α) (s : Option (List UInt8)) (x : α) : Prop := ∀ y a, s.bind r = some (y, a) → x = y
theorem Got.bad {r : Rd α} {s : Option (List UInt8)} {x : α} (h : adv r s = none) : Got r s x := fun y a e => by
  unfold adv at h; rw [e] at h; cases h
theorem adv_bad {r : Rd α} {b : List UInt8} (h : r b = none) : adv r (some b) = none := by
  unfold adv; rw [Option.bind_some, h]; rfl
theorem adv_ok {r : Rd α} {b a : List UInt8} {x : α} (h : r b = some (x, a)) : adv r (some b) = some a := by
  unfold adv; rw [Option.bind_some, h]; rfl
theorem Got.ok {r : Rd α} {b a : List UInt8} {x : α} (h : r b = some (x, a)) : Got r (some b) x := fun y c e => by
  rw [Option.bind_some, h] at e; cases e; rfl
theorem adv_map (f : α → β) (r : Rd α) (s : Option (List UInt8)) : adv (mapO f r) s = adv r s := by
  cases s with
  | none => rfl
  | some b =>
    unfold adv mapO
    simp only [Option.bind_some]
    cases r b <;> rfl
theorem Got.map (f : α → β) {r : Rd α} {s : Option (List UInt8)} {x : α} (h : Got r s x) : Got (mapO f r) s (f x) := fun y a e => by
  cases s with
  | none => cases e
  | some b =>
    unfold mapO at e
    simp only [Option.bind_some] at e
    cases hr : r b with
    | none => rw [hr] at e; cases e
    | some z =>
      rw [hr] at e
      cases e
      rw [h z.1 z.2 hr]
theorem adv_seq (r : Rd α) (q : Rd β) (s : Option (List UInt8)) : adv (seqO r q) s = adv q (adv r s) := by
  cases s with
  | none => rfl
  | some b =>
    unfold adv seqO
    simp only [Option.bind_some]
    cases r b with
    | none => rfl
    | some z =>
      simp only [Option.map_some, Option.bind_some]
      cases q z.2 <;> rfl
theorem Got.seq {r : Rd α} {q : Rd β} {s : Option (List UInt8)} {x : α} {y : β} (h : Got r s x) (k : Got q (adv r s) y) : Got (seqO r q) s (x, y) := fun z a e => by
  cases s with
  | none => cases e
  | some b =>
    simp only [Option.bind_some] at e
    unfold seqO at e
    cases hr : r b with
    | none => rw [hr] at e; cases e
    | some u =>
      rw [hr] at e
      simp only at e
      have hx := h u.1 u.2 hr
      rw [adv_ok (x := u.1) (a := u.2) hr] at k
      cases hq : q u.2 with
      | none => rw [hq] at e; cases e
      | some v =>
        rw [hq] at e
        cases e
        rw [hx, k v.1 v.2 hq]
theorem rep_snoc (r : Rd α) : ∀ (n : Nat) (b : List UInt8), repO r (n + 1) b = match repO r n b with
    | some (l, a) => match r a with
      | some (x, c) => some (l ++ [x], c)
      | none => none
    | none => none
  | 0, b => by
    simp only [repO]
    cases r b <;> rfl
  | n + 1, b => by
    rw [repO]
    conv => rhs; rw [repO]
    cases hr : r b with
    | none => rfl
    | some z =>
      simp only
      rw [rep_snoc r n z.2]
      cases hq : repO r n z.2 with
      | none => rfl
      | some u =>
        simp only
        cases r u.2 <;> rfl
theorem adv_rep (r : Rd α) (n : Nat) (s : Option (List UInt8)) : adv (repO r (n + 1)) s = adv r (adv (repO r n) s) := by
  cases s with
  | none => rfl
  | some b =>
    unfold adv
    simp only [Option.bind_some]
    rw [rep_snoc]
    cases repO r n b with
    | none => rfl
    | some z =>
      simp only [Option.map_some, Option.bind_some]
      cases r z.2 <;> rfl
theorem Got.rep {r : Rd α} {n : Nat} {s : Option (List UInt8)} {l : List α} {x : α} (h : Got (repO r n) s l) (k : Got r (adv (repO r n) s) x) : Got (repO r (n + 1)) s (l ++ [x]) := fun z a e => by
  cases s with
  | none => cases e
  | some b =>
    simp only [Option.bind_some] at e
    rw [rep_snoc] at e
    cases hr : repO r n b with
    | none => rw [hr] at e; cases e
    | some u =>
      rw [hr] at e
      simp only at e
      have hx := h u.1 u.2 hr
      rw [adv_ok (x := u.1) (a := u.2) hr] at k
      cases hq : r u.2 with
      | none => rw [hq] at e; cases e
      | some v =>
        rw [hq] at e
        cases e
        rw [hx, k v.1 v.2 hq]
theorem adv_rep0 (r : Rd α) (s : Option (List UInt8)) : adv (repO r 0) s = s := by cases s <;> rfl
theorem Got.rep0 (r : Rd α) (s : Option (List UInt8)) : Got (repO r 0) s [] := fun y a e => by
  cases s with
  | none => cases e
  | some b => cases e; rfl
theorem adv_rep_none {r : Rd α} {s : Option (List UInt8)} {i : Nat} (h : adv (repO r i) s = none) : ∀ k, adv (repO r (i + k)) s = none
  | 0 => h
  | k + 1 => by rw [show i + (k + 1) = (i + k) + 1 by omega, adv_rep, adv_rep_none h k]; rfl
theorem adv_some {most : Nat} {r : Rd α} {s : Option (List UInt8)} {x : Int} (h : Got (numO most) s x) : adv (someO most r) s = adv (repO r x.toNat) (adv (numO most) s) := by
  cases s with
  | none => rfl
  | some b =>
    have h := h
    unfold adv someO
    simp only [Option.bind_some]
    cases hn : numO most b with
    | none => rfl
    | some z =>
      rw [h z.1 z.2 hn]
      rfl
theorem Got.some {most : Nat} {r : Rd α} {s : Option (List UInt8)} {x : Int} {l : List α} (h : Got (numO most) s x) (k : Got (repO r x.toNat) (adv (numO most) s) l) : Got (someO most r) s l := fun y a e => by
  cases s with
  | none => cases e
  | some b =>
    simp only [Option.bind_some] at e
    unfold someO at e
    cases hn : numO most b with
    | none => rw [hn] at e; cases e
    | some z =>
      rw [hn] at e
      rw [h z.1 z.2 hn, adv_ok (x := z.1) (a := z.2) hn] at k
      exact k y a e
end
theorem adv_text (m : Nat) (s : Option (List UInt8)) : adv (textO m) s = adv (blobO m) s := adv_map _ _ _
theorem Got.text {m : Nat} {s : Option (List UInt8)} {l : List UInt8} (h : Got (blobO m) s l) : Got (textO m) s ⟨l.toArray⟩ := Got.map (fun l : List UInt8 => (⟨l.toArray⟩ : ByteArray)) h
theorem adv_four (r : Rd Int) (s : Option (List UInt8)) : adv (repO r 4) s = adv (seqO r (seqO r (seqO r r))) s := by
  rw [adv_rep, adv_rep, adv_rep, adv_rep, adv_rep0, adv_seq, adv_seq, adv_seq]
theorem Got.four {r : Rd Int} {s : Option (List UInt8)} {p q t u : Int} (h : Got (repO r 4) s [p, q, t, u]) : Got (seqO r (seqO r (seqO r r))) s (p, (q, (t, u))) := fun z a e => by
  cases s with
  | none => cases e
  | some b =>
    simp only [Option.bind_some] at e
    unfold seqO at e
    cases h1 : r b with
    | none => rw [h1] at e; cases e
    | some z1 =>
      rw [h1] at e; simp only at e
      cases h2 : r z1.2 with
      | none => rw [h2] at e; cases e
      | some z2 =>
        rw [h2] at e; simp only at e
        cases h3 : r z2.2 with
        | none => rw [h3] at e; cases e
        | some z3 =>
          rw [h3] at e; simp only at e
          cases h4 : r z3.2 with
          | none => rw [h4] at e; cases e
          | some z4 =>
            rw [h4] at e
            simp only [Option.some.injEq, Prod.mk.injEq] at e
            obtain ⟨rfl, rfl⟩ := e
            have := h [z1.1, z2.1, z3.1, z4.1] z4.2 (by
              simp only [Option.bind_some, repO]
              rw [h1]; simp only
              rw [h2]; simp only
              rw [h3]; simp only
              rw [h4])
            simp only [List.cons.injEq, and_true] at this
            obtain ⟨rfl, rfl, rfl, rfl⟩ := this
            rfl
end K15
set_option linter.unusedVariables false
set_option maxRecDepth 100000
namespace Go.Proofs.YtaifphjenebgoaaGreatDoor
open Go Go.Sx
noncomputable def record_Get.W : Option Addr → Nat → Nat → World → (Value → World → Prop) → Prop := fun (b_A : Option Addr) (b_n b_c : Nat) (w : World) (K : Value → World → Prop) => CallsV Tryz.prog 69
 #[Value.slice b_A b_n b_c, Value.int IntKind.i64 (0 : Int)] w fun (v : Value) (w' : World) => ∃ (x x_1 x_2 : Int), v = Value.tuple #[Value.int IntKind.u64 x, Value.int IntKind.i64 x_1, Value.int
 IntKind.i64 x_2] ∧ bif !decide (x_2 = (0 : Int)) then K (Value.tuple #[Value.slice none 0 0, Value.int IntKind.i64 (10 : Int)]) w' else bif decide ((200 : Int) < x) then K
 (Value.tuple #[Value.slice none 0 0, Value.int IntKind.i64 (10 : Int)]) w' else bif decide ((1048576 : Int) < (↑b_n : Int)) then K (Value.tuple #[Value.slice none 0 0, Value.int
 IntKind.i64 (10 : Int)]) w' else ∃ (I : Int → Option Addr → Nat → Nat → Int → World → Prop) (μ : Int → Option Addr → Nat → Nat → Int → World → Nat), I x_1 none 0 0 (0 : Int) w' ∧ ∀ (x_3 : Int)
 (x_4 : Option Addr) (x_5 x_6 : Nat) (x_7 : Int) (w : World), I x_3 x_4 x_5 x_6 x_7 w → bif decide (x_7 < x) then CallsV Tryz.prog 69 #[Value.slice b_A b_n b_c, Value.int IntKind.i64 x_3] w
 fun (v : Value) (w' : World) => ∃ (x x_8 x_9 : Int), v = Value.tuple #[Value.int IntKind.u64 x, Value.int IntKind.i64 x_8, Value.int IntKind.i64 x_9] ∧ bif !decide (x_9 = (0 : Int)) then K
 (Value.tuple #[Value.slice none 0 0, Value.int IntKind.i64 (10 : Int)]) w' else ∀ (g : Nat) (w'_1 : World), Fresh w' g w'_1 [Value.int IntKind.u64 x] 106 → ∃ (x : Option Addr) (x_10 x_11 : Nat)
 (w' : World), RunsTo Tryz.prog (Builtin.append_ (Array.mk [140, 140]) 140 #[Value.slice x_4 x_5 x_6, Value.slice (some (Addr.mk g 0 none)) 1 1]) w'_1 (Value.slice x x_10 x_11) w' ∧ I x_8
 x x_10 x_11 (IntKind.wrap IntKind.u64 (x_7 + (1 : Int))) w' ∧ μ x_8 x x_10 x_11 (IntKind.wrap IntKind.u64 (x_7 + (1 : Int))) w' < μ x_3 x_4 x_5 x_6 x_7 w else ∃ (I : Int → Option Addr → Nat → Nat → Int
 → World → Prop) (μ : Int → Option Addr → Nat → Nat → Int → World → Nat), I x_3 none 0 0 (0 : Int) w ∧ ∀ (x : Int) (x_8 : Option Addr) (x_9 x_10 : Nat) (x_11 : Int) (w : World), I x x_8 x_9 x_10
 x_11 w → bif decide (x_11 < (↑x_5 : Int)) then ∃ (ad : Addr), x_4 = some ad ∧ ((0 : Int) ≤ x_11 ∧ x_11 < (↑x_5 : Int)) ∧ ∃ (x_12 : Int), World.cell? w (Addr.add ad (Int.toNat x_11 *
 1)) = some (Value.int IntKind.u64 x_12) ∧ ((0 : Int) ≤ x ∧ x ≤ (↑b_n : Int)) ∧ CallsV Tryz.prog 127 #[Value.slice (cutAt b_A b_c (Int.toNat x) 1) (b_n - Int.toNat x) (b_c - Int.toNat x),
 Value.int IntKind.u64 x_12] w fun (v : Value) (w' : World) => ∃ (x_13 x_14 : Int) (x_15 : ByteArray) (x_16 : Int) (x_17 : Bool), v = Value.tuple #[Value.agg #[Value.int IntKind.u8 x_13, Value.int
 IntKind.i64 x_14, Value.string x_15], Value.int IntKind.i64 x_16, Value.bool x_17] ∧ ∀ (g : Nat) (w'_1 : World), Fresh w' g w'_1 [Value.int IntKind.u8 (0 : Int), Value.int IntKind.i64 (0 : Int),
 Value.string (ByteArray.mk #[])] 54 → stOK (Addr.mk g 0 none) 0 [Value.int IntKind.u8 x_13, Value.int IntKind.i64 x_14, Value.string x_15] w'_1 ∧ ∀ (w' : World), w' = setAll (Addr.mk g 0
 none) 0 [Value.int IntKind.u8 x_13, Value.int IntKind.i64 x_14, Value.string x_15] w'_1 → bif !x_17 then K (Value.tuple #[Value.slice none 0 0, Value.int IntKind.i64 (10 : Int)]) w' else
 ∃ (x_18 : Int), World.cell? w' (Addr.add (Addr.mk g 0 none) 0) = some (Value.int IntKind.u8 x_18) ∧ ∃ (x_19 : Int), World.cell? w' (Addr.add (Addr.mk g 0 none) 1) = some
 (Value.int IntKind.i64 x_19) ∧ ∃ (x_20 : ByteArray), World.cell? w' (Addr.add (Addr.mk g 0 none) 2) = some (Value.string x_20) ∧ ∀ (g : Nat) (w'_2 : World), Fresh w' g w'_2 [Value.int
 IntKind.u8 x_18, Value.int IntKind.i64 x_19, Value.string x_20] 54 → ∃ (x_21 : Option Addr) (x_22 x_23 : Nat) (w' : World), RunsTo Tryz.prog (Builtin.append_ (Array.mk [23, 23]) 23 #[Value.slice x_8
 x_9 x_10, Value.slice (some (Addr.mk g 0 none)) 1 1]) w'_2 (Value.slice x_21 x_22 x_23) w' ∧ I (IntKind.wrap IntKind.i64 (x + x_16)) x_21 x_22 x_23 (IntKind.wrap IntKind.i64 (x_11 + (1 :
 Int))) w' ∧ μ (IntKind.wrap IntKind.i64 (x + x_16)) x_21 x_22 x_23 (IntKind.wrap IntKind.i64 (x_11 + (1 : Int))) w' < μ x x_8 x_9 x_10 x_11 w else bif decide (x < (↑b_n : Int)) then K
 (Value.tuple #[Value.slice none 0 0, Value.int IntKind.i64 (10 : Int)]) w else K (Value.tuple #[Value.slice x_8 x_9 x_10, Value.int IntKind.i64 (0 : Int)]) w
theorem record_Get.calls (ok : Okay Tryz.prog) {b_A : Option Addr} {b_n : Nat} {b_c : Nat} {w : World} {K : Value → World → Prop} (h : record_Get.W b_A b_n b_c w K) : CallsV Tryz.prog 71 #[.slice b_A b_n b_c] w K :=
  fnW_calls ok Tryz.func71 (an := (.named (.seq .auto (.seq .auto (.seq .auto (.seq .auto (.seq (.seq .auto (.block (.loop [(5, .one (.int .i64)), (7, .one .slc), (35, .one (.int .u64))] .auto))) (.seq .auto (.seq (.seq .auto (.block (.loop [(5, .one (.int .i64)), (11, .one .slc), (54, .one (.int .i64))] .auto))) .auto))))))))) (args := [.slice b_A b_n b_c]) (Eq.mp (by kernel_rfl) h)
noncomputable def record_got.W : Option Addr → Nat → Nat → Int → World → (Value → World → Prop) → Prop := fun (b_A : Option Addr) (b_n b_c : Nat) (k : Int) (w : World) (K : Value → World → Prop) => ∀
 (g : Nat) (w' : World), Fresh w g w' [Value.int IntKind.u8 (0 : Int), Value.int IntKind.i64 (0 : Int), Value.string (ByteArray.mk #[])] 54 → bif decide (k = (0 : Int)) then stOK (Addr.mk g 0
 none) 0 [Value.int IntKind.u8 (0 : Int), Value.int IntKind.i64 (0 : Int), Value.string (ByteArray.mk #[])] w' ∧ ∀ (w'_1 : World), w'_1 = setAll (Addr.mk g 0 none) 0 [Value.int IntKind.u8
 (0 : Int), Value.int IntKind.i64 (0 : Int), Value.string (ByteArray.mk #[])] w' → ∃ (x : Int), World.cell? w'_1 (Addr.add (Addr.mk g 0 none) 0) = some (Value.int IntKind.u8 x) ∧ ∃ (x_1 :
 Int), World.cell? w'_1 (Addr.add (Addr.mk g 0 none) 1) = some (Value.int IntKind.i64 x_1) ∧ ∃ (x_2 : ByteArray), World.cell? w'_1 (Addr.add (Addr.mk g 0 none) 2) = some
 (Value.string x_2) ∧ K (Value.tuple #[Value.agg #[Value.int IntKind.u8 x, Value.int IntKind.i64 x_1, Value.string x_2], Value.int IntKind.i64 (0 : Int), Value.bool true]) w'_1 else bif
 decide (k ≤ (8 : Int)) then bif decide (IntKind.wrap IntKind.u64 (↑b_n : Int) < k) then stOK (Addr.mk g 0 none) 0 [Value.int IntKind.u8 (0 : Int), Value.int IntKind.i64 (0 :
 Int), Value.string (ByteArray.mk #[])] w' ∧ ∀ (w'_1 : World), w'_1 = setAll (Addr.mk g 0 none) 0 [Value.int IntKind.u8 (0 : Int), Value.int IntKind.i64 (0 : Int), Value.string (ByteArray.mk
 #[])] w' → ∃ (x : Int), World.cell? w'_1 (Addr.add (Addr.mk g 0 none) 0) = some (Value.int IntKind.u8 x) ∧ ∃ (x_1 : Int), World.cell? w'_1 (Addr.add (Addr.mk g 0 none) 1) =
 some (Value.int IntKind.i64 x_1) ∧ ∃ (x_2 : ByteArray), World.cell? w'_1 (Addr.add (Addr.mk g 0 none) 2) = some (Value.string x_2) ∧ K (Value.tuple #[Value.agg #[Value.int
 IntKind.u8 x, Value.int IntKind.i64 x_1, Value.string x_2], Value.int IntKind.i64 (0 : Int), Value.bool false]) w'_1 else ((0 : Int) ≤ k ∧ k ≤ (↑b_c : Int)) ∧ ∃ (I : Int → Int → World → Prop) (μ :
 Int → Int → World → Nat), I (0 : Int) (0 : Int) w' ∧ ∀ (x x_1 : Int) (w : World), I x x_1 w → bif decide (x_1 < (↑(Int.toNat k - 0) : Int)) then ∃ (ad : Addr), cutAt b_A b_c 0 1 = some
 ad ∧ ((0 : Int) ≤ x_1 ∧ x_1 < (↑(Int.toNat k - 0) : Int)) ∧ ∃ (x_2 : Int), World.cell? w (Addr.add ad (Int.toNat x_1 * 1)) = some (Value.int IntKind.u8 x_2) ∧ (0 : Int) ≤ (8 : Int) ∧ I
 (IntKind.wrap IntKind.u64 (↑(BitVec.toNat (BitVec.ofInt 64 (IntKind.wrap IntKind.u64 (x * (2 : Int) ^ Min.min (Int.toNat (8 : Int)) 64)) ||| BitVec.ofInt 64 (IntKind.wrap IntKind.u64 x_2))) : Int))
 (IntKind.wrap IntKind.i64 (x_1 + (1 : Int))) w ∧ μ (IntKind.wrap IntKind.u64 (↑(BitVec.toNat (BitVec.ofInt 64 (IntKind.wrap IntKind.u64 (x * (2 : Int) ^ Min.min (Int.toNat (8 : Int)) 64)) |||
 BitVec.ofInt 64 (IntKind.wrap IntKind.u64 x_2))) : Int)) (IntKind.wrap IntKind.i64 (x_1 + (1 : Int))) w < μ x x_1 w else (0 : Int) ≤ IntKind.wrap IntKind.i64 ((64 : Int) - IntKind.wrap IntKind.i64 ((8
 : Int) * IntKind.wrap IntKind.i64 k)) ∧ (0 : Int) ≤ IntKind.wrap IntKind.i64 ((64 : Int) - IntKind.wrap IntKind.i64 ((8 : Int) * IntKind.wrap IntKind.i64 k)) ∧ ∀ (g_1 : Nat) (w' : World), Fresh w g_1
 w' [Value.int IntKind.u8 (0 : Int), Value.int IntKind.i64 (0 : Int), Value.string (ByteArray.mk #[])] 54 → stOK (Addr.mk g_1 0 none) 0 [Value.int IntKind.u8 (1 : Int), Value.int IntKind.i64
 (Int.fdiv (IntKind.wrap IntKind.i64 (IntKind.wrap IntKind.i64 x * (2 : Int) ^ Min.min (Int.toNat (IntKind.wrap IntKind.i64 ((64 : Int) - IntKind.wrap IntKind.i64 ((8 : Int) * IntKind.wrap IntKind.i64
 k)))) 64)) ((2 : Int) ^ Min.min (Int.toNat (IntKind.wrap IntKind.i64 ((64 : Int) - IntKind.wrap IntKind.i64 ((8 : Int) * IntKind.wrap IntKind.i64 k)))) 64)), Value.string (ByteArray.mk #[])] w' ∧ ∀
 (w'_1 : World), w'_1 = setAll (Addr.mk g_1 0 none) 0 [Value.int IntKind.u8 (1 : Int), Value.int IntKind.i64 (Int.fdiv (IntKind.wrap IntKind.i64 (IntKind.wrap IntKind.i64 x * (2 : Int) ^ Min.min
 (Int.toNat (IntKind.wrap IntKind.i64 ((64 : Int) - IntKind.wrap IntKind.i64 ((8 : Int) * IntKind.wrap IntKind.i64 k)))) 64)) ((2 : Int) ^ Min.min (Int.toNat (IntKind.wrap IntKind.i64 ((64 : Int) -
 IntKind.wrap IntKind.i64 ((8 : Int) * IntKind.wrap IntKind.i64 k)))) 64)), Value.string (ByteArray.mk #[])] w' → ∃ (S : World → Prop), S (World.drew w'_1) ∧ ∃ (x : Int), (∀ (u : World), S u →
 World.cell? u (Addr.add (Addr.mk g_1 0 none) 0) = some (Value.int IntKind.u8 x)) ∧ ∃ (x_2 : Int), (∀ (u : World), S u → World.cell? u (Addr.add (Addr.mk g_1 0 none) 1) =
 some (Value.int IntKind.i64 x_2)) ∧ ∃ (x_3 : ByteArray), (∀ (u : World), S u → World.cell? u (Addr.add (Addr.mk g_1 0 none) 2) = some (Value.string x_3)) ∧ ∃ (x_4 : Int), (∀ (u :
 World), S u → World.cell? u (Addr.add (Addr.mk g_1 0 none) 1) = some (Value.int IntKind.i64 x_4)) ∧ CallsV Tryz.prog 67 #[Value.int IntKind.i64 x_4] (World.drew w'_1) fun (v : Value) (w'
 : World) => ∃ (x_5 : Int), v = Value.int IntKind.i64 x_5 ∧ S w' ∧ stOK (Addr.mk g 0 none) 0 [Value.int IntKind.u8 x, Value.int IntKind.i64 x_2, Value.string x_3] w' ∧ ∀ (w'_2 : World), w'_2 =
 setAll (Addr.mk g 0 none) 0 [Value.int IntKind.u8 x, Value.int IntKind.i64 x_2, Value.string x_3] w' → ∃ (x : Int), World.cell? w'_2 (Addr.add (Addr.mk g 0 none) 0) = some
 (Value.int IntKind.u8 x) ∧ ∃ (x_6 : Int), World.cell? w'_2 (Addr.add (Addr.mk g 0 none) 1) = some (Value.int IntKind.i64 x_6) ∧ ∃ (x_7 : ByteArray), World.cell? w'_2 (Addr.add (Addr.mk g
 0 none) 2) = some (Value.string x_7) ∧ K (Value.tuple #[Value.agg #[Value.int IntKind.u8 x, Value.int IntKind.i64 x_6, Value.string x_7], Value.int IntKind.i64 (IntKind.wrap IntKind.i64
 k), Value.bool (decide (x_5 = IntKind.wrap IntKind.i64 k))]) w'_2 else bif decide (k = (9 : Int)) then stOK (Addr.mk g 0 none) 0 [Value.int IntKind.u8 (0 : Int), Value.int
 IntKind.i64 (0 : Int), Value.string (ByteArray.mk #[])] w' ∧ ∀ (w'_1 : World), w'_1 = setAll (Addr.mk g 0 none) 0 [Value.int IntKind.u8 (0 : Int), Value.int IntKind.i64 (0 : Int), Value.string
 (ByteArray.mk #[])] w' → ∃ (x : Int), World.cell? w'_1 (Addr.add (Addr.mk g 0 none) 0) = some (Value.int IntKind.u8 x) ∧ ∃ (x_1 : Int), World.cell? w'_1 (Addr.add (Addr.mk g 0
 none) 1) = some (Value.int IntKind.i64 x_1) ∧ ∃ (x_2 : ByteArray), World.cell? w'_1 (Addr.add (Addr.mk g 0 none) 2) = some (Value.string x_2) ∧ K (Value.tuple #[Value.agg
 #[Value.int IntKind.u8 x, Value.int IntKind.i64 x_1, Value.string x_2], Value.int IntKind.i64 (0 : Int), Value.bool false]) w'_1 else (2 : Int) ≠ (0 : Int) ∧ bif decide ((65536 : Int) <
 IntKind.wrap IntKind.u64 (Int.tdiv (IntKind.wrap IntKind.u64 (k - (10 : Int))) (2 : Int))) then stOK (Addr.mk g 0 none) 0 [Value.int IntKind.u8 (0 : Int), Value.int IntKind.i64 (0 : Int),
 Value.string (ByteArray.mk #[])] w' ∧ ∀ (w'_1 : World), w'_1 = setAll (Addr.mk g 0 none) 0 [Value.int IntKind.u8 (0 : Int), Value.int IntKind.i64 (0 : Int), Value.string (ByteArray.mk #[])] w' →
 ∃ (x : Int), World.cell? w'_1 (Addr.add (Addr.mk g 0 none) 0) = some (Value.int IntKind.u8 x) ∧ ∃ (x_1 : Int), World.cell? w'_1 (Addr.add (Addr.mk g 0 none) 1) = some
 (Value.int IntKind.i64 x_1) ∧ ∃ (x_2 : ByteArray), World.cell? w'_1 (Addr.add (Addr.mk g 0 none) 2) = some (Value.string x_2) ∧ K (Value.tuple #[Value.agg #[Value.int IntKind.u8 x,
 Value.int IntKind.i64 x_1, Value.string x_2], Value.int IntKind.i64 (0 : Int), Value.bool false]) w'_1 else (2 : Int) ≠ (0 : Int) ∧ bif decide (IntKind.wrap IntKind.u64 (↑b_n : Int) <
 IntKind.wrap IntKind.u64 (Int.tdiv (IntKind.wrap IntKind.u64 (k - (10 : Int))) (2 : Int))) then stOK (Addr.mk g 0 none) 0 [Value.int IntKind.u8 (0 : Int), Value.int IntKind.i64 (0 : Int),
 Value.string (ByteArray.mk #[])] w' ∧ ∀ (w'_1 : World), w'_1 = setAll (Addr.mk g 0 none) 0 [Value.int IntKind.u8 (0 : Int), Value.int IntKind.i64 (0 : Int), Value.string (ByteArray.mk #[])] w' →
 ∃ (x : Int), World.cell? w'_1 (Addr.add (Addr.mk g 0 none) 0) = some (Value.int IntKind.u8 x) ∧ ∃ (x_1 : Int), World.cell? w'_1 (Addr.add (Addr.mk g 0 none) 1) = some
 (Value.int IntKind.i64 x_1) ∧ ∃ (x_2 : ByteArray), World.cell? w'_1 (Addr.add (Addr.mk g 0 none) 2) = some (Value.string x_2) ∧ K (Value.tuple #[Value.agg #[Value.int IntKind.u8 x,
 Value.int IntKind.i64 x_1, Value.string x_2], Value.int IntKind.i64 (0 : Int), Value.bool false]) w'_1 else (2 : Int) ≠ (0 : Int) ∧ (2 : Int) ≠ (0 : Int) ∧ bif decide (Int.tmod k (2 :
 Int) = (1 : Int)) then ((0 : Int) ≤ IntKind.wrap IntKind.i64 (Int.tdiv (IntKind.wrap IntKind.i64 (IntKind.wrap IntKind.u64 (k - (10 : Int)))) (2 : Int)) ∧ IntKind.wrap IntKind.i64 (Int.tdiv
 (IntKind.wrap IntKind.i64 (IntKind.wrap IntKind.u64 (k - (10 : Int)))) (2 : Int)) ≤ (↑b_c : Int)) ∧ ∃ (x : ByteArray) (w'_1 : World), RunsTo Tryz.prog (convert 32 9 (Value.slice (cutAt b_A b_c 0 1)
 (Int.toNat (IntKind.wrap IntKind.i64 (Int.tdiv (IntKind.wrap IntKind.i64 (IntKind.wrap IntKind.u64 (k - (10 : Int)))) (2 : Int))) - 0) (b_c - 0))) w' (Value.string x) w'_1 ∧ stOK (Addr.mk g 0
 none) 0 [Value.int IntKind.u8 (2 : Int), Value.int IntKind.i64 (0 : Int), Value.string x] w'_1 ∧ ∀ (w' : World), w' = setAll (Addr.mk g 0 none) 0 [Value.int IntKind.u8 (2 : Int),
 Value.int IntKind.i64 (0 : Int), Value.string x] w'_1 → ∃ (x : Int), World.cell? w' (Addr.add (Addr.mk g 0 none) 0) = some (Value.int IntKind.u8 x) ∧ ∃ (x_1 : Int), World.cell? w'
 (Addr.add (Addr.mk g 0 none) 1) = some (Value.int IntKind.i64 x_1) ∧ ∃ (x_2 : ByteArray), World.cell? w' (Addr.add (Addr.mk g 0 none) 2) = some (Value.string x_2) ∧ K
 (Value.tuple #[Value.agg #[Value.int IntKind.u8 x, Value.int IntKind.i64 x_1, Value.string x_2], Value.int IntKind.i64 (IntKind.wrap IntKind.i64 (Int.tdiv (IntKind.wrap IntKind.i64 (IntKind.wrap
 IntKind.u64 (k - (10 : Int)))) (2 : Int))), Value.bool true]) w' else ((0 : Int) ≤ IntKind.wrap IntKind.i64 (Int.tdiv (IntKind.wrap IntKind.i64 (IntKind.wrap IntKind.u64 (k - (10 : Int)))) (2 :
 Int)) ∧ IntKind.wrap IntKind.i64 (Int.tdiv (IntKind.wrap IntKind.i64 (IntKind.wrap IntKind.u64 (k - (10 : Int)))) (2 : Int)) ≤ (↑b_c : Int)) ∧ ∃ (x : ByteArray) (w'_1 : World), RunsTo Tryz.prog
 (convert 32 9 (Value.slice (cutAt b_A b_c 0 1) (Int.toNat (IntKind.wrap IntKind.i64 (Int.tdiv (IntKind.wrap IntKind.i64 (IntKind.wrap IntKind.u64 (k - (10 : Int)))) (2 : Int))) - 0) (b_c - 0))) w'
 (Value.string x) w'_1 ∧ stOK (Addr.mk g 0 none) 0 [Value.int IntKind.u8 (3 : Int), Value.int IntKind.i64 (0 : Int), Value.string x] w'_1 ∧ ∀ (w' : World), w' = setAll (Addr.mk g 0 none) 0
 [Value.int IntKind.u8 (3 : Int), Value.int IntKind.i64 (0 : Int), Value.string x] w'_1 → ∃ (x : Int), World.cell? w' (Addr.add (Addr.mk g 0 none) 0) = some (Value.int IntKind.u8 x) ∧ ∃
 (x_1 : Int), World.cell? w' (Addr.add (Addr.mk g 0 none) 1) = some (Value.int IntKind.i64 x_1) ∧ ∃ (x_2 : ByteArray), World.cell? w' (Addr.add (Addr.mk g 0 none) 2) = some
 (Value.string x_2) ∧ K (Value.tuple #[Value.agg #[Value.int IntKind.u8 x, Value.int IntKind.i64 x_1, Value.string x_2], Value.int IntKind.i64 (IntKind.wrap IntKind.i64 (Int.tdiv (IntKind.wrap
 IntKind.i64 (IntKind.wrap IntKind.u64 (k - (10 : Int)))) (2 : Int))), Value.bool true]) w'
theorem record_got.calls (ok : Okay Tryz.prog) {b_A : Option Addr} {b_n : Nat} {b_c : Nat} {k : Int} {w : World} {K : Value → World → Prop} (h : record_got.W b_A b_n b_c k w K) : CallsV Tryz.prog 127 #[.slice b_A b_n b_c, .int .u64 k] w K :=
  fnW_calls ok Tryz.func127 (an := (.named (.seq .auto (.seq (.block (.seq .auto (.cond .auto (.seq .auto (.cond (.seq .auto (.seq .auto (.seq (.seq .auto (.block (.loop [(7, .one (.int .u64)), (31, .one (.int .i64))] .auto))) .auto))) .auto))))) .auto)))) (args := [.slice b_A b_n b_c, .int .u64 k]) (Eq.mp (by kernel_rfl) h)
end Go.Proofs.YtaifphjenebgoaaGreatDoor
set_option linter.unusedVariables false
set_option linter.unusedSimpArgs false
namespace Go.Proofs.YtaifphjenebgoaaGreatDoor
open Go Go.Sx R1

def agW (v : V) : Value := .agg #[.int .u8 v.k, .int .i64 v.n, .string v.s]
theorem setW3 {w : World} {g : Nat} {x y z : Value} (b : Blk w g [x, y, z]) (p q r : Value) : Blk (setAll ⟨g, 0, none⟩ 0 [p, q, r] w) g [p, q, r] := Blk.setAll (o := 0) [p, q, r] 0 b
theorem okW3 {w : World} {g : Nat} {x y z : Value} (b : Blk w g [x, y, z]) (p q r : Value) : stOK ⟨g, 0, none⟩ 0 [p, q, r] w := b.stOK [p, q, r] 0 (by simp)
theorem or_byte {x c : Nat} (hx : x < 72057594037927936) (hc : c < 256) : IntKind.u64.wrap ((BitVec.toNat (BitVec.ofInt 64 (IntKind.u64.wrap ((x : Int) * 2 ^ min (Int.toNat 8) 64)) ||| BitVec.ofInt 64 (IntKind.u64.wrap (c : Int))) : Nat) : Int) = ((x * 256 + c : Nat) : Int) := by
  have e8 : min (Int.toNat 8) 64 = 8 := by decide
  rw [e8, show (2 : Int) ^ 8 = 256 by decide, wu ((x : Int) * 256) (by omega) (by omega), wu (c : Int) (by omega) (by omega)]
  rw [BitVec.toNat_or, BitVec.toNat_ofInt, BitVec.toNat_ofInt]
  have e64 : ((2 ^ 64 : Nat) : Int) = 18446744073709551616 := by decide
  rw [e64]
  have e1 : ((x : Int) * 256 % 18446744073709551616).toNat = 2 ^ 8 * x := by omega
  have e2 : ((c : Int) % 18446744073709551616).toNat = c := by omega
  rw [e1, e2, ← Nat.two_pow_add_eq_or_of_lt (by omega : c < 2 ^ 8), wu _ (by omega) (by omega)]
  omega
theorem sgn_shift {k m : Nat} (hk : 1 ≤ k) (hk' : k ≤ 8) (hm : m < 256 ^ k) :
    Int.fdiv (IntKind.i64.wrap (IntKind.i64.wrap (m : Int) * 2 ^ min (Int.toNat (IntKind.i64.wrap (64 - IntKind.i64.wrap (8 * IntKind.i64.wrap (k : Int))))) 64)) (2 ^ min (Int.toNat (IntKind.i64.wrap (64 - IntKind.i64.wrap (8 * IntKind.i64.wrap (k : Int))))) 64) = sgn k m := by
  have e : IntKind.i64.wrap (64 - IntKind.i64.wrap (8 * IntKind.i64.wrap (k : Int))) = ((64 - 8 * k : Nat) : Int) := by
    rw [wi (k : Int) (by omega) (by omega), wi (8 * (k : Int)) (by omega) (by omega), wi _ (by omega) (by omega)]; omega
  rw [e, Int.toNat_natCast, IntKind.wrap_i64, IntKind.wrap_i64, Int.fdiv_eq_ediv_of_nonneg _ (by exact Int.le_of_lt (Int.pow_pos (by decide)))]
  unfold sgn
  obtain rfl | rfl | rfl | rfl | rfl | rfl | rfl | rfl : k = 1 ∨ k = 2 ∨ k = 3 ∨ k = 4 ∨ k = 5 ∨ k = 6 ∨ k = 7 ∨ k = 8 := by omega
  all_goals
    simp only [Nat.reduceMul, Nat.reduceSub, Nat.reducePow, Int.reducePow, show min 56 64 = 56 from rfl, show min 48 64 = 48 from rfl, show min 40 64 = 40 from rfl, show min 32 64 = 32 from rfl, show min 24 64 = 24 from rfl, show min 16 64 = 16 from rfl, show min 8 64 = 8 from rfl, show min 0 64 = 0 from rfl, Int.cast_ofNat_Int] at hm ⊢
    split <;> omega
theorem sgn_range {k m : Nat} (hk : 1 ≤ k) (hk' : k ≤ 8) (hm : m < 256 ^ k) : -9223372036854775808 ≤ sgn k m ∧ sgn k m ≤ 9223372036854775807 := by
  unfold sgn
  obtain rfl | rfl | rfl | rfl | rfl | rfl | rfl | rfl : k = 1 ∨ k = 2 ∨ k = 3 ∨ k = 4 ∨ k = 5 ∨ k = 6 ∨ k = 7 ∨ k = 8 := by omega
  all_goals
    simp only [Nat.reduceMul, Nat.reduceSub, Nat.reducePow, Int.cast_ofNat_Int] at hm ⊢
    split <;> omega
def TellsV (w : World) (o : Option (V × Nat)) (r : Value) (w' : World) : Prop := ∃ v n, r = .tuple #[agW v, .int .i64 (n : Nat), .bool o.isSome] ∧ (∀ x, o = some x → x = (v, n)) ∧ Ext w w'
theorem take_snoc8 (l : List UInt8) (j : Nat) (h : j < l.length) : l.take (j + 1) = l.take j ++ [l.getD j 0] := by
  rw [List.take_add_one]; simp [List.getD, h]
theorem cutZ {A : Option Addr} {m sz : Nat} : cutAt A m 0 sz = A := by
  unfold cutAt
  split
  · rfl
  · cases A <;> simp [add_zero']
theorem itemB8 {Ω : Nat → Prop} {w : World} {A : Option Addr} {l : List UInt8} (h : Imm KB Ω w A l) {j : Nat} (h1 : j < l.length) :
    ∃ ad, A = some ad ∧ w.cell? (ad.add (j * 1)) = some (.int .u8 ((l.getD j 0).toNat : Int)) := by
  have hg : l[j]? = some (l.getD j 0) := by simp [List.getD, h1]
  obtain ⟨ad, hA, hn, cs, hr, hcell⟩ := h j _ hg
  have hr : cs = [u8 (l.getD j 0)] := hr
  subst hr
  exact ⟨ad, hA, hcell 0 _ rfl⟩
theorem got_spec {w : World} {A : Option Addr} {c n : Nat} {b : List UInt8} (hn : n = b.length) (h : Imm KB NoB w A b) (hl : b.length ≤ 1048576) (hc : b.length ≤ c) (k : Nat) (hk : k < 18446744073709551616) :
    CallsV Tryz.prog 127 #[.slice A n c, .int .u64 (k : Int)] w fun r w' => TellsV w (got b k) r w' := by
  subst hn
  refine record_got.calls okay ?_
  unfold record_got.W got
  intro g w1 f1
  have b1 := f1.blk
  have e1 := f1.ext
  have none' : ∀ (o : Option (V × Nat)), o = none → stOK (⟨g, 0, none⟩ : Addr) 0 [.int .u8 0, .int .i64 0, .string (ByteArray.mk #[])] w1 ∧ ∀ w2, w2 = setAll ⟨g, 0, none⟩ 0 [.int .u8 0, .int .i64 0, .string (ByteArray.mk #[])] w1 →
      ∃ x, w2.cell? ((⟨g, 0, none⟩ : Addr).add 0) = some (.int .u8 x) ∧ ∃ x_1, w2.cell? ((⟨g, 0, none⟩ : Addr).add (0 + 1)) = some (.int .i64 x_1) ∧ ∃ x_2, w2.cell? ((⟨g, 0, none⟩ : Addr).add (0 + 1 + 1)) = some (.string x_2) ∧ TellsV w o (.tuple #[.agg #[.int .u8 x, .int .i64 x_1, .string x_2], .int .i64 0, .bool false]) w2 := by
    rintro o rfl
    refine ⟨okW3 b1 _ _ _, ?_⟩
    rintro w2 rfl
    have b2 := setW3 b1 (.int .u8 0) (.int .i64 0) (.string (ByteArray.mk #[]))
    exact ⟨_, b2.cell rfl, _, b2.cell rfl, _, b2.cell rfl, ⟨0, 0, ByteArray.mk #[]⟩, 0, rfl, fun x hx => (by cases hx), e1.setAll f1.ge _ _⟩
  refine brd (fun h0 => ?_) (fun h0 => ?_)
  · rw [if_pos (by omega)]
    refine ⟨okW3 b1 _ _ _, ?_⟩
    rintro w2 rfl
    have b2 := setW3 b1 (.int .u8 0) (.int .i64 0) (.string (ByteArray.mk #[]))
    exact ⟨_, b2.cell rfl, _, b2.cell rfl, _, b2.cell rfl, ⟨0, 0, ByteArray.mk #[]⟩, 0, rfl, fun x hx => (by cases hx; rfl), e1.setAll f1.ge _ _⟩
  rw [if_neg (by omega)]
  have wl : IntKind.u64.wrap (b.length : Int) = (b.length : Int) := wu _ (by omega) (by omega)
  refine brd (fun h8 => ?_) (fun h8 => ?_)
  · rw [if_pos (by omega), wl]
    refine brd (fun hs => none' _ (by rw [if_pos (by omega)])) (fun hs => ?_)
    rw [if_neg (by omega)]
    refine ⟨⟨by omega, by omega⟩, ?_⟩
    simp only [Int.toNat_natCast, Nat.sub_zero, cutZ]
    refine ⟨fun x y u => ∃ j : Nat, j ≤ k ∧ y = (j : Int) ∧ x = (be (b.take j) : Int) ∧ u = w1, fun _ y _ => (k - y).toNat, ⟨0, by omega, rfl, rfl, rfl⟩, ?_⟩
    rintro _ _ u ⟨j, hj, rfl, rfl, rfl⟩
    have hbl := be_lt (b.take j)
    rw [List.length_take, Nat.min_eq_left (by omega)] at hbl
    refine brd (fun hlt => ?_) (fun hge => ?_)
    · obtain ⟨ad, hA, hcl⟩ := itemB8 (h.ext KB_pos e1) (j := j) (by omega)
      have h7 : 256 ^ j ≤ 256 ^ 7 := Nat.pow_le_pow_right (by decide) (by omega)
      have hb := (b.getD j 0).toNat_lt
      refine ⟨ad, hA, ⟨by omega, by omega⟩, _, by rw [Int.toNat_natCast]; exact hcl, by omega, ?_⟩
      rw [or_byte (Nat.lt_of_lt_of_le hbl h7) hb, wi _ (by omega) (by omega)]
      refine ⟨⟨j + 1, by omega, rfl, ?_, rfl⟩, by dsimp only; omega⟩
      rw [take_snoc8 _ _ (by omega), be_snoc]
    · obtain rfl : j = k := by omega
      have e8 : IntKind.i64.wrap (64 - IntKind.i64.wrap (8 * IntKind.i64.wrap (j : Int))) = ((64 - 8 * j : Nat) : Int) := by
        rw [wi (j : Int) (by omega) (by omega), wi (8 * (j : Int)) (by omega) (by omega), wi _ (by omega) (by omega)]; omega
      rw [sgn_shift (by omega) (by omega) hbl]
      obtain ⟨hr1, hr2⟩ := sgn_range (by omega) (show j ≤ 8 by omega) hbl
      generalize sgn j (be (b.take j)) = N at *
      refine ⟨by rw [e8]; omega, by rw [e8]; omega, ?_⟩
      intro g2 w2 f2
      refine ⟨okW3 f2.blk _ _ _, ?_⟩
      rintro w3 hw3
      have b3 := setW3 f2.blk (.int .u8 1) (.int .i64 N) (.string (ByteArray.mk #[]))
      have e3 : Ext u w3 := by rw [hw3]; exact f2.ext.setAll f2.ge _ _
      rw [← hw3] at b3
      have ed : Ext w3 w3.drew := Fr.drew NoB w3
      refine ⟨fun z => Blk z g2 [.int .u8 1, .int .i64 N, .string (ByteArray.mk #[])], b3.ext ed, _, fun z hz => hz.cell rfl, _, fun z hz => hz.cell rfl, _, fun z hz => hz.cell rfl, _, fun z hz => hz.cell rfl, ?_⟩
      refine (wide_spec _ N hr1 hr2).same ⟨_, rfl, b3.ext ed, ?_⟩
      have b1' := b1.ext (e3.trans' ed)
      refine ⟨okW3 b1' _ _ _, ?_⟩
      rintro w4 rfl
      have b4 := setW3 b1' (.int .u8 1) (.int .i64 N) (.string (ByteArray.mk #[]))
      have hj8 : IntKind.i64.wrap (j : Int) = (j : Int) := wi _ (by omega) (by omega)
      refine ⟨_, b4.cell rfl, _, b4.cell rfl, _, b4.cell rfl, ⟨1, N, ByteArray.mk #[]⟩, j, ?_, ?_, (e1.trans' (e3.trans' ed)).setAll f1.ge _ _⟩
      · rw [hj8]
        by_cases hw : wide N = j
        · rw [if_pos hw, hw]; simp [agW]
        · rw [if_neg hw, decide_eq_false (by omega)]; rfl
      · intro x hx
        split at hx
        · cases hx; rfl
        · cases hx
  rw [if_neg (by omega)]
  refine brd (fun h9 => none' _ (by rw [if_pos (by omega)])) (fun h9 => ?_)
  rw [if_neg (by omega)]
  have wk : IntKind.u64.wrap ((k : Int) - 10) = ((k - 10 : Nat) : Int) := by rw [wu _ (by omega) (by omega)]; omega
  have td : Int.tdiv ((k - 10 : Nat) : Int) 2 = (((k - 10) / 2 : Nat) : Int) := by rw [Int.tdiv_eq_ediv_of_nonneg (by omega)]; rfl
  have wt : IntKind.u64.wrap (((k - 10) / 2 : Nat) : Int) = (((k - 10) / 2 : Nat) : Int) := wu _ (by omega) (by omega)
  rw [wk, td, wt, wl]
  refine ⟨by decide, brd (fun hb => none' _ (by rw [if_pos (by omega)])) (fun hb => ?_)⟩
  rw [if_neg (by omega)]
  refine ⟨by decide, brd (fun hb => none' _ (by rw [if_pos (by omega)])) (fun hb2 => ?_)⟩
  rw [if_neg (by omega)]
  have wi2 : IntKind.i64.wrap ((k - 10 : Nat) : Int) = ((k - 10 : Nat) : Int) := wi _ (by omega) (by omega)
  have wi3 : IntKind.i64.wrap (((k - 10) / 2 : Nat) : Int) = (((k - 10) / 2 : Nat) : Int) := wi _ (by omega) (by omega)
  have tm : Int.tmod (k : Int) 2 = ((k % 2 : Nat) : Int) := by rw [Int.tmod_eq_emod_of_nonneg (by omega)]; rfl
  rw [wi2, td, wi3, tm]
  simp only [Int.toNat_natCast, Nat.sub_zero, cutZ]
  have hcut : Imm KB NoB w1 A (b.take ((k - 10) / 2)) := by
    have := (h.ext KB_pos e1).cut (lo := 0) (hi := (k - 10) / 2) (m := c) (by omega)
    rw [List.drop_zero] at this
    rwa [show cutAt A c 0 KB.size = A from cutZ] at this
  have hstr := to_str bt hcut c
  have hlen : (b.take ((k - 10) / 2)).length = (k - 10) / 2 := by rw [List.length_take]; omega
  rw [hlen] at hstr
  refine ⟨by decide, by decide, brd (fun h2 => ?_) (fun h2 => ?_)⟩
  all_goals
    refine ⟨⟨by omega, by omega⟩, _, _, hstr, okW3 b1 _ _ _, ?_⟩
    rintro w4 rfl
  · have b4 := setW3 b1 (.int .u8 2) (.int .i64 0) (.string ⟨(b.take ((k - 10) / 2)).toArray⟩)
    refine ⟨_, b4.cell rfl, _, b4.cell rfl, _, b4.cell rfl, ⟨2, 0, ⟨(b.take ((k - 10) / 2)).toArray⟩⟩, (k - 10) / 2, rfl, fun x hx => ?_, e1.setAll f1.ge _ _⟩
    rw [if_pos (by omega)] at hx; cases hx; rfl
  · have b4 := setW3 b1 (.int .u8 3) (.int .i64 0) (.string ⟨(b.take ((k - 10) / 2)).toArray⟩)
    refine ⟨_, b4.cell rfl, _, b4.cell rfl, _, b4.cell rfl, ⟨3, 0, ⟨(b.take ((k - 10) / 2)).toArray⟩⟩, (k - 10) / 2, rfl, fun x hx => ?_, e1.setAll f1.ge _ _⟩
    rw [if_neg (by omega)] at hx; cases hx; rfl
end Go.Proofs.YtaifphjenebgoaaGreatDoor
set_option linter.unusedVariables false
set_option linter.unusedSimpArgs false
namespace Go.Proofs.YtaifphjenebgoaaGreatDoor
open Go Go.Sx R1

theorem getU_ok {l : List UInt8} {at_ : Int} (h : (B1.getU l at_).2.2 = 0) : 0 ≤ at_ ∧ (B1.getU l at_).1 < 18446744073709551616 ∧ at_ < (B1.getU l at_).2.1 ∧ (B1.getU l at_).2.1 ≤ l.length := by
  unfold B1.getU at h ⊢
  by_cases hr : at_ < 0 ∨ (l.length : Int) < at_
  · rw [if_pos hr] at h; cases h
  · rw [if_neg hr] at h ⊢
    have hd := B1.dec_eq (l.drop at_.toNat) 0
    by_cases hs : B1.scan 0 (l.drop at_.toNat) < (l.drop at_.toNat).length
    · rw [if_pos hs] at hd
      by_cases hb : (0 < 0 + B1.scan 0 (l.drop at_.toNat) ∧ ((l.drop at_.toNat).getD (B1.scan 0 (l.drop at_.toNat)) 0).toNat = 0) ∨ (0 + B1.scan 0 (l.drop at_.toNat) = 9 ∧ 2 ≤ ((l.drop at_.toNat).getD (B1.scan 0 (l.drop at_.toNat)) 0).toNat)
      · rw [if_pos hb] at hd
        rw [hd] at h; cases h
      · rw [if_neg hb] at hd
        rw [hd]
        have hv := B1.vt_lt_u64 hs (fun h => hb (.inr ⟨by omega, h.2⟩))
        rw [List.length_drop] at hs
        simp only [B1.Dec.at]
        refine ⟨by omega, hv, by omega, by omega⟩
    · rw [if_neg hs] at hd
      rw [hd] at h; cases h
theorem got_le {b : List UInt8} {k : Nat} {v : V} {n : Nat} (h : got b k = some (v, n)) : n ≤ b.length := by
  unfold got at h
  split at h
  · cases h; omega
  · split at h
    · split at h
      · cases h
      · split at h
        · cases h; omega
        · cases h
    · split at h
      · cases h
      · split at h
        · cases h
        · split at h
          · cases h
          · cases h; omega
theorem slV : SlT Tryz.prog 23 54 3 32 [.int .u8 0, .int .i64 0, .string ByteArray.empty] := ⟨by kernel_rfl, ⟨Tryz.t54, by kernel_rfl, by kernel_rfl, by kernel_rfl, .agg #[.int .u8 0, .int .i64 0, .string ByteArray.empty], by kernel_rfl, by kernel_rfl⟩, rfl, by decide⟩
theorem slU : SlT Tryz.prog 140 106 1 8 [.int .u64 0] := ⟨by kernel_rfl, ⟨Tryz.t106, by kernel_rfl, by kernel_rfl, by kernel_rfl, .int .u64 0, by kernel_rfl, by kernel_rfl⟩, rfl, by decide⟩
abbrev KU : Kd Int := Kd.int .u64
theorem KU_pos : 0 < KU.size := by decide
def getR (b : List UInt8) : List V × Int := match getP b with | none => ([], 10) | some row => (row, 0)
def TellsR (w : World) (r : List V × Int) (v : Value) (w' : World) : Prop := ∃ A c, v = .tuple #[.slice A r.1.length c, .int .i64 r.2] ∧ OwnK KV w' A c r.1 ∧ Ext w w' ∧ New w A
theorem TellsR.nil {w w' : World} (e : Ext w w') (x : Int) : TellsR w ([], x) (.tuple #[.slice none 0 0, .int .i64 x]) w' := ⟨none, 0, rfl, OwnK.nil _ _, e, New.none _⟩
def natI (k : Nat) : Int := (k : Int)
theorem getN {l : List Nat} {i : Nat} (h : i < l.length) : (l.map natI)[i]? = some ((l.getD i 0 : Nat) : Int) := by simp [List.getD, h, natI]
theorem dropN (l : List Nat) (i : Nat) (h : i < l.length) : l.drop i = l.getD i 0 :: l.drop (i + 1) := by rw [List.drop_eq_getElem_cons h]; simp [List.getD, h]
theorem Get_spec {w : World} {A : Option Addr} {c n : Nat} {b : List UInt8} (hn : n = b.length) (h : Imm KB NoB w A b) (hl : b.length ≤ 140737488355328) (hc : b.length ≤ c) :
    CallsV Tryz.prog 71 #[.slice A n c] w fun r w' => TellsR w (getR b) r w' := by
  subst hn
  refine record_Get.calls okay ?_
  unfold record_Get.W
  have bad : ∀ {w'}, getP b = none → Ext w w' → TellsR w (getR b) (.tuple #[.slice none 0 0, .int .i64 10]) w' := by
    intro w' hp e
    unfold getR; rw [hp]; exact TellsR.nil e 10
  refine (GetUint_spec h hl 0).mono ?_
  rintro _ w1 ⟨rfl, e1⟩
  refine ⟨_, _, _, rfl, ?_⟩
  refine brn (fun he => bad (by unfold getP; rw [if_pos (.inl he)]) e1) (fun he => brd (fun h2 => bad (by unfold getP; rw [if_pos (.inr (.inl (by omega)))]) e1) (fun h2 => brd (fun h3 => bad (by unfold getP; rw [if_pos (.inr (.inr (by omega)))]) e1) (fun h3 => ?_)))
  obtain ⟨_, hm0, ha0, hb0⟩ := getU_ok he
  have hP : getP b = match sortsP b (B1.getU b 0).1 (B1.getU b 0).2.1 with
    | none => none
    | some (ks, at_) => match rowsP b ks at_.toNat with
      | none => none
      | some (row, e) => if e < b.length then none else some row := by
    unfold getP; rw [if_neg (by rintro (h | h | h) <;> omega)] <;> rfl
  generalize (B1.getU b 0).2.1 = at0 at *
  generalize (B1.getU b 0).1 = N at *
  have hN : N ≤ 200 := by omega
  have hbl : b.length ≤ 1048576 := by omega
  refine ⟨fun x x4 x5 x6 y u => ∃ (i : Nat) (dn : List Nat), i ≤ N ∧ y = (i : Int) ∧ dn.length = i ∧ x5 = (dn.map natI).length ∧ (∀ k ∈ dn, k < 18446744073709551616) ∧ 0 ≤ x ∧ x ≤ b.length ∧ sortsP b N at0 = (sortsP b (N - i) x).map (fun r => (dn ++ r.1, r.2)) ∧ OwnK KU u x4 x6 (dn.map natI) ∧ Ext w u ∧ New w x4,
    fun _ _ _ _ y _ => (N - y).toNat, ⟨0, [], by omega, rfl, rfl, rfl, fun _ h => (by cases h), by omega, by omega, by cases hh : sortsP b N at0 <;> simp [hh], OwnK.nil _ _, e1, New.none _⟩, ?_⟩
  rintro x x4 _ x6 _ u ⟨i, dn, hi, rfl, hdl, rfl, hdn, hx0, hxl, hso, ho, eu, nu⟩
  refine brd (fun hlt => ?_) (fun hge => ?_)
  · refine (GetUint_spec (h.ext KB_pos eu) hl x).mono ?_
    rintro _ u1 ⟨rfl, a1⟩
    have e1' := eu.trans' a1
    refine ⟨_, _, _, rfl, ?_⟩
    have hst : sortsP b (N - i) x = if (B1.getU b x).2.2 ≠ 0 then none else (sortsP b (N - (i + 1)) (B1.getU b x).2.1).map fun r => ((B1.getU b x).1 :: r.1, r.2) := by
      rw [show N - i = (N - (i + 1)) + 1 by omega, sortsP]
    refine brn (fun hne => bad (by rw [hP, hso, hst, if_pos hne]; rfl) e1') (fun heq => ?_)
    rw [if_neg (by simpa using heq)] at hst
    obtain ⟨_, g1, g2, g3⟩ := getU_ok heq
    generalize (B1.getU b x).1 = k at *
    generalize (B1.getU b x).2.1 = nx at *
    intro gn u2 f2
    obtain ⟨rfl, rfl⟩ := f2
    have hlen : (dn.map natI).length = i := by rw [List.length_map]; exact hdl
    obtain ⟨y, y2, u3, hr3, ho3, g3'⟩ := (ho.ext a1).push slU (ty := 140) (K := KU) (a := (k : Int)) (cs := [.int .u64 (k : Int)]) (e' := 106) rfl (by simp [Value.oneCell']) (by simp only [maxLen]; omega) (by omega)
    have hsn : (dn ++ [k]).map natI = dn.map natI ++ [(k : Int)] := by simp [natI]
    rw [← hsn] at hr3 ho3
    refine ⟨_, _, _, _, hr3, ?_⟩
    rw [wu _ (by omega) (by omega)]
    refine ⟨⟨i + 1, dn ++ [k], by omega, rfl, by simp [hdl], rfl, fun q hq => ?_, by omega, by omega, ?_, ho3, g3'.ext e1' nu, g3'.new e1' nu⟩, by dsimp only; omega⟩
    · rcases List.mem_append.1 hq with hq | hq
      · exact hdn q hq
      · rw [List.mem_singleton.1 hq]; exact g1
    · rw [hso, hst]
      cases sortsP b (N - (i + 1)) nx <;> simp
  · obtain rfl : i = N := by omega
    rw [Nat.sub_self] at hso
    have hso' : sortsP b i at0 = some (dn, x) := by rw [hso]; simp [sortsP]
    rw [hso'] at hP
    dsimp only at hP
    have iK := ho.imm KU_pos
    refine ⟨fun y x8 x9 x10 q v => ∃ (j at_ : Nat) (row : List V), j ≤ dn.length ∧ q = (j : Int) ∧ y = (at_ : Int) ∧ at_ ≤ b.length ∧ x9 = row.length ∧ row.length = j ∧ rowsP b dn x.toNat = (rowsP b (dn.drop j) at_).map (fun r => (row ++ r.1, r.2)) ∧ OwnK KV v x8 x10 row ∧ Ext u v ∧ New u x8,
      fun _ _ _ _ q _ => (dn.length - q).toNat, ⟨0, x.toNat, [], by omega, rfl, by omega, by omega, rfl, rfl, by cases hh : rowsP b dn x.toNat <;> simp [hh], OwnK.nil _ _, .refl _ _, New.none _⟩, ?_⟩
    rintro _ x8 _ x10 _ v ⟨j, at_, row, hj, rfl, rfl, hat, rfl, hrl, hro, hoR, ev, nv⟩
    have ewv := eu.trans' ev
    refine brd (fun hlt => ?_) (fun hge => ?_)
    · have hjl : j < dn.length := by simp at hlt; omega
      obtain ⟨ad, hA, hno, cs, hr, hcl⟩ := iK j _ (getN hjl)
      have hr : cs = [.int .u64 ((dn.getD j 0 : Nat) : Int)] := hr
      subst hr
      have hcell := ev.cell (fun h => h) (hcl 0 _ rfl)
      have hkk : dn.getD j 0 < 18446744073709551616 := hdn _ (by simp [List.getD, hjl])
      have hdrop := dropN dn j hjl
      rw [hdrop] at hro
      generalize dn.getD j 0 = k at *
      simp only [Int.toNat_natCast]
      have hcut : Imm KB NoB v (cutAt A c at_ 1) (b.drop at_) := by
        have := (h.ext KB_pos ewv).cut (lo := at_) (hi := b.length) (m := c) hc
        rwa [List.take_length] at this
      refine ⟨ad, hA, ⟨by omega, by omega⟩, _, hcell, ⟨by omega, by omega⟩, ?_⟩
      refine (got_spec (by rw [List.length_drop]) hcut (by rw [List.length_drop]; omega) (by rw [List.length_drop]; omega) k hkk).mono ?_
      rintro _ v1 ⟨val, nn, rfl, hval, a1⟩
      refine ⟨_, _, _, _, _, rfl, ?_⟩
      intro g v2 f2
      refine ⟨okW3 f2.blk _ _ _, ?_⟩
      intro v3 hv3
      have b3 := setW3 f2.blk (.int .u8 val.k) (.int .i64 val.n) (.string val.s)
      have e3 : Ext v1 v3 := by rw [hv3]; exact f2.ext.setAll f2.ge _ _
      rw [← hv3] at b3
      have ev3 := ev.trans' (a1.trans' e3)
      cases hgot : got (b.drop at_) k with
      | none =>
        refine brnb (fun _ => bad ?_ (eu.trans' ev3)) (fun h => by cases h)
        rw [hP, hro, rowsP, hgot]; rfl
      | some pr =>
        obtain ⟨val', n'⟩ := pr
        have := hval _ hgot
        cases this
        have hle := got_le hgot
        rw [List.length_drop] at hle
        refine brnb (fun h => by cases h) (fun _ => ⟨_, b3.cell rfl, _, b3.cell rfl, _, b3.cell rfl, ?_⟩)
        intro g4 v4 f4
        obtain ⟨rfl, rfl⟩ := f4
        obtain ⟨y, y2, v5, hr5, ho5, g5⟩ := (hoR.ext (a1.trans' e3)).push slV (ty := 23) (K := KV) (a := val) (cs := vc val) (e' := 54) rfl (KV_one (fun _ => False) v3 val (vc val) rfl) (by simp only [maxLen]; omega) (by omega)
        refine ⟨_, _, _, _, hr5, ?_⟩
        rw [wi _ (by omega) (by omega), wi _ (by omega) (by omega)]
        refine ⟨⟨j + 1, at_ + nn, row ++ [val], by omega, rfl, by omega, by omega, rfl, by simp [hrl], ?_, ho5, g5.ext ev3 nv, g5.new ev3 nv⟩, by omega⟩
        rw [hro, rowsP, hgot]
        dsimp only
        cases rowsP b (dn.drop (j + 1)) (at_ + nn) <;> simp
    · have hjl : j = dn.length := by simp at hge; omega
      subst hjl
      rw [List.drop_length] at hro
      have hro' : rowsP b dn x.toNat = some (row, at_) := by rw [hro]; simp [rowsP]
      rw [hro'] at hP
      dsimp only at hP
      refine brd (fun hlt => bad (by rw [hP, if_pos (by omega)]) ewv) (fun hge2 => ?_)
      unfold getR
      rw [hP, if_neg (by omega)]
      exact ⟨x8, x10, rfl, hoR, ewv, nv.ext eu⟩
end Go.Proofs.YtaifphjenebgoaaGreatDoor
set_option linter.unusedVariables false
set_option maxRecDepth 100000
namespace Go.Proofs.YtaifphjenebgoaaGreatDoor
open Go Go.Sx
noncomputable def code_Show.W : Int → Int → Int → Int → Int → World → (Value → World → Prop) → Prop := fun (i0 i1 i2 i3 i4 : Int) (w : World) (K : Value → World → Prop) => ∀ (g : Nat) (w' : World),
 Fresh w g w' [Value.int IntKind.u8 i0, Value.int IntKind.i64 i1, Value.int IntKind.i64 i2, Value.int IntKind.i64 i3, Value.int IntKind.i64 i4] 46 → ∃ (x : Int), World.cell? w' (Addr.add (Addr.mk g 0
 none) 0) = some (Value.int IntKind.u8 x) ∧ CallsV Tryz.prog 23 #[Value.int IntKind.u8 x] w' fun (v : Value) (w' : World) => ∃ (x : ByteArray), v = Value.string x ∧ ∃ (J : ByteArray →
 World → Prop), (∀ (x : ByteArray) (w : World), J x w → ∃ (x_1 : Int), World.cell? w (Addr.add (Addr.mk g 0 none) 1) = some (Value.int IntKind.i64 x_1) ∧ ∃ (x_2 : Int), World.cell? w
 (Addr.add (Addr.mk g 0 none) 2) = some (Value.int IntKind.i64 x_2) ∧ ∃ (x_3 : Int), World.cell? w (Addr.add (Addr.mk g 0 none) 3) = some (Value.int IntKind.i64 x_3) ∧ ∃ (x_4
 : Int), World.cell? w (Addr.add (Addr.mk g 0 none) 4) = some (Value.int IntKind.i64 x_4) ∧ ∃ (I : ByteArray → Int → World → Prop) (μ : ByteArray → Int → World → Nat), I x (0 : Int) w ∧ ∀
 (x : ByteArray) (x_5 : Int) (w : World), I x x_5 w → bif decide (x_5 < (4 : Int)) then ((0 : Int) ≤ x_5 ∧ x_5 < (↑4 : Int)) ∧ bif decide (x_5 = (↑0 : Int)) then CallsV Tryz.prog 61
 #[Value.int IntKind.i64 x_1] w fun (v : Value) (w' : World) => ∃ (x_6 : ByteArray), v = Value.string x_6 ∧ ByteArray.size (ByteArray.mk #[(32 : UInt8)]) + ByteArray.size x_6 ≤ 9223372036854775807 ∧
 ByteArray.size x + ByteArray.size (ByteArray.mk #[(32 : UInt8)] ++ x_6) ≤ 9223372036854775807 ∧ I (x ++ (ByteArray.mk #[(32 : UInt8)] ++ x_6)) (IntKind.wrap IntKind.i64 (x_5 + (1 : Int))) w' ∧ μ (x ++
 (ByteArray.mk #[(32 : UInt8)] ++ x_6)) (IntKind.wrap IntKind.i64 (x_5 + (1 : Int))) w' < μ x x_5 w else bif decide (x_5 = (↑1 : Int)) then CallsV Tryz.prog 61 #[Value.int IntKind.i64 x_2] w
 fun (v : Value) (w' : World) => ∃ (x_6 : ByteArray), v = Value.string x_6 ∧ ByteArray.size (ByteArray.mk #[(32 : UInt8)]) + ByteArray.size x_6 ≤ 9223372036854775807 ∧ ByteArray.size x + ByteArray.size
 (ByteArray.mk #[(32 : UInt8)] ++ x_6) ≤ 9223372036854775807 ∧ I (x ++ (ByteArray.mk #[(32 : UInt8)] ++ x_6)) (IntKind.wrap IntKind.i64 (x_5 + (1 : Int))) w' ∧ μ (x ++ (ByteArray.mk #[(32 : UInt8)] ++
 x_6)) (IntKind.wrap IntKind.i64 (x_5 + (1 : Int))) w' < μ x x_5 w else bif decide (x_5 = (↑2 : Int)) then CallsV Tryz.prog 61 #[Value.int IntKind.i64 x_3] w fun (v : Value) (w' : World) => ∃
 (x_6 : ByteArray), v = Value.string x_6 ∧ ByteArray.size (ByteArray.mk #[(32 : UInt8)]) + ByteArray.size x_6 ≤ 9223372036854775807 ∧ ByteArray.size x + ByteArray.size (ByteArray.mk #[(32 : UInt8)] ++
 x_6) ≤ 9223372036854775807 ∧ I (x ++ (ByteArray.mk #[(32 : UInt8)] ++ x_6)) (IntKind.wrap IntKind.i64 (x_5 + (1 : Int))) w' ∧ μ (x ++ (ByteArray.mk #[(32 : UInt8)] ++ x_6)) (IntKind.wrap IntKind.i64
 (x_5 + (1 : Int))) w' < μ x x_5 w else bif decide (x_5 = (↑3 : Int)) then CallsV Tryz.prog 61 #[Value.int IntKind.i64 x_4] w fun (v : Value) (w' : World) => ∃ (x_6 : ByteArray), v =
 Value.string x_6 ∧ ByteArray.size (ByteArray.mk #[(32 : UInt8)]) + ByteArray.size x_6 ≤ 9223372036854775807 ∧ ByteArray.size x + ByteArray.size (ByteArray.mk #[(32 : UInt8)] ++ x_6) ≤
 9223372036854775807 ∧ I (x ++ (ByteArray.mk #[(32 : UInt8)] ++ x_6)) (IntKind.wrap IntKind.i64 (x_5 + (1 : Int))) w' ∧ μ (x ++ (ByteArray.mk #[(32 : UInt8)] ++ x_6)) (IntKind.wrap IntKind.i64 (x_5 + (1
 : Int))) w' < μ x x_5 w else False else K (Value.string x) w) ∧ bif ByteArray.toList x == ByteArray.toList (ByteArray.mk #[]) then ∃ (x : Int), World.cell? w' (Addr.add (Addr.mk g 0 none) 0) =
 some (Value.int IntKind.u8 x) ∧ CallsV Tryz.prog 61 #[Value.int IntKind.i64 (IntKind.wrap IntKind.i64 x)] w' fun (v : Value) (w' : World) => ∃ (x : ByteArray), v = Value.string x ∧
 ByteArray.size (ByteArray.mk #[(111 : UInt8), (112 : UInt8)]) + ByteArray.size x ≤ 9223372036854775807 ∧ J (ByteArray.mk #[(111 : UInt8), (112 : UInt8)] ++ x) w' else J x w'
theorem code_Show.calls (ok : Okay Tryz.prog) {i0 : Int} {i1 : Int} {i2 : Int} {i3 : Int} {i4 : Int} {w : World} {K : Value → World → Prop} (h : code_Show.W i0 i1 i2 i3 i4 w K) : CallsV Tryz.prog 21 #[.agg #[.int .u8 i0, .int .i64 i1, .int .i64 i2, .int .i64 i3, .int .i64 i4]] w K :=
  fnW_calls ok Tryz.func21 (an := (.named (.seq .auto (.seq .auto (.join [(3, .one .str)] .auto (.seq (.seq .auto (.block (.loop [(3, .one .str), (25, .one (.int .i64))] .auto))) .auto)))))) (args := [.agg #[.int .u8 i0, .int .i64 i1, .int .i64 i2, .int .i64 i3, .int .i64 i4]]) (Eq.mp (by kernel_rfl) h)
noncomputable def code_Word.W : Int → World → (Value → World → Prop) → Prop := fun (o : Int) (w : World) (K : Value → World → Prop) => CallsV Tryz.prog 56 #[Value.string (ByteArray.mk #[(99 : UInt8),
 (111 : UInt8), (110 : UInt8), (115 : UInt8), (116 : UInt8), (32 : UInt8), (98 : UInt8), (105 : UInt8), (110 : UInt8), (100 : UInt8), (32 : UInt8), (109 : UInt8), (111 : UInt8), (118 : UInt8), (101 :
 UInt8), (32 : UInt8), (116 : UInt8), (119 : UInt8), (111 : UInt8), (32 : UInt8), (111 : UInt8), (110 : UInt8), (101 : UInt8), (32 : UInt8), (105 : UInt8), (115 : UInt8), (32 : UInt8), (99 : UInt8), (97
 : UInt8), (115 : UInt8), (116 : UInt8), (32 : UInt8), (99 : UInt8), (97 : UInt8), (108 : UInt8), (108 : UInt8), (32 : UInt8), (109 : UInt8), (117 : UInt8), (115 : UInt8), (116 : UInt8), (32 : UInt8),
 (106 : UInt8), (117 : UInt8), (109 : UInt8), (112 : UInt8), (32 : UInt8), (105 : UInt8), (102 : UInt8), (32 : UInt8), (100 : UInt8), (105 : UInt8), (102 : UInt8), (102 : UInt8), (101 : UInt8), (114 :
 UInt8), (32 : UInt8), (102 : UInt8), (105 : UInt8), (114 : UInt8), (115 : UInt8), (116 : UInt8), (32 : UInt8), (115 : UInt8), (101 : UInt8), (101 : UInt8), (107 : UInt8), (32 : UInt8), (110 : UInt8),
 (101 : UInt8), (120 : UInt8), (116 : UInt8), (32 : UInt8), (112 : UInt8), (97 : UInt8), (115 : UInt8), (116 : UInt8), (32 : UInt8), (102 : UInt8), (105 : UInt8), (110 : UInt8), (100 : UInt8), (32 :
 UInt8), (99 : UInt8), (111 : UInt8), (108 : UInt8), (32 : UInt8), (114 : UInt8), (111 : UInt8), (119 : UInt8), (105 : UInt8), (100 : UInt8), (32 : UInt8), (97 : UInt8), (100 : UInt8), (100 : UInt8),
 (32 : UInt8), (115 : UInt8), (111 : UInt8), (114 : UInt8), (116 : UInt8), (101 : UInt8), (100 : UInt8), (32 : UInt8), (97 : UInt8), (102 : UInt8), (116 : UInt8), (101 : UInt8), (114 : UInt8), (32 :
 UInt8), (116 : UInt8), (97 : UInt8), (107 : UInt8), (101 : UInt8), (32 : UInt8), (99 : UInt8), (108 : UInt8), (101 : UInt8), (97 : UInt8), (114 : UInt8), (32 : UInt8), (115 : UInt8), (116 : UInt8),
 (101 : UInt8), (112 : UInt8), (32 : UInt8), (116 : UInt8), (111 : UInt8), (116 : UInt8), (97 : UInt8), (108 : UInt8), (32 : UInt8), (114 : UInt8), (111 : UInt8), (119 : UInt8), (32 : UInt8), (110 :
 UInt8), (101 : UInt8), (119 : UInt8), (105 : UInt8), (100 : UInt8), (32 : UInt8), (105 : UInt8), (110 : UInt8), (115 : UInt8), (101 : UInt8), (114 : UInt8), (116 : UInt8), (32 : UInt8), (100 : UInt8),
 (101 : UInt8), (108 : UInt8), (101 : UInt8), (116 : UInt8), (101 : UInt8), (32 : UInt8), (100 : UInt8), (101 : UInt8), (102 : UInt8), (105 : UInt8), (110 : UInt8), (101 : UInt8), (32 : UInt8), (98 :
 UInt8), (101 : UInt8), (103 : UInt8), (105 : UInt8), (110 : UInt8), (32 : UInt8), (99 : UInt8), (111 : UInt8), (109 : UInt8), (109 : UInt8), (105 : UInt8), (116 : UInt8), (32 : UInt8), (98 : UInt8),
 (97 : UInt8), (99 : UInt8), (107 : UInt8), (32 : UInt8), (104 : UInt8), (97 : UInt8), (108 : UInt8), (116 : UInt8)]), Value.int IntKind.i64 (IntKind.wrap IntKind.i64 (IntKind.wrap IntKind.i64 o - (1 :
 Int)))] w fun (v : Value) (w' : World) => ∃ (x : ByteArray) (x_1 : Bool), v = Value.tuple #[Value.string x, Value.bool x_1] ∧ K (Value.string x) w'
theorem code_Word.calls (ok : Okay Tryz.prog) {o : Int} {w : World} {K : Value → World → Prop} (h : code_Word.W o w K) : CallsV Tryz.prog 23 #[.int .u8 o] w K :=
  fnW_calls ok Tryz.func23 (an := (.named .auto)) (args := [.int .u8 o]) (Eq.mp (by kernel_rfl) h)
noncomputable def cardindexlaw15_Great.W : Int → Int → Int → Option Addr → Nat → Nat → Option Addr → Nat → Nat → Option Addr → Nat → Nat → Option Addr → Nat → Nat → Option Addr → Nat → Nat → Option
 Addr → Nat → Nat → World → (Value → World → Prop) → Prop := fun (p0 p1 p2 : Int) (p3_A : Option Addr) (p3_n p3_c : Nat) (p4_A : Option Addr) (p4_n p4_c : Nat) (p5_A : Option Addr) (p5_n p5_c : Nat)
 (p6_A : Option Addr) (p6_n p6_c : Nat) (p7_A : Option Addr) (p7_n p7_c : Nat) (p8_A : Option Addr) (p8_n p8_c : Nat) (w : World) (K : Value → World → Prop) => ∀ (g : Nat) (w' : World), Fresh w g w'
 [Value.int IntKind.i64 p0, Value.int IntKind.i64 p1, Value.int IntKind.i64 p2, Value.slice p3_A p3_n p3_c, Value.slice p4_A p4_n p4_c, Value.slice p5_A p5_n p5_c, Value.slice p6_A p6_n p6_c,
 Value.slice p7_A p7_n p7_c, Value.slice p8_A p8_n p8_c] 29 → ∃ (x : Option Addr) (x_1 x_2 : Nat), World.cell? w' (Addr.add (Addr.mk g 0 none) 8) = some (Value.slice x x_1 x_2) ∧ bif
 decide ((5000 : Int) < (↑x_1 : Int)) then K (Value.bool true) w' else ∃ (x : Option Addr) (x_3 x_4 : Nat), World.cell? w' (Addr.add (Addr.mk g 0 none) 3) = some
 (Value.slice x x_3 x_4) ∧ ∃ (x : Option Addr) (x_5 x_6 : Nat), World.cell? w' (Addr.add (Addr.mk g 0 none) 5) = some (Value.slice x x_5 x_6) ∧ ∃ (x : Option Addr) (x_7 x_8 : Nat),
 World.cell? w' (Addr.add (Addr.mk g 0 none) 6) = some (Value.slice x x_7 x_8) ∧ ∃ (x : Option Addr) (x_9 x_10 : Nat), World.cell? w' (Addr.add (Addr.mk g 0 none) 7) = some
 (Value.slice x x_9 x_10) ∧ bif decide ((1100 : Int) < IntKind.wrap IntKind.i64 (IntKind.wrap IntKind.i64 (IntKind.wrap IntKind.i64 ((↑x_3 : Int) + (↑x_5 : Int)) + (↑x_7 : Int)) + (↑x_9 :
 Int))) then K (Value.bool true) w' else ∃ (x : Option Addr) (x_11 x_12 : Nat), World.cell? w' (Addr.add (Addr.mk g 0 none) 4) = some (Value.slice x x_11 x_12) ∧ bif decide
 ((1100 : Int) < (↑x_11 : Int)) then K (Value.bool true) w' else ∃ (x : Option Addr) (x_13 x_14 : Nat), World.cell? w' (Addr.add (Addr.mk g 0 none) 3) = some (Value.slice x x_13 x_14)
 ∧ ∃ (I : Int → Int → World → Prop) (μ : Int → Int → World → Nat), I (0 : Int) (0 : Int) w' ∧ ∀ (x x_15 : Int) (w : World), I x x_15 w → bif decide (x_15 < (↑x_13 : Int)) then ∃ (x_16 : Option
 Addr) (x_17 x_18 : Nat), World.cell? w (Addr.add (Addr.mk g 0 none) 3) = some (Value.slice x_16 x_17 x_18) ∧ ∃ (ad : Addr), x_16 = some ad ∧ ((0 : Int) ≤ x_15 ∧ x_15 < (↑x_17 :
 Int)) ∧ ∃ (x_19 : ByteArray), World.cell? w (Addr.add ad (Int.toNat x_15 * 1)) = some (Value.string x_19) ∧ I (IntKind.wrap IntKind.i64 (x + (↑(ByteArray.size x_19) : Int))) (IntKind.wrap
 IntKind.i64 (x_15 + (1 : Int))) w ∧ μ (IntKind.wrap IntKind.i64 (x + (↑(ByteArray.size x_19) : Int))) (IntKind.wrap IntKind.i64 (x_15 + (1 : Int))) w < μ x x_15 w else ∃ (x_16 : Option Addr) (x_17 x_18
 : Nat), World.cell? w (Addr.add (Addr.mk g 0 none) 4) = some (Value.slice x_16 x_17 x_18) ∧ ∃ (I : Int → Int → World → Prop) (μ : Int → Int → World → Nat), I x (0 : Int) w ∧ ∀ (x x_19 :
 Int) (w : World), I x x_19 w → bif decide (x_19 < (↑x_17 : Int)) then ∃ (x_20 : Option Addr) (x_21 x_22 : Nat), World.cell? w (Addr.add (Addr.mk g 0 none) 4) = some (Value.slice
 x_20 x_21 x_22) ∧ ∃ (ad : Addr), x_20 = some ad ∧ ((0 : Int) ≤ x_19 ∧ x_19 < (↑x_21 : Int)) ∧ ∃ (x_23 : ByteArray), World.cell? w (Addr.add (Addr.add ad (Int.toNat x_19 * 3)) 2) = some
 (Value.string x_23) ∧ I (IntKind.wrap IntKind.i64 (x + (↑(ByteArray.size x_23) : Int))) (IntKind.wrap IntKind.i64 (x_19 + (1 : Int))) w ∧ μ (IntKind.wrap IntKind.i64 (x + (↑(ByteArray.size x_23) :
 Int))) (IntKind.wrap IntKind.i64 (x_19 + (1 : Int))) w < μ x x_19 w else ∃ (x_20 : Option Addr) (x_21 x_22 : Nat), World.cell? w (Addr.add (Addr.mk g 0 none) 5) = some (Value.slice x_20
 x_21 x_22) ∧ ∃ (I : Int → Int → World → Prop) (μ : Int → Int → World → Nat), I x (0 : Int) w ∧ ∀ (x x_23 : Int) (w : World), I x x_23 w → bif decide (x_23 < (↑x_21 : Int)) then ∃ (x_24 :
 Option Addr) (x_25 x_26 : Nat), World.cell? w (Addr.add (Addr.mk g 0 none) 5) = some (Value.slice x_24 x_25 x_26) ∧ ∃ (ad : Addr), x_24 = some ad ∧ ((0 : Int) ≤ x_23 ∧ x_23 <
 (↑x_25 : Int)) ∧ ∃ (x_27 : ByteArray), World.cell? w (Addr.add (Addr.add ad (Int.toNat x_23 * 3)) 0) = some (Value.string x_27) ∧ I (IntKind.wrap IntKind.i64 (x + (↑(ByteArray.size x_27) :
 Int))) (IntKind.wrap IntKind.i64 (x_23 + (1 : Int))) w ∧ μ (IntKind.wrap IntKind.i64 (x + (↑(ByteArray.size x_27) : Int))) (IntKind.wrap IntKind.i64 (x_23 + (1 : Int))) w < μ x x_23 w else ∃ (x_24 :
 Option Addr) (x_25 x_26 : Nat), World.cell? w (Addr.add (Addr.mk g 0 none) 6) = some (Value.slice x_24 x_25 x_26) ∧ ∃ (I : Int → Int → World → Prop) (μ : Int → Int → World → Nat), I x (0
 : Int) w ∧ ∀ (x x_27 : Int) (w : World), I x x_27 w → bif decide (x_27 < (↑x_25 : Int)) then ∃ (x_28 : Option Addr) (x_29 x_30 : Nat), World.cell? w (Addr.add (Addr.mk g 0 none) 6) =
 some (Value.slice x_28 x_29 x_30) ∧ ∃ (ad : Addr), x_28 = some ad ∧ ((0 : Int) ≤ x_27 ∧ x_27 < (↑x_29 : Int)) ∧ ∃ (x_31 : Option Addr) (x_32 x_33 : Nat), World.cell? w (Addr.add (Addr.add
 ad (Int.toNat x_27 * 3)) 0) = some (Value.slice x_31 x_32 x_33) ∧ I (IntKind.wrap IntKind.i64 (x + (↑x_32 : Int))) (IntKind.wrap IntKind.i64 (x_27 + (1 : Int))) w ∧ μ (IntKind.wrap IntKind.i64
 (x + (↑x_32 : Int))) (IntKind.wrap IntKind.i64 (x_27 + (1 : Int))) w < μ x x_27 w else ∃ (x_28 : Option Addr) (x_29 x_30 : Nat), World.cell? w (Addr.add (Addr.mk g 0 none) 7) = some
 (Value.slice x_28 x_29 x_30) ∧ ∃ (I : Int → Int → World → Prop) (μ : Int → Int → World → Nat), I x (0 : Int) w ∧ ∀ (x x_31 : Int) (w : World), I x x_31 w → bif decide (x_31 < (↑x_29 : Int))
 then ∃ (x_32 : Option Addr) (x_33 x_34 : Nat), World.cell? w (Addr.add (Addr.mk g 0 none) 7) = some (Value.slice x_32 x_33 x_34) ∧ ∃ (ad : Addr), x_32 = some ad ∧ ((0 : Int) ≤ x_31
 ∧ x_31 < (↑x_33 : Int)) ∧ ∃ (x_35 : ByteArray), World.cell? w (Addr.add (Addr.add ad (Int.toNat x_31 * 2)) 0) = some (Value.string x_35) ∧ I (IntKind.wrap IntKind.i64 (x + (↑(ByteArray.size
 x_35) : Int))) (IntKind.wrap IntKind.i64 (x_31 + (1 : Int))) w ∧ μ (IntKind.wrap IntKind.i64 (x + (↑(ByteArray.size x_35) : Int))) (IntKind.wrap IntKind.i64 (x_31 + (1 : Int))) w < μ x x_31 w else K
 (Value.bool (decide ((70000 : Int) < x))) w
theorem cardindexlaw15_Great.calls (ok : Okay Tryz.prog) {p0 : Int} {p1 : Int} {p2 : Int} {p3_A : Option Addr} {p3_n : Nat} {p3_c : Nat} {p4_A : Option Addr} {p4_n : Nat} {p4_c : Nat} {p5_A : Option Addr} {p5_n : Nat} {p5_c : Nat} {p6_A : Option Addr} {p6_n : Nat} {p6_c : Nat} {p7_A : Option Addr} {p7_n : Nat} {p7_c : Nat} {p8_A : Option Addr} {p8_n : Nat} {p8_c : Nat} {w : World} {K : Value → World → Prop} (h : cardindexlaw15_Great.W p0 p1 p2 p3_A p3_n p3_c p4_A p4_n p4_c p5_A p5_n p5_c p6_A p6_n p6_c p7_A p7_n p7_c p8_A p8_n p8_c w K) : CallsV Tryz.prog 6 #[.agg #[.int .i64 p0, .int .i64 p1, .int .i64 p2, .slice p3_A p3_n p3_c, .slice p4_A p4_n p4_c, .slice p5_A p5_n p5_c, .slice p6_A p6_n p6_c, .slice p7_A p7_n p7_c, .slice p8_A p8_n p8_c]] w K :=
  fnW_calls ok Tryz.func6 (an := (.named (.seq .auto (.seq .auto (.seq .auto (.seq (.seq .auto (.block (.loop [(3, .one (.int .i64)), (40, .one (.int .i64))] .auto))) (.seq (.seq .auto (.block (.loop [(3, .one (.int .i64)), (55, .one (.int .i64))] .auto))) (.seq (.seq .auto (.block (.loop [(3, .one (.int .i64)), (71, .one (.int .i64))] .auto))) (.seq (.seq .auto (.block (.loop [(3, .one (.int .i64)), (87, .one (.int .i64))] .auto))) (.seq (.seq .auto (.block (.loop [(3, .one (.int .i64)), (103, .one (.int .i64))] .auto))) .auto)))))))))) (args := [.agg #[.int .i64 p0, .int .i64 p1, .int .i64 p2, .slice p3_A p3_n p3_c, .slice p4_A p4_n p4_c, .slice p5_A p5_n p5_c, .slice p6_A p6_n p6_c, .slice p7_A p7_n p7_c, .slice p8_A p8_n p8_c]]) (Eq.mp (by kernel_rfl) h)
noncomputable def cardindexlaw15_awake.W : World → (Value → World → Prop) → Prop := fun (w : World) (K : Value → World → Prop) => ∀ (g : Nat) (w' : World), Fresh w g w' [Value.int IntKind.u8 (35 :
 Int), Value.int IntKind.i64 (0 : Int), Value.int IntKind.i64 (0 : Int), Value.int IntKind.i64 (0 : Int), Value.int IntKind.i64 (0 : Int)] 46 → ∀ (g_1 : Nat) (w'_1 : World), Fresh w' g_1 w'_1 [Value.int
 IntKind.i64 (0 : Int), Value.int IntKind.i64 (0 : Int), Value.int IntKind.i64 (0 : Int), Value.slice none 0 0, Value.slice none 0 0, Value.slice none 0 0, Value.slice none 0
 0, Value.slice none 0 0, Value.slice none 0 0] 29 → stOK (Addr.mk g_1 0 none) 0 [Value.int IntKind.i64 (1 : Int), Value.int IntKind.i64 (1 : Int), Value.int IntKind.i64 (0 : Int),
 Value.slice none 0 0, Value.slice none 0 0, Value.slice none 0 0, Value.slice none 0 0, Value.slice none 0 0, Value.slice (some (Addr.mk g 0 none)) 1 1]
 w'_1 ∧ ∀ (w' : World), w' = setAll (Addr.mk g_1 0 none) 0 [Value.int IntKind.i64 (1 : Int), Value.int IntKind.i64 (1 : Int), Value.int IntKind.i64 (0 : Int), Value.slice none 0 0,
 Value.slice none 0 0, Value.slice none 0 0, Value.slice none 0 0, Value.slice none 0 0, Value.slice (some (Addr.mk g 0 none)) 1 1] w'_1 → ∃ (S : World → Prop),
 S (World.drew w') ∧ ∃ (x : Int), (∀ (u : World), S u → World.cell? u (Addr.add (Addr.mk g_1 0 none) 0) = some (Value.int IntKind.i64 x)) ∧ ∃ (x_1 : Int), (∀ (u : World), S u → World.cell?
 u (Addr.add (Addr.mk g_1 0 none) 1) = some (Value.int IntKind.i64 x_1)) ∧ ∃ (x_2 : Int), (∀ (u : World), S u → World.cell? u (Addr.add (Addr.mk g_1 0 none) 2) = some
 (Value.int IntKind.i64 x_2)) ∧ ∃ (x_3 : Option Addr) (x_4 x_5 : Nat), (∀ (u : World), S u → World.cell? u (Addr.add (Addr.mk g_1 0 none) 3) = some (Value.slice x_3 x_4 x_5)) ∧ ∃ (x_6 :
 Option Addr) (x_7 x_8 : Nat), (∀ (u : World), S u → World.cell? u (Addr.add (Addr.mk g_1 0 none) 4) = some (Value.slice x_6 x_7 x_8)) ∧ ∃ (x_9 : Option Addr) (x_10 x_11 : Nat), (∀ (u :
 World), S u → World.cell? u (Addr.add (Addr.mk g_1 0 none) 5) = some (Value.slice x_9 x_10 x_11)) ∧ ∃ (x_12 : Option Addr) (x_13 x_14 : Nat), (∀ (u : World), S u → World.cell? u (Addr.add
 (Addr.mk g_1 0 none) 6) = some (Value.slice x_12 x_13 x_14)) ∧ ∃ (x_15 : Option Addr) (x_16 x_17 : Nat), (∀ (u : World), S u → World.cell? u (Addr.add (Addr.mk g_1 0 none) 7) =
 some (Value.slice x_15 x_16 x_17)) ∧ ∃ (x_18 : Option Addr) (x_19 x_20 : Nat), (∀ (u : World), S u → World.cell? u (Addr.add (Addr.mk g_1 0 none) 8) = some (Value.slice x_18 x_19
 x_20)) ∧ ∃ (x_21 : Int), (∀ (u : World), S u → World.cell? u (Addr.add (Addr.mk g_1 0 none) 0) = some (Value.int IntKind.i64 x_21)) ∧ ∃ (x_22 : Int), (∀ (u : World), S u → World.cell? u
 (Addr.add (Addr.mk g_1 0 none) 1) = some (Value.int IntKind.i64 x_22)) ∧ ∃ (x_23 : Int), (∀ (u : World), S u → World.cell? u (Addr.add (Addr.mk g_1 0 none) 2) = some
 (Value.int IntKind.i64 x_23)) ∧ ∃ (x_24 : Option Addr) (x_25 x_26 : Nat), (∀ (u : World), S u → World.cell? u (Addr.add (Addr.mk g_1 0 none) 3) = some (Value.slice x_24 x_25 x_26)) ∧ ∃
 (x_27 : Option Addr) (x_28 x_29 : Nat), (∀ (u : World), S u → World.cell? u (Addr.add (Addr.mk g_1 0 none) 4) = some (Value.slice x_27 x_28 x_29)) ∧ ∃ (x_30 : Option Addr) (x_31 x_32 :
 Nat), (∀ (u : World), S u → World.cell? u (Addr.add (Addr.mk g_1 0 none) 5) = some (Value.slice x_30 x_31 x_32)) ∧ ∃ (x_33 : Option Addr) (x_34 x_35 : Nat), (∀ (u : World), S u →
 World.cell? u (Addr.add (Addr.mk g_1 0 none) 6) = some (Value.slice x_33 x_34 x_35)) ∧ ∃ (x_36 : Option Addr) (x_37 x_38 : Nat), (∀ (u : World), S u → World.cell? u (Addr.add (Addr.mk g_1
 0 none) 7) = some (Value.slice x_36 x_37 x_38)) ∧ ∃ (x_39 : Option Addr) (x_40 x_41 : Nat), (∀ (u : World), S u → World.cell? u (Addr.add (Addr.mk g_1 0 none) 8) = some
 (Value.slice x_39 x_40 x_41)) ∧ (∀ (g : Nat) (w'_2 : World), Fresh (World.drew w') g w'_2 [Value.int IntKind.i64 (0 : Int), Value.int IntKind.i64 (0 : Int), Value.int IntKind.i64 (0 : Int), Value.slice
 none 0 0, Value.slice none 0 0, Value.slice none 0 0, Value.slice none 0 0, Value.slice none 0 0, Value.slice none 0 0] 29 → S w'_2 ∧ ∀ (g_2 : Nat) (w' :
 World), Fresh w'_2 g_2 w' [Value.int IntKind.i64 (0 : Int), Value.int IntKind.i64 (0 : Int), Value.int IntKind.i64 (0 : Int), Value.slice none 0 0, Value.slice none 0 0, Value.slice
 none 0 0, Value.slice none 0 0, Value.slice none 0 0, Value.slice none 0 0] 29 → S w' ∧ stOK (Addr.mk g 0 none) 0 [Value.int IntKind.i64 x, Value.int IntKind.i64 x_1,
 Value.int IntKind.i64 x_2, Value.slice x_3 x_4 x_5, Value.slice x_6 x_7 x_8, Value.slice x_9 x_10 x_11, Value.slice x_12 x_13 x_14, Value.slice x_15 x_16 x_17, Value.slice x_18 x_19 x_20] w' ∧ ∀ (w'_3
 : World), w'_3 = setAll (Addr.mk g 0 none) 0 [Value.int IntKind.i64 x, Value.int IntKind.i64 x_1, Value.int IntKind.i64 x_2, Value.slice x_3 x_4 x_5, Value.slice x_6 x_7 x_8, Value.slice x_9
 x_10 x_11, Value.slice x_12 x_13 x_14, Value.slice x_15 x_16 x_17, Value.slice x_18 x_19 x_20] w' → S w'_3 ∧ stOK (Addr.mk g_2 0 none) 0 [Value.int IntKind.i64 x_21, Value.int IntKind.i64 x_22,
 Value.int IntKind.i64 x_23, Value.slice x_24 x_25 x_26, Value.slice x_27 x_28 x_29, Value.slice x_30 x_31 x_32, Value.slice x_33 x_34 x_35, Value.slice x_36 x_37 x_38, Value.slice x_39 x_40 x_41] w'_3
 ∧ ∀ (w' : World), w' = setAll (Addr.mk g_2 0 none) 0 [Value.int IntKind.i64 x_21, Value.int IntKind.i64 x_22, Value.int IntKind.i64 x_23, Value.slice x_24 x_25 x_26, Value.slice x_27 x_28 x_29,
 Value.slice x_30 x_31 x_32, Value.slice x_33 x_34 x_35, Value.slice x_36 x_37 x_38, Value.slice x_39 x_40 x_41] w'_3 → ∀ (g_3 : Nat) (w'_4 : World), Fresh w' g_3 w'_4 [Value.int IntKind.u8 (10 : Int),
 Value.int IntKind.i64 (0 : Int), Value.int IntKind.i64 (0 : Int), Value.int IntKind.i64 (0 : Int), Value.int IntKind.i64 (0 : Int), Value.int IntKind.u8 (35 : Int), Value.int IntKind.i64 (0 : Int),
 Value.int IntKind.i64 (0 : Int), Value.int IntKind.i64 (0 : Int), Value.int IntKind.i64 (0 : Int)] 46 → stOK (Addr.add (Addr.mk g 0 none) 8) 0 [Value.slice (some (Addr.mk g_3 0
 none)) 2 2] w'_4 ∧ ∀ (w' : World), w' = setAll (Addr.add (Addr.mk g 0 none) 8) 0 [Value.slice (some (Addr.mk g_3 0 none)) 2 2] w'_4 → ∀ (g_4 : Nat) (w'_5 : World), Fresh w'
 g_4 w'_5 [Value.int IntKind.u8 (10 : Int), Value.int IntKind.i64 (1 : Int), Value.int IntKind.i64 (0 : Int), Value.int IntKind.i64 (0 : Int), Value.int IntKind.i64 (0 : Int), Value.int IntKind.u8 (35 :
 Int), Value.int IntKind.i64 (0 : Int), Value.int IntKind.i64 (0 : Int), Value.int IntKind.i64 (0 : Int), Value.int IntKind.i64 (0 : Int)] 46 → stOK (Addr.add (Addr.mk g_2 0 none) 8) 0
 [Value.slice (some (Addr.mk g_4 0 none)) 2 2] w'_5 ∧ ∀ (w' : World), w' = setAll (Addr.add (Addr.mk g_2 0 none) 8) 0 [Value.slice (some (Addr.mk g_4 0 none)) 2 2]
 w'_5 → CallsV Tryz.prog 21 #[Value.agg #[Value.int IntKind.u8 (4 : Int), Value.int IntKind.i64 (2 : Int), Value.int IntKind.i64 (0 : Int), Value.int IntKind.i64 (1 : Int), Value.int IntKind.i64 (6 :
 Int)]] w' fun (v : Value) (w' : World) => ∃ (x : ByteArray), v = Value.string x ∧ bif ByteArray.toList x == ByteArray.toList (ByteArray.mk #[(116 : UInt8), (119 : UInt8), (111 : UInt8), (32 : UInt8),
 (50 : UInt8), (32 : UInt8), (48 : UInt8), (32 : UInt8), (49 : UInt8), (32 : UInt8), (54 : UInt8)]) then ∃ (x : Int), World.cell? w' (Addr.add (Addr.mk g_1 0 none) 0) = some (Value.int
 IntKind.i64 x) ∧ ∃ (x_42 : Int), World.cell? w' (Addr.add (Addr.mk g_1 0 none) 1) = some (Value.int IntKind.i64 x_42) ∧ ∃ (x_43 : Int), World.cell? w' (Addr.add (Addr.mk g_1 0
 none) 2) = some (Value.int IntKind.i64 x_43) ∧ ∃ (x_44 : Option Addr) (x_45 x_46 : Nat), World.cell? w' (Addr.add (Addr.mk g_1 0 none) 3) = some (Value.slice x_44 x_45 x_46)
 ∧ ∃ (x_47 : Option Addr) (x_48 x_49 : Nat), World.cell? w' (Addr.add (Addr.mk g_1 0 none) 4) = some (Value.slice x_47 x_48 x_49) ∧ ∃ (x_50 : Option Addr) (x_51 x_52 : Nat), World.cell? w'
 (Addr.add (Addr.mk g_1 0 none) 5) = some (Value.slice x_50 x_51 x_52) ∧ ∃ (x_53 : Option Addr) (x_54 x_55 : Nat), World.cell? w' (Addr.add (Addr.mk g_1 0 none) 6) = some
 (Value.slice x_53 x_54 x_55) ∧ ∃ (x_56 : Option Addr) (x_57 x_58 : Nat), World.cell? w' (Addr.add (Addr.mk g_1 0 none) 7) = some (Value.slice x_56 x_57 x_58) ∧ ∃ (x_59 : Option Addr)
 (x_60 x_61 : Nat), World.cell? w' (Addr.add (Addr.mk g_1 0 none) 8) = some (Value.slice x_59 x_60 x_61) ∧ CallsV Tryz.prog 12 #[Value.agg #[Value.int IntKind.i64 x, Value.int IntKind.i64
 x_42, Value.int IntKind.i64 x_43, Value.slice x_44 x_45 x_46, Value.slice x_47 x_48 x_49, Value.slice x_50 x_51 x_52, Value.slice x_53 x_54 x_55, Value.slice x_56 x_57 x_58, Value.slice x_59 x_60
 x_61]] w' fun (v : Value) (w' : World) => ∃ (x : Int), v = Value.int IntKind.i64 x ∧ bif decide (x = (0 : Int)) then ∃ (x : Int), World.cell? w' (Addr.add (Addr.mk g 0 none) 0) =
 some (Value.int IntKind.i64 x) ∧ ∃ (x_62 : Int), World.cell? w' (Addr.add (Addr.mk g 0 none) 1) = some (Value.int IntKind.i64 x_62) ∧ ∃ (x_63 : Int), World.cell? w' (Addr.add
 (Addr.mk g 0 none) 2) = some (Value.int IntKind.i64 x_63) ∧ ∃ (x_64 : Option Addr) (x_65 x_66 : Nat), World.cell? w' (Addr.add (Addr.mk g 0 none) 3) = some (Value.slice x_64
 x_65 x_66) ∧ ∃ (x_67 : Option Addr) (x_68 x_69 : Nat), World.cell? w' (Addr.add (Addr.mk g 0 none) 4) = some (Value.slice x_67 x_68 x_69) ∧ ∃ (x_70 : Option Addr) (x_71 x_72 : Nat),
 World.cell? w' (Addr.add (Addr.mk g 0 none) 5) = some (Value.slice x_70 x_71 x_72) ∧ ∃ (x_73 : Option Addr) (x_74 x_75 : Nat), World.cell? w' (Addr.add (Addr.mk g 0 none) 6) =
 some (Value.slice x_73 x_74 x_75) ∧ ∃ (x_76 : Option Addr) (x_77 x_78 : Nat), World.cell? w' (Addr.add (Addr.mk g 0 none) 7) = some (Value.slice x_76 x_77 x_78) ∧ ∃ (x_79 : Option
 Addr) (x_80 x_81 : Nat), World.cell? w' (Addr.add (Addr.mk g 0 none) 8) = some (Value.slice x_79 x_80 x_81) ∧ CallsV Tryz.prog 12 #[Value.agg #[Value.int IntKind.i64 x, Value.int
 IntKind.i64 x_62, Value.int IntKind.i64 x_63, Value.slice x_64 x_65 x_66, Value.slice x_67 x_68 x_69, Value.slice x_70 x_71 x_72, Value.slice x_73 x_74 x_75, Value.slice x_76 x_77 x_78, Value.slice
 x_79 x_80 x_81]] w' fun (v : Value) (w' : World) => ∃ (x : Int), v = Value.int IntKind.i64 x ∧ bif decide (x = (140 : Int)) then ∃ (x : Int), World.cell? w' (Addr.add (Addr.mk g_2 0
 none) 0) = some (Value.int IntKind.i64 x) ∧ ∃ (x_82 : Int), World.cell? w' (Addr.add (Addr.mk g_2 0 none) 1) = some (Value.int IntKind.i64 x_82) ∧ ∃ (x_83 : Int),
 World.cell? w' (Addr.add (Addr.mk g_2 0 none) 2) = some (Value.int IntKind.i64 x_83) ∧ ∃ (x_84 : Option Addr) (x_85 x_86 : Nat), World.cell? w' (Addr.add (Addr.mk g_2 0 none) 3) =
 some (Value.slice x_84 x_85 x_86) ∧ ∃ (x_87 : Option Addr) (x_88 x_89 : Nat), World.cell? w' (Addr.add (Addr.mk g_2 0 none) 4) = some (Value.slice x_87 x_88 x_89) ∧ ∃ (x_90 :
 Option Addr) (x_91 x_92 : Nat), World.cell? w' (Addr.add (Addr.mk g_2 0 none) 5) = some (Value.slice x_90 x_91 x_92) ∧ ∃ (x_93 : Option Addr) (x_94 x_95 : Nat), World.cell? w' (Addr.add
 (Addr.mk g_2 0 none) 6) = some (Value.slice x_93 x_94 x_95) ∧ ∃ (x_96 : Option Addr) (x_97 x_98 : Nat), World.cell? w' (Addr.add (Addr.mk g_2 0 none) 7) = some (Value.slice
 x_96 x_97 x_98) ∧ ∃ (x_99 : Option Addr) (x_100 x_101 : Nat), World.cell? w' (Addr.add (Addr.mk g_2 0 none) 8) = some (Value.slice x_99 x_100 x_101) ∧ CallsV Tryz.prog 12 #[Value.agg
 #[Value.int IntKind.i64 x, Value.int IntKind.i64 x_82, Value.int IntKind.i64 x_83, Value.slice x_84 x_85 x_86, Value.slice x_87 x_88 x_89, Value.slice x_90 x_91 x_92, Value.slice x_93 x_94 x_95,
 Value.slice x_96 x_97 x_98, Value.slice x_99 x_100 x_101]] w' fun (v : Value) (w' : World) => ∃ (x : Int), v = Value.int IntKind.i64 x ∧ K (Value.bool (decide (x = (0 : Int)))) w' else K
 (Value.bool false) w' else K (Value.bool false) w' else K (Value.bool false) w') ∧ ∀ (g : Nat) (w'_2 : World), Fresh (World.drew w') g w'_2 [Value.int IntKind.i64 (0 : Int), Value.int
 IntKind.i64 (0 : Int), Value.int IntKind.i64 (0 : Int), Value.slice none 0 0, Value.slice none 0 0, Value.slice none 0 0, Value.slice none 0 0, Value.slice none 0 0,
 Value.slice none 0 0] 29 → S w'_2 ∧ ∀ (g_2 : Nat) (w' : World), Fresh w'_2 g_2 w' [Value.int IntKind.i64 (0 : Int), Value.int IntKind.i64 (0 : Int), Value.int IntKind.i64 (0 : Int), Value.slice
 none 0 0, Value.slice none 0 0, Value.slice none 0 0, Value.slice none 0 0, Value.slice none 0 0, Value.slice none 0 0] 29 → S w' ∧ stOK (Addr.mk g_2 0
 none) 0 [Value.int IntKind.i64 x, Value.int IntKind.i64 x_1, Value.int IntKind.i64 x_2, Value.slice x_3 x_4 x_5, Value.slice x_6 x_7 x_8, Value.slice x_9 x_10 x_11, Value.slice x_12 x_13 x_14,
 Value.slice x_15 x_16 x_17, Value.slice x_18 x_19 x_20] w' ∧ ∀ (w'_3 : World), w'_3 = setAll (Addr.mk g_2 0 none) 0 [Value.int IntKind.i64 x, Value.int IntKind.i64 x_1, Value.int IntKind.i64
 x_2, Value.slice x_3 x_4 x_5, Value.slice x_6 x_7 x_8, Value.slice x_9 x_10 x_11, Value.slice x_12 x_13 x_14, Value.slice x_15 x_16 x_17, Value.slice x_18 x_19 x_20] w' → S w'_3 ∧ stOK (Addr.mk g 0
 none) 0 [Value.int IntKind.i64 x_21, Value.int IntKind.i64 x_22, Value.int IntKind.i64 x_23, Value.slice x_24 x_25 x_26, Value.slice x_27 x_28 x_29, Value.slice x_30 x_31 x_32, Value.slice x_33
 x_34 x_35, Value.slice x_36 x_37 x_38, Value.slice x_39 x_40 x_41] w'_3 ∧ ∀ (w' : World), w' = setAll (Addr.mk g 0 none) 0 [Value.int IntKind.i64 x_21, Value.int IntKind.i64 x_22, Value.int
 IntKind.i64 x_23, Value.slice x_24 x_25 x_26, Value.slice x_27 x_28 x_29, Value.slice x_30 x_31 x_32, Value.slice x_33 x_34 x_35, Value.slice x_36 x_37 x_38, Value.slice x_39 x_40 x_41] w'_3 → ∀ (g_3 :
 Nat) (w'_4 : World), Fresh w' g_3 w'_4 [Value.int IntKind.u8 (10 : Int), Value.int IntKind.i64 (0 : Int), Value.int IntKind.i64 (0 : Int), Value.int IntKind.i64 (0 : Int), Value.int IntKind.i64 (0 :
 Int), Value.int IntKind.u8 (35 : Int), Value.int IntKind.i64 (0 : Int), Value.int IntKind.i64 (0 : Int), Value.int IntKind.i64 (0 : Int), Value.int IntKind.i64 (0 : Int)] 46 → stOK (Addr.add (Addr.mk
 g_2 0 none) 8) 0 [Value.slice (some (Addr.mk g_3 0 none)) 2 2] w'_4 ∧ ∀ (w' : World), w' = setAll (Addr.add (Addr.mk g_2 0 none) 8) 0 [Value.slice (some (Addr.mk g_3
 0 none)) 2 2] w'_4 → ∀ (g_4 : Nat) (w'_5 : World), Fresh w' g_4 w'_5 [Value.int IntKind.u8 (10 : Int), Value.int IntKind.i64 (1 : Int), Value.int IntKind.i64 (0 : Int), Value.int IntKind.i64 (0
 : Int), Value.int IntKind.i64 (0 : Int), Value.int IntKind.u8 (35 : Int), Value.int IntKind.i64 (0 : Int), Value.int IntKind.i64 (0 : Int), Value.int IntKind.i64 (0 : Int), Value.int IntKind.i64 (0 :
 Int)] 46 → stOK (Addr.add (Addr.mk g 0 none) 8) 0 [Value.slice (some (Addr.mk g_4 0 none)) 2 2] w'_5 ∧ ∀ (w' : World), w' = setAll (Addr.add (Addr.mk g 0 none) 8) 0
 [Value.slice (some (Addr.mk g_4 0 none)) 2 2] w'_5 → CallsV Tryz.prog 21 #[Value.agg #[Value.int IntKind.u8 (4 : Int), Value.int IntKind.i64 (2 : Int), Value.int IntKind.i64 (0 : Int),
 Value.int IntKind.i64 (1 : Int), Value.int IntKind.i64 (6 : Int)]] w' fun (v : Value) (w' : World) => ∃ (x : ByteArray), v = Value.string x ∧ bif ByteArray.toList x == ByteArray.toList (ByteArray.mk
 #[(116 : UInt8), (119 : UInt8), (111 : UInt8), (32 : UInt8), (50 : UInt8), (32 : UInt8), (48 : UInt8), (32 : UInt8), (49 : UInt8), (32 : UInt8), (54 : UInt8)]) then ∃ (x : Int), World.cell? w'
 (Addr.add (Addr.mk g_1 0 none) 0) = some (Value.int IntKind.i64 x) ∧ ∃ (x_42 : Int), World.cell? w' (Addr.add (Addr.mk g_1 0 none) 1) = some (Value.int IntKind.i64 x_42) ∧ ∃
 (x_43 : Int), World.cell? w' (Addr.add (Addr.mk g_1 0 none) 2) = some (Value.int IntKind.i64 x_43) ∧ ∃ (x_44 : Option Addr) (x_45 x_46 : Nat), World.cell? w' (Addr.add (Addr.mk g_1 0
 none) 3) = some (Value.slice x_44 x_45 x_46) ∧ ∃ (x_47 : Option Addr) (x_48 x_49 : Nat), World.cell? w' (Addr.add (Addr.mk g_1 0 none) 4) = some (Value.slice x_47 x_48 x_49)
 ∧ ∃ (x_50 : Option Addr) (x_51 x_52 : Nat), World.cell? w' (Addr.add (Addr.mk g_1 0 none) 5) = some (Value.slice x_50 x_51 x_52) ∧ ∃ (x_53 : Option Addr) (x_54 x_55 : Nat), World.cell? w'
 (Addr.add (Addr.mk g_1 0 none) 6) = some (Value.slice x_53 x_54 x_55) ∧ ∃ (x_56 : Option Addr) (x_57 x_58 : Nat), World.cell? w' (Addr.add (Addr.mk g_1 0 none) 7) = some
 (Value.slice x_56 x_57 x_58) ∧ ∃ (x_59 : Option Addr) (x_60 x_61 : Nat), World.cell? w' (Addr.add (Addr.mk g_1 0 none) 8) = some (Value.slice x_59 x_60 x_61) ∧ CallsV Tryz.prog 12
 #[Value.agg #[Value.int IntKind.i64 x, Value.int IntKind.i64 x_42, Value.int IntKind.i64 x_43, Value.slice x_44 x_45 x_46, Value.slice x_47 x_48 x_49, Value.slice x_50 x_51 x_52, Value.slice x_53 x_54
 x_55, Value.slice x_56 x_57 x_58, Value.slice x_59 x_60 x_61]] w' fun (v : Value) (w' : World) => ∃ (x : Int), v = Value.int IntKind.i64 x ∧ bif decide (x = (0 : Int)) then ∃ (x : Int),
 World.cell? w' (Addr.add (Addr.mk g_2 0 none) 0) = some (Value.int IntKind.i64 x) ∧ ∃ (x_62 : Int), World.cell? w' (Addr.add (Addr.mk g_2 0 none) 1) = some (Value.int
 IntKind.i64 x_62) ∧ ∃ (x_63 : Int), World.cell? w' (Addr.add (Addr.mk g_2 0 none) 2) = some (Value.int IntKind.i64 x_63) ∧ ∃ (x_64 : Option Addr) (x_65 x_66 : Nat), World.cell? w'
 (Addr.add (Addr.mk g_2 0 none) 3) = some (Value.slice x_64 x_65 x_66) ∧ ∃ (x_67 : Option Addr) (x_68 x_69 : Nat), World.cell? w' (Addr.add (Addr.mk g_2 0 none) 4) = some
 (Value.slice x_67 x_68 x_69) ∧ ∃ (x_70 : Option Addr) (x_71 x_72 : Nat), World.cell? w' (Addr.add (Addr.mk g_2 0 none) 5) = some (Value.slice x_70 x_71 x_72) ∧ ∃ (x_73 : Option Addr)
 (x_74 x_75 : Nat), World.cell? w' (Addr.add (Addr.mk g_2 0 none) 6) = some (Value.slice x_73 x_74 x_75) ∧ ∃ (x_76 : Option Addr) (x_77 x_78 : Nat), World.cell? w' (Addr.add (Addr.mk g_2 0
 none) 7) = some (Value.slice x_76 x_77 x_78) ∧ ∃ (x_79 : Option Addr) (x_80 x_81 : Nat), World.cell? w' (Addr.add (Addr.mk g_2 0 none) 8) = some (Value.slice x_79 x_80 x_81)
 ∧ CallsV Tryz.prog 12 #[Value.agg #[Value.int IntKind.i64 x, Value.int IntKind.i64 x_62, Value.int IntKind.i64 x_63, Value.slice x_64 x_65 x_66, Value.slice x_67 x_68 x_69, Value.slice x_70 x_71 x_72,
 Value.slice x_73 x_74 x_75, Value.slice x_76 x_77 x_78, Value.slice x_79 x_80 x_81]] w' fun (v : Value) (w' : World) => ∃ (x : Int), v = Value.int IntKind.i64 x ∧ bif decide (x = (140 : Int))
 then ∃ (x : Int), World.cell? w' (Addr.add (Addr.mk g 0 none) 0) = some (Value.int IntKind.i64 x) ∧ ∃ (x_82 : Int), World.cell? w' (Addr.add (Addr.mk g 0 none) 1) = some
 (Value.int IntKind.i64 x_82) ∧ ∃ (x_83 : Int), World.cell? w' (Addr.add (Addr.mk g 0 none) 2) = some (Value.int IntKind.i64 x_83) ∧ ∃ (x_84 : Option Addr) (x_85 x_86 : Nat), World.cell?
 w' (Addr.add (Addr.mk g 0 none) 3) = some (Value.slice x_84 x_85 x_86) ∧ ∃ (x_87 : Option Addr) (x_88 x_89 : Nat), World.cell? w' (Addr.add (Addr.mk g 0 none) 4) = some
 (Value.slice x_87 x_88 x_89) ∧ ∃ (x_90 : Option Addr) (x_91 x_92 : Nat), World.cell? w' (Addr.add (Addr.mk g 0 none) 5) = some (Value.slice x_90 x_91 x_92) ∧ ∃ (x_93 : Option Addr) (x_94
 x_95 : Nat), World.cell? w' (Addr.add (Addr.mk g 0 none) 6) = some (Value.slice x_93 x_94 x_95) ∧ ∃ (x_96 : Option Addr) (x_97 x_98 : Nat), World.cell? w' (Addr.add (Addr.mk g 0
 none) 7) = some (Value.slice x_96 x_97 x_98) ∧ ∃ (x_99 : Option Addr) (x_100 x_101 : Nat), World.cell? w' (Addr.add (Addr.mk g 0 none) 8) = some (Value.slice x_99 x_100
 x_101) ∧ CallsV Tryz.prog 12 #[Value.agg #[Value.int IntKind.i64 x, Value.int IntKind.i64 x_82, Value.int IntKind.i64 x_83, Value.slice x_84 x_85 x_86, Value.slice x_87 x_88 x_89, Value.slice x_90 x_91
 x_92, Value.slice x_93 x_94 x_95, Value.slice x_96 x_97 x_98, Value.slice x_99 x_100 x_101]] w' fun (v : Value) (w' : World) => ∃ (x : Int), v = Value.int IntKind.i64 x ∧ K (Value.bool
 (decide (x = (0 : Int)))) w' else K (Value.bool false) w' else K (Value.bool false) w' else K (Value.bool false) w'
theorem cardindexlaw15_awake.calls (ok : Okay Tryz.prog)  {w : World} {K : Value → World → Prop} (h : cardindexlaw15_awake.W  w K) : CallsV Tryz.prog 7 #[] w K :=
  fnW_calls ok Tryz.func7 (an := (.named .auto)) (args := []) (Eq.mp (by kernel_rfl) h)
noncomputable def cardindexkit_Pick.W : Int → Int → World → (Value → World → Prop) → Prop := fun (x n : Int) (w : World) (K : Value → World → Prop) => bif decide (n < (1 : Int)) then K
 (Value.int IntKind.i64 (0 : Int)) w else n ≠ (0 : Int) ∧ bif decide (Int.tmod x n < (0 : Int)) then K (Value.int IntKind.i64 (IntKind.wrap IntKind.i64 (Int.tmod x n + n))) w else K (Value.int
 IntKind.i64 (Int.tmod x n)) w
theorem cardindexkit_Pick.calls (ok : Okay Tryz.prog) {x : Int} {n : Int} {w : World} {K : Value → World → Prop} (h : cardindexkit_Pick.W x n w K) : CallsV Tryz.prog 10 #[.int .i64 x, .int .i64 n] w K :=
  fnW_calls ok Tryz.func10 (an := (.named .auto)) (args := [.int .i64 x, .int .i64 n]) (Eq.mp (by kernel_rfl) h)
end Go.Proofs.YtaifphjenebgoaaGreatDoor
set_option linter.unusedVariables false
set_option linter.unusedSimpArgs false
namespace Go.Proofs.YtaifphjenebgoaaGreatDoor
open Go Go.Sx R1 K15
def shapeV (l : List UInt8) : Value := .agg #[.string (bs l)]
theorem look_get (o : Int) : ∀ l : List (Int × List UInt8), (getM (l.map fun p => (p.1, shapeV p.2)) o).getD (.agg #[.string (ByteArray.mk #[])]) = shapeV (lookS l o)
  | [] => rfl
  | (k, x) :: r => by
    rw [List.map_cons, getM, lookS]
    split
    · rfl
    · exact look_get o r
theorem upd_step {kt et t : TypeId} {d : TypeDesc} {q : IntKind} (F : KeyF Tryz.prog kt d (fun a : Int => Value.int q a)) (ht : und Tryz.prog t = some (.map kt et)) {w0 w : World} {b : Nat} {l : List (Int × Value)} {a : Int} {v : Value} {Kp : World → Prop}
    (hb : w0.heap.size ≤ b) (hm : MapK (fun a : Int => Value.int q a) w b l ∧ Ext w0 w) (h : ∀ w', MapK (fun a : Int => Value.int q a) w' b (setM l a v) ∧ Ext w0 w' → Kp w') :
    ∃ w', RunsTo Tryz.prog (Instr.mapUpdate t (.map (some b)) (.int q a) v) w () w' ∧ Kp w' := by
  obtain ⟨w', hr, hm', hf⟩ := hm.1.update F ht a v
  exact ⟨w', hr, h w' ⟨hm', hm.2.trans hf (fun _ _ h => h) (fun k hk e => by omega)⟩⟩
set_option maxRecDepth 10000 in
theorem shape_spec (w : World) (o : Int) : CallsV Tryz.prog 46 #[.int .u8 o] w fun r w' => r = .string (bs (shapeP o)) ∧ Ext w w' := by
  refine code_shape.calls okay ?_
  unfold code_shape.W
  have F : KeyF Tryz.prog 44 (.int .u8) (fun a : Int => Value.int .u8 a) := keyInt (by kernel_rfl)
  have hT : und Tryz.prog 132 = some (.map 44 131) := by kernel_rfl
  refine ⟨_, _, makeMap_run _ _, ?_⟩
  have hm : MapK (fun a : Int => Value.int .u8 a) (w.alloc (.map #[] 0)) w.heap.size [] ∧ Ext w (w.alloc (.map #[] 0)) := ⟨MapK.new _ _, Fr.alloc NoB _ _⟩
  generalize w.alloc (.map #[] 0) = w1 at *
  iterate 35 (refine upd_step F hT (Nat.le_refl _) hm ?_; clear hm; intro w1 hm)
  have hl : ∀ {x}, MapK (fun a : Int => Value.int .u8 a) w1 w.heap.size x ∧ Ext w w1 → x = shapes.map (fun p => (p.1, shapeV p.2)) → MapK (fun a : Int => Value.int .u8 a) w1 w.heap.size (shapes.map fun p => (p.1, shapeV p.2)) := fun h e => by rw [← e]; exact h.1
  have hM := hl hm (by kernel_rfl)
  obtain ⟨_, hr⟩ := hM.look F hT o (z := .agg #[.string (ByteArray.mk #[])]) (fun w => by kernel_rfl)
  rw [look_get] at hr
  exact ⟨_, _, hr, rfl, hm.2⟩
end Go.Proofs.YtaifphjenebgoaaGreatDoor
