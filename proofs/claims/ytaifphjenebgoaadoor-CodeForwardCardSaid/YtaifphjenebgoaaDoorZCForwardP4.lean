/- Part 4 of the texts of this claim: the engine, contracts, plain laws. -/
import Derived.Test.YtaifphjenebgoaaDoorZCForwardP2
import Derived.WalkKit
import Derived.ProofKit
import Derived.OpenShut
import Derived.Carry
import Derived.Deep.Slices
import Derived.ChangeMaps5
import Derived.Test.YtaifphjenebgoaaDoorZCForwardP3
/- From what a call does to the given statement: the law answered true, and of what was there nothing turned. -/
set_option linter.unusedVariables false
set_option linter.unusedSimpArgs false
namespace Go.Sx
open Go.ChangeShapes Go.WideShapes Go.ChangeAt Go.RowKit
theorem Ext.below {w w' : World} (h : Ext w w') : Below w.heap.size w w' := ⟨h.os, h.tape, h.output, h.size, fun k hk => h.block k hk (fun h => h)⟩
section
variable {H : Type} {enc : TypeId × Value → H} {P : Program}
theorem trodAll_stays (hl : laidOutB P = true) {w w' : World} {sp : Nat → Bool} (hb : Below w.heap.size w w') : ∀ {ts : List TypeId} {vs : List Value} {ds : List (DataW H)} {ps : List MemPlace},
    (∀ t ∈ ts, P.readableRec t = true ∧ t < P.types.size) → DataW.TrodAll enc P w 0 (fun _ => true) true ts vs ds ps → (∀ p ∈ ps, p.block < w.heap.size) → (∀ p ∈ ps, sp p.block = true) → DataW.TrodAll enc P w' 0 sp true ts vs ds ps
  | [], [], [], _, _, h, _, _ => h
  | _ :: _, _ :: _, _ :: _, _, hT, ⟨p, q, h1, h2, e⟩, hlt, hs =>
    ⟨p, q, WideElems.Trod_stays hl (hT _ (List.mem_cons.2 (.inl rfl))).1 (hT _ (List.mem_cons.2 (.inl rfl))).2 h1 (fun x hx => hb.same (hlt x (by rw [e]; exact List.mem_append_left _ hx))) (fun x hx => hs x (by rw [e]; exact List.mem_append_left _ hx)),
      trodAll_stays hl hb (fun t ht => hT t (List.mem_cons.2 (.inr ht))) h2 (fun x hx => hlt x (by rw [e]; exact List.mem_append_right _ hx)) (fun x hx => hs x (by rw [e]; exact List.mem_append_right _ hx)), e⟩

theorem post_law {f : Func} {s : ChangeSpec} {apart fresh handsOn again : Bool} {W W' : World} {args : Array Value} {ds gs : List (DataW H)} {before : List MemPlace}
    (hW : DataW.Whole enc P f.params.toList s.vars apart W args.toList ds gs before) (hv : s.vars = []) (hfn : s.fn H (ds ++ gs) = { results := [.lit (.bool true)], args := ds })
    (hl : laidOutB P = true) (hT : ∀ t ∈ f.params.toList, P.readableRec t = true ∧ t < P.types.size) {tb : TypeId} (hres : f.resultTypes = #[tb]) (htb : P.underlying tb = some .bool) (e : Ext W W') :
    s.post enc P f apart fresh handsOn again W args (.bool true) W' := by
  have hW' := hW
  obtain ⟨p, q, hA, hV, hb, hz, hn⟩ := hW
  rw [hv] at hV
  obtain ⟨rfl, rfl⟩ := trodVars_none hV
  rw [List.append_nil] at hb
  subst hb
  have hlt : ∀ x ∈ before, x.block < W.heap.size := fun x hx => by simpa using hW'.lt x hx
  have hargs : ∀ sp : Nat → Bool, (∀ x ∈ before, sp x.block = true) → DataW.TrodAll enc P W' 0 sp true f.params.toList args.toList (s.fn H (ds ++ [])).args before := by
    intro sp hsp
    rw [hfn]
    exact trodAll_stays hl e.below hT hA hlt hsp
  have hr : ∀ (b : Nat) (sp : Nat → Bool) (hd : Bool), DataW.TrodAll enc P W' b sp hd f.resultTypes.toList ((Value.bool true).resultList f.resultTypes.size) (s.fn H (ds ++ [])).results [] := by
    intro b sp hd
    rw [hfn, hres]
    exact trodAll_cons_mk (shut_bool htb _) trodAll_mk0
  have hvars : ∀ sp : Nat → Bool, DataW.TrodVars enc P W' sp s.vars (s.fn H (ds ++ [])).vars [] := by
    intro sp
    rw [hfn, hv]
    exact rfl
  have hold : ∀ x ∈ before, (fun b => decide (b < W.heap.size)) x.block = true := fun x hx => by simpa using hlt x hx
  refine ⟨ds, [], before, [], before, [], by simpa using hW', hr _ _ _, hargs _ hold, hvars _, World.keptBut_mono (fun x hx => ⟨hx, .inr (.inl hx)⟩) (e.below.frame _), fun _ => ⟨?_, _, _, ([] ++ before) ++ [], ⟨[] ++ before, [], trodAll_append (hargs _ (fun _ _ => rfl)) (hr _ _ _), hvars _, rfl, ?_, ?_⟩, ?_⟩⟩
  · exact ok_one (by rw [hres]) rfl (okWide_bool_mk htb _)
  · intro b off hp
    have hp' : MemPlace.cell b off ∈ before := by simpa using hp
    rw [e.below.frozen (p := ⟨b, off, none⟩) (hlt _ hp')]
    exact hz b off (by simpa using hp')
  · intro ha
    have := hn ha
    simpa using this
  · intro x hx _
    simpa using hx
end
end Go.Sx
/- An argument that reads as data, as the engine's own kinds of memory. -/
set_option linter.unusedVariables false
set_option linter.unusedSimpArgs false
namespace Go.Sx
open Go.ChangeShapes Go.WideShapes Go.ChangeAt Go.RowKit
/-- what reads as data of type t is of kind K -/
def Opens {α : Type} (P : Program) (t : TypeId) (K : Kd α) (good : α → Prop) : Prop :=
  ∀ {H : Type} (enc : TypeId × Value → H) (w : World) (fuel : Nat) (cs : List Value) (x : DataW H × List MemPlace), DataW.trod enc P w 0 (fun _ => true) true fuel t cs = some x → ∃ a, K.rep NoB w a cs ∧ good a
section
variable {P : Program}
theorem opens_u8 {t : TypeId} (h : P.underlying t = some (.int .u8)) : Opens P t Kd.u8 (fun _ => True) := by
  intro H enc w fuel cs x hx
  obtain ⟨n, rfl, _, hw⟩ := DataW.trod_int h hx
  have hb : 0 ≤ n ∧ n ≤ 255 := by simpa [Lit.wf, IntKind.min, IntKind.max, IntKind.signed, IntKind.bits] using hw
  refine ⟨n.toNat.toUInt8, ?_, trivial⟩
  show [Value.int .u8 n] = [u8 n.toNat.toUInt8]
  rw [← toUInt8_int (by omega), Int.toNat_of_nonneg hb.1]
theorem opens_int {t : TypeId} {k : IntKind} (h : P.underlying t = some (.int k)) : Opens P t (Kd.int k) (fun n => (Lit.int k n).wf = true) := by
  intro H enc w fuel cs x hx
  obtain ⟨n, rfl, _, hw⟩ := DataW.trod_int h hx
  exact ⟨n, rfl, hw⟩
theorem opens_str {t : TypeId} (h : P.underlying t = some .string) : Opens P t Kd.str (fun s => s.size ≤ maxLen) := by
  intro H enc w fuel cs x hx
  obtain ⟨s, rfl, _, hs⟩ := DataW.trod_string h hx
  exact ⟨s, rfl, hs⟩
theorem opens_slice {α : Type} {K : Kd α} {t e : TypeId} {good : α → Prop} (ht : P.underlying t = some (.slice e)) (hc : P.cellsOf e = K.size) (hz : 0 < K.size) (he : Opens P e K good) :
    Opens P t (Kd.slice K hz) (fun l => l.length ≤ maxLen ∧ ∀ a ∈ l, good a) := by
  intro H enc w fuel cs x hx
  rcases Go.Deep.open_slice ht hx with ⟨rfl, _⟩ | ⟨a, len, cap, m, n, D, Pl, rfl, _, hl, hm, hmm, _, hel⟩
  · exact ⟨[], ⟨none, 0, rfl, Nat.le_refl _, Imm.nil K _ _ _⟩, by simp, by simp⟩
  · rw [if_pos rfl] at hmm
    subst hmm
    have hex : ∀ i : Fin len, ∃ b, ∃ cs', w.cells? 0 (a.add (i.val * K.size)) K.size = some cs' ∧ K.rep NoB w b cs' ∧ good b := fun i => by
      obtain ⟨cs', h1, h2⟩ := hel i.val (Nat.lt_of_lt_of_le i.isLt hl)
      obtain ⟨b, hb, hg⟩ := he enc w n cs' _ h2
      rw [hc] at h1
      exact ⟨b, cs', h1, hb, hg⟩
    let f : Fin len → α := fun i => Classical.choose (hex i)
    have hf : ∀ i, ∃ cs', w.cells? 0 (a.add (i.val * K.size)) K.size = some cs' ∧ K.rep NoB w (f i) cs' ∧ good (f i) := fun i => Classical.choose_spec (hex i)
    refine ⟨List.ofFn f, ⟨some a, m, by rw [List.length_ofFn], by rw [List.length_ofFn]; exact hl, ?_⟩, by rw [List.length_ofFn]; omega, ?_⟩
    · intro i b hi
      have hlt : i < len := by have := (List.getElem?_eq_some_iff.1 hi).1; rwa [List.length_ofFn] at this
      have hb : f ⟨i, hlt⟩ = b := by simpa [List.getElem?_ofFn, hlt] using hi
      obtain ⟨cs', h1, h2, _⟩ := hf ⟨i, hlt⟩
      rw [hb] at h2
      refine ⟨a, rfl, fun h => h, cs', h2, fun j v hj => ?_⟩
      obtain ⟨_, hlen, hcell⟩ := World.cells?_some h1
      have hjl : j < K.size := by rw [← hlen]; exact (List.getElem?_eq_some_iff.1 hj).1
      rw [← add_add, hcell j hjl]
      exact hj
    · intro b hb
      obtain ⟨i, rfl⟩ := List.mem_ofFn.1 hb
      obtain ⟨_, _, _, hg⟩ := hf i
      exact hg

/-- an argument that is a slice -/
theorem arg_slice {α : Type} {K : Kd α} {H : Type} {enc : TypeId × Value → H} {W : World} {r : Reach} {base : Nat} {t e : TypeId} {good : α → Prop} {v : Value} {d : DataW H} {ps : List MemPlace} (ht : P.underlying t = some (.slice e)) (hc : P.cellsOf e = K.size) (hz : 0 < K.size) (he : Opens P e K good)
    (hval : Value.okWide P W r base t v) (h : DataW.Trod enc P W 0 (fun _ => true) true t v d ps) : ∃ A c l, v = .slice A l.length c ∧ l.length ≤ c ∧ l.length ≤ maxLen ∧ Imm K NoB W A l ∧ ∀ a ∈ l, good a := by
  obtain ⟨A, n, c, rfl⟩ := okWide_slice ht hval
  obtain ⟨fuel, hf⟩ := h
  obtain ⟨l, ⟨A', c', he', hl, hi⟩, hm, hg⟩ := opens_slice ht hc hz he enc W fuel _ _ hf
  have : Value.slice A n c = .slice A' l.length c' := by simpa [Value.cells] using he'
  cases this
  exact ⟨A, c, l, rfl, hl, hm, hi, hg⟩
theorem int_range {k : IntKind} {x : Int} (h : (Lit.int k x).wf = true) : k.min ≤ x ∧ x ≤ k.max := by simpa [Lit.wf] using h
theorem i64_range {x : Int} (h : (Lit.int .i64 x).wf = true) : -9223372036854775808 ≤ x ∧ x ≤ 9223372036854775807 := by
  simpa [Lit.wf, IntKind.min, IntKind.max, IntKind.signed, IntKind.bits] using h
theorem u64_nat {x : Int} (h : (Lit.int .u64 x).wf = true) : ∃ n : Nat, x = (n : Int) ∧ n < 18446744073709551616 := by
  have hx : 0 ≤ x ∧ x ≤ 18446744073709551615 := by simpa [Lit.wf, IntKind.min, IntKind.max, IntKind.signed, IntKind.bits] using h
  exact ⟨x.toNat, by omega, by omega⟩
theorem u16_nat {x : Int} (h : (Lit.int .u16 x).wf = true) : ∃ n : Nat, x = (n : Int) ∧ n < 65536 := by
  have hx : 0 ≤ x ∧ x ≤ 65535 := by simpa [Lit.wf, IntKind.min, IntKind.max, IntKind.signed, IntKind.bits] using h
  exact ⟨x.toNat, by omega, by omega⟩
theorem u8_nat {x : Int} (h : (Lit.int .u8 x).wf = true) : ∃ n : Nat, x = (n : Int) ∧ n < 256 := by
  have hx : 0 ≤ x ∧ x ≤ 255 := by simpa [Lit.wf, IntKind.min, IntKind.max, IntKind.signed, IntKind.bits] using h
  exact ⟨x.toNat, by omega, by omega⟩
theorem opens_bool {t : TypeId} (h : P.underlying t = some .bool) : Opens P t Kd.bool (fun _ => True) := by
  intro H enc w fuel cs x hx
  obtain ⟨b, rfl, _⟩ := DataW.trod_bool h hx
  exact ⟨b, rfl, trivial⟩
/-- a struct's fields -/
def sfs (P : Program) (t : TypeId) : Array Field := match P.underlying t with | some (.struct fs) => fs | _ => #[]
theorem opens_fields {t : TypeId} (ht : P.underlying t = some (.struct (sfs P t))) {H : Type} {enc : TypeId × Value → H} {w : World} {fuel : Nat} {cs : List Value} {x : DataW H × List MemPlace} (h : DataW.trod enc P w 0 (fun _ => true) true fuel t cs = some x) :
    cs.length = P.cellsOf t ∧ ∀ {α : Type} (i : Nat) {ft : TypeId} {off : Nat} {K : Kd α} {good : α → Prop}, ((sfs P t)[i]?).map (fun f => (f.type, f.offset)) = some (ft, off) → P.cellsOf ft = K.size → Opens P ft K good → ∃ a, K.rep NoB w a ((cs.drop off).take K.size) ∧ good a := by
  obtain ⟨xs, n, _, rfl, hl, hlen, hf⟩ := DataW.trod_struct ht h
  refine ⟨hl, fun {α} i {ft off K good} hi hc ho => ?_⟩
  cases hg : (sfs P t)[i]? with
  | none => simp [hg] at hi
  | some f =>
    simp [hg] at hi
    obtain ⟨rfl, rfl⟩ := hi
    have h1 := hf i f hg
    have hlt : i < xs.length := by rw [hlen]; exact (Array.getElem?_eq_some_iff.1 hg).1
    rw [List.getElem?_eq_getElem hlt] at h1
    rw [hc] at h1
    exact ho enc w n _ _ h1
theorem okWide_array {w : World} {r : Reach} {base n : Nat} {t e : TypeId} {v : Value} (ht : P.underlying t = some (.array n e)) (h : Value.okWide P w r base t v) : ∃ cs, v = .agg cs ∧ cs.size = P.cellsOf t := by
  unfold Value.okWide at h
  rw [ht] at h
  cases v <;> simp at h
  exact ⟨_, rfl, h.1⟩
/-- two flags, as an array -/
theorem arg_flags2 {H : Type} {enc : TypeId × Value → H} {W : World} {r : Reach} {base : Nat} {t e : TypeId} {v : Value} {d : DataW H} {ps : List MemPlace} (ht : P.underlying t = some (.array 2 e)) (he : P.underlying e = some .bool) (hc : P.cellsOf e = 1) (hc2 : P.cellsOf t = 2)
    (hval : Value.okWide P W r base t v) (h : DataW.Trod enc P W 0 (fun _ => true) true t v d ps) : ∃ a b, v = .agg #[.bool a, .bool b] := by
  obtain ⟨cs, rfl, hs⟩ := okWide_array ht hval
  obtain ⟨fuel, hf⟩ := h
  obtain ⟨xs, m, _, _, hl, hlen, hx⟩ := DataW.trod_array ht hf
  rw [hc2] at hs
  rw [hc] at hx
  obtain ⟨l⟩ := cs
  match l, hs, xs, hlen with
  | [c0, c1], _, [x0, x1], _ =>
    obtain ⟨a, ha, _⟩ := DataW.trod_bool he (show DataW.trod enc P W 0 (fun _ => true) true m e [c0] = some x0 from hx 0 (by decide))
    obtain ⟨b, hb, _⟩ := DataW.trod_bool he (show DataW.trod enc P W 0 (fun _ => true) true m e [c1] = some x1 from hx 1 (by decide))
    cases ha; cases hb
    exact ⟨a, b, rfl⟩
end
end Go.Sx
/- Layer 3: an argument of values. -/
set_option linter.unusedVariables false
namespace Go.Proofs.YtaifphjenebgoaaDoor
open Go Go.Sx R1
theorem opens_V : Opens Tryd.prog 51 KV good := by
  intro H enc w fuel cs x hx
  obtain ⟨hl, hf⟩ := opens_fields (by kernel_rfl) hx
  obtain ⟨k, hk, gk⟩ := hf 0 (ft := 49) (off := 0) (K := Kd.int .u8) (by kernel_rfl) (by kernel_rfl) (opens_int (by kernel_rfl))
  obtain ⟨n, hn, gn⟩ := hf 1 (ft := 2) (off := 1) (K := Kd.int .i64) (by kernel_rfl) (by kernel_rfl) (opens_int (by kernel_rfl))
  obtain ⟨s, hs, gs⟩ := hf 2 (ft := 9) (off := 2) (K := Kd.str) (by kernel_rfl) (by kernel_rfl) (opens_str (by kernel_rfl))
  have hl3 : cs.length = 3 := hl.trans (by kernel_rfl)
  match cs, hl3 with
  | [a, b, c], _ =>
    have hk : [a] = [.int .u8 k] := hk
    have hn : [b] = [.int .i64 n] := hn
    have hs : [c] = [.string s] := hs
    obtain ⟨m, rfl, hm⟩ := u8_nat gk
    exact ⟨⟨(m : Int), n, s⟩, by cases hk; cases hn; cases hs; rfl, ⟨by dsimp only; omega, by dsimp only; omega⟩, i64_range gn, gs⟩
theorem opens_flag : Opens Tryd.prog 4 Kd.bool (fun _ => True) := opens_bool (by kernel_rfl)
end Go.Proofs.YtaifphjenebgoaaDoor
/- Layer 15: an argument that is a program. -/
set_option linter.unusedVariables false
set_option linter.unusedSimpArgs false
namespace Go.Proofs.YtaifphjenebgoaaDoor
open Go Go.Sx R1 K15
def isI (x : Int) : Prop := -9223372036854775808 ≤ x ∧ x ≤ 9223372036854775807
def gCur (c : Cur) : Prop := c.name.size ≤ maxLen
def gSrt (s : Srt) : Prop := s.desc.length ≤ maxLen ∧ isI s.cols
def gTot (t : Tot) : Prop := t.fn.size ≤ maxLen
def gIns (i : Ins) : Prop := (0 ≤ i.op ∧ i.op < 256) ∧ isI i.a ∧ isI i.b ∧ isI i.c ∧ isI i.d
theorem opens_Cur : Opens Tryd.prog 53 KCur gCur := by
  intro H enc w fuel cs x hx
  obtain ⟨hl, hf⟩ := opens_fields (by kernel_rfl) hx
  obtain ⟨a, ha, g1⟩ := hf 0 (ft := 9) (off := 0) (K := Kd.str) (by kernel_rfl) (by kernel_rfl) (opens_str (by kernel_rfl))
  obtain ⟨b, hb, _⟩ := hf 1 (ft := 4) (off := 1) (K := Kd.bool) (by kernel_rfl) (by kernel_rfl) (opens_bool (by kernel_rfl))
  obtain ⟨c, hc, _⟩ := hf 2 (ft := 4) (off := 2) (K := Kd.bool) (by kernel_rfl) (by kernel_rfl) (opens_bool (by kernel_rfl))
  have hl3 : cs.length = 3 := hl.trans (by kernel_rfl)
  match cs, hl3 with
  | [x, y, z], _ =>
    have ha : [x] = [.string a] := ha
    have hb : [y] = [.bool b] := hb
    have hc : [z] = [.bool c] := hc
    exact ⟨⟨a, b, c⟩, by cases ha; cases hb; cases hc; rfl, g1⟩
theorem opens_Tot : Opens Tryd.prog 58 KTot gTot := by
  intro H enc w fuel cs x hx
  obtain ⟨hl, hf⟩ := opens_fields (by kernel_rfl) hx
  obtain ⟨a, ha, g1⟩ := hf 0 (ft := 9) (off := 0) (K := Kd.str) (by kernel_rfl) (by kernel_rfl) (opens_str (by kernel_rfl))
  obtain ⟨b, hb, _⟩ := hf 1 (ft := 4) (off := 1) (K := Kd.bool) (by kernel_rfl) (by kernel_rfl) (opens_bool (by kernel_rfl))
  have hl3 : cs.length = 2 := hl.trans (by kernel_rfl)
  match cs, hl3 with
  | [x, y], _ =>
    have ha : [x] = [.string a] := ha
    have hb : [y] = [.bool b] := hb
    exact ⟨⟨a, b⟩, by cases ha; cases hb; rfl, g1⟩
theorem opens_Srt : Opens Tryd.prog 56 KSrt gSrt := by
  intro H enc w fuel cs x hx
  obtain ⟨hl, hf⟩ := opens_fields (by kernel_rfl) hx
  obtain ⟨a, ha, g1, _⟩ := hf 0 (ft := 54) (off := 0) (K := Kd.slice Kd.bool (by decide)) (by kernel_rfl) (by kernel_rfl) (opens_slice (by kernel_rfl) (by kernel_rfl) (by decide) (opens_bool (t := 4) (by kernel_rfl)))
  obtain ⟨b, hb, g2⟩ := hf 1 (ft := 3) (off := 1) (K := Kd.int .i64) (by kernel_rfl) (by kernel_rfl) (opens_int (by kernel_rfl))
  obtain ⟨c, hc, _⟩ := hf 2 (ft := 4) (off := 2) (K := Kd.bool) (by kernel_rfl) (by kernel_rfl) (opens_bool (by kernel_rfl))
  have hl3 : cs.length = 3 := hl.trans (by kernel_rfl)
  match cs, hl3 with
  | [x, y, z], _ =>
    obtain ⟨A, d, ha, hd, hi⟩ := ha
    have ha : [x] = [.slice A a.length d] := ha
    have hb : [y] = [.int .i64 b] := hb
    have hc : [z] = [.bool c] := hc
    exact ⟨⟨a, b, c⟩, ⟨A, d, by cases ha; cases hb; cases hc; rfl, hd, hi⟩, g1, i64_range g2⟩
theorem opens_Ins : Opens Tryd.prog 38 KIns gIns := by
  intro H enc w fuel cs x hx
  obtain ⟨hl, hf⟩ := opens_fields (by kernel_rfl) hx
  obtain ⟨a, ha, g1⟩ := hf 0 (ft := 36) (off := 0) (K := Kd.int .u8) (by kernel_rfl) (by kernel_rfl) (opens_int (by kernel_rfl))
  obtain ⟨b, hb, g2⟩ := hf 1 (ft := 3) (off := 1) (K := Kd.int .i64) (by kernel_rfl) (by kernel_rfl) (opens_int (by kernel_rfl))
  obtain ⟨c, hc, g3⟩ := hf 2 (ft := 3) (off := 2) (K := Kd.int .i64) (by kernel_rfl) (by kernel_rfl) (opens_int (by kernel_rfl))
  obtain ⟨d, hd, g4⟩ := hf 3 (ft := 3) (off := 3) (K := Kd.int .i64) (by kernel_rfl) (by kernel_rfl) (opens_int (by kernel_rfl))
  obtain ⟨e, he, g5⟩ := hf 4 (ft := 3) (off := 4) (K := Kd.int .i64) (by kernel_rfl) (by kernel_rfl) (opens_int (by kernel_rfl))
  have hl3 : cs.length = 5 := hl.trans (by kernel_rfl)
  match cs, hl3 with
  | [x, y, z, u, v], _ =>
    have ha : [x] = [.int .u8 a] := ha
    have hb : [y] = [.int .i64 b] := hb
    have hc : [z] = [.int .i64 c] := hc
    have hd : [u] = [.int .i64 d] := hd
    have he : [v] = [.int .i64 e] := he
    obtain ⟨m, rfl, hm⟩ := u8_nat g1
    exact ⟨⟨(m : Int), b, c, d, e⟩, by cases ha; cases hb; cases hc; cases hd; cases he; rfl, ⟨by dsimp only; omega, by dsimp only; omega⟩, i64_range g2, i64_range g3, i64_range g4, i64_range g5⟩
/-- what an argument is, by its type alone -/
structure gProg (p : Prog) : Prop where
  ver : isI p.ver
  regs : isI p.regs
  binds : isI p.binds
  names : ∀ s ∈ p.names, s.size ≤ maxLen
  consts : ∀ v ∈ p.consts, good v
  curs : ∀ c ∈ p.curs, gCur c
  sorts : ∀ s ∈ p.sorts, gSrt s
  tots : ∀ t ∈ p.tots, gTot t
  code : ∀ i ∈ p.code, gIns i
theorem okWide_struct {P : Program} {w : World} {r : Reach} {base : Nat} {t : TypeId} {fs : Array Field} {v : Value} (ht : P.underlying t = some (.struct fs)) (h : Value.okWide P w r base t v) : ∃ cs, v = .agg cs ∧ cs.size = P.cellsOf t := by
  unfold Value.okWide at h
  rw [ht] at h
  cases v <;> simp at h
  exact ⟨_, rfl, h.1⟩
set_option maxRecDepth 10000 in
theorem arg_prog {H : Type} {enc : TypeId × Value → H} {W : World} {r : Reach} {base : Nat} {v : Value} {d : DataW H} {ps : List MemPlace}
    (hval : Value.okWide Tryd.prog W r base 29 v) (h : DataW.Trod enc Tryd.prog W 0 (fun _ => true) true 29 v d ps) : ∃ p a, v = pagg p a ∧ PIm W p a ∧ gProg p := by
  obtain ⟨arr, rfl, hs⟩ := okWide_struct (fs := sfs Tryd.prog 29) (by kernel_rfl) hval
  obtain ⟨fuel, hf⟩ := h
  obtain ⟨hl, hf⟩ := opens_fields (by kernel_rfl) hf
  obtain ⟨ver, h0, g0⟩ := hf 0 (ft := 3) (off := 0) (K := Kd.int .i64) (by kernel_rfl) (by kernel_rfl) (opens_int (by kernel_rfl))
  obtain ⟨regs, h1, g1⟩ := hf 1 (ft := 3) (off := 1) (K := Kd.int .i64) (by kernel_rfl) (by kernel_rfl) (opens_int (by kernel_rfl))
  obtain ⟨binds, h2, g2⟩ := hf 2 (ft := 3) (off := 2) (K := Kd.int .i64) (by kernel_rfl) (by kernel_rfl) (opens_int (by kernel_rfl))
  obtain ⟨names, ⟨A3, c3, h3, k3, i3⟩, m3, g3⟩ := hf 3 (ft := 22) (off := 3) (K := Kd.slice Kd.str KStr_pos) (by kernel_rfl) (by kernel_rfl) (opens_slice (by kernel_rfl) (by kernel_rfl) KStr_pos (opens_str (t := 9) (by kernel_rfl)))
  obtain ⟨consts, ⟨A4, c4, h4, k4, i4⟩, m4, g4⟩ := hf 4 (ft := 23) (off := 4) (K := Kd.slice KV KV_pos) (by kernel_rfl) (by kernel_rfl) (opens_slice (by kernel_rfl) (by kernel_rfl) KV_pos opens_V)
  obtain ⟨curs, ⟨A5, c5, h5, k5, i5⟩, m5, g5⟩ := hf 5 (ft := 24) (off := 5) (K := Kd.slice KCur KCur_pos) (by kernel_rfl) (by kernel_rfl) (opens_slice (by kernel_rfl) (by kernel_rfl) KCur_pos opens_Cur)
  obtain ⟨sorts, ⟨A6, c6, h6, k6, i6⟩, m6, g6⟩ := hf 6 (ft := 25) (off := 6) (K := Kd.slice KSrt KSrt_pos) (by kernel_rfl) (by kernel_rfl) (opens_slice (by kernel_rfl) (by kernel_rfl) KSrt_pos opens_Srt)
  obtain ⟨tots, ⟨A7, c7, h7, k7, i7⟩, m7, g7⟩ := hf 7 (ft := 26) (off := 7) (K := Kd.slice KTot KTot_pos) (by kernel_rfl) (by kernel_rfl) (opens_slice (by kernel_rfl) (by kernel_rfl) KTot_pos opens_Tot)
  obtain ⟨code, ⟨A8, c8, h8, k8, i8⟩, m8, g8⟩ := hf 8 (ft := 27) (off := 8) (K := Kd.slice KIns KIns_pos) (by kernel_rfl) (by kernel_rfl) (opens_slice (by kernel_rfl) (by kernel_rfl) KIns_pos opens_Ins)
  have hl9 : arr.size = 9 := hs.trans (by kernel_rfl)
  obtain ⟨cs⟩ := arr
  have hl9 : cs.length = 9 := hl9
  match cs, hl9 with
  | [x0, x1, x2, x3, x4, x5, x6, x7, x8], _ =>
    have h0 : [x0] = [.int .i64 ver] := h0
    have h1 : [x1] = [.int .i64 regs] := h1
    have h2 : [x2] = [.int .i64 binds] := h2
    have h3 : [x3] = [.slice A3 names.length c3] := h3
    have h4 : [x4] = [.slice A4 consts.length c4] := h4
    have h5 : [x5] = [.slice A5 curs.length c5] := h5
    have h6 : [x6] = [.slice A6 sorts.length c6] := h6
    have h7 : [x7] = [.slice A7 tots.length c7] := h7
    have h8 : [x8] = [.slice A8 code.length c8] := h8
    exact ⟨⟨ver, regs, binds, names, consts, curs, sorts, tots, code⟩, ⟨A3, c3, A4, c4, A5, c5, A6, c6, A7, c7, A8, c8⟩, by cases h0; cases h1; cases h2; cases h3; cases h4; cases h5; cases h6; cases h7; cases h8; rfl,
      ⟨i3, i4, i5, i6, i7, i8, m3, m4, m5, m6, m7, m8, k8⟩, ⟨i64_range g0, i64_range g1, i64_range g2, g3, g4, g5, g6, g7, g8⟩⟩
end Go.Proofs.YtaifphjenebgoaaDoor
