/- An argument that reads as data, as the engine's own kinds of memory. -/
import Derived.Test.YtakmlaliglmnmaaSxClaim
import Derived.Deep.Slices
import Derived.ChangeMaps5
import Derived.OpenShut
set_option linter.unusedVariables false
set_option linter.unusedSimpArgs false
namespace Go.Sx
open Go.ChangeShapes Go.WideShapes Go.ChangeAt Go.RowKit
/-- what reads as data of type t is of kind K -/
def Opens {α : Type} (P : Program) (t : TypeId) (K : Kd α) (good : α → Prop) : Prop :=
  ∀ {H : Type} (enc : TypeId × Value → H) (w : World) (fuel : Nat) (cs : List Value) (x : DataW H × List MemPlace), DataW.trod enc P w 0 (fun _ => true) true fuel t cs = some x → ∃ a, K.rep NoB w a cs ∧ good a
section
variable {P : Program}
theorem opens_u8 {t : TypeId} (h : P.underlying t = some (.int .u8)) : Opens P t Kd.u8 (fun _ => True) := by
  intro H enc w fuel cs x hx
  obtain ⟨n, rfl, _, hw⟩ := DataW.trod_int h hx
  have hb : 0 ≤ n ∧ n ≤ 255 := by simpa [Lit.wf, IntKind.min, IntKind.max, IntKind.signed, IntKind.bits] using hw
  refine ⟨n.toNat.toUInt8, ?_, trivial⟩
  show [Value.int .u8 n] = [u8 n.toNat.toUInt8]
  rw [← toUInt8_int (by omega), Int.toNat_of_nonneg hb.1]
theorem opens_int {t : TypeId} {k : IntKind} (h : P.underlying t = some (.int k)) : Opens P t (Kd.int k) (fun n => (Lit.int k n).wf = true) := by
  intro H enc w fuel cs x hx
  obtain ⟨n, rfl, _, hw⟩ := DataW.trod_int h hx
  exact ⟨n, rfl, hw⟩
theorem opens_str {t : TypeId} (h : P.underlying t = some .string) : Opens P t Kd.str (fun s => s.size ≤ maxLen) := by
  intro H enc w fuel cs x hx
  obtain ⟨s, rfl, _, hs⟩ := DataW.trod_string h hx
  exact ⟨s, rfl, hs⟩
theorem opens_slice {α : Type} {K : Kd α} {t e : TypeId} {good : α → Prop} (ht : P.underlying t = some (.slice e)) (hc : P.cellsOf e = K.size) (hz : 0 < K.size) (he : Opens P e K good) :
    Opens P t (Kd.slice K hz) (fun l => l.length ≤ maxLen ∧ ∀ a ∈ l, good a) := by
  intro H enc w fuel cs x hx
  rcases Go.Deep.open_slice ht hx with ⟨rfl, _⟩ | ⟨a, len, cap, m, n, D, Pl, rfl, _, hl, hm, hmm, _, hel⟩
  · exact ⟨[], ⟨none, 0, rfl, Nat.le_refl _, Imm.nil K _ _ _⟩, by simp, by simp⟩
  · rw [if_pos rfl] at hmm
    subst hmm
    have hex : ∀ i : Fin len, ∃ b, ∃ cs', w.cells? 0 (a.add (i.val * K.size)) K.size = some cs' ∧ K.rep NoB w b cs' ∧ good b := fun i => by
      obtain ⟨cs', h1, h2⟩ := hel i.val (Nat.lt_of_lt_of_le i.isLt hl)
      obtain ⟨b, hb, hg⟩ := he enc w n cs' _ h2
      rw [hc] at h1
      exact ⟨b, cs', h1, hb, hg⟩
    let f : Fin len → α := fun i => Classical.choose (hex i)
    have hf : ∀ i, ∃ cs', w.cells? 0 (a.add (i.val * K.size)) K.size = some cs' ∧ K.rep NoB w (f i) cs' ∧ good (f i) := fun i => Classical.choose_spec (hex i)
    refine ⟨List.ofFn f, ⟨some a, m, by rw [List.length_ofFn], by rw [List.length_ofFn]; exact hl, ?_⟩, by rw [List.length_ofFn]; omega, ?_⟩
    · intro i b hi
      have hlt : i < len := by have := (List.getElem?_eq_some_iff.1 hi).1; rwa [List.length_ofFn] at this
      have hb : f ⟨i, hlt⟩ = b := by simpa [List.getElem?_ofFn, hlt] using hi
      obtain ⟨cs', h1, h2, _⟩ := hf ⟨i, hlt⟩
      rw [hb] at h2
      refine ⟨a, rfl, fun h => h, cs', h2, fun j v hj => ?_⟩
      obtain ⟨_, hlen, hcell⟩ := World.cells?_some h1
      have hjl : j < K.size := by rw [← hlen]; exact (List.getElem?_eq_some_iff.1 hj).1
      rw [← add_add, hcell j hjl]
      exact hj
    · intro b hb
      obtain ⟨i, rfl⟩ := List.mem_ofFn.1 hb
      obtain ⟨_, _, _, hg⟩ := hf i
      exact hg

/-- an argument that is a slice -/
theorem arg_slice {α : Type} {K : Kd α} {H : Type} {enc : TypeId × Value → H} {W : World} {r : Reach} {base : Nat} {t e : TypeId} {good : α → Prop} {v : Value} {d : DataW H} {ps : List MemPlace} (ht : P.underlying t = some (.slice e)) (hc : P.cellsOf e = K.size) (hz : 0 < K.size) (he : Opens P e K good)
    (hval : Value.okWide P W r base t v) (h : DataW.Trod enc P W 0 (fun _ => true) true t v d ps) : ∃ A c l, v = .slice A l.length c ∧ l.length ≤ c ∧ l.length ≤ maxLen ∧ Imm K NoB W A l ∧ ∀ a ∈ l, good a := by
  obtain ⟨A, n, c, rfl⟩ := okWide_slice ht hval
  obtain ⟨fuel, hf⟩ := h
  obtain ⟨l, ⟨A', c', he', hl, hi⟩, hm, hg⟩ := opens_slice ht hc hz he enc W fuel _ _ hf
  have : Value.slice A n c = .slice A' l.length c' := by simpa [Value.cells] using he'
  cases this
  exact ⟨A, c, l, rfl, hl, hm, hi, hg⟩
theorem int_range {k : IntKind} {x : Int} (h : (Lit.int k x).wf = true) : k.min ≤ x ∧ x ≤ k.max := by simpa [Lit.wf] using h
theorem i64_range {x : Int} (h : (Lit.int .i64 x).wf = true) : -9223372036854775808 ≤ x ∧ x ≤ 9223372036854775807 := by
  simpa [Lit.wf, IntKind.min, IntKind.max, IntKind.signed, IntKind.bits] using h
theorem u64_nat {x : Int} (h : (Lit.int .u64 x).wf = true) : ∃ n : Nat, x = (n : Int) ∧ n < 18446744073709551616 := by
  have hx : 0 ≤ x ∧ x ≤ 18446744073709551615 := by simpa [Lit.wf, IntKind.min, IntKind.max, IntKind.signed, IntKind.bits] using h
  exact ⟨x.toNat, by omega, by omega⟩
theorem u16_nat {x : Int} (h : (Lit.int .u16 x).wf = true) : ∃ n : Nat, x = (n : Int) ∧ n < 65536 := by
  have hx : 0 ≤ x ∧ x ≤ 65535 := by simpa [Lit.wf, IntKind.min, IntKind.max, IntKind.signed, IntKind.bits] using h
  exact ⟨x.toNat, by omega, by omega⟩
theorem u8_nat {x : Int} (h : (Lit.int .u8 x).wf = true) : ∃ n : Nat, x = (n : Int) ∧ n < 256 := by
  have hx : 0 ≤ x ∧ x ≤ 255 := by simpa [Lit.wf, IntKind.min, IntKind.max, IntKind.signed, IntKind.bits] using h
  exact ⟨x.toNat, by omega, by omega⟩
theorem opens_bool {t : TypeId} (h : P.underlying t = some .bool) : Opens P t Kd.bool (fun _ => True) := by
  intro H enc w fuel cs x hx
  obtain ⟨b, rfl, _⟩ := DataW.trod_bool h hx
  exact ⟨b, rfl, trivial⟩
/-- a struct's fields -/
def sfs (P : Program) (t : TypeId) : Array Field := match P.underlying t with | some (.struct fs) => fs | _ => #[]
theorem opens_fields {t : TypeId} (ht : P.underlying t = some (.struct (sfs P t))) {H : Type} {enc : TypeId × Value → H} {w : World} {fuel : Nat} {cs : List Value} {x : DataW H × List MemPlace} (h : DataW.trod enc P w 0 (fun _ => true) true fuel t cs = some x) :
    cs.length = P.cellsOf t ∧ ∀ {α : Type} (i : Nat) {ft : TypeId} {off : Nat} {K : Kd α} {good : α → Prop}, ((sfs P t)[i]?).map (fun f => (f.type, f.offset)) = some (ft, off) → P.cellsOf ft = K.size → Opens P ft K good → ∃ a, K.rep NoB w a ((cs.drop off).take K.size) ∧ good a := by
  obtain ⟨xs, n, _, rfl, hl, hlen, hf⟩ := DataW.trod_struct ht h
  refine ⟨hl, fun {α} i {ft off K good} hi hc ho => ?_⟩
  cases hg : (sfs P t)[i]? with
  | none => simp [hg] at hi
  | some f =>
    simp [hg] at hi
    obtain ⟨rfl, rfl⟩ := hi
    have h1 := hf i f hg
    have hlt : i < xs.length := by rw [hlen]; exact (Array.getElem?_eq_some_iff.1 hg).1
    rw [List.getElem?_eq_getElem hlt] at h1
    rw [hc] at h1
    exact ho enc w n _ _ h1
theorem okWide_array {w : World} {r : Reach} {base n : Nat} {t e : TypeId} {v : Value} (ht : P.underlying t = some (.array n e)) (h : Value.okWide P w r base t v) : ∃ cs, v = .agg cs ∧ cs.size = P.cellsOf t := by
  unfold Value.okWide at h
  rw [ht] at h
  cases v <;> simp at h
  exact ⟨_, rfl, h.1⟩
/-- two flags, as an array -/
theorem arg_flags2 {H : Type} {enc : TypeId × Value → H} {W : World} {r : Reach} {base : Nat} {t e : TypeId} {v : Value} {d : DataW H} {ps : List MemPlace} (ht : P.underlying t = some (.array 2 e)) (he : P.underlying e = some .bool) (hc : P.cellsOf e = 1) (hc2 : P.cellsOf t = 2)
    (hval : Value.okWide P W r base t v) (h : DataW.Trod enc P W 0 (fun _ => true) true t v d ps) : ∃ a b, v = .agg #[.bool a, .bool b] := by
  obtain ⟨cs, rfl, hs⟩ := okWide_array ht hval
  obtain ⟨fuel, hf⟩ := h
  obtain ⟨xs, m, _, _, hl, hlen, hx⟩ := DataW.trod_array ht hf
  rw [hc2] at hs
  rw [hc] at hx
  obtain ⟨l⟩ := cs
  match l, hs, xs, hlen with
  | [c0, c1], _, [x0, x1], _ =>
    obtain ⟨a, ha, _⟩ := DataW.trod_bool he (show DataW.trod enc P W 0 (fun _ => true) true m e [c0] = some x0 from hx 0 (by decide))
    obtain ⟨b, hb, _⟩ := DataW.trod_bool he (show DataW.trod enc P W 0 (fun _ => true) true m e [c1] = some x1 from hx 1 (by decide))
    cases ha; cases hb
    exact ⟨a, b, rfl⟩
end
end Go.Sx
