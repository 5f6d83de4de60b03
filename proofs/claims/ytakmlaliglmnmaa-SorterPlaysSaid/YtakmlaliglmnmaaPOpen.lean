/- Layer 7: an argument of calls. -/
import Derived.Test.YtakmlaliglmnmaaP5
import Derived.Test.YtakmlaliglmnmaaROpen
import Derived.Test.YtakmlaliglmnmaaSxOpen
set_option linter.unusedVariables false
namespace Go.Proofs.Ytakmlaliglmnmaa
open Go Go.Sx R1 S1
theorem opens_Vs : Opens Try.prog 32 (Kd.slice KV KV_pos) (fun l => l.length ≤ maxLen ∧ ∀ a ∈ l, good a) := opens_slice Try.underlying32 (by kernel_rfl) KV_pos opens_V
theorem opens_Op : Opens Try.prog 48 KOp goodOp := by
  intro H enc w fuel cs x hx
  obtain ⟨hl, hf⟩ := opens_fields (by kernel_rfl) hx
  have hl3 : cs.length = 3 := hl.trans (by kernel_rfl)
  obtain ⟨k, hk, _⟩ := hf (K := Kd.int .i64) 0 (ft := 3) (off := 0) (by kernel_rfl) (by kernel_rfl) (opens_int Try.underlying3)
  obtain ⟨a, ha, ga⟩ := hf (K := Kd.slice KV KV_pos) 1 (ft := 32) (off := 1) (by kernel_rfl) (by kernel_rfl) opens_Vs
  obtain ⟨b, hb, gb⟩ := hf (K := Kd.slice KV KV_pos) 2 (ft := 32) (off := 2) (by kernel_rfl) (by kernel_rfl) opens_Vs
  match cs, hl3 with
  | [c0, c1, c2], _ =>
    have hk : [c0] = [.int .i64 k] := hk
    obtain ⟨A, c, ha, _, ia⟩ := ha
    obtain ⟨B, d, hb, _, ib⟩ := hb
    have ha : [c1] = [.slice A a.length c] := ha
    have hb : [c2] = [.slice B b.length d] := hb
    cases hk; cases ha; cases hb
    exact ⟨⟨k, a, b⟩, ⟨A, c, B, d, rfl, ia, ib⟩, ga, gb⟩
end Go.Proofs.Ytakmlaliglmnmaa
