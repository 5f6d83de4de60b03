/- Layer 7: an argument of pairs of values. -/
import Derived.Test.YtakmlaliglmnmaaS8
import Derived.Test.YtakmlaliglmnmaaROpen
import Derived.OpenShut
set_option linter.unusedVariables false
namespace Go.Proofs.Ytakmlaliglmnmaa
open Go Go.Sx R1 S1
def goodP (p : V × V) : Prop := good p.1 ∧ good p.2
theorem opens_P : Opens Try.prog 33 KP goodP := by
  intro H enc w fuel cs x hx
  obtain ⟨xs, m, _, rfl, hl, hlen, hf⟩ := DataW.trod_array (n := 2) (e := 31) (by kernel_rfl) hx
  have hc : Try.prog.cellsOf 31 = 3 := by kernel_rfl
  have hl6 : cs.length = 6 := hl.trans (by kernel_rfl)
  rw [hc] at hf
  match xs, hlen with
  | [x0, x1], _ =>
    obtain ⟨a, ha, ga⟩ := opens_V enc w m _ x0 (hf 0 (by decide))
    obtain ⟨b, hb, gb⟩ := opens_V enc w m _ x1 (hf 1 (by decide))
    match cs, hl6 with
    | [c0, c1, c2, c3, c4, c5], _ =>
      have ha : [c0, c1, c2] = vc a := ha
      have hb : [c3, c4, c5] = vc b := hb
      exact ⟨(a, b), by show [c0, c1, c2, c3, c4, c5] = vc a ++ vc b; rw [← ha, ← hb]; rfl, ga, gb⟩
end Go.Proofs.Ytakmlaliglmnmaa
