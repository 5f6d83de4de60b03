/- Layer 3: an argument of values. -/
import Derived.Test.YtakmlaliglmnmaaR1
import Derived.Test.YtakmlaliglmnmaaSxOpen
set_option linter.unusedVariables false
namespace Go.Proofs.Ytakmlaliglmnmaa
open Go Go.Sx R1
theorem opens_V : Opens Try.prog 31 KV good := by
  intro H enc w fuel cs x hx
  obtain ⟨hl, hf⟩ := opens_fields (by kernel_rfl) hx
  obtain ⟨k, hk, gk⟩ := hf 0 (ft := 29) (off := 0) (K := Kd.int .u8) (by kernel_rfl) (by kernel_rfl) (opens_int (by kernel_rfl))
  obtain ⟨n, hn, gn⟩ := hf 1 (ft := 2) (off := 1) (K := Kd.int .i64) (by kernel_rfl) (by kernel_rfl) (opens_int (by kernel_rfl))
  obtain ⟨s, hs, gs⟩ := hf 2 (ft := 9) (off := 2) (K := Kd.str) (by kernel_rfl) (by kernel_rfl) (opens_str (by kernel_rfl))
  have hl3 : cs.length = 3 := hl.trans (by kernel_rfl)
  match cs, hl3 with
  | [a, b, c], _ =>
    have hk : [a] = [.int .u8 k] := hk
    have hn : [b] = [.int .i64 n] := hn
    have hs : [c] = [.string s] := hs
    obtain ⟨m, rfl, hm⟩ := u8_nat gk
    exact ⟨⟨(m : Int), n, s⟩, by cases hk; cases hn; cases hs; rfl, ⟨by dsimp only; omega, by dsimp only; omega⟩, i64_range gn, gs⟩
theorem opens_flag : Opens Try.prog 4 Kd.bool (fun _ => True) := opens_bool (by kernel_rfl)
end Go.Proofs.Ytakmlaliglmnmaa
