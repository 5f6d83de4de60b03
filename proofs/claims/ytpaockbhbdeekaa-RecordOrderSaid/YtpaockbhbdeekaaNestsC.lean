/- The preconditions of Go functions, printed by a program of this workplace (nests.py); each is proved to be the engine's own. -/
import Derived.Test.YtpaockbhbdeekaaProg
import Derived.Test.YtpaockbhbdeekaaSxWp
set_option linter.unusedVariables false
set_option maxRecDepth 100000
namespace Go.Proofs.Ytpaockbhbdeekaa
open Go Go.Sx
noncomputable def internal_bytealg_CompareString.W : ByteArray → ByteArray → World → (Value → World → Prop) → Prop := fun (a b : ByteArray) (w : Go.World) (K : Go.Value → Go.World → Prop) => ∃ (x :
 Int), ∃ (w' : Go.World), Go.Sx.RunsTo Go.Proofs.Try.prog (Go.callFunc (72 : Nat) #[Go.Value.string a, Go.Value.string b]) w (Go.Next.value (Go.Value.int Go.IntKind.i64 x)) w' ∧ K (Go.Value.int
 Go.IntKind.i64 x) w'
theorem internal_bytealg_CompareString.eq (a : ByteArray) (b : ByteArray) (w : World) (K : Value → World → Prop) : internal_bytealg_CompareString.W a b w K = fnW Try.prog Try.f45 .auto [.string a, .string b] w K := by kernel_rfl
theorem internal_bytealg_CompareString.calls (ok : Okay Try.prog) {a : ByteArray} {b : ByteArray} {w : World} {K : Value → World → Prop} (h : internal_bytealg_CompareString.W a b w K) : CallsV Try.prog 45 #[.string a, .string b] w K :=
  fnW_calls ok Try.func45 (an := .auto) (args := [.string a, .string b]) (by rw [← internal_bytealg_CompareString.eq]; exact h)
end Go.Proofs.Ytpaockbhbdeekaa
