/-
  OF NO PATTERN THERE IS NOTHING, said of the plain function that RegexNobody computes: whatever the list, with fuel 60 it gives true.
-/
import Derived.Test.YtkkflfmonidepaaDoorFs
import Derived.KernelRfl
namespace Go.Proofs.YtkkflfmonidepaaDoor
open Sp
theorem nobody_law (x0 : List Int) (_ : x0.length ≤ Go.maxLen ∧ ∀ x ∈ x0, (Go.Lit.int .u32 x).wf = true) : ∃ k, speculumlaw11_RegexNobody.f k x0 = some true := ⟨60, by kernel_rfl⟩
end Go.Proofs.YtkkflfmonidepaaDoor
