/- The example, computed. -/
import Derived.Test.YtnahhhaicalmcaaDoorAbEval
import Derived.Test.YtnahhhaicalmcaaDoorAbLaw
import Derived.Test.YtnahhhaicalmcaaDoorCEq
import Derived.Test.YtnahhhaicalmcaaDoorCLb
set_option linter.unusedVariables false
set_option linter.unusedSimpArgs false
namespace Go.Proofs.YtnahhhaicalmcaaDoor
open Go.Ab
set_option maxRecDepth 100000

theorem K_mono : PrimMono K := fun g h hp F F' hF us r hr => by
  have hm := assoc_mem (show assoc prs g = some h from hp)
  simp only [prs, List.mem_cons, List.mem_nil_iff, or_false, Prod.mk.injEq] at hm
  rcases hm with ⟨rfl, rfl⟩ | ⟨rfl, rfl⟩ | ⟨rfl, rfl⟩ | ⟨rfl, rfl⟩ <;> exact hr
theorem s9 : Fi K 9 [] = some (.B true) := Fi_eval K_mono (n := 40) (by kernel_rfl)
end Go.Proofs.YtnahhhaicalmcaaDoor
