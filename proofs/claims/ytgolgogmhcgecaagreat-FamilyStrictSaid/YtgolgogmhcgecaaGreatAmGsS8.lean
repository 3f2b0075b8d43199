/- A function without arguments, run once: its summary. -/
import Derived.Test.YtgolgogmhcgecaaGreatAmGsTab1
import Derived.KernelRfl
set_option linter.unusedVariables false
namespace Go.Am.Gs
open Go.Proofs
noncomputable def s8V : AV := (.bool true)
noncomputable def s8O : List AObj := []
noncomputable def s8 : FFn := sumF s8V s8O
set_option maxRecDepth 100000 in
theorem s8Ok : FnSound Tryz.prog 8 s8 := sum_sound (ids := []) (n := 200) tab1Ok (by kernel_rfl)
end Go.Am.Gs
