/- Runs of FamilySizes, each over all bytes that have these remainders. -/
import Derived.Test.YtgolgogmhcgecaaGreatAmF
import Derived.Test.YtgolgogmhcgecaaGreatAmE
import Derived.KernelRfl
set_option linter.unusedVariables false
namespace Go.Am.Gs.FamilySizes
theorem x0_1 : isTrue (evF tab2 200 7 [.res .u8 4 0, .res .u8 4 1] ⟨.leaf, 1⟩) = true := by kernel_rfl
theorem x0_3 : isTrue (evF tab2 200 7 [.res .u8 4 0, .res .u8 4 3] ⟨.leaf, 1⟩) = true := by kernel_rfl
theorem x1_1 : isTrue (evF tab2 200 7 [.res .u8 4 1, .res .u8 4 1] ⟨.leaf, 1⟩) = true := by kernel_rfl
theorem x1_3 : isTrue (evF tab2 200 7 [.res .u8 4 1, .res .u8 4 3] ⟨.leaf, 1⟩) = true := by kernel_rfl
theorem x2_1 : isTrue (evF tab2 200 7 [.res .u8 4 2, .res .u8 4 1] ⟨.leaf, 1⟩) = true := by kernel_rfl
theorem x2_3 : isTrue (evF tab2 200 7 [.res .u8 4 2, .res .u8 4 3] ⟨.leaf, 1⟩) = true := by kernel_rfl
theorem x3_1 : isTrue (evF tab2 200 7 [.res .u8 4 3, .res .u8 4 1] ⟨.leaf, 1⟩) = true := by kernel_rfl
theorem x3_3 : isTrue (evF tab2 200 7 [.res .u8 4 3, .res .u8 4 3] ⟨.leaf, 1⟩) = true := by kernel_rfl
end Go.Am.Gs.FamilySizes
