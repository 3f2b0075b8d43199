/- Runs of FamilyStrict, each over all bytes that have these remainders. -/
import Derived.Test.YtgolgogmhcgecaaGreatAmGsTab2
import Derived.Test.YtgolgogmhcgecaaGreatAmLaw
import Derived.KernelRfl
set_option linter.unusedVariables false
namespace Go.Am.Gs.FamilyStrict
theorem x0_0_1 : isTrue (evF tab2 200 3 [.res .u8 9 0, .res .u8 2 0, .res .u8 4 1] ⟨.leaf, 1⟩) = true := by kernel_rfl
theorem x0_1_1 : isTrue (evF tab2 200 3 [.res .u8 9 0, .res .u8 2 1, .res .u8 4 1] ⟨.leaf, 1⟩) = true := by kernel_rfl
theorem x1_0_1 : isTrue (evF tab2 200 3 [.res .u8 9 1, .res .u8 1 0, .res .u8 4 1] ⟨.leaf, 1⟩) = true := by kernel_rfl
theorem x2_0_1 : isTrue (evF tab2 200 3 [.res .u8 9 2, .res .u8 1 0, .res .u8 4 1] ⟨.leaf, 1⟩) = true := by kernel_rfl
theorem x3_0_1 : isTrue (evF tab2 200 3 [.res .u8 9 3, .res .u8 1 0, .res .u8 4 1] ⟨.leaf, 1⟩) = true := by kernel_rfl
theorem x4_0_1 : isTrue (evF tab2 200 3 [.res .u8 9 4, .res .u8 2 0, .res .u8 4 1] ⟨.leaf, 1⟩) = true := by kernel_rfl
theorem x4_1_1 : isTrue (evF tab2 200 3 [.res .u8 9 4, .res .u8 2 1, .res .u8 4 1] ⟨.leaf, 1⟩) = true := by kernel_rfl
theorem x5_0_1 : isTrue (evF tab2 200 3 [.res .u8 9 5, .res .u8 2 0, .res .u8 4 1] ⟨.leaf, 1⟩) = true := by kernel_rfl
theorem x5_1_1 : isTrue (evF tab2 200 3 [.res .u8 9 5, .res .u8 2 1, .res .u8 4 1] ⟨.leaf, 1⟩) = true := by kernel_rfl
theorem x6_0_1 : isTrue (evF tab2 200 3 [.res .u8 9 6, .res .u8 2 0, .res .u8 4 1] ⟨.leaf, 1⟩) = true := by kernel_rfl
theorem x6_1_1 : isTrue (evF tab2 200 3 [.res .u8 9 6, .res .u8 2 1, .res .u8 4 1] ⟨.leaf, 1⟩) = true := by kernel_rfl
theorem x7_0_1 : isTrue (evF tab2 200 3 [.res .u8 9 7, .res .u8 2 0, .res .u8 4 1] ⟨.leaf, 1⟩) = true := by kernel_rfl
theorem x7_1_1 : isTrue (evF tab2 200 3 [.res .u8 9 7, .res .u8 2 1, .res .u8 4 1] ⟨.leaf, 1⟩) = true := by kernel_rfl
theorem x8_0_1 : isTrue (evF tab2 200 3 [.res .u8 9 8, .res .u8 1 0, .res .u8 4 1] ⟨.leaf, 1⟩) = true := by kernel_rfl
end Go.Am.Gs.FamilyStrict
