/- Runs of FamilyTaken, each over all bytes that have these remainders. -/
import Derived.Test.YtgolgogmhcgecaaGreatAmN
import Derived.Test.YtgolgogmhcgecaaGreatAmE
import Derived.KernelRfl
set_option linter.unusedVariables false
namespace Go.Am.Gs.FamilyTaken
theorem x0_1 : isTrue (evF tabFamilyTaken4 200 6 [.res .u8 9 0, .res .u8 4 1] ⟨.leaf, 1⟩) = true := by kernel_rfl
theorem x0_3 : isTrue (evF tabFamilyTaken4 200 6 [.res .u8 9 0, .res .u8 4 3] ⟨.leaf, 1⟩) = true := by kernel_rfl
theorem x1_1 : isTrue (evF tabFamilyTaken4 200 6 [.res .u8 9 1, .res .u8 2 1] ⟨.leaf, 1⟩) = true := by kernel_rfl
theorem x2_1 : isTrue (evF tabFamilyTaken4 200 6 [.res .u8 9 2, .res .u8 3 1] ⟨.leaf, 1⟩) = true := by kernel_rfl
theorem x3_0 : isTrue (evF tabFamilyTaken4 200 6 [.res .u8 9 3, .res .u8 3 0] ⟨.leaf, 1⟩) = true := by kernel_rfl
theorem x3_2 : isTrue (evF tabFamilyTaken4 200 6 [.res .u8 9 3, .res .u8 3 2] ⟨.leaf, 1⟩) = true := by kernel_rfl
theorem x4_1 : isTrue (evF tabFamilyTaken4 200 6 [.res .u8 9 4, .res .u8 4 1] ⟨.leaf, 1⟩) = true := by kernel_rfl
theorem x4_3 : isTrue (evF tabFamilyTaken4 200 6 [.res .u8 9 4, .res .u8 4 3] ⟨.leaf, 1⟩) = true := by kernel_rfl
theorem x5_1 : isTrue (evF tabFamilyTaken4 200 6 [.res .u8 9 5, .res .u8 4 1] ⟨.leaf, 1⟩) = true := by kernel_rfl
theorem x5_3 : isTrue (evF tabFamilyTaken4 200 6 [.res .u8 9 5, .res .u8 4 3] ⟨.leaf, 1⟩) = true := by kernel_rfl
theorem x6_1 : isTrue (evF tabFamilyTaken4 200 6 [.res .u8 9 6, .res .u8 4 1] ⟨.leaf, 1⟩) = true := by kernel_rfl
theorem x6_3 : isTrue (evF tabFamilyTaken4 200 6 [.res .u8 9 6, .res .u8 4 3] ⟨.leaf, 1⟩) = true := by kernel_rfl
theorem x7_1 : isTrue (evF tabFamilyTaken4 200 6 [.res .u8 9 7, .res .u8 4 1] ⟨.leaf, 1⟩) = true := by kernel_rfl
theorem x7_3 : isTrue (evF tabFamilyTaken4 200 6 [.res .u8 9 7, .res .u8 4 3] ⟨.leaf, 1⟩) = true := by kernel_rfl
theorem x8_1 : isTrue (evF tabFamilyTaken4 200 6 [.res .u8 9 8, .res .u8 3 1] ⟨.leaf, 1⟩) = true := by kernel_rfl
end Go.Am.Gs.FamilyTaken
