/- Runs of FamilyGood, each over all bytes that have these remainders. -/
import Derived.Test.YtgolgogmhcgecaaGreatAmW
import Derived.Test.YtgolgogmhcgecaaGreatAmE
import Derived.KernelRfl
set_option linter.unusedVariables false
namespace Go.Am.Gs.FamilyGood
theorem x0_1 : isTrue (evF tabFamilyGood5 200 5 [.res .u8 9 0, .res .u8 8 1] ⟨.leaf, 1⟩) = true := by kernel_rfl
theorem x0_3 : isTrue (evF tabFamilyGood5 200 5 [.res .u8 9 0, .res .u8 8 3] ⟨.leaf, 1⟩) = true := by kernel_rfl
theorem x0_5 : isTrue (evF tabFamilyGood5 200 5 [.res .u8 9 0, .res .u8 8 5] ⟨.leaf, 1⟩) = true := by kernel_rfl
theorem x0_7 : isTrue (evF tabFamilyGood5 200 5 [.res .u8 9 0, .res .u8 8 7] ⟨.leaf, 1⟩) = true := by kernel_rfl
theorem x1_1 : isTrue (evF tabFamilyGood5 200 5 [.res .u8 9 1, .res .u8 8 1] ⟨.leaf, 1⟩) = true := by kernel_rfl
theorem x1_3 : isTrue (evF tabFamilyGood5 200 5 [.res .u8 9 1, .res .u8 8 3] ⟨.leaf, 1⟩) = true := by kernel_rfl
theorem x1_5 : isTrue (evF tabFamilyGood5 200 5 [.res .u8 9 1, .res .u8 8 5] ⟨.leaf, 1⟩) = true := by kernel_rfl
theorem x1_7 : isTrue (evF tabFamilyGood5 200 5 [.res .u8 9 1, .res .u8 8 7] ⟨.leaf, 1⟩) = true := by kernel_rfl
theorem x2_1 : isTrue (evF tabFamilyGood5 200 5 [.res .u8 9 2, .res .u8 8 1] ⟨.leaf, 1⟩) = true := by kernel_rfl
theorem x2_3 : isTrue (evF tabFamilyGood5 200 5 [.res .u8 9 2, .res .u8 8 3] ⟨.leaf, 1⟩) = true := by kernel_rfl
theorem x2_5 : isTrue (evF tabFamilyGood5 200 5 [.res .u8 9 2, .res .u8 8 5] ⟨.leaf, 1⟩) = true := by kernel_rfl
theorem x2_7 : isTrue (evF tabFamilyGood5 200 5 [.res .u8 9 2, .res .u8 8 7] ⟨.leaf, 1⟩) = true := by kernel_rfl
theorem x3_1 : isTrue (evF tabFamilyGood5 200 5 [.res .u8 9 3, .res .u8 8 1] ⟨.leaf, 1⟩) = true := by kernel_rfl
theorem x3_3 : isTrue (evF tabFamilyGood5 200 5 [.res .u8 9 3, .res .u8 8 3] ⟨.leaf, 1⟩) = true := by kernel_rfl
theorem x3_5 : isTrue (evF tabFamilyGood5 200 5 [.res .u8 9 3, .res .u8 8 5] ⟨.leaf, 1⟩) = true := by kernel_rfl
theorem x3_7 : isTrue (evF tabFamilyGood5 200 5 [.res .u8 9 3, .res .u8 8 7] ⟨.leaf, 1⟩) = true := by kernel_rfl
theorem x4_1 : isTrue (evF tabFamilyGood5 200 5 [.res .u8 9 4, .res .u8 8 1] ⟨.leaf, 1⟩) = true := by kernel_rfl
theorem x4_3 : isTrue (evF tabFamilyGood5 200 5 [.res .u8 9 4, .res .u8 8 3] ⟨.leaf, 1⟩) = true := by kernel_rfl
theorem x4_5 : isTrue (evF tabFamilyGood5 200 5 [.res .u8 9 4, .res .u8 8 5] ⟨.leaf, 1⟩) = true := by kernel_rfl
theorem x4_7 : isTrue (evF tabFamilyGood5 200 5 [.res .u8 9 4, .res .u8 8 7] ⟨.leaf, 1⟩) = true := by kernel_rfl
theorem x5_1 : isTrue (evF tabFamilyGood5 200 5 [.res .u8 9 5, .res .u8 8 1] ⟨.leaf, 1⟩) = true := by kernel_rfl
theorem x5_3 : isTrue (evF tabFamilyGood5 200 5 [.res .u8 9 5, .res .u8 8 3] ⟨.leaf, 1⟩) = true := by kernel_rfl
theorem x5_5 : isTrue (evF tabFamilyGood5 200 5 [.res .u8 9 5, .res .u8 8 5] ⟨.leaf, 1⟩) = true := by kernel_rfl
theorem x5_7 : isTrue (evF tabFamilyGood5 200 5 [.res .u8 9 5, .res .u8 8 7] ⟨.leaf, 1⟩) = true := by kernel_rfl
theorem x6_1 : isTrue (evF tabFamilyGood5 200 5 [.res .u8 9 6, .res .u8 8 1] ⟨.leaf, 1⟩) = true := by kernel_rfl
theorem x6_3 : isTrue (evF tabFamilyGood5 200 5 [.res .u8 9 6, .res .u8 8 3] ⟨.leaf, 1⟩) = true := by kernel_rfl
theorem x6_5 : isTrue (evF tabFamilyGood5 200 5 [.res .u8 9 6, .res .u8 8 5] ⟨.leaf, 1⟩) = true := by kernel_rfl
theorem x6_7 : isTrue (evF tabFamilyGood5 200 5 [.res .u8 9 6, .res .u8 8 7] ⟨.leaf, 1⟩) = true := by kernel_rfl
theorem x7_1 : isTrue (evF tabFamilyGood5 200 5 [.res .u8 9 7, .res .u8 8 1] ⟨.leaf, 1⟩) = true := by kernel_rfl
theorem x7_3 : isTrue (evF tabFamilyGood5 200 5 [.res .u8 9 7, .res .u8 8 3] ⟨.leaf, 1⟩) = true := by kernel_rfl
theorem x7_5 : isTrue (evF tabFamilyGood5 200 5 [.res .u8 9 7, .res .u8 8 5] ⟨.leaf, 1⟩) = true := by kernel_rfl
theorem x7_7 : isTrue (evF tabFamilyGood5 200 5 [.res .u8 9 7, .res .u8 8 7] ⟨.leaf, 1⟩) = true := by kernel_rfl
theorem x8_1 : isTrue (evF tabFamilyGood5 200 5 [.res .u8 9 8, .res .u8 8 1] ⟨.leaf, 1⟩) = true := by kernel_rfl
theorem x8_3 : isTrue (evF tabFamilyGood5 200 5 [.res .u8 9 8, .res .u8 8 3] ⟨.leaf, 1⟩) = true := by kernel_rfl
theorem x8_5 : isTrue (evF tabFamilyGood5 200 5 [.res .u8 9 8, .res .u8 8 5] ⟨.leaf, 1⟩) = true := by kernel_rfl
theorem x8_7 : isTrue (evF tabFamilyGood5 200 5 [.res .u8 9 8, .res .u8 8 7] ⟨.leaf, 1⟩) = true := by kernel_rfl
end Go.Am.Gs.FamilyGood
