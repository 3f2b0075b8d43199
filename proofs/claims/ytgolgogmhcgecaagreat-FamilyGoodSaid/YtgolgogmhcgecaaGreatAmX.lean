/- Runs of FamilyGood, each over all bytes that have these remainders. -/
import Derived.Test.YtgolgogmhcgecaaGreatAmW
import Derived.Test.YtgolgogmhcgecaaGreatAmE
import Derived.KernelRfl
set_option linter.unusedVariables false
namespace Go.Am.Gs.FamilyGood
theorem x0_0 : isTrue (evF tabFamilyGood5 200 5 [.res .u8 9 0, .res .u8 8 0] ⟨.leaf, 1⟩) = true := by kernel_rfl
theorem x0_2 : isTrue (evF tabFamilyGood5 200 5 [.res .u8 9 0, .res .u8 8 2] ⟨.leaf, 1⟩) = true := by kernel_rfl
theorem x0_4 : isTrue (evF tabFamilyGood5 200 5 [.res .u8 9 0, .res .u8 8 4] ⟨.leaf, 1⟩) = true := by kernel_rfl
theorem x0_6 : isTrue (evF tabFamilyGood5 200 5 [.res .u8 9 0, .res .u8 8 6] ⟨.leaf, 1⟩) = true := by kernel_rfl
theorem x1_0 : isTrue (evF tabFamilyGood5 200 5 [.res .u8 9 1, .res .u8 8 0] ⟨.leaf, 1⟩) = true := by kernel_rfl
theorem x1_2 : isTrue (evF tabFamilyGood5 200 5 [.res .u8 9 1, .res .u8 8 2] ⟨.leaf, 1⟩) = true := by kernel_rfl
theorem x1_4 : isTrue (evF tabFamilyGood5 200 5 [.res .u8 9 1, .res .u8 8 4] ⟨.leaf, 1⟩) = true := by kernel_rfl
theorem x1_6 : isTrue (evF tabFamilyGood5 200 5 [.res .u8 9 1, .res .u8 8 6] ⟨.leaf, 1⟩) = true := by kernel_rfl
theorem x2_0 : isTrue (evF tabFamilyGood5 200 5 [.res .u8 9 2, .res .u8 8 0] ⟨.leaf, 1⟩) = true := by kernel_rfl
theorem x2_2 : isTrue (evF tabFamilyGood5 200 5 [.res .u8 9 2, .res .u8 8 2] ⟨.leaf, 1⟩) = true := by kernel_rfl
theorem x2_4 : isTrue (evF tabFamilyGood5 200 5 [.res .u8 9 2, .res .u8 8 4] ⟨.leaf, 1⟩) = true := by kernel_rfl
theorem x2_6 : isTrue (evF tabFamilyGood5 200 5 [.res .u8 9 2, .res .u8 8 6] ⟨.leaf, 1⟩) = true := by kernel_rfl
theorem x3_0 : isTrue (evF tabFamilyGood5 200 5 [.res .u8 9 3, .res .u8 8 0] ⟨.leaf, 1⟩) = true := by kernel_rfl
theorem x3_2 : isTrue (evF tabFamilyGood5 200 5 [.res .u8 9 3, .res .u8 8 2] ⟨.leaf, 1⟩) = true := by kernel_rfl
theorem x3_4 : isTrue (evF tabFamilyGood5 200 5 [.res .u8 9 3, .res .u8 8 4] ⟨.leaf, 1⟩) = true := by kernel_rfl
theorem x3_6 : isTrue (evF tabFamilyGood5 200 5 [.res .u8 9 3, .res .u8 8 6] ⟨.leaf, 1⟩) = true := by kernel_rfl
theorem x4_0 : isTrue (evF tabFamilyGood5 200 5 [.res .u8 9 4, .res .u8 8 0] ⟨.leaf, 1⟩) = true := by kernel_rfl
theorem x4_2 : isTrue (evF tabFamilyGood5 200 5 [.res .u8 9 4, .res .u8 8 2] ⟨.leaf, 1⟩) = true := by kernel_rfl
theorem x4_4 : isTrue (evF tabFamilyGood5 200 5 [.res .u8 9 4, .res .u8 8 4] ⟨.leaf, 1⟩) = true := by kernel_rfl
theorem x4_6 : isTrue (evF tabFamilyGood5 200 5 [.res .u8 9 4, .res .u8 8 6] ⟨.leaf, 1⟩) = true := by kernel_rfl
theorem x5_0 : isTrue (evF tabFamilyGood5 200 5 [.res .u8 9 5, .res .u8 8 0] ⟨.leaf, 1⟩) = true := by kernel_rfl
theorem x5_2 : isTrue (evF tabFamilyGood5 200 5 [.res .u8 9 5, .res .u8 8 2] ⟨.leaf, 1⟩) = true := by kernel_rfl
theorem x5_4 : isTrue (evF tabFamilyGood5 200 5 [.res .u8 9 5, .res .u8 8 4] ⟨.leaf, 1⟩) = true := by kernel_rfl
theorem x5_6 : isTrue (evF tabFamilyGood5 200 5 [.res .u8 9 5, .res .u8 8 6] ⟨.leaf, 1⟩) = true := by kernel_rfl
theorem x6_0 : isTrue (evF tabFamilyGood5 200 5 [.res .u8 9 6, .res .u8 8 0] ⟨.leaf, 1⟩) = true := by kernel_rfl
theorem x6_2 : isTrue (evF tabFamilyGood5 200 5 [.res .u8 9 6, .res .u8 8 2] ⟨.leaf, 1⟩) = true := by kernel_rfl
theorem x6_4 : isTrue (evF tabFamilyGood5 200 5 [.res .u8 9 6, .res .u8 8 4] ⟨.leaf, 1⟩) = true := by kernel_rfl
theorem x6_6 : isTrue (evF tabFamilyGood5 200 5 [.res .u8 9 6, .res .u8 8 6] ⟨.leaf, 1⟩) = true := by kernel_rfl
theorem x7_0 : isTrue (evF tabFamilyGood5 200 5 [.res .u8 9 7, .res .u8 8 0] ⟨.leaf, 1⟩) = true := by kernel_rfl
theorem x7_2 : isTrue (evF tabFamilyGood5 200 5 [.res .u8 9 7, .res .u8 8 2] ⟨.leaf, 1⟩) = true := by kernel_rfl
theorem x7_4 : isTrue (evF tabFamilyGood5 200 5 [.res .u8 9 7, .res .u8 8 4] ⟨.leaf, 1⟩) = true := by kernel_rfl
theorem x7_6 : isTrue (evF tabFamilyGood5 200 5 [.res .u8 9 7, .res .u8 8 6] ⟨.leaf, 1⟩) = true := by kernel_rfl
theorem x8_0 : isTrue (evF tabFamilyGood5 200 5 [.res .u8 9 8, .res .u8 8 0] ⟨.leaf, 1⟩) = true := by kernel_rfl
theorem x8_2 : isTrue (evF tabFamilyGood5 200 5 [.res .u8 9 8, .res .u8 8 2] ⟨.leaf, 1⟩) = true := by kernel_rfl
theorem x8_4 : isTrue (evF tabFamilyGood5 200 5 [.res .u8 9 8, .res .u8 8 4] ⟨.leaf, 1⟩) = true := by kernel_rfl
theorem x8_6 : isTrue (evF tabFamilyGood5 200 5 [.res .u8 9 8, .res .u8 8 6] ⟨.leaf, 1⟩) = true := by kernel_rfl
end Go.Am.Gs.FamilyGood
