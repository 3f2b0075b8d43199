/- Those calls, run. -/
import Derived.Test.YtgolgogmhcgecaaGreatAmN
import Derived.KernelRfl
set_option linter.unusedVariables false
namespace Go.Am.Gs.FamilyGood
theorem k5_0 : memChk m5_0 [1, 2, 3, 4, 5] (memRun tabFamilyGood4 200 22 m5_0) = true := by kernel_rfl
theorem k5_4 : memChk m5_4 [1, 2, 3, 4, 5] (memRun tabFamilyGood4 200 22 m5_4) = true := by kernel_rfl
theorem k5_18 : memChk m5_18 [1, 2, 3, 4, 5, 6, 7, 8, 9, 10, 11, 12, 13, 14, 15, 16, 17, 18, 19, 20, 21, 22, 23, 24, 25, 26, 27, 28, 29, 30, 31, 32, 33, 34, 35] (memRun tabFamilyGood4 200 22 m5_18) = true := by kernel_rfl
theorem k5_26 : memChk m5_26 [1, 2, 3, 4, 5, 6, 7, 8, 9, 10, 11, 12, 13, 14, 15, 16, 17, 18, 19, 20, 21, 22, 23, 24, 25, 26, 27, 28, 29, 30, 31, 32, 33, 34] (memRun tabFamilyGood4 200 22 m5_26) = true := by kernel_rfl
theorem k5_34 : memChk m5_34 [1, 2, 3, 4, 5, 6, 7, 8, 9, 10, 11, 12, 13, 14, 15, 16, 17, 18, 19, 20, 21, 22, 23, 24, 25, 26, 27, 28, 29, 30, 31, 32, 33, 34, 35, 36, 37, 38, 39, 40, 41] (memRun tabFamilyGood4 200 22 m5_34) = true := by kernel_rfl
theorem k5_37 : memChk m5_37 [1, 2, 3, 4, 5, 6, 7, 8, 9, 10, 11, 12, 13, 14, 15, 16, 17, 18, 19, 20, 21, 22, 23, 24, 25, 26, 27, 28, 29, 30, 31, 32, 33, 34, 35, 36, 37, 38, 39, 40, 41] (memRun tabFamilyGood4 200 22 m5_37) = true := by kernel_rfl
theorem k5_61 : memChk m5_61 [1, 2, 3, 4, 5, 6, 7, 8, 9, 10, 11, 12, 13, 14, 15, 16, 17, 18, 19, 20, 21, 22, 23, 24, 25, 26] (memRun tabFamilyGood4 200 22 m5_61) = true := by kernel_rfl
theorem k5_72 : memChk m5_72 [1, 2, 3, 4, 5, 6, 7, 8, 9, 10, 11, 12, 13, 14, 15, 16, 17, 18, 19, 20, 21, 22, 23, 24, 25, 26, 27, 28, 29, 30, 31, 32, 33, 34, 35, 36, 37, 38, 39, 40, 41, 42, 43, 44, 45, 46, 47, 48, 49, 50] (memRun tabFamilyGood4 200 22 m5_72) = true := by kernel_rfl
theorem k5_75 : memChk m5_75 [1, 2, 3, 4, 5, 6, 7, 8, 9, 10, 11, 12, 13, 14, 15, 16, 17, 18, 19, 20, 21, 22, 23, 24, 25, 26, 27, 28, 29, 30, 31, 32, 33, 34, 35, 36, 37, 38, 39, 40, 41, 42, 43, 44, 45, 46, 47, 48, 49, 50] (memRun tabFamilyGood4 200 22 m5_75) = true := by kernel_rfl
end Go.Am.Gs.FamilyGood
