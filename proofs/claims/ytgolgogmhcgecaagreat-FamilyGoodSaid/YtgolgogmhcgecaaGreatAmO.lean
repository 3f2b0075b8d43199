/- Those calls, run. -/
import Derived.Test.YtgolgogmhcgecaaGreatAmN
import Derived.KernelRfl
set_option linter.unusedVariables false
namespace Go.Am.Gs.FamilyGood
theorem k5_2 : memChk m5_2 [1, 2, 3, 4, 5] (memRun tabFamilyGood4 200 22 m5_2) = true := by kernel_rfl
theorem k5_5 : memChk m5_5 [1, 2, 3, 4, 5] (memRun tabFamilyGood4 200 22 m5_5) = true := by kernel_rfl
theorem k5_15 : memChk m5_15 [1, 2, 3, 4, 5, 6, 7, 8, 9, 10, 11, 12, 13, 14, 15, 16, 17, 18, 19, 20, 21, 22, 23, 24, 25, 26, 27, 28, 29, 30, 31, 32, 33, 34, 35] (memRun tabFamilyGood4 200 22 m5_15) = true := by kernel_rfl
theorem k5_21 : memChk m5_21 [1, 2, 3, 4, 5, 6, 7, 8, 9, 10, 11, 12, 13, 14, 15, 16, 17, 18, 19, 20, 21, 22, 23, 24, 25, 26, 27, 28, 29, 30, 31, 32, 33, 34] (memRun tabFamilyGood4 200 22 m5_21) = true := by kernel_rfl
theorem k5_30 : memChk m5_30 [1, 2, 3, 4, 5, 6, 7, 8, 9, 10, 11, 12, 13, 14, 15, 16, 17, 18, 19, 20, 21, 22, 23, 24, 25, 26, 27, 28, 29, 30, 31, 32, 33, 34] (memRun tabFamilyGood4 200 22 m5_30) = true := by kernel_rfl
theorem k5_32 : memChk m5_32 [1, 2, 3, 4, 5, 6, 7, 8, 9, 10, 11, 12, 13, 14, 15, 16, 17, 18, 19, 20, 21, 22, 23, 24, 25, 26, 27, 28, 29, 30, 31, 32, 33, 34, 35, 36, 37, 38, 39, 40, 41] (memRun tabFamilyGood4 200 22 m5_32) = true := by kernel_rfl
theorem k5_36 : memChk m5_36 [1, 2, 3, 4, 5, 6, 7, 8, 9, 10, 11, 12, 13, 14, 15, 16, 17, 18, 19, 20, 21, 22, 23, 24, 25, 26, 27, 28, 29, 30, 31, 32, 33, 34, 35, 36, 37, 38, 39, 40, 41] (memRun tabFamilyGood4 200 22 m5_36) = true := by kernel_rfl
theorem k5_45 : memChk m5_45 [1, 2, 3, 4, 5, 6, 7, 8, 9, 10, 11, 12, 13, 14, 15, 16, 17, 18, 19, 20, 21, 22, 23, 24, 25, 26, 27, 28, 29, 30, 31, 32, 33, 34, 35, 36, 37, 38, 39, 40, 41, 42, 43, 44, 45, 46, 47] (memRun tabFamilyGood4 200 22 m5_45) = true := by kernel_rfl
theorem k5_66 : memChk m5_66 [1, 2, 3, 4, 5, 6, 7, 8, 9, 10, 11, 12, 13, 14, 15, 16, 17, 18, 19, 20, 21, 22, 23, 24, 25, 26, 27, 28, 29, 30, 31, 32, 33, 34, 35, 36, 37, 38, 39, 40, 41, 42, 43, 44, 45, 46, 47, 48, 49, 50] (memRun tabFamilyGood4 200 22 m5_66) = true := by kernel_rfl
end Go.Am.Gs.FamilyGood
