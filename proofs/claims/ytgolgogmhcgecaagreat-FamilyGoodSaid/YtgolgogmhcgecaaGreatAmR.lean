/- Those calls, run. -/
import Derived.Test.YtgolgogmhcgecaaGreatAmN
import Derived.KernelRfl
set_option linter.unusedVariables false
namespace Go.Am.Gs.FamilyGood
theorem k5_9 : memChk m5_9 [1, 2, 3, 4, 5, 6, 7, 8, 9, 10, 11, 12, 13, 14, 15, 16, 17, 18, 19, 20, 21, 22] (memRun tabFamilyGood4 200 22 m5_9) = true := by kernel_rfl
theorem k5_12 : memChk m5_12 [1, 2, 3, 4, 5, 6, 7, 8, 9, 10, 11, 12, 13, 14, 15, 16, 17, 18, 19, 20, 21, 22, 23, 24, 25, 26, 27, 28, 29, 30, 31, 32, 33, 34, 35] (memRun tabFamilyGood4 200 22 m5_12) = true := by kernel_rfl
theorem k5_17 : memChk m5_17 [1, 2, 3, 4, 5, 6, 7, 8, 9, 10, 11, 12, 13, 14, 15, 16, 17, 18, 19, 20, 21, 22, 23, 24, 25, 26, 27, 28, 29, 30, 31, 32, 33, 34, 35] (memRun tabFamilyGood4 200 22 m5_17) = true := by kernel_rfl
theorem k5_23 : memChk m5_23 [1, 2, 3, 4, 5, 6, 7, 8, 9, 10, 11, 12, 13, 14, 15, 16, 17, 18, 19, 20, 21, 22, 23, 24, 25, 26, 27, 28, 29, 30, 31, 32, 33, 34] (memRun tabFamilyGood4 200 22 m5_23) = true := by kernel_rfl
theorem k5_43 : memChk m5_43 [1, 2, 3, 4, 5, 6, 7, 8, 9, 10, 11, 12, 13, 14, 15, 16, 17, 18, 19, 20, 21, 22, 23, 24, 25, 26, 27, 28, 29, 30, 31, 32, 33, 34, 35, 36, 37, 38, 39, 40, 41, 42, 43, 44, 45, 46, 47] (memRun tabFamilyGood4 200 22 m5_43) = true := by kernel_rfl
theorem k5_50 : memChk m5_50 [1, 2, 3, 4, 5, 6, 7, 8, 9, 10, 11, 12, 13, 14, 15, 16, 17, 18, 19, 20, 21, 22, 23, 24, 25, 26, 27, 28, 29, 30, 31, 32, 33, 34, 35, 36, 37, 38, 39, 40, 41, 42, 43, 44, 45, 46, 47] (memRun tabFamilyGood4 200 22 m5_50) = true := by kernel_rfl
theorem k5_53 : memChk m5_53 [1, 2, 3, 4, 5, 6, 7, 8, 9, 10, 11, 12, 13, 14, 15, 16, 17, 18, 19, 20, 21, 22, 23, 24] (memRun tabFamilyGood4 200 22 m5_53) = true := by kernel_rfl
theorem k5_58 : memChk m5_58 [1, 2, 3, 4, 5, 6, 7, 8, 9, 10, 11, 12, 13, 14, 15, 16, 17, 18, 19, 20, 21, 22, 23, 24, 25, 26] (memRun tabFamilyGood4 200 22 m5_58) = true := by kernel_rfl
theorem k5_64 : memChk m5_64 [1, 2, 3, 4, 5, 6, 7, 8, 9, 10, 11, 12, 13, 14, 15, 16, 17, 18, 19, 20, 21, 22, 23, 24, 25, 26] (memRun tabFamilyGood4 200 22 m5_64) = true := by kernel_rfl
theorem k5_69 : memChk m5_69 [1, 2, 3, 4, 5, 6, 7, 8, 9, 10, 11, 12, 13, 14, 15, 16, 17, 18, 19, 20, 21, 22, 23, 24, 25, 26, 27, 28, 29, 30, 31, 32, 33, 34, 35, 36, 37, 38, 39, 40, 41, 42, 43, 44, 45, 46, 47, 48, 49, 50] (memRun tabFamilyGood4 200 22 m5_69) = true := by kernel_rfl
end Go.Am.Gs.FamilyGood
