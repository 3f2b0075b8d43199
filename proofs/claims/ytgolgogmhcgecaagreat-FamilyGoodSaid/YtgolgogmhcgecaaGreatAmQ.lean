/- Those calls, run. -/
import Derived.Test.YtgolgogmhcgecaaGreatAmN
import Derived.KernelRfl
set_option linter.unusedVariables false
namespace Go.Am.Gs.FamilyGood
theorem k5_1 : memChk m5_1 [1, 2, 3, 4, 5] (memRun tabFamilyGood4 200 22 m5_1) = true := by kernel_rfl
theorem k5_6 : memChk m5_6 [1, 2, 3, 4, 5] (memRun tabFamilyGood4 200 22 m5_6) = true := by kernel_rfl
theorem k5_10 : memChk m5_10 [1, 2, 3, 4, 5, 6, 7, 8, 9, 10, 11, 12, 13, 14, 15, 16, 17, 18, 19, 20, 21, 22] (memRun tabFamilyGood4 200 22 m5_10) = true := by kernel_rfl
theorem k5_16 : memChk m5_16 [1, 2, 3, 4, 5, 6, 7, 8, 9, 10, 11, 12, 13, 14, 15, 16, 17, 18, 19, 20, 21, 22, 23, 24, 25, 26, 27, 28, 29, 30, 31, 32, 33, 34, 35] (memRun tabFamilyGood4 200 22 m5_16) = true := by kernel_rfl
theorem k5_22 : memChk m5_22 [1, 2, 3, 4, 5, 6, 7, 8, 9, 10, 11, 12, 13, 14, 15, 16, 17, 18, 19, 20, 21, 22, 23, 24, 25, 26, 27, 28, 29, 30, 31, 32, 33, 34] (memRun tabFamilyGood4 200 22 m5_22) = true := by kernel_rfl
theorem k5_29 : memChk m5_29 [1, 2, 3, 4, 5, 6, 7, 8, 9, 10, 11, 12, 13, 14, 15, 16, 17, 18, 19, 20, 21, 22, 23, 24, 25, 26, 27, 28, 29, 30, 31, 32, 33, 34] (memRun tabFamilyGood4 200 22 m5_29) = true := by kernel_rfl
theorem k5_31 : memChk m5_31 [1, 2, 3, 4, 5, 6, 7, 8, 9, 10, 11, 12, 13, 14, 15, 16, 17, 18, 19, 20, 21, 22, 23, 24, 25, 26, 27, 28, 29, 30, 31, 32, 33, 34, 35, 36, 37, 38, 39, 40, 41] (memRun tabFamilyGood4 200 22 m5_31) = true := by kernel_rfl
theorem k5_35 : memChk m5_35 [1, 2, 3, 4, 5, 6, 7, 8, 9, 10, 11, 12, 13, 14, 15, 16, 17, 18, 19, 20, 21, 22, 23, 24, 25, 26, 27, 28, 29, 30, 31, 32, 33, 34, 35, 36, 37, 38, 39, 40, 41] (memRun tabFamilyGood4 200 22 m5_35) = true := by kernel_rfl
theorem k5_44 : memChk m5_44 [1, 2, 3, 4, 5, 6, 7, 8, 9, 10, 11, 12, 13, 14, 15, 16, 17, 18, 19, 20, 21, 22, 23, 24, 25, 26, 27, 28, 29, 30, 31, 32, 33, 34, 35, 36, 37, 38, 39, 40, 41, 42, 43, 44, 45, 46, 47] (memRun tabFamilyGood4 200 22 m5_44) = true := by kernel_rfl
theorem k5_68 : memChk m5_68 [1, 2, 3, 4, 5, 6, 7, 8, 9, 10, 11, 12, 13, 14, 15, 16, 17, 18, 19, 20, 21, 22, 23, 24, 25, 26, 27, 28, 29, 30, 31, 32, 33, 34, 35, 36, 37, 38, 39, 40, 41, 42, 43, 44, 45, 46, 47, 48, 49, 50] (memRun tabFamilyGood4 200 22 m5_68) = true := by kernel_rfl
end Go.Am.Gs.FamilyGood
