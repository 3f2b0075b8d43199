/- Those calls, run. -/
import Derived.Test.YtgolgogmhcgecaaGreatAmN
import Derived.KernelRfl
set_option linter.unusedVariables false
namespace Go.Am.Gs.FamilyGood
theorem k5_25 : memChk m5_25 [1, 2, 3, 4, 5, 6, 7, 8, 9, 10, 11, 12, 13, 14, 15, 16, 17, 18, 19, 20, 21, 22, 23, 24, 25, 26, 27, 28, 29, 30, 31, 32, 33, 34] (memRun tabFamilyGood4 200 22 m5_25) = true := by kernel_rfl
theorem k5_27 : memChk m5_27 [1, 2, 3, 4, 5, 6, 7, 8, 9, 10, 11, 12, 13, 14, 15, 16, 17, 18, 19, 20, 21, 22, 23, 24, 25, 26, 27, 28, 29, 30, 31, 32, 33, 34] (memRun tabFamilyGood4 200 22 m5_27) = true := by kernel_rfl
theorem k5_39 : memChk m5_39 [1, 2, 3, 4, 5, 6, 7, 8, 9, 10, 11, 12, 13, 14, 15, 16, 17, 18, 19, 20, 21, 22, 23, 24, 25, 26, 27, 28, 29, 30, 31, 32, 33, 34, 35, 36, 37, 38, 39, 40, 41] (memRun tabFamilyGood4 200 22 m5_39) = true := by kernel_rfl
theorem k5_46 : memChk m5_46 [1, 2, 3, 4, 5, 6, 7, 8, 9, 10, 11, 12, 13, 14, 15, 16, 17, 18, 19, 20, 21, 22, 23, 24, 25, 26, 27, 28, 29, 30, 31, 32, 33, 34, 35, 36, 37, 38, 39, 40, 41, 42, 43, 44, 45, 46, 47] (memRun tabFamilyGood4 200 22 m5_46) = true := by kernel_rfl
theorem k5_49 : memChk m5_49 [1, 2, 3, 4, 5, 6, 7, 8, 9, 10, 11, 12, 13, 14, 15, 16, 17, 18, 19, 20, 21, 22, 23, 24, 25, 26, 27, 28, 29, 30, 31, 32, 33, 34, 35, 36, 37, 38, 39, 40, 41, 42, 43, 44, 45, 46, 47] (memRun tabFamilyGood4 200 22 m5_49) = true := by kernel_rfl
theorem k5_52 : memChk m5_52 [1, 2, 3, 4, 5, 6, 7, 8, 9, 10, 11, 12, 13, 14, 15, 16, 17, 18, 19, 20, 21, 22, 23, 24] (memRun tabFamilyGood4 200 22 m5_52) = true := by kernel_rfl
theorem k5_56 : memChk m5_56 [1, 2, 3, 4, 5, 6, 7, 8, 9, 10, 11, 12, 13, 14, 15, 16, 17, 18, 19, 20, 21, 22, 23, 24, 25, 26] (memRun tabFamilyGood4 200 22 m5_56) = true := by kernel_rfl
theorem k5_65 : memChk m5_65 [1, 2, 3, 4, 5, 6, 7, 8, 9, 10, 11, 12, 13, 14, 15, 16, 17, 18, 19, 20, 21, 22, 23, 24, 25, 26] (memRun tabFamilyGood4 200 22 m5_65) = true := by kernel_rfl
theorem k5_67 : memChk m5_67 [1, 2, 3, 4, 5, 6, 7, 8, 9, 10, 11, 12, 13, 14, 15, 16, 17, 18, 19, 20, 21, 22, 23, 24, 25, 26, 27, 28, 29, 30, 31, 32, 33, 34, 35, 36, 37, 38, 39, 40, 41, 42, 43, 44, 45, 46, 47, 48, 49, 50] (memRun tabFamilyGood4 200 22 m5_67) = true := by kernel_rfl
end Go.Am.Gs.FamilyGood
