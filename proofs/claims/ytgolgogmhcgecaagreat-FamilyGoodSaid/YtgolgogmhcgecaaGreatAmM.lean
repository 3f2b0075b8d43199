/- Those calls, run. -/
import Derived.Test.YtgolgogmhcgecaaGreatAmL
import Derived.KernelRfl
set_option linter.unusedVariables false
namespace Go.Am.Gs.FamilyGood
theorem k4_0 : memChk m4_0 [1, 2, 3, 4] (memRun tabFamilyGood3 200 21 m4_0) = true := by kernel_rfl
theorem k4_1 : memChk m4_1 [1, 2] (memRun tabFamilyGood3 200 20 m4_1) = true := by kernel_rfl
theorem k4_2 : memChk m4_2 [1, 120, 121, 122, 123, 124, 125, 126, 127, 128, 129, 130, 131, 132, 133, 134, 135, 136, 137, 138] (memRun tabFamilyGood3 200 21 m4_2) = true := by kernel_rfl
theorem k4_3 : memChk m4_3 [1, 2, 3, 4, 5, 6, 7, 8, 9, 10, 11, 12, 13, 14, 15, 16, 17, 18, 19, 20, 21, 458, 25, 788, 42, 70, 252, 452, 134, 179, 307, 778, 40, 68, 345, 450, 132, 177, 608, 776, 343, 363, 448, 605, 638, 774, 421, 446, 732, 772, 419, 444, 730, 770, 392, 417, 688, 728, 415, 726] (memRun tabFamilyGood3 200 20 m4_3) = true := by kernel_rfl
theorem k4_4 : memChk m4_4 [1, 2, 3, 4, 5, 6, 7, 8, 9, 10, 11, 12, 13, 14, 133, 134, 135, 136, 137, 138, 139, 140, 141, 142, 143, 144, 145, 146, 147, 148, 149, 150, 151] (memRun tabFamilyGood3 200 21 m4_4) = true := by kernel_rfl
theorem k4_5 : memChk m4_5 [1, 2, 3, 4, 5, 6, 7, 8, 9, 10, 11, 12, 13, 132, 133, 134, 135, 136, 137, 138, 139, 140, 141, 142, 143, 144, 145, 146, 147, 148, 149, 150] (memRun tabFamilyGood3 200 21 m4_5) = true := by kernel_rfl
theorem k4_6 : memChk m4_6 [1, 2, 3, 4, 5, 6, 7, 8, 9, 10, 11, 12, 13, 14, 15, 16, 17, 18, 19, 20, 139, 140, 141, 142, 143, 144, 145, 146, 147, 148, 149, 150, 151, 152, 153, 154, 155, 156, 157] (memRun tabFamilyGood3 200 21 m4_6) = true := by kernel_rfl
theorem k4_7 : memChk m4_7 [1, 2, 3, 4, 5, 6, 7, 8, 9, 10, 11, 12, 13, 14, 15, 16, 17, 18, 19, 20, 21, 22, 23, 24, 25, 26, 145, 146, 147, 148, 149, 150, 151, 152, 153, 154, 155, 156, 157, 158, 159, 160, 161, 162, 163] (memRun tabFamilyGood3 200 21 m4_7) = true := by kernel_rfl
theorem k4_8 : memChk m4_8 [1, 2, 3, 122, 123, 124, 125, 126, 127, 128, 129, 130, 131, 132, 133, 134, 135, 136, 137, 138, 139, 140] (memRun tabFamilyGood3 200 21 m4_8) = true := by kernel_rfl
theorem k4_9 : memChk m4_9 [1, 2, 3, 4, 5, 124, 125, 126, 127, 128, 129, 130, 131, 132, 133, 134, 135, 136, 137, 138, 139, 140, 141, 142] (memRun tabFamilyGood3 200 21 m4_9) = true := by kernel_rfl
theorem k4_10 : memChk m4_10 [1, 2, 3, 4, 5, 6, 7, 8, 9, 10, 11, 12, 13, 14, 15, 16, 17, 18, 19, 20, 21, 22, 23, 24, 25, 26, 27, 28, 29, 148, 149, 150, 151, 152, 153, 154, 155, 156, 157, 158, 159, 160, 161, 162, 163, 164, 165, 166] (memRun tabFamilyGood3 200 21 m4_10) = true := by kernel_rfl
end Go.Am.Gs.FamilyGood
