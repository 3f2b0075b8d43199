/- Those calls, run. -/
import Derived.Test.YtgolgogmhcgecaaGreatAmH
import Derived.KernelRfl
set_option linter.unusedVariables false
namespace Go.Am.Gs.FamilyGood
theorem k2_0 : memChk m2_0 [1] (memRun tabFamilyGood1 200 87 m2_0) = true := by kernel_rfl
theorem k2_1 : memChk m2_1 [1, 2] (memRun tabFamilyGood1 200 87 m2_1) = true := by kernel_rfl
theorem k2_2 : memChk m2_2 [] (memRun tabFamilyGood1 200 87 m2_2) = true := by kernel_rfl
theorem k2_3 : memChk m2_3 [] (memRun tabFamilyGood1 200 87 m2_3) = true := by kernel_rfl
theorem k2_4 : memChk m2_4 [1, 2] (memRun tabFamilyGood1 200 87 m2_4) = true := by kernel_rfl
theorem k2_5 : memChk m2_5 [1, 2] (memRun tabFamilyGood1 200 87 m2_5) = true := by kernel_rfl
theorem k2_6 : memChk m2_6 [1] (memRun tabFamilyGood1 200 87 m2_6) = true := by kernel_rfl
theorem k2_7 : memChk m2_7 [1, 2] (memRun tabFamilyGood1 200 87 m2_7) = true := by kernel_rfl
theorem k2_8 : memChk m2_8 [1, 2] (memRun tabFamilyGood1 200 87 m2_8) = true := by kernel_rfl
theorem k2_9 : memChk m2_9 [1, 2, 3, 4] (memRun tabFamilyGood1 200 87 m2_9) = true := by kernel_rfl
end Go.Am.Gs.FamilyGood
