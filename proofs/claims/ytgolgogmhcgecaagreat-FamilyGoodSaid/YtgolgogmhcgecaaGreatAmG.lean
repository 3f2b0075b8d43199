/- Those calls, run. -/
import Derived.Test.YtgolgogmhcgecaaGreatAmF
import Derived.KernelRfl
set_option linter.unusedVariables false
namespace Go.Am.Gs.FamilyGood
theorem k1_0 : memChk m1_0 [] (memRun tab2 200 200 m1_0) = true := by kernel_rfl
theorem k1_1 : memChk m1_1 [] (memRun tab2 200 112 m1_1) = true := by kernel_rfl
theorem k1_2 : memChk m1_2 [] (memRun tab2 200 112 m1_2) = true := by kernel_rfl
theorem k1_3 : memChk m1_3 [] (memRun tab2 200 200 m1_3) = true := by kernel_rfl
theorem k1_4 : memChk m1_4 [] (memRun tab2 200 200 m1_4) = true := by kernel_rfl
theorem k1_5 : memChk m1_5 [] (memRun tab2 200 200 m1_5) = true := by kernel_rfl
theorem k1_6 : memChk m1_6 [] (memRun tab2 200 200 m1_6) = true := by kernel_rfl
theorem k1_7 : memChk m1_7 [] (memRun tab2 200 112 m1_7) = true := by kernel_rfl
theorem k1_8 : memChk m1_8 [] (memRun tab2 200 155 m1_8) = true := by kernel_rfl
theorem k1_9 : memChk m1_9 [] (memRun tab2 200 112 m1_9) = true := by kernel_rfl
end Go.Am.Gs.FamilyGood
