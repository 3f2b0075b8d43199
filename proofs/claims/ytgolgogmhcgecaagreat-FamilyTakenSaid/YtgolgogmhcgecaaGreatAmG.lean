/- Those calls, run. -/
import Derived.Test.YtgolgogmhcgecaaGreatAmF
import Derived.KernelRfl
set_option linter.unusedVariables false
namespace Go.Am.Gs.FamilyTaken
theorem k1_0 : memChk m1_0 [7] (memRun tab2 200 13 m1_0) = true := by kernel_rfl
theorem k1_3 : memChk m1_3 [] (memRun tab2 200 112 m1_3) = true := by kernel_rfl
theorem k1_5 : memChk m1_5 [] (memRun tab2 200 200 m1_5) = true := by kernel_rfl
theorem k1_7 : memChk m1_7 [] (memRun tab2 200 200 m1_7) = true := by kernel_rfl
end Go.Am.Gs.FamilyTaken
