/- Those calls, run. -/
import Derived.Test.YtgolgogmhcgecaaGreatAmK
import Derived.KernelRfl
set_option linter.unusedVariables false
namespace Go.Am.Gs.FamilyTaken
theorem k4_3 : memChk m4_3 [1, 2, 3, 4, 5, 6, 7, 8, 9, 10, 11, 12, 13, 14, 15, 16, 17, 18, 19, 20, 21, 458, 25, 788, 42, 70, 252, 452, 134, 179, 307, 778, 40, 68, 345, 450, 132, 177, 608, 776, 343, 363, 448, 605, 638, 774, 421, 446, 732, 772, 419, 444, 730, 770, 392, 417, 688, 728, 415, 726] (memRun tabFamilyTaken3 200 20 m4_3) = true := by kernel_rfl
end Go.Am.Gs.FamilyTaken
