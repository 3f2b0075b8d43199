/- FamilyGood: for all inputs the law answers true, and its arguments read as before. No conditions. The program is run, with bytes of which the remainders are known, in an abstract machine that is proved to be borne by the model. -/
import Derived.Test.YtgolgogmhcgecaaGreatRows
import Derived.WalkKit
import Derived.ProofKit
import Derived.OpenShut
import Derived.Test.YtgolgogmhcgecaaGreatAmX
import Derived.Test.YtgolgogmhcgecaaGreatAmY
set_option linter.unusedVariables false
namespace Go.Proofs.YtgolgogmhcgecaaGreat.familyGood
open Go.ChangeShapes Go.WideShapes Go.ChangeAt Go.RowKit
set_option linter.unusedVariables false      -- a walk need not use every 'w<i>' (that an integer argument fits its kind)

theorem own : ownKnob Tryz.prog.godebug = none := by kernel_rfl

open Go.Am Go.Am.Gs.FamilyGood in
theorem run (a0 : Int) (a1 : Int) (w0 : (Lit.int .u8 a0).wf = true) (w1 : (Lit.int .u8 a1).wf = true) : ∃ vs s, RepL (fun _ => none) vs [.int .u8 a0, .int .u8 a1] ∧ evF Go.Am.Gs.tabFamilyGood5 200 5 vs ⟨.leaf, 1⟩ = some (.bool true, s) := by
  have l0 : a0.toNat % 9 < 9 := Nat.mod_lt _ (by decide)
  have h0 : a0.toNat % 9 = 0 ∨ a0.toNat % 9 = 1 ∨ a0.toNat % 9 = 2 ∨ a0.toNat % 9 = 3 ∨ a0.toNat % 9 = 4 ∨ a0.toNat % 9 = 5 ∨ a0.toNat % 9 = 6 ∨ a0.toNat % 9 = 7 ∨ a0.toNat % 9 = 8 := by omega
  clear l0
  rcases h0 with h0 | h0 | h0 | h0 | h0 | h0 | h0 | h0 | h0
  · have l1 : a1.toNat % 8 < 8 := Nat.mod_lt _ (by decide)
    have h1 : a1.toNat % 8 = 0 ∨ a1.toNat % 8 = 1 ∨ a1.toNat % 8 = 2 ∨ a1.toNat % 8 = 3 ∨ a1.toNat % 8 = 4 ∨ a1.toNat % 8 = 5 ∨ a1.toNat % 8 = 6 ∨ a1.toNat % 8 = 7 := by omega
    clear l1
    rcases h1 with h1 | h1 | h1 | h1 | h1 | h1 | h1 | h1
    · obtain ⟨s, hs⟩ := isTrue_some x0_0
      exact ⟨_, s, (RepL.cons (rep_at w0 h0) (RepL.cons (rep_at w1 h1) rep_nil)), hs⟩
    · obtain ⟨s, hs⟩ := isTrue_some x0_1
      exact ⟨_, s, (RepL.cons (rep_at w0 h0) (RepL.cons (rep_at w1 h1) rep_nil)), hs⟩
    · obtain ⟨s, hs⟩ := isTrue_some x0_2
      exact ⟨_, s, (RepL.cons (rep_at w0 h0) (RepL.cons (rep_at w1 h1) rep_nil)), hs⟩
    · obtain ⟨s, hs⟩ := isTrue_some x0_3
      exact ⟨_, s, (RepL.cons (rep_at w0 h0) (RepL.cons (rep_at w1 h1) rep_nil)), hs⟩
    · obtain ⟨s, hs⟩ := isTrue_some x0_4
      exact ⟨_, s, (RepL.cons (rep_at w0 h0) (RepL.cons (rep_at w1 h1) rep_nil)), hs⟩
    · obtain ⟨s, hs⟩ := isTrue_some x0_5
      exact ⟨_, s, (RepL.cons (rep_at w0 h0) (RepL.cons (rep_at w1 h1) rep_nil)), hs⟩
    · obtain ⟨s, hs⟩ := isTrue_some x0_6
      exact ⟨_, s, (RepL.cons (rep_at w0 h0) (RepL.cons (rep_at w1 h1) rep_nil)), hs⟩
    · obtain ⟨s, hs⟩ := isTrue_some x0_7
      exact ⟨_, s, (RepL.cons (rep_at w0 h0) (RepL.cons (rep_at w1 h1) rep_nil)), hs⟩
  · have l1 : a1.toNat % 8 < 8 := Nat.mod_lt _ (by decide)
    have h1 : a1.toNat % 8 = 0 ∨ a1.toNat % 8 = 1 ∨ a1.toNat % 8 = 2 ∨ a1.toNat % 8 = 3 ∨ a1.toNat % 8 = 4 ∨ a1.toNat % 8 = 5 ∨ a1.toNat % 8 = 6 ∨ a1.toNat % 8 = 7 := by omega
    clear l1
    rcases h1 with h1 | h1 | h1 | h1 | h1 | h1 | h1 | h1
    · obtain ⟨s, hs⟩ := isTrue_some x1_0
      exact ⟨_, s, (RepL.cons (rep_at w0 h0) (RepL.cons (rep_at w1 h1) rep_nil)), hs⟩
    · obtain ⟨s, hs⟩ := isTrue_some x1_1
      exact ⟨_, s, (RepL.cons (rep_at w0 h0) (RepL.cons (rep_at w1 h1) rep_nil)), hs⟩
    · obtain ⟨s, hs⟩ := isTrue_some x1_2
      exact ⟨_, s, (RepL.cons (rep_at w0 h0) (RepL.cons (rep_at w1 h1) rep_nil)), hs⟩
    · obtain ⟨s, hs⟩ := isTrue_some x1_3
      exact ⟨_, s, (RepL.cons (rep_at w0 h0) (RepL.cons (rep_at w1 h1) rep_nil)), hs⟩
    · obtain ⟨s, hs⟩ := isTrue_some x1_4
      exact ⟨_, s, (RepL.cons (rep_at w0 h0) (RepL.cons (rep_at w1 h1) rep_nil)), hs⟩
    · obtain ⟨s, hs⟩ := isTrue_some x1_5
      exact ⟨_, s, (RepL.cons (rep_at w0 h0) (RepL.cons (rep_at w1 h1) rep_nil)), hs⟩
    · obtain ⟨s, hs⟩ := isTrue_some x1_6
      exact ⟨_, s, (RepL.cons (rep_at w0 h0) (RepL.cons (rep_at w1 h1) rep_nil)), hs⟩
    · obtain ⟨s, hs⟩ := isTrue_some x1_7
      exact ⟨_, s, (RepL.cons (rep_at w0 h0) (RepL.cons (rep_at w1 h1) rep_nil)), hs⟩
  · have l1 : a1.toNat % 8 < 8 := Nat.mod_lt _ (by decide)
    have h1 : a1.toNat % 8 = 0 ∨ a1.toNat % 8 = 1 ∨ a1.toNat % 8 = 2 ∨ a1.toNat % 8 = 3 ∨ a1.toNat % 8 = 4 ∨ a1.toNat % 8 = 5 ∨ a1.toNat % 8 = 6 ∨ a1.toNat % 8 = 7 := by omega
    clear l1
    rcases h1 with h1 | h1 | h1 | h1 | h1 | h1 | h1 | h1
    · obtain ⟨s, hs⟩ := isTrue_some x2_0
      exact ⟨_, s, (RepL.cons (rep_at w0 h0) (RepL.cons (rep_at w1 h1) rep_nil)), hs⟩
    · obtain ⟨s, hs⟩ := isTrue_some x2_1
      exact ⟨_, s, (RepL.cons (rep_at w0 h0) (RepL.cons (rep_at w1 h1) rep_nil)), hs⟩
    · obtain ⟨s, hs⟩ := isTrue_some x2_2
      exact ⟨_, s, (RepL.cons (rep_at w0 h0) (RepL.cons (rep_at w1 h1) rep_nil)), hs⟩
    · obtain ⟨s, hs⟩ := isTrue_some x2_3
      exact ⟨_, s, (RepL.cons (rep_at w0 h0) (RepL.cons (rep_at w1 h1) rep_nil)), hs⟩
    · obtain ⟨s, hs⟩ := isTrue_some x2_4
      exact ⟨_, s, (RepL.cons (rep_at w0 h0) (RepL.cons (rep_at w1 h1) rep_nil)), hs⟩
    · obtain ⟨s, hs⟩ := isTrue_some x2_5
      exact ⟨_, s, (RepL.cons (rep_at w0 h0) (RepL.cons (rep_at w1 h1) rep_nil)), hs⟩
    · obtain ⟨s, hs⟩ := isTrue_some x2_6
      exact ⟨_, s, (RepL.cons (rep_at w0 h0) (RepL.cons (rep_at w1 h1) rep_nil)), hs⟩
    · obtain ⟨s, hs⟩ := isTrue_some x2_7
      exact ⟨_, s, (RepL.cons (rep_at w0 h0) (RepL.cons (rep_at w1 h1) rep_nil)), hs⟩
  · have l1 : a1.toNat % 8 < 8 := Nat.mod_lt _ (by decide)
    have h1 : a1.toNat % 8 = 0 ∨ a1.toNat % 8 = 1 ∨ a1.toNat % 8 = 2 ∨ a1.toNat % 8 = 3 ∨ a1.toNat % 8 = 4 ∨ a1.toNat % 8 = 5 ∨ a1.toNat % 8 = 6 ∨ a1.toNat % 8 = 7 := by omega
    clear l1
    rcases h1 with h1 | h1 | h1 | h1 | h1 | h1 | h1 | h1
    · obtain ⟨s, hs⟩ := isTrue_some x3_0
      exact ⟨_, s, (RepL.cons (rep_at w0 h0) (RepL.cons (rep_at w1 h1) rep_nil)), hs⟩
    · obtain ⟨s, hs⟩ := isTrue_some x3_1
      exact ⟨_, s, (RepL.cons (rep_at w0 h0) (RepL.cons (rep_at w1 h1) rep_nil)), hs⟩
    · obtain ⟨s, hs⟩ := isTrue_some x3_2
      exact ⟨_, s, (RepL.cons (rep_at w0 h0) (RepL.cons (rep_at w1 h1) rep_nil)), hs⟩
    · obtain ⟨s, hs⟩ := isTrue_some x3_3
      exact ⟨_, s, (RepL.cons (rep_at w0 h0) (RepL.cons (rep_at w1 h1) rep_nil)), hs⟩
    · obtain ⟨s, hs⟩ := isTrue_some x3_4
      exact ⟨_, s, (RepL.cons (rep_at w0 h0) (RepL.cons (rep_at w1 h1) rep_nil)), hs⟩
    · obtain ⟨s, hs⟩ := isTrue_some x3_5
      exact ⟨_, s, (RepL.cons (rep_at w0 h0) (RepL.cons (rep_at w1 h1) rep_nil)), hs⟩
    · obtain ⟨s, hs⟩ := isTrue_some x3_6
      exact ⟨_, s, (RepL.cons (rep_at w0 h0) (RepL.cons (rep_at w1 h1) rep_nil)), hs⟩
    · obtain ⟨s, hs⟩ := isTrue_some x3_7
      exact ⟨_, s, (RepL.cons (rep_at w0 h0) (RepL.cons (rep_at w1 h1) rep_nil)), hs⟩
  · have l1 : a1.toNat % 8 < 8 := Nat.mod_lt _ (by decide)
    have h1 : a1.toNat % 8 = 0 ∨ a1.toNat % 8 = 1 ∨ a1.toNat % 8 = 2 ∨ a1.toNat % 8 = 3 ∨ a1.toNat % 8 = 4 ∨ a1.toNat % 8 = 5 ∨ a1.toNat % 8 = 6 ∨ a1.toNat % 8 = 7 := by omega
    clear l1
    rcases h1 with h1 | h1 | h1 | h1 | h1 | h1 | h1 | h1
    · obtain ⟨s, hs⟩ := isTrue_some x4_0
      exact ⟨_, s, (RepL.cons (rep_at w0 h0) (RepL.cons (rep_at w1 h1) rep_nil)), hs⟩
    · obtain ⟨s, hs⟩ := isTrue_some x4_1
      exact ⟨_, s, (RepL.cons (rep_at w0 h0) (RepL.cons (rep_at w1 h1) rep_nil)), hs⟩
    · obtain ⟨s, hs⟩ := isTrue_some x4_2
      exact ⟨_, s, (RepL.cons (rep_at w0 h0) (RepL.cons (rep_at w1 h1) rep_nil)), hs⟩
    · obtain ⟨s, hs⟩ := isTrue_some x4_3
      exact ⟨_, s, (RepL.cons (rep_at w0 h0) (RepL.cons (rep_at w1 h1) rep_nil)), hs⟩
    · obtain ⟨s, hs⟩ := isTrue_some x4_4
      exact ⟨_, s, (RepL.cons (rep_at w0 h0) (RepL.cons (rep_at w1 h1) rep_nil)), hs⟩
    · obtain ⟨s, hs⟩ := isTrue_some x4_5
      exact ⟨_, s, (RepL.cons (rep_at w0 h0) (RepL.cons (rep_at w1 h1) rep_nil)), hs⟩
    · obtain ⟨s, hs⟩ := isTrue_some x4_6
      exact ⟨_, s, (RepL.cons (rep_at w0 h0) (RepL.cons (rep_at w1 h1) rep_nil)), hs⟩
    · obtain ⟨s, hs⟩ := isTrue_some x4_7
      exact ⟨_, s, (RepL.cons (rep_at w0 h0) (RepL.cons (rep_at w1 h1) rep_nil)), hs⟩
  · have l1 : a1.toNat % 8 < 8 := Nat.mod_lt _ (by decide)
    have h1 : a1.toNat % 8 = 0 ∨ a1.toNat % 8 = 1 ∨ a1.toNat % 8 = 2 ∨ a1.toNat % 8 = 3 ∨ a1.toNat % 8 = 4 ∨ a1.toNat % 8 = 5 ∨ a1.toNat % 8 = 6 ∨ a1.toNat % 8 = 7 := by omega
    clear l1
    rcases h1 with h1 | h1 | h1 | h1 | h1 | h1 | h1 | h1
    · obtain ⟨s, hs⟩ := isTrue_some x5_0
      exact ⟨_, s, (RepL.cons (rep_at w0 h0) (RepL.cons (rep_at w1 h1) rep_nil)), hs⟩
    · obtain ⟨s, hs⟩ := isTrue_some x5_1
      exact ⟨_, s, (RepL.cons (rep_at w0 h0) (RepL.cons (rep_at w1 h1) rep_nil)), hs⟩
    · obtain ⟨s, hs⟩ := isTrue_some x5_2
      exact ⟨_, s, (RepL.cons (rep_at w0 h0) (RepL.cons (rep_at w1 h1) rep_nil)), hs⟩
    · obtain ⟨s, hs⟩ := isTrue_some x5_3
      exact ⟨_, s, (RepL.cons (rep_at w0 h0) (RepL.cons (rep_at w1 h1) rep_nil)), hs⟩
    · obtain ⟨s, hs⟩ := isTrue_some x5_4
      exact ⟨_, s, (RepL.cons (rep_at w0 h0) (RepL.cons (rep_at w1 h1) rep_nil)), hs⟩
    · obtain ⟨s, hs⟩ := isTrue_some x5_5
      exact ⟨_, s, (RepL.cons (rep_at w0 h0) (RepL.cons (rep_at w1 h1) rep_nil)), hs⟩
    · obtain ⟨s, hs⟩ := isTrue_some x5_6
      exact ⟨_, s, (RepL.cons (rep_at w0 h0) (RepL.cons (rep_at w1 h1) rep_nil)), hs⟩
    · obtain ⟨s, hs⟩ := isTrue_some x5_7
      exact ⟨_, s, (RepL.cons (rep_at w0 h0) (RepL.cons (rep_at w1 h1) rep_nil)), hs⟩
  · have l1 : a1.toNat % 8 < 8 := Nat.mod_lt _ (by decide)
    have h1 : a1.toNat % 8 = 0 ∨ a1.toNat % 8 = 1 ∨ a1.toNat % 8 = 2 ∨ a1.toNat % 8 = 3 ∨ a1.toNat % 8 = 4 ∨ a1.toNat % 8 = 5 ∨ a1.toNat % 8 = 6 ∨ a1.toNat % 8 = 7 := by omega
    clear l1
    rcases h1 with h1 | h1 | h1 | h1 | h1 | h1 | h1 | h1
    · obtain ⟨s, hs⟩ := isTrue_some x6_0
      exact ⟨_, s, (RepL.cons (rep_at w0 h0) (RepL.cons (rep_at w1 h1) rep_nil)), hs⟩
    · obtain ⟨s, hs⟩ := isTrue_some x6_1
      exact ⟨_, s, (RepL.cons (rep_at w0 h0) (RepL.cons (rep_at w1 h1) rep_nil)), hs⟩
    · obtain ⟨s, hs⟩ := isTrue_some x6_2
      exact ⟨_, s, (RepL.cons (rep_at w0 h0) (RepL.cons (rep_at w1 h1) rep_nil)), hs⟩
    · obtain ⟨s, hs⟩ := isTrue_some x6_3
      exact ⟨_, s, (RepL.cons (rep_at w0 h0) (RepL.cons (rep_at w1 h1) rep_nil)), hs⟩
    · obtain ⟨s, hs⟩ := isTrue_some x6_4
      exact ⟨_, s, (RepL.cons (rep_at w0 h0) (RepL.cons (rep_at w1 h1) rep_nil)), hs⟩
    · obtain ⟨s, hs⟩ := isTrue_some x6_5
      exact ⟨_, s, (RepL.cons (rep_at w0 h0) (RepL.cons (rep_at w1 h1) rep_nil)), hs⟩
    · obtain ⟨s, hs⟩ := isTrue_some x6_6
      exact ⟨_, s, (RepL.cons (rep_at w0 h0) (RepL.cons (rep_at w1 h1) rep_nil)), hs⟩
    · obtain ⟨s, hs⟩ := isTrue_some x6_7
      exact ⟨_, s, (RepL.cons (rep_at w0 h0) (RepL.cons (rep_at w1 h1) rep_nil)), hs⟩
  · have l1 : a1.toNat % 8 < 8 := Nat.mod_lt _ (by decide)
    have h1 : a1.toNat % 8 = 0 ∨ a1.toNat % 8 = 1 ∨ a1.toNat % 8 = 2 ∨ a1.toNat % 8 = 3 ∨ a1.toNat % 8 = 4 ∨ a1.toNat % 8 = 5 ∨ a1.toNat % 8 = 6 ∨ a1.toNat % 8 = 7 := by omega
    clear l1
    rcases h1 with h1 | h1 | h1 | h1 | h1 | h1 | h1 | h1
    · obtain ⟨s, hs⟩ := isTrue_some x7_0
      exact ⟨_, s, (RepL.cons (rep_at w0 h0) (RepL.cons (rep_at w1 h1) rep_nil)), hs⟩
    · obtain ⟨s, hs⟩ := isTrue_some x7_1
      exact ⟨_, s, (RepL.cons (rep_at w0 h0) (RepL.cons (rep_at w1 h1) rep_nil)), hs⟩
    · obtain ⟨s, hs⟩ := isTrue_some x7_2
      exact ⟨_, s, (RepL.cons (rep_at w0 h0) (RepL.cons (rep_at w1 h1) rep_nil)), hs⟩
    · obtain ⟨s, hs⟩ := isTrue_some x7_3
      exact ⟨_, s, (RepL.cons (rep_at w0 h0) (RepL.cons (rep_at w1 h1) rep_nil)), hs⟩
    · obtain ⟨s, hs⟩ := isTrue_some x7_4
      exact ⟨_, s, (RepL.cons (rep_at w0 h0) (RepL.cons (rep_at w1 h1) rep_nil)), hs⟩
    · obtain ⟨s, hs⟩ := isTrue_some x7_5
      exact ⟨_, s, (RepL.cons (rep_at w0 h0) (RepL.cons (rep_at w1 h1) rep_nil)), hs⟩
    · obtain ⟨s, hs⟩ := isTrue_some x7_6
      exact ⟨_, s, (RepL.cons (rep_at w0 h0) (RepL.cons (rep_at w1 h1) rep_nil)), hs⟩
    · obtain ⟨s, hs⟩ := isTrue_some x7_7
      exact ⟨_, s, (RepL.cons (rep_at w0 h0) (RepL.cons (rep_at w1 h1) rep_nil)), hs⟩
  · have l1 : a1.toNat % 8 < 8 := Nat.mod_lt _ (by decide)
    have h1 : a1.toNat % 8 = 0 ∨ a1.toNat % 8 = 1 ∨ a1.toNat % 8 = 2 ∨ a1.toNat % 8 = 3 ∨ a1.toNat % 8 = 4 ∨ a1.toNat % 8 = 5 ∨ a1.toNat % 8 = 6 ∨ a1.toNat % 8 = 7 := by omega
    clear l1
    rcases h1 with h1 | h1 | h1 | h1 | h1 | h1 | h1 | h1
    · obtain ⟨s, hs⟩ := isTrue_some x8_0
      exact ⟨_, s, (RepL.cons (rep_at w0 h0) (RepL.cons (rep_at w1 h1) rep_nil)), hs⟩
    · obtain ⟨s, hs⟩ := isTrue_some x8_1
      exact ⟨_, s, (RepL.cons (rep_at w0 h0) (RepL.cons (rep_at w1 h1) rep_nil)), hs⟩
    · obtain ⟨s, hs⟩ := isTrue_some x8_2
      exact ⟨_, s, (RepL.cons (rep_at w0 h0) (RepL.cons (rep_at w1 h1) rep_nil)), hs⟩
    · obtain ⟨s, hs⟩ := isTrue_some x8_3
      exact ⟨_, s, (RepL.cons (rep_at w0 h0) (RepL.cons (rep_at w1 h1) rep_nil)), hs⟩
    · obtain ⟨s, hs⟩ := isTrue_some x8_4
      exact ⟨_, s, (RepL.cons (rep_at w0 h0) (RepL.cons (rep_at w1 h1) rep_nil)), hs⟩
    · obtain ⟨s, hs⟩ := isTrue_some x8_5
      exact ⟨_, s, (RepL.cons (rep_at w0 h0) (RepL.cons (rep_at w1 h1) rep_nil)), hs⟩
    · obtain ⟨s, hs⟩ := isTrue_some x8_6
      exact ⟨_, s, (RepL.cons (rep_at w0 h0) (RepL.cons (rep_at w1 h1) rep_nil)), hs⟩
    · obtain ⟨s, hs⟩ := isTrue_some x8_7
      exact ⟨_, s, (RepL.cons (rep_at w0 h0) (RepL.cons (rep_at w1 h1) rep_nil)), hs⟩
theorem walk (a0 : Int) (a1 : Int) (w0 : (Lit.int .u8 a0).wf = true) (w1 : (Lit.int .u8 a1).wf = true) (w : World) :
    Calls Tryz.prog 5 #[.int .u8 a0, .int .u8 a1] w fun e w' => e = .returned (.bool true) ∧ w.keptBut w' (fun _ => False) := by
  obtain ⟨vs, s, h1, h2⟩ := run a0 a1 w0 w1
  exact Go.Am.law_calls Go.Am.Gs.tabFamilyGood5Ok h2 h1 w

/-! ### THE ROW's STEP: WRITTEN OUT: LEAVE IT -/
set_option maxRecDepth 100000 in
theorem lifted (os : Os) (started : os.Started) (H : Type) (enc : TypeId × Value → H) :
    ReturnsInHanded {} Tryz.checked os 5 .any (Rows.familyGoodSpec.pre6 enc Tryz.prog Tryz.f5 Rows.familyGoodRow.domain false) (Rows.familyGoodSpec.post enc Tryz.prog Tryz.f5 false true false false) := by
  refine returnsInHanded_of_change (C := Tryz.checked) own started (by kernel_rfl) Tryz.func5
    (ChangeSpec.witness6 (enc := enc) (C := Tryz.checked) false ⟨#[], #[.int .u8 0, .int .u8 0], []⟩ 8 (by kernel_rfl) (by kernel_rfl) (by kernel_rfl) (by kernel_rfl)) ?_
  intro W base args ds gs before hval0 hW hcnd _
  have hval : ∀ (j : Nat) t v, Tryz.f5.params[j]? = some t → args[j]? = some v → Value.okWide Tryz.prog W .any base t v := hval0
  have hW' := hW
  obtain ⟨p, q, hA0, hV, rfl, hfz, hnd⟩ := hW
  have hA : DataW.TrodAll enc Tryz.prog W 0 (fun _ => true) true Tryz.f5.params.toList args.toList ds p := hA0
  rw [Tryz.params5] at hA hval
  obtain ⟨v0, vs0, d0, ds0, p0, q0, hargs, rfl, rfl, h0, r0⟩ := trodAll_cons hA
  obtain ⟨v1, vs1, d1, ds1, p1, q1, rfl, rfl, rfl, h1, r1⟩ := trodAll_cons r0
  obtain ⟨rfl, rfl, rfl⟩ := trodAll_nil r1
  obtain rfl : args = #[v0, v1] := by cases args; simp_all
  obtain ⟨rfl, rfl⟩ := trodVars_none hV
  obtain ⟨a0, rfl, rfl, rfl, w0⟩ := open_int Tryz.underlying5 (hval 0 5 v0 rfl rfl) h0
  obtain ⟨a1, rfl, rfl, rfl, w1⟩ := open_int Tryz.underlying5 (hval 1 5 v1 rfl rfl) h1
  clear hA0 hval0
  simp only [List.append_nil] at hW'
  refine (walk a0 a1 w0 w1 W).mono fun e W' ⟨he, hg⟩ => ?_
  subst he
  exact ⟨_, rfl, Go.Am.post_calm (pa := []) (pv := []) hW' (fun _ _ _ => (trodAll_cons_mk (shut_bool Tryz.underlying4 _) trodAll_mk0)) (fun sp _ => (trodAll_cons_mk (shut_int Tryz.underlying5 w0) (trodAll_cons_mk (shut_int Tryz.underlying5 w1) trodAll_mk0))) (fun _ _ => rfl) rfl hg⟩

theorem over : Rows.familyGoodRow.holds Tryz.pinned (OpenSpec.ofChange Rows.familyGoodSpec) :=
  OpenClaim.holds_of_wide 5 Tryz.f5 rfl rfl rfl rfl rfl rfl rfl ⟨rfl, rfl, rfl, rfl, rfl⟩ rfl rfl rfl rfl rfl (by kernel_rfl) Tryz.func5 (by kernel_rfl)
    (of_decide_eq_true (by kernel_rfl)) (by unfold Func.isWrapper; first | (rw [if_pos (by decide +kernel)]; kernel_rfl) | (rw [if_neg (by decide +kernel)]; exact ⟨rfl, rfl⟩))
    (fun os started H enc _ => lifted os started H enc)

/-- ████ THE STATEMENT ████ -/
theorem proved : Rows.FamilyGoodSaid :=
  over
#print axioms proved
end Go.Proofs.YtgolgogmhcgecaaGreat.familyGood
