/- FamilyTaken: for all inputs the law answers true, and its arguments read as before. No conditions. The program is run, with bytes of which the remainders are known, in an abstract machine that is proved to be borne by the model. -/
import Derived.Test.YtgolgogmhcgecaaGreatRows
import Derived.WalkKit
import Derived.ProofKit
import Derived.OpenShut
import Derived.Test.YtgolgogmhcgecaaGreatAmO
import Derived.Test.YtgolgogmhcgecaaGreatAmP
set_option linter.unusedVariables false
namespace Go.Proofs.YtgolgogmhcgecaaGreat.familyTaken
open Go.ChangeShapes Go.WideShapes Go.ChangeAt Go.RowKit
set_option linter.unusedVariables false      -- a walk need not use every 'w<i>' (that an integer argument fits its kind)

theorem own : ownKnob Tryz.prog.godebug = none := by kernel_rfl

open Go.Am Go.Am.Gs.FamilyTaken in
theorem run (a0 : Int) (a1 : Int) (w0 : (Lit.int .u8 a0).wf = true) (w1 : (Lit.int .u8 a1).wf = true) : ∃ vs s, RepL (fun _ => none) vs [.int .u8 a0, .int .u8 a1] ∧ evF Go.Am.Gs.tabFamilyTaken4 200 6 vs ⟨.leaf, 1⟩ = some (.bool true, s) := by
  have l0 : a0.toNat % 9 < 9 := Nat.mod_lt _ (by decide)
  have h0 : a0.toNat % 9 = 0 ∨ a0.toNat % 9 = 1 ∨ a0.toNat % 9 = 2 ∨ a0.toNat % 9 = 3 ∨ a0.toNat % 9 = 4 ∨ a0.toNat % 9 = 5 ∨ a0.toNat % 9 = 6 ∨ a0.toNat % 9 = 7 ∨ a0.toNat % 9 = 8 := by omega
  clear l0
  rcases h0 with h0 | h0 | h0 | h0 | h0 | h0 | h0 | h0 | h0
  · have l1 : a1.toNat % 4 < 4 := Nat.mod_lt _ (by decide)
    have h1 : a1.toNat % 4 = 0 ∨ a1.toNat % 4 = 1 ∨ a1.toNat % 4 = 2 ∨ a1.toNat % 4 = 3 := by omega
    clear l1
    rcases h1 with h1 | h1 | h1 | h1
    · obtain ⟨s, hs⟩ := isTrue_some x0_0
      exact ⟨_, s, (RepL.cons (rep_at w0 h0) (RepL.cons (rep_at w1 h1) rep_nil)), hs⟩
    · obtain ⟨s, hs⟩ := isTrue_some x0_1
      exact ⟨_, s, (RepL.cons (rep_at w0 h0) (RepL.cons (rep_at w1 h1) rep_nil)), hs⟩
    · obtain ⟨s, hs⟩ := isTrue_some x0_2
      exact ⟨_, s, (RepL.cons (rep_at w0 h0) (RepL.cons (rep_at w1 h1) rep_nil)), hs⟩
    · obtain ⟨s, hs⟩ := isTrue_some x0_3
      exact ⟨_, s, (RepL.cons (rep_at w0 h0) (RepL.cons (rep_at w1 h1) rep_nil)), hs⟩
  · have l1 : a1.toNat % 2 < 2 := Nat.mod_lt _ (by decide)
    have h1 : a1.toNat % 2 = 0 ∨ a1.toNat % 2 = 1 := by omega
    clear l1
    rcases h1 with h1 | h1
    · obtain ⟨s, hs⟩ := isTrue_some x1_0
      exact ⟨_, s, (RepL.cons (rep_at w0 h0) (RepL.cons (rep_at w1 h1) rep_nil)), hs⟩
    · obtain ⟨s, hs⟩ := isTrue_some x1_1
      exact ⟨_, s, (RepL.cons (rep_at w0 h0) (RepL.cons (rep_at w1 h1) rep_nil)), hs⟩
  · have l1 : a1.toNat % 3 < 3 := Nat.mod_lt _ (by decide)
    have h1 : a1.toNat % 3 = 0 ∨ a1.toNat % 3 = 1 ∨ a1.toNat % 3 = 2 := by omega
    clear l1
    rcases h1 with h1 | h1 | h1
    · obtain ⟨s, hs⟩ := isTrue_some x2_0
      exact ⟨_, s, (RepL.cons (rep_at w0 h0) (RepL.cons (rep_at w1 h1) rep_nil)), hs⟩
    · obtain ⟨s, hs⟩ := isTrue_some x2_1
      exact ⟨_, s, (RepL.cons (rep_at w0 h0) (RepL.cons (rep_at w1 h1) rep_nil)), hs⟩
    · obtain ⟨s, hs⟩ := isTrue_some x2_2
      exact ⟨_, s, (RepL.cons (rep_at w0 h0) (RepL.cons (rep_at w1 h1) rep_nil)), hs⟩
  · have l1 : a1.toNat % 3 < 3 := Nat.mod_lt _ (by decide)
    have h1 : a1.toNat % 3 = 0 ∨ a1.toNat % 3 = 1 ∨ a1.toNat % 3 = 2 := by omega
    clear l1
    rcases h1 with h1 | h1 | h1
    · obtain ⟨s, hs⟩ := isTrue_some x3_0
      exact ⟨_, s, (RepL.cons (rep_at w0 h0) (RepL.cons (rep_at w1 h1) rep_nil)), hs⟩
    · obtain ⟨s, hs⟩ := isTrue_some x3_1
      exact ⟨_, s, (RepL.cons (rep_at w0 h0) (RepL.cons (rep_at w1 h1) rep_nil)), hs⟩
    · obtain ⟨s, hs⟩ := isTrue_some x3_2
      exact ⟨_, s, (RepL.cons (rep_at w0 h0) (RepL.cons (rep_at w1 h1) rep_nil)), hs⟩
  · have l1 : a1.toNat % 4 < 4 := Nat.mod_lt _ (by decide)
    have h1 : a1.toNat % 4 = 0 ∨ a1.toNat % 4 = 1 ∨ a1.toNat % 4 = 2 ∨ a1.toNat % 4 = 3 := by omega
    clear l1
    rcases h1 with h1 | h1 | h1 | h1
    · obtain ⟨s, hs⟩ := isTrue_some x4_0
      exact ⟨_, s, (RepL.cons (rep_at w0 h0) (RepL.cons (rep_at w1 h1) rep_nil)), hs⟩
    · obtain ⟨s, hs⟩ := isTrue_some x4_1
      exact ⟨_, s, (RepL.cons (rep_at w0 h0) (RepL.cons (rep_at w1 h1) rep_nil)), hs⟩
    · obtain ⟨s, hs⟩ := isTrue_some x4_2
      exact ⟨_, s, (RepL.cons (rep_at w0 h0) (RepL.cons (rep_at w1 h1) rep_nil)), hs⟩
    · obtain ⟨s, hs⟩ := isTrue_some x4_3
      exact ⟨_, s, (RepL.cons (rep_at w0 h0) (RepL.cons (rep_at w1 h1) rep_nil)), hs⟩
  · have l1 : a1.toNat % 4 < 4 := Nat.mod_lt _ (by decide)
    have h1 : a1.toNat % 4 = 0 ∨ a1.toNat % 4 = 1 ∨ a1.toNat % 4 = 2 ∨ a1.toNat % 4 = 3 := by omega
    clear l1
    rcases h1 with h1 | h1 | h1 | h1
    · obtain ⟨s, hs⟩ := isTrue_some x5_0
      exact ⟨_, s, (RepL.cons (rep_at w0 h0) (RepL.cons (rep_at w1 h1) rep_nil)), hs⟩
    · obtain ⟨s, hs⟩ := isTrue_some x5_1
      exact ⟨_, s, (RepL.cons (rep_at w0 h0) (RepL.cons (rep_at w1 h1) rep_nil)), hs⟩
    · obtain ⟨s, hs⟩ := isTrue_some x5_2
      exact ⟨_, s, (RepL.cons (rep_at w0 h0) (RepL.cons (rep_at w1 h1) rep_nil)), hs⟩
    · obtain ⟨s, hs⟩ := isTrue_some x5_3
      exact ⟨_, s, (RepL.cons (rep_at w0 h0) (RepL.cons (rep_at w1 h1) rep_nil)), hs⟩
  · have l1 : a1.toNat % 4 < 4 := Nat.mod_lt _ (by decide)
    have h1 : a1.toNat % 4 = 0 ∨ a1.toNat % 4 = 1 ∨ a1.toNat % 4 = 2 ∨ a1.toNat % 4 = 3 := by omega
    clear l1
    rcases h1 with h1 | h1 | h1 | h1
    · obtain ⟨s, hs⟩ := isTrue_some x6_0
      exact ⟨_, s, (RepL.cons (rep_at w0 h0) (RepL.cons (rep_at w1 h1) rep_nil)), hs⟩
    · obtain ⟨s, hs⟩ := isTrue_some x6_1
      exact ⟨_, s, (RepL.cons (rep_at w0 h0) (RepL.cons (rep_at w1 h1) rep_nil)), hs⟩
    · obtain ⟨s, hs⟩ := isTrue_some x6_2
      exact ⟨_, s, (RepL.cons (rep_at w0 h0) (RepL.cons (rep_at w1 h1) rep_nil)), hs⟩
    · obtain ⟨s, hs⟩ := isTrue_some x6_3
      exact ⟨_, s, (RepL.cons (rep_at w0 h0) (RepL.cons (rep_at w1 h1) rep_nil)), hs⟩
  · have l1 : a1.toNat % 4 < 4 := Nat.mod_lt _ (by decide)
    have h1 : a1.toNat % 4 = 0 ∨ a1.toNat % 4 = 1 ∨ a1.toNat % 4 = 2 ∨ a1.toNat % 4 = 3 := by omega
    clear l1
    rcases h1 with h1 | h1 | h1 | h1
    · obtain ⟨s, hs⟩ := isTrue_some x7_0
      exact ⟨_, s, (RepL.cons (rep_at w0 h0) (RepL.cons (rep_at w1 h1) rep_nil)), hs⟩
    · obtain ⟨s, hs⟩ := isTrue_some x7_1
      exact ⟨_, s, (RepL.cons (rep_at w0 h0) (RepL.cons (rep_at w1 h1) rep_nil)), hs⟩
    · obtain ⟨s, hs⟩ := isTrue_some x7_2
      exact ⟨_, s, (RepL.cons (rep_at w0 h0) (RepL.cons (rep_at w1 h1) rep_nil)), hs⟩
    · obtain ⟨s, hs⟩ := isTrue_some x7_3
      exact ⟨_, s, (RepL.cons (rep_at w0 h0) (RepL.cons (rep_at w1 h1) rep_nil)), hs⟩
  · have l1 : a1.toNat % 3 < 3 := Nat.mod_lt _ (by decide)
    have h1 : a1.toNat % 3 = 0 ∨ a1.toNat % 3 = 1 ∨ a1.toNat % 3 = 2 := by omega
    clear l1
    rcases h1 with h1 | h1 | h1
    · obtain ⟨s, hs⟩ := isTrue_some x8_0
      exact ⟨_, s, (RepL.cons (rep_at w0 h0) (RepL.cons (rep_at w1 h1) rep_nil)), hs⟩
    · obtain ⟨s, hs⟩ := isTrue_some x8_1
      exact ⟨_, s, (RepL.cons (rep_at w0 h0) (RepL.cons (rep_at w1 h1) rep_nil)), hs⟩
    · obtain ⟨s, hs⟩ := isTrue_some x8_2
      exact ⟨_, s, (RepL.cons (rep_at w0 h0) (RepL.cons (rep_at w1 h1) rep_nil)), hs⟩
theorem walk (a0 : Int) (a1 : Int) (w0 : (Lit.int .u8 a0).wf = true) (w1 : (Lit.int .u8 a1).wf = true) (w : World) :
    Calls Tryz.prog 6 #[.int .u8 a0, .int .u8 a1] w fun e w' => e = .returned (.bool true) ∧ w.keptBut w' (fun _ => False) := by
  obtain ⟨vs, s, h1, h2⟩ := run a0 a1 w0 w1
  exact Go.Am.law_calls Go.Am.Gs.tabFamilyTaken4Ok h2 h1 w

/-! ### THE ROW's STEP: WRITTEN OUT: LEAVE IT -/
set_option maxRecDepth 100000 in
theorem lifted (os : Os) (started : os.Started) (H : Type) (enc : TypeId × Value → H) :
    ReturnsInHanded {} Tryz.checked os 6 .any (Rows.familyTakenSpec.pre6 enc Tryz.prog Tryz.f6 Rows.familyTakenRow.domain false) (Rows.familyTakenSpec.post enc Tryz.prog Tryz.f6 false true false false) := by
  refine returnsInHanded_of_change (C := Tryz.checked) own started (by kernel_rfl) Tryz.func6
    (ChangeSpec.witness6 (enc := enc) (C := Tryz.checked) false ⟨#[], #[.int .u8 0, .int .u8 0], []⟩ 8 (by kernel_rfl) (by kernel_rfl) (by kernel_rfl) (by kernel_rfl)) ?_
  intro W base args ds gs before hval0 hW hcnd _
  have hval : ∀ (j : Nat) t v, Tryz.f6.params[j]? = some t → args[j]? = some v → Value.okWide Tryz.prog W .any base t v := hval0
  have hW' := hW
  obtain ⟨p, q, hA0, hV, rfl, hfz, hnd⟩ := hW
  have hA : DataW.TrodAll enc Tryz.prog W 0 (fun _ => true) true Tryz.f6.params.toList args.toList ds p := hA0
  rw [Tryz.params6] at hA hval
  obtain ⟨v0, vs0, d0, ds0, p0, q0, hargs, rfl, rfl, h0, r0⟩ := trodAll_cons hA
  obtain ⟨v1, vs1, d1, ds1, p1, q1, rfl, rfl, rfl, h1, r1⟩ := trodAll_cons r0
  obtain ⟨rfl, rfl, rfl⟩ := trodAll_nil r1
  obtain rfl : args = #[v0, v1] := by cases args; simp_all
  obtain ⟨rfl, rfl⟩ := trodVars_none hV
  obtain ⟨a0, rfl, rfl, rfl, w0⟩ := open_int Tryz.underlying5 (hval 0 5 v0 rfl rfl) h0
  obtain ⟨a1, rfl, rfl, rfl, w1⟩ := open_int Tryz.underlying5 (hval 1 5 v1 rfl rfl) h1
  clear hA0 hval0
  simp only [List.append_nil] at hW'
  refine (walk a0 a1 w0 w1 W).mono fun e W' ⟨he, hg⟩ => ?_
  subst he
  exact ⟨_, rfl, Go.Am.post_calm (pa := []) (pv := []) hW' (fun _ _ _ => (trodAll_cons_mk (shut_bool Tryz.underlying4 _) trodAll_mk0)) (fun sp _ => (trodAll_cons_mk (shut_int Tryz.underlying5 w0) (trodAll_cons_mk (shut_int Tryz.underlying5 w1) trodAll_mk0))) (fun _ _ => rfl) rfl hg⟩

theorem over : Rows.familyTakenRow.holds Tryz.pinned (OpenSpec.ofChange Rows.familyTakenSpec) :=
  OpenClaim.holds_of_wide 6 Tryz.f6 rfl rfl rfl rfl rfl rfl rfl ⟨rfl, rfl, rfl, rfl, rfl⟩ rfl rfl rfl rfl rfl (by kernel_rfl) Tryz.func6 (by kernel_rfl)
    (of_decide_eq_true (by kernel_rfl)) (by unfold Func.isWrapper; first | (rw [if_pos (by decide +kernel)]; kernel_rfl) | (rw [if_neg (by decide +kernel)]; exact ⟨rfl, rfl⟩))
    (fun os started H enc _ => lifted os started H enc)

/-- ████ THE STATEMENT ████ -/
theorem proved : Rows.FamilyTakenSaid :=
  over
#print axioms proved
end Go.Proofs.YtgolgogmhcgecaaGreat.familyTaken
