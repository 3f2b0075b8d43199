/- A law that the abstract machine answers is answered by the program. -/
import Derived.Test.YtgolgogmhcgecaaGreatAmSum
import Derived.ChangeSame
namespace Go.Am
set_option linter.unusedVariables false
section
variable {P : Program}

/-- A byte whose remainder is known. -/
theorem rep_res {ρ : Rho} {a : Int} (h : (Lit.int .u8 a).wf = true) (m : Nat) : Rep ρ (.res .u8 m (a.toNat % m)) (.int .u8 a) := by
  simp only [Rep]
  have h1 : 0 ≤ a ∧ a ≤ 255 := by
    have h2 : IntKind.u8.min ≤ a ∧ a ≤ IntKind.u8.max := by simpa [Lit.wf] using h
    exact h2
  refine ⟨a.toNat, ?_, by omega, rfl⟩
  have : (Int.ofNat a.toNat) = a := by show (a.toNat : Int) = a; omega
  rw [this]

theorem rep_at {ρ : Rho} {a : Int} (h : (Lit.int .u8 a).wf = true) {m r : Nat} (hr : a.toNat % m = r) : Rep ρ (.res .u8 m r) (.int .u8 a) := hr ▸ rep_res h m
theorem rep_nil {ρ : Rho} : RepL ρ [] [] := RepL.nil ρ

theorem kept_of {w w' : World} (h : ∀ b, b < w.heap.size → w'.heap[b]? = w.heap[b]?) (ho : w'.os = w.os) (hp : w'.output = w.output) : w.keptBut w' (fun _ => False) := by
  refine ⟨ho, hp, fun i hi => ?_⟩
  rw [h i hi]
  cases w.heap[i]? with
  | none => rfl
  | some o => cases o with
    | cells c t fr => exact ⟨rfl, rfl, rfl, fun _ _ => rfl⟩
    | map es cl => exact .inr ⟨rfl, rfl⟩
    | _ => rfl

theorem law_calls {tab : Tr FFn} (hT : TabOk P tab) {n f : Nat} {vs : List AV} {cvs : List Value} {s' : St} (h : evF tab n f vs ⟨.leaf, 1⟩ = some (.bool true, s')) (hr : RepL (fun _ => none) vs cvs) (w : World) :
    Calls P f ⟨cvs⟩ w fun e w' => e = .returned (.bool true) ∧ w.keptBut w' (fun _ => False) := by
  obtain ⟨_, _, g⟩ := evF_ok hT n f vs ⟨.leaf, 1⟩ _ _ h
  refine (g (Fr.all w) w (fun _ => none) w cvs hr (Sat.blank w) (fun _ _ _ => rfl)).mono fun e w' ⟨ρ', cv, q1, q2, q3, q4⟩ => ?_
  simp only [Rep] at q3
  subst q3
  exact ⟨q1, kept_of (fun b hb => (q4.keep b hb).2) q4.os q4.output⟩

/-- What a run must answer: true. -/
noncomputable def isTrue : Option (AV × St) → Bool
  | some (.bool true, _) => true
  | _ => false
theorem isTrue_some {r : Option (AV × St)} (h : isTrue r = true) : ∃ s', r = some (.bool true, s') := by
  unfold isTrue at h
  split at h
  · exact ⟨_, rfl⟩
  · cases h

theorem post_calm {H : Type} {enc : TypeId × Value → H} {f : Func} {s : ChangeSpec} {apart fresh handsOn : Bool} {W W' : World} {args : Array Value} {v : Value} {ds gs : List (DataW H)} {before pa pv : List MemPlace}
    (hW : DataW.Whole enc P f.params.toList s.vars apart W args.toList ds gs before)
    (hres : ∀ (b : Nat) (sp : Nat → Bool) (hd : Bool), DataW.TrodAll enc P W' b sp hd f.resultTypes.toList (v.resultList f.resultTypes.size) (s.fn H (ds ++ gs)).results [])
    (hargs : ∀ sp : Nat → Bool, (∀ p ∈ before, sp p.block = true) → DataW.TrodAll enc P W' 0 sp true f.params.toList args.toList (s.fn H (ds ++ gs)).args pa)
    (hvars : ∀ sp : Nat → Bool, (∀ p ∈ before, sp p.block = true) → DataW.TrodVars enc P W' sp s.vars (s.fn H (ds ++ gs)).vars pv)
    (hps : before = pa ++ pv) (hk : W.keptBut W' (fun _ => False)) : s.post enc P f apart fresh handsOn false W args v W' := by
  have hold : ∀ p ∈ before, (fun b => decide (b < W.heap.size)) p.block = true := fun p hp => by simpa using hW.lt p hp
  exact ⟨ds, gs, before, [], pa, pv, hW, hres _ _ _, hargs _ hold, hvars _ hold, World.keptBut_mono (fun p hp => hp.elim) hk, fun h => by cases h⟩
end
end Go.Am
