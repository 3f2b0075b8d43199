/- What follows behind the call in term.Names, whole. -/
import Derived.Test.YtgolgogmhcgecaaGreatAmNames7
import Derived.Sort.Grow
import Derived.Sort.EncStr
namespace Go.Am
set_option linter.unusedVariables false
set_option linter.unusedSimpArgs false

section
variable {P : Program} {F : Fr} {w0 w w' : World} {ρ : Rho} {h : Heap}

/-- A world that keeps all blocks that were. -/
theorem Sat.kept (s : Sat F w0 ρ h w) (hk : ∀ b, b < w.heap.size → w'.heap[b]? = w.heap[b]?) (hsz : w.heap.size ≤ w'.heap.size) (ho : w'.os = w.os) (ht : w'.tape = w.tape) (hp : w'.output = w.output) : Sat F w0 ρ h w' where
  objs o z hz := by
    obtain ⟨l, h1, h2⟩ := s.objs o z hz
    exact ⟨l, h1, by rw [hk _ (s.low o l h1)]; exact h2⟩
  inj := s.inj
  low o l hl := Nat.lt_of_lt_of_le (s.low o l hl) hsz
  keep b hb := by
    obtain ⟨h1, h2⟩ := s.keep b hb
    exact ⟨Nat.lt_of_lt_of_le h1 hsz, (hk b h1).trans h2⟩
  off := s.off
  plow b hb := Nat.lt_of_lt_of_le (s.plow b hb) hsz
  priv := s.priv
  os := ho.trans s.os
  tape := ht.trans s.tape
  output := hp.trans s.output
  size := Nat.le_trans s.size hsz
/-- And a new block besides. -/
theorem Sat.place (s : Sat F w0 ρ h w) (hk : ∀ b, b < w.heap.size → w'.heap[b]? = w.heap[b]?) (hsz : w.heap.size ≤ w'.heap.size) (hos : w'.os = w.os) (ht : w'.tape = w.tape) (hp : w'.output = w.output)
    {n : Nat} (hn : ρ n = none) {x : AObj} {lc : Loc} (hlo : w.heap.size ≤ lc.b) (hhi : lc.b < w'.heap.size) (hr : ObjRep (upd ρ n (some lc)) lc w'.heap[lc.b]? x) : Sat F w0 (upd ρ n (some lc)) (upd h n (some x)) w' where
  objs o z hz := by
    by_cases e : o = n
    · subst e
      rw [upd_same] at hz
      injection hz with hz
      subst hz
      exact ⟨_, upd_same _ _ _, hr⟩
    · rw [upd_ne _ _ e] at hz
      obtain ⟨l, h1, h2⟩ := s.objs o z hz
      refine ⟨l, by rw [upd_ne _ _ e]; exact h1, ?_⟩
      rw [hk _ (s.low o l h1)]
      exact h2.mono (Ext.upd hn _).sub
  inj o o' z z' l l' hz hz' hne hl hl' hb := by
    by_cases e : o = n
    · subst e
      have e' : o' ≠ o := fun q => hne q.symm
      rw [upd_same] at hl
      injection hl with hl
      subst hl
      rw [upd_ne _ _ e'] at hl'
      have := s.low o' l' hl'
      exact absurd hb (by omega)
    · by_cases e' : o' = n
      · subst e'
        rw [upd_same] at hl'
        injection hl' with hl'
        subst hl'
        rw [upd_ne _ _ e] at hl
        have := s.low o l hl
        exact absurd hb (by omega)
      · rw [upd_ne _ _ e] at hz hl
        rw [upd_ne _ _ e'] at hz' hl'
        exact s.inj o o' z z' l l' hz hz' hne hl hl' hb
  low o l hl := by
    by_cases e : o = n
    · subst e
      rw [upd_same] at hl
      injection hl with hl
      subst hl
      exact hhi
    · rw [upd_ne _ _ e] at hl
      exact Nat.lt_of_lt_of_le (s.low o l hl) hsz
  keep b hb := by
    obtain ⟨h1, h2⟩ := s.keep b hb
    exact ⟨Nat.lt_of_lt_of_le h1 hsz, (hk b h1).trans h2⟩
  off o z l hz hr hl := by
    by_cases e : o = n
    · subst e
      rw [upd_same] at hl
      injection hl with hl
      subst hl
      exact fun q => by have := (s.keep _ q).1; omega
    · rw [upd_ne _ _ e] at hz hl
      exact s.off o z l hz hr hl
  plow b hb := Nat.lt_of_lt_of_le (s.plow b hb) hsz
  priv o z l hz hl := by
    by_cases e : o = n
    · subst e
      rw [upd_same] at hl
      injection hl with hl
      subst hl
      exact fun q => by have := s.plow _ q; omega
    · rw [upd_ne _ _ e] at hz hl
      exact s.priv o z l hz hl
  os := hos.trans s.os
  tape := ht.trans s.tape
  output := hp.trans s.output
  size := Nat.le_trans s.size hsz
end

/-! ### Keys -/
theorem keys_of : ∀ {es : List (AV × AV)}, allStr es = true → ∃ ks : List (List Nat), keysOf es = ks.map AV.str
  | [], _ => ⟨[], rfl⟩
  | p :: es, h => by
    have h1 : allStr (p :: es) = match p.1 with
      | .str _ => allStr es
      | _ => false := rfl
    rw [h1] at h
    split at h
    · next k hk =>
      obtain ⟨ks, hks⟩ := keys_of h
      refine ⟨k :: ks, ?_⟩
      have h2 : keysOf (p :: es) = p.1 :: keysOf es := rfl
      rw [h2, hk, hks]; rfl
    · cases h
theorem keysAre_of {ρ : Rho} : ∀ {es : List (AV × AV)} {ms : List MapEntry} {ks : List (List Nat)}, RepEs ρ es ms → keysOf es = ks.map AV.str → KeysAre ms ks
  | [], ms, ks, h, hk => by
    have h1 : ms = [] := h
    subst h1
    have h2 : ([] : List AV) = ks.map AV.str := hk
    have : ks = [] := by simpa using h2.symm
    subst this
    exact ⟨rfl, fun k hk => by cases hk⟩
  | p :: es, ms, ks, h, hk => by
    obtain ⟨e, r, rfl, h2, h3, h4⟩ := h
    have h1 : p.1 :: keysOf es = ks.map AV.str := hk
    cases ks with
    | nil => simp at h1
    | cons k ks =>
      simp only [List.map_cons, List.cons.injEq] at h1
      obtain ⟨g1, g2⟩ := keysAre_of h4 h1.2
      rw [h1.1] at h2
      simp only [Rep] at h2
      refine ⟨?_, fun x hx => ?_⟩
      · simp only [List.map_cons, h2.1, g1]
      · rcases List.mem_cons.1 hx with rfl | hx
        · exact h2.2
        · exact g2 x hx
theorem strOf_inj {a b : List Nat} (ha : small a) (hb : small b) (h : strOf a = strOf b) : a = b := by
  unfold strOf at h
  simp only [ByteArray.mk.injEq, Array.mk.injEq, List.toArray_inj] at h
  have h2 := congrArg (fun l => l.map UInt8.toNat) h
  simp only [List.map_map] at h2
  have key : ∀ l : List Nat, small l → l.map (UInt8.toNat ∘ UInt8.ofNat) = l := fun l hl => by
    conv => rhs; rw [← List.map_id l]
    refine List.map_congr_left fun x hx => ?_
    simp [Nat.mod_eq_of_lt (hl x hx)]
  rw [key a ha, key b hb] at h2
  exact h2
theorem keysAre_perm {ms ms' : List MapEntry} {ks ks' : List (List Nat)} (h : KeysAre ms ks) (h' : KeysAre ms' ks') (hp : ms.Perm ms') : ks.Perm ks' := by
  have h1 : (ms.map (·.key)).Perm (ms'.map (·.key)) := hp.map _
  rw [h.1, h'.1] at h1
  -- turn back
  have key : ∀ (l : List (List Nat)), (∀ k ∈ l, small k) → l = (l.map fun k => Value.string (strOf k)).map fun v => match v with
      | .string s => s.data.toList.map UInt8.toNat
      | _ => [] := fun l hl => by
    rw [List.map_map]
    conv => lhs; rw [← List.map_id l]
    refine List.map_congr_left fun x hx => ?_
    simp only [id_eq, Function.comp_apply, strOf, List.map_map]
    conv => lhs; rw [← List.map_id x]
    refine List.map_congr_left fun y hy => ?_
    simp [Nat.mod_eq_of_lt (hl x hx y hy)]
  rw [key ks h.2, key ks' h'.2]
  exact h1.map _
end Go.Am
