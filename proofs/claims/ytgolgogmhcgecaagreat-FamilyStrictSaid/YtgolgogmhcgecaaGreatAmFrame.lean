/- A step that is run on part of a heap leaves the rest as it was. -/
import Derived.Test.YtgolgogmhcgecaaGreatAmCode
namespace Go.Am
set_option linter.unusedVariables false
set_option linter.unusedSimpArgs false

section
variable {F : Fr} {w0 w : World} {ρ : Rho} {h : Heap}

/-- The frame of a part of a heap: the rest's blocks are kept; those that may be written are private. -/
def Fr.rest (F : Fr) (ρ : Rho) (h g : Heap) : Fr where
  k b := F.k b ∨ ∃ o x l, h o = some x ∧ g o = none ∧ ρ o = some l ∧ l.b = b
  p b := F.p b ∨ ∃ o x l, h o = some x ∧ g o = none ∧ x.ro = false ∧ ρ o = some l ∧ l.b = b

theorem Sat.part (s : Sat F w0 ρ h w) {g : Heap} (hg : ∀ o x, g o = some x → h o = some x) : Sat (F.rest ρ h g) w ρ g w where
  objs o x hx := s.objs o x (hg o x hx)
  inj o o' x x' l l' a b := s.inj o o' x x' l l' (hg _ _ a) (hg _ _ b)
  low := s.low
  keep b hb := ⟨by
    rcases hb with hb | ⟨o, x, l, h1, h2, h3, rfl⟩
    · exact (s.keep b hb).1
    · exact s.low o l h3, rfl⟩
  off o x l h1 h2 h3 hb := by
    rcases hb with hb | ⟨o', x', l', g1, g2, g3, g4⟩
    · exact s.off o x l (hg _ _ h1) h2 h3 hb
    · have hne : o ≠ o' := by rintro rfl; rw [h1] at g2; cases g2
      have := (s.inj o o' x x' l l' (hg _ _ h1) g1 hne h3 g3 g4.symm).1
      rw [h2] at this; cases this
  plow b hb := by
    rcases hb with hb | ⟨o, x, l, h1, h2, h3, h4, rfl⟩
    · exact s.plow b hb
    · exact s.low o l h4
  priv o x l h1 h3 hb := by
    rcases hb with hb | ⟨o', x', l', g1, g2, g5, g3, g4⟩
    · exact s.priv o x l (hg _ _ h1) h3 hb
    · have hne : o ≠ o' := by rintro rfl; rw [h1] at g2; cases g2
      have := (s.inj o o' x x' l l' (hg _ _ h1) g1 hne h3 g3 g4.symm).2
      rw [g5] at this; cases this
  os := rfl
  tape := rfl
  output := rfl
  size := Nat.le_refl _

theorem Sat.join (s : Sat F w0 ρ h w) {g g' k : Heap} (hg : ∀ o x, g o = some x → h o = some x) {ρ' : Rho} {w' : World} (hs : Sub ρ ρ') (s' : Sat (F.rest ρ h g) w ρ' g' w')
    (hk : ∀ o x, k o = some x → g' o = some x ∨ (h o = some x ∧ g o = none)) : Sat F w0 ρ' k w' where
  objs o x hx := by
    rcases hk o x hx with h1 | ⟨h1, h2⟩
    · exact s'.objs o x h1
    · obtain ⟨l, h3, h4⟩ := s.objs o x h1
      refine ⟨l, hs _ _ h3, ?_⟩
      rw [(s'.keep l.b (.inr ⟨o, x, l, h1, h2, h3, rfl⟩)).2]
      exact h4.mono hs
  inj o o' x x' l l' a b hne hl hl' hb := by
    have old : ∀ {o x l}, h o = some x → ρ' o = some l → ρ o = some l := fun {o x l} h1 h2 => by
      obtain ⟨l0, h3, _⟩ := s.objs o x h1
      have := hs _ _ h3
      rw [h2] at this; injection this with this; rw [this]; exact h3
    have mix : ∀ {o o' x x' l l'}, g' o = some x → h o' = some x' → g o' = none → ρ' o = some l → ρ' o' = some l' → l.b = l'.b → x.ro = true ∧ x'.ro = true := by
      intro o o' x x' l l' a1 b1 b2 hl hl' hb
      have hl0 := old b1 hl'
      constructor
      · cases hr : x.ro with
        | true => rfl
        | false => exact absurd (.inr ⟨o', x', l', b1, b2, hl0, hb.symm⟩) (s'.off o x l a1 hr hl)
      · cases hr : x'.ro with
        | true => rfl
        | false => exact absurd (.inr ⟨o', x', l', b1, b2, hr, hl0, hb.symm⟩) (s'.priv o x l a1 hl)
    rcases hk o x a with a1 | ⟨a1, a2⟩ <;> rcases hk o' x' b with b1 | ⟨b1, b2⟩
    · exact s'.inj o o' x x' l l' a1 b1 hne hl hl' hb
    · exact mix a1 b1 b2 hl hl' hb
    · exact (mix b1 a1 a2 hl' hl hb.symm).symm
    · exact s.inj o o' x x' l l' a1 b1 hne (old a1 hl) (old b1 hl') hb
  low := s'.low
  keep b hb := by
    obtain ⟨h1, h2⟩ := s'.keep b (.inl hb)
    exact ⟨h1, h2.trans (s.keep b hb).2⟩
  off o x l a hr hl hb := by
    rcases hk o x a with a1 | ⟨a1, a2⟩
    · exact s'.off o x l a1 hr hl (.inl hb)
    · obtain ⟨l0, h3, _⟩ := s.objs o x a1
      have := hs _ _ h3
      rw [hl] at this; injection this with this; subst this
      exact s.off o x l a1 hr h3 hb
  plow b hb := s'.plow b (.inl hb)
  priv o x l a hl hb := by
    rcases hk o x a with a1 | ⟨a1, a2⟩
    · exact s'.priv o x l a1 hl (.inl hb)
    · obtain ⟨l0, h3, _⟩ := s.objs o x a1
      have := hs _ _ h3
      rw [hl] at this; injection this with this; subst this
      exact s.priv o x l a1 h3 hb
  os := s'.os.trans s.os
  tape := s'.tape.trans s.tape
  output := s'.output.trans s.output
  size := Nat.le_trans s.size s'.size

/-- The frame of a load: all blocks are kept. -/
def Fr.all (w : World) : Fr where
  k b := b < w.heap.size
  p _ := False

/-- An object that is no more to be written. -/
theorem Sat.froze (s : Sat F w0 ρ h w) {o : Nat} {cs : List AV} {ro : Bool} (ho : h o = some (.cells cs ro)) : Sat (Fr.all w) w ρ (upd (fun _ => none) o (some (.cells cs true))) w where
  objs p x hx := by
    by_cases e : p = o
    · subst e
      rw [upd_same] at hx; injection hx with hx; subst hx
      obtain ⟨l, h1, h2⟩ := s.objs p _ ho
      refine ⟨l, h1, ?_⟩
      cases ro with
      | true => exact h2
      | false =>
        obtain ⟨hb, c, t, fr, g1, g2, g3, g4, _⟩ := h2
        exact ⟨c, t, fr, g1, fun i a ha => by rw [hb, Nat.zero_add]; exact g4 i a ha⟩
    · rw [upd_ne _ _ e] at hx; cases hx
  inj p p' x x' l l' a b hne := by
    by_cases e : p = o
    · by_cases e' : p' = o
      · exact absurd (e.trans e'.symm) hne
      · rw [upd_ne _ _ e'] at b; cases b
    · rw [upd_ne _ _ e] at a; cases a
  low := s.low
  keep b hb := ⟨hb, rfl⟩
  off p x l a hr := by
    by_cases e : p = o
    · subst e
      rw [upd_same] at a; injection a with a; subst a
      cases hr
    · rw [upd_ne _ _ e] at a; cases a
  plow b hb := hb.elim
  priv o x l a hl hb := hb
  os := rfl
  tape := rfl
  output := rfl
  size := Nat.le_refl _

theorem Sat.emptied (s : Sat F w0 ρ h w) : Sat (Fr.all w) w ρ (fun _ => none) w where
  objs p x hx := by cases hx
  inj p p' x x' l l' a := by cases a
  low := s.low
  keep b hb := ⟨hb, rfl⟩
  off p x l a := by cases a
  plow b hb := hb.elim
  priv o x l a hl hb := hb
  os := rfl
  tape := rfl
  output := rfl
  size := Nat.le_refl _

/-- After a load all is as it was. -/
theorem Sat.back (s : Sat F w0 ρ h w) {g : Heap} {ρ' : Rho} {w' : World} (hs : Sub ρ ρ') (s' : Sat (Fr.all w) w ρ' g w') : Sat F w0 ρ' h w' where
  objs o x hx := by
    obtain ⟨l, h1, h2⟩ := s.objs o x hx
    refine ⟨l, hs _ _ h1, ?_⟩
    rw [(s'.keep l.b (s.low o l h1)).2]
    exact h2.mono hs
  inj o o' x x' l l' a b hne hl hl' hb := by
    have old : ∀ {o x l}, h o = some x → ρ' o = some l → ρ o = some l := fun {o x l} h1 h2 => by
      obtain ⟨l0, h3, _⟩ := s.objs o x h1
      have := hs _ _ h3
      rw [h2] at this; injection this with this; rw [this]; exact h3
    exact s.inj o o' x x' l l' a b hne (old a hl) (old b hl') hb
  low := s'.low
  keep b hb := by
    obtain ⟨h1, h2⟩ := s.keep b hb
    obtain ⟨h3, h4⟩ := s'.keep b h1
    exact ⟨h3, h4.trans h2⟩
  off o x l a hr hl hb := by
    obtain ⟨l0, h3, _⟩ := s.objs o x a
    have := hs _ _ h3
    rw [hl] at this; injection this with this; subst this
    exact s.off o x l a hr h3 hb
  plow b hb := Nat.lt_of_lt_of_le (s.plow b hb) s'.size
  priv o x l a hl hb := by
    obtain ⟨l0, h3, _⟩ := s.objs o x a
    have := hs _ _ h3
    rw [hl] at this; injection this with this; subst this
    exact s.priv o x l a h3 hb
  os := s'.os.trans s.os
  tape := s'.tape.trans s.tape
  output := s'.output.trans s.output
  size := Nat.le_trans s.size s'.size
end
end Go.Am
